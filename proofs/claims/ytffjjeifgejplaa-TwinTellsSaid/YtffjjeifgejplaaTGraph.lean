/-
  AMONG THINGS: finding, and which graphs are sound.
-/
import Derived.Test.YtffjjeifgejplaaTThing
set_option linter.unusedSimpArgs false
set_option linter.unusedVariables false
namespace Go.Ab.T
open Go Go.Ab Go.Ab.F

def zeroT : Thing := bareT 0 0 ⟨0, []⟩ 0
def zeroRow : List A := [.s (.int .u64 0), .s (.int .i64 0), .s (.int .i64 0), .s (.slice none 0 0), .s (.int .i64 0), .s (.slice none 0 0), .s (.int .i64 0), .s (.int .i64 0), .s (.slice none 0 0), .s (.slice none 0 0), .s (.int .u64 0), .s (.int .u64 0), .s (.int .u64 0), .s (.int .u64 0), .s (.int .i64 0), .s (.int .i64 0), .s (.bool false), .s (.int .u64 0), .s (.int .u64 0), .s (.int .u64 0), .s (.int .u64 0), .s (.int .u64 0), .s (.int .u64 0), .s (.int .u64 0), .s (.int .u64 0), .s (.int .u64 0)]
theorem zeroRow_len : zeroRow.length = 26 := rfl
theorem zeroRow_drop : List.drop 26 zeroRow = [] := rfl
theorem zeroRow_ids : idsL zeroRow = [] := rfl
theorem zeroRow_at : cellsAt (some 26) zeroRow 0 = some (.agg zeroRow) := rfl
theorem zeroRow_frz (h : Heap) : FrzCells zeroRow h (thingC zeroT) h := by
  have : FrzCells zeroRow h (zeroRow.map normA) h := by
    unfold zeroRow
    repeat (first | exact .nil _ | refine .flat _ _ _ _ _ rfl ?_)
  exact this

def findT (g : List Thing) (id : Int) : Option Thing := g.find? (fun t => t.id == id)

theorem ref13_Find_v (g : List Thing) (id : Int) (hg : g.length < 2 ^ 63) : ref13_Find [mkF 26 (g.map thingC), .s (.int .u64 id)] [] =
    some (.ok (match findT g id with | some t => .tup [.agg (thingC t), .s (.bool true)] | none => .tup [.agg zeroRow, .s (.bool false)]), []) := by
  simp only [ref13_Find]
  rw [show ([A.s (.int .u64 0), .s (.int .i64 0), .s (.int .i64 0), .s (.slice none 0 0), .s (.int .i64 0), .s (.slice none 0 0), .s (.int .i64 0), .s (.int .i64 0), .s (.slice none 0 0), .s (.slice none 0 0), .s (.int .u64 0), .s (.int .u64 0), .s (.int .u64 0), .s (.int .u64 0), .s (.int .i64 0), .s (.int .i64 0), .s (.bool false), .s (.int .u64 0), .s (.int .u64 0), .s (.int .u64 0), .s (.int .u64 0), .s (.int .u64 0), .s (.int .u64 0), .s (.int .u64 0), .s (.int .u64 0), .s (.int .u64 0)]) = zeroRow from rfl]
  simp [zeroRow_len]
  refine ⟨by simp [zeroRow], ?_⟩
  refine Eq.trans (oLoop_find (enc := fun i => ([.s (.int .i64 i)], [Go.Ab.Slot.live ⟨0, 26, [zeroRow]⟩])) (fun t : Thing => t.id == id)
    (fun t => (.ret, [.s (.bool true)], [Go.Ab.Slot.live ⟨0, 26, [thingC t]⟩])) (.exit 0, [.any], [Go.Ab.Slot.live ⟨0, 26, [zeroRow]⟩]) g rfl hg ?_ ?_) ?_
  · intro i t ht hi
    have hw := wrap_succ hi hg
    by_cases h : t.id = id <;> simp [ref13_Find_l1, oIdxA_mkF _ _ _ _ _ _ _ ht, hi, hw, h, trim, allBelow, zeroRow_ids, zeroRow_drop, put_thing, drop_thing, zeroRow_len]
  · simp [ref13_Find_l1, trim, allBelow, zeroRow_ids]
  · unfold findT
    cases g.find? (fun t => t.id == id) with
    | some t => simp [ref13_Find_k2, finish_val]
    | none =>
      simp only [ref13_Find_k2, if_true]
      rw [show ([A.s (.int .u64 0), .s (.int .i64 0), .s (.int .i64 0), .s (.slice none 0 0), .s (.int .i64 0), .s (.slice none 0 0), .s (.int .i64 0), .s (.int .i64 0), .s (.slice none 0 0), .s (.slice none 0 0), .s (.int .u64 0), .s (.int .u64 0), .s (.int .u64 0), .s (.int .u64 0), .s (.int .i64 0), .s (.int .i64 0), .s (.bool false), .s (.int .u64 0), .s (.int .u64 0), .s (.int .u64 0), .s (.int .u64 0), .s (.int .u64 0), .s (.int .u64 0), .s (.int .u64 0), .s (.int .u64 0), .s (.int .u64 0)]) = zeroRow from rfl]
      have hf : fillA zeroRow [] = some zeroRow := rfl
      simp [hf, zeroRow_len, zeroRow_at, zeroRow_ids, zeroRow_drop, finish_val]

theorem Find_call (g : List Thing) (id : Int) (hg : g.length < 2 ^ 63) {β : Type} (h : Heap) (kp k : A → Heap → Option β) :
    (oLend ref13_Find [mkF 26 (g.map thingC), .s (.int .u64 id)] h kp fun w h' => oFrz w h' k) = k (.tup [.agg (thingC ((findT g id).getD zeroT)), .s (.bool (findT g id).isSome)]) h := by
  have hv := ref13_Find_v g id hg
  cases hf : findT g id with
  | some t =>
    rw [hf] at hv
    rw [oLend_val _ _ _ _ _ _ (by simp) (by simp) hv]
    simp
  | none =>
    rw [hf] at hv
    rw [oLend_val _ _ _ _ _ _ (by simp) (by simp [zeroRow_ids]) hv]
    exact oFrz_tup (zeroRow_frz h) (by simp [zeroRow, notSlice]) (by simp [zeroRow]) [.s (.bool false)] (by simp) k

/-- The names, as keys. -/
def keyL (g : List Thing) : List Link := g.map fun t => ⟨t.id, 0⟩
theorem keyL_get (g : List Thing) (i : Nat) : (keyL g)[i]? = (g[i]?).map fun t => ⟨t.id, 0⟩ := by simp [keyL]

theorem ref13_Graph_v (g : List Thing) (hg : g.length < 2 ^ 62) : ∃ b : Bool, ref13_Graph [mkF 26 (g.map thingC)] [] = some (.ok (.s (.bool b)), []) ∧ (b = true → sortedL (keyL g)) := by
  simp only [ref13_Graph]
  obtain ⟨q, hQ, hq⟩ := oLoop_inv' (step := ref13_Graph_l1 (mkF 26 (g.map thingC)) []) (s0 := ([.s (.int .i64 1)], []))
    (fun i s => s = ([.s (.int .i64 (i + 1 : Nat))], []) ∧ ∀ (m : Nat) a b, m < i → g[m]? = some a → g[m + 1]? = some b → a.id < b.id)
    (fun q => q = (.ret, [.s (.bool false)], []) ∨ q = (.exit 0, [.any], []) ∧ sortedL (keyL g)) (g.length - 1) ⟨rfl, fun m a b hm => by omega⟩ (by omega)
    (by
      rintro i s hi ⟨rfl, hs⟩
      have hx : g[i]? = some g[i] := List.getElem?_eq_getElem (by omega)
      have hy : g[i + 1]? = some g[i + 1] := List.getElem?_eq_getElem (by omega)
      generalize g[i] = x at hx
      generalize g[i + 1] = y at hy
      have hw : IntKind.i64.wrap (((i + 1 : Nat) : Int) + 1) = ((i + 1 + 1 : Nat) : Int) := by rw [wrap64_id (by omega) (by omega)]; simp
      have hw2 : IntKind.i64.wrap (((i + 1 : Nat) : Int) - 1) = ((i : Nat) : Int) := by rw [wrap64_id (by omega) (by omega)]; simp
      have hlt : ((i + 1 : Nat) : Int) < (g.length : Int) := by omega
      have i1 : ∀ (β : Type) (k : A → Option β), oIdxA 26 (mkF 26 (g.map thingC)) (.s (.int .i64 ((i + 1 : Nat) : Int))) k = k (.cptr (thingC y)) := fun β k => oIdxA_mkF 26 thingC g .i64 (i + 1) y k hy
      have i2 : ∀ (β : Type) (k : A → Option β), oIdxA 26 (mkF 26 (g.map thingC)) (.s (.int .i64 ((i : Nat) : Int))) k = k (.cptr (thingC x)) := fun β k => oIdxA_mkF 26 thingC g .i64 i x k hx
      generalize ((i + 1 : Nat) : Int) = j at hw hw2 hlt i1
      by_cases hc : y.id ≤ x.id
      · right
        exact ⟨_, by simp [ref13_Graph_l1, hlt, i1, i2, hw, hw2, hc, trim, allBelow, oLoadD], .inl rfl⟩
      · left
        refine ⟨([.s (.int .i64 (i + 1 + 1 : Nat))], []), by simp only [ref13_Graph_l1, oLen_mkF, List.length_map, List.getD_cons_zero, oCmp_s, cmpInt_lss, if_true, oCond_s, hlt, decide_true]; simp [i1, i2, hw, hw2, hc, trim, allBelow, oLoadD], rfl, fun m a b hm ha hb => ?_⟩
        rcases Nat.lt_or_ge m i with h | h
        · exact hs m a b h ha hb
        · obtain rfl : m = i := by omega
          rw [hx] at ha; rw [hy] at hb; cases ha; cases hb; omega)
    (by
      rintro s ⟨rfl, hs⟩
      have hge : ¬ (((g.length - 1 + 1 : Nat) : Int) < (g.length : Int)) := by omega
      refine ⟨(.exit 0, [.any], []), ?_, .inr ⟨rfl, fun i a b ha hb => ?_⟩⟩
      · simp only [ref13_Graph_l1, oLen_mkF, List.length_map, List.getD_cons_zero, oCmp_s, cmpInt_lss, if_true, oCond_s, hge, decide_false]
        simp [trim, allBelow]
      · rw [keyL_get] at ha hb
        simp only [Option.map_eq_some_iff] at ha hb
        obtain ⟨a', ha, rfl⟩ := ha
        obtain ⟨b', hb, rfl⟩ := hb
        exact hs i a' b' (by have := (List.getElem?_eq_some_iff.1 hb).1; omega) ha hb)
  rw [hq]
  rcases hQ with rfl | ⟨rfl, hs⟩
  · exact ⟨false, by simp [ref13_Graph_k2, finish_val], by simp⟩
  · exact ⟨true, by simp [ref13_Graph_k2, finish_val], fun _ => hs⟩

/-- Things whose lists are not too long. -/
def okG (g : List Thing) : Prop := g.length < 2 ^ 62 ∧ ∀ t ∈ g, okT1 t ∧ t.data.length < 2 ^ 63 ∧ 0 ≤ t.id ∧ t.id < 18446744073709551616

theorem ref13_Refs_v (g : List Thing) (id : Int) (ok : okG g) : ∃ n : Int, ref13_Refs [mkF 26 (g.map thingC), .s (.int .u64 id)] [] = some (.ok (.s (.int .i64 n)), []) := by
  obtain ⟨hg, ok⟩ := ok
  simp [ref13_Refs]
  obtain ⟨q, ⟨n, rfl⟩, hq⟩ := oLoop_inv' (step := ref13_Refs_l2 (.s (.int .i64 g.length)) (mkF 26 (g.map thingC)) (.s (.int .u64 id)) []) (s0 := ([.s (.int .i64 0), .s (.int .i64 0)], []))
    (fun i s => ∃ n : Int, s = ([.s (.int .i64 n), .s (.int .i64 i)], [])) (fun q => ∃ n : Int, q = (.exit 0, [.s (.int .i64 n)], [])) g.length ⟨0, rfl⟩ (by omega)
    (by
      rintro i s hi ⟨n, rfl⟩
      left
      have hx : g[i]? = some g[i] := List.getElem?_eq_getElem hi
      have hm := List.mem_of_getElem? hx
      generalize g[i] = x at hx hm
      have hw := wrap_succ hi (by omega)
      have hH : ∀ (β : Type) (h : Heap) (kp k : A → Heap → Option β), oLend ref12_Has [.agg (thingC x), .s (.int .u64 id)] h kp k = k (.s (.bool (has x.links id))) h := fun β h kp k => oLend_val _ _ _ _ _ _ (by simp) (by simp) (ref12_Has_v x id (ok x hm).1.links)
      cases hb : has x.links id with
      | true => exact ⟨_, by simp [ref13_Refs_l2, ref13_Refs_k1, hi, oIdxA_mkF _ _ _ _ _ _ _ hx, hH, hb, hw, trim, allBelow, drop_thing, put_thing]; rfl, _, by simp; rfl⟩
      | false => exact ⟨_, by simp [ref13_Refs_l2, ref13_Refs_k1, hi, oIdxA_mkF _ _ _ _ _ _ _ hx, hH, hb, hw, trim, allBelow, drop_thing, put_thing]; rfl, _, by simp; rfl⟩)
    (by
      rintro s ⟨n, rfl⟩
      exact ⟨_, by simp [ref13_Refs_l2, trim, allBelow], n, rfl⟩)
  exact ⟨n, by rw [hq]; simp [ref13_Refs_k3, finish_val]⟩

theorem renRow_ids (f : Nat → Option Nat) (l : List Int) : renRows f (l.map (cellC .u64)) = some (l.map (cellC .u64)) := renRows_map f _ (fun x => by simp [cellC]) l
theorem ids_rows (l : List Int) : idsRows (l.map (cellC .u64)) = [] := idsRows_map _ (cellC_ids .u64) l
theorem ids_pure (l : List Int) : pureRows (l.map (cellC .u64)) = true := pureRows_map _ (fun x => by simp) l

theorem Above_zero (fuel : Nat) : ref13_Above (fuel + 1) [.s (.int .u64 0)] [] = some (.ok (.osl 0 0 1 0 0), [.live ⟨0, 1, []⟩]) := by
  have hf := finish_own 0 0 1 0 [] [.live ⟨0, 1, []⟩] rfl rfl (fun f => rfl)
  simp [ref13_Above, ref13_Above_step, hf]
theorem ref13_Above_v : ∀ (k fuel : Nat) (x : Int), k < fuel → k < 100 → 0 ≤ x → x < 64 ^ k → ∃ (l : List Int) (ver : Nat), l.length ≤ k ∧ ref13_Above fuel [.s (.int .u64 x)] [] = some (.ok (.osl 0 ver 1 0 l.length), [.live ⟨ver, 1, l.map (cellC .u64)⟩]) := by
  intro k
  induction k with
  | zero =>
    intro fuel x hf _ h0 h1
    obtain ⟨fuel, rfl⟩ : ∃ m, fuel = m + 1 := ⟨fuel - 1, by omega⟩
    obtain rfl : x = 0 := by simp at h1; omega
    exact ⟨[], 0, by simp, Above_zero fuel⟩
  | succ k ih =>
    intro fuel x hf hk h0 h1
    obtain ⟨fuel, rfl⟩ : ∃ m, fuel = m + 1 := ⟨fuel - 1, by omega⟩
    by_cases hx : x = 0
    · subst hx; exact ⟨[], 0, by simp, Above_zero fuel⟩
    · have hb : x < 18446744073709551616 ∨ True := .inr trivial
      obtain ⟨l, ver, hl, hF⟩ := ih fuel (IntKind.u64.wrap (x.tdiv 64)) (by omega) (by omega) (by
        have : IntKind.u64.wrap (x.tdiv 64) = (x.tdiv 64) % 18446744073709551616 := by simp [IntKind.wrap, IntKind.bits, IntKind.signed]
        rw [this]; omega) (by
        have e : IntKind.u64.wrap (x.tdiv 64) = (x.tdiv 64) % 18446744073709551616 := by simp [IntKind.wrap, IntKind.bits, IntKind.signed]
        have e2 : x.tdiv 64 = x / 64 := Int.tdiv_eq_ediv_of_nonneg h0
        rw [e, e2]
        have e3 : x / 64 < 64 ^ k := by rw [Int.pow_succ] at h1; omega
        have e4 : (x / 64) % 18446744073709551616 ≤ x / 64 := by omega
        omega)
      have hC : ∀ {β : Type} (h : Heap) (kp k : A → Heap → Option β), oLend (ref13_Above fuel) [.s (.int .u64 (IntKind.u64.wrap (x.tdiv 64)))] h kp k = k (.osl h.length ver 1 0 l.length) (h ++ [.live ⟨ver, 1, l.map (cellC .u64)⟩]) := fun h kp k =>
        oLend_own _ _ _ h kp k ver 1 l.length _ (by simp) (lendL_pure _ _ _ (by simp)) (fun f => renRow_ids f l) hF
      have hZ : ∀ {β : Type} (k : A → Heap → Option β), oFrz (.osl 1 ver 1 0 l.length) [.live ⟨0, 1, [[.s (.int .u64 x)]]⟩, .live ⟨ver, 1, l.map (cellC .u64)⟩] k = k (mkF 1 (l.map (cellC .u64))) [.live ⟨0, 1, [[.s (.int .u64 x)]]⟩, .dead] := fun k =>
        (oFrz_own _ 1 ver 1 l.length _ k (by simp) (by simp) (ids_pure l)).trans (by simp)
      have hap : appendOk (1 + l.length) 8 := by constructor <;> omega
      refine ⟨x :: l, 1, by simp; omega, ?_⟩
      have hfin := finish_own 0 1 1 (x :: l).length ((x :: l).map (cellC .u64)) [.live ⟨1, 1, (x :: l).map (cellC .u64)⟩, .dead] rfl (ids_rows _) (fun f => renRow_ids f _)
      have hq : ¬ (64 : Int) = 0 := by decide
      simp only [ref13_Above, ref13_Above_step, oCmp_s, cmpInt_eql, if_true, oCond_s, hx, decide_false, Bool.false_eq_true, if_false, oNewSlice_eq, asRows_cons, asRows_nil]
      simp [hC, hZ, oAppend_osl, hap]
      have e : [A.s (.int .u64 x)] :: l.map (cellC .u64) = (x :: l).map (cellC .u64) := rfl
      rw [e, show 1 + l.length = (x :: l).length by simp; omega]
      exact hfin

theorem Given_inner (t : Thing) (l : List Int) (id n0 : Int) (hl : l.length < 2 ^ 62) : ∃ n : Int, ∀ {β : Type} (k : Ex → List A → Heap → Option β),
    oLoop (ref13_Given_l3 (.s (.int .i64 l.length)) (mkF 1 (l.map (cellC .u64))) (.s (.int .u64 id)) [.live ⟨0, 26, [thingC t]⟩, .dead]) ([.s (.int .i64 n0), .s (.int .i64 0)], [.live ⟨0, 26, [thingC t]⟩, .dead]) k = k (.exit 2) [.s (.int .i64 n)] [.live ⟨0, 26, [thingC t]⟩, .dead] := by
  obtain ⟨q, ⟨n, rfl⟩, hq⟩ := oLoop_inv' (step := ref13_Given_l3 (.s (.int .i64 l.length)) (mkF 1 (l.map (cellC .u64))) (.s (.int .u64 id)) [.live ⟨0, 26, [thingC t]⟩, .dead]) (s0 := ([.s (.int .i64 n0), .s (.int .i64 0)], [.live ⟨0, 26, [thingC t]⟩, .dead]))
    (fun i s => ∃ n : Int, s = ([.s (.int .i64 n), .s (.int .i64 i)], [.live ⟨0, 26, [thingC t]⟩, .dead])) (fun q => ∃ n : Int, q = (.exit 2, [.s (.int .i64 n)], [.live ⟨0, 26, [thingC t]⟩, .dead])) l.length ⟨n0, rfl⟩ (by omega)
    (by
      rintro i s hi ⟨n, rfl⟩
      left
      have hx : l[i]? = some l[i] := List.getElem?_eq_getElem hi
      generalize l[i] = x at hx
      have hw := wrap_succ hi (by omega)
      by_cases c1 : IntKind.u64.wrap (x.tdiv 64) = id
      · by_cases c2 : n < IntKind.i64.wrap (x.tmod 64)
        · exact ⟨_, by simp [ref13_Given_l3, ref13_Given_k1, ref13_Given_k2, hi, oIdxA_mkF _ _ _ _ _ _ _ hx, c1, c2, hw, trim, allBelow]; rfl, _, by simp; rfl⟩
        · exact ⟨_, by simp [ref13_Given_l3, ref13_Given_k1, ref13_Given_k2, hi, oIdxA_mkF _ _ _ _ _ _ _ hx, c1, c2, hw, trim, allBelow]; rfl, _, by simp; rfl⟩
      · exact ⟨_, by simp [ref13_Given_l3, ref13_Given_k1, ref13_Given_k2, hi, oIdxA_mkF _ _ _ _ _ _ _ hx, c1, hw, trim, allBelow]; rfl, _, by simp; rfl⟩)
    (by
      rintro s ⟨n, rfl⟩
      exact ⟨_, by simp [ref13_Given_l3, trim, allBelow], n, rfl⟩)
  exact ⟨n, fun k => hq k⟩

theorem ref13_Given_v (g : List Thing) (id : Int) (ok : okG g) : ∃ n : Int, ref13_Given [mkF 26 (g.map thingC), .s (.int .u64 id)] [] = some (.ok (.s (.int .i64 n)), []) := by
  obtain ⟨hg, ok⟩ := ok
  simp only [ref13_Given]
  simp
  obtain ⟨q, ⟨n, rfl⟩, hq⟩ := oLoop_inv' (step := ref13_Given_l5 (.s (.int .i64 g.length)) (mkF 26 (g.map thingC)) (.s (.int .u64 id)) []) (s0 := ([.s (.int .i64 0), .s (.int .i64 0)], []))
    (fun i s => ∃ n : Int, s = ([.s (.int .i64 n), .s (.int .i64 i)], [])) (fun q => ∃ n : Int, q = (.exit 0, [.s (.int .i64 n)], [])) g.length ⟨0, rfl⟩ (by omega)
    (by
      rintro i s hi ⟨n, rfl⟩
      left
      have hx : g[i]? = some g[i] := List.getElem?_eq_getElem hi
      have hm := List.mem_of_getElem? hx
      generalize g[i] = x at hx hm
      obtain ⟨_, _, id0, id1⟩ := ok x hm
      have hw := wrap_succ hi (by omega)
      obtain ⟨l, ver, hl, hA⟩ := ref13_Above_v 11 big x.id (by rw [big_eq]; omega) (by omega) id0 (by omega)
      have hC : ∀ {β : Type} (h : Heap) (kp k : A → Heap → Option β), oLend (ref13_Above big) [.s (.int .u64 x.id)] h kp k = k (.osl h.length ver 1 0 l.length) (h ++ [.live ⟨ver, 1, l.map (cellC .u64)⟩]) := fun h kp k =>
        oLend_own _ _ _ h kp k ver 1 l.length _ (by simp) (lendL_pure _ _ _ (by simp)) (fun f => renRow_ids f l) hA
      have hZ : ∀ {β : Type} (k : A → Heap → Option β), oFrz (.osl 1 ver 1 0 l.length) [.live ⟨0, 26, [thingC x]⟩, .live ⟨ver, 1, l.map (cellC .u64)⟩] k = k (mkF 1 (l.map (cellC .u64))) [.live ⟨0, 26, [thingC x]⟩, .dead] := fun k =>
        (oFrz_own _ 1 ver 1 l.length _ k (by simp) (by simp) (ids_pure l)).trans (by simp)
      obtain ⟨m, hI⟩ := Given_inner x l id n (by omega)
      exact ⟨_, by simp [ref13_Given_l5, ref13_Given_k4, hi, oIdxA_mkF _ _ _ _ _ _ _ hx, hC, hZ, hI, hw, trim, allBelow, drop_thing, put_thing]; rfl, _, by simp; rfl⟩)
    (by
      rintro s ⟨n, rfl⟩
      exact ⟨_, by simp [ref13_Given_l5, trim, allBelow], n, rfl⟩)
  exact ⟨n, by rw [hq]; simp [ref13_Given_k6, finish_val]⟩

theorem ref13_Fits_v (g : List Thing) (d : Thing) (l : Link) (hg : g.length < 2 ^ 63) : ∃ b : Bool, ref13_Fits [mkF 26 (g.map thingC), .agg (thingC d), .agg (linkC l)] [] = some (.ok (.s (.bool b)), []) := by
  have hF : ∀ (β : Type) (h : Heap) (kp k : A → Heap → Option β), (oLend ref13_Find [mkF 26 (g.map thingC), .s (.int .u64 l.id)] h kp fun w h' => oFrz w h' k) = k (.tup [.agg (thingC ((findT g l.id).getD zeroT)), .s (.bool (findT g l.id).isSome)]) h := fun β h kp k => Find_call g l.id hg h kp k
  generalize (findT g l.id).getD zeroT = t at hF
  generalize (findT g l.id).isSome = b at hF
  cases b with
  | false => exact ⟨false, by simp [ref13_Fits, ref13_Fits_k1, hF, trim, allBelow, drop_thing, put_thing, finish_val]⟩
  | true =>
    by_cases c1 : t.quota = l.quota
    · by_cases c2 : t.kind = 1
      · exact ⟨_, by simp [ref13_Fits, ref13_Fits_k1, hF, c1, c2, trim, allBelow, drop_thing, put_thing, finish_val]; rfl⟩
      · exact ⟨true, by simp [ref13_Fits, ref13_Fits_k1, hF, c1, c2, trim, allBelow, drop_thing, put_thing, finish_val]⟩
    · exact ⟨false, by simp [ref13_Fits, ref13_Fits_k1, hF, c1, trim, allBelow, drop_thing, put_thing, finish_val]⟩

/-- The links of one thing. -/
theorem Sound_links (g : List Thing) (t : Thing) (ok1 : okT1 t) (hg : g.length < 2 ^ 63) : ∃ q : Ex × List A × Heap, (q = (.ret, [.s (.bool false)], [.live ⟨0, 26, [thingC t]⟩]) ∨ q = (.exit 2, [.any], [.live ⟨0, 26, [thingC t]⟩])) ∧
    ∀ {β : Type} (k : Ex → List A → Heap → Option β), oLoop (ref13_Sound_l1 (.s (.int .i64 t.links.length)) (mkF 2 (t.links.map linkC)) (.ptr 0 0 0 0) (mkF 26 (g.map thingC)) [.live ⟨0, 26, [thingC t]⟩]) ([.s (.int .i64 0)], [.live ⟨0, 26, [thingC t]⟩]) k = k q.1 q.2.1 q.2.2 := by
  refine oLoop_inv' (fun i s => s = ([.s (.int .i64 i)], [.live ⟨0, 26, [thingC t]⟩])) (fun q => q = (.ret, [.s (.bool false)], [.live ⟨0, 26, [thingC t]⟩]) ∨ q = (.exit 2, [.any], [.live ⟨0, 26, [thingC t]⟩])) t.links.length rfl ok1.links ?_ ?_
  · rintro i s hi rfl
    have hx : t.links[i]? = some t.links[i] := List.getElem?_eq_getElem hi
    generalize t.links[i] = x at hx
    have hw := wrap_succ hi ok1.links
    obtain ⟨b, hb⟩ := ref13_Fits_v g t x hg
    have hF : ∀ (β : Type) (h : Heap) (kp k : A → Heap → Option β), oLend ref13_Fits [mkF 26 (g.map thingC), .agg (thingC t), .agg (linkC x)] h kp k = k (.s (.bool b)) h := fun β h kp k => oLend_val _ _ _ _ _ _ (by simp) (by simp) hb
    have hput : putCells [A.s (.int .u64 0), .s (.int .i64 0)] 0 (linkC x) = linkC x := rfl
    have hput2 : linkC x ++ List.drop 2 [A.s (.int .u64 0), .s (.int .i64 0)] = linkC x := by simp
    cases b with
    | true => exact .inl ⟨([.s (.int .i64 (i + 1 : Nat))], [.live ⟨0, 26, [thingC t]⟩]), by simp [ref13_Sound_l1, hi, oIdxA_mkF _ _ _ _ _ _ _ hx, hF, hw, hput, trim, allBelow], rfl⟩
    | false => exact .inr ⟨(.ret, [.s (.bool false)], [.live ⟨0, 26, [thingC t]⟩]), by simp [ref13_Sound_l1, hi, oIdxA_mkF _ _ _ _ _ _ _ hx, hF, hw, hput, trim, allBelow], .inl rfl⟩
  · rintro s rfl
    exact ⟨_, by simp [ref13_Sound_l1, trim, allBelow], .inr rfl⟩

theorem Refs_call (g : List Thing) (ok : okG g) (id : Int) : ∃ n : Int, ∀ {β : Type} (h : Heap) (kp k : A → Heap → Option β), oLend ref13_Refs [mkF 26 (g.map thingC), .s (.int .u64 id)] h kp k = k (.s (.int .i64 n)) h := by
  obtain ⟨n, hn⟩ := ref13_Refs_v g id ok
  exact ⟨n, fun h kp k => oLend_val _ _ _ _ _ _ (by simp) (by simp) hn⟩

/-- A thing that can be, with its links. -/
theorem Sound_rest (g : List Thing) (ok : okG g) (t : Thing) (hm : t ∈ g) (i : Nat) (hi : i < g.length) :
    ref13_Sound_k4 [] (.ptr 0 0 0 0) (mkF 26 (g.map thingC)) ([.s (.int .i64 i)], []) .normal [.s (.bool false)] [.live ⟨0, 26, [thingC t]⟩] = some (.inl ([.s (.int .i64 (i + 1 : Nat))], [])) ∨
    ref13_Sound_k4 [] (.ptr 0 0 0 0) (mkF 26 (g.map thingC)) ([.s (.int .i64 i)], []) .normal [.s (.bool false)] [.live ⟨0, 26, [thingC t]⟩] = some (.inr (.ret, [.s (.bool false)], [])) := by
  obtain ⟨hg, okA⟩ := ok
  obtain ⟨ok1, okd, id0, id1⟩ := okA t hm
  have hw := wrap_succ hi (by omega)
  obtain ⟨v, hv⟩ := ref13_Given_v g t.id ⟨hg, okA⟩
  have hG : ∀ (β : Type) (n0 : Nat) (wr : List Nat) (h : Heap) (k : A → Heap → Option β), oCallF n0 wr ref13_Given [mkF 26 (g.map thingC), .s (.int .u64 t.id)] h k = k (.s (.int .i64 v)) h := fun β n0 wr h k => oCallF_val _ _ _ _ _ _ _ (by simp) (by simp) hv
  obtain ⟨q, hQ, hq⟩ := Sound_links g t ok1 (by omega)
  have hrun : ref13_Sound_k4 [] (.ptr 0 0 0 0) (mkF 26 (g.map thingC)) ([.s (.int .i64 i)], []) .normal [.s (.bool false)] [.live ⟨0, 26, [thingC t]⟩] =
      oLoop (ref13_Sound_l1 (.s (.int .i64 t.links.length)) (mkF 2 (t.links.map linkC)) (.ptr 0 0 0 0) (mkF 26 (g.map thingC)) [.live ⟨0, 26, [thingC t]⟩]) ([.s (.int .i64 0)], [.live ⟨0, 26, [thingC t]⟩]) (ref13_Sound_k3 (.ptr 0 0 0 0) (mkF 26 (g.map thingC)) [] ([.s (.int .i64 i)], [])) := by
    simp [ref13_Sound_k4]
  rw [hrun, hq]
  rcases hQ with rfl | rfl
  · right; simp [ref13_Sound_k3, trim, allBelow]
  · by_cases c1 : t.kind = 1
    · by_cases c2 : t.next < v
      · right; simp [ref13_Sound_k3, ref13_Sound_k2, c1, c2, hG, oLoadD, trim, allBelow]
      · left; simp [ref13_Sound_k3, ref13_Sound_k2, c1, c2, hG, hw, oLoadD, trim, allBelow]
    · left; simp [ref13_Sound_k3, ref13_Sound_k2, c1, hw, oLoadD, trim, allBelow]

/-- One thing of a graph. -/
theorem Sound_step (g : List Thing) (ok : okG g) (i : Nat) (hi : i < g.length) :
    (ref13_Sound_l5 (.s (.int .i64 g.length)) (mkF 26 (g.map thingC)) [] ([.s (.int .i64 i)], []) = some (.inl ([.s (.int .i64 (i + 1 : Nat))], [])) ∧ okT g[i]) ∨
    ref13_Sound_l5 (.s (.int .i64 g.length)) (mkF 26 (g.map thingC)) [] ([.s (.int .i64 i)], []) = some (.inr (.ret, [.s (.bool false)], [])) := by
  have hx : g[i]? = some g[i] := List.getElem?_eq_getElem hi
  have hm := List.mem_of_getElem? hx
  generalize g[i] = t at hx hm
  have hrest := Sound_rest g ok t hm i hi
  obtain ⟨hg, okA⟩ := ok
  obtain ⟨ok1, okd, id0, id1⟩ := okA t hm
  have hw := wrap_succ hi (by omega)
  obtain ⟨n, hR⟩ := Refs_call g ⟨hg, okA⟩ t.id
  have hR' : ∀ (β : Type) (h : Heap) (kp k : A → Heap → Option β), oLend ref13_Refs [mkF 26 (g.map thingC), .s (.int .u64 t.id)] h kp k = k (.s (.int .i64 n)) h := fun β h kp k => hR h kp k
  obtain ⟨b, hb, hT⟩ := Right_v t ok1 okd
  have hRt : ∀ (β : Type) (h : Heap) (kp k : A → Heap → Option β), oLend ref11_Right [.agg (thingC t)] h kp k = k (.s (.bool b)) h := fun β h kp k => oLend_val _ _ _ _ _ _ (by simp) (by simp) hb
  have hbad : ref13_Sound_k4 [] (.ptr 0 0 0 0) (mkF 26 (g.map thingC)) ([.s (.int .i64 i)], []) .normal [.s (.bool true)] [.live ⟨0, 26, [thingC t]⟩] = some (.inr (.ret, [.s (.bool false)], [])) := by
    simp [ref13_Sound_k4, trim, allBelow]
  have main : ref13_Sound_l5 (.s (.int .i64 g.length)) (mkF 26 (g.map thingC)) [] ([.s (.int .i64 i)], []) = ref13_Sound_k4 [] (.ptr 0 0 0 0) (mkF 26 (g.map thingC)) ([.s (.int .i64 i)], []) .normal [.s (.bool (!b || ((decide (0 < i) && decide (n < 1)) || (decide (t.kind = 1) && decide (1 < n)))))] [.live ⟨0, 26, [thingC t]⟩] := by
    cases b with
    | false => simp [ref13_Sound_l5, hi, oIdxA_mkF _ _ _ _ _ _ _ hx, hR', hRt, trim, allBelow, drop_thing, put_thing]
    | true =>
      by_cases c0 : 0 < i
      · by_cases c1 : n < 1
        · simp [ref13_Sound_l5, hi, oIdxA_mkF _ _ _ _ _ _ _ hx, hR', hRt, c0, c1, trim, allBelow, drop_thing, put_thing]
        · by_cases c2 : t.kind = 1 <;> simp [ref13_Sound_l5, hi, oIdxA_mkF _ _ _ _ _ _ _ hx, hR', hRt, c0, c1, c2, trim, allBelow, drop_thing, put_thing]
      · by_cases c2 : t.kind = 1 <;> simp [ref13_Sound_l5, hi, oIdxA_mkF _ _ _ _ _ _ _ hx, hR', hRt, c0, c2, trim, allBelow, drop_thing, put_thing]
  rw [main]
  generalize hbb : (!b || ((decide (0 < i) && decide (n < 1)) || (decide (t.kind = 1) && decide (1 < n)))) = bb
  cases bb with
  | true => exact .inr hbad
  | false =>
    have hbt : b = true := by cases b <;> simp_all
    rcases hrest with h | h
    · exact .inl ⟨h, hT hbt⟩
    · exact .inr h

/-- The loop over all things. -/
theorem Sound_tail (g : List Thing) (ok : okG g) : ∃ b : Bool, ref13_Sound_k7 [] (mkF 26 (g.map thingC)) .normal [.s (.bool false)] [] = some (.ok (.s (.bool b)), []) ∧ (b = true → ∀ t ∈ g, okT t) := by
  have hg := ok.1
  simp [ref13_Sound_k7]
  obtain ⟨q, hQ, hq⟩ := oLoop_inv' (step := ref13_Sound_l5 (.s (.int .i64 g.length)) (mkF 26 (g.map thingC)) []) (s0 := ([.s (.int .i64 0)], []))
    (fun i s => s = ([.s (.int .i64 i)], []) ∧ ∀ (j : Nat) t, j < i → g[j]? = some t → okT t) (fun q => q = (.ret, [.s (.bool false)], []) ∨ q = (.exit 0, [.any], []) ∧ ∀ t ∈ g, okT t) g.length ⟨rfl, fun j t hj => by omega⟩ (by omega)
    (by
      rintro i s hi ⟨rfl, hT⟩
      rcases Sound_step g ok i hi with ⟨h1, h2⟩ | h
      · refine .inl ⟨_, h1, rfl, fun j t hj ht => ?_⟩
        rcases Nat.lt_or_ge j i with h | h
        · exact hT j t h ht
        · obtain rfl : j = i := by omega
          rw [List.getElem?_eq_getElem hi] at ht; cases ht; exact h2
      · exact .inr ⟨_, h, .inl rfl⟩)
    (by
      rintro s ⟨rfl, hT⟩
      refine ⟨(.exit 0, [.any], []), by simp [ref13_Sound_l5, trim, allBelow], .inr ⟨rfl, fun t ht => ?_⟩⟩
      obtain ⟨j, hj, rfl⟩ := List.mem_iff_getElem.1 ht
      exact hT j _ hj (List.getElem?_eq_getElem hj))
  rw [hq]
  rcases hQ with rfl | ⟨rfl, hT⟩
  · exact .inl (by simp [ref13_Sound_k6, finish_val])
  · exact .inr ⟨by simp [ref13_Sound_k6, finish_val], hT⟩

/-- Sound graphs: their names rise, and each thing can be. -/
theorem Sound_v (g : List Thing) (ok : okG g) : ∃ b : Bool, ref13_Sound [mkF 26 (g.map thingC)] [] = some (.ok (.s (.bool b)), []) ∧ (b = true → sortedL (keyL g) ∧ ∀ t ∈ g, okT t) := by
  have hg := ok.1
  obtain ⟨b, hb, hs⟩ := ref13_Graph_v g hg
  have hGr : ∀ (β : Type) (h : Heap) (kp k : A → Heap → Option β), oLend ref13_Graph [mkF 26 (g.map thingC)] h kp k = k (.s (.bool b)) h := fun β h kp k => oLend_val _ _ _ _ _ _ (by simp) (by simp) hb
  have bad : ref13_Sound_k7 [] (mkF 26 (g.map thingC)) .normal [.s (.bool true)] [] = some (.ok (.s (.bool false)), []) := by simp [ref13_Sound_k7, finish_val]
  obtain ⟨bt, hbt, hT⟩ := Sound_tail g ok
  cases b with
  | false => exact ⟨false, by simp [ref13_Sound, hGr, trim, allBelow, bad], by simp⟩
  | true =>
    cases hgl : g with
    | nil => subst hgl; exact ⟨false, by simp at hGr bad; simp [ref13_Sound, hGr, trim, allBelow, bad], by simp⟩
    | cons t r =>
      rw [← hgl]
      have hx : g[0]? = some t := by rw [hgl]; rfl
      have i0 : ∀ (β : Type) (k : A → Option β), oIdxA 26 (mkF 26 (g.map thingC)) (.s (.int .i64 0)) k = k (.cptr (thingC t)) := fun β k => oIdxA_mkF 26 thingC g .i64 0 t k hx
      have hne : ¬ g = [] := by rw [hgl]; simp
      obtain ⟨n, hR⟩ := Refs_call g ok 1
      have hR' : ∀ (β : Type) (h : Heap) (kp k : A → Heap → Option β), oLend ref13_Refs [mkF 26 (g.map thingC), .s (.int .u64 1)] h kp k = k (.s (.int .i64 n)) h := fun β h kp k => hR h kp k
      have hlen : ¬ (g.length : Int) = 0 := by rw [hgl]; simp; omega
      by_cases c1 : t.id = 1
      · by_cases c2 : t.kind = 1
        · by_cases c3 : 0 < n
          · exact ⟨false, by simp [ref13_Sound, hGr, i0, hR', hlen, hne, c1, c2, c3, trim, allBelow, bad], by simp⟩
          · refine ⟨bt, ?_, fun h => ⟨hs rfl, hT h⟩⟩
            simp [ref13_Sound, hGr, i0, hR', hlen, hne, c1, c2, c3, trim, allBelow, hbt]
        · exact ⟨false, by simp [ref13_Sound, hGr, i0, hR', hlen, hne, c1, c2, trim, allBelow, bad], by simp⟩
      · exact ⟨false, by simp [ref13_Sound, hGr, i0, hR', hlen, hne, c1, trim, allBelow, bad], by simp⟩
end Go.Ab.T
