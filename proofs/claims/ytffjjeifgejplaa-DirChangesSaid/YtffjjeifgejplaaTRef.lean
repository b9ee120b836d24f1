/-
  THE DOCUMENT'S DIRECTORIES THAT CHANGE: ref12.Add, Drop, Born; copies.
-/
import Derived.Test.YtffjjeifgejplaaTDirs
set_option linter.unusedSimpArgs false
set_option linter.unusedVariables false
namespace Go.Ab.T
open Go Go.Ab Go.Ab.F

/-- The first cells are the thing's, the list of links is an object. -/
def refRow (t : Thing) (c vc nl : Nat) : List A := [.s (.int .u64 t.id), .s (.int .i64 t.kind), .s (.int .i64 t.label.df), mkF 2 (t.label.cats.map catC), .s (.int .i64 t.clear.df), mkF 2 (t.clear.cats.map catC), .s (.int .i64 t.quota), .s (.int .i64 t.next), .osl c vc 2 0 nl, mkF 1 (t.data.map (cellC .u8)), .s (.int .u64 t.r0), .s (.int .u64 t.r1), .s (.int .u64 t.r2), .s (.int .u64 t.r3), .s (.int .i64 t.minted), .s (.int .i64 t.boot), .s (.bool t.halted), .s (.int .u64 t.value), .s (.int .u64 t.s0.dir), .s (.int .u64 t.s0.seg), .s (.int .u64 t.s1.dir), .s (.int .u64 t.s1.seg), .s (.int .u64 t.s2.dir), .s (.int .u64 t.s2.seg), .s (.int .u64 t.s3.dir), .s (.int .u64 t.s3.seg)]
@[simp] theorem refRow_ids (t : Thing) (c vc nl : Nat) : idsL (refRow t c vc nl) = [c] := rfl
@[simp] theorem refRow_len (t : Thing) (c vc nl : Nat) : (refRow t c vc nl).length = 26 := rfl
@[simp] theorem refRow_pure (t : Thing) (c vc nl : Nat) : pureL (refRow t c vc nl) = false := by simp [refRow, pureA]

theorem ref_finish (t : Thing) (c vc : Nat) (ls : List Link) (es : List A) (H : Heap) (he : idsL es = []) (hc : H[c]? = some (.live ⟨vc, 2, ls.map linkC⟩)) :
    finish 0 (.ok (.tup (.agg (refRow t c vc ls.length) :: es))) H = some (.ok (.tup (.agg (refRow t 0 vc ls.length) :: es)), [.live ⟨vc, 2, ls.map linkC⟩]) :=
  finish_one _ _ c _ _ (by simp [he]) (by simp [refRow, renL_of_ids es _ he]) hc (idsRows_map _ linkC_ids _) (fun f => renRow_links f _)

theorem ref_call {β : Type} (F : CallFn) (args : List A) (t : Thing) (vc : Nat) (ls : List Link) (es : List A) (h : Heap) (kp k : A → Heap → Option β) (ha : pureL args = true) (he : idsL es = []) (hep : pureL es = true)
    (hF : F args [] = some (.ok (.tup (.agg (refRow t 0 vc ls.length) :: es)), [.live ⟨vc, 2, ls.map linkC⟩])) :
    (oLend F args h kp fun w h' => oFrz w h' k) = k (.tup (.agg (thingC (withLinks t ls)) :: es)) (h ++ [.dead]) := by
  have hi : (idsL args).isEmpty = true := by rw [pureL_ids args ha]; rfl
  have hl : lendL lendFuel args (if (idsL args).isEmpty = true then [] else h) = some args := lendL_pure 999 _ _ ha
  have e1 : (oLend F args h kp fun w h' => oFrz w h' k) = oFrz (.tup (.agg (refRow t h.length vc ls.length) :: es)) (h ++ [.live ⟨vc, 2, ls.map linkC⟩]) k := by
    unfold oLend
    rw [hl]
    simp only [hF]
    simp [hi, refRow, giveBack, backIdx, renRow_links, setAll, renL_of_ids es _ he]
  rw [e1]
  have hcells : FrzCells (refRow t h.length vc ls.length) (h ++ [.live ⟨vc, 2, ls.map linkC⟩])
      (List.map normA [.s (.int .u64 t.id), .s (.int .i64 t.kind), .s (.int .i64 t.label.df), mkF 2 (t.label.cats.map catC), .s (.int .i64 t.clear.df), mkF 2 (t.clear.cats.map catC), .s (.int .i64 t.quota), .s (.int .i64 t.next)] ++ (mkF 2 (ls.map linkC) ::
        List.map normA [mkF 1 (t.data.map (cellC .u8)), .s (.int .u64 t.r0), .s (.int .u64 t.r1), .s (.int .u64 t.r2), .s (.int .u64 t.r3), .s (.int .i64 t.minted), .s (.int .i64 t.boot), .s (.bool t.halted), .s (.int .u64 t.value), .s (.int .u64 t.s0.dir), .s (.int .u64 t.s0.seg), .s (.int .u64 t.s1.dir), .s (.int .u64 t.s1.seg), .s (.int .u64 t.s2.dir), .s (.int .u64 t.s2.seg), .s (.int .u64 t.s3.dir), .s (.int .u64 t.s3.seg)]))
      ((h ++ [Go.Ab.Slot.live ⟨vc, 2, ls.map linkC⟩]).set h.length .dead) := by
    refine .flat _ _ _ _ _ rfl (.flat _ _ _ _ _ rfl (.flat _ _ _ _ _ rfl (.flat _ _ _ _ _ (by simp) (.flat _ _ _ _ _ rfl (.flat _ _ _ _ _ (by simp) (.flat _ _ _ _ _ rfl (.flat _ _ _ _ _ rfl (.own _ vc 2 _ (ls.map linkC) _ _ _ _ (by simp) (by simp) (pureRows_map _ (fun x => by simp) _)
      (.flat _ _ _ _ _ (by simp) ?_)))))))))
    repeat (first | exact .nil _ | refine .flat _ _ _ _ _ rfl ?_)
  have hH : (h ++ [Go.Ab.Slot.live ⟨vc, 2, ls.map linkC⟩]).set h.length .dead = h ++ [.dead] := by simp
  rw [hH] at hcells
  refine (oFrz_tup hcells (by simp) (by simp) es hep k).trans ?_
  simp [thingC, withLinks]

def without (ls : List Link) (id : Int) : List Link := ls.filter (fun l => l.id != id)
theorem without_snoc (ls : List Link) (x : Link) (id : Int) : without (ls ++ [x]) id = if x.id = id then without ls id else without ls id ++ [x] := by
  by_cases h : x.id = id <;> simp [without, h]
theorem without_take_le (ls : List Link) (i : Nat) (id : Int) : (without (ls.take i) id).length ≤ i := by
  have h1 := List.length_filter_le (fun l : Link => l.id != id) (ls.take i)
  have h2 := List.length_take_le i ls
  simp only [without]; omega
theorem no_has' {ls : List Link} {id : Int} (h : has ls id = false) : ∀ l ∈ ls, l.id ≠ id := by
  intro l hl he
  have : (ls.find? (fun l => l.id == id)).isSome = true := by
    rw [List.find?_isSome]; exact ⟨l, hl, by simpa using he⟩
  rw [has, this] at h; cases h
theorem filter_drop : ∀ {ls : List Link} (hs : sortedL ls) (id : Int), has ls id = true → ls.filter (fun l => l.id != id) = dropLinks ls id
  | [], _, id, h => by simp [has] at h
  | a :: ls, hs, id, h => by
    by_cases ha : a.id = id
    · have hp : place (a :: ls) id = 0 := by simp [place, ha]
      have hf : ls.filter (fun l => l.id != id) = ls := List.filter_eq_self.2 fun l hl => by
        have := sortedL_lt hs l hl
        simp; omega
      simp [dropLinks, hp, ha, hf]
    · have hh : has ls id = true := by
        have : (a.id == id) = false := by simpa using ha
        simpa [has, this] using h
      have ih := filter_drop (sortedL_tail hs) id hh
      have hlt : a.id < id := by
        rw [has, List.find?_isSome] at hh
        obtain ⟨x, hx, he⟩ := hh
        have := sortedL_lt hs x hx
        simp at he; omega
      have hp : place (a :: ls) id = place ls id + 1 := by simp [place, hlt]
      have hne : (a.id != id) = true := by simpa using ha
      rw [List.filter_cons, if_pos hne, ih]
      simp [dropLinks, hp]

theorem ref12_Drop_run (t : Thing) (id : Int) (sm : small t) (hs : sortedL t.links) :
    (has t.links id = false ∧ ref12_Drop [.agg (thingC t), .s (.int .u64 id)] [] = some (.ok (.tup [.agg (thingC t), .s (.int .i64 124)]), [])) ∨
    (has t.links id = true ∧ ∃ vc, ref12_Drop [.agg (thingC t), .s (.int .u64 id)] [] = some (.ok (.tup [.agg (refRow t 0 vc (dropLinks t.links id).length), .s (.int .i64 0)]), [.live ⟨vc, 2, (dropLinks t.links id).map linkC⟩])) := by
  have s3 := sm.links
  have hl : t.links.length < 2 ^ 63 := by omega
  have hh : ∀ (β : Type) (h : Heap) (kp k : A → Heap → Option β), oLend ref12_Has [.agg (thingC t), .s (.int .u64 id)] h kp k = k (.s (.bool (has t.links id))) h := fun β h kp k =>
    oLend_val _ _ _ _ _ _ (by simp) (by simp) (ref12_Has_v t id hl)
  cases c1 : has t.links id with
  | false =>
    left
    refine ⟨rfl, ?_⟩
    simp [ref12_Drop, hh, c1, zero_row, finish_val]
  | true =>
    right
    refine ⟨rfl, (dropLinks t.links id).length, ?_⟩
    let zr : List A := [.s (.int .u64 0), .s (.int .i64 0), .s (.int .i64 0), .s (.slice none 0 0), .s (.int .i64 0), .s (.slice none 0 0), .s (.int .i64 0), .s (.int .i64 0), .s (.slice none 0 0), .s (.slice none 0 0), .s (.int .u64 0), .s (.int .u64 0), .s (.int .u64 0), .s (.int .u64 0), .s (.int .i64 0), .s (.int .i64 0), .s (.bool false), .s (.int .u64 0), .s (.int .u64 0), .s (.int .u64 0), .s (.int .u64 0), .s (.int .u64 0), .s (.int .u64 0), .s (.int .u64 0), .s (.int .u64 0), .s (.int .u64 0)]
    let en : Nat → List A × Heap := fun i => ([.osl 2 (without (t.links.take i) id).length 2 0 (without (t.links.take i) id).length, .s (.int .i64 i)], [Go.Ab.Slot.live ⟨0, 26, [thingC t]⟩, Go.Ab.Slot.live ⟨0, 26, [zr]⟩, Go.Ab.Slot.live ⟨(without (t.links.take i) id).length, 2, (without (t.links.take i) id).map linkC⟩])
    obtain ⟨q, hQ, hq⟩ := oLoop_inv' (step := ref12_Drop_l2 (.s (.int .i64 t.links.length)) (mkF 2 (t.links.map linkC)) (.s (.int .u64 id)) [Go.Ab.Slot.live ⟨0, 26, [thingC t]⟩, Go.Ab.Slot.live ⟨0, 26, [zr]⟩, Go.Ab.Slot.live ⟨0, 2, []⟩]) (s0 := ([.osl 2 0 2 0 0, .s (.int .i64 0)], [Go.Ab.Slot.live ⟨0, 26, [thingC t]⟩, Go.Ab.Slot.live ⟨0, 26, [zr]⟩, Go.Ab.Slot.live ⟨0, 2, []⟩]))
      (fun i s => s = en i) (fun q => q = (.exit 0, [.osl 2 (without t.links id).length 2 0 (without t.links id).length], [Go.Ab.Slot.live ⟨0, 26, [thingC t]⟩, Go.Ab.Slot.live ⟨0, 26, [zr]⟩, Go.Ab.Slot.live ⟨(without t.links id).length, 2, (without t.links id).map linkC⟩]))
      t.links.length rfl hl
      (by
        rintro i s hi rfl
        left
        have hx : t.links[i]? = some t.links[i] := by simp [hi]
        have hw := wrap_succ hi hl
        have hfl := without_take_le t.links i id
        have hok : appendOk ((without (t.links.take i) id).length + 1) 16 := ok16 (by omega)
        have hts : t.links.take (i + 1) = t.links.take i ++ [t.links[i]] := by rw [List.take_add_one, hx]; rfl
        have htk : List.take (without (t.links.take i) id).length ((without (t.links.take i) id).map linkC) = (without (t.links.take i) id).map linkC := List.take_of_length_le (by simp)
        refine ⟨en (i + 1), ?_, rfl⟩
        by_cases he : t.links[i].id = id
        · have hf : without (t.links.take (i + 1)) id = without (t.links.take i) id := by rw [hts, without_snoc]; simp [he]
          simp only [en, hf]
          generalize without (t.links.take i) id = out at *
          generalize t.links[i] = l at *
          simp [ref12_Drop_l2, ref12_Drop_k1, hi, oIdxA_mkF _ _ _ _ _ _ _ hx, he, trim, allBelow, hw, zr, idsRows_map _ linkC_ids]
        · have hf : without (t.links.take (i + 1)) id = without (t.links.take i) id ++ [t.links[i]] := by rw [hts, without_snoc]; simp [he]
          simp only [en, hf]
          generalize without (t.links.take i) id = out at *
          generalize t.links[i] = l at *
          simp [ref12_Drop_l2, ref12_Drop_k1, hi, oIdxA_mkF _ _ _ _ _ _ _ hx, he, trim, allBelow, hw, zr, idsRows_map _ linkC_ids, idsRows_append, oAppend_osl, hok, htk])
      (by
        rintro s rfl
        refine ⟨_, ?_, rfl⟩
        simp only [en, List.take_length]
        simp [ref12_Drop_l2, trim, allBelow, zr, idsRows_map _ linkC_ids])
    subst hQ
    have hrun : ref12_Drop [.agg (thingC t), .s (.int .u64 id)] [] = ref12_Drop_k3 (.ptr 0 0 0 0) (.ptr 1 0 0 0) [] (.exit 0) [.osl 2 (without t.links id).length 2 0 (without t.links id).length] [Go.Ab.Slot.live ⟨0, 26, [thingC t]⟩, Go.Ab.Slot.live ⟨0, 26, [zr]⟩, Go.Ab.Slot.live ⟨(without t.links id).length, 2, (without t.links id).map linkC⟩] := by
      refine Eq.trans ?_ (hq (ref12_Drop_k3 (.ptr 0 0 0 0) (.ptr 1 0 0 0) []))
      simp [ref12_Drop, hh, c1, zr]
    rw [hrun]
    have hfd : without t.links id = dropLinks t.links id := filter_drop hs id c1
    rw [hfd]
    simp [ref12_Drop_k3, putCells, thingC, cellsAt, zr]
    exact ref_finish t 2 _ (dropLinks t.links id) [.s (.int .i64 0)] _ (by simp) rfl

/-- The list with one more link in its place, as far as it has come. -/
def insTo (ls : List Link) (id q : Int) (i : Nat) : List Link := if place ls id < i then ls.take (place ls id) ++ ⟨id, q⟩ :: (ls.take i).drop (place ls id) else ls.take i
theorem take_succ' {ls : List Link} {i : Nat} {x : Link} (h : ls[i]? = some x) : ls.take (i + 1) = ls.take i ++ [x] := by rw [List.take_add_one, h]; rfl
theorem insTo_len (ls : List Link) (id q : Int) (i : Nat) : (insTo ls id q i).length ≤ i + 1 := by
  unfold insTo
  split
  · simp; omega
  · simp; omega
theorem insTo_lt {ls : List Link} {id q : Int} {i : Nat} {x : Link} (h : ls[i]? = some x) (hi : i < place ls id) : insTo ls id q (i + 1) = insTo ls id q i ++ [x] := by
  unfold insTo
  rw [if_neg (by omega), if_neg (by omega), take_succ' h]
theorem insTo_eq {ls : List Link} {id q : Int} {x : Link} (h : ls[place ls id]? = some x) : insTo ls id q (place ls id + 1) = insTo ls id q (place ls id) ++ [⟨id, q⟩] ++ [x] := by
  have hlt := (List.getElem?_eq_some_iff.1 h).1
  unfold insTo
  rw [if_pos (by omega), if_neg (by omega), take_succ' h, List.drop_append_of_le_length (by simp; omega)]
  have : (ls.take (place ls id)).drop (place ls id) = [] := List.drop_eq_nil_of_le (by simp; omega)
  simp [this]
theorem insTo_gt {ls : List Link} {id q : Int} {i : Nat} {x : Link} (h : ls[i]? = some x) (hi : place ls id < i) : insTo ls id q (i + 1) = insTo ls id q i ++ [x] := by
  have hlt := (List.getElem?_eq_some_iff.1 h).1
  unfold insTo
  rw [if_pos (by omega), if_pos hi, take_succ' h, List.drop_append_of_le_length (by simp; omega)]
  simp
theorem insTo_all (ls : List Link) (id q : Int) : (if place ls id < ls.length then insTo ls id q ls.length else insTo ls id q ls.length ++ [⟨id, q⟩]) = addLinks ls id q := by
  have := place_le ls id
  unfold insTo addLinks
  by_cases h : place ls id < ls.length
  · simp [h]
  · have : place ls id = ls.length := by omega
    simp [this]

def zr : List A := [.s (.int .u64 0), .s (.int .i64 0), .s (.int .i64 0), .s (.slice none 0 0), .s (.int .i64 0), .s (.slice none 0 0), .s (.int .i64 0), .s (.int .i64 0), .s (.slice none 0 0), .s (.slice none 0 0), .s (.int .u64 0), .s (.int .u64 0), .s (.int .u64 0), .s (.int .u64 0), .s (.int .i64 0), .s (.int .i64 0), .s (.bool false), .s (.int .u64 0), .s (.int .u64 0), .s (.int .u64 0), .s (.int .u64 0), .s (.int .u64 0), .s (.int .u64 0), .s (.int .u64 0), .s (.int .u64 0), .s (.int .u64 0)]
@[simp] theorem zr_ids : idsL zr = [] := rfl
def insH (t : Thing) (out : List Link) : Heap := [Go.Ab.Slot.live ⟨0, 26, [thingC t]⟩, Go.Ab.Slot.live ⟨0, 26, [zr]⟩, Go.Ab.Slot.live ⟨out.length, 2, out.map linkC⟩]

theorem Add_loop (t : Thing) (id q : Int) (sm : small t) (hs : sortedL t.links) (hno : has t.links id = false) {β : Type} (k : Ex → List A → Heap → Option β) :
    oLoop (ref12_Add_l3 (.s (.int .i64 t.links.length)) (mkF 2 (t.links.map linkC)) (.s (.int .u64 id)) (.s (.int .i64 q)) [Go.Ab.Slot.live ⟨0, 26, [thingC t]⟩, Go.Ab.Slot.live ⟨0, 26, [zr]⟩, Go.Ab.Slot.live ⟨0, 2, []⟩])
      ([.osl 2 0 2 0 0, .s (.bool false), .s (.int .i64 0)], [Go.Ab.Slot.live ⟨0, 26, [thingC t]⟩, Go.Ab.Slot.live ⟨0, 26, [zr]⟩, Go.Ab.Slot.live ⟨0, 2, []⟩]) k =
    k (.exit 0) [.osl 2 (insTo t.links id q t.links.length).length 2 0 (insTo t.links id q t.links.length).length, .s (.bool (decide (place t.links id < t.links.length)))] (insH t (insTo t.links id q t.links.length)) := by
  have s3 := sm.links
  have hl : t.links.length < 2 ^ 63 := by omega
  let en : Nat → List A × Heap := fun i => ([.osl 2 (insTo t.links id q i).length 2 0 (insTo t.links id q i).length, .s (.bool (decide (place t.links id < i))), .s (.int .i64 i)], insH t (insTo t.links id q i))
  obtain ⟨r, hQ, hq⟩ := oLoop_inv' (step := ref12_Add_l3 (.s (.int .i64 t.links.length)) (mkF 2 (t.links.map linkC)) (.s (.int .u64 id)) (.s (.int .i64 q)) [Go.Ab.Slot.live ⟨0, 26, [thingC t]⟩, Go.Ab.Slot.live ⟨0, 26, [zr]⟩, Go.Ab.Slot.live ⟨0, 2, []⟩])
    (s0 := ([.osl 2 0 2 0 0, .s (.bool false), .s (.int .i64 0)], [Go.Ab.Slot.live ⟨0, 26, [thingC t]⟩, Go.Ab.Slot.live ⟨0, 26, [zr]⟩, Go.Ab.Slot.live ⟨0, 2, []⟩]))
    (fun i s => s = en i) (fun r => r = (.exit 0, [.osl 2 (insTo t.links id q t.links.length).length 2 0 (insTo t.links id q t.links.length).length, .s (.bool (decide (place t.links id < t.links.length)))], insH t (insTo t.links id q t.links.length)))
    t.links.length (by simp [en, insTo, insH]) hl
    (by
      rintro i s hi rfl
      left
      have hx : t.links[i]? = some t.links[i] := by simp [hi]
      have hw := wrap_succ hi hl
      have hlen := insTo_len t.links id q i
      have hok : appendOk ((insTo t.links id q i).length + 1) 16 := ok16 (by omega)
      have hok2 : appendOk ((insTo t.links id q i).length + 1 + 1) 16 := ok16 (by omega)
      have htk : List.take (insTo t.links id q i).length ((insTo t.links id q i).map linkC) = (insTo t.links id q i).map linkC := List.take_of_length_le (by simp)
      have hne : t.links[i].id ≠ id := no_has' hno _ (List.getElem_mem hi)
      have hpl := place_lt hs id i _ hx
      refine ⟨en (i + 1), ?_, rfl⟩
      rcases Nat.lt_trichotomy i (place t.links id) with h | h | h
      · have e := insTo_lt (q := q) hx h
        have h1 : ¬ place t.links id < i := by omega
        have h2 : ¬ place t.links id < i + 1 := by omega
        have h3 : ¬ id < t.links[i].id := by have := hpl.2 h; omega
        simp only [en, e, insH]
        generalize insTo t.links id q i = out at *
        generalize t.links[i] = l at *
        simp [ref12_Add_l3, ref12_Add_k1, ref12_Add_k2, hi, oIdxA_mkF _ _ _ _ _ _ _ hx, h1, h2, h3, trim, allBelow, hw, idsRows_map _ linkC_ids, idsRows_append, oAppend_osl, hok, htk]
      · subst h
        have e := insTo_eq (q := q) hx
        have h1 : ¬ place t.links id < place t.links id := by omega
        have h3 : id < t.links[place t.links id].id := by have := mt hpl.1 h1; omega
        simp only [en, e, insH]
        generalize insTo t.links id q (place t.links id) = out at *
        generalize t.links[place t.links id] = l at *
        have htk2 : ∀ c : List A, List.take (out.length + 1) (out.map linkC ++ [c]) = out.map linkC ++ [c] := fun c => List.take_of_length_le (by simp)
        simp [ref12_Add_l3, ref12_Add_k1, ref12_Add_k2, hi, oIdxA_mkF _ _ _ _ _ _ _ hx, h3, trim, allBelow, hw, idsRows_map _ linkC_ids, idsRows_append, oAppend_osl, hok, hok2, htk, htk2, putCells]
        rfl
      · have e := insTo_gt (q := q) hx h
        have h2 : place t.links id < i + 1 := by omega
        simp only [en, e, insH]
        generalize insTo t.links id q i = out at *
        generalize t.links[i] = l at *
        simp [ref12_Add_l3, ref12_Add_k1, ref12_Add_k2, hi, oIdxA_mkF _ _ _ _ _ _ _ hx, h, h2, trim, allBelow, hw, idsRows_map _ linkC_ids, idsRows_append, oAppend_osl, hok, htk])
    (by
      rintro s rfl
      refine ⟨_, ?_, rfl⟩
      simp only [en, insH]
      simp [ref12_Add_l3, trim, allBelow, idsRows_map _ linkC_ids])
  subst hQ
  exact hq k

theorem ref12_Add_run (t : Thing) (id q : Int) (sm : small t) (hs : sortedL t.links) :
    (addErr t id q ≠ 0 ∧ ref12_Add [.agg (thingC t), .s (.int .u64 id), .s (.int .i64 q)] [] = some (.ok (.tup [.agg (thingC t), .s (.int .i64 (addErr t id q))]), [])) ∨
    (addErr t id q = 0 ∧ ∃ vc, ref12_Add [.agg (thingC t), .s (.int .u64 id), .s (.int .i64 q)] [] = some (.ok (.tup [.agg (refRow t 0 vc (addLinks t.links id q).length), .s (.int .i64 0)]), [.live ⟨vc, 2, (addLinks t.links id q).map linkC⟩])) := by
  have s3 := sm.links
  have hh : ∀ (β : Type) (h : Heap) (kp k : A → Heap → Option β), oLend ref12_Has [.agg (thingC t), .s (.int .u64 id)] h kp k = k (.s (.bool (has t.links id))) h := fun β h kp k =>
    oLend_val _ _ _ _ _ _ (by simp) (by simp) (ref12_Has_v t id (by omega))
  have hu : ∀ (β : Type) (n0 : Nat) (wr : List Nat) (h : Heap) (k : A → Heap → Option β), oCallF n0 wr ref12_Used [.agg (thingC t)] h k = k (.s (.int .i64 (used t))) h := fun β n0 wr h k =>
    oCallF_val _ _ _ _ _ _ _ (by simp) (by simp) (ref12_Used_v t (by omega))
  by_cases c1 : has t.links id = true
  · left
    refine ⟨by simp [addErr, c1], ?_⟩
    simp [ref12_Add, hh, c1, zero_row, addErr, finish_val]
  have c1' : has t.links id = false := by simpa using c1
  by_cases c2 : 16 ≤ t.links.length
  · left
    have c2' : (16 : Int) ≤ t.links.length := by omega
    refine ⟨by simp [addErr, c1', c2], ?_⟩
    simp [ref12_Add, hh, c1', c2, c2', zero_row, addErr, finish_val]
  have c2' : ¬ (16 : Int) ≤ t.links.length := by omega
  by_cases c3 : q < 1
  · left
    refine ⟨by simp [addErr, c1', c2, c3], ?_⟩
    simp [ref12_Add, hh, c1', c2, c2', c3, zero_row, addErr, finish_val, trim, allBelow, ref12_Add_k6]
  by_cases c4 : IntKind.i64.wrap (t.quota - used t) < q
  · left
    refine ⟨by simp [addErr, c1', c2, c4], ?_⟩
    simp [ref12_Add, hh, hu, c1', c2, c2', c3, c4, zero_row, addErr, finish_val, trim, allBelow, ref12_Add_k6, oLoadD]
  · right
    refine ⟨by simp [addErr, c1', c2, c3, c4], (addLinks t.links id q).length, ?_⟩
    have hloop := Add_loop t id q sm hs c1' (ref12_Add_k5 (.s (.int .u64 id)) (.s (.int .i64 q)) (.ptr 0 0 0 0) (.ptr 1 0 0 0) [])
    have hrun : ref12_Add [.agg (thingC t), .s (.int .u64 id), .s (.int .i64 q)] [] = ref12_Add_k5 (.s (.int .u64 id)) (.s (.int .i64 q)) (.ptr 0 0 0 0) (.ptr 1 0 0 0) [] (.exit 0) [.osl 2 (insTo t.links id q t.links.length).length 2 0 (insTo t.links id q t.links.length).length, .s (.bool (decide (place t.links id < t.links.length)))] (insH t (insTo t.links id q t.links.length)) := by
      refine Eq.trans ?_ hloop
      simp [ref12_Add, hh, hu, c1', c2, c2', c3, c4, zero_row, trim, allBelow, ref12_Add_k6, oLoadD, zr]
    rw [hrun]
    have hall := insTo_all t.links id q
    have hlen := insTo_len t.links id q t.links.length
    by_cases hp : place t.links id < t.links.length
    · rw [if_pos hp] at hall
      rw [hall]
      simp [hp, ref12_Add_k5, ref12_Add_k4, insH, trim, allBelow, idsRows_map _ linkC_ids, putCells, thingC, cellsAt, zr]
      exact ref_finish t 2 _ (addLinks t.links id q) [.s (.int .i64 0)] _ (by simp) rfl
    · rw [if_neg hp] at hall
      rw [← hall]
      generalize insTo t.links id q t.links.length = out at *
      have hok : appendOk (out.length + 1) 16 := ok16 (by omega)
      have htk : List.take out.length (out.map linkC) = out.map linkC := List.take_of_length_le (by simp)
      simp [hp, ref12_Add_k5, ref12_Add_k4, insH, trim, allBelow, idsRows_map _ linkC_ids, idsRows_append, oAppend_osl, hok, htk, putCells, thingC, cellsAt, zr]
      have hL : (out ++ [Link.mk id q]).length = out.length + 1 := by simp
      have hfin := fun (H : Heap) hc => ref_finish t 2 (out.length + 1) (out ++ [Link.mk id q]) [.s (.int .i64 0)] H (by simp) hc
      simp only [hL, List.map_append, List.map_cons, List.map_nil, refRow] at hfin
      exact hfin _ rfl

theorem refAdd_call (t : Thing) (id q : Int) (sm : small t) (hs : sortedL t.links) : ∃ ex : Heap, (ex = [] ∧ addErr t id q ≠ 0 ∨ ex = [.dead] ∧ addErr t id q = 0) ∧ ∀ {β : Type} (h : Heap) (kp k : A → Heap → Option β),
    (oLend ref12_Add [.agg (thingC t), .s (.int .u64 id), .s (.int .i64 q)] h kp fun w h' => oFrz w h' k) = k (.tup [.agg (thingC (add t id q)), .s (.int .i64 (addErr t id q))]) (h ++ ex) := by
  rcases ref12_Add_run t id q sm hs with ⟨he, hF⟩ | ⟨he, vc, hF⟩
  · refine ⟨[], .inl ⟨rfl, he⟩, fun h kp k => ?_⟩
    rw [val_call _ _ _ h kp k (by simp) (by simp) (by simp) hF]
    simp [add, he]
  · refine ⟨[.dead], .inr ⟨rfl, he⟩, fun h kp k => ?_⟩
    rw [ref_call _ _ t vc _ [.s (.int .i64 0)] h kp k (by simp) (by simp) (by simp) hF]
    simp [add, he, withLinks]
theorem refDrop_call (t : Thing) (id : Int) (sm : small t) (hs : sortedL t.links) : ∃ ex : Heap, (ex = [] ∨ ex = [.dead]) ∧ ∀ {β : Type} (h : Heap) (kp k : A → Heap → Option β),
    (oLend ref12_Drop [.agg (thingC t), .s (.int .u64 id)] h kp fun w h' => oFrz w h' k) = k (.tup [.agg (thingC (drop t id)), .s (.int .i64 (dropErr t id))]) (h ++ ex) := by
  rcases ref12_Drop_run t id sm hs with ⟨he, hF⟩ | ⟨he, vc, hF⟩
  · refine ⟨[], .inl rfl, fun h kp k => ?_⟩
    rw [val_call _ _ _ h kp k (by simp) (by simp) (by simp) hF]
    simp [drop, dropErr, he]
  · refine ⟨[.dead], .inr rfl, fun h kp k => ?_⟩
    rw [ref_call _ _ t vc _ [.s (.int .i64 0)] h kp k (by simp) (by simp) (by simp) hF]
    simp [drop, dropErr, he, withLinks]
theorem ref12_Born_v (t : Thing) (q : Int) (sm : small t) (hs : sortedL t.links) (hfr : rfresh t = fresh t) :
    ref12_Born [.agg (thingC t), .s (.int .i64 q)] [] = some (.ok (.tup [.agg (thingC (born t q).1), .s (.int .u64 (born t q).2.1), .s (.int .i64 (born t q).2.2)]), []) := by
  have hf : ∀ (β : Type) (h : Heap) (kp k : A → Heap → Option β), oLend ref12_Fresh [.agg (thingC t)] h kp k = k (.tup [.s (.int .u64 (fresh t).1), .s (.int .i64 (fresh t).2)]) h := fun β h kp k =>
    oLend_val _ _ _ _ _ _ (by simp) (by simp) (by rw [ref12_Fresh_v, hfr])
  by_cases c1 : (fresh t).2 = 0
  · obtain ⟨ex, hex, hcall⟩ := refAdd_call t (fresh t).1 q sm hs
    have hcall' := fun (h : Heap) (kp k : A → Heap → Option (Out × Heap)) => hcall h kp k
    have hnx := add_next t (fresh t).1 q
    rcases hex with ⟨rfl, he⟩ | ⟨rfl, he⟩
    · simp [ref12_Born, hf, c1, hcall', he, born, zero_row, finish_val]
    · have hp7 : putCells (thingC (add t (fresh t).1 q)) 7 [.s (.int .i64 (IntKind.i64.wrap ((add t (fresh t).1 q).next + 1)))] = thingC { add t (fresh t).1 q with next := IntKind.i64.wrap (t.next + 1) } := by rw [hnx]; rfl
      simp [ref12_Born, hf, c1, hcall', he, born, zero_row, finish_val, hp7]
  · simp [ref12_Born, hf, c1, born, zero_row, finish_val]
end Go.Ab.T
