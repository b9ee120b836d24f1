/-
 FOOTPRINTS: what of the heap an operation reads and writes.
-/
import Derived.Test.YtocnjegcmmfpfaaAbsDrawC
set_option linter.unusedSimpArgs false
set_option linter.unusedVariables false
namespace Go.Ab
open Go
section
variable {P : Program} {β : Type} {r : β} {h h' : Heap} {v : A}
structure Foot (f : HF) (h : Heap) (v : A) (h' : Heap) (R W : List Nat) : Prop where
 len : h'.length = h.length
 inR : ∀ id ∈ R, id < h.length
 sub : ∀ id ∈ W, id ∈ R
 out : ∀ id, id ∉ W → h'[id]? = h[id]?
 again : ∀ g : Heap, (∀ id ∈ R, g[id]? = h[id]?) → ∃ g', f g = some (v, g') ∧ g'.length = g.length ∧ (∀ id ∈ W, g'[id]? = h'[id]?) ∧ ∀ id, id ∉ W → g'[id]? = g[id]?
structure Info (n0 : Nat) (wr : List Nat) (I : Nat → Prop) (cl : Cls) (h h' : Heap) (R W : List Nat) : Prop where
 rd : ∀ id ∈ R, id ∈ W ∨ I id
 wo : ∀ id ∈ W, (n0 ≤ id ∨ id ∈ wr) ∧ h'[id]? ≠ some .res ∧ (h[id]? = some .res ∨ (I id ∧ cl = .ap))
 l : cl = .l → ∀ id ∈ R, id < n0 ∧ id ∉ wr
 r : cl = .r → ∀ id ∈ R, id ∈ W
inductive Eff (f : HF) (n0 : Nat) (wr : List Nat) (I : Nat → Prop) (cl : Cls) (h : Heap) (v : A) (h' : Heap) : Prop where
 | pure (e : h' = h) (again : ∀ g, f g = some (v, g))
 | loc (R W : List Nat) (hc : cl = .l ∨ cl = .r ∨ cl = .ap) (foot : Foot f h v h' R W) (info : Info n0 wr I cl h h' R W)
 | call (hc : cl = .c) (objs : Heap) (e : h' = h ++ objs) (nores : ∀ j : Nat, objs[j]? ≠ some .res) (again : ∀ g : Heap, g.length = h.length → (∀ id, id < n0 → id ∉ wr → g[id]? = h[id]?) → f g = some (v, g ++ objs))
 | other (hc : cl = .w)
theorem qm1 {a : A} {id : Nat} (h : id ∈ idTop a) : id ∈ idsA a := by
 cases a <;> simp [idTop, idsA] at h ⊢ <;> exact h
theorem qe7 {sz : Nat} {x : A} {g : Heap} (hg : ∀ id ∈ idTop x, g[id]? = h[id]?) : rowsOf sz x g = rowsOf sz x h := by
 unfold rowsOf
 split <;> try rfl
 rw [hg _ (by simp [idTop])]
theorem qfu {sz : Nat} {x : A} {rows : List (List A)} (hr : rowsOf sz x h = some rows) : ∀ id ∈ idTop x, id < h.length := by
 intro id hid
 cases x <;> simp [idTop] at hid
 · simp [rowsOf] at hr
 · subst hid
   simp only [rowsOf] at hr
   split at hr <;> try (cases hr; done)
   rename_i hob
   exact (List.getElem?_eq_some_iff.1 hob).1
theorem set_get {l : Heap} {i j : Nat} {x : Slot} (hi : i < l.length) : (l.set i x)[j]? = if j = i then some x else l[j]? := by
 rw [List.getElem?_set]
 by_cases hj : i = j
 · subst hj; simp [hi]
 · simp [hj, Ne.symm hj]
theorem qkV {slot id : Nat} {g g' : Heap} {ob : Obj} (h : place (some slot) g ob = some (id, g')) : id = slot := by
 simp only [place] at h
 split at h <;> simp at h
 exact h.1.symm
theorem place_foot {f : HF} {slot : Nat} {R : List Nat} (ob : Heap → Obj) (V : A) (hR : ∀ id ∈ R, id < h.length) (hob : ∀ g : Heap, (∀ id ∈ slot :: R, g[id]? = h[id]?) → f g = (match place (some slot) g (ob h) with | some (_, g') => some (V, g') | none => none))
 (hf : f h = some (v, h')) : Foot f h v h' (slot :: R) [slot] ∧ h[slot]? = some .res ∧ h'[slot]? = some (.live (ob h)) ∧ v = V := by
 have h0 := hob h (fun _ _ => rfl)
 rw [hf] at h0
 simp only [place] at h0
 cases hs : h[slot]? with
 | none => rw [hs] at h0; simp at h0
 | some s =>
   cases s with
   | dead => rw [hs] at h0; simp at h0
   | live o => rw [hs] at h0; simp at h0
   | mp kd es => rw [hs] at h0; simp at h0
   | res =>
     rw [hs] at h0
     simp at h0
     obtain ⟨rfl, rfl⟩ := h0
     have hl := (List.getElem?_eq_some_iff.1 hs).1
     refine ⟨⟨by simp, fun id hid => ?_, by simp, fun id hid => ?_, fun g hg => ?_⟩, rfl, by rw [set_get hl]; simp, rfl⟩
     · simp at hid; rcases hid with rfl | hid
       · exact hl
       · exact hR id hid
     · simp at hid; rw [set_get hl, if_neg hid]
     · have hgs : g[slot]? = some .res := by rw [hg slot (by simp)]; exact hs
       have hgl := (List.getElem?_eq_some_iff.1 hgs).1
       refine ⟨g.set slot (.live (ob h)), ?_, by simp, fun id hid => ?_, fun id hid => ?_⟩
       · rw [hob g hg]; simp [place, hgs]
       · simp at hid; subst hid; rw [set_get hgl, set_get hl]; simp
       · simp at hid; rw [set_get hgl, if_neg hid]
theorem Eff.place {f : HF} {n0 slot : Nat} {wr : List Nat} {I : Nat → Prop} {cl : Cls} (R : List Nat) (hc : cl = .r ∧ R = [] ∨ cl = .ap) (hn : n0 ≤ slot) (hI : ∀ id ∈ R, I id) (ob : Heap → Obj) (V : A) (hR : ∀ id ∈ R, id < h.length)
 (hob : ∀ g : Heap, (∀ id ∈ slot :: R, g[id]? = h[id]?) → f g = (match place (some slot) g (ob h) with | some (_, g') => some (V, g') | none => none)) (hf : f h = some (v, h')) : Eff f n0 wr I cl h v h' := by
 obtain ⟨g1, g2, g3, g4⟩ := place_foot ob V hR hob hf
 refine .loc (slot :: R) [slot] ?_ g1 ⟨fun id hid => ?_, fun id hid => ?_, fun hl => ?_, fun hr id hid => ?_⟩
 · rcases hc with ⟨h, _⟩ | h
   · exact .inr (.inl h)
   · exact .inr (.inr h)
 · simp at hid; rcases hid with rfl | hid
   · exact .inl (by simp)
   · exact .inr (hI id hid)
 · simp at hid; subst hid; exact ⟨.inl hn, by rw [g3]; simp, .inl g2⟩
 · rcases hc with ⟨h, _⟩ | h <;> rw [h] at hl <;> cases hl
 · rcases hc with ⟨_, h⟩ | h
   · subst h; exact hid
   · rw [h] at hr; cases hr
theorem qkZ {wr : List Nat} {n0 slot : Nat} {I : Nat → Prop} {n : Option Nat} {x : A} (hn : n0 ≤ slot) (hf : oNew (some slot) n x h kSome = some (v, h')) : Eff (fun g => oNew (some slot) n x g kSome) n0 wr I .r h v h' := by
 have hf' := hf
 unfold oNew at hf'
 split at hf' <;> try (cases hf'; done)
 rename_i cs hcs
 split at hf' <;> try (cases hf'; done)
 rename_i hne
 refine .place [] (.inl ⟨rfl, rfl⟩) hn (by simp) (fun _ => ⟨0, cs.length, [cs]⟩) (.ptr slot 0 0 0) (by simp) (fun g hg => ?_) hf
 unfold oNew
 simp only [hcs, hne, Bool.false_eq_true, if_false]
 cases hp : Go.Ab.place (some slot) g ⟨0, cs.length, [cs]⟩ with
 | none => rfl
 | some q => obtain ⟨id, g'⟩ := q; obtain rfl := qkV hp; rfl
theorem qhI {wr : List Nat} {n0 slot sz : Nat} {I : Nat → Prop} {rows : Option (List (List A))} (hn : n0 ≤ slot) (hf : qah (some slot) sz rows h kSome = some (v, h')) : Eff (fun g => qah (some slot) sz rows g kSome) n0 wr I .r h v h' := by
 have hf' := hf
 unfold qah at hf'
 split at hf' <;> try (cases hf'; done)
 rename_i rows
 split at hf' <;> try (cases hf'; done)
 rename_i hne
 refine .place [] (.inl ⟨rfl, rfl⟩) hn (by simp) (fun _ => ⟨0, sz, rows⟩) (.osl slot 0 sz 0 rows.length) (by simp) (fun g hg => ?_) hf
 unfold qah
 simp only [hne, if_false]
 cases hp : Go.Ab.place (some slot) g ⟨0, sz, rows⟩ with
 | none => rfl
 | some q => obtain ⟨id, g'⟩ := q; obtain rfl := qkV hp; rfl
theorem oNewFz_eq {slot sz : Nat} {rs : List (List A)} (hp : qay rs = true) (hz : sz ≠ 0) (g : Heap) : oNewFz slot sz (some rs) g kSome = (match g[slot]? with | some .res => some (mkF sz rs, g.set slot .dead) | _ => none) := by
 unfold oNewFz
 simp only [if_pos hp]
 unfold qah
 simp only [if_neg hz]
 cases hg : g[slot]? with
 | none => simp only [Go.Ab.place, hg]
 | some s =>
   cases s with
   | dead => simp only [Go.Ab.place, hg]
   | live o => simp only [Go.Ab.place, hg]
   | mp kd es => simp only [Go.Ab.place, hg]
   | res =>
     simp only [Go.Ab.place, hg]
     have hl := (List.getElem?_eq_some_iff.1 hg).1
     have hs : (g.set slot (.live ⟨0, sz, rs⟩))[slot]? = some (.live ⟨0, sz, rs⟩) := by rw [set_get hl]; simp
     have hf : frzA 1000 (.osl slot 0 sz 0 rs.length) (g.set slot (.live ⟨0, sz, rs⟩)) = some (mkF sz rs, g.set slot .dead) := by
      rw [show (1000 : Nat) = 998 + 1 + 1 from rfl, frzA, hs]
      simp only [Nat.zero_add, Nat.le_refl, and_self, if_true, List.drop_zero, List.take_length, List.set_set]
      rw [frzRows.eq_def]
      simp only [if_pos hp]
      rfl
     unfold oFrz
     rw [if_neg (by simp [pureA]), hf]
theorem oNewFz_eff {wr : List Nat} {n0 slot sz : Nat} {I : Nat → Prop} {rows : Option (List (List A))} (hn : n0 ≤ slot) (hf : oNewFz slot sz rows h kSome = some (v, h')) : Eff (fun g => oNewFz slot sz rows g kSome) n0 wr I .r h v h' := by
 have hf' := hf
 unfold oNewFz at hf'
 split at hf' <;> try (cases hf'; done)
 rename_i rs
 split at hf' <;> try (cases hf'; done)
 rename_i hp
 unfold qah at hf'
 simp only at hf'
 split at hf' <;> try (cases hf'; done)
 rename_i hz
 have hE := fun g => oNewFz_eq (slot := slot) hp hz g
 rw [hE h] at hf
 split at hf <;> try (cases hf; done)
 rename_i hs
 simp only [Option.some.injEq, Prod.mk.injEq] at hf
 obtain ⟨rfl, rfl⟩ := hf
 have hl := (List.getElem?_eq_some_iff.1 hs).1
 refine .loc [slot] [slot] (.inr (.inl rfl)) ⟨by simp, fun id hid => ?_, fun id hid => hid, fun id hid => ?_, fun g hg => ?_⟩ ⟨fun id hid => .inl hid, fun id hid => ?_, (fun hl => by cases hl), fun _ id hid => hid⟩
 · simp at hid; subst hid; exact hl
 · simp at hid; rw [set_get hl, if_neg hid]
 · have hgs : g[slot]? = some .res := by rw [hg slot (by simp)]; exact hs
   have hgl := (List.getElem?_eq_some_iff.1 hgs).1
   refine ⟨g.set slot .dead, ?_, by simp, fun id hid => ?_, fun id hid => ?_⟩
   · rw [hE g, hgs]
   · simp at hid; subst hid; rw [set_get hgl, set_get hl]; simp
   · simp at hid; rw [set_get hgl, if_neg hid]
 · simp at hid; subst hid; exact ⟨.inl hn, by rw [set_get hl]; simp, .inl hs⟩
theorem oMake_eff {wr : List Nat} {n0 slot sz b : Nat} {I : Nat → Prop} {z : List A} {l c : A} (hn : n0 ≤ slot) (hf : oMake (some slot) sz b z l c h kSome = some (v, h')) : Eff (fun g => oMake (some slot) sz b z l c g kSome) n0 wr I .r h v h' := by
 have hf' := hf
 unfold oMake at hf'
 split at hf' <;> try (cases hf'; done)
 split at hf' <;> try (cases hf'; done)
 rename_i hc
 have : ∀ g : Heap, oMake (some slot) sz b z (.s (.int .i64 _)) (.s (.int .i64 _)) g kSome = _ := fun g => if_pos hc
 simp only [this]
 exact qhI hn hf'
theorem oLoadD_eff {wr : List Nat} {n0 : Nat} {I : Nat → Prop} {n : Option Nat} {a : A} (hI : ∀ id ∈ idTop a, I id) (hf : oLoadD n0 wr n a h kSome = some (v, h')) : Eff (fun g => oLoadD n0 wr n a g kSome) n0 wr I .l h v h' := by
 unfold oLoadD at hf
 split at hf <;> try (cases hf; done)
 · rename_i id ver rr o
   split at hf <;> try (cases hf; done)
   rename_i hlt
   obtain ⟨v0, h1, h2⟩ := qhK hf
   cases h2
   have hl : id < h.length := by
    have := h1 (k' := some)
    simp only [oLoad] at this
    split at this <;> try (cases this; done)
    rename_i hob
    exact (List.getElem?_eq_some_iff.1 hob).1
   refine .loc [id] [] (.inl rfl) ⟨rfl, by simpa using hl, by simp, fun _ _ => rfl, fun g hg => ⟨g, ?_, rfl, by simp, fun _ _ => rfl⟩⟩ ⟨fun x hx => .inr ?_, by simp, fun _ x hx => by simp at hx; subst hx; exact hlt, fun hr => by cases hr⟩
   · have hgi := hg id (by simp)
     have := h1 (k' := fun v => some (v, g))
     simp only [oLoadD, kSome]; rw [if_pos hlt]
     rw [← this]
     simp only [oLoad, hgi]
   · simp at hx; subst hx; exact hI _ (by simp [idTop])
 · rename_i cs
   obtain ⟨v0, h1, h2⟩ := qhK hf
   simp only [kSome, Option.some.injEq, Prod.mk.injEq] at h2
   obtain ⟨rfl, rfl⟩ := h2
   exact .pure rfl fun g => h1 (k' := fun v => some (v, g))
theorem qk0 {wr : List Nat} {n0 : Nat} {I : Nat → Prop} {a : A} (hI : ∀ id ∈ idTop a, I id) (hf : qc3 n0 wr a h kSome = some (v, h')) : Eff (fun g => qc3 n0 wr a g kSome) n0 wr I .l h v h' := by
 unfold qc3 at hf
 split at hf <;> try (cases hf; done)
 · rename_i id ver sz lo len
   split at hf <;> try (cases hf; done)
   rename_i hlt
   obtain ⟨v0, h1, h2⟩ := qd5 hf
   cases h2
   have hl : id < h.length := by
    have := h1 (k' := some)
    simp only [qbL] at this
    split at this <;> try (cases this; done)
    rename_i hr
    exact qfu hr id (by simp [idTop])
   refine .loc [id] [] (.inl rfl) ⟨rfl, by simpa using hl, by simp, fun _ _ => rfl, fun g hg => ⟨g, ?_, rfl, by simp, fun _ _ => rfl⟩⟩ ⟨fun x hx => .inr ?_, by simp, fun _ x hx => by simp at hx; subst hx; exact hlt, fun hr => by cases hr⟩
   · have hrw : rowsOf 1 (.osl id ver sz lo len) g = rowsOf 1 (.osl id ver sz lo len) h := qe7 fun j hj => hg j (by simpa [idTop] using hj)
     have := h1 (k' := fun v => some (v, g))
     simp only [qc3, kSome]; rw [if_pos hlt]
     rw [← this]
     simp only [qbL, hrw]
   · simp at hx; subst hx; exact hI _ (by simp [idTop])
 · rename_i sz rows
   obtain ⟨v0, h1, h2⟩ := qd5 hf
   simp only [kSome, Option.some.injEq, Prod.mk.injEq] at h2
   obtain ⟨rfl, rfl⟩ := h2
   refine .pure rfl fun g => ?_
   have := h1 (k' := fun v => some (v, g))
   simp only [qc3, kSome]
   rw [← this]
   simp only [qbL, rowsOf]
 · rename_i u
   obtain ⟨v0, h1, h2⟩ := qd5 hf
   simp only [kSome, Option.some.injEq, Prod.mk.injEq] at h2
   obtain ⟨rfl, rfl⟩ := h2
   refine .pure rfl fun g => ?_
   have := h1 (k' := fun v => some (v, g))
   simp only [qc3, kSome]
   rw [← this]
   have hrw : rowsOf 1 (.s u) g = rowsOf 1 (.s u) h := qe7 fun j hj => by simp [idTop] at hj
   simp only [qbL, hrw]
theorem sameA_eq : ∀ {a b : A}, sameA a b = true → a = b
 | .osl a b c d e, .osl a' b' c' d' e', h => by simp [sameA] at h; obtain ⟨h1, h2, h3, h4, h5⟩ := h; subst h1; subst h2; subst h3; subst h4; subst h5; rfl
 | .s (.slice none 0 0), .s (.slice none 0 0), _ => rfl
theorem same_store {n : Option Nat} {id ver row off : Nat} {x : A} (hs : qhn n id row off x h = true) (k : Heap → Option (A × Heap)) (hf : oStore n (.ptr id ver row off) x h k = some (v, h')) :
 ∃ ob, h[id]? = some (.live ob) ∧ ∀ g : Heap, (Unit → g[id]? = h[id]?) → qhn n id row off x g = true ∧ oStore n (.ptr id ver row off) x g k = k g := by
 have hs' := hs
 unfold qhn at hs'
 split at hs' <;> try (cases hs'; done)
 rename_i hob
 rename_i ob
 split at hs' <;> try (cases hs'; done)
 rename_i rw_ hrow
 split at hs' <;> try (cases hs'; done)
 rename_i c hc
 obtain rfl := sameA_eq hs'
 unfold oStore at hf
 simp only [hob] at hf
 split at hf <;> try (cases hf; done)
 rename_i hver
 simp only [hrow] at hf
 split at hf <;> try (cases hf; done)
 rename_i row2 cs h1 h2
 cases h1
 split at hf <;> try (cases hf; done)
 rename_i hlen
 refine ⟨ob, hob, fun g hg => ?_⟩
 have hgi : g[id]? = some (.live ob) := by rw [hg ()]; exact hob
 refine ⟨by unfold qhn; simp only [hgi, hrow, hc]; exact hs', ?_⟩
 have hcs : cs = [c] := by
  simp only [asCells] at h2
  split at h2 <;> simp at h2
  exact h2.symm
 subst hcs
 have hput : qa5 rw_ off [c] = rw_ := by
  apply List.ext_getElem?
  intro j
  have hol : off < rw_.length := (List.getElem?_eq_some_iff.1 hc).1
  have hset : qa5 rw_ off [c] = rw_.set off c := by
   rw [List.set_eq_take_append_cons_drop, if_pos hol]; simp [qa5]
  rw [hset, List.getElem?_set]
  split
  · rename_i hj; subst hj; first | (rw [if_pos hol, hc]; done) | exact hc.symm
  · rfl
 have hrs : ob.rows.set row rw_ = ob.rows := by
  apply List.ext_getElem?
  intro j
  rw [List.getElem?_set]
  split
  · rename_i hj; subst hj; first | (rw [if_pos (List.getElem?_eq_some_iff.1 hrow).1, hrow]; done) | exact hrow.symm
  · rfl
 have hgs : g.set id (.live ob) = g := by
  apply List.ext_getElem?
  intro j
  rw [List.getElem?_set]
  split
  · rename_i hj; subst hj; first | (rw [if_pos (List.getElem?_eq_some_iff.1 hgi).1, hgi]; done) | exact hgi.symm
  · rfl
 unfold oStore
 simp only [hgi, hver, if_true, hrow, h2, hlen]
 rw [hput, hrs]
 have : ({ ver := ver, sz := ob.sz, rows := ob.rows } : Obj) = ob := by subst hver; rfl
 rw [this, hgs]
theorem qmF {wr : List Nat} {n0 : Nat} {I : Nat → Prop} {n : Option Nat} {a x : A} (hI : ∀ id ∈ idTop a, I id) (hf : oStoreD n0 wr n a x h (fun h => kSome (.s undef) h) = some (v, h')) :
 Eff (fun g => oStoreD n0 wr n a x g (fun h => kSome (.s undef) h)) n0 wr I .ap h v h' := by
 have hf' := hf
 unfold oStoreD at hf'
 split at hf' <;> try (cases hf'; done)
 rename_i id ver row off
 by_cases hlt : n0 ≤ id ∨ id ∈ wr
 case neg =>
  rw [if_neg hlt] at hf'
  split at hf' <;> try (cases hf'; done)
  rename_i hsame
  have hh := same_store hsame (kSome (.s undef)) hf'
  obtain ⟨ob, hob, hst⟩ := hh
  have hv : v = .s undef ∧ h' = h := by
   have := (hst h (fun _ => rfl)).2
   rw [this] at hf'
   simp only [kSome, Option.some.injEq, Prod.mk.injEq] at hf'
   exact ⟨hf'.1.symm, hf'.2.symm⟩
  obtain ⟨rfl, rfl⟩ := hv
  have hl := (List.getElem?_eq_some_iff.1 hob).1
  refine .loc [id] [] (.inr (.inr rfl)) ⟨rfl, fun j hj => ?_, by simp, fun j hj => rfl, fun g hg => ?_⟩ ⟨fun j hj => .inr (hI _ (by simp at hj; subst hj; simp [idTop])), by simp, (fun h => by cases h), (fun h => by cases h)⟩
  · simp at hj; subst hj; exact hl
  · obtain ⟨g1, g2⟩ := hst g (fun _ => hg id (by simp))
    refine ⟨g, ?_, rfl, by simp, fun j hj => rfl⟩
    simp only [oStoreD]
    rw [if_neg hlt, if_pos g1, g2]
 rw [if_pos hlt] at hf'
 unfold oStore at hf'
 simp only at hf'
 split at hf' <;> try (cases hf'; done)
 rename_i ob hob
 split at hf' <;> try (cases hf'; done)
 rename_i hver
 split at hf' <;> try (cases hf'; done)
 rename_i rw_ cs hrow hcs
 split at hf' <;> try (cases hf'; done)
 rename_i hlen
 simp only [kSome, Option.some.injEq, Prod.mk.injEq] at hf'
 obtain ⟨rfl, rfl⟩ := hf'
 have hl := (List.getElem?_eq_some_iff.1 hob).1
 refine .loc [id] [id] (.inr (.inr rfl)) ⟨by simp, fun j hj => ?_, by simp, fun j hj => ?_, fun g hg => ?_⟩ ⟨fun j hj => ?_, fun j hj => ?_, (fun h => by cases h), (fun h => by cases h)⟩
 · simp at hj; subst hj; exact hl
 · simp at hj; rw [set_get hl, if_neg hj]
 · have hgi : g[id]? = some (.live ob) := by rw [hg id (by simp)]; exact hob
   have hgl := (List.getElem?_eq_some_iff.1 hgi).1
   refine ⟨g.set id (.live { ob with rows := ob.rows.set row (qa5 rw_ off cs) }), ?_, by simp, fun j hj => ?_, fun j hj => ?_⟩
   · simp only [oStoreD]; rw [if_pos hlt]; simp only [oStore, hgi, hver, if_true, hrow, hcs, hlen, kSome]
   · simp at hj; subst hj; rw [set_get hgl, set_get hl, if_pos rfl, if_pos rfl]
   · simp at hj; rw [set_get hgl, if_neg hj]
 · exact .inl hj
 · simp at hj; subst hj
   exact ⟨hlt, by rw [set_get hl]; simp, .inr ⟨hI _ (by simp [idTop]), rfl⟩⟩
theorem qlQ {wr : List Nat} {n0 slot sz b : Nat} {I : Nat → Prop} {x y : A} (hn : n0 ≤ slot) (hx : ∀ id ∈ idTop x, I id) (hy : ∀ id ∈ idTop y, I id) (hf : qb2 n0 wr slot sz b x y h kSome = some (v, h')) :
 Eff (fun g => qb2 n0 wr slot sz b x y g kSome) n0 wr I .ap h v h' := by
 have hf' := hf
 unfold qb2 at hf'
 split at hf' <;> try (cases hf'; done)
 · rename_i id ver sz' lo len
   split at hf' <;> try (cases hf'; done)
   rename_i hlt
   unfold oAppend at hf'
   split at hf' <;> try (cases hf'; done)
   rename_i new hnew
   simp only at hf'
   split at hf' <;> try (cases hf'; done)
   rename_i ob hob
   split at hf' <;> try (cases hf'; done)
   rename_i hc
   cases hf'
   have hl := (List.getElem?_eq_some_iff.1 hob).1
   refine .loc (id :: idTop y) [id] (.inr (.inr rfl)) ⟨by simp, fun j hj => ?_, by simp, fun j hj => ?_, fun g hg => ?_⟩ ⟨fun j hj => ?_, fun j hj => ?_, (fun h => by cases h), (fun h => by cases h)⟩
   · simp at hj; rcases hj with rfl | hj
     · exact hl
     · exact qfu hnew j hj
   · simp at hj; rw [set_get hl, if_neg hj]
   · have hgi : g[id]? = some (.live ob) := by rw [hg id (by simp)]; exact hob
     have hgl := (List.getElem?_eq_some_iff.1 hgi).1
     have hrw : rowsOf sz y g = some new := by rw [qe7 fun j hj => hg j (by simp [hj])]; exact hnew
     refine ⟨g.set id (.live ⟨ver + 1, ob.sz, (ob.rows.drop lo).take len ++ new⟩), ?_, ?_, fun j hj => ?_, fun j hj => ?_⟩
     · simp only [qb2]; rw [if_pos hlt]; simp only [oAppend, hrw, hgi, hc, and_self, if_true]
     · simp
     · simp at hj; subst hj; rw [set_get hgl, set_get hl]; simp
     · simp at hj; rw [set_get hgl, if_neg hj]
   · simp at hj; rcases hj with rfl | hj
     · exact .inl (by simp)
     · exact .inr (hy j hj)
   · simp at hj; subst hj
     exact ⟨hlt, by rw [set_get hl]; simp, .inr ⟨hx _ (by simp [idTop]), rfl⟩⟩
 · unfold oAppend at hf'
   split at hf' <;> try (cases hf'; done)
   rename_i new hnew
   simp only at hf'
   split at hf' <;> try (cases hf'; done)
   rename_i hc
   refine .place (idTop y) (.inr rfl) hn hy (fun _ => ⟨0, sz, new⟩) (.osl slot 0 sz 0 new.length) (qfu hnew) (fun g hg => ?_) hf
   have hrw : rowsOf sz y g = some new := by rw [qe7 fun j hj => hg j (by simp [hj])]; exact hnew
   simp only [qb2, oAppend, hrw]
   rw [if_pos hc]
   cases hp : Go.Ab.place (some slot) g ⟨0, sz, new⟩ with
   | none => rfl
   | some q => obtain ⟨id, g'⟩ := q; obtain rfl := qkV hp; rfl
end
end Go.Ab
