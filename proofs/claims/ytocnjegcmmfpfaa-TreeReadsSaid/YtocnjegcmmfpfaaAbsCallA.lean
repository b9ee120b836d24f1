/-
 OBJECTS NUMBERED ANEW: what a call is handed, what comes back.
-/
import Derived.Test.YtocnjegcmmfpfaaAbsSoundX
set_option linter.unusedSimpArgs false
set_option linter.unusedVariables false
namespace Go.Ab
open Go
section
variable {P : Program} {w w' : World} {F F' : Cells} {ρ ρ' ρ2 : Nat → Reg} {h h' h2 : Heap} {β : Type} {r : β}
theorem renL_id {f : Nat → Option Nat} : ∀ {l l' : List A}, (∀ i (hi : i < l.length) a', renA f l[i] = some a' → a' = l[i]) → renL f l = some l' → l' = l
 | [], l', _, h => by simp [renL] at h; exact h
 | a :: r, l', hh, h => by
   simp only [renL, Option.bind_eq_some_iff, Option.map_eq_some_iff] at h
   obtain ⟨a', h1, r', h2, rfl⟩ := h
   rw [hh 0 (by simp) a' h1, renL_id (fun i hi a' h => hh (i + 1) (by simp; omega) a' h) h2]
   rfl
theorem Fz.ren {v : Value} {a a' : A} {f : Nat → Option Nat} (hz : Fz P w F v a) (h : renA f a = some a') : a' = a := by
 induction hz generalizing a' with
 | agg vs cs hs h1 hr ih =>
   simp only [renA, Option.map_eq_some_iff] at h
   obtain ⟨l, h, rfl⟩ := h
   rw [renL_id (fun i hi a' h => ih i hi h) h]
 | tup vs cs hs hr ih =>
   simp only [renA, Option.map_eq_some_iff] at h
   obtain ⟨l, h, rfl⟩ := h
   rw [renL_id (fun i hi a' h => ih i hi h) h]
 | fn g fn caps cs hf hs hr ih =>
   simp only [renA, Option.map_eq_some_iff] at h
   obtain ⟨l, h, rfl⟩ := h
   rw [renL_id (fun i hi a' h => ih i hi h) h]
 | bound g fn v a hf hp hr ih =>
   simp only [renA, Option.map_eq_some_iff] at h
   obtain ⟨l, h, rfl⟩ := h
   rw [renL_id (l := [bndM, a]) (fun i hi a' h => ?_) h]
   match i, hi with
   | 0, _ => simp [renA] at h; exact h.symm
   | 1, _ => exact ih h
 | iface t ty v a ht hr ih =>
   simp only [renA, Option.map_eq_some_iff] at h
   obtain ⟨l, h, rfl⟩ := h
   rw [ih h]
 | _ => simp [renA] at h; exact h.symm
theorem qfv {f : Nat → Option Nat} : ∀ {l l' : List A}, renL f l = some l' → l'.length = l.length ∧ ∀ i (hi : i < l.length) (hi' : i < l'.length), renA f l[i] = some l'[i]
 | [], l', h => by simp [renL] at h; subst h; simp
 | a :: r, l', h => by
   simp only [renL, Option.bind_eq_some_iff, Option.map_eq_some_iff] at h
   obtain ⟨a', h1, r', h2, rfl⟩ := h
   obtain ⟨g1, g2⟩ := qfv h2
   refine ⟨by simp [g1], fun i hi hi' => ?_⟩
   cases i with
   | zero => exact h1
   | succ i => exact g2 i (by simpa using hi) (by simpa using hi')
structure Ren (f : Nat → Option Nat) (ρ : Nat → Reg) (h : Heap) (ρ' : Nat → Reg) (h' : Heap) : Prop where
 lt : ∀ id id', f id = some id' → id < h.length → id' < h'.length
 res : ∀ id id', f id = some id' → id < h.length → h'[id']? = some .res → h[id]? = some .res
 live : ∀ id id' ob', f id = some id' → id < h.length → h'[id']? = some (.live ob') → ∃ ob, h[id]? = some (.live ob) ∧ ob.ver = ob'.ver ∧ ρ' id' = ρ id
 mp : ∀ id id' kd es', f id = some id' → id < h.length → h'[id']? = some (.mp kd es') → h[id]? = some (.mp kd es') ∧ ρ' id' = ρ id
theorem Rel.ren {v : Value} {a a' : A} {f : Nat → Option Nat} (n : Ren f ρ h ρ' h') (hr : Rel P w F ρ h v a) (ha : renA f a = some a') : Rel P w F ρ' h' v a' := by
 induction hr generalizing a' with
 | pure v a hz => rw [hz.ren ha]; exact .pure _ _ hz
 | any v => simp [renA] at ha; subst ha; exact .any v
 | ptr x id ver row off hl hn hx =>
   simp only [renA, Option.map_eq_some_iff] at ha
   obtain ⟨id', hid, rfl⟩ := ha
   refine .ptr x id' ver row off (n.lt _ _ hid hl) (fun s hs he => ?_) fun ob' hob => ?_
   · subst he; exact hn _ (n.res _ _ hid hl hs) rfl
   · obtain ⟨ob, h1, h2, h3⟩ := n.live _ _ _ hid hl hob
     obtain ⟨g1, g2⟩ := hx ob h1
     exact ⟨by omega, fun hv => by rw [h3]; exact g2 (by omega)⟩
 | osl a len c id ver sz lo hl hn hc hsm hx =>
   simp only [renA, Option.map_eq_some_iff] at ha
   obtain ⟨id', hid, rfl⟩ := ha
   refine .osl a len c id' ver sz lo (n.lt _ _ hid hl) (fun s hs he => ?_) hc hsm fun ob' hob => ?_
   · subst he; exact hn _ (n.res _ _ hid hl hs) rfl
   · obtain ⟨ob, h1, h2, h3⟩ := n.live _ _ _ hid hl hob
     obtain ⟨g1, g2⟩ := hx ob h1
     exact ⟨by omega, fun hv => by rw [h3]; exact g2 (by omega)⟩
 | agg vs cs hs h1 hr ih =>
   simp only [renA, Option.map_eq_some_iff] at ha
   obtain ⟨l, hl, rfl⟩ := ha
   obtain ⟨g1, g2⟩ := qfv hl
   exact .agg vs l (by omega) (fun i hi => h1 i (by omega)) fun i hi => ih i (by omega) (g2 i (by omega) hi)
 | tup vs cs hs hr ih =>
   simp only [renA, Option.map_eq_some_iff] at ha
   obtain ⟨l, hl, rfl⟩ := ha
   obtain ⟨g1, g2⟩ := qfv hl
   exact .tup vs l (by omega) fun i hi => ih i (by omega) (g2 i (by omega) hi)
 | fn g fn caps cs hf hs hr ih =>
   simp only [renA, Option.map_eq_some_iff] at ha
   obtain ⟨l, hl, rfl⟩ := ha
   obtain ⟨g1, g2⟩ := qfv hl
   exact .fn g fn caps l hf (by omega) fun i hi => ih i (by omega) (g2 i (by omega) hi)
 | iface t ty v a ht hr ih =>
   simp only [renA, Option.map_eq_some_iff] at ha
   obtain ⟨l, hl, rfl⟩ := ha
   exact .iface t ty v l ht (ih hl)
 | mref b id hl hn hx =>
   simp only [renA, Option.map_eq_some_iff] at ha
   obtain ⟨id', hid, rfl⟩ := ha
   refine .mref b id' (n.lt _ _ hid hl) (fun s hs he => ?_) fun kd es hes => ?_
   · subst he; exact hn _ (n.res _ _ hid hl hs) rfl
   · obtain ⟨h1, h2⟩ := n.mp _ _ _ _ hid hl hes
     rw [h2]; exact hx kd es h1
theorem qjn {f : Nat → Option Nat} : ∀ {l l' : List (List A)}, renRows f l = some l' → l'.length = l.length ∧ ∀ i (hi : i < l.length) (hi' : i < l'.length), renL f l[i] = some l'[i]
 | [], l', h => by simp [renRows] at h; subst h; simp
 | a :: r, l', h => by
   simp only [renRows, Option.bind_eq_some_iff, Option.map_eq_some_iff] at h
   obtain ⟨a', h1, r', h2, rfl⟩ := h
   obtain ⟨g1, g2⟩ := qjn h2
   refine ⟨by simp [g1], fun i hi hi' => ?_⟩
   cases i with
   | zero => exact h1
   | succ i => exact g2 i (by simpa using hi) (by simpa using hi')
theorem qeP {f : Nat → Option Nat} : ∀ {l l' : Heap}, renHeap f l = some l' → l'.length = l.length ∧ ∀ i (hi : i < l.length) (hi' : i < l'.length), renSlot f l[i] = some l'[i]
 | [], l', h => by simp [renHeap] at h; subst h; simp
 | a :: r, l', h => by
   simp only [renHeap, Option.bind_eq_some_iff, Option.map_eq_some_iff] at h
   obtain ⟨a', h1, r', h2, rfl⟩ := h
   obtain ⟨g1, g2⟩ := qeP h2
   refine ⟨by simp [g1], fun i hi hi' => ?_⟩
   cases i with
   | zero => exact h1
   | succ i => exact g2 i (by simpa using hi) (by simpa using hi')
theorem qcK {f : Nat → Option Nat} {s : Slot} {ob' : Obj} (h : renSlot f s = some (.live ob')) : ∃ ob, s = .live ob ∧ ob'.ver = ob.ver ∧ ob'.sz = ob.sz ∧ renRows f ob.rows = some ob'.rows := by
 cases s with
 | dead => simp [renSlot] at h
 | res => simp [renSlot] at h
 | live ob =>
   simp only [renSlot, Option.map_eq_some_iff, Slot.live.injEq] at h
   obtain ⟨rows, h, rfl⟩ := h
   exact ⟨ob, rfl, rfl, rfl, h⟩
 | mp kd es => simp [renSlot] at h
theorem qbG {f : Nat → Option Nat} {s : Slot} {kd : IntKind} {es : List (Int × A)} (h : renSlot f s = some (.mp kd es)) : s = .mp kd es := by
 cases s with
 | dead => simp [renSlot] at h
 | res => simp [renSlot] at h
 | live ob => simp [renSlot] at h
 | mp kd' es' => simp [renSlot] at h; obtain ⟨rfl, rfl⟩ := h; rfl
theorem qcJ {f : Nat → Option Nat} {s : Slot} (h : renSlot f s = some .res) : False := by
 cases s with
 | dead => simp [renSlot] at h
 | res => simp [renSlot] at h
 | live ob => simp [renSlot] at h
 | mp kd es => simp [renSlot] at h
theorem ObjOk.ren {f : Nat → Option Nat} {id id' : Nat} {ob ob' : Obj} (n : Ren f ρ h ρ' h') (k : ObjOk P w F ρ h id ob) (hρ : ρ' id' = ρ id) (h1 : ob'.sz = ob.sz) (h2 : renRows f ob.rows = some ob'.rows) :
 ObjOk P w F ρ' h' id' ob' := by
 obtain ⟨g1, g2⟩ := qjn h2
 have rl : ∀ i (hi : i < ob.rows.length) (hi' : i < ob'.rows.length), ob'.rows[i].length = ob.rows[i].length := fun i hi hi' => (qfv (g2 i hi hi')).1
 refine ⟨by rw [hρ, k.sz, h1], by rw [h1]; exact k.pos, by rw [hρ, g1]; exact k.len, fun row hrow => ?_, fun j hj => ?_, fun i j hi hj => ?_⟩
 · obtain ⟨i, hi, rfl⟩ := List.mem_iff_getElem.1 hrow
   rw [rl i (by omega) hi, h1]
   exact k.width _ (List.getElem_mem _)
 · rw [hρ] at hj ⊢; exact k.cell j hj
 · have hj' : j < (ob.rows[i]'(by omega)).length := by rw [← rl i (by omega) hi]; exact hj
   obtain ⟨v, e1, e2, e3⟩ := k.rel i j (by omega) hj'
   rw [hρ]
   exact ⟨v, e1, e2, e3.ren n ((qfv (g2 i (by omega) hi)).2 j hj' hj)⟩
theorem qfm (h : Heap) : ∀ (n : Nat) (seen todo : List Nat), seen.Nodup → (reach h n seen todo).Nodup ∧ ∃ l, reach h n seen todo = seen ++ l
 | 0, seen, _, hn => by simp only [reach]; exact ⟨hn, [], by simp⟩
 | n + 1, seen, [], hn => by simp only [reach]; exact ⟨hn, [], by simp⟩
 | n + 1, seen, id :: todo, hn => by
   simp only [reach]
   split
   · exact qfm h n seen todo hn
   · rename_i hc
     have hc' : id ∉ seen := by simpa using hc
     obtain ⟨g1, l, g2⟩ := qfm h n (seen ++ [id]) ((h.getD id .dead).ids ++ todo) (by
      rw [List.nodup_append]; exact ⟨hn, by simp, fun a ha b hb => by simp at hb; subst hb; intro e; subst e; exact hc' ha⟩)
     exact ⟨g1, id :: l, by rw [g2]; simp⟩
theorem qj5 {ids : List Nat} {id j : Nat} (h : idx ids id = some j) : ids[j]? = some id := by
 unfold idx at h
 rw [List.idxOf?_eq_some_iff] at h
 obtain ⟨h1, h2, h3⟩ := h
 rw [List.getElem?_eq_getElem h1]
 simpa using h2
theorem qhL {ids : List Nat} (hn : ids.Nodup) {i j id : Nat} (hi : ids[i]? = some id) (hj : ids[j]? = some id) : i = j := by
 obtain ⟨h1, h2⟩ := List.getElem?_eq_some_iff.1 hi
 obtain ⟨h3, h4⟩ := List.getElem?_eq_some_iff.1 hj
 have hp := List.pairwise_iff_getElem.1 hn
 rcases Nat.lt_trichotomy i j with hlt | he | hlt
 · exact absurd (h2.trans h4.symm) (hp i j h1 h3 hlt)
 · exact he
 · exact absurd (h4.trans h2.symm) (hp j i h3 h1 hlt)
theorem idx_of {ids : List Nat} (hn : ids.Nodup) {id j : Nat} (h : ids[j]? = some id) : idx ids id = some j := by
 cases hh : idx ids id with
 | none =>
   unfold idx at hh
   rw [List.idxOf?_eq_none_iff] at hh
   exact absurd (List.mem_of_getElem? h) hh
 | some k => rw [qhL hn (qj5 hh) h]
theorem qhC {ids : List Nat} {objs : Heap} (hn : ids.Nodup) (ho : renHeap (idx ids) (ids.map (h.getD · .dead)) = some objs) : Ren (idx ids) ρ h (fun j => ρ (ids.getD j 0)) objs ∧ objs.length = ids.length ∧
 ∀ (j : Nat) s, objs[j]? = some s → ∃ id, ids[j]? = some id ∧ renSlot (idx ids) (h.getD id .dead) = some s := by
 obtain ⟨g1, g2⟩ := qeP ho
 simp at g1
 have slot : ∀ (j : Nat) s, objs[j]? = some s → ∃ id, ids[j]? = some id ∧ renSlot (idx ids) (h.getD id .dead) = some s := by
  intro j s hs
  obtain ⟨hj, rfl⟩ := List.getElem?_eq_some_iff.1 hs
  have := g2 j (by simp; omega) hj
  simp only [List.getElem_map] at this
  exact ⟨ids[j], List.getElem?_eq_getElem (by omega), this⟩
 refine ⟨⟨fun id j hid hl => ?_, fun id j hid hl hr => ?_, fun id j ob' hid hl hob => ?_, fun id j kd es hid hl hes => ?_⟩, g1, slot⟩
 rotate_left 3
 · obtain ⟨id2, e1, e2⟩ := slot j _ hes
   have hi := qj5 hid
   rw [hi] at e1; cases e1
   have e3 := qbG e2
   refine ⟨?_, by simp [List.getD_eq_getElem?_getD, hi]⟩
   rw [List.getD_eq_getElem?_getD, List.getElem?_eq_getElem hl] at e3
   rw [List.getElem?_eq_getElem hl, ← e3]; rfl
 · have := (List.getElem?_eq_some_iff.1 (qj5 hid)).1; omega
 · obtain ⟨id2, e1, e2⟩ := slot j _ hr
   exact (qcJ e2).elim
 · obtain ⟨id2, e1, e2⟩ := slot j _ hob
   have hi := qj5 hid
   rw [hi] at e1; cases e1
   obtain ⟨ob, e3, e4, e5, e6⟩ := qcK e2
   refine ⟨ob, ?_, e4.symm, ?_⟩
   · rw [List.getD_eq_getElem?_getD, List.getElem?_eq_getElem hl] at e3
     rw [List.getElem?_eq_getElem hl, ← e3]; rfl
   · simp [List.getD_eq_getElem?_getD, hi]
theorem qm4 {id : Nat} {ob : Obj} (e : h.getD id .dead = .live ob) : h[id]? = some (.live ob) := by
 rw [List.getD_eq_getElem?_getD] at e
 cases hh : h[id]? with
 | none => simp [hh] at e
 | some s => simp [hh] at e; rw [e]
theorem getD_mp {id : Nat} {kd : IntKind} {es : List (Int × A)} (e : h.getD id .dead = .mp kd es) : h[id]? = some (.mp kd es) := by
 rw [List.getD_eq_getElem?_getD] at e
 cases hh : h[id]? with
 | none => simp [hh] at e
 | some s => simp [hh] at e; rw [e]
def MemAt (ρ : Nat → Reg) (h : Heap) (id b o : Nat) : Prop := (∃ ob, h[id]? = some (.live ob) ∧ (ρ id).has b o) ∨ ∃ kd es, h[id]? = some (.mp kd es) ∧ b = (ρ id).b
theorem MemAt.mem {id b o : Nat} (m : MemAt ρ h id b o) : Mem ρ h b o := by
 rcases m with ⟨ob, h1, h2⟩ | ⟨kd, es, h1, h2⟩
 · exact .inl ⟨id, ob, h1, h2⟩
 · exact .inr ⟨id, kd, es, h1, h2⟩
theorem Inv.pick {ids : List Nat} {objs : Heap} (i : Inv P w F ρ h) (hn : ids.Nodup) (ho : renHeap (idx ids) (ids.map (h.getD · .dead)) = some objs) : Inv P w F (fun j => ρ (ids.getD j 0)) objs ∧
 ∀ (j : Nat) ob', objs[j]? = some (.live ob') → ∃ id ob, ids[j]? = some id ∧ h[id]? = some (.live ob) ∧ ob'.ver = ob.ver ∧ (fun j => ρ (ids.getD j 0)) j = ρ id := by
 obtain ⟨n, hl, slot⟩ := qhC (ρ := ρ) hn ho
 have live : ∀ (j : Nat) ob', objs[j]? = some (.live ob') → ∃ id ob, ids[j]? = some id ∧ h[id]? = some (.live ob) ∧ ob'.ver = ob.ver ∧ ob'.sz = ob.sz ∧ renRows (idx ids) ob.rows = some ob'.rows ∧ (fun j => ρ (ids.getD j 0)) j = ρ id := by
  intro j ob' hob
  obtain ⟨id, e1, e2⟩ := slot j _ hob
  obtain ⟨ob, e3, e4, e5, e6⟩ := qcK e2
  exact ⟨id, ob, e1, qm4 e3, e4, e5, e6, by simp [List.getD_eq_getElem?_getD, e1]⟩
 have mps : ∀ (j : Nat) kd es, objs[j]? = some (.mp kd es) → ∃ id, ids[j]? = some id ∧ h[id]? = some (.mp kd es) ∧ (fun j => ρ (ids.getD j 0)) j = ρ id := by
  intro j kd es hes
  obtain ⟨id, e1, e2⟩ := slot j _ hes
  exact ⟨id, e1, getD_mp (qbG e2), by simp [List.getD_eq_getElem?_getD, e1]⟩
 refine ⟨⟨fun j ob' hob => ?_, fun j m oj om hjm hoj hom b o hb => ?_, i.fin, fun j kd es hes => ?_, fun j m kj ej km em hjm hj hm => ?_⟩, fun j ob' hob => ?_⟩
 rotate_left 2
 · obtain ⟨id, e1, e2, e3⟩ := mps j kd es hes
   simp only at e3
   rw [e3]; exact i.mp id kd es e2
 · obtain ⟨id1, e1, e2, e3⟩ := mps j _ _ hj
   obtain ⟨id2, d1, d2, d3⟩ := mps m _ _ hm
   have hne : id1 ≠ id2 := by rintro rfl; exact hjm (qhL hn e1 d1)
   simp only at e3 d3
   rw [e3, d3]; exact i.mpd id1 id2 _ _ _ _ hne e2 d2
 rotate_left 1
 · obtain ⟨id, ob, e1, e2, e3, e4, e5, e6⟩ := live j ob' hob
   exact (i.obj id ob e2).ren n e6 e4 e5
 · obtain ⟨id1, ob1, e1, e2, e3, e4, e5, e6⟩ := live j oj hoj
   obtain ⟨id2, ob2, d1, d2, d3, d4, d5, d6⟩ := live m om hom
   have hne : id1 ≠ id2 := by rintro rfl; exact hjm (qhL hn e1 d1)
   simp only at e6 d6
   rw [e6] at hb; rw [d6]
   exact i.disj id1 id2 ob1 ob2 hne e2 d2 b o hb
 · obtain ⟨id, ob, e1, e2, e3, e4, e5, e6⟩ := live j ob' hob
   exact ⟨id, ob, e1, e2, e3, e6⟩
theorem Inv.pick_mem {ids : List Nat} {objs : Heap} (i : Inv P w F ρ h) (hn : ids.Nodup) (ho : renHeap (idx ids) (ids.map (h.getD · .dead)) = some objs) {b o : Nat} (hm : Mem (fun j => ρ (ids.getD j 0)) objs b o) :
 ∃ id, id ∈ ids ∧ MemAt ρ h id b o := by
 rcases hm with ⟨j, ob', hob, hr⟩ | ⟨j, kd, es, hes, hb⟩
 · obtain ⟨id, ob, e1, e2, e3, e6⟩ := (i.pick hn ho).2 j ob' hob
   simp only at e6 hr
   rw [e6] at hr
   exact ⟨id, List.mem_of_getElem? e1, .inl ⟨ob, e2, hr⟩⟩
 · obtain ⟨id, e1, e2⟩ := (qhC (ρ := ρ) hn ho).2.2 j _ hes
   have : ids.getD j 0 = id := by simp [List.getD_eq_getElem?_getD, e1]
   simp only [this] at hb
   exact ⟨id, List.mem_of_getElem? e1, .inr ⟨kd, es, getD_mp (qbG e2), hb⟩⟩
end
end Go.Ab
