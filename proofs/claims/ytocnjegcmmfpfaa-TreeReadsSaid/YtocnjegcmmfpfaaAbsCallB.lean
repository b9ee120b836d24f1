/-
 WHAT COMES BACK FROM A CALL.
-/
import Derived.Test.YtocnjegcmmfpfaaAbsCallA
set_option linter.unusedSimpArgs false
set_option linter.unusedVariables false
namespace Go.Ab
open Go
section
variable {P : Program} {w w' : World} {F F' : Cells} {ρ ρ' ρ2 : Nat → Reg} {h h' h2 : Heap} {β : Type} {r : β}
theorem setAll_len : ∀ (ids : List Nat) (h xs : Heap), (setAll h ids xs).length = h.length
 | [], h, xs => by simp [setAll]
 | id :: ids, h, [] => by simp [setAll]
 | id :: ids, h, x :: xs => by simp [setAll, setAll_len ids]
theorem qfW {k : Nat} : ∀ (ids : List Nat) (h xs : Heap), k ∉ ids → (setAll h ids xs)[k]? = h[k]?
 | [], h, xs, _ => by simp [setAll]
 | id :: ids, h, [], _ => by simp [setAll]
 | id :: ids, h, x :: xs, hk => by
   simp only [List.mem_cons, not_or] at hk
   simp only [setAll]
   rw [qfW ids _ _ hk.2, List.getElem?_set_ne (Ne.symm hk.1)]
theorem qfj : ∀ (ids : List Nat) (h xs : Heap), ids.Nodup → ∀ (j id : Nat) x, ids[j]? = some id → xs[j]? = some x → id < h.length → (setAll h ids xs)[id]? = some x
 | [], h, xs, _, j, id, x, h1, _, _ => by simp at h1
 | id0 :: ids, h, [], _, j, id, x, _, h2, _ => by simp at h2
 | id0 :: ids, h, x0 :: xs, hn, j, id, x, h1, h2, hl => by
   simp only [setAll]
   rw [List.nodup_cons] at hn
   cases j with
   | zero =>
     simp at h1 h2
     subst h1; subst h2
     rw [qfW ids _ _ hn.1]
     simp [hl]
   | succ j => exact qfj ids _ xs hn.2 j id x (by simpa using h1) (by simpa using h2) (by simpa using hl)
def backReg (ids : List Nat) (n : Nat) (ρ ρc : Nat → Reg) (id : Nat) : Reg :=
 match idx ids id with
 | some j => ρc j
 | none => if id < n then ρ id else ρc (ids.length + (id - n))
theorem qjR {ids : List Nat} {n j m id : Nat} (hn : ids.Nodup) (hlt : ∀ id ∈ ids, id < n) (h1 : backIdx ids n j = some id) (h2 : backIdx ids n m = some id) : j = m := by
 unfold backIdx at h1 h2
 split at h1 <;> split at h2
 · exact qhL hn h1 h2
 · have := hlt id (List.mem_of_getElem? h1); simp at h2; omega
 · have := hlt id (List.mem_of_getElem? h2); simp at h1; omega
 · simp at h1 h2; omega
theorem qeg {ids : List Nat} {objs objs' : Heap} {ρc : Nat → Reg} {R R' : Out} (i : Inv P w F ρ h) (hn : ids.Nodup) (hlt : ∀ id ∈ ids, id < h.length) (ho : renHeap (idx ids) (ids.map (h.getD · .dead)) = some objs)
 (ic : Inv P w' F' ρc objs') (t : Tr w F (fun j => ρ (ids.getD j 0)) objs w' F' ρc objs') (hg : qaa ids h R objs' = some (R', h')) :
 ∃ ρ', Inv P w' F' ρ' h' ∧ Tr w F ρ h w' F' ρ' h' ∧ Ren (backIdx ids h.length) ρc objs' ρ' h' ∧ renOut (backIdx ids h.length) R = some R' := by
 unfold qaa at hg
 simp only [Option.bind_eq_some_iff, Option.map_eq_some_iff] at hg
 obtain ⟨R1, hR, xs, hxs, heq⟩ := hg
 cases heq
 obtain ⟨x1, x2⟩ := qeP hxs
 obtain ⟨n0, ol, slot0⟩ := qhC (ρ := ρ) hn ho
 have live0 := (i.pick hn ho).2
 have tl : ids.length ≤ objs'.length := by have := t.evo.len; omega
 generalize hh' : setAll h ids (xs.take ids.length) ++ xs.drop ids.length = h'
 have hl' : h'.length = h.length + (objs'.length - ids.length) := by rw [← hh']; simp [setAll_len]; omega
 have place : ∀ (id : Nat) s, h'[id]? = some s →
  (∃ j s0, backIdx ids h.length j = some id ∧ objs'[j]? = some s0 ∧ renSlot (backIdx ids h.length) s0 = some s ∧ backReg ids h.length ρ ρc id = ρc j ∧ ((id < h.length ∧ j < ids.length ∧ ids[j]? = some id) ∨ (h.length ≤ id ∧ ids.length ≤ j))) ∨
  (id ∉ ids ∧ id < h.length ∧ h[id]? = some s ∧ backReg ids h.length ρ ρc id = ρ id) := by
  intro id s hs
  rw [← hh'] at hs
  by_cases hid : id < h.length
  · rw [List.getElem?_append_left (by rw [setAll_len]; exact hid)] at hs
    by_cases hm : id ∈ ids
    · obtain ⟨j, hj, hje⟩ := List.mem_iff_getElem.1 hm
      have hj? : ids[j]? = some id := by rw [List.getElem?_eq_getElem hj, hje]
      have hx : (xs.take ids.length)[j]? = some (xs[j]'(by omega)) := by rw [List.getElem?_take, if_pos hj, List.getElem?_eq_getElem]
      rw [qfj ids h _ hn j id _ hj? hx hid] at hs
      cases hs
      refine .inl ⟨j, objs'[j]'(by omega), by simp [backIdx, hj, hje], List.getElem?_eq_getElem _, x2 j (by omega) (by omega), ?_, .inl ⟨hid, hj, hj?⟩⟩
      simp [backReg, idx_of hn hj?]
    · rw [qfW ids h _ hm] at hs
      refine .inr ⟨hm, hid, hs, ?_⟩
      have : idx ids id = none := by unfold idx; rw [List.idxOf?_eq_none_iff]; exact hm
      simp [backReg, this, hid]
  · rw [List.getElem?_append_right (by rw [setAll_len]; omega), setAll_len, List.getElem?_drop] at hs
    obtain ⟨hlt', rfl⟩ := List.getElem?_eq_some_iff.1 hs
    refine .inl ⟨ids.length + (id - h.length), objs'[ids.length + (id - h.length)]'(by omega), ?_, List.getElem?_eq_getElem _, x2 _ (by omega) (by omega), ?_, .inr ⟨by omega, by omega⟩⟩
    · simp [backIdx]; omega
    · have : idx ids id = none := by
       unfold idx; rw [List.idxOf?_eq_none_iff]; intro hm; have := hlt id hm; omega
      simp [backReg, this, hid]
 have n1 : Ren (backIdx ids h.length) ρc objs' (backReg ids h.length ρ ρc) h' := by
  refine ⟨fun j id hj hl => ?_, fun j id hj hl hr => ?_, fun j id ob' hj hl hob => ?_, fun j id kd es hj hl hes => ?_⟩
  rotate_left 3
  · rcases place id _ hes with ⟨j', s0, e1, e2, e3, e4, e5⟩ | ⟨e1, e2, e3, e4⟩
    · obtain rfl := qjR hn hlt hj e1
      have e6 := qbG e3
      subst e6
      exact ⟨e2, e4⟩
    · unfold backIdx at hj
      split at hj
      · exact absurd (List.mem_of_getElem? hj) e1
      · simp at hj; omega
  · unfold backIdx at hj
    split at hj
    · have := hlt id (List.mem_of_getElem? hj); omega
    · simp at hj; omega
  · rcases place id _ hr with ⟨j', s0, e1, e2, e3, e4, e5⟩ | ⟨e1, e2, e3, e4⟩
    · exact (qcJ e3).elim
    · unfold backIdx at hj
      split at hj
      · exact absurd (List.mem_of_getElem? hj) e1
      · simp at hj; omega
  · rcases place id _ hob with ⟨j', s0, e1, e2, e3, e4, e5⟩ | ⟨e1, e2, e3, e4⟩
    · obtain rfl := qjR hn hlt hj e1
      obtain ⟨ob, d1, d2, d3, d4⟩ := qcK e3
      subst d1
      exact ⟨ob, e2, d2.symm, e4⟩
    · unfold backIdx at hj
      split at hj
      · exact absurd (List.mem_of_getElem? hj) e1
      · simp at hj; omega
 have mem0 : ∀ b o, Mem (fun j => ρ (ids.getD j 0)) objs b o → ∃ id, id ∈ ids ∧ MemAt ρ h id b o := fun b o hm => i.pick_mem hn ho hm
 have um : Upd (Mem ρ h) w w' := t.upd.mono fun b o _ hm => by obtain ⟨id, _, e⟩ := mem0 b o hm; exact e.mem
 have evo : Evo ρ h (backReg ids h.length ρ ρc) h' := by
  refine ⟨by omega, fun id hl hr => ?_, fun id ob' hl hob => ?_, fun id kd es hl hes => ?_⟩
  rotate_left 2
  · rcases place id _ hes with ⟨j, s0, e1, e2, e3, e4, e5⟩ | ⟨e1, e2, e3, e4⟩
    · have e6 := qbG e3
      subst e6
      rcases e5 with ⟨f1, f2, f3⟩ | ⟨f1, f2⟩
      · rcases t.evo.mp j kd es (by omega) e2 with g1 | ⟨es0, g1, g2⟩
        · obtain ⟨id2, _, g3⟩ := slot0 j _ g1
          exact (qcJ g3).elim
        · obtain ⟨id2, c1, c2⟩ := slot0 j _ g1
          rw [f3] at c1; cases c1
          refine .inr ⟨es0, getD_mp (qbG c2), ?_⟩
          rw [e4, g2]
          simp [List.getD_eq_getElem?_getD, f3]
      · omega
    · exact .inr ⟨es, e3, e4⟩
  · rcases place id _ hr with ⟨j', s0, e1, e2, e3, e4, e5⟩ | ⟨e1, e2, e3, e4⟩
    · exact (qcJ e3).elim
    · exact e3
  · rcases place id _ hob with ⟨j, s0, e1, e2, e3, e4, e5⟩ | ⟨e1, e2, e3, e4⟩
    · obtain ⟨ob, d1, d2, d3, d4⟩ := qcK e3
      subst d1
      rcases e5 with ⟨f1, f2, f3⟩ | ⟨f1, f2⟩
      · rcases t.evo.live j ob (by omega) e2 with g1 | ⟨ob0, g1, g2, g3⟩
        · obtain ⟨id2, _, g3⟩ := slot0 j _ g1
          exact (qcJ g3).elim
        · obtain ⟨id2, ob2, c1, c2, c3, c4⟩ := live0 j ob0 g1
          rw [f3] at c1; cases c1
          refine .inr ⟨ob2, c2, by omega, fun hv => ?_⟩
          rw [e4, g3 (by omega)]; exact c4
      · omega
    · exact .inr ⟨ob', e3, Nat.le_refl _, fun _ => e4⟩
 have memR : ∀ id ob', h'[id]? = some (.live ob') → (∃ j ob, objs'[j]? = some (.live ob) ∧ backReg ids h.length ρ ρc id = ρc j ∧ backIdx ids h.length j = some id) ∨ (id ∉ ids ∧ h[id]? = some (.live ob') ∧ backReg ids h.length ρ ρc id = ρ id) := by
  intro id ob' hob
  rcases place id _ hob with ⟨j, s0, e1, e2, e3, e4, e5⟩ | ⟨e1, e2, e3, e4⟩
  · obtain ⟨ob, d1, d2, d3, d4⟩ := qcK e3
    subst d1
    exact .inl ⟨j, ob, e2, e4, e1⟩
  · exact .inr ⟨e1, e3, e4⟩
 have tr : Tr w F ρ h w' F' (backReg ids h.length ρ ρc) h' := by
  refine ⟨um, t.sub, fun b o hf => ?_, fun b o hm => ?_, evo⟩
  · rcases t.new b o hf with h1 | h1 | h1
    · exact .inl h1
    · obtain ⟨id, _, e⟩ := mem0 b o h1; exact .inr (.inl e.mem)
    · exact .inr (.inr h1)
  · rcases hm with ⟨id, ob', hob, hr⟩ | ⟨id, kd, es, hes, hb⟩
    rotate_left
    · rcases place id _ hes with ⟨j, s0, e1, e2, e3, e4, e5⟩ | ⟨e1, e2, e3, e4⟩
      · have e6 := qbG e3
        subst e6
        rw [e4] at hb
        rcases t.reg b o (by rw [hb]; exact .mp e2 o) with h1 | h1
        · obtain ⟨id, _, e⟩ := mem0 b o h1; exact .inl e.mem
        · exact .inr h1
      · rw [e4] at hb; rw [hb]; exact .inl (.mp e3 o)
    rcases memR id ob' hob with ⟨j, ob, e1, e2, _⟩ | ⟨e1, e2, e3⟩
    · rw [e2] at hr
      rcases t.reg b o (.of e1 hr) with h1 | h1
      · obtain ⟨id, _, e⟩ := mem0 b o h1; exact .inl e.mem
      · exact .inr h1
    · rw [e3] at hr; exact .inl (.of e2 hr)
 have apart : ∀ id ob, id ∉ ids → h[id]? = some (.live ob) → ∀ b o, (ρ id).has b o → ¬ Mem (fun j => ρ (ids.getD j 0)) objs b o := by
  intro id ob hid hob b o hr hm
  obtain ⟨id2, e1, ⟨ob2, e2, e3⟩ | ⟨kd, es, e2, e3⟩⟩ := mem0 b o hm
  · exact i.disj id id2 ob ob2 (by rintro rfl; exact hid e1) hob e2 b o hr e3
  · obtain ⟨ces, clock, hc, _⟩ := i.mp id2 kd es e2
    exact (i.obj id ob hob).notMap hr (by rw [e3]; exact hc)
 have apartM : ∀ (id : Nat) kd es, id ∉ ids → h[id]? = some (.mp kd es) → ∀ o, ¬ Mem (fun j => ρ (ids.getD j 0)) objs (ρ id).b o := by
  intro id kd es hid hes o hm
  obtain ⟨ces, clock, hc, _⟩ := i.mp id kd es hes
  obtain ⟨id2, e1, ⟨ob2, e2, e3⟩ | ⟨kd2, es2, e2, e3⟩⟩ := mem0 _ o hm
  · exact (i.obj id2 ob2 e2).notMap e3 hc
  · exact i.mpd id id2 _ _ _ _ (by rintro rfl; exact hid e1) hes e2 e3
 have kept : ∀ id ob, id ∉ ids → h[id]? = some (.live ob) → backReg ids h.length ρ ρc id = ρ id → ObjOk P w' F' (backReg ids h.length ρ ρc) h' id ob := by
  intro id ob hid hob hρ
  have k := i.obj id ob hob
  have cells : ∀ o, (ρ id).has (ρ id).b o → w'.cell? ⟨(ρ id).b, o, none⟩ = w.cell? ⟨(ρ id).b, o, none⟩ := fun o ho => t.upd.cell (k.block ho) (apart id ob hid hob _ _ ho)
  refine ⟨?_, k.pos, ?_, k.width, fun m hm => ?_, fun a b ha hb => ?_⟩
  · rw [hρ]; exact k.sz
  · rw [hρ]; exact k.len
  · rw [hρ] at hm ⊢
    obtain ⟨⟨v, h1⟩, h2, h3⟩ := k.cell m hm
    have hh := Reg.has_cell (ρ id) m hm
    refine ⟨⟨v, by rw [cells _ hh]; exact h1⟩, t.upd.thaw (k.block hh) h2, fun hf => ?_⟩
    rcases t.new _ _ hf with h1 | h1 | h1
    · exact h3 h1
    · exact apart id ob hid hob _ _ hh h1
    · have := k.block hh; omega
  · rw [hρ]
    obtain ⟨v, h1, h2, h3⟩ := k.rel a b ha hb
    have hw := k.width _ (List.getElem_mem ha)
    have hh : (ρ id).has (ρ id).b ((ρ id).o + (a * (ρ id).sz + b)) := Reg.has_cell _ _ (by
     rw [k.sz]
     have h1 : b < ob.sz := by omega
     have h2 : a + 1 ≤ (ρ id).cap := by have := k.len; omega
     calc a * ob.sz + b < a * ob.sz + ob.sz := by omega
      _ = (a + 1) * ob.sz := by rw [Nat.succ_mul]
      _ ≤ (ρ id).cap * ob.sz := Nat.mul_le_mul_right _ h2)
    refine ⟨v, ?_, h2, h3.step i tr⟩
    have := cells _ hh
    rw [← Nat.add_assoc] at this
    rw [this]; exact h1
 refine ⟨backReg ids h.length ρ ρc, ⟨fun id ob' hob => ?_, fun a b oa ob hab hoa hob bb oo hb => ?_, ic.fin, fun id kd es hes => ?_, fun a b ka ea kb eb hab ha hb => ?_⟩, tr, n1, hR⟩
 rotate_left 2
 · rcases place id _ hes with ⟨j, s0, e1, e2, e3, e4, e5⟩ | ⟨e1, e2, e3, e4⟩
   · have e6 := qbG e3
     subst e6
     rw [e4]; exact ic.mp j kd es e2
   · rw [e4]; exact i.mpKeep t.upd um e3 (apartM id kd es e1 e3 0) t.sub
 · have newM : ∀ (j : Nat) kd es, objs'[j]? = some (.mp kd es) → ∀ (id : Nat) kd2 es2, id ∉ ids → h[id]? = some (.mp kd2 es2) → (ρc j).b ≠ (ρ id).b := by
    intro j kd es hj id kd2 es2 hid hes2 he
    rcases t.reg _ 0 (.mp hj 0) with h1 | h1
    · rw [he] at h1; exact apartM id kd2 es2 hid hes2 0 h1
    · obtain ⟨ces, clock, hc, _⟩ := i.mp id kd2 es2 hes2
      have := (Array.getElem?_eq_some_iff.1 hc).1
      omega
   rcases place a _ ha with ⟨j1, s1, a1, a2, a3, a4, a5⟩ | ⟨a1, a2, a3, a4⟩ <;> rcases place b _ hb with ⟨j2, s2, b1, b2, b3, b4, b5⟩ | ⟨b1, b2, b3, b4⟩
   · have e1 := qbG a3
     have e2 := qbG b3
     subst e1; subst e2
     rw [a4, b4]
     exact ic.mpd j1 j2 _ _ _ _ (by rintro rfl; rw [a1] at b1; cases b1; exact hab rfl) a2 b2
   · have e1 := qbG a3
     subst e1
     rw [a4, b4]; exact newM j1 _ _ a2 b _ _ b1 b3
   · have e2 := qbG b3
     subst e2
     rw [a4, b4]; exact fun h => newM j2 _ _ b2 a _ _ a1 a3 h.symm
   · rw [a4, b4]; exact i.mpd a b _ _ _ _ hab a3 b3
 · rcases place id _ hob with ⟨j, s0, e1, e2, e3, e4, e5⟩ | ⟨e1, e2, e3, e4⟩
   · obtain ⟨ob, d1, d2, d3, d4⟩ := qcK e3
     subst d1
     exact (ic.obj j ob e2).ren n1 e4 d3 d4
   · exact kept id ob' e1 e3 e4
 · have newMem : ∀ j ob b o, objs'[j]? = some (.live ob) → (ρc j).has b o → ∀ id ob2, id ∉ ids → h[id]? = some (.live ob2) → ¬ (ρ id).has b o := by
    intro j ob b o hj hr id ob2 hid hob2 hh
    rcases t.reg b o (.of hj hr) with h1 | h1
    · exact apart id ob2 hid hob2 b o hh h1
    · have := (i.obj id ob2 hob2).block hh; omega
   rcases memR a oa hoa with ⟨j1, o1, e1, e2, e3⟩ | ⟨e1, e2, e3⟩ <;> rcases memR b ob hob with ⟨j2, o2, d1, d2, d3⟩ | ⟨d1, d2, d3⟩
   · rw [e2] at hb; rw [d2]
     exact ic.disj j1 j2 o1 o2 (by rintro rfl; rw [e3] at d3; cases d3; exact hab rfl) e1 d1 bb oo hb
   · rw [e2] at hb; rw [d3]
     exact newMem j1 o1 bb oo e1 hb b ob d1 d2
   · rw [e3] at hb; rw [d2]
     intro hh; exact newMem j2 o2 bb oo d1 hh a oa e1 e2 hb
   · rw [e3] at hb; rw [d3]
     exact i.disj a b oa ob hab e2 d2 bb oo hb
end
end Go.Ab
