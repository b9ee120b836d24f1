/-
 OBJECTS: how the relation outlasts a write to one, and the making of a new one. Loads and stores.
-/
import Derived.Test.YtocnjegcmmfpfaaAbsSoundS
set_option linter.unusedSimpArgs false
set_option linter.unusedVariables false
namespace Go.Ab
open Go
section
variable {P : Program} {w w' : World} {F : Cells} {ρ ρ' : Nat → Reg} {h : Heap} {β : Type} {r : β}
theorem Mem.of {id : Nat} {ob : Obj} (hob : h[id]? = some (.live ob)) {b o : Nat} (hr : (ρ id).has b o) : Mem ρ h b o := .inl ⟨id, ob, hob, hr⟩
theorem Mem.mp {id : Nat} {kd : IntKind} {es : List (Int × A)} (hm : h[id]? = some (.mp kd es)) (o : Nat) : Mem ρ h (ρ id).b o := .inr ⟨id, kd, es, hm, rfl⟩
theorem Upd.map {T : Cells} {b : Nat} {ces : Array MapEntry} {k : Nat} (u : Upd T w w') (hb : w.heap[b]? = some (.map ces k)) (ht : ¬ T b 0) : w'.heap[b]? = w.heap[b]? := by
 rcases u.blk b (Array.getElem?_eq_some_iff.1 hb).1 with e | ⟨c, c', t, fr, h1, h2, h3, h4⟩ | ⟨h0, _⟩
 · exact e.symm
 · rw [hb] at h1; cases h1
 · exact absurd h0 ht
theorem MpOk.keep {F' : Cells} {b : Nat} {kd : IntKind} {es : List (Int × A)} (m : MpOk P w F b kd es) (hs : ∀ b o, F b o → F' b o) (hk : ∀ b o, F b o → w'.cell? ⟨b, o, none⟩ = w.cell? ⟨b, o, none⟩) (hb : w'.heap[b]? = w.heap[b]?) : MpOk P w' F' b kd es := by
 obtain ⟨ces, clock, h1, h2, h3⟩ := m
 exact ⟨ces, clock, hb.trans h1, h2, fun i k a hi => let ⟨e, e1, e2, e3⟩ := h3 i k a hi; ⟨e, e1, e2, e3.mono hs hk⟩⟩
theorem Inv.mpKeep (i : Inv P w F ρ h) {F' : Cells} {T : Cells} (u : Upd T w w') (um : Upd (Mem ρ h) w w') {id : Nat} {kd : IntKind} {es : List (Int × A)} (hm : h[id]? = some (.mp kd es)) (ht : ¬ T (ρ id).b 0) (hs : ∀ b o, F b o → F' b o) : MpOk P w' F' (ρ id).b kd es := by
 have m := i.mp id kd es hm
 obtain ⟨ces, clock, h1, _⟩ := m
 exact (i.mp id kd es hm).keep hs (i.kept um) (u.map h1 ht)
theorem ObjOk.notMap {id : Nat} {ob : Obj} (k : ObjOk P w F ρ h id ob) {b o : Nat} (hr : (ρ id).has b o) {ces : Array MapEntry} {c : Nat} (hb : w.heap[b]? = some (.map ces c)) : False := by
 obtain ⟨rfl, h1, h2⟩ := hr
 obtain ⟨j, rfl⟩ : ∃ j, o = (ρ id).o + j := ⟨o - (ρ id).o, by omega⟩
 obtain ⟨⟨v, hv⟩, _⟩ := k.cell j (by omega)
 unfold World.cell? at hv
 rw [hb] at hv
 cases hv
theorem ObjOk.block {id : Nat} {ob : Obj} (k : ObjOk P w F ρ h id ob) {b o : Nat} (hr : (ρ id).has b o) : b < w.heap.size := by
 obtain ⟨rfl, h1, h2⟩ := hr
 obtain ⟨j, rfl⟩ : ∃ j, o = (ρ id).o + j := ⟨o - (ρ id).o, by omega⟩
 obtain ⟨⟨v, hv⟩, _⟩ := k.cell j (by omega)
 exact qd6 hv
theorem Inv.update (i : Inv P w F ρ h) {id : Nat} {ob ob' : Obj} (hob : h[id]? = some (.live ob)) (u : Upd (fun b o => (ρ id).has b o) w w') (hv : ob.ver ≤ ob'.ver)
 (hρ : ∀ j, j ≠ id → ρ' j = ρ j) (hid : ob.ver = ob'.ver → ρ' id = ρ id) (hreg : ∀ b o, (ρ' id).has b o → (ρ id).has b o ∨ w.heap.size ≤ b)
 (new : Tr w F ρ h w' F ρ' (h.set id (.live ob')) → ObjOk P w' F ρ' (h.set id (.live ob')) id ob') : Inv P w' F ρ' (h.set id (.live ob')) ∧ Tr w F ρ h w' F ρ' (h.set id (.live ob')) := by
 have hlt : id < h.length := (List.getElem?_eq_some_iff.1 hob).1
 have get : ∀ j, (h.set id (.live ob'))[j]? = if j = id then some (.live ob') else h[j]? := by
  intro j
  rw [List.getElem?_set]
  by_cases hj : id = j
  · subst hj; simp [hlt]
  · simp [hj, Ne.symm hj]
 have evo : Evo ρ h ρ' (h.set id (.live ob')) := by
  refine ⟨by simp, fun j hj hr => ?_, fun j oj hj hl => .inr ?_, fun j kd es hj hl => .inr ?_⟩
  rotate_left 2
  · rw [get] at hl
    split at hl
    · cases hl
    · rename_i e; exact ⟨es, hl, hρ j e⟩
  · rw [get] at hr; split at hr; · cases hr
    exact hr
  · rw [get] at hl
    split at hl
    · rename_i e; subst e; simp at hl; subst hl; exact ⟨ob, hob, hv, hid⟩
    · rename_i e; exact ⟨oj, hl, Nat.le_refl _, fun _ => hρ j e⟩
 have um : Upd (Mem ρ h) w w' := u.mono fun b o _ hr => .of hob hr
 have tr : Tr w F ρ h w' F ρ' (h.set id (.live ob')) := by
  refine ⟨um, fun _ _ h => h, fun _ _ h => .inl h, fun b o hm => ?_, evo⟩
  rcases hm with ⟨j, oj, hj, hr⟩ | ⟨j, kd, es, hj, rfl⟩
  rotate_left
  · rw [get] at hj
    split at hj
    · cases hj
    · rename_i e; rw [hρ j e]; exact .inl (.mp hj o)
  rw [get] at hj
  split at hj
  · rename_i e; subst e
    rcases hreg b o hr with h1 | h1
    · exact .inl (.of hob h1)
    · exact .inr h1
  · rename_i e; rw [hρ j e] at hr; exact .inl (.of hj hr)
 have old : ∀ j oj, j ≠ id → h[j]? = some (.live oj) → ObjOk P w' F ρ' (h.set id (.live ob')) j oj := by
  intro j oj hj hoj
  have k := i.obj j oj hoj
  have cells : ∀ o, (ρ j).has (ρ j).b o → w'.cell? ⟨(ρ j).b, o, none⟩ = w.cell? ⟨(ρ j).b, o, none⟩ := fun o ho =>
   u.cell (k.block ho) fun hh => i.disj j id oj ob hj hoj hob _ _ ho hh
  refine ⟨?_, k.pos, ?_, k.width, fun m hm => ?_, fun a b ha hb => ?_⟩
  · rw [hρ j hj]; exact k.sz
  · rw [hρ j hj]; exact k.len
  · rw [hρ j hj] at hm ⊢
    obtain ⟨⟨v, h1⟩, h2, h3⟩ := k.cell m hm
    have hh := Reg.has_cell (ρ j) m hm
    exact ⟨⟨v, by rw [cells _ hh]; exact h1⟩, u.thaw (k.block hh) h2, h3⟩
  · rw [hρ j hj]
    obtain ⟨v, h1, h2, h3⟩ := k.rel a b ha hb
    have hw := k.width _ (List.getElem_mem ha)
    have hh : (ρ j).has (ρ j).b ((ρ j).o + (a * (ρ j).sz + b)) := Reg.has_cell _ _ (by
     rw [k.sz]
     have h1 : b < oj.sz := by omega
     have h2 : a + 1 ≤ (ρ j).cap := by have := k.len; omega
     calc a * oj.sz + b < a * oj.sz + oj.sz := by omega
      _ = (a + 1) * oj.sz := by rw [Nat.succ_mul]
      _ ≤ (ρ j).cap * oj.sz := Nat.mul_le_mul_right _ h2)
    refine ⟨v, ?_, h2, h3.step i tr⟩
    have := cells _ hh
    rw [← Nat.add_assoc] at this
    rw [this]; exact h1
 refine ⟨⟨fun j oj hoj => ?_, fun j m oj om hjm hoj hom b o hb => ?_, fun b o hf => Nat.lt_of_lt_of_le (i.fin b o hf) u.size, fun j kd es hj => ?_, fun j m kj ej km em hjm hj hm => ?_⟩, tr⟩
 rotate_left 2
 · rw [get] at hj
   split at hj
   · cases hj
   · rename_i e
     rw [hρ j e]
     refine i.mpKeep u um hj (fun hh => ?_) fun _ _ h => h
     obtain ⟨ces, clock, h1, _⟩ := i.mp j kd es hj
     exact (i.obj id ob hob).notMap hh h1
 · rw [get] at hj hm
   split at hj
   · cases hj
   · split at hm
     · cases hm
     · rename_i e1 e2
       rw [hρ j e1, hρ m e2]; exact i.mpd j m _ _ _ _ hjm hj hm
 · rw [get] at hoj
   split at hoj
   · rename_i e; subst e; simp at hoj; subst hoj; exact new tr
   · rename_i e; exact old j oj e hoj
 · rw [get] at hoj hom
   split at hoj <;> split at hom
   · omega
   · rename_i e1 e2
     subst e1
     rw [hρ m e2]
     rcases hreg b o hb with h1 | h1
     · exact i.disj j m ob om hjm hob hom b o h1
     · intro h2; have := (i.obj m om hom).block h2; omega
   · rename_i e1 e2
     subst e2
     rw [hρ j e1] at hb
     intro h2
     rcases hreg b o h2 with h1 | h1
     · exact i.disj j m oj ob hjm hoj hob b o hb h1
     · have := (i.obj j oj hoj).block hb; omega
   · rename_i e1 e2
     rw [hρ j e1] at hb; rw [hρ m e2]
     exact i.disj j m oj om hjm hoj hom b o hb
theorem qkb {at_ : Option Nat} {ob : Obj} {id : Nat} {h' : Heap} (hp : place at_ h ob = some (id, h')) :
 (∀ j, h'[j]? = if j = id then some (.live ob) else h[j]?) ∧ h.length ≤ h'.length ∧ (id = h.length ∨ h[id]? = some .res) ∧ id < h'.length := by
 cases at_ with
 | none =>
   simp [place] at hp
   obtain ⟨rfl, rfl⟩ := hp
   refine ⟨fun j => ?_, by simp, .inl rfl, by simp⟩
   rw [List.getElem?_append]
   by_cases hj : j = h.length
   · subst hj; simp
   · by_cases hl : j < h.length
     · simp [hl, hj]
     · simp [hl, hj, List.getElem?_eq_none (show h.length ≤ j by omega)]; omega
 | some s =>
   simp only [place] at hp
   split at hp <;> simp at hp
   rename_i hs
   obtain ⟨rfl, rfl⟩ := hp
   have hlt : s < h.length := (List.getElem?_eq_some_iff.1 hs).1
   refine ⟨fun j => ?_, by simp, .inr hs, by simpa using hlt⟩
   rw [List.getElem?_set]
   by_cases hj : s = j
   · subst hj; simp [hlt]
   · simp [hj, Ne.symm hj]
theorem Inv.add (i : Inv P w F ρ h) {at_ : Option Nat} {ob : Obj} {id : Nat} {h' : Heap} (hp : place at_ h ob = some (id, h')) (u : Upd (fun _ _ => False) w w')
 (hρ : ∀ j, j ≠ id → ρ' j = ρ j) (hreg : ∀ b o, (ρ' id).has b o → w.heap.size ≤ b) (new : Tr w F ρ h w' F ρ' h' → ObjOk P w' F ρ' h' id ob) :
 Inv P w' F ρ' h' ∧ Tr w F ρ h w' F ρ' h' := by
 obtain ⟨get, hlen, hid, hidl⟩ := qkb hp
 have hne : ∀ j oj, h[j]? = some (.live oj) → j ≠ id := by
  rintro j oj hj rfl
  rcases hid with e | e
  · rw [e, List.getElem?_eq_none (Nat.le_refl _)] at hj; cases hj
  · rw [e] at hj; cases hj
 have evo : Evo ρ h ρ' h' := by
  refine ⟨hlen, fun j hj hr => ?_, fun j oj hj hl => ?_, fun j kd es hj hl => ?_⟩
  rotate_left 2
  · rw [get] at hl
    split at hl
    · cases hl
    · rename_i e; exact .inr ⟨es, hl, hρ j e⟩
  · rw [get] at hr; split at hr; · cases hr
    exact hr
  · rw [get] at hl
    split at hl
    · rename_i e; subst e
      rcases hid with e | e
      · omega
      · exact .inl e
    · rename_i e; exact .inr ⟨oj, hl, Nat.le_refl _, fun _ => hρ j e⟩
 have tr : Tr w F ρ h w' F ρ' h' := by
  refine ⟨u.mono fun _ _ _ h => h.elim, fun _ _ h => h, fun _ _ h => .inl h, fun b o hm => ?_, evo⟩
  rcases hm with ⟨j, oj, hj, hr⟩ | ⟨j, kd, es, hj, rfl⟩
  rotate_left
  · rw [get] at hj
    split at hj
    · cases hj
    · rename_i e; rw [hρ j e]; exact .inl (.mp hj o)
  rw [get] at hj
  split at hj
  · rename_i e; subst e; exact .inr (hreg b o hr)
  · rename_i e; rw [hρ j e] at hr; exact .inl (.of hj hr)
 have old : ∀ j oj, h[j]? = some (.live oj) → ObjOk P w' F ρ' h' j oj := by
  intro j oj hoj
  have k := i.obj j oj hoj
  have hj := hne j oj hoj
  have cells : ∀ o, (ρ j).has (ρ j).b o → w'.cell? ⟨(ρ j).b, o, none⟩ = w.cell? ⟨(ρ j).b, o, none⟩ := fun o ho => u.cell (k.block ho) fun hh => hh
  refine ⟨?_, k.pos, ?_, k.width, fun m hm => ?_, fun a b ha hb => ?_⟩
  · rw [hρ j hj]; exact k.sz
  · rw [hρ j hj]; exact k.len
  · rw [hρ j hj] at hm ⊢
    obtain ⟨⟨v, h1⟩, h2, h3⟩ := k.cell m hm
    have hh := Reg.has_cell (ρ j) m hm
    exact ⟨⟨v, by rw [cells _ hh]; exact h1⟩, u.thaw (k.block hh) h2, h3⟩
  · rw [hρ j hj]
    obtain ⟨v, h1, h2, h3⟩ := k.rel a b ha hb
    refine ⟨v, ?_, h2, h3.step i tr⟩
    rw [u.cell (qd6 h1) fun hh => hh]; exact h1
 refine ⟨⟨fun j oj hoj => ?_, fun j m oj om hjm hoj hom b o hb => ?_, fun b o hf => Nat.lt_of_lt_of_le (i.fin b o hf) u.size, fun j kd es hj => ?_, fun j m kj ej km em hjm hj hm => ?_⟩, tr⟩
 rotate_left 2
 · rw [get] at hj
   split at hj
   · cases hj
   · rename_i e
     rw [hρ j e]
     exact i.mpKeep u tr.upd hj (fun hh => hh) fun _ _ h => h
 · rw [get] at hj hm
   split at hj
   · cases hj
   · split at hm
     · cases hm
     · rename_i e1 e2
       rw [hρ j e1, hρ m e2]; exact i.mpd j m _ _ _ _ hjm hj hm
 · rw [get] at hoj
   split at hoj
   · rename_i e; subst e; simp at hoj; subst hoj; exact new tr
   · exact old j oj hoj
 · rw [get] at hoj hom
   split at hoj <;> split at hom
   · omega
   · rename_i e1 e2
     subst e1
     rw [hρ m e2]
     intro h2; have := (i.obj m om hom).block h2; have := hreg b o hb; omega
   · rename_i e1 e2
     subst e2
     rw [hρ j e1] at hb
     intro h2; have := (i.obj j oj hoj).block hb; have := hreg b o h2; omega
   · rename_i e1 e2
     rw [hρ j e1] at hb; rw [hρ m e2]
     exact i.disj j m oj om hjm hoj hom b o hb
def HYld (P : Program) (w : World) (F : Cells) (ρ : Nat → Reg) (h : Heap) (s : Sem Next) (k : A → Heap → Option β) (r : β) : Prop :=
 ∃ n v w' F' ρ' h' a', s.run P w = .ok n w' ∧ (n = .value v ∨ n = .skip ∧ v = undef) ∧ Rel P w' F' ρ' h' v a' ∧ Inv P w' F' ρ' h' ∧ Tr w F ρ h w' F' ρ' h' ∧ k a' h' = some r
theorem HYld.value {s : Sem Value} {k : A → Heap → Option β} {v : Value} {w' : World} {F' : Cells} {ρ' : Nat → Reg} {h' : Heap} {a : A} (hs : s.run P w = .ok v w') (hr : Rel P w' F' ρ' h' v a) (hi : Inv P w' F' ρ' h')
 (ht : Tr w F ρ h w' F' ρ' h') (hk : k a h' = some r) : HYld P w F ρ h (do pure (.value (← s))) k r :=
 ⟨.value v, v, w', F', ρ', h', a, by simp [hs], .inl rfl, hr, hi, ht, hk⟩
theorem ObjOk.cells {id : Nat} {ob : Obj} (k : ObjOk P w F ρ h id ob) {row : List A} {rw_ : Nat} (hrow : ob.rows[rw_]? = some row) {o n : Nat} (hon : o + n ≤ row.length) :
 ∃ vs : List Value, vs.length = n ∧ (∀ j v, vs[j]? = some v → w.cell? ⟨(ρ id).b, (ρ id).o + rw_ * (ρ id).sz + o + j, none⟩ = some v) ∧ RelC P w F ρ h vs ((row.drop o).take n) := by
 obtain ⟨hlt, rfl⟩ := List.getElem?_eq_some_iff.1 hrow
 have hrel := fun j (hj : j < n) => k.rel rw_ (o + j) hlt (by omega)
 let f : Nat → Value := fun j => (w.cell? ⟨(ρ id).b, (ρ id).o + rw_ * (ρ id).sz + o + j, none⟩).getD undef
 refine ⟨(List.range n).map f, by simp, fun j v hv => ?_, .mk (by simp; omega) fun j hj hj' => ?_⟩
 · simp only [List.getElem?_map, Option.map_eq_some_iff] at hv
   obtain ⟨m, hm, rfl⟩ := hv
   obtain ⟨hm1, hm2⟩ := List.getElem?_eq_some_iff.1 hm
   simp at hm1 hm2
   subst hm2
   obtain ⟨v, h1, _⟩ := hrel j hm1
   rw [← Nat.add_assoc] at h1
   simp [f, h1]
 · simp at hj
   obtain ⟨v, h1, h2, h3⟩ := hrel j hj
   rw [← Nat.add_assoc] at h1
   simp only [List.getElem_map, List.getElem_range, f, h1, Option.getD_some, List.getElem_take, List.getElem_drop]
   exact ⟨h2, h3⟩
theorem Fz.cells {b o : Nat} {cs : List A} {vs : Nat → Value} (hc : ∀ i, i < cs.length → F b (o + i) ∧ w.cell? ⟨b, o + i, none⟩ = some (vs i) ∧ (vs i).oneCell = true)
 (hr : ∀ i (h : i < cs.length), Fz P w F (vs i) cs[i]) {n : Nat} (hn : n ≤ cs.length) :
 ∃ us : List Value, us.length = n ∧ (∀ j v, us[j]? = some v → w.cell? ⟨b, o + j, none⟩ = some v) ∧ RelC P w F ρ h us (cs.take n) := by
 refine ⟨(List.range n).map vs, by simp, fun j v hv => ?_, .mk (by simp; omega) fun j hj hj' => ?_⟩
 · simp only [List.getElem?_map, Option.map_eq_some_iff] at hv
   obtain ⟨m, hm, rfl⟩ := hv
   obtain ⟨hm1, hm2⟩ := List.getElem?_eq_some_iff.1 hm
   simp at hm1 hm2
   subst hm2
   exact (hc j (by omega)).2.1
 · simp at hj
   simp only [List.getElem_map, List.getElem_range, List.getElem_take]
   exact ⟨(hc j (by omega)).2.2, .pure _ _ (hr j (by omega))⟩
def IsAt (sh : Option Nat) (cs : List A) (a : A) : Prop :=
 match sh with
 | none => cs[0]? = some a
 | some _ => a = .agg cs
theorem qg0 {t : TypeId} {sh : Option Nat} {b o : Nat} {vs : List Value} {cs : List A} {a : A} (hsh : shapeT P t = some sh) (hv : ∀ j v, vs[j]? = some v → w.cell? ⟨b, o + j, none⟩ = some v)
 (hr : RelC P w F ρ h vs cs) (hl : vs.length = sh.getD 1) (ha : IsAt sh cs a) : ∃ v, (loadVar t ⟨b, o, none⟩).run P w = .ok v w ∧ Rel P w F ρ h v a := by
 cases sh with
 | none =>
   simp only [IsAt] at ha
   simp at hl
   have h0 : vs[0]? = some vs[0] := List.getElem?_eq_getElem (by omega)
   refine ⟨vs[0], ?_, (hr.2 0 _ _ h0 ha).2⟩
   have := hv 0 _ h0
   simp only [loadVar, Sem.run_bind, qgM hsh, Result.andThen_ok, Bool.false_eq_true, if_false, run_load]
   rw [Nat.add_zero] at this
   rw [this]
 | some n =>
   simp only [IsAt] at ha
   subst ha
   simp at hl
   obtain ⟨i, hi, hn, _⟩ := qdq hsh
   refine ⟨.agg vs.toArray, ?_, RelC.agg (by simpa using hr)⟩
   have := run_loadCells_list (P := P) w ⟨b, o, none⟩ vs (fun j v hj => by rw [qcg]; exact hv j v hj)
   simp only [loadVar, Sem.run_bind, qgL hsh, Result.andThen_ok, if_true, qac hi, hn]
   rw [← hl, this]; rfl
theorem qi1 {sh : Option Nat} {row : List A} {o : Nat} {a : A} (hc : cellsAt sh row o = some a) :
 o + sh.getD 1 ≤ row.length ∧ IsAt sh ((row.drop o).take (sh.getD 1)) a := by
 cases sh with
 | none =>
   simp only [cellsAt] at hc
   have := (List.getElem?_eq_some_iff.1 hc).1
   refine ⟨by simp; omega, ?_⟩
   simp [IsAt, List.getElem?_take, List.getElem?_drop, hc]
 | some n =>
   simp only [cellsAt] at hc
   split at hc <;> simp at hc
   exact ⟨by simpa, hc.symm⟩
theorem qhk {t : TypeId} {sh : Option Nat} {a : A} {va : Value} {k : A → Option β} (i : Inv P w F ρ h) (hsh : shapeT P t = some sh) (ha : Rel P w F ρ h va a) (hk : oLoad sh a h k = some r) :
 ∃ x v b, va = .pointer (some x) ∧ (loadVar t x).run P w = .ok v w ∧ Rel P w F ρ h v b ∧ k b = some r := by
 unfold oLoad at hk
 split at hk
 · rename_i id ver rr o
   obtain ⟨x, rfl, hl, hn, hx⟩ := ha.ptr_inv
   split at hk <;> try (cases hk; done)
   rename_i ob hob
   split at hk <;> try (cases hk; done)
   rename_i hver
   split at hk <;> try (cases hk; done)
   rename_i row hrow
   split at hk <;> try (cases hk; done)
   rename_i b hb
   obtain ⟨g1, g2⟩ := qi1 hb
   obtain ⟨vs, h1, h2, h3⟩ := (i.obj id ob hob).cells hrow g1
   obtain ⟨v, h4, h5⟩ := qg0 hsh h2 h3 (by simpa using h1) g2
   have := (hx ob hob).2 hver.symm
   subst this
   exact ⟨_, v, b, rfl, h4, h5, hk⟩
 · rename_i cs
   obtain ⟨b, o, vs, rfl, hc, hr⟩ := ha.cptr_inv
   split at hk <;> try (cases hk; done)
   rename_i c hcc
   obtain ⟨g1, g2⟩ := qi1 hcc
   simp only [Nat.zero_add, List.drop_zero] at g1 g2
   obtain ⟨us, h1, h2, h3⟩ := Fz.cells (ρ := ρ) (h := h) hc hr g1
   obtain ⟨v, h4, h5⟩ := qg0 hsh h2 h3 (by simpa using h1) g2
   exact ⟨_, v, c, rfl, h4, h5, hk⟩
 · cases hk
theorem qi7 {t : TypeId} {sh : Option Nat} {a : A} {va : Value} {k : A → Heap → Option β} (i : Inv P w F ρ h) (hsh : shapeT P t = some sh) (ha : Rel P w F ρ h va a) (hk : oLoad sh a h (fun v => k v h) = some r) :
 HYld P w F ρ h (do pure (.value (← Instr.loadAt t va))) k r := by
 obtain ⟨x, v, b, rfl, h1, h2, h3⟩ := qhk i hsh ha hk
 exact .value (by simp [Instr.loadAt, Instr.sureAddr, h1]) h2 i (.refl _ _ _ _) h3
theorem qf2 {T : Cells} (b : Nat) : ∀ (vs : List Value) (o : Nat) (w : World), (∀ j, j < vs.length → T b (o + j)) → Upd T w (w.setCells b o vs)
 | [], _, w, _ => .refl _ _
 | v :: vs, o, w, hT => by
   have h0 := hT 0 (by simp)
   refine (qmr (T := T) (v := v) h0).trans (qf2 b vs (o + 1) _ fun j hj => ?_) fun k o _ h => h
   have := hT (j + 1) (by simp; omega)
   rwa [show o + 1 + j = o + (j + 1) by omega]
theorem qes (b : Nat) : ∀ (vs : List Value) (o : Nat) (w : World), (∀ j, j < vs.length → ∃ v, w.cell? ⟨b, o + j, none⟩ = some v) → ∀ b' o',
 (w.setCells b o vs).cell? ⟨b', o', none⟩ = if b' = b ∧ o ≤ o' ∧ o' < o + vs.length then vs[o' - o]? else w.cell? ⟨b', o', none⟩
 | [], o, w, _, b', o' => by simp [World.setCells]; intro h1 h2 h3; omega
 | v :: vs, o, w, hc, b', o' => by
   obtain ⟨u, hu⟩ := hc 0 (by simp)
   have ih := qes b vs (o + 1) (w.setCell ⟨b, o, none⟩ v) (fun j hj => by
    rw [qdT (by rintro ⟨_, h⟩; omega)]
    have := hc (j + 1) (by simp; omega)
    rwa [show o + 1 + j = o + (j + 1) by omega]) b' o'
   simp only [World.setCells]
   rw [ih]
   by_cases hb : b' = b
   · subst hb
     rcases Nat.lt_trichotomy o' o with ho | ho | ho
     · rw [if_neg (by omega), if_neg (by omega), qdT (by omega)]
     · subst ho
       rw [if_neg (by omega), if_pos ⟨rfl, Nat.le_refl _, by simp⟩, qin (by simpa using hu)]; simp
     · by_cases hl : o' < o + 1 + vs.length
       · rw [if_pos ⟨rfl, by omega, hl⟩, if_pos ⟨rfl, by omega, by simp; omega⟩]
         rw [show o' - o = (o' - (o + 1)) + 1 by omega, List.getElem?_cons_succ]
       · rw [if_neg (by omega), if_neg (by simp; omega), qdT (by omega)]
   · rw [if_neg (by simp [hb]), if_neg (by simp [hb]), qdT (by simp [hb])]
end
end Go.Ab
