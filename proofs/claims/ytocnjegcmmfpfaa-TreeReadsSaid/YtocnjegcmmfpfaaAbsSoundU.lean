/-
 OBJECTS SEEN AS ONE ROW OF CELLS. Stores; new objects.
-/
import Derived.Test.YtocnjegcmmfpfaaAbsSoundT
set_option linter.unusedSimpArgs false
set_option linter.unusedVariables false
namespace Go.Ab
open Go
section
variable {P : Program} {w w' : World} {F : Cells} {ρ ρ' : Nat → Reg} {h h' : Heap} {β : Type} {r : β}
theorem qb4 {sz : Nat} : ∀ (rows : List (List A)), (∀ row ∈ rows, row.length = sz) → rows.flatten.length = rows.length * sz
 | [], _ => by simp
 | r :: rs, hw => by
   simp only [List.flatten_cons, List.length_append, List.length_cons, qb4 rs fun x hx => hw x (by simp [hx]), hw r (by simp)]
   rw [Nat.succ_mul]; omega
theorem qgD {sz : Nat} : ∀ (rows : List (List A)), (∀ row ∈ rows, row.length = sz) → ∀ i j, j < sz → rows.flatten[i * sz + j]? = (rows[i]?).bind (·[j]?)
 | [], _, i, j, _ => by simp
 | r :: rs, hw, i, j, hj => by
   have hr := hw r (by simp)
   cases i with
   | zero => simp only [List.flatten_cons, Nat.zero_mul, Nat.zero_add]; rw [List.getElem?_append_left (by omega)]; simp
   | succ i =>
     simp only [List.flatten_cons, List.getElem?_cons_succ]
     rw [List.getElem?_append_right (by rw [Nat.succ_mul]; omega), hr]
     rw [show (i + 1) * sz + j - sz = i * sz + j by rw [Nat.succ_mul]; omega]
     exact qgD rs (fun x hx => hw x (by simp [hx])) i j hj
theorem qdR {sz : Nat} : ∀ (n : Nat) (rows : List (List A)), (∀ row ∈ rows, row.length = sz) → (rows.drop n).flatten = rows.flatten.drop (n * sz)
 | 0, rows, _ => by simp
 | n + 1, [], _ => by simp
 | n + 1, r :: rs, hw => by
   have hr := hw r (by simp)
   have e : (n + 1) * sz = r.length + n * sz := by rw [Nat.succ_mul, hr]; omega
   simp only [List.drop_succ_cons, List.flatten_cons]
   rw [qdR n rs fun x hx => hw x (by simp [hx]), e, List.drop_length_add_append]
theorem qdg {sz : Nat} : ∀ (n : Nat) (rows : List (List A)), (∀ row ∈ rows, row.length = sz) → (rows.take n).flatten = rows.flatten.take (n * sz)
 | 0, rows, _ => by simp
 | n + 1, [], _ => by simp
 | n + 1, r :: rs, hw => by
   have hr := hw r (by simp)
   have e : (n + 1) * sz = r.length + n * sz := by rw [Nat.succ_mul, hr]; omega
   simp only [List.take_succ_cons, List.flatten_cons]
   rw [qdg n rs fun x hx => hw x (by simp [hx]), e, List.take_length_add_append]
theorem flat_set {sz : Nat} (rows : List (List A)) (hw : ∀ row ∈ rows, row.length = sz) (i o : Nat) (row cs : List A) (hrow : rows[i]? = some row) (ho : o + cs.length ≤ row.length) :
 (rows.set i (qa5 row o cs)).flatten = qa5 rows.flatten (i * sz + o) cs := by
 obtain ⟨hlt, rfl⟩ := List.getElem?_eq_some_iff.1 hrow
 have hr : rows[i].length = sz := hw _ (List.getElem_mem hlt)
 have e1 : rows.flatten = (rows.take i).flatten ++ rows[i] ++ (rows.drop (i + 1)).flatten := by
  have : rows = rows.take i ++ rows[i] :: rows.drop (i + 1) := by rw [← List.drop_eq_getElem_cons hlt, List.take_append_drop]
  conv => lhs; rw [this]
  simp only [List.flatten_append, List.flatten_cons, List.append_assoc]
 have e2 : (rows.set i (qa5 rows[i] o cs)).flatten = (rows.take i).flatten ++ qa5 rows[i] o cs ++ (rows.drop (i + 1)).flatten := by
  rw [List.set_eq_take_append_cons_drop, if_pos hlt]; simp
 have l1 : (rows.take i).flatten.length = i * sz := by
  rw [qb4 _ fun x hx => hw x (List.mem_of_mem_take hx)]; simp [Nat.min_eq_left (Nat.le_of_lt hlt)]
 rw [e2, e1]
 generalize (rows.take i).flatten = X at l1 ⊢
 generalize (rows.drop (i + 1)).flatten = Z
 generalize hY : rows[i] = Y at *
 unfold qa5
 rw [← l1]
 simp only [List.append_assoc]
 rw [List.take_length_add_append, List.take_append_of_le_length (by omega)]
 rw [show X.length + o + cs.length = X.length + (o + cs.length) by omega, List.drop_length_add_append, List.drop_append_of_le_length (by omega)]
 simp
theorem ObjOk.flat {id : Nat} {ob : Obj} (k : ObjOk P w F ρ h id ob) :
 ∃ vs : List Value, vs.length = ob.rows.length * ob.sz ∧ (∀ j v, vs[j]? = some v → w.cell? ⟨(ρ id).b, (ρ id).o + j, none⟩ = some v) ∧ RelC P w F ρ h vs ob.rows.flatten := by
 have hl := qb4 ob.rows k.width
 have pos := k.pos
 have split : ∀ j, j < ob.rows.length * ob.sz → ∃ i m, i < ob.rows.length ∧ m < ob.sz ∧ j = i * ob.sz + m := fun j hj =>
  ⟨j / ob.sz, j % ob.sz, (Nat.div_lt_iff_lt_mul pos).2 hj, Nat.mod_lt _ pos, by rw [Nat.mul_comm]; exact (Nat.div_add_mod j ob.sz).symm⟩
 let f : Nat → Value := fun j => (w.cell? ⟨(ρ id).b, (ρ id).o + j, none⟩).getD undef
 have key : ∀ j, j < ob.rows.length * ob.sz → ∃ v c, w.cell? ⟨(ρ id).b, (ρ id).o + j, none⟩ = some v ∧ ob.rows.flatten[j]? = some c ∧ v.oneCell = true ∧ Rel P w F ρ h v c := by
  intro j hj
  obtain ⟨i, m, hi, hm, rfl⟩ := split j hj
  have hw := k.width _ (List.getElem_mem hi)
  obtain ⟨v, h1, h2, h3⟩ := k.rel i m hi (by omega)
  rw [k.sz] at h1
  refine ⟨v, _, by rw [← Nat.add_assoc]; exact h1, ?_, h2, h3⟩
  rw [qgD _ k.width _ _ hm, List.getElem?_eq_getElem hi]
  simp only [Option.bind_some]
  rw [List.getElem?_eq_getElem (by omega)]
 refine ⟨(List.range (ob.rows.length * ob.sz)).map f, by simp, fun j v hv => ?_, by simp [hl], fun j v c hv hc => ?_⟩
 · simp only [List.getElem?_map, Option.map_eq_some_iff] at hv
   obtain ⟨m, hm, rfl⟩ := hv
   obtain ⟨hm1, hm2⟩ := List.getElem?_eq_some_iff.1 hm
   simp at hm1 hm2
   subst hm2
   obtain ⟨v, c, h1, _⟩ := key j hm1
   simp [f, h1]
 · simp only [List.getElem?_map, Option.map_eq_some_iff] at hv
   obtain ⟨m, hm, rfl⟩ := hv
   obtain ⟨hm1, hm2⟩ := List.getElem?_eq_some_iff.1 hm
   simp at hm1 hm2
   subst hm2
   obtain ⟨v, c', h1, h2, h3, h4⟩ := key j hm1
   rw [h2] at hc
   cases hc
   simp only [f, h1, Option.getD_some]
   exact ⟨h3, h4⟩
theorem ObjOk.of_flat {id : Nat} {ob : Obj} (hsz : (ρ id).sz = ob.sz) (pos : 0 < ob.sz) (hl : ob.rows.length ≤ (ρ id).cap) (hw : ∀ row ∈ ob.rows, row.length = ob.sz)
 (hcell : ∀ j, j < (ρ id).cap * (ρ id).sz → (∃ v, w.cell? ⟨(ρ id).b, (ρ id).o + j, none⟩ = some v) ∧ Thaw w (ρ id).b ∧ ¬ F (ρ id).b ((ρ id).o + j))
 (vs : List Value) (hv : ∀ j v, vs[j]? = some v → w.cell? ⟨(ρ id).b, (ρ id).o + j, none⟩ = some v) (hr : RelC P w F ρ h vs ob.rows.flatten) : ObjOk P w F ρ h id ob := by
 refine ⟨hsz, pos, hl, hw, hcell, fun i j hi hj => ?_⟩
 have hwi := hw _ (List.getElem_mem hi)
 have hfl := qb4 ob.rows hw
 have hget : ob.rows.flatten[i * ob.sz + j]? = some ob.rows[i][j] := by
  rw [qgD _ hw _ _ (by omega), List.getElem?_eq_getElem hi]; simp
 have hlt := (List.getElem?_eq_some_iff.1 hget).1
 have h1 : vs[i * ob.sz + j]? = some (vs[i * ob.sz + j]'(by rw [hr.1]; exact hlt)) := List.getElem?_eq_getElem _
 obtain ⟨g1, g2⟩ := hr.2 _ _ _ h1 hget
 refine ⟨_, ?_, g1, g2⟩
 rw [hsz, Nat.add_assoc]
 exact hv _ _ h1
theorem RelC.step {vs : List Value} {cs : List A} {F' : Cells} (i : Inv P w F ρ h) (t : Tr w F ρ h w' F' ρ' h') (hr : RelC P w F ρ h vs cs) : RelC P w' F' ρ' h' vs cs :=
 ⟨hr.1, fun j v c hv hc => ⟨(hr.2 j v c hv hc).1, (hr.2 j v c hv hc).2.step i t⟩⟩
theorem RelC.append {vs us : List Value} {cs ds : List A} (h1 : RelC P w F ρ h vs cs) (h2 : RelC P w F ρ h us ds) : RelC P w F ρ h (vs ++ us) (cs ++ ds) := by
 refine ⟨by simp [h1.1, h2.1], fun i v c hv hc => ?_⟩
 rw [List.getElem?_append] at hv hc
 rw [h1.1] at hv
 split at hv
 · rename_i hi; rw [if_pos hi] at hc; exact h1.2 i v c hv hc
 · rename_i hi; rw [if_neg hi] at hc; exact h2.2 _ v c hv hc
theorem RelC.sub {vs : List Value} {cs : List A} (a n : Nat) (h1 : RelC P w F ρ h vs cs) : RelC P w F ρ h ((vs.drop a).take n) ((cs.drop a).take n) := by
 refine ⟨by simp [h1.1], fun i v c hv hc => ?_⟩
 rw [List.getElem?_take] at hv hc
 split at hv <;> try (cases hv; done)
 rename_i hi
 rw [if_pos hi] at hc
 rw [List.getElem?_drop] at hv hc
 exact h1.2 _ v c hv hc
theorem RelC.one {vs : List Value} {cs : List A} (h1 : RelC P w F ρ h vs cs) : ∀ v ∈ vs, v.oneCell' = true := by
 intro v hv
 obtain ⟨i, hi, rfl⟩ := List.mem_iff_getElem.1 hv
 rw [qgw]
 exact (h1.get i hi (by rw [← h1.1]; exact hi)).1
theorem Inv.write (i : Inv P w F ρ h) {id : Nat} {ob : Obj} (hob : h[id]? = some (.live ob)) {o : Nat} {us : List Value} {ds : List A} {rows' : List (List A)} (hr : RelC P w F ρ h us ds) (ho : o + ds.length ≤ ob.rows.flatten.length)
 (hrl : rows'.length = ob.rows.length) (hw : ∀ row ∈ rows', row.length = ob.sz) (hf : rows'.flatten = qa5 ob.rows.flatten o ds) :
 (∀ P', (storeCells ⟨(ρ id).b, (ρ id).o + o, none⟩ us).run P' w = .ok () (w.setCells (ρ id).b ((ρ id).o + o) us)) ∧
 Inv P (w.setCells (ρ id).b ((ρ id).o + o) us) F ρ (h.set id (.live { ob with rows := rows' })) ∧ Tr w F ρ h (w.setCells (ρ id).b ((ρ id).o + o) us) F ρ (h.set id (.live { ob with rows := rows' })) := by
 have k := i.obj id ob hob
 have hfl := qb4 ob.rows k.width
 have hcap : ob.rows.length * ob.sz ≤ (ρ id).cap * (ρ id).sz := by rw [k.sz]; exact Nat.mul_le_mul_right _ k.len
 have hul := hr.1
 have inreg : ∀ j, j < us.length → (ρ id).has (ρ id).b ((ρ id).o + o + j) := fun j hj => by
  have := Reg.has_cell (ρ id) (o + j) (by omega); rwa [← Nat.add_assoc] at this
 have hex : ∀ j, j < us.length → ∃ v, w.cell? ⟨(ρ id).b, (ρ id).o + o + j, none⟩ = some v := fun j hj => by
  have := (k.cell (o + j) (by omega)).1; rwa [← Nat.add_assoc] at this
 have hfz : ∀ j, j < us.length → w.frozen? ⟨(ρ id).b, (ρ id).o + o + j, none⟩ = false := fun j hj => by
  exact (k.cell (o + j) (by omega)).2.1 _
 have u : Upd (fun b o => (ρ id).has b o) w (w.setCells (ρ id).b ((ρ id).o + o) us) := qf2 _ us _ w inreg
 refine ⟨fun P' => ?_, ?_⟩
 · have := run_storeCells_cells (P := P') (ρ id).b ((ρ id).o + o) us 0 w (fun j hj => by obtain ⟨v, hv⟩ := hex j hj; simp [hv]) (fun j hj => by simpa using hfz j hj) hr.one
   simpa using this
 · refine i.update (ρ' := ρ) hob u (Nat.le_refl _) (fun _ _ => rfl) (fun _ => rfl) (fun b o hb => .inl hb) fun t => ?_
   obtain ⟨vs, h1, h2, h3⟩ := k.flat
   refine .of_flat k.sz k.pos (by simpa [hrl] using k.len) hw (fun j hj => ?_) (vs.take o ++ us ++ vs.drop (o + us.length)) (fun j v hv => ?_) ?_
   · obtain ⟨⟨v, g1⟩, g2, g3⟩ := k.cell j hj
     have hb := k.block (Reg.has_cell _ j hj)
     refine ⟨?_, u.thaw hb g2, g3⟩
     have := u.isSome (o := (ρ id).o + j) hb
     rw [g1] at this
     exact Option.isSome_iff_exists.1 this
   · rw [qes _ us _ w hex]
     rw [List.append_assoc, List.getElem?_append, List.getElem?_append, List.length_take, Nat.min_eq_left (by omega), List.getElem?_take, List.getElem?_drop] at hv
     split at hv
     · rename_i hj
       rw [if_neg (by omega)]
       exact h2 j v hv
     · rename_i hj
       split at hv
       · rename_i hj2
         rw [if_pos ⟨rfl, by omega, by omega⟩]
         rw [← hv]; congr 1; omega
       · rename_i hj2
         rw [if_neg (by omega)]
         have := h2 _ v hv
         rwa [show o + us.length + (j - o - us.length) = j by omega] at this
   · show RelC P _ F ρ _ _ rows'.flatten
     rw [hf]
     exact (h3.step i t).put (hr.step i t) ho
theorem qmw {t : TypeId} {sh : Option Nat} {a v : A} {va vv : Value} {k : A → Heap → Option β} (i : Inv P w F ρ h) (hsh : shapeT P t = some sh) (ha : Rel P w F ρ h va a) (hv : Rel P w F ρ h vv v) (hk : oStore sh a v h (fun h => k (.s undef) h) = some r) :
 HYld P w F ρ h (do Instr.storeAt t va vv; pure .skip) k r := by
 unfold oStore at hk
 split at hk <;> try (cases hk; done)
 rename_i id ver rr o
 obtain ⟨x, rfl, hl, hn, hx⟩ := ha.ptr_inv
 split at hk <;> try (cases hk; done)
 rename_i ob hob
 split at hk <;> try (cases hk; done)
 rename_i hver
 split at hk <;> try (cases hk; done)
 rename_i row cs hrow hcs
 split at hk <;> try (cases hk; done)
 rename_i hle
 have := (hx ob hob).2 hver.symm
 subst this
 have ko := i.obj id ob hob
 obtain ⟨hlt, hrw⟩ := List.getElem?_eq_some_iff.1 hrow
 have hrl : row.length = ob.sz := hrw ▸ ko.width _ (List.getElem_mem hlt)
 obtain ⟨g1, g2⟩ := RelC.of_asCells hv hcs
 have hput : (qa5 row o cs).length = row.length := by simp [qa5]; omega
 obtain ⟨s1, s2, s3⟩ := i.write hob (rows' := ob.rows.set rr (qa5 row o cs)) (o := rr * ob.sz + o) g1 (by
  rw [qb4 _ ko.width]
  calc rr * ob.sz + o + cs.length ≤ rr * ob.sz + ob.sz := by omega
   _ = (rr + 1) * ob.sz := by rw [Nat.succ_mul]
   _ ≤ ob.rows.length * ob.sz := Nat.mul_le_mul_right _ hlt) (by simp)
  (fun row' hr' => by
   rcases List.mem_or_eq_of_mem_set hr' with h1 | h1
   · exact ko.width _ h1
   · subst h1; omega) (flat_set _ ko.width _ _ _ _ hrow hle)
 refine ⟨.skip, undef, _, F, ρ, _, .s undef, ?_, .inr ⟨rfl, rfl⟩, .s_mk _, s2, s3, hk⟩
 have hsize : ∃ inf, P.info? t = some inf ∧ vv.cells.size = inf.size := by
  have := g1.1
  simp at this
  cases sh with
  | none => obtain ⟨i2, d, e1, e2, _⟩ := qeN hsh; exact ⟨i2, e1, by simp at g2; omega⟩
  | some m => obtain ⟨i2, e1, e2, _⟩ := qdq hsh; exact ⟨i2, e1, by simp at g2; omega⟩
 obtain ⟨inf, hinf, hsz⟩ := hsize
 have s1' := s1 P
 rw [← Nat.add_assoc, ← ko.sz] at s1'
 simp only [Instr.storeAt, Instr.sureAddr, storeVar, Sem.run_bind, Sem.run_pure, Result.andThen_ok, qac hinf, hsz, ne_eq, not_true, if_false, Sem.run_ite, s1']
 rw [ko.sz, Nat.add_assoc]
theorem Inv.fresh (i : Inv P w F ρ h) {at_ : Option Nat} {ob : Obj} {id : Nat} {h' : Heap} (hp : place at_ h ob = some (id, h')) (hd : ∀ b o, w'.cell? ⟨b, o, none⟩ = w.cell? ⟨b, o, none⟩) (u : Upd (fun _ _ => False) w w') (hsame : w'.heap.size = w.heap.size)
 {e : TypeId} {vs : List Value} {rest : Array Value} {cap : Nat} (hcap : vs.length + rest.size = cap * ob.sz) (pos : 0 < ob.sz) (hl : ob.rows.length ≤ cap) (hw : ∀ row ∈ ob.rows, row.length = ob.sz)
 (hr : RelC P w F ρ h vs ob.rows.flatten) :
 let w2 : World := { w' with heap := w'.heap.push (.cells (vs.toArray ++ rest) e) }
 let ρ' : Nat → Reg := fun j => if j = id then ⟨w.heap.size, 0, ob.sz, cap⟩ else ρ j
 Inv P w2 F ρ' h' ∧ Tr w F ρ h w2 F ρ' h' := by
 intro w2 ρ'
 have hid : ρ' id = ⟨w.heap.size, 0, ob.sz, cap⟩ := by simp [ρ']
 refine i.add hp (u.trans (qfd _ w' _) fun _ _ _ h => h) (fun j hj => by simp [ρ', hj]) (fun b o hb => ?_) fun t => ?_
 · rw [hid] at hb; obtain ⟨rfl, _⟩ := hb; exact Nat.le_refl _
 · have hcell : ∀ j, w2.cell? ⟨w.heap.size, j, none⟩ = (vs.toArray ++ rest)[j]? := fun j => by
    rw [← hsame]; exact qdh w' _ e j
   refine .of_flat (by rw [hid]) pos (by rw [hid]; exact hl) hw (fun j hj => ?_) vs (fun j v hv => ?_) (hr.step i t)
   · rw [hid] at hj ⊢
     simp only at hj ⊢
     refine ⟨?_, ?_, fun hf => ?_⟩
     · rw [hcell, Nat.zero_add, Array.getElem?_eq_getElem (by simp; omega)]; exact ⟨_, rfl⟩
     · rw [← hsame]; exact fun _ => qcl w' _ e _
     · have := i.fin _ _ hf; omega
   · rw [hid]
     simp only
     rw [hcell, Nat.zero_add, Array.getElem?_append_left (by have := (List.getElem?_eq_some_iff.1 hv).1; simpa using this)]
     simpa using hv
theorem qeI {at_ : Option Nat} {ob : Obj} {id : Nat} {h' : Heap} (hp : place at_ h ob = some (id, h')) : h'[id]? = some (.live ob) ∧ id < h'.length := by
 obtain ⟨g1, g2, g3, g4⟩ := qkb hp
 exact ⟨by rw [g1]; simp, g4⟩
theorem qjd {at_ : Option Nat} {sh : Option Nat} {v : A} {vv : Value} {k : A → Heap → Option β} (t : TypeId) (i : Inv P w F ρ h) (hv : Rel P w F ρ h vv v) (hk : oNew at_ sh v h k = some r) :
 HYld P w F ρ h (do pure (.value (← (do pure (.pointer (some (← newVar t vv))) : Sem Value)))) k r := by
 unfold oNew at hk
 split at hk <;> try (cases hk; done)
 rename_i cs hcs
 split at hk <;> try (cases hk; done)
 rename_i hne
 split at hk <;> try (cases hk; done)
 rename_i id h' hp
 obtain ⟨g1, g2⟩ := RelC.of_asCells hv hcs
 have hpos : 0 < cs.length := by cases cs with
  | nil => simp at hne
  | cons c cs => simp
 obtain ⟨q1, q2⟩ := i.fresh (w' := w) hp (fun _ _ => rfl) (.refl _ _) rfl (e := t) (vs := vv.cells.toList) (rest := #[]) (cap := 1) (by simpa using g1.1) hpos (by simp) (by simp) (by simpa using g1)
 obtain ⟨l1, l2⟩ := qeI hp
 refine .value (v := .pointer (some ⟨w.heap.size, 0, none⟩)) ?_ (.ptr _ id 0 0 0 l2 (fun s hs he => ?_) fun ob hob => ?_) q1 q2 hk
 · simp [newVar, newRow]
 · rw [l1] at hs; cases hs; cases he
 · rw [l1] at hob; cases hob
   exact ⟨Nat.le_refl _, fun _ => by simp⟩
end
end Go.Ab
