/-
 append AND copy.
-/
import Derived.Test.YtocnjegcmmfpfaaAbsSoundV
set_option linter.unusedSimpArgs false
set_option linter.unusedVariables false
namespace Go.Ab
open Go
section
variable {P : Program} {w w' : World} {F : Cells} {ρ ρ' : Nat → Reg} {h h' : Heap} {β : Type} {r : β}
theorem qdX (b o : Nat) (vs : List Value) (w1 : World) (hv : ∀ j v, vs[j]? = some v → w1.cell? ⟨b, o + j, none⟩ = some v) (n : Nat) (hn : n ≤ vs.length) :
 (loadCells ⟨b, o, none⟩ n).run P w1 = .ok (vs.take n).toArray w1 := by
 have := run_loadCells_list (P := P) w1 ⟨b, o, none⟩ (vs.take n) (fun j v hj => by
  rw [List.getElem?_take] at hj
  split at hj <;> try (cases hj; done)
  rw [qcg]; exact hv j v hj)
 simpa [Nat.min_eq_left hn] using this
theorem qce {x : A} {v : Value} {sz : Nat} {rows : List (List A)} (i : Inv P w F ρ h) (hr : Rel P w F ρ h v x) (hx : rowsOf sz x h = some rows) :
 ∃ a c vs, v = .slice a rows.length c ∧ (∀ row ∈ rows, row.length = sz) ∧ RelC P w F ρ h vs rows.flatten ∧
   (∀ w1, (∀ b o, w1.cell? ⟨b, o, none⟩ = w.cell? ⟨b, o, none⟩) → ∀ n, n ≤ rows.length → (Builtin.firstCells sz n v).run P w1 = .ok (vs.take (n * sz)).toArray w1) ∧
   ∀ id ver sz' lo len, x = .osl id ver sz' lo len → ∀ j v, vs[j]? = some v → w.cell? ⟨(ρ id).b, (ρ id).o + lo * sz + j, none⟩ = some v := by
 unfold rowsOf at hx
 split at hx
 · rename_i sz' rows'
   split at hx <;> simp at hx
   rename_i hs
   subst hx
   by_cases hs2 : sz' = sz
   case neg =>
    have he : rows'.isEmpty = true := hs.resolve_left hs2
    obtain rfl : rows' = [] := by cases rows' with | nil => rfl | cons a b => cases he
    obtain ⟨a, c, b, o, us, rfl, hlc, ha, hw, hc, hz⟩ := hr.fsl_inv
    refine ⟨a, c, [], rfl, (fun row h => by cases h), ⟨rfl, fun i v c hv => by simp at hv⟩, fun w1 _ n hn => ?_, fun _ _ _ _ _ hh => by cases hh⟩
    have hn0 : n = 0 := by simpa using hn
    subst hn0
    cases a <;> simp [Builtin.firstCells, loadCells, loadCellsFrom]
   clear hs
   subst hs2
   obtain ⟨a, c, b, o, us, rfl, hlc, ha, hw, hc, hz⟩ := hr.fsl_inv
   have hfl := qb4 rows' hw
   by_cases hpos : sz' = 0
   · subst hpos
     have hnil : rows'.flatten = [] := by rw [← List.length_eq_zero_iff, hfl]; simp
     refine ⟨a, c, [], rfl, hw, by rw [hnil]; exact ⟨rfl, fun i v c hv => by simp at hv⟩, fun w1 _ n _ => ?_, fun _ _ _ _ _ hh => by cases hh⟩
     cases a <;> simp [Builtin.firstCells, loadCells, loadCellsFrom]
   · have split : ∀ j, j < rows'.length * sz' → ∃ i m, i < rows'.length ∧ m < sz' ∧ j = i * sz' + m := fun j hj =>
      ⟨j / sz', j % sz', (Nat.div_lt_iff_lt_mul (by omega)).2 hj, Nat.mod_lt _ (by omega), by rw [Nat.mul_comm]; exact (Nat.div_add_mod j sz').symm⟩
     let f : Nat → Value := fun j => us (j / sz') (j % sz')
     have hfeq : ∀ i m, m < sz' → f (i * sz' + m) = us i m := fun i m hm => by
      simp only [f]
      rw [Nat.mul_comm, Nat.mul_add_div (by omega), Nat.mul_add_mod, Nat.div_eq_of_lt hm, Nat.mod_eq_of_lt hm]; simp
     have hv : ∀ j v, ((List.range (rows'.length * sz')).map f)[j]? = some v → w.cell? ⟨b, o + j, none⟩ = some v := fun j v hv => by
      simp only [List.getElem?_map, Option.map_eq_some_iff] at hv
      obtain ⟨m, hm, rfl⟩ := hv
      obtain ⟨hm1, hm2⟩ := List.getElem?_eq_some_iff.1 hm
      simp at hm1 hm2
      subst hm2
      obtain ⟨i', m', hi, hmm, rfl⟩ := split j hm1
      rw [hfeq _ _ hmm, ← Nat.add_assoc]; exact (hc _ _ hi hmm).2.1
     refine ⟨a, c, (List.range (rows'.length * sz')).map f, rfl, hw, ⟨by simp [hfl], fun j v cc hv' hcc => ?_⟩, fun w1 hw1 n hn => ?_, fun _ _ _ _ _ hh => by cases hh⟩
     · simp only [List.getElem?_map, Option.map_eq_some_iff] at hv'
       obtain ⟨m, hm, rfl⟩ := hv'
       obtain ⟨hm1, hm2⟩ := List.getElem?_eq_some_iff.1 hm
       simp at hm1 hm2
       subst hm2
       obtain ⟨i', m', hi, hmm, rfl⟩ := split j hm1
       rw [qgD _ hw _ _ hmm, List.getElem?_eq_getElem hi] at hcc
       simp only [Option.bind_some] at hcc
       obtain ⟨hlt, rfl⟩ := List.getElem?_eq_some_iff.1 hcc
       rw [hfeq _ _ hmm]
       exact ⟨(hc _ _ hi hmm).2.2, .pure _ _ (hz _ _ hi hlt)⟩
     · by_cases h0 : rows'.length = 0
       · have hn0 : n = 0 := by omega
         subst hn0
         cases a <;> simp [Builtin.firstCells, loadCells, loadCellsFrom]
       · rw [ha (by omega)]
         simp only [Builtin.firstCells]
         exact qdX b o _ w1 (fun j v hj => by rw [hw1]; exact hv j v hj) _ (by simp; exact Nat.mul_le_mul_right _ hn)
 · simp at hx
   subst hx
   obtain rfl := hr.s_inv
   refine ⟨none, 0, [], rfl, by simp, ⟨rfl, fun i v c hv => by simp at hv⟩, fun w1 _ n _ => by simp [Builtin.firstCells], fun _ _ _ _ _ hh => by cases hh⟩
 · rename_i id ver sz' lo len
   obtain ⟨a, c, rfl, hl, hn, hlc, hsm, hy⟩ := hr.osl_inv
   split at hx <;> try (cases hx; done)
   rename_i ob hob
   split at hx <;> simp at hx
   rename_i hcond
   obtain ⟨hver, hs, hle⟩ := hcond
   subst hs; subst hx
   have k := i.obj id ob hob
   obtain ⟨g1, g2⟩ := (hy ob hob).2 hver.symm
   have hsz : sz' = ob.sz := by rw [g1, k.sz]
   subst hsz
   have hw : ∀ row ∈ (ob.rows.drop lo).take len, row.length = ob.sz := fun row hr => k.width _ (List.mem_of_mem_drop (List.mem_of_mem_take hr))
   obtain ⟨vs, h1, h2, h3⟩ := k.flat
   have hlen : ((ob.rows.drop lo).take len).length = len := by simp; omega
   have hflat : ((ob.rows.drop lo).take len).flatten = (ob.rows.flatten.drop (lo * ob.sz)).take (len * ob.sz) := by
    rw [qdg len _ (fun row hr => k.width _ (List.mem_of_mem_drop hr)), qdR lo _ k.width]
   refine ⟨a, c, (vs.drop (lo * ob.sz)).take (len * ob.sz), by rw [hlen], hw, by rw [hflat]; exact h3.sub _ _, fun w1 hw1 n hn => ?_, fun id' ver' sz'' lo' len' hh j v hj => ?_⟩
   rotate_left
   · cases hh
     rw [List.getElem?_take] at hj
     split at hj <;> try (cases hj; done)
     rw [List.getElem?_drop] at hj
     rw [Nat.add_assoc]; exact h2 _ v hj
   rw [hlen] at hn
   by_cases hc0 : c = 0
   · have hn0 : n = 0 := by omega
     subst hn0
     cases a <;> simp [Builtin.firstCells, loadCells, loadCellsFrom]
   · obtain ⟨g3, g4⟩ := g2 (by omega)
     rw [g3]
     simp only [Builtin.firstCells]
     have hvl : vs.length = ob.rows.length * ob.sz := h1
     have hbnd : (lo + len) * ob.sz ≤ ob.rows.length * ob.sz := Nat.mul_le_mul_right _ hle
     rw [Nat.add_mul] at hbnd
     exact qdX _ _ _ w1 (fun j v hj => by
      rw [List.getElem?_take] at hj
      split at hj <;> try (cases hj; done)
      rw [List.getElem?_drop] at hj
      rw [hw1, Nat.add_assoc]; exact h2 _ v hj) _ (by simp; have := Nat.mul_le_mul_right ob.sz hn; omega)
 · cases hx
theorem qgg (n c : Nat) (h : c < n) : Builtin.nextslicecap n c ≤ 2 * n + 192 := by
 unfold Builtin.nextslicecap
 split
 · omega
 · split
   · omega
   · have key : ∀ (rounds c : Nat), c < n ∨ c ≤ 2 * n + 192 → Builtin.growBy n rounds c ≤ 2 * n + 192 := by
      intro rounds
      induction rounds with
      | zero => intro c hc; simp only [Builtin.growBy]; omega
      | succ m ih =>
        intro c hc
        simp only [Builtin.growBy]
        split
        · omega
        · exact ih _ (.inr (by omega))
     exact key 4 c (.inl h)
theorem qbk (z : Array Value) (n : Nat) : (Builtin.zeroCells z n).size = n * z.size := by simp [Builtin.zeroCells]
theorem qg4 {t u e ty : TypeId} {ie : TypeInfo} {a : Option Addr} {len cap n : Nat} {x zv : Value} {vs us : List Value} (hu : P.underlying t = some (.slice e)) (hu2 : ∃ e2, P.underlying u = some (.slice e2)) (hie : P.info? e = some ie)
 (hz : ∀ w, (zeroValue e).run P w = .ok zv w) (hb : 0 < ie.bytes) (hx : ∃ b c, x = .slice b n c) (hgt : cap < len + n) (hok : qa4 (len + n) ie.bytes)
 (h1 : ∀ w1, (∀ b o, w1.cell? ⟨b, o, none⟩ = w.cell? ⟨b, o, none⟩) → (Builtin.firstCells ie.size len (.slice a len cap)).run P w1 = .ok vs.toArray w1)
 (h2 : ∀ w1, (∀ b o, w1.cell? ⟨b, o, none⟩ = w.cell? ⟨b, o, none⟩) → (Builtin.firstCells ie.size n x).run P w1 = .ok us.toArray w1) :
 ∃ nc, len + n ≤ nc ∧ (Builtin.append_ #[t, u] ty #[.slice a len cap, x]).run P w = .ok (.slice (some ⟨w.heap.size, 0, none⟩) (len + n) nc)
   { w with drawn := w.drawn + 1, heap := w.heap.push (.cells ((vs ++ us).toArray ++ Builtin.zeroCells zv.cells (nc - (len + n))) e) } := by
 obtain ⟨e2, hu2⟩ := hu2
 obtain ⟨xb, xc, rfl⟩ := hx
 obtain ⟨k1, k2⟩ := hok
 have hn1 : ¬ ((Builtin.nextslicecap (len + n) cap * ie.bytes : Nat) > 2 ^ 48) := by
  have := Nat.mul_le_mul_right ie.bytes (qgg (len + n) cap hgt)
  omega
 have hn2 : ¬ (((len + n : Nat) : Int) > IntKind.i64.max ∧ (False ∨ ie.bytes = 0)) := by
  rintro ⟨_, h | h⟩
  · exact h
  · omega
 refine ⟨(Question.appendCap (len + n) cap e).cut (w.tape w.drawn (.appendCap (len + n) cap e)), by simp [Question.cut], ?_⟩
 have hr1 := h1 { w with drawn := w.drawn + 1 } (fun _ _ => rfl)
 have hr2 := h2 { w with drawn := w.drawn + 1 } (fun _ _ => rfl)
 have hnle : ¬ len + n ≤ cap := by omega
 have hb0 : ¬ ie.bytes = 0 := by omega
 simp only [Builtin.append_, List.getElem?_toArray, List.getElem?_cons_zero, List.getElem?_cons_succ, Sem.run_bind, run_underlying hu, run_underlying hu2, Result.andThen_ok, qac hie, Sem.run_pure, Sem.run_ite, Builtin.lenOf, hnle, if_false, typeInfo, run_program, hie,
  Bool.false_eq_true, false_or, hb0, and_false, hn1, run_choose, Question.forced, run_askRoom, hr1, hr2, Bool.not_false, if_true, hz, newRow, run_newObj]
 simp
theorem qdt {at_ : Option Nat} {t u e e2 ty : TypeId} {sz : Nat} {dst src : A} {vd vs : Value} {k : A → Heap → Option β} (i : Inv P w F ρ h) (hd : Rel P w F ρ h vd dst) (hs : Rel P w F ρ h vs src)
 (hu : P.underlying t = some (.slice e)) (hu2 : P.underlying u = some (.slice e2)) (he : sizeT P e = some sz) (hb : 0 < P.bytesOf e) (hz : (zeroT P e).map List.length = some sz) (hk : oAppend at_ sz (P.bytesOf e) dst src h k = some r) :
 HYld P w F ρ h (do pure (.value (← Builtin.append_ #[t, u] ty #[vd, vs]))) k r := by
 obtain ⟨ie, hie, rfl⟩ : ∃ ie, P.info? e = some ie ∧ ie.size = sz := by
  unfold sizeT at he; cases hh : P.info? e <;> simp_all
 have hbe : P.bytesOf e = ie.bytes := by simp [Program.bytesOf, hie]
 rw [hbe] at hb hk
 rw [Option.map_eq_some_iff] at hz
 obtain ⟨z, hz, hzl⟩ := hz
 obtain ⟨zv, hzv, hzr, rfl⟩ := qbH hz w F ρ h
 have hzs : zv.cells.size = ie.size := by simpa using hzl
 unfold oAppend at hk
 split at hk <;> try (cases hk; done)
 rename_i new hnew
 obtain ⟨sa, sc, us, rfl, swid, srel, srun, -⟩ := qce i hs hnew
 have sfl := qb4 new swid
 have sul : us.length = new.length * ie.size := by rw [srel.1, sfl]
 have srun' : ∀ w1, (∀ b o, w1.cell? ⟨b, o, none⟩ = w.cell? ⟨b, o, none⟩) → (Builtin.firstCells ie.size new.length (.slice sa new.length sc)).run P w1 = .ok us.toArray w1 := fun w1 hw1 => by
  have := srun w1 hw1 new.length (Nat.le_refl _); rwa [List.take_of_length_le (by omega)] at this
 split at hk
 ·
  obtain rfl := hd.s_inv
  split at hk <;> try (cases hk; done)
  rename_i hcond
  split at hk <;> try (cases hk; done)
  rename_i id h' hp
  by_cases hn0 : new.length = 0
  · have hnil : new = [] := List.length_eq_zero_iff.1 hn0
    subst hnil
    have hrun : (Builtin.append_ #[t, u] ty #[.slice none 0 0, .slice sa ([] : List (List A)).length sc]).run P w = .ok (.slice none 0 0) w := by
     have := srun' w (fun _ _ => rfl)
     simp only [List.length_nil] at this ⊢
     simp only [Builtin.append_, List.getElem?_toArray, List.getElem?_cons_zero, List.getElem?_cons_succ, Sem.run_bind, run_underlying hu, run_underlying hu2, Result.andThen_ok, qac hie, Sem.run_pure, Sem.run_ite, Builtin.lenOf, Bool.false_eq_true, if_false, Nat.le_refl, Nat.add_zero, if_true, Bool.not_false, this]
    obtain ⟨q1, q2⟩ := i.add (w' := w) (ρ' := fun j => if j = id then ⟨0, 0, ie.size, 0⟩ else ρ j) hp (.refl _ _) (fun j hj => by simp [hj]) (fun b o hb => by simp [Reg.has] at hb) (fun t =>
     .of_flat (by simp) (by show 0 < ie.size; have := hcond.2; omega) (by simp) (by simp) (fun j hj => by simp at hj) [] (fun j v hv => by simp at hv) ⟨rfl, fun j v c hv => by simp at hv⟩)
    obtain ⟨l1, l2⟩ := qeI hp
    refine .value hrun (.osl _ _ _ id 0 ie.size 0 l2 (fun s hs he => ?_) (Nat.le_refl _) (fun hc => by omega) fun ob hob => ?_) q1 q2 hk
    · rw [l1] at hs; cases hs; cases he
    · rw [l1] at hob; cases hob
      exact ⟨Nat.le_refl _, fun _ => ⟨by simp, fun hc => by omega⟩⟩
  · obtain ⟨nc, hnc, hrun⟩ := qg4 (P := P) (w := w) (ty := ty) (a := none) (len := 0) (cap := 0) (n := new.length) (vs := []) (us := us) hu ⟨e2, hu2⟩ hie hzv hb ⟨_, _, rfl⟩ (by omega) (by simpa using hcond.1)
     (fun w1 _ => by simp [Builtin.firstCells]) srun'
    simp only [Nat.zero_add, List.nil_append] at hrun hnc
    exact i.freshSlice (w' := { w with drawn := w.drawn + 1 }) hp hk (fun _ _ => rfl) (qbV _ _) rfl e (vs := us) (Builtin.zeroCells zv.cells (nc - new.length)) (cap := nc)
     (by rw [qbk, sul, hzs, ← Nat.add_mul]; congr 1; omega) (by omega) hnc swid srel hrun
 · rename_i id ver sz' lo len
   split at hk <;> try (cases hk; done)
   rename_i ob hob
   split at hk <;> try (cases hk; done)
   rename_i hcond
   obtain ⟨hver, hsz', hle, hok⟩ := hcond
   subst hsz'
   obtain ⟨a, c, rfl, hl, hn, hlc, hsm, hy⟩ := hd.osl_inv
   have ko := i.obj id ob hob
   obtain ⟨g1, g2⟩ := (hy ob hob).2 hver.symm
   have hsz : ie.size = ob.sz := by rw [g1, ko.sz]
   obtain ⟨da, dc, ds, hda, dwid, drel, drun, dcel⟩ := qce (sz := ie.size) (rows := (ob.rows.drop lo).take len) i hd (by simp [rowsOf, hob, hver, hle])
   have dlen : ((ob.rows.drop lo).take len).length = len := by simp; omega
   rw [dlen] at hda
   cases hda
   have dfl := qb4 _ dwid
   have dul : ds.length = len * ie.size := by rw [drel.1, dfl, dlen]
   have drun' : ∀ w1, (∀ b o, w1.cell? ⟨b, o, none⟩ = w.cell? ⟨b, o, none⟩) → (Builtin.firstCells ie.size len (.slice a len c)).run P w1 = .ok ds.toArray w1 := fun w1 hw1 => by
    have := drun w1 hw1 len (by omega); rwa [List.take_of_length_le (by omega)] at this
   let ob' : Obj := ⟨ver + 1, ob.sz, (ob.rows.drop lo).take len ++ new⟩
   have hrl : ob'.rows.length = len + new.length := by simp [ob']; omega
   have hwid' : ∀ row ∈ ob'.rows, row.length = ob'.sz := fun row hr => by
    simp only [ob', List.mem_append] at hr
    rcases hr with hr | hr
    · rw [dwid row hr, hsz]
    · rw [swid row hr, hsz]
   have hflat' : ob'.rows.flatten = ((ob.rows.drop lo).take len).flatten ++ new.flatten := by simp [ob']
   have hget : (h.set id (.live ob'))[id]? = some (.live ob') := by rw [List.getElem?_set]; simp [hl]
   by_cases hin : len + new.length ≤ c
   · by_cases hc0 : c = 0
     ·
      have hl0 : len = 0 := by omega
      have hn0 : new.length = 0 := by omega
      have hnil : new = [] := List.length_eq_zero_iff.1 hn0
      subst hnil; subst hl0; subst hc0
      have hrun : (Builtin.append_ #[t, u] ty #[.slice a 0 0, .slice sa ([] : List (List A)).length sc]).run P w = .ok (.slice a 0 0) w := by
       have := srun' w (fun _ _ => rfl)
       have hus : us = [] := by cases us; rfl; simp at sul
       subst hus
       simp only [List.length_nil] at this ⊢
       simp only [Builtin.append_, List.getElem?_toArray, List.getElem?_cons_zero, List.getElem?_cons_succ, Sem.run_bind, run_underlying hu, run_underlying hu2, Result.andThen_ok, qac hie, Sem.run_pure, Sem.run_ite, Builtin.lenOf, Bool.false_eq_true, if_false, Nat.le_refl, Nat.add_zero, if_true, Bool.not_false, this]
       cases a <;> simp [storeCells]
      obtain ⟨q1, q2⟩ := i.update (w' := w) (ρ' := fun j => if j = id then ⟨0, 0, ie.size, 0⟩ else ρ j) hob (.refl _ _) (ob' := ob') (by simp [ob', hver]) (fun j hj => by simp [hj]) (fun hv => by simp [ob'] at hv; omega)
       (fun b o hb => by simp [Reg.has] at hb) (fun t =>
       .of_flat (by simp [ob', hsz]) ko.pos (by simp [ob']) hwid' (fun j hj => by simp at hj) [] (fun j v hv => by simp at hv) ⟨by simp [ob'], fun j v c hv => by simp at hv⟩)
      refine .value hrun (.osl _ _ _ id (ver + 1) ie.size 0 (by simpa using hl) (fun s hs he => ?_) (by simp) (fun hc => by omega) fun ob2 hob2 => ?_) q1 q2 hk
      · rw [hget] at hs; cases hs; cases he
      · rw [hget] at hob2; cases hob2
        exact ⟨Nat.le_refl _, fun _ => ⟨by simp, fun hc => by omega⟩⟩
     ·
      obtain ⟨g3, g4⟩ := g2 (by omega)
      subst g3
      have hcapm : (lo + c) * ie.size ≤ (ρ id).cap * ie.size := Nat.mul_le_mul_right _ g4
      have hinm : (len + new.length) * ie.size ≤ c * ie.size := Nat.mul_le_mul_right _ hin
      rw [Nat.add_mul] at hcapm hinm
      have inreg : ∀ j, j < us.length → (ρ id).has (ρ id).b ((ρ id).o + lo * ie.size + len * ie.size + j) := fun j hj => by
       refine ⟨rfl, by omega, ?_⟩
       rw [← g1]; omega
      have hcell := fun j (hj : j < us.length) => ko.cell (lo * ie.size + len * ie.size + j) (by rw [← g1]; omega)
      have hex : ∀ j, j < us.length → ∃ v, w.cell? ⟨(ρ id).b, (ρ id).o + lo * ie.size + len * ie.size + j, none⟩ = some v := fun j hj => by
       have := (hcell j hj).1; simpa [Nat.add_assoc] using this
      have hfz : ∀ j, j < us.length → w.frozen? ⟨(ρ id).b, (ρ id).o + lo * ie.size + len * ie.size + j, none⟩ = false := fun j hj => by
       exact (hcell j hj).2.1 _
      let w2 := w.setCells (ρ id).b ((ρ id).o + lo * ie.size + len * ie.size) us
      have up : Upd (fun b o => (ρ id).has b o) w w2 := qf2 _ us _ w inreg
      have hst : (storeCells ⟨(ρ id).b, (ρ id).o + lo * ie.size + len * ie.size, none⟩ us).run P w = .ok () w2 := by
       have := run_storeCells_cells (P := P) (ρ id).b ((ρ id).o + lo * ie.size + len * ie.size) us 0 w (fun j hj => by obtain ⟨v, hv⟩ := hex j hj; simp [hv]) (fun j hj => by simpa using hfz j hj) srel.one
       simpa using this
      have hrun : (Builtin.append_ #[t, u] ty #[.slice (some ⟨(ρ id).b, (ρ id).o + lo * ie.size, none⟩) len c, .slice sa new.length sc]).run P w = .ok (.slice (some ⟨(ρ id).b, (ρ id).o + lo * ie.size, none⟩) (len + new.length) c) w2 := by
       simp only [Builtin.append_, List.getElem?_toArray, List.getElem?_cons_zero, List.getElem?_cons_succ, Sem.run_bind, run_underlying hu, run_underlying hu2, Result.andThen_ok, qac hie, Sem.run_pure, Sem.run_ite, Builtin.lenOf, Bool.false_eq_true, if_false, hin, if_true, Bool.not_false, srun' w (fun _ _ => rfl), qcg, hst]
      obtain ⟨q1, q2⟩ := i.update (w' := w2) (ρ' := fun j => if j = id then ⟨(ρ id).b, (ρ id).o + lo * ie.size, ie.size, c⟩ else ρ j) hob up (ob' := ob') (by simp [ob', hver]) (fun j hj => by simp [hj]) (fun hv => by simp [ob'] at hv; omega)
       (fun b o hb => by
        simp only [if_true] at hb
        obtain ⟨rfl, h1, h2⟩ := hb
        simp only at h1 h2
        exact .inl ⟨rfl, by omega, by rw [← g1]; omega⟩) (fun t => by
        refine .of_flat (by simp [ob', hsz]) ko.pos (by simp [ob']; omega) hwid' (fun j hj => ?_) (ds ++ us) (fun j v hv => ?_) (by rw [hflat']; exact (drel.step i t).append (srel.step i t))
        · simp only [if_true] at hj ⊢
          obtain ⟨⟨v, e1⟩, e2, e3⟩ := ko.cell (lo * ie.size + j) (by rw [← g1]; omega)
          rw [← Nat.add_assoc] at e1 e3
          have hb := qd6 e1
          refine ⟨?_, up.thaw hb e2, e3⟩
          have := up.isSome (o := (ρ id).o + lo * ie.size + j) hb
          rw [e1] at this
          exact Option.isSome_iff_exists.1 this
        · simp only [if_true]
          show w2.cell? _ = _
          rw [qes _ us _ w hex]
          rw [List.getElem?_append, dul] at hv
          split at hv
          · rename_i hj
            rw [if_neg (by omega)]
            exact dcel id ver ie.size lo len rfl j v hv
          · rename_i hj
            have := (List.getElem?_eq_some_iff.1 hv).1
            rw [if_pos ⟨rfl, by omega, by omega⟩]
            rw [← hv]; congr 1; omega)
      refine .value hrun (.osl _ _ _ id (ver + 1) ie.size 0 (by simpa using hl) (fun s hs he => ?_) hin (fun hc => ⟨_, rfl⟩) fun ob2 hob2 => ?_) q1 q2 hk
      · rw [hget] at hs; cases hs; cases he
      · rw [hget] at hob2; cases hob2
        exact ⟨Nat.le_refl _, fun _ => ⟨by simp, fun hc => by simp⟩⟩
   · obtain ⟨nc, hnc, hrun⟩ := qg4 (P := P) (w := w) (ty := ty) (a := a) (len := len) (cap := c) (n := new.length) (vs := ds) (us := us) hu ⟨e2, hu2⟩ hie hzv hb ⟨_, _, rfl⟩ (by omega) hok drun' srun'
     let w2 : World := { w with drawn := w.drawn + 1, heap := w.heap.push (.cells ((ds ++ us).toArray ++ Builtin.zeroCells zv.cells (nc - (len + new.length))) e) }
     have up : Upd (fun _ _ => False) w w2 := (qbV _ w).trans (qfd _ { w with drawn := w.drawn + 1 } _) fun _ _ _ h => h
     have hcell : ∀ j, w2.cell? ⟨w.heap.size, j, none⟩ = ((ds ++ us).toArray ++ Builtin.zeroCells zv.cells (nc - (len + new.length)))[j]? := fun j => qdh { w with drawn := w.drawn + 1 } _ e j
     have hsize : ((ds ++ us).toArray ++ Builtin.zeroCells zv.cells (nc - (len + new.length))).size = nc * ie.size := by
      rw [Array.size_append, qbk, hzs]
      simp only [List.size_toArray, List.length_append]
      rw [dul, sul, ← Nat.add_mul, ← Nat.add_mul]; congr 1; omega
     obtain ⟨q1, q2⟩ := i.update (w' := w2) (ρ' := fun j => if j = id then ⟨w.heap.size, 0, ie.size, nc⟩ else ρ j) hob (up.mono fun _ _ _ h => h.elim) (ob' := ob') (by simp [ob', hver]) (fun j hj => by simp [hj]) (fun hv => by simp [ob'] at hv; omega)
      (fun b o hb => by simp only [if_true] at hb; obtain ⟨rfl, _⟩ := hb; exact .inr (Nat.le_refl _)) (fun t => by
       refine .of_flat (by simp [ob', hsz]) ko.pos (by simp [ob']; omega) hwid' (fun j hj => ?_) (ds ++ us) (fun j v hv => ?_) (by rw [hflat']; exact (drel.step i t).append (srel.step i t))
       · simp only [if_true] at hj ⊢
         refine ⟨?_, fun _ => qcl { w with drawn := w.drawn + 1 } _ e _, fun hf => ?_⟩
         · rw [hcell, Nat.zero_add, Array.getElem?_eq_getElem (by omega)]; exact ⟨_, rfl⟩
         · have := i.fin _ _ hf; omega
       · simp only [if_true]
         rw [hcell, Nat.zero_add, Array.getElem?_append_left (by have := (List.getElem?_eq_some_iff.1 hv).1; simpa using this)]
         simpa using hv)
     refine .value hrun (.osl _ _ _ id (ver + 1) ie.size 0 (by simpa using hl) (fun s hs he => ?_) hnc (fun hc => ⟨_, rfl⟩) fun ob2 hob2 => ?_) q1 q2 hk
     · rw [hget] at hs; cases hs; cases he
     · rw [hget] at hob2; cases hob2
       exact ⟨Nat.le_refl _, fun _ => ⟨by simp, fun hc => by simp⟩⟩
 · cases hk
end
end Go.Ab
