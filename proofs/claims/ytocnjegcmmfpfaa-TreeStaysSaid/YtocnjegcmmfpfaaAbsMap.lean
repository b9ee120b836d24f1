/-
  MAPS whose keys are whole numbers and whose values never change: made, looked up, written.
-/
import Derived.Test.YtocnjegcmmfpfaaAbsCallK
import Derived.MapKept
set_option linter.unusedSimpArgs false
set_option linter.unusedVariables false
namespace Go.Ab
open Go
section
variable {P : Program} {w w' : World} {F F' : Cells} {ρ ρ' ρ2 : Nat → Reg} {h h' h2 : Heap} {β : Type} {r : β}

theorem mapT_some {t : TypeId} {kd : IntKind} {et : TypeId} (hm : mapT P t = some (kd, et)) : ∃ kt, P.underlying t = some (.map kt et) ∧ P.underlying kt = some (.int kd) := by
  unfold mapT at hm
  split at hm <;> try (cases hm; done)
  rename_i kt et' hu
  split at hm <;> try (cases hm; done)
  rename_i kd' hk
  cases hm
  exact ⟨kt, hu, hk⟩

/-- What is found among entries. -/
theorem findNow_get {kd0 kd : IntKind} {n : Int} : ∀ (es : List (Int × A)) (ces : List MapEntry) (i0 : Nat), ces.length = es.length →
    (∀ (i : Nat) (k : Int) (a : A), es[i]? = some (k, a) → ∃ e, ces[i]? = some e ∧ e.key = .int kd k ∧ Fz P w F e.val a) →
    (Instr.findNow (.int kd0) (.int kd n) ces i0 = some none ∧ mpGet n es = none ∧ ∀ v, mpPut n v es = es ++ [(n, v)]) ∨
    ∃ i e a, Instr.findNow (.int kd0) (.int kd n) ces i0 = some (some (i0 + i, e.val)) ∧ ces[i]? = some e ∧ es[i]? = some (n, a) ∧ e.key = .int kd n ∧ mpGet n es = some a ∧ Fz P w F e.val a ∧ ∀ v, mpPut n v es = es.set i (n, v)
  | [], [], i0, _, _ => .inl ⟨rfl, rfl, fun _ => rfl⟩
  | [], c :: ces, i0, hl, _ => by simp at hl
  | x :: es, [], i0, hl, _ => by simp at hl
  | (m, a) :: es, c :: ces, i0, hl, hr => by
    obtain ⟨e, h1, h2, h3⟩ := hr 0 m a rfl
    simp only [List.getElem?_cons_zero, Option.some.injEq] at h1
    subst h1
    by_cases hnm : n = m
    · subst hnm
      refine .inr ⟨0, c, a, ?_, rfl, rfl, h2, ?_, h3, fun v => ?_⟩
      · simp [Instr.findNow, h2, Instr.sameNow]
      · simp [mpGet]
      · simp [mpPut]
    · have hb : (n == m) = false := by simpa using hnm
      have ih := findNow_get (kd0 := kd0) (n := n) es ces (i0 + 1) (by simpa using hl) fun i k a' hi => hr (i + 1) k a' (by simpa using hi)
      have hf : Instr.findNow (.int kd0) (.int kd n) (c :: ces) i0 = Instr.findNow (.int kd0) (.int kd n) ces (i0 + 1) := by
        simp [Instr.findNow, h2, Instr.sameNow, hb]
      rw [hf]
      rcases ih with ⟨g1, g2, g3⟩ | ⟨i, e, a', g1, g2, g3, g4, g5, g6, g7⟩
      · exact .inl ⟨g1, by simp [mpGet, hb, g2], fun v => by simp [mpPut, hb, g3]⟩
      · refine .inr ⟨i + 1, e, a', by rw [g1]; simp; omega, by simpa using g2, by simpa using g3, g4, by simp [mpGet, hb, g5], g6, fun v => by simp [mpPut, hb, g7]⟩

theorem run_findKey {kt : TypeId} {k0 kd : IntKind} {n : Int} {es : List MapEntry} {x : Option (Nat × Value)} (hk : P.underlying kt = some (.int k0)) (hf : Instr.findNow (.int k0) (.int kd n) es 0 = some x) : (Instr.findKey kt (.int kd n) es).run P w = .ok x w := by
  simp [Instr.findKey, run_underlying hk, hf, Result.andThen]

theorem run_checkKey {kt : TypeId} {k0 kd : IntKind} {n : Int} {b : Bool} (hk : P.underlying kt = some (.int k0)) : (Instr.checkKey b 10000 kt (.int kd n)).run P w = .ok () w := by
  rw [show (10000 : Nat) = 9999 + 1 from rfl, Instr.checkKey.eq_def]
  simp [run_underlying hk, Result.andThen]

theorem Inv.map_ref (i : Inv P w F ρ h) {v : Value} {id : Nat} {kd : IntKind} {es : List (Int × A)} (hr : Rel P w F ρ h v (.mref id)) (hm : h[id]? = some (.mp kd es)) : v = .map (some (ρ id).b) := by
  cases hr with
  | pure _ _ hz => cases hz
  | mref b _ hl hn hx => rw [hx kd es hm]

theorem zeroV_rel {e : TypeId} {z : A} (hz : zeroV P e = some z) (w : World) (F : Cells) (ρ : Nat → Reg) (h : Heap) : ∃ v, (∀ w, (zeroValue e).run P w = .ok v w) ∧ Rel P w F ρ h v z := by
  unfold zeroV at hz
  split at hz <;> try (cases hz; done)
  rename_i i hi
  split at hz <;> try (cases hz; done)
  · rename_i cs hv
    split at hz <;> try (cases hz; done)
    rename_i hc
    cases hz
    refine ⟨.agg cs, fun w => by simp [zeroValue, typeInfo, hi, hv], .agg cs _ (by simp) (fun j hj => ?_) fun j hj => ?_⟩
    · have hj' : j < cs.size := by simpa using hj
      have := List.all_eq_true.1 hc cs[j] (by simp)
      simpa [Array.getD_eq_getD_getElem?, hj'] using this
    · have hj' : j < cs.size := by simpa using hj
      simp [Array.getD_eq_getD_getElem?, hj']
      exact .s_mk _
  · rename_i v _ _ hv
    cases hz
    exact ⟨v, fun w => by simp [zeroValue, typeInfo, hi, hv], .s_mk v⟩

/-- A new map. -/
theorem Inv.newMap (i : Inv P w F ρ h) (kd : IntKind) : ∃ ρ', Inv P { w with heap := w.heap.push (.map #[] 0) } F ρ' (h ++ [.mp kd []]) ∧
    Tr w F ρ h { w with heap := w.heap.push (.map #[] 0) } F ρ' (h ++ [.mp kd []]) ∧ Rel P { w with heap := w.heap.push (.map #[] 0) } F ρ' (h ++ [.mp kd []]) (.map (some w.heap.size)) (.mref h.length) := by
  have u : Upd (fun _ _ => False) w { w with heap := w.heap.push (.map #[] 0) } := upd_alloc _ _ _
  have get : ∀ j, (h ++ [Slot.mp kd []])[j]? = if j = h.length then some (Slot.mp kd []) else h[j]? := by
    intro j
    rw [List.getElem?_append]
    split
    · rw [if_neg (by omega)]
    · split
      · rename_i h1 h2; subst h2; simp
      · rename_i h1 h2
        rw [List.getElem?_eq_none (l := h) (by omega), List.getElem?_eq_none (by simp; omega)]
  let ρ' : Nat → Reg := fun j => if j = h.length then ⟨w.heap.size, 0, 0, 0⟩ else ρ j
  have hρ : ∀ j, j ≠ h.length → ρ' j = ρ j := fun j hj => by simp [ρ', hj]
  have live : ∀ (j : Nat) oj, (h ++ [Slot.mp kd []])[j]? = some (.live oj) → h[j]? = some (.live oj) ∧ ρ' j = ρ j := by
    intro j oj hj
    rw [get] at hj
    split at hj
    · cases hj
    · rename_i e; exact ⟨hj, hρ j e⟩
  have evo : Evo ρ h ρ' (h ++ [.mp kd []]) := by
    refine ⟨by simp, fun j hj hr => ?_, fun j oj hj hl => ?_, fun j kd' es hj hl => ?_⟩
    · rw [get, if_neg (by omega)] at hr; exact hr
    · obtain ⟨h1, h2⟩ := live j oj hl; exact .inr ⟨oj, h1, Nat.le_refl _, fun _ => h2⟩
    · rw [get, if_neg (by omega)] at hl; exact .inr ⟨es, hl, hρ j (by omega)⟩
  have tr : Tr w F ρ h { w with heap := w.heap.push (.map #[] 0) } F ρ' (h ++ [.mp kd []]) := by
    refine ⟨u.mono fun _ _ _ h => h.elim, fun _ _ h => h, fun _ _ h => .inl h, fun b o hm => ?_, evo⟩
    rcases hm with ⟨j, oj, hj, hr⟩ | ⟨j, kd', es, hj, rfl⟩
    · obtain ⟨h1, h2⟩ := live j oj hj
      rw [h2] at hr; exact .inl (.of h1 hr)
    · rw [get] at hj
      split at hj
      · rename_i e; exact .inr (by simp [ρ', e])
      · rename_i e; rw [hρ j e]; exact .inl (.mp hj o)
  refine ⟨ρ', ⟨fun j oj hoj => ?_, fun j m oj om hjm hoj hom b o hb => ?_, fun b o hf => Nat.lt_of_lt_of_le (i.fin b o hf) u.size, fun j kd' es hj => ?_, fun j m kj ej km em hjm hj hm => ?_⟩, tr, ?_⟩
  · obtain ⟨h1, h2⟩ := live j oj hoj
    have k := i.obj j oj h1
    refine ⟨by rw [h2]; exact k.sz, k.pos, by rw [h2]; exact k.len, k.width, fun m hm => ?_, fun a b ha hb => ?_⟩
    · rw [h2] at hm ⊢
      obtain ⟨⟨v, h3⟩, h4, h5⟩ := k.cell m hm
      exact ⟨⟨v, by rw [u.cell (cell_block h3) fun hh => hh]; exact h3⟩, u.thaw (cell_block h3) h4, h5⟩
    · rw [h2]
      obtain ⟨v, h3, h4, h5⟩ := k.rel a b ha hb
      exact ⟨v, by rw [u.cell (cell_block h3) fun hh => hh]; exact h3, h4, h5.step i tr⟩
  · obtain ⟨h1, h2⟩ := live j oj hoj
    obtain ⟨h3, h4⟩ := live m om hom
    rw [h2] at hb; rw [h4]
    exact i.disj j m oj om hjm h1 h3 b o hb
  · rw [get] at hj
    split at hj
    · rename_i e
      cases hj
      exact ⟨#[], 0, by simp [ρ', e], rfl, fun i k a hi => by simp at hi⟩
    · rename_i e
      rw [hρ j e]
      exact i.mpKeep u tr.upd hj (fun hh => hh) fun _ _ h => h
  · have lt : ∀ (x : Nat) kx ex, h[x]? = some (.mp kx ex) → (ρ x).b < w.heap.size := fun x kx ex hx => by
      obtain ⟨ces, clock, hc, _⟩ := i.mp x kx ex hx
      exact (Array.getElem?_eq_some_iff.1 hc).1
    rw [get] at hj hm
    split at hj <;> split at hm
    · omega
    · rename_i e1 e2
      rw [hρ m e2]
      have := lt m _ _ hm
      simp only [ρ', e1, if_true]; omega
    · rename_i e1 e2
      rw [hρ j e1]
      have := lt j _ _ hj
      simp only [ρ', e2, if_true]; omega
    · rename_i e1 e2
      rw [hρ j e1, hρ m e2]
      exact i.mpd j m _ _ _ _ hjm hj hm
  · refine .mref _ _ (by simp) (fun s hs => ?_) fun kd' es hes => by simp [ρ']
    rw [get, if_pos rfl] at hs
    cases hs; simp

theorem upd_setMap {T : Cells} {w : World} {b : Nat} {es es' : Array MapEntry} {k k' : Nat} (hb : w.heap[b]? = some (.map es k)) (ht : T b 0) : Upd T w { w with heap := w.heap.setIfInBounds b (.map es' k') } := by
  have hlt := (Array.getElem?_eq_some_iff.1 hb).1
  refine ⟨rfl, rfl, rfl, by simp, fun j hj => ?_⟩
  by_cases hjb : b = j
  · subst hjb
    exact .inr (.inr ⟨ht, es, k, es', k', hb, by simp [hlt]⟩)
  · refine .inl ?_
    show _ = (w.heap.setIfInBounds b (.map es' k'))[j]?
    rw [Array.getElem?_setIfInBounds_ne hjb]

/-- A map is written. -/
theorem Inv.setMap (i : Inv P w F ρ h) {id : Nat} {kd : IntKind} {es es' : List (Int × A)} {ces ces' : Array MapEntry} {clock clock' : Nat} (hm : h[id]? = some (.mp kd es)) (hb : w.heap[(ρ id).b]? = some (.map ces clock))
    (hs : ces'.size = es'.length) (hr : ∀ (i : Nat) (k : Int) (a : A), es'[i]? = some (k, a) → ∃ e, ces'[i]? = some e ∧ e.key = .int kd k ∧ Fz P w F e.val a) :
    Inv P { w with heap := w.heap.setIfInBounds (ρ id).b (.map ces' clock') } F ρ (h.set id (.mp kd es')) ∧ Tr w F ρ h { w with heap := w.heap.setIfInBounds (ρ id).b (.map ces' clock') } F ρ (h.set id (.mp kd es')) := by
  have hlt : id < h.length := (List.getElem?_eq_some_iff.1 hm).1
  have hmb := hb
  have u : Upd (fun b _ => b = (ρ id).b) w { w with heap := w.heap.setIfInBounds (ρ id).b (.map ces' clock') } := upd_setMap hb rfl
  have get : ∀ j, (h.set id (.mp kd es'))[j]? = if j = id then some (.mp kd es') else h[j]? := by
    intro j
    rw [List.getElem?_set]
    by_cases hj : id = j
    · subst hj; simp [hlt]
    · simp [hj, Ne.symm hj]
  have live : ∀ (j : Nat) oj, (h.set id (.mp kd es'))[j]? = some (.live oj) → h[j]? = some (.live oj) := by
    intro j oj hj
    rw [get] at hj
    split at hj
    · cases hj
    · exact hj
  have evo : Evo ρ h ρ (h.set id (.mp kd es')) := by
    refine ⟨by simp, fun j hj hr => ?_, fun j oj hj hl => .inr ⟨oj, live j oj hl, Nat.le_refl _, fun _ => rfl⟩, fun j kd' es2 hj hl => ?_⟩
    · rw [get] at hr
      split at hr
      · cases hr
      · exact hr
    · rw [get] at hl
      split at hl
      · rename_i e; subst e; cases hl; exact .inr ⟨es, hm, rfl⟩
      · exact .inr ⟨es2, hl, rfl⟩
  have um : Upd (Mem ρ h) w { w with heap := w.heap.setIfInBounds (ρ id).b (.map ces' clock') } := u.mono fun b o _ he => by
    subst he; exact .mp hm o
  have tr : Tr w F ρ h { w with heap := w.heap.setIfInBounds (ρ id).b (.map ces' clock') } F ρ (h.set id (.mp kd es')) := by
    refine ⟨um, fun _ _ h => h, fun _ _ h => .inl h, fun b o hx => .inl ?_, evo⟩
    rcases hx with ⟨j, oj, hj, hr⟩ | ⟨j, kd', es2, hj, rfl⟩
    · exact .of (live j oj hj) hr
    · rw [get] at hj
      split at hj
      · rename_i e; subst e; exact .mp hm o
      · exact .mp hj o
  have nb : ∀ (j : Nat) oj, h[j]? = some (.live oj) → ∀ b o, (ρ j).has b o → b ≠ (ρ id).b := by
    rintro j oj hj b o hr rfl
    exact (i.obj j oj hj).notMap hr hb
  refine ⟨⟨fun j oj hoj => ?_, fun j m oj om hjm hoj hom b o hb => i.disj j m oj om hjm (live j oj hoj) (live m om hom) b o hb, fun b o hf => Nat.lt_of_lt_of_le (i.fin b o hf) u.size, fun j kd' es2 hj => ?_, fun j m kj ej km em hjm hj hm2 => ?_⟩, tr⟩
  · have k := i.obj j oj (live j oj hoj)
    have nbj := nb j oj (live j oj hoj)
    refine ⟨k.sz, k.pos, k.len, k.width, fun m hm => ?_, fun a b ha hb => ?_⟩
    · obtain ⟨⟨v, h3⟩, h4, h5⟩ := k.cell m hm
      have := nbj _ _ (Reg.has_cell (ρ j) m hm)
      exact ⟨⟨v, by rw [u.cell (cell_block h3) this]; exact h3⟩, u.thaw (cell_block h3) h4, h5⟩
    · obtain ⟨v, h3, h4, h5⟩ := k.rel a b ha hb
      refine ⟨v, ?_, h4, h5.step i tr⟩
      rw [u.cell (cell_block h3)]
      · exact h3
      · intro he
        unfold World.cell? at h3
        simp only at he h3
        rw [he, hmb] at h3
        cases h3
  · rw [get] at hj
    split at hj
    · rename_i e
      subst e
      cases hj
      have hbl := (Array.getElem?_eq_some_iff.1 hb).1
      refine ⟨ces', clock', by simp [hbl], hs, fun i2 k a hi => ?_⟩
      obtain ⟨e, e1, e2, e3⟩ := hr i2 k a hi
      exact ⟨e, e1, e2, e3.mono (fun _ _ h => h) (i.kept um)⟩
    · rename_i e
      exact i.mpKeep u um hj (fun hh => i.mpd j id _ _ _ _ e hj hm hh) fun _ _ h => h
  · have mps : ∀ (x : Nat) kx ex, (h.set id (.mp kd es'))[x]? = some (.mp kx ex) → ∃ kx' ex', h[x]? = some (.mp kx' ex') := by
      intro x kx ex hx
      rw [get] at hx
      split at hx
      · rename_i e; subst e; exact ⟨_, _, hm⟩
      · exact ⟨_, _, hx⟩
    obtain ⟨_, _, g1⟩ := mps j _ _ hj
    obtain ⟨_, _, g2⟩ := mps m _ _ hm2
    exact i.mpd j m _ _ _ _ hjm g1 g2

theorem sound_makeMap {t : TypeId} {kd : IntKind} {k : A → Heap → Option β} (i : Inv P w F ρ h) (hk : oMkMap kd h k = some r) : HYld P w F ρ h (do pure (.value (← Instr.makeMap t none))) k r := by
  obtain ⟨ρ', i', t', hr⟩ := i.newMap kd
  exact .value (by simp [Instr.makeMap, newObj, Sem.run, Result.andThen]) hr i' t' hk

theorem sound_lookup {t kt et : TypeId} {k0 : IntKind} {z m x : A} {ok : Bool} {vm vx : Value} {k : A → Heap → Option β} (i : Inv P w F ρ h) (ht : P.underlying t = some (.map kt et)) (hkt : P.underlying kt = some (.int k0)) (hz : zeroV P et = some z)
    (hm : Rel P w F ρ h vm m) (hx : Rel P w F ρ h vx x) (hk : oLookup z ok m x h (fun v => k v h) = some r) : HYld P w F ρ h (do pure (.value (← Instr.lookup t vm vx ok))) k r := by
  unfold oLookup at hk
  split at hk <;> try (cases hk; done)
  rename_i id kk n
  split at hk <;> try (cases hk; done)
  rename_i kd es hes
  split at hk <;> try (cases hk; done)
  rename_i hkk
  subst hkk
  obtain rfl := i.map_ref hm hes
  obtain rfl := hx.s_inv
  obtain ⟨ces, clock, hb, hsz, hce⟩ := i.mp id kk es hes
  have hf := findNow_get (kd0 := k0) (n := n) es ces.toList 0 (by simpa using hsz) (fun i k a hi => by simpa using hce i k a hi)
  rcases hf with ⟨g1, g2, g3⟩ | ⟨j, e, a, g1, g2, g3, g4, g5, g6, g7⟩
  · rw [g2] at hk
    obtain ⟨zv, hzv, hzr⟩ := zeroV_rel hz w F ρ h
    cases ok
    · exact .value (w' := w) (v := zv) (by simp [Instr.lookup, run_underlying ht, MapKept.run_getObj_map hb, run_checkKey hkt, run_findKey hkt g1, hzv, Result.andThen]) hzr i (.refl _ _ _ _) hk
    · refine .value (w' := w) (v := .tuple #[zv, .bool false]) (by simp [Instr.lookup, run_underlying ht, MapKept.run_getObj_map hb, run_checkKey hkt, run_findKey hkt g1, hzv, Result.andThen]) (.tup _ _ (by simp) fun j hj => ?_) i (.refl _ _ _ _) hk
      match j, hj with
      | 0, _ => exact hzr
      | 1, _ => exact .s_mk _
  · rw [g5] at hk
    simp only [Nat.zero_add] at g1
    cases ok
    · exact .value (w' := w) (v := e.val) (by simp [Instr.lookup, run_underlying ht, MapKept.run_getObj_map hb, run_checkKey hkt, run_findKey hkt g1, Result.andThen]) (.pure _ _ g6) i (.refl _ _ _ _) hk
    · refine .value (w' := w) (v := .tuple #[e.val, .bool true]) (by simp [Instr.lookup, run_underlying ht, MapKept.run_getObj_map hb, run_checkKey hkt, run_findKey hkt g1, Result.andThen]) (.tup _ _ (by simp) fun j hj => ?_) i (.refl _ _ _ _) hk
      match j, hj with
      | 0, _ => exact .pure _ _ g6
      | 1, _ => exact .s_mk _

theorem sound_mapUpdate {t kt et : TypeId} {k0 : IntKind} {m x v : A} {vm vx vv : Value} {k : A → Heap → Option β} (i : Inv P w F ρ h) (ht : P.underlying t = some (.map kt et)) (hkt : P.underlying kt = some (.int k0))
    (hm : Rel P w F ρ h vm m) (hx : Rel P w F ρ h vx x) (hv : Rel P w F ρ h vv v) (hk : oMapPut m x v h (fun h => k (.s undef) h) = some r) : HYld P w F ρ h (do Instr.mapUpdate t vm vx vv; pure .skip) k r := by
  unfold oMapPut at hk
  split at hk <;> try (cases hk; done)
  rename_i id kk n
  split at hk <;> try (cases hk; done)
  rename_i kd es hes
  split at hk <;> try (cases hk; done)
  rename_i hc
  obtain ⟨hkk, hp⟩ := hc
  subst hkk
  obtain rfl := i.map_ref hm hes
  obtain rfl := hx.s_inv
  have hfz := hv.fz hp
  obtain ⟨ces, clock, hb, hsz, hce⟩ := i.mp id kk es hes
  have hf := findNow_get (kd0 := k0) (n := n) es ces.toList 0 (by simpa using hsz) (fun i k a hi => by simpa using hce i k a hi)
  rcases hf with ⟨g1, g2, g3⟩ | ⟨j, e, a, g1, g2, g3, g4, g5, g6, g7⟩
  · rw [g3] at hk
    obtain ⟨i', t'⟩ := i.setMap (es' := es ++ [(n, v)]) (ces' := ces.push { key := .int kk n, val := vv, born := clock }) (clock' := clock + 1) hes hb (by simp [hsz]) (fun i2 k2 a hi => by
      rw [List.getElem?_append] at hi
      split at hi
      · rename_i hl
        obtain ⟨e, e1, e2, e3⟩ := hce i2 k2 a hi
        exact ⟨e, by rw [Array.getElem?_push, if_neg (by omega)]; exact e1, e2, e3⟩
      · rename_i hl
        have : i2 = es.length := by
          have := (List.getElem?_eq_some_iff.1 hi).1
          simp at this; omega
        subst this
        simp at hi
        obtain ⟨rfl, rfl⟩ := hi
        exact ⟨{ key := .int kk n, val := vv, born := clock }, by rw [← hsz]; simp, rfl, hfz⟩)
    exact ⟨.skip, undef, _, F, ρ, _, .s undef, by simp [Instr.mapUpdate, run_underlying ht, MapKept.run_getObj_map hb, run_checkKey hkt, run_findKey hkt g1, MapKept.run_setObj_map _ hb, Result.andThen], .inr ⟨rfl, rfl⟩, .s_mk _, i', t', hk⟩
  · rw [g7] at hk
    simp only [Nat.zero_add] at g1
    have hj : ces[j]? = some e := by simpa using g2
    have hjl : j < ces.size := (Array.getElem?_eq_some_iff.1 hj).1
    obtain ⟨i', t'⟩ := i.setMap (es' := es.set j (n, v)) (ces' := ces.modify j fun e => { e with key := .int kk n, val := vv }) (clock' := clock) hes hb (by simp [hsz]) (fun i2 k2 a hi => by
      rw [List.getElem?_set] at hi
      by_cases hij : j = i2
      · subst hij
        rw [if_pos rfl, if_pos (by omega)] at hi
        cases hi
        exact ⟨_, by rw [Array.getElem?_modify, if_pos rfl, hj]; rfl, rfl, hfz⟩
      · rw [if_neg hij] at hi
        obtain ⟨e2, e1, e3, e4⟩ := hce i2 k2 a hi
        exact ⟨e2, by rw [Array.getElem?_modify, if_neg hij]; exact e1, e3, e4⟩)
    exact ⟨.skip, undef, _, F, ρ, _, .s undef, by simp [Instr.mapUpdate, run_underlying ht, MapKept.run_getObj_map hb, run_checkKey hkt, run_findKey hkt g1, MapKept.run_setObj_map _ hb, hj, g4, Instr.keyThatStays, Instr.sameBits, Result.andThen], .inr ⟨rfl, rfl⟩, .s_mk _, i', t', hk⟩
end
end Go.Ab
