/-
 ALL OPERATIONS ON VALUES ALONE, TOGETHER.
-/
import Derived.Test.YtocnjegcmmfpfaaAbsSoundQ
set_option linter.unusedSimpArgs false
set_option linter.unusedVariables false
namespace Go.Ab
open Go
section
variable {P : Program} {w : World} {F : Cells} {ρ : Nat → Reg} {hp : Heap} {β : Type} {r : β} {k : A → Option β}
theorem qgh (vs : Array Value) (i : Nat) (h : i < vs.toList.length) : vs.toList[i] = vs.getD i undef := by
 have : i < vs.size := by simpa using h
 simp [Array.getD, this]
theorem qfs {t : TypeId} {ks : List Bool} {neq : Bool} {x y : A} {vx vy : Value} (hks : plainK P 50 t = some ks) (hg : P.eqGuardType P.depth t = false) (hu : (∃ fs, P.underlying t = some (.struct fs)) ∨ ∃ n e, P.underlying t = some (.array n e))
 (hx : Rel P w F ρ hp vx x) (hy : Rel P w F ρ hp vy y) (h : oEqAgg ks neq x y k = some r) (ox oy : Operand) :
 Yld P w F ρ hp (do eqGuard (if neq then .neq else .eql) t ox oy vx vy; binOp (if neq then .neq else .eql) t vx vy) k r := by
 unfold oEqAgg at h
 split at h <;> try (simp at h; done)
 rename_i cs ds
 obtain ⟨xs, rfl, hxs, hx1, hxr⟩ := hx.agg_inv
 obtain ⟨ys, rfl, hys, hy1, hyr⟩ := hy.agg_inv
 split at h <;> try (simp at h; done)
 rename_i e he
 have hev := qle (P := P) (w := w) (F := F) (ρ := ρ) (hp := hp) ks cs ds xs.toList ys.toList e he (by simpa using hxs) (by simpa using hys)
  (fun i h1 h2 => by rw [qgh]; exact hxr i h1) (fun i h1 h2 => by rw [qgh]; exact hyr i h1)
 have hrun := qhp (P := P) (w := w) 50 t ks hks 9950 xs.toList ys.toList e hev
 have hm : ∀ zs : Array Value, mkV P t zs.toList = .agg zs := by
  intro zs
  rcases hu with ⟨fs, hu⟩ | ⟨n, el, hu⟩ <;> simp [mkV, hu]
 rw [hm, hm] at hrun
 have heq : (Op.equal t (.agg xs) (.agg ys)).run P w = .ok e w := hrun
 refine ⟨.bool (e != neq), _, ?_, .s_mk _, h⟩
 cases neq
 · simp only [Bool.false_eq_true, if_false, Sem.run_bind, run_eqGuard_agg w _ _ _ _ _ _ hg, Result.andThen_ok]
   simp only [binOp]; simp [heq]
 · simp only [if_true, Sem.run_bind, run_eqGuard_agg w _ _ _ _ _ _ hg, Result.andThen_ok]
   simp only [binOp]; simp [heq]
def RelC (P : Program) (w : World) (F : Cells) (ρ : Nat → Reg) (hp : Heap) (vs : List Value) (cs : List A) : Prop :=
 vs.length = cs.length ∧ ∀ (i : Nat) v c, vs[i]? = some v → cs[i]? = some c → v.oneCell = true ∧ Rel P w F ρ hp v c
theorem RelC.mk {vs : List Value} {cs : List A} (h : vs.length = cs.length) (h2 : ∀ i (h : i < vs.length) (h' : i < cs.length), vs[i].oneCell = true ∧ Rel P w F ρ hp vs[i] cs[i]) : RelC P w F ρ hp vs cs := by
 refine ⟨h, fun i v c hv hc => ?_⟩
 obtain ⟨hi, rfl⟩ := List.getElem?_eq_some_iff.1 hv
 obtain ⟨hi', rfl⟩ := List.getElem?_eq_some_iff.1 hc
 exact h2 i hi hi'
theorem RelC.get {vs : List Value} {cs : List A} (h : RelC P w F ρ hp vs cs) (i : Nat) (hi : i < vs.length) (hi' : i < cs.length) : vs[i].oneCell = true ∧ Rel P w F ρ hp vs[i] cs[i] :=
 h.2 i _ _ (List.getElem?_eq_getElem hi) (List.getElem?_eq_getElem hi')
theorem RelC.of_asCells {sh : Option Nat} {v : Value} {a : A} {cs : List A} (hr : Rel P w F ρ hp v a) (h : asCells sh a = some cs) : RelC P w F ρ hp v.cells.toList cs ∧ cs.length = sh.getD 1 := by
 cases sh with
 | none =>
   simp only [asCells] at h
   split at h <;> simp at h
   rename_i hc
   subst h
   have h1 := hr.oneCell hc
   rw [qhH h1]
   refine ⟨.mk rfl fun i h h' => ?_, rfl⟩
   simp at h
   subst h
   exact ⟨h1, hr⟩
 | some n =>
   simp only [asCells] at h
   split at h <;> try (cases h; done)
   rename_i cs'
   split at h <;> simp at h
   rename_i hl
   subst h
   obtain ⟨vs, rfl, hs, h1, hr'⟩ := hr.agg_inv
   refine ⟨.mk (by simpa [Value.cells] using hs) fun i hi hi' => ?_, by simpa using hl⟩
   simp only [Value.cells] at hi ⊢
   rw [qgh _ _ hi]
   exact ⟨h1 i hi', hr' i hi'⟩
theorem RelC.agg {vs : Array Value} {cs : List A} (h : RelC P w F ρ hp vs.toList cs) : Rel P w F ρ hp (.agg vs) (.agg cs) := by
 have hs : vs.size = cs.length := by simpa using h.1
 refine .agg vs cs hs (fun i hi => ?_) (fun i hi => ?_)
 · have := (h.get i (by simp; omega) hi).1; rwa [qgh] at this
 · have := (h.get i (by simp; omega) hi).2; rwa [qgh] at this
theorem RelC.put {vs us : List Value} {cs ds : List A} {o : Nat} (h : RelC P w F ρ hp vs cs) (h' : RelC P w F ρ hp us ds) (ho : o + ds.length ≤ cs.length) :
 RelC P w F ρ hp (vs.take o ++ us ++ vs.drop (o + us.length)) (qa5 cs o ds) := by
 obtain ⟨h1, h2⟩ := h
 obtain ⟨g1, g2⟩ := h'
 refine ⟨by simp [qa5, h1, g1], fun i v c hv hc => ?_⟩
 simp only [qa5, List.append_assoc, List.getElem?_append, List.length_take, List.getElem?_take, List.getElem?_drop] at hv hc
 rw [Nat.min_eq_left (show o ≤ vs.length by omega)] at hv
 rw [Nat.min_eq_left (show o ≤ cs.length by omega)] at hc
 by_cases hi : i < o
 · simp only [hi, if_true] at hv hc; exact h2 i v c hv hc
 · simp only [hi, if_false, g1] at hv hc
   by_cases hj : i - o < ds.length
   · simp only [hj, if_true] at hv hc; exact g2 _ v c hv hc
   · simp only [hj, if_false] at hv hc; exact h2 _ v c hv hc
theorem ql9 : ∀ (l : List Value) (j : Nat) (cs : Array Value) (off : Nat),
 ((l.zipIdx j).foldl (fun cs (p : Value × Nat) => cs.setIfInBounds (off + p.2) p.1) cs).toList = if off + j + l.length ≤ cs.size then cs.toList.take (off + j) ++ l ++ cs.toList.drop (off + j + l.length) else
   ((l.zipIdx j).foldl (fun cs (p : Value × Nat) => cs.setIfInBounds (off + p.2) p.1) cs).toList := by
 intro l
 induction l with
 | nil => intro j cs off; simp
 | cons x l ih =>
   intro j cs off
   split
   · rename_i hle
     simp only [List.length_cons] at hle
     simp only [List.zipIdx_cons, List.foldl_cons]
     rw [ih (j + 1), if_pos (by simp; omega)]
     simp only [Array.toList_setIfInBounds, List.length_cons]
     have hlt : off + j < cs.toList.length := by simp; omega
     apply List.ext_getElem?
     intro i
     simp only [List.append_assoc, List.getElem?_append, List.length_take, List.length_set, List.getElem?_take, List.getElem?_set, List.getElem?_drop, List.length_append, List.length_cons, List.cons_append]
     have e1 : min (off + (j + 1)) cs.toList.length = off + j + 1 := by omega
     have e2 : min (off + j) cs.toList.length = off + j := by omega
     rw [e1, e2]
     rcases Nat.lt_trichotomy i (off + j) with hi | hi | hi
     · simp [show i < off + j + 1 by omega, hi, show off + j ≠ i by omega, show i < off + (j + 1) by omega]
     · subst hi; simp [hlt]; omega
     · have h1 : ¬ i < off + j + 1 := by omega
       have h2 : ¬ i < off + j := by omega
       simp only [h1, h2, if_false]
       obtain ⟨m, rfl⟩ : ∃ m, i = off + j + 1 + m := ⟨i - (off + j + 1), by omega⟩
       have e3 : off + j + 1 + m - (off + j + 1) = m := by omega
       have e4 : off + j + 1 + m - (off + j) = m + 1 := by omega
       rw [e3, e4]
       simp only [List.getElem?_cons_succ, Nat.add_lt_add_iff_right]
       split
       · rename_i hm; rw [List.getElem?_append_left hm]
       · rename_i hm
         rw [List.getElem?_append_right (by omega), List.getElem?_drop]
         have : off + j ≠ off + (j + 1) + l.length + (m - l.length) := by omega
         simp only [this, if_false]
         congr 1; omega
   · rfl
theorem qgG (place : Nat → Option (Nat × Option Nat × Nat)) (placeC : Nat → Option (Nat × Nat)) (hpl : ∀ i off sh n, place i = some (off, sh, n) → placeC i = some (off, sh.getD 1)) (ρA : Operand → A) (ρC : Operand → Value)
 (hρ : ∀ x, Rel P w F ρ hp (ρC x) (ρA x)) : ∀ (parts : List (Nat × Operand)) (ps : List (Nat × Option Nat × A)) (cells : List A) (out : List A) (vs : Array Value),
 partsAt place ρA parts = some ps → fillA cells ps = some out → RelC P w F ρ hp vs.toList cells →
 ∃ us, Instr.fill placeC vs (parts.map fun (i, x) => (i, ρC x)) = some us ∧ RelC P w F ρ hp us.toList out
 | [], ps, cells, out, vs, h1, h2, h3 => by
   simp [partsAt] at h1
   subst h1
   simp [fillA] at h2
   subst h2
   exact ⟨vs, rfl, h3⟩
 | (i, x) :: parts, ps, cells, out, vs, h1, h2, h3 => by
   simp only [partsAt] at h1
   split at h1 <;> try (cases h1; done)
   rename_i off sh n ps' hp1 hp2
   simp at h1
   subst h1
   simp only [fillA] at h2
   split at h2 <;> try (cases h2; done)
   rename_i cs hcs
   split at h2 <;> try (cases h2; done)
   rename_i hle
   obtain ⟨g1, g2⟩ := RelC.of_asCells (hρ x) hcs
   have hsz : (ρC x).cells.size = sh.getD 1 := by have := g1.1; simp at this; omega
   have hvs : vs.size = cells.length := by simpa using h3.1
   have hput := h3.put g1 (by omega)
   obtain ⟨us, hus, hr⟩ := qgG place placeC hpl ρA ρC hρ parts ps' (qa5 cells off cs) out
    (((ρC x).cells.zipIdx.foldl (fun cs (p : Value × Nat) => cs.setIfInBounds (off + p.2) p.1) vs)) hp2 h2 (by
      have := ql9 (ρC x).cells.toList 0 vs off
      rw [if_pos (by simp; omega)] at this
      rw [← Array.foldl_toList]
      simp only [Array.toList_zipIdx]
      rw [this]
      simpa using hput)
   refine ⟨us, ?_, hr⟩
   simp only [List.map_cons, Instr.fill, hpl i off sh n hp1]
   rw [if_neg (by simp; omega)]
   exact hus
theorem zeroT_some {t : TypeId} {z : List A} (h : zeroT P t = some z) : ∃ i v, P.info? t = some i ∧ i.zero = some v ∧ v.cells.all (·.oneCell) = true ∧ z = v.cells.toList.map .s := by
 unfold zeroT at h
 split at h <;> try (cases h; done)
 rename_i i hi
 split at h <;> try (cases h; done)
 rename_i v hv
 split at h <;> simp at h
 rename_i hc
 exact ⟨i, v, hi, hv, by rw [← Array.all_toList]; simpa using hc, h.symm⟩
theorem qbH {t : TypeId} {z : List A} (h : zeroT P t = some z) (w : World) (F : Cells) (ρ : Nat → Reg) (hp : Heap) : ∃ v, (∀ w, (zeroValue t).run P w = .ok v w) ∧ RelC P w F ρ hp v.cells.toList z ∧ z = v.cells.toList.map .s := by
 obtain ⟨i, v, hi, hv, hc, rfl⟩ := zeroT_some h
 refine ⟨v, fun w => by simp [zeroValue, typeInfo, hi, hv], .mk (by simp) fun j hj hj' => ⟨?_, ?_⟩, rfl⟩
 · rw [Array.all_eq_true] at hc
   simpa using hc j (by simpa using hj)
 · simp only [List.getElem_map]; exact .s_mk _
theorem qn6 {α γ : Type} (f : α → Sem γ) (g : α → γ) : ∀ (l : List α) (_ : ∀ x ∈ l, ∀ w, (f x).run P w = .ok (g x) w) (w : World), (l.mapM f).run P w = .ok (l.map g) w
 | [], _, w => by simp
 | x :: l, h, w => by
   simp only [List.mapM_cons, Sem.run_bind, h x (by simp) w, Result.andThen_ok, qn6 f g l (fun y hy => h y (by simp [hy])) w, List.map_cons, Sem.run_pure]
theorem qjX {α γ : Type} (f : α → Sem γ) (g : α → γ) (l : Array α) (h : ∀ x ∈ l.toList, ∀ w, (f x).run P w = .ok (g x) w) (w : World) : (l.mapM f).run P w = .ok (l.map g) w := by
 have := qn6 (P := P) f g l.toList h w
 rw [Array.mapM_eq_mapM_toList]
 simp [this]
 apply Array.ext'; simp
theorem qhl {t : TypeId} {fs : Array Field} {z : List A} {parts : Array (Nat × Operand)} {ps : List (Nat × Option Nat × A)} {ρA : Operand → A} {ρC : Operand → Value} (hρ : ∀ x, Rel P w F ρ hp (ρC x) (ρA x))
 (hu : P.underlying t = some (.struct fs)) (hz : zeroT P t = some z) (hall : fs.toList.all (fun f => (P.info? f.type).isSome) = true) (hps : partsAt (fieldT P t) ρA parts.toList = some ps)
 (h : oBuildP z ps k = some r) : Yld P w F ρ hp (Instr.build t (parts.map fun (i, x) => (i, ρC x))) k r := by
 unfold oBuildP at h
 split at h <;> try (cases h; done)
 rename_i out hout
 obtain ⟨v, hv, hrc, rfl⟩ := qbH hz w F ρ hp
 let gg : Field → Nat × Nat := fun f => (f.offset, P.cellsOf f.type)
 have hmap : (fs.mapM fun f => do pure (f.offset, ← Go.sizeOf f.type) : Sem (Array (Nat × Nat))).run P w = .ok (fs.map gg) w := by
  refine qjX _ gg fs (fun f hf w => ?_) w
  have := List.all_eq_true.1 hall f hf
  obtain ⟨i, hi⟩ := Option.isSome_iff_exists.1 this
  simp [qac hi, gg, Program.cellsOf, hi]
 have hpl : ∀ i off sh n, fieldT P t i = some (off, sh, n) → (fs.map gg)[i]? = some (off, sh.getD 1) := by
  intro i off sh n hf
  unfold fieldT at hf
  rw [hu] at hf
  simp only at hf
  split at hf <;> try (cases hf; done)
  rename_i fd hfd
  split at hf <;> try (cases hf; done)
  rename_i sh' inf hsh hi
  split at hf <;> simp at hf
  obtain ⟨rfl, rfl, rfl⟩ := hf
  simp only [Array.getElem?_map, hfd, Option.map_some, gg, Option.some.injEq, Prod.mk.injEq, true_and]
  cases sh' with
  | none => obtain ⟨i2, d, h1, h2, _⟩ := qeN hsh; simp [Program.cellsOf, h1, h2]
  | some m => obtain ⟨i2, h1, h2, _⟩ := qdq hsh; simp [Program.cellsOf, h1, h2]
 obtain ⟨us, hus, hr⟩ := qgG (fieldT P t) ((fs.map gg)[·]?) hpl ρA ρC hρ parts.toList ps _ out v.cells hps hout hrc
 refine ⟨.agg us, .agg out, ?_, hr.agg, h⟩
 have hus' : Instr.fill ((fs.map gg)[·]?) v.cells ((parts.map fun (i, x) => (i, ρC x)).toList) = some us := by simpa using hus
 simp only [Instr.build, Sem.run_bind, hv, Result.andThen_ok, run_underlying hu, hmap, hus', Sem.run_pure]
theorem qi8 {t e : TypeId} {n sz : Nat} {sh : Option Nat} {z : List A} {parts : Array (Nat × Operand)} {ps : List (Nat × Option Nat × A)} {ρA : Operand → A} {ρC : Operand → Value} (hρ : ∀ x, Rel P w F ρ hp (ρC x) (ρA x))
 (hu : P.underlying t = some (.array n e)) (hz : zeroT P t = some z) (he : sizeT P e = some sz) (hsh : shapeT P e = some sh) (hps : partsAt (fun i => some (i * sz, sh, sz)) ρA parts.toList = some ps)
 (h : oBuildP z ps k = some r) : Yld P w F ρ hp (Instr.build t (parts.map fun (i, x) => (i, ρC x))) k r := by
 unfold oBuildP at h
 split at h <;> try (cases h; done)
 rename_i out hout
 obtain ⟨v, hv, hrc, rfl⟩ := qbH hz w F ρ hp
 obtain ⟨ie, hie, rfl⟩ : ∃ ie, P.info? e = some ie ∧ ie.size = sz := by
  unfold sizeT at he; cases hh : P.info? e <;> simp_all
 have hsz : ie.size = sh.getD 1 := by
  cases sh with
  | none => obtain ⟨i2, d, h1, h2, _⟩ := qeN hsh; rw [hie] at h1; cases h1; simpa using h2
  | some m => obtain ⟨i2, h1, h2, _⟩ := qdq hsh; rw [hie] at h1; cases h1; simpa using h2
 obtain ⟨us, hus, hr⟩ := qgG (fun i => some (i * ie.size, sh, ie.size)) (fun i => some (i * ie.size, ie.size)) (fun i off sh' n' h => by simp at h; obtain ⟨rfl, rfl, rfl⟩ := h; simp [hsz]) ρA ρC hρ parts.toList ps _ out v.cells hps hout hrc
 refine ⟨.agg us, .agg out, ?_, hr.agg, h⟩
 have hus' : Instr.fill (fun i => some (i * ie.size, ie.size)) v.cells ((parts.map fun (i, x) => (i, ρC x)).toList) = some us := by simpa using hus
 simp only [Instr.build, Sem.run_bind, hv, Result.andThen_ok, run_underlying hu, qac hie, hus', Sem.run_pure]
end
end Go.Ab
