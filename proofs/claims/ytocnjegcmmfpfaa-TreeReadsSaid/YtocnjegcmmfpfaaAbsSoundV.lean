/-
 NEW SLICES, append, copy.
-/
import Derived.Test.YtocnjegcmmfpfaaAbsSoundU
set_option linter.unusedSimpArgs false
set_option linter.unusedVariables false
namespace Go.Ab
open Go
section
variable {P : Program} {w w' : World} {F : Cells} {ρ ρ' : Nat → Reg} {h h' : Heap} {β : Type} {r : β}
theorem Inv.freshSlice (i : Inv P w F ρ h) {at_ : Option Nat} {sz : Nat} {rows : List (List A)} {k : A → Heap → Option β} {id : Nat} {h' : Heap} (hp : place at_ h ⟨0, sz, rows⟩ = some (id, h')) (hk : k (.osl id 0 sz 0 rows.length) h' = some r) (hd : ∀ b o, w'.cell? ⟨b, o, none⟩ = w.cell? ⟨b, o, none⟩) (u : Upd (fun _ _ => False) w w') (hsame : w'.heap.size = w.heap.size)
 (e : TypeId) {vs : List Value} (rest : Array Value) {cap : Nat} (hcap : vs.length + rest.size = cap * sz) (pos : 0 < sz) (hl : rows.length ≤ cap) (hw : ∀ row ∈ rows, row.length = sz)
 (hr : RelC P w F ρ h vs rows.flatten) {s : Sem Value} (hs : s.run P w = .ok (.slice (some ⟨w.heap.size, 0, none⟩) rows.length cap) { w' with heap := w'.heap.push (.cells (vs.toArray ++ rest) e) }) :
 HYld P w F ρ h (do pure (.value (← s))) k r := by
 obtain ⟨q1, q2⟩ := i.fresh hp hd u hsame (e := e) hcap pos hl hw hr
 obtain ⟨l1, l2⟩ := qeI hp
 refine .value hs (.osl _ _ _ id 0 sz 0 l2 (fun s hs he => ?_) hl (fun _ => ⟨_, rfl⟩) fun ob hob => ?_) q1 q2 hk
 · rw [l1] at hs; cases hs; cases he
 · rw [l1] at hob; cases hob
   refine ⟨Nat.le_refl _, fun _ => ⟨by simp, fun _ => by simp⟩⟩
theorem qi2 (a : Array Value) (i : Nat) (h : i < a.size) : a[i]! = a[i] := by simp [h]
def qfn (sh : Option Nat) (sz : Nat) : Nat → List A → List (Nat × Option Nat × A)
 | _, [] => []
 | i, v :: r => (i * sz, sh, v) :: qfn sh sz (i + 1) r
theorem qgc {sh : Option Nat} {sz : Nat} {ρA : Operand → A} : ∀ (parts : List (Nat × Operand)) (i : Nat), inOrder i (parts.map fun (i, x) => (i, ρA x)) = true →
 partsAt (fun i => some (i * sz, sh, sz)) ρA parts = some (qfn sh sz i (parts.map fun (_, x) => ρA x))
 | [], _, _ => rfl
 | (j, x) :: parts, i, h => by
   simp only [List.map_cons, inOrder, Bool.and_eq_true, beq_iff_eq] at h
   obtain ⟨rfl, h⟩ := h
   simp only [partsAt, qgc parts (i + 1) h, List.map_cons, qfn]
theorem qio {sh : Option Nat} : ∀ (vals : List A) (rows : List (List A)), asRows sh vals = some rows → rows.length = vals.length ∧ ∀ row ∈ rows, row.length = sh.getD 1
 | [], rows, h => by simp [asRows] at h; subst h; simp
 | v :: vals, rows, h => by
   simp only [asRows, Option.bind_eq_some_iff, Option.map_eq_some_iff] at h
   obtain ⟨c, hc, rs, hrs, rfl⟩ := h
   obtain ⟨g1, g2⟩ := qio vals rs hrs
   have hcl : c.length = sh.getD 1 := by
    cases sh with
    | none => simp only [asCells] at hc; split at hc <;> simp at hc; subst hc; rfl
    | some n =>
      simp only [asCells] at hc
      split at hc <;> try (cases hc; done)
      split at hc <;> simp at hc
      rename_i hl; subst hc; simpa using hl
   refine ⟨by simp [g1], fun row hr => ?_⟩
   simp at hr
   rcases hr with rfl | hr
   · exact hcl
   · exact g2 row hr
theorem qmg {sh : Option Nat} {sz : Nat} (hsz : sh.getD 1 = sz) : ∀ (vals : List A) (i : Nat) (cells : List A) (rows : List (List A)), asRows sh vals = some rows → (i + vals.length) * sz ≤ cells.length →
 fillA cells (qfn sh sz i vals) = some (cells.take (i * sz) ++ rows.flatten ++ cells.drop ((i + vals.length) * sz))
 | [], i, cells, rows, h, _ => by simp [asRows] at h; subst h; simp [qfn, fillA]
 | v :: vals, i, cells, rows, h, hl => by
   obtain ⟨g1, g2⟩ := qio _ _ h
   simp only [asRows, Option.bind_eq_some_iff, Option.map_eq_some_iff] at h
   obtain ⟨c, hc, rs, hrs, rfl⟩ := h
   have hcl : c.length = sz := by rw [← hsz]; exact g2 c (by simp)
   simp only [List.length_cons] at hl
   have e1 : (i + (vals.length + 1)) * sz = i * sz + (sz + vals.length * sz) := by rw [Nat.add_mul, Nat.succ_mul]; omega
   have e2 : (i + 1 + vals.length) * sz = i * sz + (sz + vals.length * sz) := by rw [Nat.add_mul, Nat.add_mul]; omega
   have e3 : (i + 1) * sz = i * sz + sz := by rw [Nat.succ_mul]
   simp only [qfn, fillA, hc]
   rw [if_pos (by rw [e1] at hl; omega)]
   have hput : (qa5 cells (i * sz) c).length = cells.length := by simp [qa5]; rw [e1] at hl; omega
   rw [qmg hsz vals (i + 1) _ rs hrs (by rw [hput, e2]; rw [e1] at hl; exact hl)]
   congr 1
   simp only [List.length_cons, List.flatten_cons]
   rw [e1, e2, e3]
   rw [e1] at hl
   unfold qa5
   have t1 : (cells.take (i * sz)).length = i * sz := by simp; omega
   rw [show (cells.take (i * sz) ++ c ++ cells.drop (i * sz + c.length)).take (i * sz + sz) = cells.take (i * sz) ++ c by
    rw [List.take_append_of_le_length (by simp; omega)]
    rw [List.take_of_length_le (by simp; omega)]]
   rw [show (cells.take (i * sz) ++ c ++ cells.drop (i * sz + c.length)).drop (i * sz + (sz + vals.length * sz)) = cells.drop (i * sz + (sz + vals.length * sz)) by
    rw [List.drop_append, List.drop_eq_nil_of_le (by simp; omega), List.nil_append, List.drop_drop]
    congr 1; simp; omega]
   simp
theorem qdn {at_ : Option Nat} {t e : TypeId} {n sz : Nat} {sh : Option Nat} {parts : Array (Nat × Operand)} {ρA : Operand → A} {ρC : Operand → Value} {k : A → Heap → Option β} (i : Inv P w F ρ h) (hρ : ∀ x, Rel P w F ρ h (ρC x) (ρA x))
 (hu : P.underlying t = some (.slice e)) (he : sizeT P e = some sz) (hsh : shapeT P e = some sh) (hord : inOrder 0 (parts.toList.map fun (i, x) => (i, ρA x)) = true) (hn : parts.size = n) (hb : n * sz ≤ 2 ^ 24)
 (hz : (zeroT P e).map List.length = some sz) (hk : qah at_ sz (asRows sh (parts.toList.map fun (_, x) => ρA x)) h k = some r) :
 HYld P w F ρ h (do pure (.value (← Instr.buildSlice t n (parts.map fun (i, x) => (i, ρC x))))) k r := by
 unfold qah at hk
 split at hk <;> try (cases hk; done)
 rename_i rows hrows
 split at hk <;> try (cases hk; done)
 rename_i hpos
 split at hk <;> try (cases hk; done)
 rename_i id h' hp
 obtain ⟨ie, hie, rfl⟩ : ∃ ie, P.info? e = some ie ∧ ie.size = sz := by
  unfold sizeT at he; cases hh : P.info? e <;> simp_all
 have hsz : sh.getD 1 = ie.size := by
  cases sh with
  | none => obtain ⟨i2, d, h1, h2, _⟩ := qeN hsh; rw [hie] at h1; cases h1; simp [h2]
  | some m => obtain ⟨i2, h1, h2, _⟩ := qdq hsh; rw [hie] at h1; cases h1; simp [h2]
 rw [Option.map_eq_some_iff] at hz
 obtain ⟨z, hz, hzl⟩ := hz
 obtain ⟨zv, hzv, hzr, rfl⟩ := qbH hz w F ρ h
 have hzs : zv.cells.size = ie.size := by simpa using hzl
 obtain ⟨g1, g2⟩ := qio _ _ hrows
 simp at g1
 let f : Nat → Value := fun j => zv.cells[j % zv.cells.size]!
 let zs : Array Value := (Array.range (n * ie.size)).map f
 have hzs1 : ∀ j, (f j).oneCell = true := by
  intro j
  have hlt : j % zv.cells.size < zv.cells.size := Nat.mod_lt _ (by omega)
  have := (hzr.get (j % zv.cells.size) (by simpa using hlt) (by simpa using hlt)).1
  simp only [f, qi2 _ _ hlt]
  simpa using this
 have hinit : RelC P w F ρ h zs.toList (zs.toList.map .s) := .mk (by simp) fun j hj hj' => by
  refine ⟨?_, by simp only [List.getElem_map]; exact .s_mk _⟩
  simp only [zs, Array.toList_map, Array.toList_range, List.getElem_map]
  exact hzs1 _
 have hpa := qgc (sh := sh) (sz := ie.size) (ρA := ρA) parts.toList 0 hord
 have hfill := qmg hsz (parts.toList.map fun (_, x) => ρA x) 0 (zs.toList.map .s) rows hrows (by simp [zs, hn])
 have hall : (0 + (parts.toList.map fun (_, x) => ρA x).length) * ie.size = n * ie.size := by simp [hn]
 rw [hall] at hfill
 have hdrop : (zs.toList.map A.s).drop (n * ie.size) = [] := List.drop_eq_nil_of_le (by simp [zs])
 simp only [Nat.zero_mul, List.take_zero, List.nil_append, hdrop, List.append_nil] at hfill
 obtain ⟨us, hus, hur⟩ := qgG (fun i => some (i * ie.size, sh, ie.size)) (fun i => some (i * ie.size, ie.size)) (fun i off sh' n' h => by simp at h; obtain ⟨rfl, rfl, rfl⟩ := h; simp [hsz]) ρA ρC hρ parts.toList _ _ _ zs hpa hfill hinit
 have hus' : Instr.fill (fun i => some (i * ie.size, ie.size)) zs ((parts.map fun (i, x) => (i, ρC x)).toList) = some us := by simpa using hus
 have hwid : ∀ row ∈ rows, row.length = ie.size := fun row hr => by rw [g2 row hr, hsz]
 have husl : us.size = rows.length * ie.size := by have := hur.1; simp only [Array.length_toList] at this; rw [this, qb4 _ hwid]
 refine i.freshSlice (w' := w) hp hk (fun _ _ => rfl) (.refl _ _) rfl e (vs := us.toList) #[] (cap := rows.length) (by simp [husl]) (by omega) (Nat.le_refl _) hwid hur ?_
 by_cases h0 : n * ie.size = 0
 · have hg : ∀ g : Nat → Value, (Array.range (n * ie.size)).map g = zs := fun g => by simp [zs, h0]
   simp only [Instr.buildSlice, Sem.run_bind, run_underlying hu, Result.andThen_ok, qac hie, Sem.run_ite, if_neg (show ¬ n * ie.size > 2 ^ 24 by omega), Sem.run_pure, if_pos h0, hg, hus', newRow, run_newObj]
   simp [g1, hn]
 · have hg : (Array.range (n * ie.size)).map (fun x => zv.cells[x % zv.cells.size]!) = zs := rfl
   simp only [Instr.buildSlice, Sem.run_bind, run_underlying hu, Result.andThen_ok, qac hie, Sem.run_ite, if_neg (show ¬ n * ie.size > 2 ^ 24 by omega), Sem.run_pure, if_neg h0, hzv, hg, hus', newRow, run_newObj]
   simp [g1, hn]
theorem qk3 (z : List A) (l : Nat) (hz : z ≠ []) : ∀ j, j < l * z.length → (List.replicate l z).flatten[j]? = z[j % z.length]? := by
 intro j hj
 have hpos : 0 < z.length := by cases z <;> simp_all
 have := qgD (List.replicate l z) (sz := z.length) (fun row hr => by rw [List.mem_replicate] at hr; rw [hr.2]) (j / z.length) (j % z.length) (Nat.mod_lt _ hpos)
 rw [show j / z.length * z.length + j % z.length = j by rw [Nat.mul_comm]; exact Nat.div_add_mod j z.length] at this
 rw [this, List.getElem?_replicate, if_pos ((Nat.div_lt_iff_lt_mul hpos).2 hj)]
 rfl
theorem sound_make {at_ : Option Nat} {t e : TypeId} {sz : Nat} {z : List A} {l c : A} {vl vc : Value} {k : A → Heap → Option β} (i : Inv P w F ρ h) (hl : Rel P w F ρ h vl l) (hc : Rel P w F ρ h vc c)
 (hu : P.underlying t = some (.slice e)) (he : sizeT P e = some sz) (hz : zeroT P e = some z) (hk : oMake at_ sz (P.bytesOf e) z l c h k = some r) :
 HYld P w F ρ h (do pure (.value (← Instr.makeSlice t vl vc))) k r := by
 unfold oMake at hk
 split at hk <;> try (cases hk; done)
 rename_i l c
 obtain rfl := hl.s_inv
 obtain rfl := hc.s_inv
 split at hk <;> try (cases hk; done)
 rename_i hcond
 obtain ⟨h0, hlc, hbytes, hc62, hzl⟩ := hcond
 unfold qah at hk
 simp only at hk
 split at hk <;> try (cases hk; done)
 rename_i hpos
 split at hk <;> try (cases hk; done)
 rename_i id h' hp
 obtain ⟨ie, hie, rfl⟩ : ∃ ie, P.info? e = some ie ∧ ie.size = sz := by
  unfold sizeT at he; cases hh : P.info? e <;> simp_all
 have hbe : P.bytesOf e = ie.bytes := by simp [Program.bytesOf, hie]
 obtain ⟨zv, hzv, hzr, rfl⟩ := qbH hz w F ρ h
 have hzs : zv.cells.size = ie.size := by simpa using hzl
 let f : Nat → Value := fun j => zv.cells[j % zv.cells.size]!
 have hfget : ∀ j, f j = zv.cells.toList[j % ie.size]'(by rw [Array.length_toList, hzs]; exact Nat.mod_lt _ (by omega)) := by
  intro j
  have hlt : j % zv.cells.size < zv.cells.size := Nat.mod_lt _ (by omega)
  simp only [f, qi2 _ _ hlt, Array.getElem_toList]
  simp [hzs]
 have w1 : IntKind.i64.wrap l = l := by
  have : (2:Int)^62 = 4611686018427387904 := by decide
  have key : IntKind.i64.wrap l = (let m := l % 18446744073709551616; if m ≥ 9223372036854775808 then m - 18446744073709551616 else m) := by
   simp [IntKind.wrap, IntKind.bits, IntKind.signed]
  rw [key]
  have : l % 18446744073709551616 = l := by omega
  simp only [this]; rw [if_neg (by omega)]
 have w2 : IntKind.i64.wrap c = c := by
  have : (2:Int)^62 = 4611686018427387904 := by decide
  have key : IntKind.i64.wrap c = (let m := c % 18446744073709551616; if m ≥ 9223372036854775808 then m - 18446744073709551616 else m) := by
   simp [IntKind.wrap, IntKind.bits, IntKind.signed]
  rw [key]
  have : c % 18446744073709551616 = c := by omega
  simp only [this]; rw [if_neg (by omega)]
 have hnb : ¬ ((ie.bytes : Int) * c > 2 ^ 48) := by
  rw [hbe] at hbytes
  have : (2:Int)^48 = 281474976710656 := by decide
  have : (2:Int)^47 = 140737488355328 := by decide
  omega
 have hrl : (List.replicate l.toNat (zv.cells.toList.map A.s)).length = l.toNat := by simp
 have hsplit : (Array.range (c.toNat * ie.size)).map f = ((List.range (l.toNat * ie.size)).map f).toArray ++ ((List.range ((c.toNat - l.toNat) * ie.size)).map fun j => f (l.toNat * ie.size + j)).toArray := by
  apply Array.ext'
  simp only [Array.toList_map, Array.toList_range, Array.toList_append]
  rw [show c.toNat * ie.size = l.toNat * ie.size + (c.toNat - l.toNat) * ie.size by rw [← Nat.add_mul]; congr 1; omega]
  rw [List.range_add]; simp
 have hne : zv.cells.toList.map A.s ≠ [] := by intro hh; have := congrArg List.length hh; simp at this; rw [this] at hzs; simp at hzs; omega
 refine i.freshSlice (w' := w) hp hk (fun _ _ => rfl) (.refl _ _) rfl e (vs := (List.range (l.toNat * ie.size)).map f) (((List.range ((c.toNat - l.toNat) * ie.size)).map fun j => f (l.toNat * ie.size + j)).toArray) (cap := c.toNat)
  (by simp; rw [← Nat.add_mul]; congr 1; omega) (by omega) (by simp; omega) (fun row hr => by rw [List.mem_replicate] at hr; rw [hr.2]; simpa using hzs) ?_ ?_
 · refine ⟨by rw [qb4 (sz := ie.size) _ (fun row hr => by rw [List.mem_replicate] at hr; rw [hr.2]; simpa using hzs)]; simp, fun j v cc hv hcc => ?_⟩
   simp only [List.getElem?_map, Option.map_eq_some_iff] at hv
   obtain ⟨m, hm, rfl⟩ := hv
   obtain ⟨hm1, hm2⟩ := List.getElem?_eq_some_iff.1 hm
   simp at hm1 hm2
   subst hm2
   rw [qk3 _ _ hne _ (by simpa [hzs] using hm1)] at hcc
   simp only [List.length_map, Array.length_toList, hzs] at hcc
   have hjm : j % ie.size < zv.cells.toList.length := by rw [Array.length_toList, hzs]; exact Nat.mod_lt _ (by omega)
   have := hzr.2 (j % ie.size) _ cc (List.getElem?_eq_getElem hjm) hcc
   rw [hfget]; exact this
 · have hcn : ¬ c < 0 := by omega
   have hln : ¬ l < 0 := by omega
   have hlc' : ¬ l > c := by omega
   by_cases h0 : c.toNat * ie.size = 0
   · have hg : ∀ g : Nat → Value, (Array.range (c.toNat * ie.size)).map g = (Array.range (c.toNat * ie.size)).map f := fun g => by simp [h0]
     simp only [Instr.makeSlice, Sem.run_bind, run_underlying hu, Result.andThen_ok, asInt, asIntOf, Sem.run_pure, typeInfo, run_program, hie, w1, w2, Sem.run_ite, hcn, hnb, hln, hlc', decide_false, Bool.or_self, Bool.false_eq_true, if_false, run_askRoom, qac hie, if_pos h0, hg, newRow, run_newObj]
     rw [← hsplit, hrl]
   · have hg : (Array.range (c.toNat * ie.size)).map (fun x => zv.cells[x % zv.cells.size]!) = (Array.range (c.toNat * ie.size)).map f := rfl
     simp only [Instr.makeSlice, Sem.run_bind, run_underlying hu, Result.andThen_ok, asInt, asIntOf, Sem.run_pure, typeInfo, run_program, hie, w1, w2, Sem.run_ite, hcn, hnb, hln, hlc', decide_false, Bool.or_self, Bool.false_eq_true, if_false, run_askRoom, qac hie, if_neg h0, hzv, hg, newRow, run_newObj]
     rw [← hsplit, hrl]
end
end Go.Ab
