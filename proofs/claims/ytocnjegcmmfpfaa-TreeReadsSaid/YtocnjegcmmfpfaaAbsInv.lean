/-
 WHAT THE RELATION TELLS of a value whose abstract form is known; the runs of small pieces of the machine.
-/
import Derived.Test.YtocnjegcmmfpfaaAbsRel
import Derived.Laws.Sem
import Derived.Laws.Cells
import Derived.Laws.IdiomCopy
import Derived.Laws.Entries
import Derived.Laws.StructEq
import Derived.ChangeKeysEq
set_option linter.unusedSimpArgs false
set_option linter.unusedVariables false
namespace Go.Ab
open Go
section
variable {P : Program} {w : World} {F : Cells} {ρ : Nat → Reg} {h : Heap} {v : Value}
theorem Rel.s_inv {u : Value} (r : Rel P w F ρ h v (.s u)) : v = u := by
 cases r with
 | pure _ _ hz => cases hz; rfl
theorem Rel.ptr_inv {id ver row off : Nat} (r : Rel P w F ρ h v (.ptr id ver row off)) : ∃ x, v = .pointer (some x) ∧ id < h.length ∧ (∀ s, h[id]? = some s → s ≠ .res) ∧
 (∀ ob, h[id]? = some (.live ob) → ver ≤ ob.ver ∧ (ver = ob.ver → x = ⟨(ρ id).b, (ρ id).o + row * (ρ id).sz + off, none⟩)) := by
 cases r with
 | pure _ _ hz => cases hz
 | ptr x _ _ _ _ hl hn hx => exact ⟨x, rfl, hl, hn, hx⟩
theorem Rel.osl_inv {id ver sz lo len : Nat} (r : Rel P w F ρ h v (.osl id ver sz lo len)) : ∃ a c, v = .slice a len c ∧ id < h.length ∧ (∀ s, h[id]? = some s → s ≠ .res) ∧ len ≤ c ∧ (0 < c → ∃ x, a = some x) ∧
 (∀ ob, h[id]? = some (.live ob) → ver ≤ ob.ver ∧ (ver = ob.ver → sz = (ρ id).sz ∧ (0 < c → a = some ⟨(ρ id).b, (ρ id).o + lo * sz, none⟩ ∧ lo + c ≤ (ρ id).cap))) := by
 cases r with
 | pure _ _ hz => cases hz
 | osl a _ c _ _ _ _ hl hn hc ha hx => exact ⟨a, c, rfl, hl, hn, hc, ha, hx⟩
theorem Rel.cptr_inv {cs : List A} (r : Rel P w F ρ h v (.cptr cs)) : ∃ b o, ∃ vs : Nat → Value, v = .pointer (some ⟨b, o, none⟩) ∧
 (∀ i, i < cs.length → F b (o + i) ∧ w.cell? ⟨b, o + i, none⟩ = some (vs i) ∧ (vs i).oneCell = true) ∧ (∀ i (h : i < cs.length), Fz P w F (vs i) cs[i]) := by
 cases r with
 | pure _ _ hz =>
   cases hz with
   | cptr b o _ vs hc hr => exact ⟨b, o, vs, rfl, hc, hr⟩
theorem Rel.fsl_inv {sz : Nat} {rows : List (List A)} (r : Rel P w F ρ h v (.fsl sz rows)) : ∃ a c b o, ∃ vs : Nat → Nat → Value, v = .slice a rows.length c ∧ rows.length ≤ c ∧
 (0 < rows.length → a = some ⟨b, o, none⟩) ∧ (∀ row ∈ rows, row.length = sz) ∧
 (∀ i j, i < rows.length → j < sz → F b (o + i * sz + j) ∧ w.cell? ⟨b, o + i * sz + j, none⟩ = some (vs i j) ∧ (vs i j).oneCell = true) ∧
 (∀ i j (hi : i < rows.length) (hj : j < rows[i].length), Fz P w F (vs i j) rows[i][j]) := by
 cases r with
 | pure _ _ hz =>
   cases hz with
   | fsl a c _ _ b o vs hlc ha hw hc hr => exact ⟨a, c, b, o, vs, rfl, hlc, ha, hw, hc, hr⟩
theorem Rel.agg_inv {cs : List A} (r : Rel P w F ρ h v (.agg cs)) : ∃ vs, v = .agg vs ∧ vs.size = cs.length ∧ (∀ i, i < cs.length → (vs.getD i undef).oneCell = true) ∧
 (∀ i (h' : i < cs.length), Rel P w F ρ h (vs.getD i undef) cs[i]) := by
 cases r with
 | pure _ _ hz =>
   cases hz with
   | agg vs _ hs h1 hr => exact ⟨vs, rfl, hs, h1, fun i hi => .pure _ _ (hr i hi)⟩
 | agg vs _ hs h1 hr => exact ⟨vs, rfl, hs, h1, hr⟩
theorem Rel.tup_inv {cs : List A} (r : Rel P w F ρ h v (.tup cs)) : ∃ vs, v = .tuple vs ∧ vs.size = cs.length ∧
 (∀ i (h' : i < cs.length), Rel P w F ρ h (vs.getD i undef) cs[i]) := by
 cases r with
 | pure _ _ hz =>
   cases hz with
   | tup vs _ hs hr => exact ⟨vs, rfl, hs, fun i hi => .pure _ _ (hr i hi)⟩
 | tup vs _ hs hr => exact ⟨vs, rfl, hs, hr⟩
theorem qed : ∀ {l : List A}, pureL l = true → ∀ i (h : i < l.length), pureA l[i] = true
 | a :: r, hp, i, hi => by
   simp only [pureL, Bool.and_eq_true] at hp
   cases i with
   | zero => exact hp.1
   | succ i => exact qed hp.2 i (by simpa using hi)
theorem Rel.fz {v : Value} {a : A} (hr : Rel P w F ρ h v a) (hp : pureA a = true) : Fz P w F v a := by
 induction hr with
 | pure v a hz => exact hz
 | agg vs cs hs h1 hr ih => exact .agg vs cs hs h1 fun i hi => ih i hi (qed hp i hi)
 | tup vs cs hs hr ih => exact .tup vs cs hs fun i hi => ih i hi (qed hp i hi)
 | fn f fn caps cs hf hs hr ih => exact .fn f fn caps cs hf hs fun i hi => ih i hi (qed hp i hi)
 | iface t ty v a ht hr ih => exact .iface t ty v a ht (ih hp)
 | _ => cases hp
theorem Rel.fn_inv {name : String} {cs : List A} (r : Rel P w F ρ h v (.fn name cs)) : (∃ f fn caps, v = .func (.func f) #[] caps ∧ P.funcs[f]? = some fn ∧ fn.name = name ∧ caps.size = cs.length ∧
 (∀ i (h' : i < cs.length), Rel P w F ρ h (caps.getD i undef) cs[i])) ∨
 ∃ f fn u a, v = .func (.func f) #[u] #[] ∧ P.funcs[f]? = some fn ∧ fn.name = name ∧ cs = [bndM, a] ∧ pureA a = true ∧ Fz P w F u a := by
 cases r with
 | pure _ _ hz =>
   cases hz with
   | fn f fn caps _ hf hs hr => exact .inl ⟨f, fn, caps, rfl, hf, rfl, hs, fun i hi => .pure _ _ (hr i hi)⟩
   | bound f fn u a hf hp hr => exact .inr ⟨f, fn, u, a, rfl, hf, rfl, rfl, hp, hr⟩
 | fn f fn caps _ hf hs hr => exact .inl ⟨f, fn, caps, rfl, hf, rfl, hs, hr⟩
theorem Rel.not_bnd (r : Rel P w F ρ h v bndM) : False := by
 cases r with
 | pure _ _ hz =>
   cases hz with
   | fsl _ _ _ _ _ _ _ _ _ hw _ _ => exact absurd (hw [.any] (by simp)) (by simp)
theorem Rel.iface_inv {ty : String} {a : A} (r : Rel P w F ρ h v (.iface ty a)) : ∃ t u, v = .iface t u ∧ (P.info? t).map (·.str) = some ty ∧ Rel P w F ρ h u a := by
 cases r with
 | pure _ _ hz =>
   cases hz with
   | iface t _ u _ ht hr => exact ⟨t, u, rfl, ht, .pure _ _ hr⟩
 | iface t _ u _ ht hr => exact ⟨t, u, rfl, ht, hr⟩
theorem Rel.s_mk (v : Value) : Rel P w F ρ h v (.s v) := .pure _ _ (.s v)
theorem Rel.oneCell {a : A} (r : Rel P w F ρ h v a) (hc : isCell a = true) : v.oneCell = true := by
 cases r with
 | pure _ _ hz =>
   cases hz with
   | s v => cases v <;> simp_all [isCell, Value.oneCell]
   | agg => simp [isCell] at hc
   | tup => simp [isCell] at hc
   | _ => rfl
 | any => simp [isCell] at hc
 | agg => simp [isCell] at hc
 | tup => simp [isCell] at hc
 | _ => rfl
theorem qgw (v : Value) : v.oneCell' = v.oneCell := by cases v <;> rfl
theorem qhH {v : Value} (h : v.oneCell = true) : v.cells = #[v] := by cases v <;> simp_all [Value.oneCell, Value.cells]
theorem Fz.resz {sz sz2 : Nat} {rows : List (List A)} (r : Fz P w F v (.fsl sz rows)) (hs : sz = sz2 ∨ rows.isEmpty = true) : Fz P w F v (.fsl sz2 rows) := by
 rcases hs with rfl | hs
 · exact r
 · cases rows with
   | cons a b => cases hs
   | nil =>
     cases r with
     | fsl a c _ _ b o vs hlc ha hw hc hr => exact .fsl a c sz2 [] b o vs hlc ha (fun row h => by cases h) (fun i j h => by simp at h) fun i j h => by simp at h
theorem Fz.mkF {sz : Nat} {rows : List (List A)} (r : Fz P w F v (.fsl sz rows)) : Fz P w F v (Go.Ab.mkF sz rows) := by
 unfold Go.Ab.mkF
 split
 · rename_i h; exact r.resz (.inr h)
 · exact r
theorem Fz.nilSlice : Fz P w F (.slice none 0 0) (.fsl 0 []) :=
 .fsl none 0 0 [] 0 0 (fun _ _ => undef) (Nat.le_refl _) (fun h => by simp at h) (fun row h => by cases h) (fun i j h => by simp at h) fun i j h => by simp at h
theorem Fz.nilS (v : Value) : Fz P w F v (Go.Ab.nilS v) := by
 unfold Go.Ab.nilS
 split
 · exact .nilSlice
 · exact .s _
theorem Rel.fslFz {sz : Nat} {rows : List (List A)} (r : Rel P w F ρ h v (.fsl sz rows)) : Fz P w F v (.fsl sz rows) := by
 cases r with
 | pure _ _ hz => exact hz
theorem qdq {t : TypeId} {n : Nat} (hs : shapeT P t = some (some n)) : ∃ i, P.info? t = some i ∧ i.size = n ∧ (∃ d, P.underlying t = some d ∧ ((∃ fs, d = .struct fs) ∨ ∃ m e, d = .array m e)) := by
 unfold shapeT at hs
 split at hs <;> simp at hs
 · rename_i i fs hi hu; exact ⟨i, hi, hs, _, hu, .inl ⟨_, rfl⟩⟩
 · rename_i i m e hi hu; exact ⟨i, hi, hs, _, hu, .inr ⟨_, _, rfl⟩⟩
theorem qeN {t : TypeId} (hs : shapeT P t = some none) : ∃ i d, P.info? t = some i ∧ i.size = 1 ∧ P.underlying t = some d ∧ (∀ fs, d ≠ .struct fs) ∧ (∀ n e, d ≠ .array n e) := by
 unfold shapeT at hs
 split at hs <;> simp at hs
 rename_i i d h1 h2 hi hd
 exact ⟨i, d, hi, hs, hd, fun fs e => h1 _ e, fun n e e' => h2 _ _ e'⟩
theorem qgL {t : TypeId} {n : Nat} (hs : shapeT P t = some (some n)) (w : World) : (isAgg t).run P w = .ok true w := by
 obtain ⟨i, _, _, d, hd, h | h⟩ := qdq hs
 · obtain ⟨fs, rfl⟩ := h; simp [isAgg, run_underlying hd]
 · obtain ⟨m, e, rfl⟩ := h; simp [isAgg, run_underlying hd]
theorem qgM {t : TypeId} (hs : shapeT P t = some none) (w : World) : (isAgg t).run P w = .ok false w := by
 obtain ⟨i, d, _, _, hd, h1, h2⟩ := qeN hs
 simp only [isAgg, Sem.run_bind, run_underlying hd, Result.andThen_ok]
 cases d <;> simp_all
theorem qac {t : TypeId} {i : TypeInfo} (hi : P.info? t = some i) (w : World) : (sizeOf t).run P w = .ok i.size w := by
 simp [Go.sizeOf, typeInfo, hi]
theorem qcg (b o n : Nat) : (⟨b, o, none⟩ : Addr).add n = ⟨b, o + n, none⟩ := by unfold Addr.add; split <;> simp_all
end
end Go.Ab
