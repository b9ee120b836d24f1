/-
  THE FORM OF VALUES THAT ARE READ, by type.
-/
import Derived.Test.YtbaknldomnoeiaaRAbsRead
import Derived.Test.YtbaknldomnoeiaaRTKit
set_option linter.unusedSimpArgs false
set_option linter.unusedVariables false
namespace Go.Ab.T
open Go Go.Ab

def Form {α : Type} (P : Program) (d : Nat) (t : TypeId) (C : α → List A) (ok : α → Prop) : Prop := ∀ cs, Gd P d t cs → ∃ x, cs = C x ∧ ok x
def wfI (k : IntKind) (n : Int) : Prop := (Lit.int k n).wf = true

variable {P : Program} {d : Nat} {t e : TypeId}
theorem gd_struct {fs : Array Field} {cs : List A} (hu : P.underlying t = some (.struct fs)) (h : Gd P (d + 1) t cs) : GdF (Gd P d) fs.toList cs := by
  simpa only [Gd, hu] using h
theorem form_int {k : IntKind} (hu : P.underlying t = some (.int k)) : Form P (d + 1) t (cellC k) (wfI k) := by
  intro cs h
  simp only [Gd, hu] at h
  obtain ⟨n, rfl, hw⟩ := h
  exact ⟨n, rfl, hw⟩
theorem form_bool' (hu : P.underlying t = some .bool) : Form P (d + 1) t (fun b : Bool => [.s (.bool b)]) (fun _ => True) := by
  intro cs h
  simp only [Gd, hu] at h
  obtain ⟨b, rfl⟩ := h
  exact ⟨b, rfl, trivial⟩
theorem form_rows {α : Type} {C : α → List A} {ok : α → Prop} (h : Form P d e C ok) : ∀ (rows : List (List A)), (∀ row ∈ rows, Gd P d e row) → ∃ xs : List α, rows = xs.map C ∧ ∀ x ∈ xs, ok x
  | [], _ => ⟨[], rfl, by simp⟩
  | row :: rows, hr => by
    obtain ⟨x, h1, h2⟩ := h row (hr row (by simp))
    obtain ⟨xs, h3, h4⟩ := form_rows h rows fun r hm => hr r (by simp [hm])
    refine ⟨x :: xs, by simp [h1, h3], fun y hy => ?_⟩
    rcases List.mem_cons.1 hy with rfl | hy
    · exact h2
    · exact h4 y hy
theorem form_slice {α : Type} {C : α → List A} {ok : α → Prop} {sz : Nat} (hu : P.underlying t = some (.slice e)) (hs : P.cellsOf e = sz) (h : Form P d e C ok) :
    Form P (d + 1) t (fun xs : List α => [mkF sz (xs.map C)]) (fun xs => xs.length ≤ maxLen ∧ ∀ x ∈ xs, ok x) := by
  intro cs hg
  simp only [Gd, hu] at hg
  obtain ⟨rows, rfl, hl, hr⟩ := hg
  obtain ⟨xs, rfl, hx⟩ := form_rows h rows hr
  exact ⟨xs, by rw [hs], by simpa using hl, hx⟩
theorem form_four {α : Type} {C : α → List A} {ok : α → Prop} (hu : P.underlying t = some (.array 4 e)) (h : Form P d e C ok) :
    Form P (d + 1) t (fun r : α × α × α × α => C r.1 ++ (C r.2.1 ++ (C r.2.2.1 ++ C r.2.2.2))) (fun r => ok r.1 ∧ ok r.2.1 ∧ ok r.2.2.1 ∧ ok r.2.2.2) := by
  intro cs hg
  simp only [Gd, hu] at hg
  obtain ⟨rows, rfl, hl, hr⟩ := hg
  obtain ⟨xs, rfl, hx⟩ := form_rows h rows hr
  match xs, hl, hx with
  | [a, b, c, d], _, hx => exact ⟨(a, b, c, d), by simp, hx a (by simp), hx b (by simp), hx c (by simp), hx d (by simp)⟩
end Go.Ab.T
