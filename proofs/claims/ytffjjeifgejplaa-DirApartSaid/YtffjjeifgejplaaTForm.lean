/-
  THE FORM OF VALUES THAT ARE READ, by type.
-/
import Derived.Test.YtffjjeifgejplaaAbsRead
import Derived.Test.YtffjjeifgejplaaTLab
set_option linter.unusedSimpArgs false
set_option linter.unusedVariables false
namespace Go.Ab.T
open Go Go.Ab

def Form {α : Type} (P : Program) (d : Nat) (t : TypeId) (C : α → List A) (ok : α → Prop) : Prop := ∀ cs, Gd P d t cs → ∃ x, cs = C x ∧ ok x
def wfI (k : IntKind) (n : Int) : Prop := (Lit.int k n).wf = true

variable {P : Program} {d : Nat} {t e : TypeId}
theorem gd_struct {fs : Array Field} {cs : List A} (hu : P.underlying t = some (.struct fs)) (h : Gd P (d + 1) t cs) : GdF (Gd P d) fs.toList cs := by
  simpa only [Gd, hu] using h
theorem form_int {k : IntKind} (hu : P.underlying t = some (.int k)) : Form P (d + 1) t (cellC k) (wfI k) := by
  intro cs h
  simp only [Gd, hu] at h
  obtain ⟨n, rfl, hw⟩ := h
  exact ⟨n, rfl, hw⟩
theorem form_bool' (hu : P.underlying t = some .bool) : Form P (d + 1) t (fun b : Bool => [.s (.bool b)]) (fun _ => True) := by
  intro cs h
  simp only [Gd, hu] at h
  obtain ⟨b, rfl⟩ := h
  exact ⟨b, rfl, trivial⟩
theorem form_rows {α : Type} {C : α → List A} {ok : α → Prop} (h : Form P d e C ok) : ∀ (rows : List (List A)), (∀ row ∈ rows, Gd P d e row) → ∃ xs : List α, rows = xs.map C ∧ ∀ x ∈ xs, ok x
  | [], _ => ⟨[], rfl, by simp⟩
  | row :: rows, hr => by
    obtain ⟨x, h1, h2⟩ := h row (hr row (by simp))
    obtain ⟨xs, h3, h4⟩ := form_rows h rows fun r hm => hr r (by simp [hm])
    refine ⟨x :: xs, by simp [h1, h3], fun y hy => ?_⟩
    rcases List.mem_cons.1 hy with rfl | hy
    · exact h2
    · exact h4 y hy
theorem form_slice {α : Type} {C : α → List A} {ok : α → Prop} {sz : Nat} (hu : P.underlying t = some (.slice e)) (hs : P.cellsOf e = sz) (h : Form P d e C ok) :
    Form P (d + 1) t (fun xs : List α => [mkF sz (xs.map C)]) (fun xs => xs.length ≤ maxLen ∧ ∀ x ∈ xs, ok x) := by
  intro cs hg
  simp only [Gd, hu] at hg
  obtain ⟨rows, rfl, hl, hr⟩ := hg
  obtain ⟨xs, rfl, hx⟩ := form_rows h rows hr
  exact ⟨xs, by rw [hs], by simpa using hl, hx⟩
theorem form_four {α : Type} {C : α → List A} {ok : α → Prop} (hu : P.underlying t = some (.array 4 e)) (h : Form P d e C ok) :
    Form P (d + 1) t (fun r : α × α × α × α => C r.1 ++ (C r.2.1 ++ (C r.2.2.1 ++ C r.2.2.2))) (fun r => ok r.1 ∧ ok r.2.1 ∧ ok r.2.2.1 ∧ ok r.2.2.2) := by
  intro cs hg
  simp only [Gd, hu] at hg
  obtain ⟨rows, rfl, hl, hr⟩ := hg
  obtain ⟨xs, rfl, hx⟩ := form_rows h rows hr
  match xs, hl, hx with
  | [a, b, c, d], _, hx => exact ⟨(a, b, c, d), by simp, hx a (by simp), hx b (by simp), hx c (by simp), hx d (by simp)⟩

def okCat (c : Cat) : Prop := wfI .u64 c.id ∧ wfI .i64 c.level
def okLink (c : Link) : Prop := wfI .u64 c.id ∧ wfI .i64 c.quota
def okSlot (c : Slot) : Prop := wfI .u64 c.dir ∧ wfI .u64 c.seg
def okLabel (l : Label) : Prop := wfI .i64 l.df ∧ l.cats.length ≤ maxLen ∧ ∀ x ∈ l.cats, okCat x
structure okThing (t : Thing) : Prop where
  id : wfI .u64 t.id
  kind : wfI .i64 t.kind
  label : okLabel t.label
  clear : okLabel t.clear
  quota : wfI .i64 t.quota
  next : wfI .i64 t.next
  links : t.links.length ≤ maxLen ∧ ∀ x ∈ t.links, okLink x
  data : t.data.length ≤ maxLen ∧ ∀ x ∈ t.data, wfI .u8 x
  regs : wfI .u64 t.r0 ∧ wfI .u64 t.r1 ∧ wfI .u64 t.r2 ∧ wfI .u64 t.r3
  minted : wfI .i64 t.minted
  boot : wfI .i64 t.boot
  value : wfI .u64 t.value
  slots : okSlot t.s0 ∧ okSlot t.s1 ∧ okSlot t.s2 ∧ okSlot t.s3
theorem wf_u8 {n : Int} (h : wfI .u8 n) : 0 ≤ n ∧ n < 256 := by
  simp [wfI, Lit.wf, IntKind.min, IntKind.max, IntKind.bits, IntKind.signed] at h; omega
theorem wf_u64 {n : Int} (h : wfI .u64 n) : 0 ≤ n ∧ n < 18446744073709551616 := by
  simp [wfI, Lit.wf, IntKind.min, IntKind.max, IntKind.bits, IntKind.signed] at h; omega
theorem wf_i64 {n : Int} (h : wfI .i64 n) : -9223372036854775808 ≤ n ∧ n < 9223372036854775808 := by
  simp [wfI, Lit.wf, IntKind.min, IntKind.max, IntKind.bits, IntKind.signed] at h; omega
theorem maxLen_lt {n : Nat} (h : n ≤ maxLen) : n < 2 ^ 63 := by unfold maxLen at h; omega
theorem okThing.t1 {t : Thing} (h : okThing t) : okT1 t := ⟨maxLen_lt h.label.2.1, maxLen_lt h.clear.2.1, maxLen_lt h.links.1, fun n hn => wf_u8 (h.data.2 n hn)⟩

/-- A value of one cell, or of several: what stands for it. -/
theorem fz_agg {w : World} {F : Cells} {vs : Array Value} {as : List A} (hl : as.length = vs.toList.length) (h1 : ∀ v ∈ vs.toList, v.oneCell = true) (hz : ∀ (j : Nat) v a, vs.toList[j]? = some v → as[j]? = some a → Fz P w F v a) : Fz P w F (.agg vs) (.agg as) := by
  refine .agg vs as (by simpa using hl.symm) (fun i hi => ?_) fun i hi => ?_
  · have hi' : i < vs.size := by simp at hl; omega
    have : vs.getD i undef = vs[i] := by simp [Array.getD, hi']
    rw [this]; exact h1 _ (by simp)
  · have hi' : i < vs.size := by simp at hl; omega
    have : vs.getD i undef = vs[i] := by simp [Array.getD, hi']
    rw [this]
    exact hz i _ _ (by simp [hi']) (List.getElem?_eq_getElem hi)
end Go.Ab.T
