/-
  EXTENTS: the lists of a map, as they should be.
-/
import Derived.Test.YtbaknldomnoeiaaRTMap
set_option linter.unusedSimpArgs false
set_option linter.unusedVariables false
set_option linter.unusedSectionVars false
namespace Go.Ab.T
open Go Go.Ab Go.Ab.F

/-- In order, apart, none empty, between two places. -/
def WFx (lo hi : Int) : List Extent → Prop
  | [] => lo ≤ hi
  | x :: r => lo ≤ x.start ∧ 1 ≤ x.len ∧ WFx (x.start + x.len) hi r
theorem WFx_le {lo hi : Int} : ∀ {fs : List Extent}, WFx lo hi fs → lo ≤ hi
  | [], h => h
  | x :: r, h => by have := WFx_le h.2.2; have h1 := h.1; have h2 := h.2.1; omega
theorem WFx_mono {lo lo' hi : Int} (hl : lo' ≤ lo) : ∀ {fs : List Extent}, WFx lo hi fs → WFx lo' hi fs
  | [], h => by have h' : lo ≤ hi := h; show lo' ≤ hi; omega
  | x :: r, h => ⟨by have := h.1; omega, h.2.1, h.2.2⟩
theorem WFx_len {lo hi : Int} : ∀ {fs : List Extent}, WFx lo hi fs → (fs.length : Int) ≤ hi - lo
  | [], h => by have h' : lo ≤ hi := h; simp; omega
  | x :: r, h => by
    have := WFx_len h.2.2
    have h1 := h.1
    have h2 := h.2.1
    simp; omega
theorem WFx_mem {lo hi : Int} : ∀ {fs : List Extent}, WFx lo hi fs → ∀ x ∈ fs, lo ≤ x.start ∧ 1 ≤ x.len ∧ x.start + x.len ≤ hi
  | [], _, x, hx => by cases hx
  | y :: r, h, x, hx => by
    have h1 := h.1
    have h2 := h.2.1
    have h3 := WFx_le h.2.2
    rcases List.mem_cons.1 hx with rfl | hx
    · exact ⟨h1, h2, h3⟩
    · have := WFx_mem h.2.2 x hx
      exact ⟨by omega, this.2.1, this.2.2⟩

def sumL : List Extent → Int
  | [] => 0
  | x :: r => x.len + sumL r
theorem WFx_sum {lo hi : Int} : ∀ {fs : List Extent}, WFx lo hi fs → 0 ≤ sumL fs ∧ sumL fs ≤ hi - lo
  | [], h => by have h' : lo ≤ hi := h; simp [sumL]; omega
  | x :: r, h => by
    have := WFx_sum h.2.2
    have h1 := h.1
    have h2 := h.2.1
    simp [sumL]; omega
theorem count_foldl (fs : List Extent) : ∀ n : Int, 0 ≤ n → (∀ x ∈ fs, 0 ≤ x.len) → n + sumL fs ≤ 90000 → 0 ≤ sumL fs → fs.foldl (fun n x => IntKind.i64.wrap (n + x.len)) n = n + sumL fs := by
  induction fs with
  | nil => intro n _ _ _ _; simp [sumL]
  | cons x r ih =>
    intro n h0 hx hs hp
    have hx0 := hx x (by simp)
    simp only [sumL] at hs hp
    have hr : 0 ≤ sumL r := by
      have : ∀ l : List Extent, (∀ x ∈ l, 0 ≤ x.len) → 0 ≤ sumL l := by
        intro l
        induction l with
        | nil => intro _; simp [sumL]
        | cons a l ih2 => intro h; have := ih2 (fun x hx => h x (by simp [hx])); have h1 := h a (by simp); simp [sumL]; omega
      exact this r (fun y hy => hx y (by simp [hy]))
    simp only [List.foldl_cons, sumL]
    rw [wr _ (by omega) (by omega), ih (n + x.len) (by omega) (fun y hy => hx y (by simp [hy])) (by omega) hr]
    omega
theorem count_sum {lo hi : Int} {fs : List Extent} (h : WFx lo hi fs) (hb : hi - lo ≤ 90000) : countS fs = sumL fs := by
  have := WFx_sum h
  unfold countS
  rw [count_foldl fs 0 (by omega) (fun x hx => by have := (WFx_mem h x hx).2.1; omega) (by omega) this.1]
  omega

theorem eend_eq {e : Extent} (h0 : 0 ≤ e.start) (h1 : 0 ≤ e.len) (h2 : e.start + e.len ≤ 10000) : eend e = e.start + e.len := by
  unfold eend; exact wr _ (by omega) (by omega)

/-! cutting -/
theorem cutOne_wf {lo hi : Int} (e x : Extent) (r : List Extent) (h0 : 0 ≤ lo) (hh : hi ≤ 10000) (he : eend e = e.start + e.len) (hl : 1 ≤ e.len) (h1 : lo ≤ x.start) (h2 : 1 ≤ x.len) (h3 : x.start + x.len ≤ hi) (hr : WFx (x.start + x.len) hi r) : WFx lo hi (cutOne e x ++ r) := by
  have hx : eend x = x.start + x.len := eend_eq (by omega) (by omega) (by omega)
  unfold cutOne
  split
  · exact ⟨h1, h2, hr⟩
  · rename_i hc
    simp only [not_or, Int.not_lt] at hc
    rw [hx, he] at *
    split
    · rename_i h4
      have w1 : IntKind.i64.wrap (e.start - x.start) = e.start - x.start := wr _ (by omega) (by omega)
      split
      · rename_i h5
        have w2 : IntKind.i64.wrap (x.start + x.len - (e.start + e.len)) = x.start + x.len - (e.start + e.len) := wr _ (by omega) (by omega)
        refine ⟨h1, by simp only [w1]; omega, by simp only [w1]; omega, by simp only [w2]; omega, ?_⟩
        exact WFx_mono (by simp only [w2]; omega) hr
      · refine ⟨h1, by simp only [w1]; omega, ?_⟩
        exact WFx_mono (by simp only [w1]; omega) hr
    · split
      · rename_i h5
        have w2 : IntKind.i64.wrap (x.start + x.len - (e.start + e.len)) = x.start + x.len - (e.start + e.len) := wr _ (by omega) (by omega)
        refine ⟨by simp only; omega, by simp only [w2]; omega, ?_⟩
        exact WFx_mono (by simp only [w2]; omega) hr
      · exact WFx_mono (by omega) hr
theorem cut_wf {hi : Int} (e : Extent) (hh : hi ≤ 10000) (he : eend e = e.start + e.len) (hl : 1 ≤ e.len) : ∀ {fs : List Extent} {lo : Int}, 0 ≤ lo → WFx lo hi fs → WFx lo hi (cutS e fs)
  | [], _, _, h => h
  | x :: r, lo, h0, h => by
    have h1 := h.1
    have h2 := h.2.1
    have h3 := WFx_le h.2.2
    exact cutOne_wf e x (cutS e r) h0 hh he hl h1 h2 h3 (cut_wf e hh he hl (by omega) h.2.2)
theorem sumL_app (a b : List Extent) : sumL (a ++ b) = sumL a + sumL b := by
  induction a with
  | nil => simp [sumL]
  | cons x a ih => simp [sumL, ih]; omega
theorem cut_later {hi : Int} (e : Extent) : ∀ {fs : List Extent} {lo : Int}, e.start < lo → WFx lo hi fs → cutS e fs = fs
  | [], _, _, _ => rfl
  | x :: r, lo, hlo, h => by
    have h1 := h.1
    have h2 := h.2.1
    have hc : cutOne e x = [x] := by unfold cutOne; rw [if_pos (by omega)]
    have ih : cutS e r = r := cut_later e (lo := x.start + x.len) (by omega) h.2.2
    show cutOne e x ++ cutS e r = x :: r
    rw [hc, ih]; rfl
theorem cut_sum {hi : Int} (e : Extent) (hh : hi ≤ 10000) (he : eend e = e.start + e.len) (hl : 1 ≤ e.len) : ∀ {fs : List Extent} {lo : Int}, 0 ≤ lo → WFx lo hi fs → (∃ x ∈ fs, withinB e x = true) → sumL (cutS e fs) = sumL fs - e.len
  | [], _, _, _, hw => by obtain ⟨x, hx, _⟩ := hw; cases hx
  | x :: r, lo, h0, h, hw => by
    have h1 := h.1
    have h2 := h.2.1
    have h3 := WFx_le h.2.2
    have hx : eend x = x.start + x.len := eend_eq (by omega) (by omega) (by omega)
    show sumL (cutOne e x ++ cutS e r) = x.len + sumL r - e.len
    rw [sumL_app]
    by_cases hin : withinB e x = true
    · have hin' := hin
      simp only [withinB, Bool.and_eq_true, decide_eq_true_eq, he, hx] at hin'
      rw [cut_later e (lo := x.start + x.len) (by omega) h.2.2]
      unfold cutOne
      rw [if_neg (by rw [he, hx]; omega), sumL_app, he, hx]
      have w1 : IntKind.i64.wrap (e.start - x.start) = e.start - x.start := wr _ (by omega) (by omega)
      have w2 : IntKind.i64.wrap (x.start + x.len - (e.start + e.len)) = x.start + x.len - (e.start + e.len) := wr _ (by omega) (by omega)
      rw [w1, w2]
      split <;> split <;> simp [sumL] <;> omega
    · have hc : cutOne e x = [x] := by
        unfold cutOne
        rw [if_pos]
        simp only [withinB, Bool.and_eq_true, decide_eq_true_eq] at hin
        omega
      have := cut_sum e hh he hl (fs := r) (lo := x.start + x.len) (by omega) h.2.2 (by
        obtain ⟨y, hy, hyw⟩ := hw
        rcases List.mem_cons.1 hy with rfl | hy
        · exact absurd hyw hin
        · exact ⟨y, hy, hyw⟩)
      rw [hc, this]
      simp [sumL]; omega

/-! putting -/
theorem mergeAt_succ (x : Extent) (r : List Extent) (j : Nat) : mergeAt (x :: r) (j + 1) = x :: mergeAt r j := by
  unfold mergeAt
  simp only [List.getElem?_cons_succ]
  split
  · split <;> simp
  · rfl
theorem mergeAt_nil (j : Nat) : mergeAt [] j = [] := by simp [mergeAt]
theorem mergeAt_one (x : Extent) (j : Nat) : mergeAt [x] j = [x] := by
  cases j with
  | zero => simp [mergeAt]
  | succ j => rw [mergeAt_succ, mergeAt_nil]
theorem mergeAt_two (x y : Extent) (r : List Extent) : mergeAt (x :: y :: r) 0 = if eend x = y.start then ⟨x.start, IntKind.i64.wrap (x.len + y.len)⟩ :: r else x :: y :: r := by
  simp [mergeAt]
theorem merge_wf {hi : Int} (hh : hi ≤ 10000) : ∀ {L : List Extent} {lo : Int} (j : Nat), 0 ≤ lo → WFx lo hi L → WFx lo hi (mergeAt L j)
  | [], _, j, _, h => by rw [mergeAt_nil]; exact h
  | [x], _, j, _, h => by rw [mergeAt_one]; exact h
  | x :: y :: r, lo, 0, h0, h => by
    rw [mergeAt_two]
    split
    · rename_i hc
      have h1 := h.1
      have h2 := h.2.1
      have h3 := h.2.2.1
      have h4 := h.2.2.2.1
      have h5 := h.2.2.2.2
      have h6 := WFx_le h5
      have hx : eend x = x.start + x.len := eend_eq (by omega) (by omega) (by omega)
      have w1 : IntKind.i64.wrap (x.len + y.len) = x.len + y.len := wr _ (by omega) (by omega)
      refine ⟨h1, by simp only [w1]; omega, ?_⟩
      exact WFx_mono (by simp only [w1]; omega) h5
    · exact h
  | x :: y :: r, lo, j + 1, h0, h => by
    have h1 := h.1
    have h2 := h.2.1
    rw [mergeAt_succ]
    exact ⟨h.1, h.2.1, merge_wf hh j (by omega) h.2.2⟩
theorem ins_cons (x e : Extent) (r : List Extent) : insS (x :: r) e = if x.start < e.start then x :: insS r e else e :: x :: r := by
  unfold insS pos
  by_cases h : x.start < e.start <;> simp [h]
theorem ins_wf {hi : Int} (hh : hi ≤ 10000) (e : Extent) (he : eend e = e.start + e.len) (hl : 1 ≤ e.len) (hle : e.start + e.len ≤ hi) : ∀ {fs : List Extent} {lo : Int}, 0 ≤ lo → lo ≤ e.start → WFx lo hi fs → fs.any (meetsB e) = false → WFx lo hi (insS fs e)
  | [], lo, h0, hlo, h, _ => ⟨hlo, hl, hle⟩
  | x :: r, lo, h0, hlo, h, hm => by
    have h1 := h.1
    have h2 := h.2.1
    have h3 := WFx_le h.2.2
    have hx : eend x = x.start + x.len := eend_eq (by omega) (by omega) (by omega)
    simp only [List.any_cons, Bool.or_eq_false_iff] at hm
    obtain ⟨hm1, hm2⟩ := hm
    simp only [meetsB, he, hx, Bool.and_eq_false_iff, decide_eq_false_iff_not] at hm1
    rw [ins_cons]
    split
    · exact ⟨h1, h2, ins_wf hh e he hl hle (by omega) (by omega) h.2.2 hm2⟩
    · refine ⟨hlo, hl, ?_⟩
      exact ⟨by omega, h2, h.2.2⟩
theorem put_wf {hi : Int} (hh : hi ≤ 10000) (e : Extent) (he : eend e = e.start + e.len) (hl : 1 ≤ e.len) (hle : e.start + e.len ≤ hi) {fs : List Extent} {lo : Int} (h0 : 0 ≤ lo) (hlo : lo ≤ e.start) (h : WFx lo hi fs) (hm : fs.any (meetsB e) = false) : WFx lo hi (putS fs e) := by
  have := ins_wf hh e he hl hle h0 hlo h hm
  unfold putS
  split
  · exact merge_wf hh _ h0 (merge_wf hh _ h0 this)
  · exact merge_wf hh _ h0 this

/-! allotting -/
theorem bestGo_mem (n : Int) : ∀ (l : List Extent) (b : Extent), bestGo n l b = b ∨ bestGo n l b ∈ l
  | [], b => .inl rfl
  | x :: r, b => by
    unfold bestGo
    split
    · exact .inl rfl
    · rcases bestGo_mem n r (if b.len < x.len then x else b) with h | h
      · rw [h]; split
        · exact .inr (by simp)
        · exact .inl rfl
      · exact .inr (by simp [h])
theorem best_mem (n : Int) (fs : List Extent) (h : fs ≠ []) : bestS n fs ∈ fs := by
  cases fs with
  | nil => exact absurd rfl h
  | cons b r =>
    rcases bestGo_mem n (b :: r) b with h | h
    · show bestGo n (b :: r) b ∈ b :: r
      rw [h]; simp
    · exact h
theorem got_facts {T n : Int} {fs : List Extent} (hT : T ≤ 1024) (h : WFx 0 T fs) (hn : 1 ≤ n) (hne : fs ≠ []) :
    1 ≤ (gotS n fs).len ∧ (gotS n fs).len ≤ n ∧ 0 ≤ (gotS n fs).start ∧ (gotS n fs).start + (gotS n fs).len ≤ T ∧ eend (gotS n fs) = (gotS n fs).start + (gotS n fs).len ∧ ∃ x ∈ fs, withinB (gotS n fs) x = true := by
  have hb := best_mem n fs hne
  obtain ⟨m1, m2, m3⟩ := WFx_mem h _ hb
  have hg1 : (gotS n fs).start = (bestS n fs).start := rfl
  have hg2 : (gotS n fs).len = if n < (bestS n fs).len then n else (bestS n fs).len := rfl
  have hg3 : 1 ≤ (gotS n fs).len ∧ (gotS n fs).len ≤ n ∧ (gotS n fs).len ≤ (bestS n fs).len := by rw [hg2]; split <;> omega
  have he : eend (gotS n fs) = (gotS n fs).start + (gotS n fs).len := eend_eq (by omega) (by omega) (by omega)
  have heb : eend (bestS n fs) = (bestS n fs).start + (bestS n fs).len := eend_eq (by omega) (by omega) (by omega)
  refine ⟨hg3.1, hg3.2.1, by omega, by omega, he, _, hb, ?_⟩
  simp only [withinB, he, heb, Bool.and_eq_true, decide_eq_true_eq]
  omega
theorem all_exists {T : Int} (hT : T ≤ 1024) : ∀ (k : Nat) (n : Int) (fs : List Extent), n ≤ k → WFx 0 T fs → n ≤ sumL fs → ∃ out fs', AllR n fs out fs' ∧ sumL out = (if 0 < n then n else 0) ∧ WFx 0 T fs' ∧ sumL fs' = sumL fs - (if 0 < n then n else 0) ∧ (∀ x ∈ out, 0 ≤ x.len) ∧ (out.length : Int) ≤ (if 0 < n then n else 0)
  | 0, n, fs, hk, h, hs => ⟨[], fs, AllR.done (by omega), by rw [if_neg (by omega)]; rfl, h, by rw [if_neg (by omega)]; omega, by simp, by rw [if_neg (by omega)]; simp⟩
  | k + 1, n, fs, hk, h, hs => by
    by_cases hn : 0 < n
    · have hne : fs ≠ [] := by
        intro hf; subst hf; simp [sumL] at hs; omega
      obtain ⟨g1, g2, g3, g4, g5, g6⟩ := got_facts hT h (by omega : 1 ≤ n) hne
      have hsum := WFx_sum h
      have hcs := cut_sum (gotS n fs) (by omega : T ≤ 10000) g5 g1 (by omega) h g6
      have hcw := cut_wf (gotS n fs) (by omega : T ≤ 10000) g5 g1 (by omega) h
      have hlen := WFx_len h
      obtain ⟨out, fs', a1, a2, a3, a4, a5, a6⟩ := all_exists hT k (n - (gotS n fs).len) (cutS (gotS n fs) fs) (by omega) hcw (by omega)
      have hw : IntKind.i64.wrap (n - (gotS n fs).len) = n - (gotS n fs).len := wr _ (by omega) (by omega)
      refine ⟨gotS n fs :: out, fs', AllR.step (by omega) hne (by omega) (by rw [hw]; exact a1), ?_, a3, ?_, ?_, ?_⟩
      · simp only [sumL, a2, if_pos hn]; split <;> omega
      · rw [a4, hcs, if_pos hn]; split <;> omega
      · intro x hx
        rcases List.mem_cons.1 hx with rfl | hx
        · omega
        · exact a5 x hx
      · rw [if_pos hn]; simp only [List.length_cons]; split at a6 <;> omega
    · exact ⟨[], fs, AllR.done (by omega), by rw [if_neg hn]; rfl, h, by rw [if_neg hn]; omega, by simp, by rw [if_neg hn]; simp⟩
structure ActX where
  kind : Int
  n : Int
  at_ : Extent
def actXC (a : ActX) : List A := [.s (.int .i64 a.kind), .s (.int .i64 a.n), .s (.int .i64 a.at_.start), .s (.int .i64 a.at_.len)]
@[simp] theorem actXC_len (t : ActX) : (actXC t).length = 4 := _root_.id rfl
@[simp] theorem actXC_ne (t : ActX) : (actXC t = []) = False := by simp [actXC]
@[simp] theorem actXC_ids (t : ActX) : idsL (actXC t) = [] := _root_.id rfl
@[simp] theorem actXC_pure (t : ActX) : pureL (actXC t) = true := by simp [actXC]
@[simp] theorem actXC_at (t : ActX) : cellsAt (some 4) (actXC t) 0 = some (.agg (actXC t)) := _root_.id rfl
def xa (a : ActX) : Go.Ab.Slot := .live ⟨0, 4, [actXC a]⟩
theorem new_xa (e : ActX) (h : Heap) {β : Type} (k : A → Heap → Option β) : oNew none (some 4) (.agg (actXC e)) h k = k (.ptr h.length 0 0 0) (h ++ [xa e]) := by
  simp [xa]
theorem stA {h : Heap} {id : Nat} {e : ActX} (hg : h[id]? = some (xa e)) (e' : ActX) {β : Type} (k : Heap → Option β) : oStore (some 4) (.ptr id 0 0 0) (.agg (actXC e')) h k = k (h.set id (xa e')) := by
  have : putCells (actXC e) 0 (actXC e') = actXC e' := rfl
  simp only [xa] at hg
  simp [oStore, hg, this, xa]
theorem ldA1 {h : Heap} {id : Nat} {e : ActX} (hg : h[id]? = some (xa e)) {β : Type} (k : A → Option β) : oLoad none (.ptr id 0 0 1) h k = k (.s (.int .i64 e.n)) := by
  simp only [xa] at hg
  simp [oLoad, hg, actXC, cellsAt]
theorem ldA0 {h : Heap} {id : Nat} {e : ActX} (hg : h[id]? = some (xa e)) {β : Type} (k : A → Option β) : oLoad none (.ptr id 0 0 0) h k = k (.s (.int .i64 e.kind)) := by
  simp only [xa] at hg
  simp [oLoad, hg, actXC, cellsAt]
theorem ldA2 {h : Heap} {id : Nat} {e : ActX} (hg : h[id]? = some (xa e)) {β : Type} (k : A → Option β) : oLoad (some 2) (.ptr id 0 0 2) h k = k (.agg (extentC e.at_)) := by
  have hc : cellsAt (some 2) (actXC e) 2 = some (.agg (extentC e.at_)) := rfl
  simp only [xa] at hg
  simp [oLoad, hg, hc]

section
variable {T : Int} (hT0 : 0 ≤ T) (hT : T ≤ 1024) {fs : List Extent} (hw : WFx 0 T fs)
include hT0 hT hw
theorem wf_short : fs.length < 900000 := by have := WFx_len hw; omega
theorem there_facts {e : Extent} (h : thereB T e = true) : 1 ≤ e.len ∧ 0 ≤ e.start ∧ e.start + e.len ≤ T ∧ eend e = e.start + e.len := by
  simp only [thereB, Bool.and_eq_true, decide_eq_true_eq] at h
  have := wr (T - e.len) (by omega) (by omega)
  rw [this] at h
  exact ⟨h.1, h.2.2.1, by omega, eend_eq (by omega) (by omega) (by omega)⟩
theorem alloc_any (n : Int) : ∃ x e fs1, OpSpec extent_Map_Alloc [.s (.int .i64 n)] T fs [] (.tup [.agg (extentC x), .s (.int .i64 e)]) fs1 [] ∧ WFx 0 T fs1 := by
  by_cases h1 : n < 1
  · exact ⟨_, _, _, alloc_lt1 T fs [] n h1, hw⟩
  · by_cases h2 : fs = []
    · subst h2; exact ⟨_, _, _, alloc_nil T [] n (by omega), hw⟩
    · obtain ⟨g1, g2, g3, g4, g5, g6⟩ := got_facts hT hw (by omega : 1 ≤ n) h2
      exact ⟨_, _, _, alloc_ok T fs [] n (by omega) h2 (wf_short hT0 hT hw), cut_wf _ (by omega) g5 g1 (by omega) hw⟩
theorem free_any (e : Extent) : ∃ r fs1, OpSpec extent_Map_Free [.agg (extentC e)] T fs [] (.s (.int .i64 r)) fs1 [] ∧ WFx 0 T fs1 := by
  cases h : takenB T fs [] e with
  | false => exact ⟨_, _, free_no T fs [] e (wf_short hT0 hT hw) (by simp) h, hw⟩
  | true =>
    have h' := h
    simp only [takenB, Bool.and_eq_true, Bool.not_eq_true'] at h'
    obtain ⟨f1, f2, f3, f4⟩ := there_facts hT0 hT hw h'.1
    exact ⟨_, _, free_ok T fs [] e (wf_short hT0 hT hw) (by simp) h, put_wf (by omega) e f4 f1 f3 (by omega) f2 hw h'.2.1⟩
theorem take_any (e : Extent) : ∃ r fs1, OpSpec extent_Map_Take [.agg (extentC e)] T fs [] (.s (.int .i64 r)) fs1 [] ∧ WFx 0 T fs1 := by
  cases h : (thereB T e && fs.any (withinB e)) with
  | false => exact ⟨_, _, take_no T fs [] e (wf_short hT0 hT hw) h, hw⟩
  | true =>
    have h' := h
    simp only [Bool.and_eq_true] at h'
    obtain ⟨f1, f2, f3, f4⟩ := there_facts hT0 hT hw h'.1
    exact ⟨_, _, take_ok T fs [] e (wf_short hT0 hT hw) h, cut_wf _ (by omega) f4 f1 (by omega) hw⟩
end

theorem newF_wf (T : Int) (h : 0 ≤ T) : WFx 0 T (newF T) := by
  unfold newF
  split
  · exact ⟨Int.le_refl 0, by simp only; omega, by show (0 : Int) + T ≤ T; omega⟩
  · exact h

end Go.Ab.T
