import Derived.Test.YtbaknldomnoeiaaRTRoomA
/-
  EXTENTS: which sectors the lists of a map have, and how often.
-/
set_option linter.unusedSimpArgs false
set_option linter.unusedVariables false
namespace Go.Ab.T
open Go Go.Ab Go.Ab.F

def inE (i : Int) (e : Extent) : Bool := decide (e.start ≤ i) && decide (i < e.start + e.len)
def c1 (i : Int) (e : Extent) : Nat := if inE i e then 1 else 0
def cov (i : Int) : List Extent → Nat
  | [] => 0
  | e :: r => c1 i e + cov i r
theorem cov_app (i : Int) (a b : List Extent) : cov i (a ++ b) = cov i a + cov i b := by
  induction a with
  | nil => simp [cov]
  | cons x a ih => simp [cov, ih]; omega
theorem cov_mem {i : Int} {x : Extent} {l : List Extent} (hx : x ∈ l) (h : inE i x = true) : 1 ≤ cov i l := by
  induction l with
  | nil => cases hx
  | cons y l ih =>
    rcases List.mem_cons.1 hx with rfl | hx
    · simp [cov, c1, h]
    · have := ih hx; simp [cov]; omega
theorem c1_out {i : Int} {e : Extent} (h : i < e.start ∨ e.start + e.len ≤ i) : c1 i e = 0 := by
  unfold c1 inE
  rw [if_neg]
  simp only [Bool.and_eq_true, decide_eq_true_eq]
  omega
theorem c1_in {i : Int} {e : Extent} (h1 : e.start ≤ i) (h2 : i < e.start + e.len) : c1 i e = 1 := by
  unfold c1 inE
  rw [if_pos]
  simp only [Bool.and_eq_true, decide_eq_true_eq]
  omega

theorem cov_cut {hi : Int} (i : Int) (e : Extent) (hh : hi ≤ 10000) (he : eend e = e.start + e.len) (hl : 1 ≤ e.len) : ∀ {fs : List Extent} {lo : Int}, 0 ≤ lo → WFx lo hi fs → (∃ x ∈ fs, withinB e x = true) → cov i (cutS e fs) + c1 i e = cov i fs
  | [], _, _, _, hw => by obtain ⟨x, hx, _⟩ := hw; cases hx
  | x :: r, lo, h0, h, hw => by
    have h1 := h.1
    have h2 := h.2.1
    have h3 := WFx_le h.2.2
    have hx : eend x = x.start + x.len := eend_eq (by omega) (by omega) (by omega)
    show cov i (cutOne e x ++ cutS e r) + c1 i e = c1 i x + cov i r
    rw [cov_app]
    by_cases hin : withinB e x = true
    · have hin' := hin
      simp only [withinB, Bool.and_eq_true, decide_eq_true_eq, he, hx] at hin'
      rw [cut_later e (lo := x.start + x.len) (by omega) h.2.2]
      unfold cutOne
      rw [if_neg (by rw [he, hx]; omega), cov_app, he, hx]
      have w1 : IntKind.i64.wrap (e.start - x.start) = e.start - x.start := wr _ (by omega) (by omega)
      have w2 : IntKind.i64.wrap (x.start + x.len - (e.start + e.len)) = x.start + x.len - (e.start + e.len) := wr _ (by omega) (by omega)
      rw [w1, w2]
      by_cases ca : x.start < e.start <;> by_cases cb : e.start + e.len < x.start + x.len <;> simp only [ca, cb, if_true, if_false, cov] <;> simp only [c1, inE, Bool.and_eq_true, decide_eq_true_eq] <;> (repeat' split) <;> omega
    · have hc : cutOne e x = [x] := by
        unfold cutOne
        rw [if_pos]
        simp only [withinB, Bool.and_eq_true, decide_eq_true_eq] at hin
        omega
      have := cov_cut i e hh he hl (fs := r) (lo := x.start + x.len) (by omega) h.2.2 (by
        obtain ⟨y, hy, hyw⟩ := hw
        rcases List.mem_cons.1 hy with rfl | hy
        · exact absurd hyw hin
        · exact ⟨y, hy, hyw⟩)
      rw [hc]
      simp only [cov]; omega

theorem cov_ins (i : Int) (e : Extent) : ∀ fs : List Extent, cov i (insS fs e) = cov i fs + c1 i e
  | [] => by simp [insS, pos, cov]
  | x :: r => by
    rw [ins_cons]
    split
    · simp only [cov, cov_ins i e r]; omega
    · simp only [cov]; omega
theorem sum_ins (e : Extent) : ∀ fs : List Extent, sumL (insS fs e) = sumL fs + e.len
  | [] => by simp [insS, pos, sumL]
  | x :: r => by
    rw [ins_cons]
    split
    · simp only [sumL, sum_ins e r]; omega
    · simp only [sumL]; omega
theorem merge_same {hi : Int} (hh : hi ≤ 10000) (i : Int) : ∀ {L : List Extent} {lo : Int} (j : Nat), 0 ≤ lo → WFx lo hi L → cov i (mergeAt L j) = cov i L ∧ sumL (mergeAt L j) = sumL L
  | [], _, j, _, h => by rw [mergeAt_nil]; exact ⟨rfl, rfl⟩
  | [x], _, j, _, h => by rw [mergeAt_one]; exact ⟨rfl, rfl⟩
  | x :: y :: r, lo, 0, h0, h => by
    rw [mergeAt_two]
    split
    · rename_i hc
      have h1 := h.1
      have h2 := h.2.1
      have h3 := h.2.2.1
      have h4 := h.2.2.2.1
      have h5 := h.2.2.2.2
      have h6 := WFx_le h5
      have hx : eend x = x.start + x.len := eend_eq (by omega) (by omega) (by omega)
      have w1 : IntKind.i64.wrap (x.len + y.len) = x.len + y.len := wr _ (by omega) (by omega)
      rw [hx] at hc
      simp only [cov, sumL, w1]
      constructor
      · simp only [c1, inE, Bool.and_eq_true, decide_eq_true_eq]
        (repeat' split) <;> omega
      · omega
    · exact ⟨rfl, rfl⟩
  | x :: y :: r, lo, j + 1, h0, h => by
    have h1 := h.1
    have h2 := h.2.1
    rw [mergeAt_succ]
    have := merge_same hh i j (by omega) h.2.2
    exact ⟨by simp only [cov] at this ⊢; omega, by simp only [sumL] at this ⊢; omega⟩
theorem put_same {hi : Int} (hh : hi ≤ 10000) (i : Int) (e : Extent) (he : eend e = e.start + e.len) (hl : 1 ≤ e.len) (hle : e.start + e.len ≤ hi) {fs : List Extent} {lo : Int} (h0 : 0 ≤ lo) (hlo : lo ≤ e.start) (h : WFx lo hi fs) (hm : fs.any (meetsB e) = false) :
    cov i (putS fs e) = cov i fs + c1 i e ∧ sumL (putS fs e) = sumL fs + e.len := by
  have h1 := ins_wf hh e he hl hle h0 hlo h hm
  have h2 := cov_ins i e fs
  have h3 := sum_ins e fs
  unfold putS
  split
  · have m1 := merge_same hh i (pos fs e) h0 h1
    have m2 := merge_same hh i (pos fs e - 1) h0 (merge_wf hh (pos fs e) h0 h1)
    omega
  · have m1 := merge_same hh i (pos fs e) h0 h1
    omega

/-- Nothing is there twice. -/
def okE (T : Int) (e : Extent) : Prop := 1 ≤ e.len ∧ 0 ≤ e.start ∧ e.start + e.len ≤ T
theorem okE_end {T : Int} (hT : T ≤ 1024) {e : Extent} (h : okE T e) : eend e = e.start + e.len := by
  obtain ⟨a, b, c⟩ := h
  exact eend_eq (by omega) (by omega) (by omega)
theorem okE_there {T : Int} (hT : T ≤ 1024) {e : Extent} (h : okE T e) : thereB T e = true := by
  obtain ⟨a, b, c⟩ := h
  have := wr (T - e.len) (by omega) (by omega)
  simp only [thereB, this, Bool.and_eq_true, decide_eq_true_eq]
  omega
theorem no_meet {T : Int} (hT : T ≤ 1024) {e : Extent} (h : okE T e) {fs : List Extent} (hw : WFx 0 T fs) (hc : ∀ i, 0 ≤ i → i < T → cov i fs + c1 i e ≤ 1) : fs.any (meetsB e) = false := by
  rw [List.any_eq_false]
  intro y hy hm
  obtain ⟨a, b, c⟩ := h
  obtain ⟨m1, m2, m3⟩ := WFx_mem hw y hy
  have he : eend e = e.start + e.len := eend_eq (by omega) (by omega) (by omega)
  have hye : eend y = y.start + y.len := eend_eq (by omega) (by omega) (by omega)
  simp only [meetsB, he, hye, Bool.and_eq_true, decide_eq_true_eq] at hm
  by_cases hle : e.start ≤ y.start
  · have h1 := hc y.start (by omega) (by omega)
    have h2 : c1 y.start e = 1 := c1_in (by omega) (by omega)
    have h3 : 1 ≤ cov y.start fs := cov_mem hy (by simp [inE]; omega)
    omega
  · have h1 := hc e.start (by omega) (by omega)
    have h2 : c1 e.start e = 1 := c1_in (by omega) (by omega)
    have h3 : 1 ≤ cov e.start fs := cov_mem hy (by simp [inE]; omega)
    omega

/-- What waited is free. -/
theorem commit_facts {T : Int} (hT : T ≤ 1024) : ∀ {ls fs : List Extent}, WFx 0 T fs → (∀ e ∈ ls, okE T e) → (∀ i, 0 ≤ i → i < T → cov i fs + cov i ls ≤ 1) → WFx 0 T (ls.foldl putS fs) ∧ (∀ i, 0 ≤ i → i < T → cov i (ls.foldl putS fs) = cov i fs + cov i ls) ∧ sumL (ls.foldl putS fs) = sumL fs + sumL ls
  | [], fs, h, _, _ => ⟨h, fun i _ _ => by simp [cov], by simp [sumL]⟩
  | e :: ls, fs, h, ho, hc => by
    have oe := ho e (by simp)
    have he := okE_end hT oe
    have hm := no_meet hT oe h (fun i h0 h1 => by have := hc i h0 h1; simp only [cov] at this; omega)
    have hp := put_wf (by omega : T ≤ 10000) e he oe.1 oe.2.2 (by omega) oe.2.1 h hm
    have hs := fun i => put_same (by omega : T ≤ 10000) i e he oe.1 oe.2.2 (by omega) oe.2.1 h hm
    obtain ⟨r1, r2, r3⟩ := commit_facts hT (ls := ls) hp (fun x hx => ho x (by simp [hx])) (fun i h0 h1 => by have := hc i h0 h1; rw [(hs i).1]; simp only [cov] at this; omega)
    refine ⟨r1, fun i h0 h1 => ?_, ?_⟩
    · show cov i (ls.foldl putS (putS fs e)) = _
      rw [r2 i h0 h1, (hs i).1]; simp only [cov]; omega
    · show sumL (ls.foldl putS (putS fs e)) = _
      rw [r3, (hs 0).2]; simp only [sumL]; omega

/-- What is asked for, all of it. -/
theorem all_facts {T : Int} (hT : T ≤ 1024) {n : Int} {fs out fs' : List Extent} (h : AllR n fs out fs') : WFx 0 T fs → n ≤ sumL fs → WFx 0 T fs' ∧ (∀ x ∈ out, okE T x) ∧ (∀ i, cov i fs' + cov i out = cov i fs) ∧ sumL fs' + sumL out = sumL fs ∧ sumL out = (if 0 < n then n else 0) := by
  induction h with
  | done h => intro hw hs; exact ⟨hw, by simp, fun i => by simp [cov], by simp [sumL], by rw [if_neg (by omega)]; rfl⟩
  | @step n fs out fs' h1 h2 h3 _ ih =>
    intro hw hs
    obtain ⟨g1, g2, g3, g4, g5, g6⟩ := got_facts hT hw h1 h2
    have hsum := WFx_sum hw
    have hwr : IntKind.i64.wrap (n - (gotS n fs).len) = n - (gotS n fs).len := wr _ (by omega) (by omega)
    rw [hwr] at ih
    have cw := cut_wf (gotS n fs) (by omega : T ≤ 10000) g5 g1 (by omega) hw
    have cs := cut_sum (gotS n fs) (by omega : T ≤ 10000) g5 g1 (by omega) hw g6
    have cc := fun i => cov_cut i (gotS n fs) (by omega : T ≤ 10000) g5 g1 (by omega) hw g6
    obtain ⟨r1, r2, r3, r4, r5⟩ := ih cw (by omega)
    refine ⟨r1, ?_, fun i => ?_, ?_, ?_⟩
    · intro x hx
      rcases List.mem_cons.1 hx with rfl | hx
      · exact ⟨g1, g3, g4⟩
      · exact r2 x hx
    · have := r3 i; have := cc i; simp only [cov]; omega
    · simp only [sumL]; omega
    · simp only [sumL, r5]; rw [if_pos (by omega : 0 < n)]; split <;> omega
end Go.Ab.T

/-
  EXTENTS: how often each sector is there, counted.
-/
set_option linter.unusedSimpArgs false
set_option linter.unusedVariables false
namespace Go.Ab.T
open Go Go.Ab Go.Ab.F

/-- One count for each sector. -/
def arr (f : Nat → Nat) : List A := (List.range 1024).map fun i => .s (.int .u8 (f i))
theorem arr_len (f : Nat → Nat) : (arr f).length = 1024 := by simp [arr]
theorem arr_get (f : Nat → Nat) (i : Nat) (h : i < 1024) : (arr f)[i]? = some (.s (.int .u8 (f i))) := by simp [arr, h]
theorem arr_zero : List.replicate 1024 (A.s (.int .u8 0)) = arr fun _ => 0 := by
  apply List.ext_getElem?
  intro i
  rw [List.getElem?_replicate]
  split
  · rename_i h; rw [arr_get _ i h]; rfl
  · rename_i h; rw [List.getElem?_eq_none (by rw [arr_len]; omega)]
theorem arr_put (f : Nat → Nat) (i n : Nat) (h : i < 1024) : putCells (arr f) i [.s (.int .u8 n)] = arr fun j => if j = i then n else f j := by
  have hp : putCells (arr f) i [.s (.int .u8 n)] = (arr f).set i (.s (.int .u8 n)) := by
    rw [List.set_eq_take_append_cons_drop, if_pos (by rw [arr_len]; exact h)]
    simp [putCells]
  rw [hp]
  apply List.ext_getElem?
  intro j
  by_cases hj : j < 1024
  · rw [arr_get _ j hj]
    by_cases hji : i = j
    · subst hji
      rw [List.getElem?_set_self (by rw [arr_len]; exact h)]; simp
    · rw [List.getElem?_set_ne hji, arr_get _ j hj, if_neg (Ne.symm hji)]
  · rw [List.getElem?_eq_none (by rw [List.length_set, arr_len]; omega), List.getElem?_eq_none (by rw [arr_len]; omega)]
theorem arr_ids (f : Nat → Nat) : idsL (arr f) = [] := by
  unfold arr
  induction (List.range 1024) with
  | nil => rfl
  | cons a l ih => simp [ih]
def cS (f : Nat → Nat) : Go.Ab.Slot := .live ⟨0, 1024, [arr f]⟩
theorem cS_flat (f : Nat → Nat) : flatS (cS f) = true := by simp [cS, flatS, arr_ids]
theorem new_arr (f : Nat → Nat) (h : Heap) {β : Type} (k : A → Heap → Option β) : oNew none (some 1024) (.agg (arr f)) h k = k (.ptr h.length 0 0 0) (h ++ [cS f]) := by
  have hne : arr f ≠ [] := by intro h; have := arr_len f; rw [h] at this; simp at this
  simp [oNew, asCells, arr_len, hne, cS]
theorem st_arr {h : Heap} {id : Nat} {f : Nat → Nat} (hg : h[id]? = some (cS f)) (g : Nat → Nat) {β : Type} (k : Heap → Option β) : oStore (some 1024) (.ptr id 0 0 0) (.agg (arr g)) h k = k (h.set id (cS g)) := by
  have hp : putCells (arr f) 0 (arr g) = arr g := by simp [putCells, arr_len, List.drop_eq_nil_of_le]
  simp only [cS] at hg
  simp [oStore, hg, asCells, arr_len, hp, cS]
theorem ld_arr {h : Heap} {id i : Nat} {f : Nat → Nat} (hg : h[id]? = some (cS f)) (hi : i < 1024) {β : Type} (k : A → Option β) : oLoad none (.ptr id 0 0 i) h k = k (.s (.int .u8 (f i))) := by
  simp only [cS] at hg
  simp [oLoad, hg, cellsAt, arr_get f i hi]
theorem st_arr1 {h : Heap} {id i : Nat} {f : Nat → Nat} (hg : h[id]? = some (cS f)) (hi : i < 1024) (n : Nat) {β : Type} (k : Heap → Option β) : oStore none (.ptr id 0 0 i) (.s (.int .u8 n)) h k = k (h.set id (cS fun j => if j = i then n else f j)) := by
  simp only [cS] at hg
  simp [oStore, hg, arr_len, arr_put f i n hi, cS]; omega

/-- Some rows more, behind those of a list that is no map's. -/
theorem app_rows {H : Heap} {L v : Nat} {out M : List Extent} {src : A} (hk : H[L]? = some (.live ⟨v, 2, out.map extentC⟩)) (hs : rowsOf 2 src H = some (M.map extentC)) (ok : out.length + M.length < 1000000) {β : Type} (k : A → Heap → Option β) :
    oAppend none 2 16 (.osl L v 2 0 out.length) src H k = k (.osl L (v + 1) 2 0 (out ++ M).length) (H.set L (.live ⟨v + 1, 2, (out ++ M).map extentC⟩)) := by
  have hap : appendOk (out.length + M.length) 16 := by constructor <;> omega
  rw [oAppend_osl, hs]
  simp [hk, hap, List.take_of_length_le]
theorem rows_own {H : Heap} {L v n : Nat} {out : List Extent} (hk : H[L]? = some (.live ⟨v, 2, out.map extentC⟩)) (hn : n = out.length) : rowsOf 2 (.osl L v 2 0 n) H = some (out.map extentC) := by
  subst hn
  simp [hk, List.take_of_length_le]

/-! the count of one extent -/
def addC (f : Nat → Nat) (a : Int) (k : Nat) : Nat → Nat := fun i => f i + if a ≤ (i : Int) ∧ (i : Int) < a + k then 1 else 0
theorem addC_zero (f : Nat → Nat) (a : Int) : addC f a 0 = f := by
  funext i
  simp only [addC]
  rw [if_neg (by omega)]; rfl
theorem addC_succ (f : Nat → Nat) (a : Nat) (k : Nat) : (fun j => if j = a + k then f (a + k) + 1 else addC f a k j) = addC f a (k + 1) := by
  funext j
  simp only [addC]
  by_cases h : j = a + k
  · subst h; rw [if_pos rfl, if_pos (by omega)]
  · rw [if_neg h]
    by_cases h2 : (a : Int) ≤ (j : Int) ∧ (j : Int) < (a : Int) + (k : Nat)
    · rw [if_pos h2, if_pos (by omega)]
    · rw [if_neg h2, if_neg (by omega)]
theorem addC_all (f : Nat → Nat) (x : Extent) (h : 0 ≤ x.len) : addC f x.start x.len.toNat = fun i => f i + c1 (i : Int) x := by
  funext i
  simp only [addC, c1, inE, Bool.and_eq_true, decide_eq_true_eq]
  have : ((x.len.toNat : Nat) : Int) = x.len := Int.toNat_of_nonneg h
  rw [this]

theorem count_loop {h : Heap} {all : Go.Ab.Slot} (s0 : Nat) (hs : s0 ≤ 100000) (f : Nat → Nat) (x : Extent) {T : Int} (hT : T ≤ 1024) (ox : okE T x) (hf : ∀ i : Nat, (i : Int) < T → f i + c1 (i : Int) x ≤ 1) (k : Ex → List A → Heap → Option ((List A × Heap) ⊕ (Ex × List A × Heap))) :
    oLoop (law07_ExtentApart_l7 (.ptr (h.length + 4) 0 0 0) (.ptr h.length 0 0 0) (h ++ [cS f, all, .dead, .dead, xs x])) ([.s (.int .i64 s0), .s (.int .i64 x.start)], h ++ [cS f, all, .dead, .dead, xs x]) k =
      k (.exit 7) [.s (.int .i64 (s0 + x.len.toNat : Nat))] (h ++ [cS (fun i => f i + c1 (i : Int) x), all, .dead, .dead, xs x]) := by
  obtain ⟨o1, o2, o3⟩ := ox
  have g0 : ∀ (f : Nat → Nat), (h ++ [cS f, all, .dead, .dead, xs x])[h.length]? = some (cS f) := fun f => at1 h _ _
  have g4 : ∀ (f : Nat → Nat), (h ++ [cS f, all, .dead, .dead, xs x])[h.length + 4]? = some (xs x) := fun f => by
    rw [List.getElem?_append_right (by omega), show h.length + 4 - h.length = 4 by omega]; rfl
  have hes : ∀ (f : Nat → Nat) {β : Type} (k : A → Option β), oLoad none (.ptr (h.length + 4) 0 0 0) (h ++ [cS f, all, .dead, .dead, xs x]) k = k (.s (.int .i64 x.start)) := fun f {β} k => by
    have := g4 f
    simp only [xs] at this ⊢
    simp [oLoad, this]
  have hel : ∀ (f : Nat → Nat) {β : Type} (k : A → Option β), oLoad none (.ptr (h.length + 4) 0 0 1) (h ++ [cS f, all, .dead, .dead, xs x]) k = k (.s (.int .i64 x.len)) := fun f {β} k => ldLen (g4 f) k
  have hend : IntKind.i64.wrap (x.start + x.len) = x.start + x.len := wr _ (by omega) (by omega)
  have hTs : ∀ (g : Nat → Nat) (vs : List A), trim true (h.length + 5) vs (h ++ [cS g, all, .dead, .dead, xs x]) = some (vs, h ++ [cS g, all, .dead, .dead, xs x]) := fun g vs => trim_self _ _ _ _ (by simp)
  obtain ⟨a, ha⟩ : ∃ a : Nat, x.start = a := ⟨x.start.toNat, by omega⟩
  obtain ⟨l, hlen⟩ : ∃ l : Nat, x.len = l := ⟨x.len.toNat, by omega⟩
  obtain ⟨Q, rfl, hq⟩ := oLoop_inv' (step := law07_ExtentApart_l7 (.ptr (h.length + 4) 0 0 0) (.ptr h.length 0 0 0) (h ++ [cS f, all, .dead, .dead, xs x])) (s0 := ([.s (.int .i64 s0), .s (.int .i64 x.start)], h ++ [cS f, all, .dead, .dead, xs x]))
    (fun i s => s = ([.s (.int .i64 (s0 + i : Nat)), .s (.int .i64 (a + i : Nat))], h ++ [cS (addC f a i), all, .dead, .dead, xs x]))
    (fun Q => Q = (.exit 7, [.s (.int .i64 (s0 + x.len.toNat : Nat))], h ++ [cS (fun i => f i + c1 (i : Int) x), all, .dead, .dead, xs x])) l (by rw [addC_zero, ha]; simp) (by omega)
    (by
      rintro i s hi rfl
      left
      have hia : a + i < 1024 := by omega
      have hc : f (a + i) = 0 := by
        have h1 := hf (a + i) (by omega)
        have h2 : c1 ((a + i : Nat) : Int) x = 1 := c1_in (by omega) (by omega)
        omega
      have hv : addC f a i (a + i) = 0 := by simp only [addC, hc]; rw [if_neg (by omega)]
      have e1 := fun (k : A → Option ((List A × Heap) ⊕ (Ex × List A × Heap))) => ld_arr (g0 (addC f a i)) hia k
      have e2 := fun (k : Heap → Option ((List A × Heap) ⊕ (Ex × List A × Heap))) => st_arr1 (g0 (addC f a i)) hia 1 k
      have hsucc := addC_succ f a i
      rw [hc, Nat.zero_add] at hsucc
      rw [set1, hsucc] at e2
      rw [hv] at e1
      refine ⟨([.s (.int .i64 (s0 + (i + 1) : Nat)), .s (.int .i64 (a + (i + 1) : Nat))], h ++ [cS (addC f a (i + 1)), all, .dead, .dead, xs x]), ?_, rfl⟩
      have q1 : ((a : Int) + i < x.start + x.len) := by omega
      have q2 : (0 : Int) ≤ (a : Int) + i ∧ (a : Int) + i < 1024 := by omega
      have q3 : ((a : Int) + i).toNat = a + i := by omega
      have w1 : IntKind.i64.wrap ((s0 : Int) + i + 1) = (s0 : Int) + (i + 1) := by rw [wrap64_id (by omega) (by omega)]; omega
      have w2 : IntKind.i64.wrap ((a : Int) + i + 1) = (a : Int) + (i + 1) := by rw [wrap64_id (by omega) (by omega)]; omega
      have w3 : IntKind.u8.wrap 1 = 1 := by decide
      simp only [Int.natCast_add, Int.cast_ofNat_Int] at e1 e2 ⊢
      simp [-oLoad_ptr, -oStore_ptr, law07_ExtentApart_l7, hes, hel, hend, q1, q2, q3, e1, e2, w1, w2, w3, hTs]
      )
    (by
      rintro s rfl
      refine ⟨_, ?_, rfl⟩
      have q1 : ¬ ((a : Int) + l < x.start + x.len) := by omega
      have hfin : addC f a l = fun i => f i + c1 (i : Int) x := by
        have := addC_all f x (by omega)
        rw [ha, hlen] at this
        exact this
      have hl2 : x.len.toNat = l := by omega
      rw [hl2, ← hfin]
      simp only [Int.natCast_add] 
      simp [-oLoad_ptr, -oStore_ptr, law07_ExtentApart_l7, hes, hel, hend, q1, hTs])
  exact hq k
end Go.Ab.T

/-
  EXTENTS: all lists together have each sector once: the check behind each act.
-/
set_option linter.unusedSimpArgs false
set_option linter.unusedVariables false
namespace Go.Ab.T
open Go Go.Ab Go.Ab.F

structure Inv (T : Int) (had fs ls : List Extent) : Prop where
  f : WFx 0 T fs
  l : WFx 0 T ls
  h : ∀ x ∈ had, okE T x
  c : ∀ i, 0 ≤ i → i < T → cov i had + cov i fs + cov i ls = 1
  s : sumL had + sumL fs + sumL ls = T

theorem okE_mem {T : Int} {fs : List Extent} (h : WFx 0 T fs) : ∀ x ∈ fs, okE T x := fun x hx => by
  obtain ⟨a, b, c⟩ := WFx_mem h x hx
  exact ⟨b, a, c⟩
theorem Inv.all {T : Int} {had fs ls : List Extent} (i : Inv T had fs ls) : ∀ x ∈ had ++ fs ++ ls, okE T x := by
  intro x hx
  simp only [List.mem_append] at hx
  rcases hx with (hx | hx) | hx
  · exact i.h x hx
  · exact okE_mem i.f x hx
  · exact okE_mem i.l x hx
theorem len_sum {T : Int} : ∀ {M : List Extent}, (∀ x ∈ M, okE T x) → (M.length : Int) ≤ sumL M
  | [], _ => by simp [sumL]
  | x :: M, h => by
    have h1 := len_sum (fun y hy => h y (List.mem_cons_of_mem _ hy))
    have h2 := (h x (by simp)).1
    simp [sumL]; omega
theorem Inv.sum {T : Int} {had fs ls : List Extent} (i : Inv T had fs ls) : sumL (had ++ fs ++ ls) = T := by
  rw [sumL_app, sumL_app]; exact i.s
theorem Inv.len {T : Int} {had fs ls : List Extent} (i : Inv T had fs ls) : ((had ++ fs ++ ls).length : Int) ≤ T := by
  have := len_sum i.all; rw [i.sum] at this; exact this
theorem Inv.short {T : Int} (hT : T ≤ 1024) {had fs ls : List Extent} (i : Inv T had fs ls) : had.length ≤ 1024 ∧ fs.length ≤ 1024 ∧ ls.length ≤ 1024 := by
  have := i.len
  simp only [List.length_append] at this
  omega

def sumN : List Extent → Nat
  | [] => 0
  | x :: r => x.len.toNat + sumN r
theorem sumN_eq {T : Int} : ∀ {M : List Extent}, (∀ x ∈ M, okE T x) → (sumN M : Int) = sumL M
  | [], _ => rfl
  | x :: M, h => by
    have h1 := sumN_eq (fun y hy => h y (List.mem_cons_of_mem _ hy))
    have h2 := (h x (by simp)).1
    simp only [sumN, sumL]; omega
theorem sumN_app (a b : List Extent) : sumN (a ++ b) = sumN a + sumN b := by
  induction a with
  | nil => simp [sumN]
  | cons x a ih => simp [sumN, ih]; omega
theorem sumN_take (M : List Extent) (i : Nat) : sumN (M.take i) ≤ sumN M := by
  conv => rhs; rw [← List.take_append_drop i M, sumN_app]
  omega
theorem take_succ_eq {M : List Extent} {i : Nat} {x : Extent} (hx : M[i]? = some x) : M.take (i + 1) = M.take i ++ [x] := by
  rw [List.take_add_one, hx]; rfl
theorem cov_take (j : Int) {M : List Extent} {i : Nat} {x : Extent} (hx : M[i]? = some x) : cov j (M.take (i + 1)) = cov j (M.take i) + c1 j x := by
  rw [take_succ_eq hx, cov_app]; simp [cov]
theorem sumN_succ {M : List Extent} {i : Nat} {x : Extent} (hx : M[i]? = some x) : sumN (M.take (i + 1)) = sumN (M.take i) + x.len.toNat := by
  rw [take_succ_eq hx, sumN_app]; simp [sumN]
theorem cov_take_le (j : Int) (M : List Extent) (i : Nat) : cov j (M.take i) ≤ cov j M := by
  conv => rhs; rw [← List.take_append_drop i M, cov_app]
  omega

def allS (M : List Extent) : Go.Ab.Slot := .live ⟨3, 2, M.map extentC⟩
def kh (h : Heap) (f : Nat → Nat) (M : List Extent) : Heap := h ++ [cS f, allS M, .dead, .dead]
theorem kh_flat (f : Nat → Nat) (M : List Extent) : ∀ s ∈ [cS f, allS M, Go.Ab.Slot.dead, .dead], flatS s = true := by
  intro s hs
  simp at hs
  rcases hs with rfl | rfl | rfl
  · exact cS_flat f
  · exact ext_flat 3 M
  · rfl
theorem kh_map {h : Heap} {X : List Nat} {T : Int} {fs ls : List Extent} {p q : Option (Nat × Nat)} (hM : MapP h 0 X T fs ls p q) (f : Nat → Nat) (M : List Extent) : MapP (kh h f M) 0 X T fs ls p q := by
  have := mapP_app hM [cS f, allS M, .dead, .dead] [] (by simp)
  exact mapP_sub this (by simp)
theorem kh_wh {h : Heap} (hW : WH 0 h) (f : Nat → Nat) (M : List Extent) : WH 0 (kh h f M) := wh_app hW _ (kh_flat f M)
theorem kh_len (h : Heap) (f : Nat → Nat) (M : List Extent) : (kh h f M).length = h.length + 4 := by simp [kh]
theorem kh_c (h : Heap) (f : Nat → Nat) (M : List Extent) : (kh h f M)[h.length]? = some (cS f) := at1 h _ _
theorem kh_m (h : Heap) (f : Nat → Nat) (M : List Extent) : (kh h f M)[h.length + 1]? = some (allS M) := at2 h _ _ _

theorem ldRow {H : Heap} {id v : Nat} {M : List Extent} (hg : H[id]? = some (.live ⟨v, 2, M.map extentC⟩)) {i : Nat} {x : Extent} (hx : M[i]? = some x) {β : Type} (k : A → Option β) : oLoad (some 2) (.ptr id v i 0) H k = k (.agg (extentC x)) := by
  have hc : cellsAt (some 2) (extentC x) 0 = some (.agg (extentC x)) := rfl
  simp [oLoad, hg, hx, hc]

theorem check_loop {h : Heap} {X : List Nat} {T : Int} {fs ls M : List Extent} {p q : Option (Nat × Nat)} (hM : MapP h 0 X T fs ls p q) (hW : WH 0 h) (hT : T ≤ 1024) (ok : ∀ x ∈ M, okE T x) (hc : ∀ i : Nat, (i : Int) < T → cov i M ≤ 1) (hs : sumL M = T) (k : Ex → List A → Heap → Option (Ex × List A × Heap)) :
    oLoop (law07_ExtentApart_l10 (.s (.int .i64 M.length)) (.osl (h.length + 1) 3 2 0 M.length) (.s (.int .i64 T)) (kh h (fun _ => 0) M) (.ptr h.length 0 0 0)) ([.s (.int .i64 0), .s (.int .i64 0)], kh h (fun _ => 0) M) k =
      k (.exit 5) [.any, .s (.int .i64 T)] (kh h (fun i => cov i M) M) := by
  have hlen := len_sum ok
  have hN := sumN_eq ok
  obtain ⟨Q, rfl, hq⟩ := oLoop_inv' (step := law07_ExtentApart_l10 (.s (.int .i64 M.length)) (.osl (h.length + 1) 3 2 0 M.length) (.s (.int .i64 T)) (kh h (fun _ => 0) M) (.ptr h.length 0 0 0)) (s0 := ([.s (.int .i64 0), .s (.int .i64 0)], kh h (fun _ => 0) M))
    (fun i s => s = ([.s (.int .i64 (sumN (M.take i) : Nat)), .s (.int .i64 i)], kh h (fun j => cov j (M.take i)) M))
    (fun Q => Q = (.exit 5, [.any, .s (.int .i64 T)], kh h (fun i => cov i M) M)) M.length rfl (by omega)
    (by
      rintro i s hi rfl
      left
      have hx : M[i]? = some M[i] := List.getElem?_eq_getElem hi
      have ox : okE T M[i] := ok _ (List.getElem_mem hi)
      generalize M[i] = x at hx ox
      have hwi := wrap_succ hi (by omega)
      have hle := sumN_take M i
      have hle2 := sumN_take M (i + 1)
      have hsuc := sumN_succ hx
      have hrow := fun (f : Nat → Nat) (k : A → Option ((List A × Heap) ⊕ (Ex × List A × Heap))) => ldRow (kh_m h f M) hx k
      have hz : [A.s (.int .i64 0), .s (.int .i64 0)] = extentC ⟨0, 0⟩ := rfl
      have hNe := fun (f : Nat → Nat) (k : A → Heap → Option ((List A × Heap) ⊕ (Ex × List A × Heap))) => new_xs ⟨0, 0⟩ (kh h f M) k
      have hSt := fun (f : Nat → Nat) (k : Heap → Option ((List A × Heap) ⊕ (Ex × List A × Heap))) => stE (at1 (kh h f M) (xs ⟨0, 0⟩) []) x k
      simp only [set1] at hSt
      have hk5 : ∀ f : Nat → Nat, kh h f M ++ [xs x] = h ++ [cS f, allS M, .dead, .dead, xs x] := fun f => by simp [kh]
      simp only [hk5, kh_len] at hNe hSt
      have g4 : ∀ (f : Nat → Nat), (h ++ [cS f, allS M, .dead, .dead, xs x])[h.length + 4]? = some (xs x) := fun f => by
        rw [List.getElem?_append_right (by omega), show h.length + 4 - h.length = 4 by omega]; rfl
      have hes : ∀ (f : Nat → Nat) {β : Type} (k : A → Option β), oLoad none (.ptr (h.length + 4) 0 0 0) (h ++ [cS f, allS M, .dead, .dead, xs x]) k = k (.s (.int .i64 x.start)) := fun f {β} k => by
        have := g4 f
        simp only [xs] at this ⊢
        simp [oLoad, this]
      have hel : ∀ (f : Nat → Nat) {β : Type} (k : A → Option β), oLoad none (.ptr (h.length + 4) 0 0 1) (h ++ [cS f, allS M, .dead, .dead, xs x]) k = k (.s (.int .i64 x.len)) := fun f {β} k => ldLen (g4 f) k
      obtain ⟨o1, o2, o3⟩ := ox
      have c1' : ¬ x.len < 1 := by omega
      have c2' : ¬ x.start < 0 := by omega
      have c3' : ¬ T - x.len < x.start := by omega
      have w1 : IntKind.i64.wrap (T - x.len) = T - x.len := wr _ (by omega) (by omega)
      have hTs : ∀ (g : Nat → Nat) (vs : List A), trim true (h.length + 5) vs (h ++ [cS g, allS M, .dead, .dead, xs x]) = some (vs, h ++ [cS g, allS M, .dead, .dead, xs x]) := fun g vs => trim_self _ _ _ _ (by simp)
      have hTm : ∀ (g : Nat → Nat) (a b : Value), trim true (h.length + 4) [.s a, .s b] (h ++ [cS g, allS M, .dead, .dead, xs x]) = some ([.s a, .s b], kh h g M) := fun g a b => by
        rw [← hk5]
        exact trim_map (kh_map hM g M) (kh_wh hW g M) _ (by simp) [xs x] _ (by simp [kh])
      have hcl := fun (k : Ex → List A → Heap → Option ((List A × Heap) ⊕ (Ex × List A × Heap))) => count_loop (h := h) (all := allS M) (sumN (M.take i)) (by omega) (fun j => cov j (M.take i)) x hT ⟨o1, o2, o3⟩ (fun j hj => by
        have h1 := cov_take j hx
        have h2 := cov_take_le j M (i + 1)
        have h3 := hc j hj
        show cov j (M.take i) + c1 j x ≤ 1
        omega) k
      have hcov : (fun j : Nat => cov (j : Int) (M.take (i + 1))) = fun j : Nat => cov (j : Int) (M.take i) + c1 (j : Int) x := by
        funext j; exact cov_take j hx
      refine ⟨([.s (.int .i64 (sumN (M.take (i + 1)) : Nat)), .s (.int .i64 (i + 1 : Nat))], kh h (fun j => cov j (M.take (i + 1))) M), ?_, rfl⟩
      rw [hcov, hsuc]
      simp only [Int.natCast_add, Int.cast_ofNat_Int] at hcl ⊢
      simp [-oLoad_ptr, -oStore_ptr, -oNew_agg, law07_ExtentApart_l10, law07_ExtentApart_k9, law07_ExtentApart_k8, hi, hrow, hz, hNe, hSt, hes, hel, c1', c2', c3', w1, hTs, hTm, hcl, hwi, kh_len])
    (by
      rintro s rfl
      refine ⟨_, ?_, rfl⟩
      rw [List.take_length, hN, hs]
      have hTs : ∀ (g : Nat → Nat) (vs : List A), trim true (h.length + 4) vs (kh h g M) = some (vs, kh h g M) := fun g vs => trim_self _ _ _ _ (by simp [kh])
      simp [-oLoad_ptr, -oStore_ptr, law07_ExtentApart_l10, hTs, kh_len])
  exact hq k

theorem ones_loop {h : Heap} {T : Int} {M : List Extent} (h0 : 0 ≤ T) (hT : T ≤ 1024) (f : Nat → Nat) (hf : ∀ i : Nat, (i : Int) < T → f i = 1) (k : Ex → List A → Heap → Option (Ex × List A × Heap)) :
    oLoop (law07_ExtentApart_l11 (.s (.int .i64 T)) (.ptr h.length 0 0 0) (kh h f M)) ([.s (.int .i64 0)], kh h f M) k = k (.exit 9) [.any] (kh h f M) := by
  obtain ⟨n, rfl⟩ : ∃ n : Nat, T = n := ⟨T.toNat, by omega⟩
  obtain ⟨Q, rfl, hq⟩ := oLoop_inv' (step := law07_ExtentApart_l11 (.s (.int .i64 n)) (.ptr h.length 0 0 0) (kh h f M)) (s0 := ([.s (.int .i64 0)], kh h f M))
    (fun i s => s = ([.s (.int .i64 i)], kh h f M)) (fun Q => Q = (.exit 9, [.any], kh h f M)) n rfl (by omega)
    (by
      rintro i s hi rfl
      left
      have hwi : IntKind.i64.wrap ((i : Int) + 1) = (i : Int) + 1 := wr _ (by omega) (by omega)
      have hl := fun (k : A → Option ((List A × Heap) ⊕ (Ex × List A × Heap))) => ld_arr (kh_c h f M) (i := i) (by omega) k
      rw [hf i (by omega)] at hl
      have hTs : ∀ (vs : List A), trim true (h.length + 4) vs (kh h f M) = some (vs, kh h f M) := fun vs => trim_self _ _ _ _ (by simp [kh])
      have q2 : (i : Int) < 1024 := by omega
      refine ⟨([.s (.int .i64 (i + 1 : Nat))], kh h f M), ?_, rfl⟩
      simp only [Int.natCast_add, Int.cast_ofNat_Int] at hl ⊢
      simp [-oLoad_ptr, -oStore_ptr, law07_ExtentApart_l11, hi, q2, hl, hTs, hwi, kh_len])
    (by
      rintro s rfl
      refine ⟨_, ?_, rfl⟩
      have hTs : ∀ (vs : List A), trim true (h.length + 4) vs (kh h f M) = some (vs, kh h f M) := fun vs => trim_self _ _ _ _ (by simp [kh])
      simp [-oLoad_ptr, -oStore_ptr, law07_ExtentApart_l11, hTs, kh_len])
  exact hq k

/-- A list that is kept beside the map, through the gathering. -/
theorem trim_had {h : Heap} {L : Nat} {T : Int} {fs ls : List Extent} {p q : Option (Nat × Nat)} (hM : MapP h 0 [L] T fs ls p q) (hW : WH 0 h) (vs : List A) (n : Nat) (hm : 0 < n) (hn : n ≤ h.length) (hL : L ∈ idsL vs) :
    ∃ h', trim true n vs h = some (vs, h') ∧ MapP h' 0 [L] T fs ls p q ∧ WH 0 h' ∧ n ≤ h'.length ∧ h'[L]? = h[L]? := by
  obtain ⟨h', t1, t2, t3, t4, t5⟩ := trim_any hM hW vs n hm hn
  refine ⟨h', t1, t2, t3, t4, ?_⟩
  unfold trim at t1
  split at t1
  · rename_i hc
    simp only [Bool.true_and, Bool.and_eq_true] at hc
    have := hc.1
    simp only [allBelow, List.all_eq_true, decide_eq_true_eq] at this
    exact t5 L (this L hL)
  · cases t1; rfl

theorem check_v {h : Heap} {L v : Nat} {T : Int} {had fs ls : List Extent} {p q : Option (Nat × Nat)} {s24 : List A × Heap} (h0 : 0 ≤ T) (hT : T ≤ 1024) (hM : MapP h 0 [L] T fs ls p q) (hW : WH 0 h) (hL : h[L]? = some (.live ⟨v, 2, had.map extentC⟩)) (iv : Inv T had fs ls)
    (hn0 : 0 < s24.2.length) (hn : s24.2.length ≤ h.length) (b : A) :
    ∃ h', law07_ExtentApart_k14 (.ptr 0 0 0 0) (.s (.int .i64 T)) s24 .normal [b, .osl L v 2 0 had.length] h = some (.normal, [.any, .osl L v 2 0 had.length], h') ∧ MapP h' 0 [L] T fs ls p q ∧ WH 0 h' ∧ s24.2.length ≤ h'.length ∧ h'[L]? = h[L]? := by
  obtain ⟨s1, s2, s3⟩ := iv.short hT
  have hlt := lt_of_some hL
  have hsum := iv.sum
  have e1 : h ++ [cS fun _ => 0, .live ⟨0, 2, []⟩] = h ++ [cS fun _ => 0] ++ [.live ⟨0, 2, []⟩] := by simp
  -- behind the list that was had
  have a1 := fun (k : A → Heap → Option (Ex × List A × Heap)) => app_rows (H := h ++ [cS fun _ => 0, .live ⟨0, 2, []⟩]) (L := h.length + 1) (v := 0) (out := []) (M := had) (src := .osl L v 2 0 had.length) (at2 h _ _ _) (rows_own (by rw [List.getElem?_append_left hlt]; exact hL) rfl) (by simp; omega) k
  rw [set2] at a1
  simp only [List.nil_append, List.length_nil] at a1
  have m1 : MapP (h ++ [cS fun _ => 0, .live ⟨0 + 1, 2, had.map extentC⟩]) 0 [L] T fs ls p q := mapP_sub (mapP_app hM [cS fun _ => 0, .live ⟨0 + 1, 2, had.map extentC⟩] [] (by simp)) (by simp)
  have b1 := fun (kp k : A → Heap → Option (Ex × List A × Heap)) => List_call m1 (by omega) kp k
  rw [List.append_assoc] at b1
  have a2 := fun (k : A → Heap → Option (Ex × List A × Heap)) => app_rows (H := h ++ [cS fun _ => 0, .live ⟨0 + 1, 2, had.map extentC⟩, .dead]) (L := h.length + 1) (v := 0 + 1) (out := had) (M := fs) (src := mkF 2 (fs.map extentC)) (at2 h _ _ _) (by simp) (by omega) k
  rw [set2] at a2
  have m2 : MapP (h ++ [cS fun _ => 0, .live ⟨0 + 1 + 1, 2, (had ++ fs).map extentC⟩, .dead]) 0 [L] T fs ls p q := mapP_sub (mapP_app hM [cS fun _ => 0, .live ⟨0 + 1 + 1, 2, (had ++ fs).map extentC⟩, .dead] [] (by simp)) (by simp)
  have b2 := fun (kp k : A → Heap → Option (Ex × List A × Heap)) => Waiting_call m2 (by omega) kp k
  rw [List.append_assoc] at b2
  have a3 := fun (k : A → Heap → Option (Ex × List A × Heap)) => app_rows (H := h ++ [cS fun _ => 0, .live ⟨0 + 1 + 1, 2, (had ++ fs).map extentC⟩, .dead, .dead]) (L := h.length + 1) (v := 0 + 1 + 1) (out := had ++ fs) (M := ls) (src := mkF 2 (ls.map extentC)) (at2 h _ _ _) (by simp) (by simp; omega) k
  rw [set2] at a3
  have hkh : h ++ [cS fun _ => 0, .live ⟨0 + 1 + 1 + 1, 2, (had ++ fs ++ ls).map extentC⟩, .dead, .dead] = kh h (fun _ => 0) (had ++ fs ++ ls) := rfl
  rw [hkh] at a3
  -- the loops
  have cl := fun (k : Ex → List A → Heap → Option (Ex × List A × Heap)) => check_loop hM hW hT iv.all (fun i hi => by
    have := iv.c i (by omega) hi
    rw [cov_app, cov_app]; omega) hsum k
  have ol := fun (k : Ex → List A → Heap → Option (Ex × List A × Heap)) => ones_loop (h := h) (M := had ++ fs ++ ls) h0 hT (fun i => cov i (had ++ fs ++ ls)) (fun i hi => by
    have := iv.c i (by omega) hi
    show cov i (had ++ fs ++ ls) = 1
    rw [cov_app, cov_app]; omega) k
  obtain ⟨h', t1, t2, t3, t4, t5⟩ := trim_had (kh_map hM (fun i => cov i (had ++ fs ++ ls)) (had ++ fs ++ ls)) (kh_wh hW _ _) [.any, .osl L v 2 0 had.length] s24.2.length hn0 (by rw [kh_len]; omega) (by simp)
  refine ⟨h', ?_, t2, t3, t4, by rw [t5]; exact (List.getElem?_append_left hlt)⟩
  have hne : ∀ (k : A → Heap → Option (Ex × List A × Heap)), oNewSlice none 2 (asRows (some 2) []) (h ++ [cS fun _ => 0]) k = k (.osl (h.length + 1) 0 2 0 0) (h ++ [cS fun _ => 0, .live ⟨0, 2, []⟩]) := fun k => by
    simp [asRows]
  have hnw := fun (k : A → Heap → Option (Ex × List A × Heap)) => new_arr (fun _ => 0) h k
  have hst := fun (k : Heap → Option (Ex × List A × Heap)) => st_arr (at1 h (cS fun _ => 0) []) (fun _ => 0) k
  rw [set1] at hst
  unfold law07_ExtentApart_k14
  rw [arr_zero]
  have hbp : ∀ (k : A → Option (Ex × List A × Heap)), oBuildP (arr fun _ => 0) [] k = k (.agg (arr fun _ => 0)) := fun k => rfl
  simp only [hbp, hnw, hst, hne, List.getD_cons_succ, List.getD_cons_zero, a1, b1, List.cons_append, List.nil_append, a2, b2, a3]
  simp only [oLen_osl, cl, law07_ExtentApart_k13, ol, law07_ExtentApart_k12, A.int]
  simp [-List.append_assoc, cl, law07_ExtentApart_k13, ol, law07_ExtentApart_k12, t1]
end Go.Ab.T
