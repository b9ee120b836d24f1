import Derived.Test.YtffjjeifgejplaaTKit
import Derived.Test.YtffjjeifgejplaaFnF
/-
  THE DOCUMENT'S LABELS: what they come to.
-/
set_option linter.unusedSimpArgs false
set_option linter.unusedVariables false
namespace Go.Ab.T
open Go Go.Ab Go.Ab.F

theorem ok8 {n : Nat} (h : n < 1000000000) : appendOk n 8 := by constructor <;> omega
theorem ok16 {n : Nat} (h : n < 1000000000) : appendOk n 16 := by constructor <;> omega

abbrev u64C := cellC .u64


theorem IDs_inner (H0 : Heap) (kn kc ko vo : Nat) (c : Cat) (out : List Int) (s15 : List A × Heap)
    (hs : s15.1.getD 0 .any = .osl ko vo 1 0 out.length)
    (hkn : H0[kn]? = some (.live ⟨0, 1, []⟩)) (hkc : H0[kc]? = some (.live ⟨0, 2, [catC c]⟩)) (hko : H0[ko]? = some (.live ⟨vo, 1, out.map u64C⟩))
    (hnc : kc ≠ kn) (hno : ko ≠ kn) (hol : out.length < 500000000) :
    ∃ (H : Heap) (next : List Int) (ver : Nat) (done : Bool), (∀ {β : Type} (k : Ex → List A → Heap → Option β),
      oLoop (ref09_IDs_l4 (.s (.int .i64 out.length)) s15 (.ptr kc 0 0 0) H0) ([.osl kn 0 1 0 0, .s (.bool false), .s (.int .i64 0)], H0) k = k (.exit 4) [.osl kn ver 1 0 next.length, .s (.bool done)] H) ∧
      H[kn]? = some (.live ⟨ver, 1, next.map u64C⟩) ∧ KeepBut kn H0 H ∧ next.length ≤ out.length + (if done then 1 else 0) := by
  obtain ⟨q, ⟨H, next, ver, done, rfl, h1, h2, h3⟩, hq⟩ := oLoop_inv' (step := ref09_IDs_l4 (.s (.int .i64 out.length)) s15 (.ptr kc 0 0 0) H0) (s0 := ([.osl kn 0 1 0 0, .s (.bool false), .s (.int .i64 0)], H0))
    (fun j s => ∃ (H : Heap) (next : List Int) (ver : Nat) (done : Bool), s = ([.osl kn ver 1 0 next.length, .s (.bool done), .s (.int .i64 j)], H) ∧ H[kn]? = some (.live ⟨ver, 1, next.map u64C⟩) ∧ KeepBut kn H0 H ∧ next.length ≤ j + (if done then 1 else 0))
    (fun q => ∃ (H : Heap) (next : List Int) (ver : Nat) (done : Bool), q = (.exit 4, [.osl kn ver 1 0 next.length, .s (.bool done)], H) ∧ H[kn]? = some (.live ⟨ver, 1, next.map u64C⟩) ∧ KeepBut kn H0 H ∧ next.length ≤ out.length + (if done then 1 else 0))
    out.length ⟨H0, [], 0, false, rfl, hkn, KeepBut.refl _ _, by simp⟩ (by omega)
    (by
      rintro j s hj ⟨H, next, ver, done, rfl, h1, h2, h3⟩
      left
      have hx : out[j]? = some out[j] := by simp [hj]
      have c1 := h2 kc _ hnc hkc
      have o1 := h2 ko _ hno hko
      have h3' : next.length ≤ j + 1 := by cases done <;> simp at h3 <;> omega
      have hw : IntKind.i64.wrap ((j : Int) + 1) = ((j + 1 : Nat) : Int) := wrap_succ hj (by omega)
      have hi := fun {β : Type} (k : A → Option β) => idx_own u64C H ko vo 1 out.length out none (.s (.int .u64 out[j])) j out[j] .i64 rfl o1 hx rfl k
      simp only [ref09_IDs_l4, hs, List.getD_cons_zero, List.getD_cons_succ, oCmp_s, cmpInt_lss, if_true, oCond_s, Int.ofNat_lt, hj, decide_true, hi]
      by_cases hd : done = false ∧ c.id ≤ out[j]
      · obtain ⟨H1, e1, a1, b1⟩ := app1 u64C H kn ver 1 8 next.length next c.id none (.s (.int .u64 c.id)) rfl h1 rfl (by decide) (ok8 (by omega))
        have c2 := b1 kc _ hnc c1
        by_cases hne : out[j] = c.id
        · refine ⟨([.osl kn (ver + 1) 1 0 (next ++ [c.id]).length, .s (.bool true), .s (.int .i64 (j + 1 : Nat))], H1), ?_, H1, _, _, _, rfl, a1, h2.trans b1, ?_⟩
          · simp [-oNewSlice_eq, -asRows_cons, -asRows_nil, trim, hd, c1, c2, e1, ref09_IDs_k1, ref09_IDs_k2, ref09_IDs_k3, hne, hw]
          · simp [hd] at h3 ⊢; omega
        · obtain ⟨H2, e2, a2, b2⟩ := app1 u64C H1 kn (ver + 1) 1 8 (next.length + 1) (next ++ [c.id]) out[j] none (.s (.int .u64 out[j])) (by simp) a1 rfl (by decide) (ok8 (by simp; omega))
          refine ⟨([.osl kn (ver + 1 + 1) 1 0 (next ++ [c.id] ++ [out[j]]).length, .s (.bool true), .s (.int .i64 (j + 1 : Nat))], H2), ?_, H2, _, _, _, rfl, a2, (h2.trans b1).trans b2, ?_⟩
          · simp [-oNewSlice_eq, -asRows_cons, -asRows_nil, trim, hd, c1, c2, e1, e2, ref09_IDs_k1, ref09_IDs_k2, ref09_IDs_k3, hne, hw]
          · simp [hd] at h3 ⊢; omega
      · have hdl : done = true ∨ ¬ c.id ≤ out[j] := by
          by_cases h : c.id ≤ out[j]
          · left; cases done
            · exact absurd ⟨rfl, h⟩ hd
            · rfl
          · exact Or.inr h
        by_cases hne : out[j] = c.id
        · refine ⟨([.osl kn ver 1 0 next.length, .s (.bool done), .s (.int .i64 (j + 1 : Nat))], H), ?_, H, _, _, _, rfl, h1, h2, ?_⟩
          · rcases hdl with rfl | hdl
            · simp [-oNewSlice_eq, -asRows_cons, -asRows_nil, trim, c1, ref09_IDs_k1, ref09_IDs_k2, ref09_IDs_k3, hne, hw]
            · rw [hne] at hdl
              simp [-oNewSlice_eq, -asRows_cons, -asRows_nil, trim, hdl, c1, ref09_IDs_k1, ref09_IDs_k2, ref09_IDs_k3, hne, hw] at hdl ⊢
          · cases done <;> simp at h3 ⊢ <;> omega
        · obtain ⟨H2, e2, a2, b2⟩ := app1 u64C H kn ver 1 8 next.length next out[j] none (.s (.int .u64 out[j])) rfl h1 rfl (by decide) (ok8 (by omega))
          refine ⟨([.osl kn (ver + 1) 1 0 (next ++ [out[j]]).length, .s (.bool done), .s (.int .i64 (j + 1 : Nat))], H2), ?_, H2, _, _, _, rfl, a2, h2.trans b2, ?_⟩
          · rcases hdl with rfl | hdl
            · simp [-oNewSlice_eq, -asRows_cons, -asRows_nil, trim, c1, e2, ref09_IDs_k1, ref09_IDs_k2, ref09_IDs_k3, hne, hw]
            · cases done <;> simp [-oNewSlice_eq, -asRows_cons, -asRows_nil, trim, hdl, c1, e2, ref09_IDs_k1, ref09_IDs_k2, ref09_IDs_k3, hne, hw]
          · cases done <;> simp at h3 ⊢ <;> omega)
    (by
      rintro s ⟨H, next, ver, done, rfl, h1, h2, h3⟩
      exact ⟨_, by simp [ref09_IDs_l4, trim], H, next, ver, done, rfl, h1, h2, h3⟩)
  exact ⟨H, next, ver, done, fun k => hq k, h1, h2, h3⟩

/-- The loop over a label's categories. -/
theorem IDs_middle (H0 : Heap) (ko vo : Nat) (cats : List Cat) (out : List Int) (s6 : List A × Heap)
    (hko : H0[ko]? = some (.live ⟨vo, 1, out.map u64C⟩)) (hol : out.length + cats.length < 400000000) :
    ∃ (H : Heap) (next : List Int) (kn ver : Nat), (∀ {β : Type} (k : Ex → List A → Heap → Option β),
      oLoop (ref09_IDs_l7 (.s (.int .i64 cats.length)) (mkF 2 (cats.map catC)) H0) ([.osl ko vo 1 0 out.length, .s (.int .i64 0)], H0) k = k (.exit 2) [.osl kn ver 1 0 next.length] H) ∧
      H[kn]? = some (.live ⟨ver, 1, next.map u64C⟩) ∧ next.length ≤ out.length + cats.length := by
  obtain ⟨q, ⟨H, next, kn, ver, rfl, h1, h3⟩, hq⟩ := oLoop_inv' (step := ref09_IDs_l7 (.s (.int .i64 cats.length)) (mkF 2 (cats.map catC)) H0) (s0 := ([.osl ko vo 1 0 out.length, .s (.int .i64 0)], H0))
    (fun j s => ∃ (H : Heap) (next : List Int) (kn ver : Nat), s = ([.osl kn ver 1 0 next.length, .s (.int .i64 j)], H) ∧ H[kn]? = some (.live ⟨ver, 1, next.map u64C⟩) ∧ next.length ≤ out.length + j)
    (fun q => ∃ (H : Heap) (next : List Int) (kn ver : Nat), q = (.exit 2, [.osl kn ver 1 0 next.length], H) ∧ H[kn]? = some (.live ⟨ver, 1, next.map u64C⟩) ∧ next.length ≤ out.length + cats.length)
    cats.length ⟨H0, out, ko, vo, rfl, hko, by omega⟩ (by omega)
    (by
      rintro j s hj ⟨H, next, kn, ver, rfl, h1, h3⟩
      left
      have hx : cats[j]? = some cats[j] := by simp [hj]
      have hw : IntKind.i64.wrap ((j : Int) + 1) = ((j + 1 : Nat) : Int) := wrap_succ hj (by omega)
      have hlt := lt_of_some h1
      obtain ⟨H1, next1, ver1, done, e1, a1, b1, l1⟩ := IDs_inner (H ++ [.live ⟨0, 2, [catC cats[j]]⟩] ++ [.live ⟨0, 1, []⟩]) (H.length + 1) H.length kn ver cats[j] next
        ([.osl kn ver 1 0 next.length, .s (.int .i64 j)], H) rfl (by simp) (by simp) (by simp [List.getElem?_append_left hlt, h1]) (by omega) (by omega) (by omega)
      have c1 := b1 H.length (.live ⟨0, 2, [catC cats[j]]⟩) (by omega) (by simp)
      have hstep : ref09_IDs_l7 (.s (.int .i64 cats.length)) (mkF 2 (cats.map catC)) H0 ([.osl kn ver 1 0 next.length, .s (.int .i64 j)], H) =
          ref09_IDs_k6 (.ptr H.length 0 0 0) ([.osl kn ver 1 0 next.length, .s (.int .i64 j)], H) H0 (.exit 4) [.osl (H.length + 1) ver1 1 0 next1.length, .s (.bool done)] H1 := by
        refine Eq.trans ?_ (e1 _)
        simp [ref09_IDs_l7, hj, oIdxA_mkF _ _ _ _ _ _ _ hx]
      rw [hstep]
      cases done with
      | true =>
        refine ⟨([.osl (H.length + 1) ver1 1 0 next1.length, .s (.int .i64 (j + 1 : Nat))], H1), ?_, H1, _, _, _, rfl, a1, ?_⟩
        · simp [ref09_IDs_k6, ref09_IDs_k5, trim, hw]
        · simp at l1; omega
      | false =>
        obtain ⟨H2, e2, a2, b2⟩ := app1 u64C H1 (H.length + 1) ver1 1 8 next1.length next1 cats[j].id none (.s (.int .u64 cats[j].id)) rfl a1 rfl (by decide) (ok8 (by simp at l1; omega))
        refine ⟨([.osl (H.length + 1) (ver1 + 1) 1 0 (next1 ++ [cats[j].id]).length, .s (.int .i64 (j + 1 : Nat))], H2), ?_, H2, _, _, _, rfl, a2, ?_⟩
        · simp [-oNewSlice_eq, -asRows_cons, -asRows_nil, ref09_IDs_k6, ref09_IDs_k5, trim, hw, c1, e2]
        · simp at l1 ⊢; omega)
    (by
      rintro s ⟨H, next, kn, ver, rfl, h1, h3⟩
      exact ⟨_, by simp [ref09_IDs_l7, trim], H, next, kn, ver, rfl, h1, h3⟩)
  exact ⟨H, next, kn, ver, fun k => hq k, h1, h3⟩

theorem ref09_IDs_v (a b : Label) (ha : a.cats.length < 100000000) (hb : b.cats.length < 100000000) :
    ∃ (ids : List Int) (ver : Nat), ref09_IDs [.agg (labelC a ++ labelC b)] [] = some (.ok (.osl 0 ver 1 0 ids.length), [.live ⟨ver, 1, ids.map u64C⟩]) ∧ ids.length ≤ a.cats.length + b.cats.length := by
  have step : ∀ (l : Label) (i : Nat) (out : List Int) (kn ver : Nat) (H h4 : Heap), (i = 0 ∧ l = a ∨ i = 1 ∧ l = b) → H[kn]? = some (.live ⟨ver, 1, out.map u64C⟩) → out.length ≤ 200000000 →
      ∃ (H1 : Heap) (next : List Int) (kn1 ver1 : Nat), ref09_IDs_l9 (.agg (labelC a ++ labelC b)) h4 ([.osl kn ver 1 0 out.length, .s (.int .i64 i)], H) = some (.inl ([.osl kn1 ver1 1 0 next.length, .s (.int .i64 (i + 1 : Nat))], H1)) ∧
        H1[kn1]? = some (.live ⟨ver1, 1, next.map u64C⟩) ∧ next.length ≤ out.length + l.cats.length := by
    intro l i out kn ver H h4 hl hk ho
    have hlt := lt_of_some hk
    obtain ⟨H1, next, kn1, ver1, e1, a1, l1⟩ := IDs_middle (H ++ [.live ⟨0, 2, [labelC l]⟩]) kn ver l.cats out ([.osl kn ver 1 0 out.length, .s (.int .i64 i)], H) (by rw [List.getElem?_append_left hlt]; exact hk) (by rcases hl with ⟨_, rfl⟩ | ⟨_, rfl⟩ <;> omega)
    refine ⟨H1, next, kn1, ver1, ?_, a1, l1⟩
    have : ref09_IDs_l9 (.agg (labelC a ++ labelC b)) h4 ([.osl kn ver 1 0 out.length, .s (.int .i64 i)], H) = ref09_IDs_k8 ([.osl kn ver 1 0 out.length, .s (.int .i64 i)], H) h4 (.exit 2) [.osl kn1 ver1 1 0 next.length] H1 := by
      refine Eq.trans ?_ (e1 _)
      rcases hl with ⟨rfl, rfl⟩ | ⟨rfl, rfl⟩ <;> simp [ref09_IDs_l9, oIndex_agg, cellsAt, labelC]
    rw [this]
    rcases hl with ⟨rfl, rfl⟩ | ⟨rfl, rfl⟩ <;> simp [ref09_IDs_k8, trim] <;> decide
  obtain ⟨q, ⟨H, next, kn, ver, rfl, h1, h3⟩, hq⟩ := oLoop_inv' (step := ref09_IDs_l9 (.agg (labelC a ++ labelC b)) [.live ⟨0, 4, [labelC a ++ labelC b]⟩, .live ⟨0, 1, []⟩]) (s0 := ([.osl 1 0 1 0 0, .s (.int .i64 0)], [.live ⟨0, 4, [labelC a ++ labelC b]⟩, .live ⟨0, 1, []⟩]))
    (fun j s => ∃ (H : Heap) (next : List Int) (kn ver : Nat), s = ([.osl kn ver 1 0 next.length, .s (.int .i64 j)], H) ∧ H[kn]? = some (.live ⟨ver, 1, next.map u64C⟩) ∧ next.length ≤ (if 0 < j then a.cats.length else 0) + (if 1 < j then b.cats.length else 0))
    (fun q => ∃ (H : Heap) (next : List Int) (kn ver : Nat), q = (.exit 0, [.osl kn ver 1 0 next.length], H) ∧ H[kn]? = some (.live ⟨ver, 1, next.map u64C⟩) ∧ next.length ≤ a.cats.length + b.cats.length)
    2 ⟨_, [], 1, 0, rfl, rfl, by simp⟩ (by omega)
    (by
      rintro j s hj ⟨H, next, kn, ver, rfl, h1, h3⟩
      left
      have : j = 0 ∨ j = 1 := by omega
      rcases this with rfl | rfl
      · obtain ⟨H1, n1, k1, v1, e, a1, b1⟩ := step a 0 next kn ver H _ (Or.inl ⟨rfl, rfl⟩) h1 (by simp at h3; simp [h3])
        exact ⟨_, e, H1, n1, k1, v1, rfl, a1, by simp at h3 ⊢; simp [h3] at b1; omega⟩
      · obtain ⟨H1, n1, k1, v1, e, a1, b1⟩ := step b 1 next kn ver H _ (Or.inr ⟨rfl, rfl⟩) h1 (by simp at h3; omega)
        exact ⟨_, e, H1, n1, k1, v1, rfl, a1, by simp at h3 ⊢; omega⟩)
    (by
      rintro s ⟨H, next, kn, ver, rfl, h1, h3⟩
      exact ⟨_, by simp [ref09_IDs_l9, trim], H, next, kn, ver, rfl, h1, by simpa using h3⟩)
  refine ⟨next, ver, ?_, h3⟩
  refine Eq.trans ?_ ((hq (ref09_IDs_k10 [])).trans ?_)
  · simp [ref09_IDs, labelC, cellsAt]
  · simp only [ref09_IDs_k10, if_true, List.getD_cons_zero]
    exact finish_own kn ver 1 _ _ H h1 (idsRows_map _ (fun x => rfl) _) (fun f => renRows_map f _ (fun x => rfl) _)

/-- The level of a category. -/
def rlevel (l : Label) (id : Int) : Int :=
  match l.cats.find? (fun c => c.id == id) with
  | some c => c.level
  | none => l.df

theorem ref09_Level_v (l : Label) (id : Int) (hl : l.cats.length < 2 ^ 63) : ref09_Level [.agg (labelC l), .s (.int .u64 id)] [] = some (.ok (.s (.int .i64 (rlevel l id))), []) := by
  simp [ref09_Level]
  refine Eq.trans (oLoop_find (enc := fun i => ([.s (.int .i64 i)], [Slot.live ⟨0, 2, [labelC l]⟩])) (fun c => c.id == id)
    (fun c => (Ex.ret, [.s (.int .i64 c.level)], [Slot.live ⟨0, 2, [labelC l]⟩])) (Ex.exit 0, [.any], [Slot.live ⟨0, 2, [labelC l]⟩]) l.cats (by simp) hl ?_ ?_) ?_
  · intro i c hc hi
    simp [ref09_Level_l1, oIdxA_mkF _ _ _ _ _ _ _ hc, hi, wrap_succ hi hl, trim, allBelow]
  · simp [ref09_Level_l1, trim, allBelow]
  · unfold rlevel
    cases l.cats.find? (fun c => c.id == id) <;> simp [ref09_Level_k2, finish_val]

/-- A slice that is nil as long as it is empty. -/
def ownNil (H : Heap) (a : A) (sz : Nat) (rows : List (List A)) (bad : List Nat) : Prop :=
  (a = .s (.slice none 0 0) ∧ rows = []) ∨ ∃ id ver, a = .osl id ver sz 0 rows.length ∧ H[id]? = some (.live ⟨ver, sz, rows⟩) ∧ id ∉ bad

theorem Form_step (l : Label) (ids : List Int) (h15 H : Heap) (i : Nat) (hi : i < ids.length) (out : List Cat) (C : A) (hl : l.cats.length < 100000000) (ho : out.length < 200000000) (hn : ids.length < 2 ^ 63)
    (h0 : H[0]? = some (.live ⟨0, 2, [labelC l]⟩)) (h2 : H[2]? = some (.live ⟨0, 2, [[.s (.int .i64 l.df), C]]⟩)) (hC : ownNil H C 2 (out.map catC) [0, 1, 2]) :
    ∃ (H' : Heap) (C' : A) (out' : List Cat), ref09_Form_l2 (.s (.int .i64 ids.length)) (mkF 1 (ids.map u64C)) (.ptr 0 0 0 0) (.ptr 2 0 0 0) h15 ([.s (.int .i64 i)], H) = some (.inl ([.s (.int .i64 (i + 1 : Nat))], H')) ∧
      H'[0]? = some (.live ⟨0, 2, [labelC l]⟩) ∧ H'[2]? = some (.live ⟨0, 2, [[.s (.int .i64 l.df), C']]⟩) ∧ ownNil H' C' 2 (out'.map catC) [0, 1, 2] ∧ out'.length ≤ out.length + 1 ∧ H'[1]? = H[1]? := by
  have hx : ids[i]? = some ids[i] := by simp [hi]
  have hlv : ∀ (β : Type) (n0 : Nat) (wr : List Nat) (id : Int) (h : Heap) (k : A → Heap → Option β), oCallF n0 wr ref09_Level [.agg (labelC l), .s (.int .u64 id)] h k = k (.s (.int .i64 (rlevel l id))) h := fun β n0 wr id h k =>
    oCallF_val _ _ _ _ _ _ _ (by simp) (by simp) (ref09_Level_v l id (by omega))
  have hp0 := lt_of_some h0
  have hp2 := lt_of_some h2
  have a0 := app_some h0
  have a2 := app_some h2
  by_cases hd : rlevel l ids[i] = l.df
  · refine ⟨H, C, out, ?_, h0, h2, hC, by omega, rfl⟩
    simp [at_get h0, at_get h2, app_get' h0, app_get' h2, ref09_Form_l2, ref09_Form_k1, hi, oIdxA_mkF _ _ _ _ _ _ _ hx, oLoadD, h0, hp0, hlv, trim, hd, wrap_succ hi hn]
  · rcases hC with ⟨rfl, ho'⟩ | ⟨id, ver, rfl, hk, hb⟩
    · simp only [List.map_eq_nil_iff] at ho'
      subst ho'
      refine ⟨H.set 2 (.live ⟨0, 2, [[.s (.int .i64 l.df), .osl (H.length + 1) 0 2 0 1]]⟩) ++ [.live ⟨0, 2, [catC ⟨ids[i], rlevel l ids[i]⟩]⟩, .live ⟨0, 2, [catC ⟨ids[i], rlevel l ids[i]⟩]⟩], .osl (H.length + 1) 0 2 0 1, [⟨ids[i], rlevel l ids[i]⟩], ?_, ?_, ?_, ?_, ?_, ?_⟩
      · simp [at_get h0, at_get h2, app_get' h0, app_get' h2, ref09_Form_l2, ref09_Form_k1, hi, oIdxA_mkF _ _ _ _ _ _ _ hx, oLoadD, h0, h2, a0, a2, hp0, hp2, hlv, trim, hd, wrap_succ hi hn, oAppendD, oAppend_nil, place, app_len0, app_len1, set_len0, set_len1, List.replicate, wrL, wrA, idTop, ok16, putCells, catC, app_set' h2]
      · exact app_some (by rw [List.getElem?_set_ne (by decide)]; exact h0) _
      · exact app_some (List.getElem?_set_self hp2) _
      · exact Or.inr ⟨H.length + 1, 0, rfl, by rw [List.getElem?_append_right (by simp)]; simp, by simp only [List.mem_cons, List.not_mem_nil, or_false]; omega⟩
      · simp
      · rw [List.getElem?_append_left (by simp; omega), List.getElem?_set_ne (by decide)]
    · simp only [List.mem_cons, List.not_mem_nil, or_false, not_or] at hb
      obtain ⟨n0, n1, n2⟩ := hb
      have hpk := lt_of_some hk
      have hok : appendOk (out.length + 1) 16 := ok16 (by omega)
      have htk : List.take out.length (List.map catC out) = List.map catC out := List.take_of_length_le (by simp)
      refine ⟨(H.set id (.live ⟨ver + 1, 2, (out ++ [Cat.mk ids[i] (rlevel l ids[i])]).map catC⟩)).set 2 (.live ⟨0, 2, [[.s (.int .i64 l.df), .osl id (ver + 1) 2 0 (out.length + 1)]]⟩) ++ [.live ⟨0, 2, [catC ⟨ids[i], rlevel l ids[i]⟩]⟩, .res], .osl id (ver + 1) 2 0 (out.length + 1), out ++ [Cat.mk ids[i] (rlevel l ids[i])], ?_, ?_, ?_, ?_, ?_, ?_⟩
      · simp [at_get h0, at_get h2, app_get' h0, app_get' h2, at_get hk, app_get' hk, ref09_Form_l2, ref09_Form_k1, hi, oIdxA_mkF _ _ _ _ _ _ _ hx, oLoadD, h0, h2, hk, app_some hk, a0, a2, hp0, hp2, hpk, hlv, trim, hd, wrap_succ hi hn, oAppendD, oAppend_osl, place, app_len0, app_len1, set_len0, set_len1, List.replicate, wrL, wrA, idTop, ok16, putCells, catC, app_set' h2, app_set' hk, n0, n1, n2, Ne.symm n0, Ne.symm n2, hok, htk]
      · exact app_some (by rw [List.getElem?_set_ne (by decide), List.getElem?_set_ne n0]; exact h0) _
      · exact app_some (List.getElem?_set_self (by simpa using hp2)) _
      · exact Or.inr ⟨id, ver + 1, by simp, app_some (by rw [List.getElem?_set_ne (Ne.symm n2), List.getElem?_set_self hpk]) _, by simp [n0, n1, n2]⟩
      · simp
      · rw [List.getElem?_append_left (by simp; omega), List.getElem?_set_ne (by decide), List.getElem?_set_ne n1]

/-- The label in its form: some label. -/
theorem ref09_Form_v (l : Label) (hl : l.cats.length < 100000000) : ∃ (C : A) (r : Label) (objs : Heap), ref09_Form [.agg (labelC l)] [] = some (.ok (.agg [.s (.int .i64 r.df), C]), objs) ∧ r.df = l.df ∧ r.cats.length ≤ l.cats.length ∧
    ((C = .s (.slice none 0 0) ∧ r.cats = [] ∧ objs = []) ∨ ∃ ver, C = .osl 0 ver 2 0 r.cats.length ∧ objs = [.live ⟨ver, 2, r.cats.map catC⟩]) := by
  obtain ⟨ids, ver, hids, hidl⟩ := ref09_IDs_v l ⟨0, []⟩ hl (by simp)
  simp only [List.length_nil, Nat.add_zero] at hidl
  have hlend : lendL lendFuel [.agg (labelC l ++ [.s (.int .i64 0), .s (.slice none 0 0)])] [] = some [.agg (labelC l ++ labelC ⟨0, []⟩)] := by
    exact lend_agg _ _ _ (by simp [labelC]) (by simp) (by simp [labelC])
  have hput : putCells (labelC l ++ [A.s (Value.int IntKind.i64 0), A.s (Value.slice none 0 0)]) 2 [A.s (Value.int IntKind.i64 0), A.s (Value.slice none 0 0)] = labelC l ++ [.s (.int .i64 0), .s (.slice none 0 0)] := by
    simp [putCells, labelC]
  have hcall : ∀ (β : Type) (h : Heap) (kp k : A → Heap → Option β), oLend ref09_IDs [.agg (labelC l ++ [.s (.int .i64 0), .s (.slice none 0 0)])] h kp k = k (.osl h.length ver 1 0 ids.length) (h ++ [.live ⟨ver, 1, ids.map u64C⟩]) := fun β h kp k =>
    oLend_own _ _ _ _ _ _ _ _ _ _ (by simp) hlend (fun f => renRows_map f _ (fun x => rfl) _) hids
  have hfrz := fun (H : Heap) (k : A → Heap → Option (Out × Heap)) => oFrz_own (H ++ [.live ⟨ver, 1, ids.map u64C⟩]) H.length ver 1 ids.length (ids.map u64C) k (by simp) (by simp) (pureRows_map _ (fun x => rfl) _)
  let H0 : Heap := [.live ⟨0, 2, [labelC l]⟩, .live ⟨0, 2, [[.s (.int .i64 0), .s (.slice none 0 0)]]⟩, .live ⟨0, 2, [[.s (.int .i64 l.df), .s (.slice none 0 0)]]⟩, .dead]
  obtain ⟨q, ⟨H, C, out, rfl, h0, h1, h2, hC, hlen⟩, hq⟩ := oLoop_inv' (step := ref09_Form_l2 (.s (.int .i64 ids.length)) (mkF 1 (ids.map u64C)) (.ptr 0 0 0 0) (.ptr 2 0 0 0) H0) (s0 := ([.s (.int .i64 0)], H0))
    (fun i s => ∃ (H : Heap) (C : A) (out : List Cat), s = ([.s (.int .i64 i)], H) ∧ H[0]? = some (.live ⟨0, 2, [labelC l]⟩) ∧ H[1]? = H0[1]? ∧ H[2]? = some (.live ⟨0, 2, [[.s (.int .i64 l.df), C]]⟩) ∧ ownNil H C 2 (out.map catC) [0, 1, 2] ∧ out.length ≤ i)
    (fun q => ∃ (H : Heap) (C : A) (out : List Cat), q = (.exit 0, [], H) ∧ H[0]? = some (.live ⟨0, 2, [labelC l]⟩) ∧ H[1]? = H0[1]? ∧ H[2]? = some (.live ⟨0, 2, [[.s (.int .i64 l.df), C]]⟩) ∧ ownNil H C 2 (out.map catC) [0, 1, 2] ∧ out.length ≤ ids.length)
    ids.length ⟨H0, .s (.slice none 0 0), [], rfl, rfl, rfl, rfl, Or.inl ⟨rfl, rfl⟩, by simp⟩ (by omega)
    (by
      rintro i s hi ⟨H, C, out, rfl, h0, h1, h2, hC, hlen⟩
      left
      obtain ⟨H', C', out', e, g0, g2, gC, gl, g1⟩ := Form_step l ids H0 H i hi out C hl (by omega) (by omega) h0 h2 hC
      exact ⟨_, e, H', C', out', rfl, g0, g1.trans h1, g2, gC, by omega⟩)
    (by
      rintro s ⟨H, C, out, rfl, h0, h1, h2, hC, hlen⟩
      exact ⟨_, by simp [ref09_Form_l2, trim], H, C, out, rfl, h0, h1, h2, hC, hlen⟩)
  have hrun : ref09_Form [.agg (labelC l)] [] = ref09_Form_k3 (.ptr 2 0 0 0) (.ptr 1 0 0 0) [] (.exit 0) [] H := by
    refine Eq.trans ?_ (hq (ref09_Form_k3 (.ptr 2 0 0 0) (.ptr 1 0 0 0) []))
    simp [ref09_Form, hput]
    rw [hcall]
    refine (oFrz_own _ _ ver 1 ids.length (ids.map u64C) _ (by simp) (by simp) (pureRows_map _ (fun x => rfl) _)).trans ?_
    simp [H0]
  rw [hrun]
  have hp2 := lt_of_some h2
  have hp1 : 1 < H.length := by omega
  have h1' : H[1]? = some (.live ⟨0, 2, [[.s (.int .i64 0), .s (.slice none 0 0)]]⟩) := h1
  rcases hC with ⟨rfl, ho⟩ | ⟨id, ver', rfl, hk, hb⟩
  · simp only [List.map_eq_nil_iff] at ho
    subst ho
    refine ⟨_, ⟨l.df, []⟩, [], ?_, rfl, by simp, Or.inl ⟨rfl, rfl, rfl⟩⟩
    simp [ref09_Form_k3, at_get h1', at_get h2, h1', h2, hp1, hp2, cellsAt, finish_val]
  · simp only [List.mem_cons, List.not_mem_nil, or_false, not_or] at hb
    refine ⟨_, ⟨l.df, out⟩, _, ?_, rfl, by simp; omega, Or.inr ⟨ver', rfl, rfl⟩⟩
    simp [ref09_Form_k3, at_get h1', at_get h2, h1', h2, hp1, hp2, cellsAt]
    exact finish_one _ _ id _ _ (by simp) (by simp) (by rw [List.getElem?_set_ne (Ne.symm hb.2.1)]; exact hk) (idsRows_map _ (fun x => by simp) _) (fun f => renRows_map f _ (fun x => by simp [catC]) _)
end Go.Ab.T

/-
  THE DOCUMENT'S LABELS AND THINGS: what they come to.
-/
set_option linter.unusedSimpArgs false
set_option linter.unusedVariables false
namespace Go.Ab.T
open Go Go.Ab Go.Ab.F

@[simp] theorem eqCells_cat (a b : Cat) : eqCells [true, true] (catC a) (catC b) = some (decide (a = b)) := by
  obtain ⟨a1, a2⟩ := a; obtain ⟨b1, b2⟩ := b
  by_cases h1 : a1 = b1 <;> by_cases h2 : a2 = b2 <;> simp [catC, eqCells, h1, h2]
@[simp] theorem eqCells_link (a b : Link) : eqCells [true, true] (linkC a) (linkC b) = some (decide (a = b)) := by
  obtain ⟨a1, a2⟩ := a; obtain ⟨b1, b2⟩ := b
  by_cases h1 : a1 = b1 <;> by_cases h2 : a2 = b2 <;> simp [linkC, eqCells, h1, h2]
@[simp] theorem eqCells_slot (a b : T.Slot) : eqCells [true, true] (slotC a) (slotC b) = some (decide (a = b)) := by
  obtain ⟨a1, a2⟩ := a; obtain ⟨b1, b2⟩ := b
  by_cases h1 : a1 = b1 <;> by_cases h2 : a2 = b2 <;> simp [slotC, eqCells, h1, h2]

/-- Two lists of one length, place by place. -/
theorem zip_find {α : Type} [DecidableEq α] : ∀ (a b : List α), a.length = b.length → ((a.zip b).find? (fun p => !decide (p.1 = p.2)) = none ↔ a = b)
  | [], [], _ => by simp
  | x :: a, y :: b, h => by
    simp only [List.length_cons, Nat.add_right_cancel_iff] at h
    have ih := zip_find a b h
    by_cases hxy : x = y
    · simp only [List.zip_cons_cons, List.find?_cons, hxy, decide_true, Bool.not_true, ih, List.cons.injEq, true_and]
    · simp [hxy]

theorem zip_get {α : Type} {a b : List α} {i : Nat} {p : α × α} (h : (a.zip b)[i]? = some p) : a[i]? = some p.1 ∧ b[i]? = some p.2 := by
  rw [List.getElem?_zip_eq_some] at h; exact h

theorem ref09_Exact_v (a b : Label) (ha : a.cats.length < 2 ^ 63) : ref09_Exact [.agg (labelC a), .agg (labelC b)] [] = some (.ok (.s (.bool (decide (a = b)))), []) := by
  have hab : decide (a = b) = (decide (a.df = b.df) && decide (a.cats = b.cats)) := by
    obtain ⟨a1, a2⟩ := a; obtain ⟨b1, b2⟩ := b
    by_cases h1 : a1 = b1 <;> by_cases h2 : a2 = b2 <;> simp [h1, h2]
  by_cases hd : a.df = b.df
  · by_cases hl : a.cats.length = b.cats.length
    · have hzl : (a.cats.zip b.cats).length = a.cats.length := by simp [hl]
      simp [ref09_Exact, hd, hl, trim, allBelow, ref09_Exact_k3]
      refine Eq.trans (oLoop_find (enc := fun i => ([.s (.int .i64 i)], [Slot.live ⟨0, 2, [labelC a]⟩, Slot.live ⟨0, 2, [labelC b]⟩])) (fun (p : Cat × Cat) => !decide (p.1 = p.2))
        (fun p => (Ex.ret, [.s (.bool false)], [Slot.live ⟨0, 2, [labelC a]⟩, Slot.live ⟨0, 2, [labelC b]⟩])) (Ex.exit 0, [.any], [Slot.live ⟨0, 2, [labelC a]⟩, Slot.live ⟨0, 2, [labelC b]⟩]) (a.cats.zip b.cats) (by simp) (by omega) ?_ ?_) ?_
      · intro i p hp hi
        obtain ⟨h1, h2⟩ := zip_get hp
        rw [hzl] at hi
        have hi2 : i < b.cats.length := by omega
        by_cases he : p.1 = p.2
        · simp [ref09_Exact_l1, oLoadD, hi, hi2, oIdxA_mkF _ _ _ _ _ _ _ h1, oIdxA_mkF _ _ _ _ _ _ _ h2, trim, allBelow, he, wrap_succ hi ha]
        · simp [ref09_Exact_l1, oLoadD, hi, hi2, oIdxA_mkF _ _ _ _ _ _ _ h1, oIdxA_mkF _ _ _ _ _ _ _ h2, trim, allBelow, he, wrap_succ hi ha]
      · simp [ref09_Exact_l1, trim, allBelow, hl]
      · have hz := zip_find a.cats b.cats hl
        rw [hab]
        cases hf : (a.cats.zip b.cats).find? (fun p => !decide (p.1 = p.2)) with
        | none => simp [ref09_Exact_k2, finish_val, hz.1 hf, hd]
        | some p =>
          have : ¬ a.cats = b.cats := fun h => by rw [hz.2 h] at hf; cases hf
          simp [ref09_Exact_k2, finish_val, this, hd]
    · have : ¬ a.cats = b.cats := fun h => hl (by rw [h])
      have hl' : ¬ ((a.cats.length : Int) = b.cats.length) := by omega
      simp [ref09_Exact, hd, hl, hl', trim, allBelow, ref09_Exact_k3, hab, this, finish_val]
  · simp [ref09_Exact, hd, trim, allBelow, ref09_Exact_k3, hab, finish_val]

/-- Is no level in it Star? -/
def pure (l : Label) : Bool := !decide (l.df = 0) && (l.cats.find? (fun c => c.level == 0)).isNone
theorem ref10_Pure_v (l : Label) (hl : l.cats.length < 2 ^ 63) : ref10_Pure [.agg (labelC l)] [] = some (.ok (.s (.bool (pure l))), []) := by
  by_cases hd : l.df = 0
  · simp [ref10_Pure, hd, finish_val, pure]
  · simp [ref10_Pure, hd]
    refine Eq.trans (oLoop_find (enc := fun i => ([.s (.int .i64 i)], [Slot.live ⟨0, 2, [labelC l]⟩])) (fun (c : Cat) => c.level == 0)
      (fun c => (Ex.ret, [.s (.bool false)], [Slot.live ⟨0, 2, [labelC l]⟩])) (Ex.exit 0, [.any], [Slot.live ⟨0, 2, [labelC l]⟩]) l.cats (by simp) hl ?_ ?_) ?_
    · intro i c hc hi
      simp [ref10_Pure_l1, oIdxA_mkF _ _ _ _ _ _ _ hc, hi, wrap_succ hi hl, trim, allBelow]
    · simp [ref10_Pure_l1, trim, allBelow]
    · unfold pure
      cases l.cats.find? (fun c => c.level == 0) <;> simp [ref10_Pure_k2, finish_val, hd]

/-- A call of Form in a region with an open order. -/
theorem Form_call (l : Label) (hl : l.cats.length < 100000000) : ∃ (r : Label) (ex : Heap), r.df = l.df ∧ r.cats.length ≤ l.cats.length ∧ (∀ s ∈ ex, Slot.ids s = []) ∧
    ∀ (β : Type) (n0 : Nat) (wr : List Nat) (h : Heap) (k : A → Heap → Option β), (oCallF n0 wr ref09_Form [.agg (labelC l)] h fun w h' => oFrz w h' k) = k (.agg (labelC r)) (h ++ ex) := by
  obtain ⟨C, r, objs, hF, hdf, hrl, hC⟩ := ref09_Form_v l hl
  have hll : lendL lendFuel [.agg (labelC l)] [] = some [.agg (labelC l)] := lendL_pure 999 _ _ (by simp)
  rcases hC with ⟨rfl, hc, rfl⟩ | ⟨ver, rfl, rfl⟩
  · refine ⟨r, [], hdf, hrl, by simp, fun β n0 wr h k => ?_⟩
    have e : ∀ k' : A → Heap → Option β, oCallF n0 wr ref09_Form [.agg (labelC l)] h k' = k' (.agg [.s (.int .i64 r.df), .s (.slice none 0 0)]) h := fun k' => by
      unfold oCallF
      rw [if_pos (by simp), hll]
      simp only [hF]
      simp [giveBack, setAll]
    rw [e, frz_cell2 _ (.fsl 0 []) _ h h k rfl (fun n h => by simp [frzA, nilS]) rfl (fun n => by simp [frzA, nilS])]
    simp [labelC, hc]
  · have hren : ∀ f, renRows f (r.cats.map catC) = some (r.cats.map catC) := fun f => renRows_map f catC (fun x => by simp [catC]) r.cats
    refine ⟨r, [.dead], hdf, hrl, by simp, fun β n0 wr h k => ?_⟩
    have e : ∀ k' : A → Heap → Option β, oCallF n0 wr ref09_Form [.agg (labelC l)] h k' = k' (.agg [.s (.int .i64 r.df), .osl h.length ver 2 0 r.cats.length]) (h ++ [.live ⟨ver, 2, r.cats.map catC⟩]) := fun k' => by
      unfold oCallF
      rw [if_pos (by simp), hll]
      simp only [hF]
      simp [giveBack, setAll, backIdx, hren]
    rw [e, frz_cell2 _ (mkF 2 (r.cats.map catC)) _ _ ((h ++ [Go.Ab.Slot.live ⟨ver, 2, r.cats.map catC⟩]).set h.length Go.Ab.Slot.dead) k rfl (fun n h => by simp [frzA, nilS]) rfl (fun n => frz_own n h.length ver 2 r.cats.length (r.cats.map catC) (h ++ [Go.Ab.Slot.live ⟨ver, 2, r.cats.map catC⟩]) (by simp) (by simp) (pureRows_map _ (fun x => by simp) _))]
    simp [labelC]

/-- Can a category stand in a label? -/
def badCat (c : Cat) : Bool := decide (c.id < 1) || decide (2305843009213693951 < c.id) || decide (c.level < 0) || decide (4 < c.level)

theorem ref09_Right_v (l : Label) (hl : l.cats.length < 2 ^ 63) : ∃ b : Bool, ref09_Right [.agg (labelC l)] [] = some (.ok (.s (.bool b)), []) ∧ (b = true → l.cats.length ≤ 6) := by
  have fin : ∀ b : Bool, ∃ c : Bool, ref09_Right_k4 [] (.ptr 0 0 0 0) .normal [.s (.bool b)] [.live ⟨0, 2, [labelC l]⟩] = some (.ok (.s (.bool c)), []) ∧ (c = true → b = false) := by
    intro b
    cases b with
    | true => exact ⟨false, by simp [ref09_Right_k4, finish_val], by simp⟩
    | false =>
      refine ⟨(l.cats.find? badCat).isNone, ?_, by simp⟩
      simp [ref09_Right_k4]
      refine Eq.trans (oLoop_find (enc := fun i => ([.s (.int .i64 i)], [Slot.live ⟨0, 2, [labelC l]⟩])) badCat
        (fun c => (Ex.ret, [.s (.bool false)], [Slot.live ⟨0, 2, [labelC l]⟩])) (Ex.exit 0, [.any], [Slot.live ⟨0, 2, [labelC l]⟩]) l.cats (by simp) hl ?_ ?_) ?_
      · intro i c hc hi
        by_cases h1 : c.id < 1 <;> by_cases h2 : 2305843009213693951 < c.id <;> by_cases h3 : c.level < 0 <;> by_cases h4 : 4 < c.level <;>
          simp [ref09_Right_l2, ref09_Right_k1, oIdxA_mkF _ _ _ _ _ _ _ hc, hi, wrap_succ hi hl, trim, allBelow, h1, h2, h3, h4, badCat]
      · simp [ref09_Right_l2, trim, allBelow]
      · cases l.cats.find? badCat <;> simp [ref09_Right_k3, finish_val]
  have hrun : ∃ b : Bool, ref09_Right [.agg (labelC l)] [] = ref09_Right_k4 [] (.ptr 0 0 0 0) .normal [.s (.bool b)] [.live ⟨0, 2, [labelC l]⟩] ∧ (b = false → l.cats.length ≤ 6) := by
    by_cases h1 : l.df < 1
    · exact ⟨true, by simp [ref09_Right, oLoadD, h1, trim, allBelow], by simp⟩
    by_cases h2 : 4 < l.df
    · exact ⟨true, by simp [ref09_Right, oLoadD, h1, h2, trim, allBelow], by simp⟩
    by_cases h3 : 6 < l.cats.length
    · exact ⟨true, by simp [ref09_Right, oLoadD, h1, h2, h3, show ¬ ((l.cats.length : Int) ≤ 6) by omega, trim, allBelow], by simp⟩
    have h3' : ¬ (6 < (l.cats.length : Int)) := by omega
    obtain ⟨r, ex, hdf, hrl, hex, hcall⟩ := Form_call l (by omega)
    refine ⟨!decide (l = r), ?_, fun _ => by omega⟩
    have hE : ∀ (β : Type) (n0 : Nat) (wr : List Nat) (h : Heap) (k : A → Heap → Option β), oCallF n0 wr ref09_Exact [.agg (labelC l), .agg (labelC r)] h k = k (.s (.bool (decide (l = r)))) h := fun β n0 wr h k =>
      oCallF_val _ _ _ _ _ _ _ (by simp) (by simp) (ref09_Exact_v l r hl)
    simp [ref09_Right, oLoadD, h1, h2, h3, h3', show ((l.cats.length : Int) ≤ 6) by omega, trim, allBelow, hcall, hE]
  obtain ⟨b, e, hb⟩ := hrun
  obtain ⟨c, e2, hc⟩ := fin b
  exact ⟨c, e.trans e2, fun h => hb (hc h)⟩
end Go.Ab.T

/-
  THE DOCUMENT'S THINGS: are two the same?
-/
set_option linter.unusedSimpArgs false
set_option linter.unusedVariables false
namespace Go.Ab.T
open Go Go.Ab Go.Ab.F

theorem byte_loop (bs : ByteArray) : ∀ (d i : Nat) (r : List UInt8), i + d = bs.size → ByteArray.toList.loop bs i r = r.reverse ++ bs.data.toList.drop i := by
  intro d
  induction d with
  | zero =>
    intro i r h
    rw [ByteArray.toList.loop, if_neg (by omega), List.drop_of_length_le (by simp; show bs.size ≤ i; omega)]; simp
  | succ d ih =>
    intro i r h
    have hlt : i < bs.size := by omega
    have hl : i < bs.data.toList.length := by simpa using hlt
    rw [ByteArray.toList.loop, if_pos hlt, ih (i + 1) _ (by omega), List.drop_eq_getElem_cons hl]
    have : bs.get! i = bs.data.toList[i] := by
      show bs.data[i]! = _
      rw [Array.getElem!_eq_getD, Array.getD_eq_getD_getElem?, Array.getElem?_eq_getElem (by simpa using hl)]
      simp
    simp [this]
theorem bytes_toList (bs : ByteArray) : bs.toList = bs.data.toList := by
  show ByteArray.toList.loop bs 0 [] = _
  rw [byte_loop bs bs.size 0 [] (by omega)]; simp

def byte (n : Int) : UInt8 := UInt8.ofNat n.toNat
def pushAll : ByteArray → List Int → ByteArray
  | s, [] => s
  | s, n :: r => pushAll (s.push (byte n)) r
theorem strOf_data : ∀ (d : List Int) (s : ByteArray), strOf s (d.map (cellC .u8)).flatten = some (pushAll s d)
  | [], s => rfl
  | n :: d, s => by simpa [cellC, strOf, pushAll, byte] using strOf_data d _
theorem pushAll_data : ∀ (d : List Int) (s : ByteArray), (pushAll s d).data.toList = s.data.toList ++ d.map byte
  | [], s => by simp [pushAll]
  | n :: d, s => by
    rw [pushAll, pushAll_data d]
    simp [ByteArray.push]
def bs (d : List Int) : ByteArray := pushAll .empty d
theorem bs_toList (d : List Int) : (bs d).toList = d.map byte := by
  rw [bytes_toList, bs, pushAll_data]; simp
@[simp] theorem oBytesStr_data {β : Type} (d : List Int) (h : Heap) (k : A → Option β) : oBytesStr (mkF 1 (d.map (cellC .u8))) h k = k (.s (.string (bs d))) := by
  simp only [oBytesStr, rowsOf_mkF, strOf_data, bs]
@[simp] theorem oBytesStr_nil {β : Type} (h : Heap) (k : A → Option β) : oBytesStr (.fsl 0 []) h k = k (.s (.string (bs []))) := oBytesStr_data [] h k
def okBytes (d : List Int) : Prop := ∀ n ∈ d, 0 ≤ n ∧ n < 256
theorem byte_inj {a b : Int} (ha : 0 ≤ a ∧ a < 256) (hb : 0 ≤ b ∧ b < 256) (h : byte a = byte b) : a = b := by
  have h := congrArg UInt8.toNat h
  simp only [byte, UInt8.toNat_ofNat'] at h
  omega
theorem bs_eq {a b : List Int} (ha : okBytes a) (hb : okBytes b) : ((bs a).toList == (bs b).toList) = decide (a = b) := by
  rw [bs_toList, bs_toList]
  by_cases h : a = b
  · simp [h]
  · have : ¬ a.map byte = b.map byte := fun he => h (by
      clear h
      induction a generalizing b with
      | nil => cases b <;> simp at he ⊢
      | cons x a ih =>
        cases b with
        | nil => simp at he
        | cons y b =>
          simp only [List.map_cons, List.cons.injEq] at he
          rw [byte_inj (ha x (by simp)) (hb y (by simp)) he.1, ih (fun n hn => ha n (by simp [hn])) (fun n hn => hb n (by simp [hn])) he.2])
    simp [h, this]

theorem slot_eq (x y : T.Slot) : decide (x = y) = (decide (x.dir = y.dir) && decide (x.seg = y.seg)) := by
  obtain ⟨a, b⟩ := x; obtain ⟨c, d⟩ := y
  by_cases h1 : a = c <;> by_cases h2 : b = d <;> simp [h1, h2]
@[simp] theorem eqCells_regs (a b : Thing) : eqCells [true, true, true, true] (thingC_regsC a) (thingC_regsC b) = some (decide (a.r0 = b.r0) && (decide (a.r1 = b.r1) && (decide (a.r2 = b.r2) && decide (a.r3 = b.r3)))) := by
  simp [thingC_regsC, eqCells]
@[simp] theorem eqCells_slots (a b : Thing) : eqCells [true, true, true, true, true, true, true, true] (thingC_slotsC a) (thingC_slotsC b) =
    some (decide (a.s0 = b.s0) && (decide (a.s1 = b.s1) && (decide (a.s2 = b.s2) && decide (a.s3 = b.s3)))) := by
  simp [thingC_slotsC, slotC, eqCells, slot_eq, Bool.and_assoc]

/-- All but the lists' contents. -/
def flat (a b : Thing) : Bool := decide (a.id = b.id) && decide (a.kind = b.kind) && decide (a.quota = b.quota) && decide (a.next = b.next) && (decide (a.r0 = b.r0) && (decide (a.r1 = b.r1) && (decide (a.r2 = b.r2) && decide (a.r3 = b.r3)))) &&
  decide (a.minted = b.minted) && decide (a.boot = b.boot) && decide (a.halted = b.halted) && decide (a.value = b.value) && (decide (a.s0 = b.s0) && (decide (a.s1 = b.s1) && (decide (a.s2 = b.s2) && decide (a.s3 = b.s3))))

theorem Same_flat (a b : Thing) : ref11_Same [.agg (thingC a), .agg (thingC b)] [] = ref11_Same_k4 [] (.ptr 0 0 0 0) (.ptr 1 0 0 0) .normal [.s (.bool (!flat a b))] [.live ⟨0, 26, [thingC a]⟩, .live ⟨0, 26, [thingC b]⟩] := by
  simp [ref11_Same, trim, allBelow, flat, Bool.or_assoc]

theorem flat_eq (a b : Thing) : decide (a = b) = (flat a b && (decide (a.label = b.label) && (decide (a.clear = b.clear) && (decide (a.data = b.data) && decide (a.links = b.links))))) := by
  rw [Bool.eq_iff_iff]
  simp only [decide_eq_true_eq, flat, Bool.and_eq_true]
  constructor
  · rintro rfl; simp
  · intro h
    obtain ⟨a1, a2, a3, a4, a5, a6, a7, a8, a9, a10, a11, a12, a13, a14, a15, a16, a17, a18, a19, a20⟩ := a
    simp only at h
    simp [h]

/-- What a thing must be for its bytes to be told apart. -/
structure okT1 (t : Thing) : Prop where
  label : t.label.cats.length < 2 ^ 63
  clear : t.clear.cats.length < 2 ^ 63
  links : t.links.length < 2 ^ 63
  data : okBytes t.data

theorem ref11_Same_v (a b : Thing) (ha : okT1 a) (hb : okT1 b) : ref11_Same [.agg (thingC a), .agg (thingC b)] [] = some (.ok (.s (.bool (decide (a = b)))), []) := by
  have hE : ∀ (β : Type) (x y : Label) (h : Heap) (kp k : A → Heap → Option β), x.cats.length < 2 ^ 63 → oLend ref09_Exact [.agg (labelC x), .agg (labelC y)] h kp k = k (.s (.bool (decide (x = y)))) h := fun β x y h kp k hx =>
    oLend_val _ _ _ _ _ _ (by simp) (by simp) (ref09_Exact_v x y hx)
  rw [Same_flat, flat_eq]
  by_cases h1 : flat a b = true
  · have hd := bs_eq ha.data hb.data
    have e1 : ref11_Same_k4 [] (.ptr 0 0 0 0) (.ptr 1 0 0 0) .normal [.s (.bool (!flat a b))] [.live ⟨0, 26, [thingC a]⟩, .live ⟨0, 26, [thingC b]⟩] =
        ref11_Same_k3 [] (.ptr 0 0 0 0) (.ptr 1 0 0 0) .normal [.s (.bool (!decide (a.label = b.label) || (!decide (a.clear = b.clear) || (!decide (a.data = b.data) || !decide ((a.links.length : Int) = b.links.length)))))] [.live ⟨0, 26, [thingC a]⟩, .live ⟨0, 26, [thingC b]⟩] := by
      simp [ref11_Same_k4, h1, hE _ _ _ _ _ _ ha.label, hE _ _ _ _ _ _ ha.clear, trim, allBelow, hd]
    rw [e1, h1]
    by_cases h2 : a.label = b.label
    · by_cases h3 : a.clear = b.clear
      · by_cases h4 : a.data = b.data
        · by_cases hl : a.links.length = b.links.length
          · have hzl : (a.links.zip b.links).length = a.links.length := by simp [hl]
            have hal := ha.links
            simp [ref11_Same_k3, h2, h3, h4, hl]
            refine Eq.trans (oLoop_find (enc := fun i => ([.s (.int .i64 i)], [Go.Ab.Slot.live ⟨0, 26, [thingC a]⟩, Go.Ab.Slot.live ⟨0, 26, [thingC b]⟩])) (fun (p : Link × Link) => !decide (p.1 = p.2))
              (fun p => (Ex.ret, [.s (.bool false)], [Go.Ab.Slot.live ⟨0, 26, [thingC a]⟩, Go.Ab.Slot.live ⟨0, 26, [thingC b]⟩])) (Ex.exit 0, [.any], [Go.Ab.Slot.live ⟨0, 26, [thingC a]⟩, Go.Ab.Slot.live ⟨0, 26, [thingC b]⟩]) (a.links.zip b.links) (by simp) (by omega) ?_ ?_) ?_
            · intro i p hp hi
              obtain ⟨e1, e2⟩ := zip_get hp
              rw [hzl] at hi
              have hi2 : i < b.links.length := by omega
              by_cases he : p.1 = p.2
              · simp [ref11_Same_l1, oLoadD, hi, hi2, oIdxA_mkF _ _ _ _ _ _ _ e1, oIdxA_mkF _ _ _ _ _ _ _ e2, trim, allBelow, he, wrap_succ hi hal]
              · simp [ref11_Same_l1, oLoadD, hi, hi2, oIdxA_mkF _ _ _ _ _ _ _ e1, oIdxA_mkF _ _ _ _ _ _ _ e2, trim, allBelow, he, wrap_succ hi hal]
            · simp [ref11_Same_l1, trim, allBelow, hl]
            · have hz := zip_find a.links b.links hl
              cases hf : (a.links.zip b.links).find? (fun p => !decide (p.1 = p.2)) with
              | none => simp [ref11_Same_k2, finish_val, hz.1 hf]
              | some p =>
                have : ¬ a.links = b.links := fun h => by rw [hz.2 h] at hf; cases hf
                simp [ref11_Same_k2, finish_val, this]
          · have : ¬ a.links = b.links := fun h => hl (by rw [h])
            have hl' : ¬ ((a.links.length : Int) = b.links.length) := by omega
            simp [ref11_Same_k3, h2, h3, h4, hl', this, finish_val]
        · simp [ref11_Same_k3, h2, h3, h4, finish_val]
      · simp [ref11_Same_k3, h2, h3, finish_val]
    · simp [ref11_Same_k3, h2, finish_val]
  · simp [h1, ref11_Same_k4, finish_val]
end Go.Ab.T
