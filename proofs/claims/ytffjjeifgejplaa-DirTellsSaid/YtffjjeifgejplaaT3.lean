/-
  THE DOCUMENT'S LABELS: what they come to.
-/
import Derived.Test.YtffjjeifgejplaaTOwn
import Derived.Test.YtffjjeifgejplaaFnF
set_option linter.unusedSimpArgs false
set_option linter.unusedVariables false
namespace Go.Ab.T
open Go Go.Ab Go.Ab.F

theorem ok8 {n : Nat} (h : n < 1000000000) : appendOk n 8 := by constructor <;> omega
theorem ok16 {n : Nat} (h : n < 1000000000) : appendOk n 16 := by constructor <;> omega

abbrev u64C := cellC .u64


theorem IDs_inner (H0 : Heap) (kn kc ko vo : Nat) (c : Cat) (out : List Int) (s15 : List A × Heap)
    (hs : s15.1.getD 0 .any = .osl ko vo 1 0 out.length)
    (hkn : H0[kn]? = some (.live ⟨0, 1, []⟩)) (hkc : H0[kc]? = some (.live ⟨0, 2, [catC c]⟩)) (hko : H0[ko]? = some (.live ⟨vo, 1, out.map u64C⟩))
    (hnc : kc ≠ kn) (hno : ko ≠ kn) (hol : out.length < 500000000) :
    ∃ (H : Heap) (next : List Int) (ver : Nat) (done : Bool), (∀ {β : Type} (k : Ex → List A → Heap → Option β),
      oLoop (ref09_IDs_l4 (.s (.int .i64 out.length)) s15 (.ptr kc 0 0 0) H0) ([.osl kn 0 1 0 0, .s (.bool false), .s (.int .i64 0)], H0) k = k (.exit 4) [.osl kn ver 1 0 next.length, .s (.bool done)] H) ∧
      H[kn]? = some (.live ⟨ver, 1, next.map u64C⟩) ∧ KeepBut kn H0 H ∧ next.length ≤ out.length + (if done then 1 else 0) := by
  obtain ⟨q, ⟨H, next, ver, done, rfl, h1, h2, h3⟩, hq⟩ := oLoop_inv' (step := ref09_IDs_l4 (.s (.int .i64 out.length)) s15 (.ptr kc 0 0 0) H0) (s0 := ([.osl kn 0 1 0 0, .s (.bool false), .s (.int .i64 0)], H0))
    (fun j s => ∃ (H : Heap) (next : List Int) (ver : Nat) (done : Bool), s = ([.osl kn ver 1 0 next.length, .s (.bool done), .s (.int .i64 j)], H) ∧ H[kn]? = some (.live ⟨ver, 1, next.map u64C⟩) ∧ KeepBut kn H0 H ∧ next.length ≤ j + (if done then 1 else 0))
    (fun q => ∃ (H : Heap) (next : List Int) (ver : Nat) (done : Bool), q = (.exit 4, [.osl kn ver 1 0 next.length, .s (.bool done)], H) ∧ H[kn]? = some (.live ⟨ver, 1, next.map u64C⟩) ∧ KeepBut kn H0 H ∧ next.length ≤ out.length + (if done then 1 else 0))
    out.length ⟨H0, [], 0, false, rfl, hkn, KeepBut.refl _ _, by simp⟩ (by omega)
    (by
      rintro j s hj ⟨H, next, ver, done, rfl, h1, h2, h3⟩
      left
      have hx : out[j]? = some out[j] := by simp [hj]
      have c1 := h2 kc _ hnc hkc
      have o1 := h2 ko _ hno hko
      have h3' : next.length ≤ j + 1 := by cases done <;> simp at h3 <;> omega
      have hw : IntKind.i64.wrap ((j : Int) + 1) = ((j + 1 : Nat) : Int) := wrap_succ hj (by omega)
      have hi := fun {β : Type} (k : A → Option β) => idx_own u64C H ko vo 1 out.length out none (.s (.int .u64 out[j])) j out[j] .i64 rfl o1 hx rfl k
      simp only [ref09_IDs_l4, hs, List.getD_cons_zero, List.getD_cons_succ, oCmp_s, cmpInt_lss, if_true, oCond_s, Int.ofNat_lt, hj, decide_true, hi]
      by_cases hd : done = false ∧ c.id ≤ out[j]
      · obtain ⟨H1, e1, a1, b1⟩ := app1 u64C H kn ver 1 8 next.length next c.id none (.s (.int .u64 c.id)) rfl h1 rfl (by decide) (ok8 (by omega))
        have c2 := b1 kc _ hnc c1
        by_cases hne : out[j] = c.id
        · refine ⟨([.osl kn (ver + 1) 1 0 (next ++ [c.id]).length, .s (.bool true), .s (.int .i64 (j + 1 : Nat))], H1), ?_, H1, _, _, _, rfl, a1, h2.trans b1, ?_⟩
          · simp [-oNewSlice_eq, -asRows_cons, -asRows_nil, trim, hd, c1, c2, e1, ref09_IDs_k1, ref09_IDs_k2, ref09_IDs_k3, hne, hw]
          · simp [hd] at h3 ⊢; omega
        · obtain ⟨H2, e2, a2, b2⟩ := app1 u64C H1 kn (ver + 1) 1 8 (next.length + 1) (next ++ [c.id]) out[j] none (.s (.int .u64 out[j])) (by simp) a1 rfl (by decide) (ok8 (by simp; omega))
          refine ⟨([.osl kn (ver + 1 + 1) 1 0 (next ++ [c.id] ++ [out[j]]).length, .s (.bool true), .s (.int .i64 (j + 1 : Nat))], H2), ?_, H2, _, _, _, rfl, a2, (h2.trans b1).trans b2, ?_⟩
          · simp [-oNewSlice_eq, -asRows_cons, -asRows_nil, trim, hd, c1, c2, e1, e2, ref09_IDs_k1, ref09_IDs_k2, ref09_IDs_k3, hne, hw]
          · simp [hd] at h3 ⊢; omega
      · have hdl : done = true ∨ ¬ c.id ≤ out[j] := by
          by_cases h : c.id ≤ out[j]
          · left; cases done
            · exact absurd ⟨rfl, h⟩ hd
            · rfl
          · exact Or.inr h
        by_cases hne : out[j] = c.id
        · refine ⟨([.osl kn ver 1 0 next.length, .s (.bool done), .s (.int .i64 (j + 1 : Nat))], H), ?_, H, _, _, _, rfl, h1, h2, ?_⟩
          · rcases hdl with rfl | hdl
            · simp [-oNewSlice_eq, -asRows_cons, -asRows_nil, trim, c1, ref09_IDs_k1, ref09_IDs_k2, ref09_IDs_k3, hne, hw]
            · rw [hne] at hdl
              simp [-oNewSlice_eq, -asRows_cons, -asRows_nil, trim, hdl, c1, ref09_IDs_k1, ref09_IDs_k2, ref09_IDs_k3, hne, hw] at hdl ⊢
          · cases done <;> simp at h3 ⊢ <;> omega
        · obtain ⟨H2, e2, a2, b2⟩ := app1 u64C H kn ver 1 8 next.length next out[j] none (.s (.int .u64 out[j])) rfl h1 rfl (by decide) (ok8 (by omega))
          refine ⟨([.osl kn (ver + 1) 1 0 (next ++ [out[j]]).length, .s (.bool done), .s (.int .i64 (j + 1 : Nat))], H2), ?_, H2, _, _, _, rfl, a2, h2.trans b2, ?_⟩
          · rcases hdl with rfl | hdl
            · simp [-oNewSlice_eq, -asRows_cons, -asRows_nil, trim, c1, e2, ref09_IDs_k1, ref09_IDs_k2, ref09_IDs_k3, hne, hw]
            · cases done <;> simp [-oNewSlice_eq, -asRows_cons, -asRows_nil, trim, hdl, c1, e2, ref09_IDs_k1, ref09_IDs_k2, ref09_IDs_k3, hne, hw]
          · cases done <;> simp at h3 ⊢ <;> omega)
    (by
      rintro s ⟨H, next, ver, done, rfl, h1, h2, h3⟩
      exact ⟨_, by simp [ref09_IDs_l4, trim], H, next, ver, done, rfl, h1, h2, h3⟩)
  exact ⟨H, next, ver, done, fun k => hq k, h1, h2, h3⟩

/-- The loop over a label's categories. -/
theorem IDs_middle (H0 : Heap) (ko vo : Nat) (cats : List Cat) (out : List Int) (s6 : List A × Heap)
    (hko : H0[ko]? = some (.live ⟨vo, 1, out.map u64C⟩)) (hol : out.length + cats.length < 400000000) :
    ∃ (H : Heap) (next : List Int) (kn ver : Nat), (∀ {β : Type} (k : Ex → List A → Heap → Option β),
      oLoop (ref09_IDs_l7 (.s (.int .i64 cats.length)) (mkF 2 (cats.map catC)) H0) ([.osl ko vo 1 0 out.length, .s (.int .i64 0)], H0) k = k (.exit 2) [.osl kn ver 1 0 next.length] H) ∧
      H[kn]? = some (.live ⟨ver, 1, next.map u64C⟩) ∧ next.length ≤ out.length + cats.length := by
  obtain ⟨q, ⟨H, next, kn, ver, rfl, h1, h3⟩, hq⟩ := oLoop_inv' (step := ref09_IDs_l7 (.s (.int .i64 cats.length)) (mkF 2 (cats.map catC)) H0) (s0 := ([.osl ko vo 1 0 out.length, .s (.int .i64 0)], H0))
    (fun j s => ∃ (H : Heap) (next : List Int) (kn ver : Nat), s = ([.osl kn ver 1 0 next.length, .s (.int .i64 j)], H) ∧ H[kn]? = some (.live ⟨ver, 1, next.map u64C⟩) ∧ next.length ≤ out.length + j)
    (fun q => ∃ (H : Heap) (next : List Int) (kn ver : Nat), q = (.exit 2, [.osl kn ver 1 0 next.length], H) ∧ H[kn]? = some (.live ⟨ver, 1, next.map u64C⟩) ∧ next.length ≤ out.length + cats.length)
    cats.length ⟨H0, out, ko, vo, rfl, hko, by omega⟩ (by omega)
    (by
      rintro j s hj ⟨H, next, kn, ver, rfl, h1, h3⟩
      left
      have hx : cats[j]? = some cats[j] := by simp [hj]
      have hw : IntKind.i64.wrap ((j : Int) + 1) = ((j + 1 : Nat) : Int) := wrap_succ hj (by omega)
      have hlt := lt_of_some h1
      obtain ⟨H1, next1, ver1, done, e1, a1, b1, l1⟩ := IDs_inner (H ++ [.live ⟨0, 2, [catC cats[j]]⟩] ++ [.live ⟨0, 1, []⟩]) (H.length + 1) H.length kn ver cats[j] next
        ([.osl kn ver 1 0 next.length, .s (.int .i64 j)], H) rfl (by simp) (by simp) (by simp [List.getElem?_append_left hlt, h1]) (by omega) (by omega) (by omega)
      have c1 := b1 H.length (.live ⟨0, 2, [catC cats[j]]⟩) (by omega) (by simp)
      have hstep : ref09_IDs_l7 (.s (.int .i64 cats.length)) (mkF 2 (cats.map catC)) H0 ([.osl kn ver 1 0 next.length, .s (.int .i64 j)], H) =
          ref09_IDs_k6 (.ptr H.length 0 0 0) ([.osl kn ver 1 0 next.length, .s (.int .i64 j)], H) H0 (.exit 4) [.osl (H.length + 1) ver1 1 0 next1.length, .s (.bool done)] H1 := by
        refine Eq.trans ?_ (e1 _)
        simp [ref09_IDs_l7, hj, oIdxA_mkF _ _ _ _ _ _ _ hx]
      rw [hstep]
      cases done with
      | true =>
        refine ⟨([.osl (H.length + 1) ver1 1 0 next1.length, .s (.int .i64 (j + 1 : Nat))], H1), ?_, H1, _, _, _, rfl, a1, ?_⟩
        · simp [ref09_IDs_k6, ref09_IDs_k5, trim, hw]
        · simp at l1; omega
      | false =>
        obtain ⟨H2, e2, a2, b2⟩ := app1 u64C H1 (H.length + 1) ver1 1 8 next1.length next1 cats[j].id none (.s (.int .u64 cats[j].id)) rfl a1 rfl (by decide) (ok8 (by simp at l1; omega))
        refine ⟨([.osl (H.length + 1) (ver1 + 1) 1 0 (next1 ++ [cats[j].id]).length, .s (.int .i64 (j + 1 : Nat))], H2), ?_, H2, _, _, _, rfl, a2, ?_⟩
        · simp [-oNewSlice_eq, -asRows_cons, -asRows_nil, ref09_IDs_k6, ref09_IDs_k5, trim, hw, c1, e2]
        · simp at l1 ⊢; omega)
    (by
      rintro s ⟨H, next, kn, ver, rfl, h1, h3⟩
      exact ⟨_, by simp [ref09_IDs_l7, trim], H, next, kn, ver, rfl, h1, h3⟩)
  exact ⟨H, next, kn, ver, fun k => hq k, h1, h3⟩

theorem ref09_IDs_v (a b : Label) (ha : a.cats.length < 100000000) (hb : b.cats.length < 100000000) :
    ∃ (ids : List Int) (ver : Nat), ref09_IDs [.agg (labelC a ++ labelC b)] [] = some (.ok (.osl 0 ver 1 0 ids.length), [.live ⟨ver, 1, ids.map u64C⟩]) ∧ ids.length ≤ a.cats.length + b.cats.length := by
  have step : ∀ (l : Label) (i : Nat) (out : List Int) (kn ver : Nat) (H h4 : Heap), (i = 0 ∧ l = a ∨ i = 1 ∧ l = b) → H[kn]? = some (.live ⟨ver, 1, out.map u64C⟩) → out.length ≤ 200000000 →
      ∃ (H1 : Heap) (next : List Int) (kn1 ver1 : Nat), ref09_IDs_l9 (.agg (labelC a ++ labelC b)) h4 ([.osl kn ver 1 0 out.length, .s (.int .i64 i)], H) = some (.inl ([.osl kn1 ver1 1 0 next.length, .s (.int .i64 (i + 1 : Nat))], H1)) ∧
        H1[kn1]? = some (.live ⟨ver1, 1, next.map u64C⟩) ∧ next.length ≤ out.length + l.cats.length := by
    intro l i out kn ver H h4 hl hk ho
    have hlt := lt_of_some hk
    obtain ⟨H1, next, kn1, ver1, e1, a1, l1⟩ := IDs_middle (H ++ [.live ⟨0, 2, [labelC l]⟩]) kn ver l.cats out ([.osl kn ver 1 0 out.length, .s (.int .i64 i)], H) (by rw [List.getElem?_append_left hlt]; exact hk) (by rcases hl with ⟨_, rfl⟩ | ⟨_, rfl⟩ <;> omega)
    refine ⟨H1, next, kn1, ver1, ?_, a1, l1⟩
    have : ref09_IDs_l9 (.agg (labelC a ++ labelC b)) h4 ([.osl kn ver 1 0 out.length, .s (.int .i64 i)], H) = ref09_IDs_k8 ([.osl kn ver 1 0 out.length, .s (.int .i64 i)], H) h4 (.exit 2) [.osl kn1 ver1 1 0 next.length] H1 := by
      refine Eq.trans ?_ (e1 _)
      rcases hl with ⟨rfl, rfl⟩ | ⟨rfl, rfl⟩ <;> simp [ref09_IDs_l9, oIndex_agg, cellsAt, labelC]
    rw [this]
    rcases hl with ⟨rfl, rfl⟩ | ⟨rfl, rfl⟩ <;> simp [ref09_IDs_k8, trim] <;> decide
  obtain ⟨q, ⟨H, next, kn, ver, rfl, h1, h3⟩, hq⟩ := oLoop_inv' (step := ref09_IDs_l9 (.agg (labelC a ++ labelC b)) [.live ⟨0, 4, [labelC a ++ labelC b]⟩, .live ⟨0, 1, []⟩]) (s0 := ([.osl 1 0 1 0 0, .s (.int .i64 0)], [.live ⟨0, 4, [labelC a ++ labelC b]⟩, .live ⟨0, 1, []⟩]))
    (fun j s => ∃ (H : Heap) (next : List Int) (kn ver : Nat), s = ([.osl kn ver 1 0 next.length, .s (.int .i64 j)], H) ∧ H[kn]? = some (.live ⟨ver, 1, next.map u64C⟩) ∧ next.length ≤ (if 0 < j then a.cats.length else 0) + (if 1 < j then b.cats.length else 0))
    (fun q => ∃ (H : Heap) (next : List Int) (kn ver : Nat), q = (.exit 0, [.osl kn ver 1 0 next.length], H) ∧ H[kn]? = some (.live ⟨ver, 1, next.map u64C⟩) ∧ next.length ≤ a.cats.length + b.cats.length)
    2 ⟨_, [], 1, 0, rfl, rfl, by simp⟩ (by omega)
    (by
      rintro j s hj ⟨H, next, kn, ver, rfl, h1, h3⟩
      left
      have : j = 0 ∨ j = 1 := by omega
      rcases this with rfl | rfl
      · obtain ⟨H1, n1, k1, v1, e, a1, b1⟩ := step a 0 next kn ver H _ (Or.inl ⟨rfl, rfl⟩) h1 (by simp at h3; simp [h3])
        exact ⟨_, e, H1, n1, k1, v1, rfl, a1, by simp at h3 ⊢; simp [h3] at b1; omega⟩
      · obtain ⟨H1, n1, k1, v1, e, a1, b1⟩ := step b 1 next kn ver H _ (Or.inr ⟨rfl, rfl⟩) h1 (by simp at h3; omega)
        exact ⟨_, e, H1, n1, k1, v1, rfl, a1, by simp at h3 ⊢; omega⟩)
    (by
      rintro s ⟨H, next, kn, ver, rfl, h1, h3⟩
      exact ⟨_, by simp [ref09_IDs_l9, trim], H, next, kn, ver, rfl, h1, by simpa using h3⟩)
  refine ⟨next, ver, ?_, h3⟩
  refine Eq.trans ?_ ((hq (ref09_IDs_k10 [])).trans ?_)
  · simp [ref09_IDs, labelC, cellsAt]
  · simp only [ref09_IDs_k10, if_true, List.getD_cons_zero]
    exact finish_own kn ver 1 _ _ H h1 (idsRows_map _ (fun x => rfl) _) (fun f => renRows_map f _ (fun x => rfl) _)

/-- The level of a category. -/
def rlevel (l : Label) (id : Int) : Int :=
  match l.cats.find? (fun c => c.id == id) with
  | some c => c.level
  | none => l.df

theorem ref09_Level_v (l : Label) (id : Int) (hl : l.cats.length < 2 ^ 63) : ref09_Level [.agg (labelC l), .s (.int .u64 id)] [] = some (.ok (.s (.int .i64 (rlevel l id))), []) := by
  simp [ref09_Level]
  refine Eq.trans (oLoop_find (enc := fun i => ([.s (.int .i64 i)], [Slot.live ⟨0, 2, [labelC l]⟩])) (fun c => c.id == id)
    (fun c => (Ex.ret, [.s (.int .i64 c.level)], [Slot.live ⟨0, 2, [labelC l]⟩])) (Ex.exit 0, [.any], [Slot.live ⟨0, 2, [labelC l]⟩]) l.cats (by simp) hl ?_ ?_) ?_
  · intro i c hc hi
    simp [ref09_Level_l1, oIdxA_mkF _ _ _ _ _ _ _ hc, hi, wrap_succ hi hl, trim, allBelow]
  · simp [ref09_Level_l1, trim, allBelow]
  · unfold rlevel
    cases l.cats.find? (fun c => c.id == id) <;> simp [ref09_Level_k2, finish_val]

/-- A slice that is nil as long as it is empty. -/
def ownNil (H : Heap) (a : A) (sz : Nat) (rows : List (List A)) (bad : List Nat) : Prop :=
  (a = .s (.slice none 0 0) ∧ rows = []) ∨ ∃ id ver, a = .osl id ver sz 0 rows.length ∧ H[id]? = some (.live ⟨ver, sz, rows⟩) ∧ id ∉ bad

theorem Form_step (l : Label) (ids : List Int) (h15 H : Heap) (i : Nat) (hi : i < ids.length) (out : List Cat) (C : A) (hl : l.cats.length < 100000000) (ho : out.length < 200000000) (hn : ids.length < 2 ^ 63)
    (h0 : H[0]? = some (.live ⟨0, 2, [labelC l]⟩)) (h2 : H[2]? = some (.live ⟨0, 2, [[.s (.int .i64 l.df), C]]⟩)) (hC : ownNil H C 2 (out.map catC) [0, 1, 2]) :
    ∃ (H' : Heap) (C' : A) (out' : List Cat), ref09_Form_l2 (.s (.int .i64 ids.length)) (mkF 1 (ids.map u64C)) (.ptr 0 0 0 0) (.ptr 2 0 0 0) h15 ([.s (.int .i64 i)], H) = some (.inl ([.s (.int .i64 (i + 1 : Nat))], H')) ∧
      H'[0]? = some (.live ⟨0, 2, [labelC l]⟩) ∧ H'[2]? = some (.live ⟨0, 2, [[.s (.int .i64 l.df), C']]⟩) ∧ ownNil H' C' 2 (out'.map catC) [0, 1, 2] ∧ out'.length ≤ out.length + 1 ∧ H'[1]? = H[1]? := by
  have hx : ids[i]? = some ids[i] := by simp [hi]
  have hlv : ∀ (β : Type) (n0 : Nat) (wr : List Nat) (id : Int) (h : Heap) (k : A → Heap → Option β), oCallF n0 wr ref09_Level [.agg (labelC l), .s (.int .u64 id)] h k = k (.s (.int .i64 (rlevel l id))) h := fun β n0 wr id h k =>
    oCallF_val _ _ _ _ _ _ _ (by simp) (by simp) (ref09_Level_v l id (by omega))
  have hp0 := lt_of_some h0
  have hp2 := lt_of_some h2
  have a0 := app_some h0
  have a2 := app_some h2
  by_cases hd : rlevel l ids[i] = l.df
  · refine ⟨H, C, out, ?_, h0, h2, hC, by omega, rfl⟩
    simp [at_get h0, at_get h2, app_get' h0, app_get' h2, ref09_Form_l2, ref09_Form_k1, hi, oIdxA_mkF _ _ _ _ _ _ _ hx, oLoadD, h0, hp0, hlv, trim, hd, wrap_succ hi hn]
  · rcases hC with ⟨rfl, ho'⟩ | ⟨id, ver, rfl, hk, hb⟩
    · simp only [List.map_eq_nil_iff] at ho'
      subst ho'
      refine ⟨H.set 2 (.live ⟨0, 2, [[.s (.int .i64 l.df), .osl (H.length + 1) 0 2 0 1]]⟩) ++ [.live ⟨0, 2, [catC ⟨ids[i], rlevel l ids[i]⟩]⟩, .live ⟨0, 2, [catC ⟨ids[i], rlevel l ids[i]⟩]⟩], .osl (H.length + 1) 0 2 0 1, [⟨ids[i], rlevel l ids[i]⟩], ?_, ?_, ?_, ?_, ?_, ?_⟩
      · simp [at_get h0, at_get h2, app_get' h0, app_get' h2, ref09_Form_l2, ref09_Form_k1, hi, oIdxA_mkF _ _ _ _ _ _ _ hx, oLoadD, h0, h2, a0, a2, hp0, hp2, hlv, trim, hd, wrap_succ hi hn, oAppendD, oAppend_nil, place, app_len0, app_len1, set_len0, set_len1, List.replicate, wrL, wrA, idTop, ok16, putCells, catC, app_set' h2]
      · exact app_some (by rw [List.getElem?_set_ne (by decide)]; exact h0) _
      · exact app_some (List.getElem?_set_self hp2) _
      · exact Or.inr ⟨H.length + 1, 0, rfl, by rw [List.getElem?_append_right (by simp)]; simp, by simp only [List.mem_cons, List.not_mem_nil, or_false]; omega⟩
      · simp
      · rw [List.getElem?_append_left (by simp; omega), List.getElem?_set_ne (by decide)]
    · simp only [List.mem_cons, List.not_mem_nil, or_false, not_or] at hb
      obtain ⟨n0, n1, n2⟩ := hb
      have hpk := lt_of_some hk
      have hok : appendOk (out.length + 1) 16 := ok16 (by omega)
      have htk : List.take out.length (List.map catC out) = List.map catC out := List.take_of_length_le (by simp)
      refine ⟨(H.set id (.live ⟨ver + 1, 2, (out ++ [Cat.mk ids[i] (rlevel l ids[i])]).map catC⟩)).set 2 (.live ⟨0, 2, [[.s (.int .i64 l.df), .osl id (ver + 1) 2 0 (out.length + 1)]]⟩) ++ [.live ⟨0, 2, [catC ⟨ids[i], rlevel l ids[i]⟩]⟩, .res], .osl id (ver + 1) 2 0 (out.length + 1), out ++ [Cat.mk ids[i] (rlevel l ids[i])], ?_, ?_, ?_, ?_, ?_, ?_⟩
      · simp [at_get h0, at_get h2, app_get' h0, app_get' h2, at_get hk, app_get' hk, ref09_Form_l2, ref09_Form_k1, hi, oIdxA_mkF _ _ _ _ _ _ _ hx, oLoadD, h0, h2, hk, app_some hk, a0, a2, hp0, hp2, hpk, hlv, trim, hd, wrap_succ hi hn, oAppendD, oAppend_osl, place, app_len0, app_len1, set_len0, set_len1, List.replicate, wrL, wrA, idTop, ok16, putCells, catC, app_set' h2, app_set' hk, n0, n1, n2, Ne.symm n0, Ne.symm n2, hok, htk]
      · exact app_some (by rw [List.getElem?_set_ne (by decide), List.getElem?_set_ne n0]; exact h0) _
      · exact app_some (List.getElem?_set_self (by simpa using hp2)) _
      · exact Or.inr ⟨id, ver + 1, by simp, app_some (by rw [List.getElem?_set_ne (Ne.symm n2), List.getElem?_set_self hpk]) _, by simp [n0, n1, n2]⟩
      · simp
      · rw [List.getElem?_append_left (by simp; omega), List.getElem?_set_ne (by decide), List.getElem?_set_ne n1]

/-- The label in its form: some label. -/
theorem ref09_Form_v (l : Label) (hl : l.cats.length < 100000000) : ∃ (C : A) (r : Label) (objs : Heap), ref09_Form [.agg (labelC l)] [] = some (.ok (.agg [.s (.int .i64 r.df), C]), objs) ∧ r.df = l.df ∧ r.cats.length ≤ l.cats.length ∧
    ((C = .s (.slice none 0 0) ∧ r.cats = [] ∧ objs = []) ∨ ∃ ver, C = .osl 0 ver 2 0 r.cats.length ∧ objs = [.live ⟨ver, 2, r.cats.map catC⟩]) := by
  obtain ⟨ids, ver, hids, hidl⟩ := ref09_IDs_v l ⟨0, []⟩ hl (by simp)
  simp only [List.length_nil, Nat.add_zero] at hidl
  have hlend : lendL lendFuel [.agg (labelC l ++ [.s (.int .i64 0), .s (.slice none 0 0)])] [] = some [.agg (labelC l ++ labelC ⟨0, []⟩)] := by
    exact lend_agg _ _ _ (by simp [labelC]) (by simp) (by simp [labelC])
  have hput : putCells (labelC l ++ [A.s (Value.int IntKind.i64 0), A.s (Value.slice none 0 0)]) 2 [A.s (Value.int IntKind.i64 0), A.s (Value.slice none 0 0)] = labelC l ++ [.s (.int .i64 0), .s (.slice none 0 0)] := by
    simp [putCells, labelC]
  have hcall : ∀ (β : Type) (h : Heap) (kp k : A → Heap → Option β), oLend ref09_IDs [.agg (labelC l ++ [.s (.int .i64 0), .s (.slice none 0 0)])] h kp k = k (.osl h.length ver 1 0 ids.length) (h ++ [.live ⟨ver, 1, ids.map u64C⟩]) := fun β h kp k =>
    oLend_own _ _ _ _ _ _ _ _ _ _ (by simp) hlend (fun f => renRows_map f _ (fun x => rfl) _) hids
  have hfrz := fun (H : Heap) (k : A → Heap → Option (Out × Heap)) => oFrz_own (H ++ [.live ⟨ver, 1, ids.map u64C⟩]) H.length ver 1 ids.length (ids.map u64C) k (by simp) (by simp) (pureRows_map _ (fun x => rfl) _)
  let H0 : Heap := [.live ⟨0, 2, [labelC l]⟩, .live ⟨0, 2, [[.s (.int .i64 0), .s (.slice none 0 0)]]⟩, .live ⟨0, 2, [[.s (.int .i64 l.df), .s (.slice none 0 0)]]⟩, .dead]
  obtain ⟨q, ⟨H, C, out, rfl, h0, h1, h2, hC, hlen⟩, hq⟩ := oLoop_inv' (step := ref09_Form_l2 (.s (.int .i64 ids.length)) (mkF 1 (ids.map u64C)) (.ptr 0 0 0 0) (.ptr 2 0 0 0) H0) (s0 := ([.s (.int .i64 0)], H0))
    (fun i s => ∃ (H : Heap) (C : A) (out : List Cat), s = ([.s (.int .i64 i)], H) ∧ H[0]? = some (.live ⟨0, 2, [labelC l]⟩) ∧ H[1]? = H0[1]? ∧ H[2]? = some (.live ⟨0, 2, [[.s (.int .i64 l.df), C]]⟩) ∧ ownNil H C 2 (out.map catC) [0, 1, 2] ∧ out.length ≤ i)
    (fun q => ∃ (H : Heap) (C : A) (out : List Cat), q = (.exit 0, [], H) ∧ H[0]? = some (.live ⟨0, 2, [labelC l]⟩) ∧ H[1]? = H0[1]? ∧ H[2]? = some (.live ⟨0, 2, [[.s (.int .i64 l.df), C]]⟩) ∧ ownNil H C 2 (out.map catC) [0, 1, 2] ∧ out.length ≤ ids.length)
    ids.length ⟨H0, .s (.slice none 0 0), [], rfl, rfl, rfl, rfl, Or.inl ⟨rfl, rfl⟩, by simp⟩ (by omega)
    (by
      rintro i s hi ⟨H, C, out, rfl, h0, h1, h2, hC, hlen⟩
      left
      obtain ⟨H', C', out', e, g0, g2, gC, gl, g1⟩ := Form_step l ids H0 H i hi out C hl (by omega) (by omega) h0 h2 hC
      exact ⟨_, e, H', C', out', rfl, g0, g1.trans h1, g2, gC, by omega⟩)
    (by
      rintro s ⟨H, C, out, rfl, h0, h1, h2, hC, hlen⟩
      exact ⟨_, by simp [ref09_Form_l2, trim], H, C, out, rfl, h0, h1, h2, hC, hlen⟩)
  have hrun : ref09_Form [.agg (labelC l)] [] = ref09_Form_k3 (.ptr 2 0 0 0) (.ptr 1 0 0 0) [] (.exit 0) [] H := by
    refine Eq.trans ?_ (hq (ref09_Form_k3 (.ptr 2 0 0 0) (.ptr 1 0 0 0) []))
    simp [ref09_Form, hput]
    rw [hcall]
    refine (oFrz_own _ _ ver 1 ids.length (ids.map u64C) _ (by simp) (by simp) (pureRows_map _ (fun x => rfl) _)).trans ?_
    simp [H0]
  rw [hrun]
  have hp2 := lt_of_some h2
  have hp1 : 1 < H.length := by omega
  have h1' : H[1]? = some (.live ⟨0, 2, [[.s (.int .i64 0), .s (.slice none 0 0)]]⟩) := h1
  rcases hC with ⟨rfl, ho⟩ | ⟨id, ver', rfl, hk, hb⟩
  · simp only [List.map_eq_nil_iff] at ho
    subst ho
    refine ⟨_, ⟨l.df, []⟩, [], ?_, rfl, by simp, Or.inl ⟨rfl, rfl, rfl⟩⟩
    simp [ref09_Form_k3, at_get h1', at_get h2, h1', h2, hp1, hp2, cellsAt, finish_val]
  · simp only [List.mem_cons, List.not_mem_nil, or_false, not_or] at hb
    refine ⟨_, ⟨l.df, out⟩, _, ?_, rfl, by simp; omega, Or.inr ⟨ver', rfl, rfl⟩⟩
    simp [ref09_Form_k3, at_get h1', at_get h2, h1', h2, hp1, hp2, cellsAt]
    exact finish_one _ _ id _ _ (by simp) (by simp) (by rw [List.getElem?_set_ne (Ne.symm hb.2.1)]; exact hk) (idsRows_map _ (fun x => by simp) _) (fun f => renRows_map f _ (fun x => by simp [catC]) _)
end Go.Ab.T
