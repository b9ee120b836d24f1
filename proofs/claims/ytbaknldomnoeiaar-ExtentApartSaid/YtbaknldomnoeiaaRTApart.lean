import Derived.Test.YtbaknldomnoeiaaRTApartP
/-
  EXTENTS: each act keeps all sectors, each once.
-/
set_option linter.unusedSimpArgs false
set_option linter.unusedVariables false
namespace Go.Ab.T
open Go Go.Ab Go.Ab.F

/-- The map and the list of what was had. -/
def St (T : Int) (h : Heap) (x : A) : Prop := ∃ L v had fs ls p q, x = .osl L v 2 0 had.length ∧ MapP h 0 [L] T fs ls p q ∧ WH 0 h ∧ h[L]? = some (.live ⟨v, 2, had.map extentC⟩) ∧ Inv T had fs ls

theorem St.trim {T : Int} {h : Heap} {x : A} (hS : St T h x) (vs : List A) (n : Nat) (hm : 0 < n) (hn : n ≤ h.length) (hx : x ∈ vs) : ∃ h', Go.Ab.trim true n vs h = some (vs, h') ∧ St T h' x ∧ n ≤ h'.length := by
  obtain ⟨L, v, had, fs, ls, p, q, rfl, hM, hW, hL, iv⟩ := hS
  have hid : L ∈ idsL vs := by
    induction vs with
    | nil => cases hx
    | cons a vs ih =>
      rcases List.mem_cons.1 hx with h | h
      · subst h; simp
      · simp [ih h]
  obtain ⟨h', t1, t2, t3, t4, t5⟩ := trim_had hM hW vs n hm hn hid
  exact ⟨h', t1, ⟨L, v, had, fs, ls, p, q, rfl, t2, t3, by rw [t5]; exact hL, iv⟩, t4⟩

theorem alloc_facts {T : Int} (h0 : 0 ≤ T) (hT : T ≤ 1024) {fs : List Extent} (hw : WFx 0 T fs) (ls : List Extent) (n : Int) :
    ∃ y e fs1, OpSpec extent_Map_Alloc [.s (.int .i64 n)] T fs ls (.tup [.agg (extentC y), .s (.int .i64 e)]) fs1 ls ∧ ((e ≠ 0 ∧ fs1 = fs) ∨ (e = 0 ∧ okE T y ∧ WFx 0 T fs1 ∧ (∀ i, cov i fs1 + c1 i y = cov i fs) ∧ sumL fs1 + y.len = sumL fs)) := by
  by_cases h1 : n < 1
  · exact ⟨_, 72, _, alloc_lt1 T fs ls n h1, .inl ⟨by decide, rfl⟩⟩
  · by_cases h2 : fs = []
    · subst h2; exact ⟨_, 73, _, alloc_nil T ls n (by omega), .inl ⟨by decide, rfl⟩⟩
    · obtain ⟨g1, g2, g3, g4, g5, g6⟩ := got_facts hT hw (by omega : 1 ≤ n) h2
      refine ⟨_, 0, _, alloc_ok T fs ls n (by omega) h2 (wf_short h0 hT hw), .inr ⟨rfl, ⟨g1, g3, g4⟩, cut_wf _ (by omega) g5 g1 (by omega) hw, fun i => cov_cut i _ (by omega : T ≤ 10000) g5 g1 (by omega) hw g6, ?_⟩⟩
      have := cut_sum _ (by omega : T ≤ 10000) g5 g1 (by omega) hw g6
      omega

theorem Inv.add {T : Int} {had fs ls fs1 : List Extent} (iv : Inv T had fs ls) {y : Extent} (hy : okE T y) (hw : WFx 0 T fs1) (hc : ∀ i, cov i fs1 + c1 i y = cov i fs) (hs : sumL fs1 + y.len = sumL fs) : Inv T (had ++ [y]) fs1 ls := by
  refine ⟨hw, iv.l, ?_, fun i h0 h1 => ?_, ?_⟩
  · intro x hx
    rcases List.mem_append.1 hx with hx | hx
    · exact iv.h x hx
    · simp at hx; subst hx; exact hy
  · have := iv.c i h0 h1
    have := hc i
    rw [cov_app]; simp only [cov]; omega
  · have := iv.s
    rw [sumL_app]; simp only [sumL]; omega
theorem Inv.adds {T : Int} {had fs ls fs1 out : List Extent} (iv : Inv T had fs ls) (hy : ∀ x ∈ out, okE T x) (hw : WFx 0 T fs1) (hc : ∀ i, cov i fs1 + cov i out = cov i fs) (hs : sumL fs1 + sumL out = sumL fs) : Inv T (had ++ out) fs1 ls := by
  refine ⟨hw, iv.l, ?_, fun i h0 h1 => ?_, ?_⟩
  · intro x hx
    rcases List.mem_append.1 hx with hx | hx
    · exact iv.h x hx
    · exact hy x hx
  · have := iv.c i h0 h1
    have := hc i
    rw [cov_app]; omega
  · have := iv.s
    rw [sumL_app]; omega

theorem Inv.taken {T : Int} (hT : T ≤ 1024) {r fs ls : List Extent} {y : Extent} (iv : Inv T (y :: r) fs ls) : takenB T fs ls y = true ∧ Inv T r (putS fs y) ls ∧ Inv T r fs (putS ls y) := by
  have oy : okE T y := iv.h y (by simp)
  have he := okE_end hT oy
  have c1' : ∀ i, 0 ≤ i → i < T → cov i fs + c1 i y ≤ 1 := fun i h0 h1 => by have := iv.c i h0 h1; simp only [cov] at this; omega
  have c2' : ∀ i, 0 ≤ i → i < T → cov i ls + c1 i y ≤ 1 := fun i h0 h1 => by have := iv.c i h0 h1; simp only [cov] at this; omega
  have m1 := no_meet hT oy iv.f c1'
  have m2 := no_meet hT oy iv.l c2'
  have s1 := fun i => put_same (by omega : T ≤ 10000) i y he oy.1 oy.2.2 (Int.le_refl 0) oy.2.1 iv.f m1
  have s2 := fun i => put_same (by omega : T ≤ 10000) i y he oy.1 oy.2.2 (Int.le_refl 0) oy.2.1 iv.l m2
  refine ⟨by simp [takenB, okE_there hT oy, m1, m2], ⟨put_wf (by omega) y he oy.1 oy.2.2 (by omega) oy.2.1 iv.f m1, iv.l, fun x hx => iv.h x (by simp [hx]), fun i h0 h1 => ?_, ?_⟩, ⟨iv.f, put_wf (by omega) y he oy.1 oy.2.2 (by omega) oy.2.1 iv.l m2, fun x hx => iv.h x (by simp [hx]), fun i h0 h1 => ?_, ?_⟩⟩
  · have a := iv.c i h0 h1
    have b := (s1 i).1
    simp only [cov] at a; omega
  · have a := iv.s
    have b := (s1 0).2
    simp only [sumL] at a; omega
  · have a := iv.c i h0 h1
    have b := (s2 i).1
    simp only [cov] at a; omega
  · have a := iv.s
    have b := (s2 0).2
    simp only [sumL] at a; omega

section
variable {T : Int} (h0 : 0 ≤ T) (hT : T ≤ 1024) {h : Heap} {x i0 : A} (hS : St T h x) (a : ActX)
include h0 hT hS

theorem act_alloc (hk : a.kind = 0 ∨ a.kind = 2) (hh : Heap) : ∃ x' h', law07_ExtentApart_k6 (.ptr h.length 0 0 0) (.ptr 0 0 0 0) ([x, i0], hh) (h ++ [xa a]) (.s (.int .i64 a.kind)) .normal [.s (.bool true)] (h ++ [xa a]) = some (.normal, [.any, x'], h') ∧ St T h' x' ∧ h.length + 1 ≤ h'.length := by
  obtain ⟨L, v, had, fs, ls, p, q, rfl, hM, hW, hL, iv⟩ := hS
  obtain ⟨s1, s2, s3⟩ := iv.short hT
  have hlt := lt_of_some hL
  have hLn := fun (k : A → Option (Ex × List A × Heap)) => ldA1 (at1 h (xa a) []) k
  have hMa : MapP (h ++ [xa a]) 0 [L] T fs ls p q := mapP_sub (mapP_app hM [xa a] [] (by simp)) (by simp)
  have hWa : WH 0 (h ++ [xa a]) := wh_app hW _ (by intro s hs; simp at hs; subst hs; simp [xa, flatS])
  obtain ⟨y, e, fs1, hA, hf⟩ := alloc_facts h0 hT iv.f ls a.n
  obtain ⟨h1, p1, q1, m1, f1, l1, w1, c1⟩ := oCall_map hA (by simp) (by simp) hMa (by simp; omega)
  have hW1 := w1 hWa
  have b1 := fun (kp k : A → Heap → Option (Ex × List A × Heap)) => c1 kp k
  have hL1 : h1[L]? = some (.live ⟨v, 2, had.map extentC⟩) := by rw [f1 L (by simp), List.getElem?_append_left hlt]; exact hL
  have hlt1 := lt_of_some hL1
  have hz2 : [A.s (.int .i64 0), .s (.int .i64 0)] = extentC ⟨0, 0⟩ := rfl
  have hNx := fun (k : A → Heap → Option (Ex × List A × Heap)) => new_xs ⟨0, 0⟩ h1 k
  have hSx := fun (k : Heap → Option (Ex × List A × Heap)) => stE (at1 h1 (xs ⟨0, 0⟩) []) y k
  rw [set1] at hSx
  have hLx := fun (k : A → Option (Ex × List A × Heap)) => ldE (at1 h1 (xs y) []) k
  have m2 : MapP (h1 ++ [xs y]) 0 [L] T fs1 ls p1 q1 := mapP_sub (mapP_app m1 [xs y] [] (by simp)) (by simp)
  have hW2 : WH 0 (h1 ++ [xs y]) := wh_app hW1 _ (by intro s hs; simp at hs; subst hs; exact xs_flat y)
  have hL2 : (h1 ++ [xs y])[L]? = some (.live ⟨v, 2, had.map extentC⟩) := by rw [List.getElem?_append_left hlt1]; exact hL1
  simp at l1
  rcases hf with ⟨he, rfl⟩ | ⟨rfl, oy, hw1, hc, hs⟩
  · obtain ⟨h', t1, t2, t3⟩ := St.trim (T := T) (h := h1 ++ [xs y]) (x := .osl L v 2 0 had.length) ⟨L, v, had, _, ls, p1, q1, rfl, m2, hW2, hL2, iv⟩ [.any, .osl L v 2 0 had.length] (h.length + 1) (by omega) (by simp; omega) (by simp)
    refine ⟨_, h', ?_, t2, t3⟩
    simp [-oLoad_ptr, -oStore_ptr, -oNew_agg, law07_ExtentApart_k6, hLn, b1, hz2, hNx, hSx, he, t1]
  · have hNs : ∀ (k : A → Heap → Option (Ex × List A × Heap)), oNewSlice none 2 (some [extentC y]) (h1 ++ [xs y]) k = k (.osl (h1 ++ [xs y]).length 0 2 0 1) (h1 ++ [xs y] ++ [xs y]) := fun k => by
      simp [xs]
    have hAp := fun (k : A → Heap → Option (Ex × List A × Heap)) => app_x (x := y) hL2 (by constructor <;> omega) k
    have m3 : MapP (h1 ++ [xs y] ++ [xs y]) 0 [L] T fs1 ls p1 q1 := mapP_sub (mapP_app m2 [xs y] [] (by simp)) (by simp)
    have hW3 : WH 0 (h1 ++ [xs y] ++ [xs y]) := wh_app hW2 _ (by intro s hs; simp at hs; subst hs; exact xs_flat y)
    have m4 := mapP_setX m3 (x := L) (by simp) (.live ⟨v + 1, 2, (had ++ [y]).map extentC⟩)
    have hW4 := wh_setX hW3 L (.live ⟨v + 1, 2, (had ++ [y]).map extentC⟩) (ext_flat _ _)
    obtain ⟨h', t1, t2, t3⟩ := St.trim (T := T) (x := .osl L (v + 1) 2 0 (had ++ [y]).length) ⟨L, v + 1, had ++ [y], _, ls, p1, q1, rfl, m4, hW4, List.getElem?_set_self (by simp; omega), iv.add oy hw1 hc hs⟩ [.any, .osl L (v + 1) 2 0 (had ++ [y]).length] (h.length + 1) (by omega) (by simp; omega) (by simp)
    refine ⟨_, h', ?_, t2, t3⟩
    rw [List.length_append, List.length_singleton] at t1 ⊢
    simp [-oLoad_ptr, -oStore_ptr, -oNew_agg, -oNewSlice_eq, -List.append_assoc, -List.map_append, -List.length_append, law07_ExtentApart_k6, hLn, b1, hz2, hNx, hSx, hLx, asRows, hNs, hAp]
    rw [show (h ++ [xa a]).length = h.length + 1 by simp, t1]
end
end Go.Ab.T

/-
  EXTENTS: each act keeps all sectors, each once: all of so many, what is given back, the commit.
-/
set_option linter.unusedSimpArgs false
set_option linter.unusedVariables false
set_option linter.unusedSectionVars false
namespace Go.Ab.T
open Go Go.Ab Go.Ab.F

theorem apart_sum {T : Int} {H : Heap} {X : List Nat} {fs ls : List Extent} {p q : Option (Nat × Nat)} (hM : MapP H 0 X T fs ls p q) (hW : WH 0 H) (out : List Extent) (hl : out.length < 900000) (hx : ∀ x ∈ out, 0 ≤ x.len) (h0 : 0 ≤ sumL out) (h1 : sumL out ≤ 90000) :
    ∃ H', MapP H' 0 X T fs ls p q ∧ WH 0 H' ∧ H.length ≤ H'.length ∧ (∀ x, x < H.length → H'[x]? = H[x]?) ∧ ∀ (k : Ex → List A → Heap → Option (Ex × List A × Heap)), oLoop (law07_ExtentApart_l1 (.s (.int .i64 out.length)) (mkF 2 (out.map extentC)) H) ([.s (.int .i64 0), .s (.int .i64 0)], H) k = k (.exit 3) [.s (.int .i64 (sumL out))] H' := by
  have hlt := lt_of_some hM.at_
  obtain ⟨Q, ⟨H', rfl, hM', hW', hl', hk'⟩, hq⟩ := oLoop_inv' (step := law07_ExtentApart_l1 (.s (.int .i64 out.length)) (mkF 2 (out.map extentC)) H) (s0 := ([.s (.int .i64 0), .s (.int .i64 0)], H))
    (fun i s => ∃ h, s = ([.s (.int .i64 ((out.take i).foldl (fun n x => IntKind.i64.wrap (n + x.len)) 0)), .s (.int .i64 i)], h) ∧ MapP h 0 X T fs ls p q ∧ WH 0 h ∧ H.length ≤ h.length ∧ ∀ x, x < H.length → h[x]? = H[x]?)
    (fun Q => ∃ h, Q = (.exit 3, [.s (.int .i64 (sumL out))], h) ∧ MapP h 0 X T fs ls p q ∧ WH 0 h ∧ H.length ≤ h.length ∧ ∀ x, x < H.length → h[x]? = H[x]?) out.length
    ⟨H, rfl, hM, hW, Nat.le_refl _, fun _ _ => rfl⟩ (by omega)
    (by
      rintro i s hi ⟨h, rfl, hM', hW', hl', hk'⟩
      left
      have hx : out[i]? = some out[i] := List.getElem?_eq_getElem hi
      have hfold : (out.take (i + 1)).foldl (fun n x => IntKind.i64.wrap (n + x.len)) 0 = IntKind.i64.wrap ((out.take i).foldl (fun n x => IntKind.i64.wrap (n + x.len)) 0 + out[i].len) := by
        rw [List.take_add_one, hx, Option.toList_some, List.foldl_append]; rfl
      generalize out[i] = x at hx hfold
      generalize (out.take i).foldl (fun n x => IntKind.i64.wrap (n + x.len)) 0 = n at hfold
      have hw := wrap_succ hi (by omega)
      have hz : [A.s (.int .i64 0), .s (.int .i64 0)] = extentC ⟨0, 0⟩ := rfl
      have hN := fun (k : A → Heap → Option ((List A × Heap) ⊕ (Ex × List A × Heap))) => new_xs ⟨0, 0⟩ h k
      have hS := fun (k : Heap → Option ((List A × Heap) ⊕ (Ex × List A × Heap))) => stE (at1 h (xs ⟨0, 0⟩) []) x k
      rw [set1] at hS
      have hL := fun (k : A → Option ((List A × Heap) ⊕ (Ex × List A × Heap))) => ldLen (at1 h (xs x) []) k
      have m1 : MapP (h ++ [xs x]) 0 X T fs ls p q := mapP_sub (mapP_app hM' [xs x] [] (by simp)) (by simp)
      have w1 : WH 0 (h ++ [xs x]) := wh_app hW' _ (by intro s hs; simp at hs; subst hs; exact xs_flat x)
      obtain ⟨h2, t1, t2, t3, t4, t5⟩ := trim_any m1 w1 [.s (.int .i64 (IntKind.i64.wrap (n + x.len))), .s (.int .i64 (i + 1 : Nat))] H.length hlt (by simp; omega)
      simp only [Int.natCast_add, Int.cast_ofNat_Int] at t1
      refine ⟨([.s (.int .i64 (IntKind.i64.wrap (n + x.len))), .s (.int .i64 (i + 1 : Nat))], h2), ?_, h2, by rw [hfold], t2, t3, t4, fun y hy => by rw [t5 y hy, List.getElem?_append_left (by omega)]; exact hk' y hy⟩
      simp [-oLoad_ptr, -oStore_ptr, -oNew_agg, law07_ExtentApart_l1, hi, oIdxA_mkF _ _ _ _ _ _ _ hx, hz, hN, hS, hL, hw, t1])
    (by
      rintro s ⟨h, rfl, hM', hW', hl', hk'⟩
      rw [List.take_length, count_foldl out 0 (by omega) hx (by omega) h0, Int.zero_add]
      obtain ⟨h2, t1, t2, t3, t4, t5⟩ := trim_any hM' hW' [.s (.int .i64 (sumL out))] H.length hlt hl'
      refine ⟨(.exit 3, [.s (.int .i64 (sumL out))], h2), ?_, h2, rfl, t2, t3, t4, fun y hy => by rw [t5 y hy]; exact hk' y hy⟩
      simp [law07_ExtentApart_l1, t1])
  exact ⟨H', hM', hW', hl', hk', fun k => hq k⟩

section
variable {T : Int} (h0 : 0 ≤ T) (hT : T ≤ 1024) {h : Heap} {x i0 : A} (hS : St T h x) (a : ActX)
include h0 hT hS

theorem act_all (hk : a.kind = 1) (hh : Heap) : ∃ x' h', law07_ExtentApart_k6 (.ptr h.length 0 0 0) (.ptr 0 0 0 0) ([x, i0], hh) (h ++ [xa a]) (.s (.int .i64 a.kind)) .normal [.s (.bool false)] (h ++ [xa a]) = some (.normal, [.any, x'], h') ∧ St T h' x' ∧ h.length + 1 ≤ h'.length := by
  obtain ⟨L, v, had, fs, ls, p, q, rfl, hM, hW, hL, iv⟩ := hS
  obtain ⟨s1, s2, s3⟩ := iv.short hT
  have hlt := lt_of_some hL
  have hLn := fun (k : A → Option (Ex × List A × Heap)) => ldA1 (at1 h (xa a) []) k
  have hMa : MapP (h ++ [xa a]) 0 [L, h.length] T fs ls p q := mapP_app hM [xa a] [h.length] (by simp)
  have hWa : WH 0 (h ++ [xa a]) := wh_app hW _ (by intro s hs; simp at hs; subst hs; simp [xa, flatS])
  have hcs := count_sum iv.f (by omega)
  have hsum := WFx_sum iv.f
  have hlen2 : (h ++ [xa a]).length = h.length + 1 := by simp
  by_cases hn : sumL fs < a.n
  · obtain ⟨h1, p1, q1, m1, f1, l1, w1, c1⟩ := oCall_map (all_no T fs ls a.n (by rw [hcs]; exact hn) (wf_short h0 hT iv.f)) (by simp) (by simp) hMa (by simp; omega)
    have b1 := fun (kp k : A → Heap → Option (Ex × List A × Heap)) => c1 kp k
    have hL1 : h1[L]? = some (.live ⟨v, 2, had.map extentC⟩) := by rw [f1 L (by simp), List.getElem?_append_left hlt]; exact hL
    rw [hlen2] at l1
    obtain ⟨h2, m2, w2, l2, k2, c2⟩ := apart_sum m1 (w1 hWa) [] (by simp) (by simp) (by simp [sumL]) (by simp [sumL])
    simp only [List.map_nil, mkF_nil, List.length_nil, sumL, Int.cast_ofNat_Int] at c2
    have hL2 : h2[L]? = some (.live ⟨v, 2, had.map extentC⟩) := by rw [k2 L (by omega)]; exact hL1
    have hlt2 := lt_of_some hL2
    have hAp := fun (k : A → Heap → Option (Ex × List A × Heap)) => app_rows (M := []) (src := .fsl 0 []) hL2 (by simp) (by simp; omega) k
    have m4 := mapP_setX m2 (x := L) (by simp) (.live ⟨v + 1, 2, (had ++ []).map extentC⟩)
    have hW4 := wh_setX w2 L (.live ⟨v + 1, 2, (had ++ []).map extentC⟩) (ext_flat _ _)
    obtain ⟨h', t1, t2, t3⟩ := St.trim (T := T) (x := .osl L (v + 1) 2 0 (had ++ []).length) ⟨L, v + 1, had ++ [], _, ls, p1, q1, rfl, mapP_sub m4 (by simp), hW4, List.getElem?_set_self (by omega), by rw [List.append_nil]; exact iv⟩ [.any, .osl L (v + 1) 2 0 (had ++ []).length] (h.length + 1) (by omega) (by simp; omega) (by simp)
    have hts : ∀ vs : List A, trim true h2.length vs h2 = some (vs, h2) := fun vs => trim_self _ _ _ _ rfl
    refine ⟨_, h', ?_, t2, t3⟩
    rw [List.append_nil] at t1 hAp ⊢
    simp [-oLoad_ptr, -oStore_ptr, -oNew_agg, -oNewSlice_eq, law07_ExtentApart_k6, hk, hLn, b1, frz_no, c2, law07_ExtentApart_k3, law07_ExtentApart_k2, hts, hAp, t1]
  · obtain ⟨out, fs', a1, _, _, _, _, a6⟩ := all_exists hT a.n.toNat a.n fs (by omega) iv.f (by omega)
    obtain ⟨r1, r2, r3, r4, r5⟩ := all_facts hT a1 iv.f (by omega)
    have ho : out.length < 900000 := by split at a6 <;> omega
    obtain ⟨h1, p1, q1, m1, f1, l1, w1, c1⟩ := oCall_map_all (all_ok T fs ls out fs' a.n a1 (by rw [hcs]; omega) (wf_short h0 hT iv.f) (by omega)) (by simp) hMa (by simp; omega)
    have b1 := fun (kp k : A → Heap → Option (Ex × List A × Heap)) => c1 kp k
    have hL1 : h1[L]? = some (.live ⟨v, 2, had.map extentC⟩) := by rw [f1 L (by simp), List.getElem?_append_left hlt]; exact hL
    have ha1 : h1[h.length]? = some (xa a) := by rw [f1 h.length (by simp)]; exact at1 h (xa a) []
    rw [hlen2] at l1
    have hs2 : 0 ≤ sumL out ∧ sumL out ≤ 90000 := by rw [r5]; split <;> omega
    obtain ⟨h2, m2, w2, l2, k2, c2⟩ := apart_sum m1 (w1 hWa) out ho (fun x hx => by have := (r2 x hx).1; omega) hs2.1 hs2.2
    have hL2 : h2[L]? = some (.live ⟨v, 2, had.map extentC⟩) := by rw [k2 L (by omega)]; exact hL1
    have ha2 : h2[h.length]? = some (xa a) := by rw [k2 _ (by omega)]; exact ha1
    have hLn2 := fun (k : A → Option (Ex × List A × Heap)) => ldA1 ha2 k
    have hlt2 := lt_of_some hL2
    have hAp := fun (k : A → Heap → Option (Ex × List A × Heap)) => app_rows (M := out) (src := mkF 2 (out.map extentC)) hL2 (by simp) (by omega) k
    have m4 := mapP_setX m2 (x := L) (by simp) (.live ⟨v + 1, 2, (had ++ out).map extentC⟩)
    have hW4 := wh_setX w2 L (.live ⟨v + 1, 2, (had ++ out).map extentC⟩) (ext_flat _ _)
    obtain ⟨h', t1, t2, t3⟩ := St.trim (T := T) (x := .osl L (v + 1) 2 0 (had ++ out).length) ⟨L, v + 1, had ++ out, _, ls, p1, q1, rfl, mapP_sub m4 (by simp), hW4, List.getElem?_set_self (by omega), iv.adds r2 r1 r3 r4⟩ [.any, .osl L (v + 1) 2 0 (had ++ out).length] (h.length + 1) (by omega) (by simp; omega) (by simp)
    have hts : ∀ vs : List A, trim true h2.length vs h2 = some (vs, h2) := fun vs => trim_self _ _ _ _ rfl
    refine ⟨_, h', ?_, t2, t3⟩
    simp only [List.length_append] at t1 hAp ⊢
    simp [-oLoad_ptr, -oStore_ptr, -oNew_agg, -oNewSlice_eq, -List.map_append, law07_ExtentApart_k6, hk, hLn, b1, c2, law07_ExtentApart_k3, law07_ExtentApart_k2, hts, hLn2, r5, hAp, t1]

theorem act_commit (hk : a.kind = 5) (hh : Heap) : ∃ x' h', law07_ExtentApart_k6 (.ptr h.length 0 0 0) (.ptr 0 0 0 0) ([x, i0], hh) (h ++ [xa a]) (.s (.int .i64 a.kind)) .normal [.s (.bool false)] (h ++ [xa a]) = some (.normal, [.any, x'], h') ∧ St T h' x' ∧ h.length + 1 ≤ h'.length := by
  obtain ⟨L, v, had, fs, ls, p, q, rfl, hM, hW, hL, iv⟩ := hS
  obtain ⟨s1, s2, s3⟩ := iv.short hT
  have hlt := lt_of_some hL
  have hMa : MapP (h ++ [xa a]) 0 [L] T fs ls p q := mapP_sub (mapP_app hM [xa a] [] (by simp)) (by simp)
  have hWa : WH 0 (h ++ [xa a]) := wh_app hW _ (by intro s hs; simp at hs; subst hs; simp [xa, flatS])
  have hlen2 : (h ++ [xa a]).length = h.length + 1 := by simp
  obtain ⟨h1, p1, q1, m1, f1, l1, w1, c1⟩ := oCall_map (commit_ok T fs ls (by omega)) (by simp) (by simp) hMa (by simp; omega)
  have b1 := fun (kp k : A → Heap → Option (Ex × List A × Heap)) => c1 kp k
  have hL1 : h1[L]? = some (.live ⟨v, 2, had.map extentC⟩) := by rw [f1 L (by simp), List.getElem?_append_left hlt]; exact hL
  rw [hlen2] at l1
  obtain ⟨r1, r2, r3⟩ := commit_facts hT iv.f (okE_mem iv.l) (fun i a b => by have := iv.c i a b; omega)
  have iv2 : Inv T had (ls.foldl putS fs) [] := ⟨r1, h0, iv.h, fun i a b => by have := iv.c i a b; have := r2 i a b; simp only [cov]; omega, by have := iv.s; simp only [sumL]; omega⟩
  obtain ⟨h', t1, t2, t3⟩ := St.trim (T := T) (x := .osl L v 2 0 had.length) ⟨L, v, had, _, _, p1, q1, rfl, m1, w1 hWa, hL1, iv2⟩ [.any, .osl L v 2 0 had.length] (h.length + 1) (by omega) (by omega) (by simp)
  have hts : ∀ vs : List A, trim true (h.length + 1) vs (h ++ [xa a]) = some (vs, h ++ [xa a]) := fun vs => trim_self _ _ _ _ (by simp)
  refine ⟨_, h', ?_, t2, t3⟩
  have hfz : ∀ (h : Heap) (k : A → Heap → Option (Ex × List A × Heap)), oFrz (.s (.tuple #[])) h k = k (.s (.tuple #[])) h := fun h k => rfl
  simp [-oLoad_ptr, -oStore_ptr, -oNew_agg, -oNewSlice_eq, law07_ExtentApart_k6, law07_ExtentApart_k5, hk, b1, hts, hfz, t1]

theorem act_none (hk : a.kind ≠ 0 ∧ a.kind ≠ 1 ∧ a.kind ≠ 2 ∧ a.kind ≠ 3 ∧ a.kind ≠ 4 ∧ a.kind ≠ 5) (hh : Heap) : ∃ x' h', law07_ExtentApart_k6 (.ptr h.length 0 0 0) (.ptr 0 0 0 0) ([x, i0], hh) (h ++ [xa a]) (.s (.int .i64 a.kind)) .normal [.s (.bool false)] (h ++ [xa a]) = some (.normal, [.any, x'], h') ∧ St T h' x' ∧ h.length + 1 ≤ h'.length := by
  obtain ⟨k0, k1, k2, k3, k4, k5⟩ := hk
  obtain ⟨L, v, had, fs, ls, p, q, rfl, hM, hW, hL, iv⟩ := hS
  have hlt := lt_of_some hL
  have hMa : MapP (h ++ [xa a]) 0 [L] T fs ls p q := mapP_sub (mapP_app hM [xa a] [] (by simp)) (by simp)
  have hWa : WH 0 (h ++ [xa a]) := wh_app hW _ (by intro s hs; simp at hs; subst hs; simp [xa, flatS])
  obtain ⟨h', t1, t2, t3⟩ := St.trim (T := T) (x := .osl L v 2 0 had.length) ⟨L, v, had, _, _, p, q, rfl, hMa, hWa, by rw [List.getElem?_append_left hlt]; exact hL, iv⟩ [.any, .osl L v 2 0 had.length] (h.length + 1) (by omega) (by simp) (by simp)
  have hts : ∀ vs : List A, trim true (h.length + 1) vs (h ++ [xa a]) = some (vs, h ++ [xa a]) := fun vs => trim_self _ _ _ _ (by simp)
  refine ⟨_, h', ?_, t2, t3⟩
  simp [-oLoad_ptr, -oStore_ptr, -oNew_agg, -oNewSlice_eq, law07_ExtentApart_k6, law07_ExtentApart_k5, k0, k1, k2, k3, k4, k5, hts]
  rw [trim_self _ _ _ _ (by simp)] at t1
  cases t1; rfl
end
end Go.Ab.T

/-
  EXTENTS: nothing is given twice: what is given back, each act, the law.
-/
set_option linter.unusedSimpArgs false
set_option linter.unusedVariables false
set_option linter.unusedSectionVars false
namespace Go.Ab.T
open Go Go.Ab Go.Ab.F

section
variable {T : Int} (h0 : 0 ≤ T) (hT : T ≤ 1024) {h : Heap} {x i0 : A} (hS : St T h x) (a : ActX)
include h0 hT hS

set_option maxHeartbeats 1000000 in
theorem act_back (hk : a.kind = 3 ∨ a.kind = 4) (hh : Heap) : ∃ E x' h', law07_ExtentApart_k6 (.ptr h.length 0 0 0) (.ptr 0 0 0 0) ([x, i0], hh) (h ++ [xa a]) (.s (.int .i64 a.kind)) .normal [.s (.bool false)] (h ++ [xa a]) = some (E, [.any, x'], h') ∧ (E = .normal ∨ E = .exit 1) ∧ St T h' x' ∧ h.length + 1 ≤ h'.length := by
  obtain ⟨L, v, had, fs, ls, p, q, rfl, hM, hW, hL, iv⟩ := hS
  obtain ⟨s1, s2, s3⟩ := iv.short hT
  have hlt := lt_of_some hL
  have hMa : MapP (h ++ [xa a]) 0 [L] T fs ls p q := mapP_sub (mapP_app hM [xa a] [] (by simp)) (by simp)
  have hWa : WH 0 (h ++ [xa a]) := wh_app hW _ (by intro s hs; simp at hs; subst hs; simp [xa, flatS])
  have hLa : (h ++ [xa a])[L]? = some (.live ⟨v, 2, had.map extentC⟩) := by rw [List.getElem?_append_left hlt]; exact hL
  have hts : ∀ vs : List A, trim true (h.length + 1) vs (h ++ [xa a]) = some (vs, h ++ [xa a]) := fun vs => trim_self _ _ _ _ (by simp)
  have n1 : a.kind ≠ 1 := by omega
  cases had with
  | nil =>
    obtain ⟨h', t1, t2, t3⟩ := St.trim (T := T) (x := .osl L v 2 0 0) ⟨L, v, [], _, _, p, q, rfl, hMa, hWa, hLa, iv⟩ [.any, .osl L v 2 0 0] (h.length + 1) (by omega) (by simp) (by simp)
    rw [hts] at t1
    cases t1
    refine ⟨.exit 1, _, _, ?_, .inr rfl, t2, t3⟩
    rcases hk with hk | hk <;> simp [-oLoad_ptr, -oStore_ptr, -oNew_agg, -oNewSlice_eq, law07_ExtentApart_k6, law07_ExtentApart_k5, hk, hts]
  | cons y r =>
    obtain ⟨ht, iv1, iv2⟩ := iv.taken hT
    simp only [List.length_cons] at s1
    have hrow := fun (k : A → Option (Ex × List A × Heap)) => ldRow hLa (i := 0) (x := y) rfl k
    have hz2 : [A.s (.int .i64 0), .s (.int .i64 0)] = extentC ⟨0, 0⟩ := rfl
    have hNx : ∀ (k : A → Heap → Option (Ex × List A × Heap)), oNew none (some 2) (.agg (extentC ⟨0, 0⟩)) (h ++ [xa a]) k = k (.ptr (h.length + 1) 0 0 0) (h ++ [xa a, xs ⟨0, 0⟩]) := fun k => by
      rw [new_xs]; simp
    have hSx := fun (k : Heap → Option (Ex × List A × Heap)) => stE (at2 h (xa a) (xs ⟨0, 0⟩) []) y k
    rw [set2] at hSx
    have hNs : ∀ (k : A → Heap → Option (Ex × List A × Heap)), oNewSlice none 2 (some []) (h ++ [xa a, xs y]) k = k (.osl (h.length + 1 + 1) 0 2 0 0) (h ++ [xa a, xs y, .live ⟨0, 2, []⟩]) := fun k => by
      simp
    have hsl : ∀ (k : A → Option (Ex × List A × Heap)), oSlice 2 (.osl L v 2 0 (r.length + 1)) (some (.s (.int .i64 1))) none k = k (.osl L v 2 1 r.length) := fun k => by
      simp [oSlice, bnd]
    have hL3 : (h ++ [xa a, xs y, .live ⟨0, 2, []⟩])[L]? = some (.live ⟨v, 2, (y :: r).map extentC⟩) := by rw [List.getElem?_append_left hlt]; exact hL
    have hne : ¬ ((r.length : Int) + 1 = 0) := by omega
    have hap : appendOk r.length 16 := by constructor <;> omega
    have hAp : ∀ (k : A → Heap → Option (Ex × List A × Heap)), oAppend none 2 16 (.osl (h.length + 1 + 1) 0 2 0 0) (.osl L v 2 1 r.length) (h ++ [xa a, xs y, .live ⟨0, 2, []⟩]) k = k (.osl (h.length + 1 + 1) 1 2 0 r.length) (h ++ [xa a, xs y, .live ⟨1, 2, r.map extentC⟩]) := fun k => by
      have h3 := at3 h (xa a) (xs y) (.live ⟨0, 2, []⟩) []
      have h4 := set3 h (xa a) (xs y) (.live ⟨0, 2, []⟩) (.live ⟨1, 2, r.map extentC⟩) []
      have hr : rowsOf 2 (.osl L v 2 1 r.length) (h ++ [xa a, xs y, .live ⟨0, 2, []⟩]) = some (r.map extentC) := by
        rw [rowsOf_osl, hL3]
        simp [List.take_of_length_le, Nat.add_comm 1]
      rw [oAppend_osl, hr]
      simp only [h3, List.length_map, List.length_nil, Nat.zero_add, Nat.le_refl, hap, and_self, if_true, List.drop_zero, List.take_zero, List.nil_append, h4]
    have hk1 := fun (k : A → Option (Ex × List A × Heap)) => ldA0 (at1 h (xa a) [xs y, .live ⟨1, 2, r.map extentC⟩]) k
    have hLy := fun (k : A → Option (Ex × List A × Heap)) => ldE (at2 h (xa a) (xs y) [.live ⟨1, 2, r.map extentC⟩]) k
    have m3 : MapP (h ++ [xa a, xs y, .live ⟨1, 2, r.map extentC⟩]) 0 [h.length, h.length + 1 + 1] T fs ls p q := mapP_sub (mapP_app hM [xa a, xs y, .live ⟨1, 2, r.map extentC⟩] [h.length, h.length + 1 + 1] (by simp; omega)) (by simp)
    have w3 : WH 0 (h ++ [xa a, xs y, .live ⟨1, 2, r.map extentC⟩]) := wh_app hW _ (by
      intro s hs
      simp at hs
      rcases hs with rfl | rfl | rfl
      · simp [xa, flatS]
      · exact xs_flat y
      · exact ext_flat _ _)
    have hX : ∀ z ∈ [h.length, h.length + 1 + 1], z < (h ++ [xa a, xs y, Go.Ab.Slot.live ⟨1, 2, r.map extentC⟩]).length := by
      intro z hz; simp at hz; rcases hz with rfl | rfl <;> simp <;> omega
    have fin : ∀ {fs' ls' : List Extent} {h1 : Heap} {p1 q1 : Option (Nat × Nat)}, MapP h1 0 [h.length, h.length + 1 + 1] T fs' ls' p1 q1 → (∀ z ∈ [h.length, h.length + 1 + 1], h1[z]? = (h ++ [xa a, xs y, Go.Ab.Slot.live ⟨1, 2, r.map extentC⟩])[z]?) → (h ++ [xa a, xs y, Go.Ab.Slot.live ⟨1, 2, r.map extentC⟩]).length ≤ h1.length → WH 0 h1 → Inv T r fs' ls' →
        ∃ h2 h', trim true (h.length + 1 + 1 + 1) [.s (.bool false)] h1 = some ([.s (.bool false)], h2) ∧ trim true (h.length + 1) [.any, .osl (h.length + 1 + 1) 1 2 0 r.length] h2 = some ([.any, .osl (h.length + 1 + 1) 1 2 0 r.length], h') ∧ St T h' (.osl (h.length + 1 + 1) 1 2 0 r.length) ∧ h.length + 1 ≤ h'.length := by
      intro fs' ls' h1 p1 q1 m1 f1 l1 w1 iv'
      simp at l1
      obtain ⟨h2, t1, t2, t3, t4, t5⟩ := trim_any m1 w1 [.s (.bool false)] (h.length + 1 + 1 + 1) (by omega) (by omega)
      have hn : h2[h.length + 1 + 1]? = some (.live ⟨1, 2, r.map extentC⟩) := by
        rw [t5 _ (by omega), f1 _ (by simp)]; exact at3 h _ _ _ _
      obtain ⟨h', u1, u2, u3⟩ := St.trim (T := T) (x := .osl (h.length + 1 + 1) 1 2 0 r.length) ⟨_, _, r, fs', ls', p1, q1, rfl, mapP_sub t2 (by simp), t3, hn, iv'⟩ [.any, .osl (h.length + 1 + 1) 1 2 0 r.length] (h.length + 1) (by omega) (by omega) (by simp)
      exact ⟨h2, h', t1, u1, u2, u3⟩
    rcases hk with hk | hk
    · obtain ⟨h1, p1, q1, m1, f1, l1, w1, c1⟩ := oCall_map (free_ok T fs ls y (by omega) (by omega) ht) (by simp) (by simp) m3 hX
      have b1 := fun (kp k : A → Heap → Option (Ex × List A × Heap)) => c1 kp k
      have hk2 := fun (k : A → Option (Ex × List A × Heap)) => ldA0 (h := h1) (id := h.length) (e := a) (by rw [f1 _ (by simp)]; exact at1 h _ _) k
      obtain ⟨h2, h', u1, u2, u3, u4⟩ := fin m1 f1 l1 (w1 w3) iv1
      refine ⟨.normal, _, h', ?_, .inl rfl, u3, u4⟩
      simp [-oLoad_ptr, -oStore_ptr, -oNew_agg, -oNewSlice_eq, -List.map_cons, law07_ExtentApart_k6, law07_ExtentApart_k5, law07_ExtentApart_k4, hk, hts, hne, asRows, hrow, hz2, hNx, hSx, hNs, hsl, hAp, hk1, hk2, hLy, b1, u1, u2]
    · obtain ⟨h1, p1, q1, m1, f1, l1, w1, c1⟩ := oCall_map (later_ok T fs ls y (by omega) (by omega) ht) (by simp) (by simp) m3 hX
      have b1 := fun (kp k : A → Heap → Option (Ex × List A × Heap)) => c1 kp k
      obtain ⟨h2, h', u1, u2, u3, u4⟩ := fin m1 f1 l1 (w1 w3) iv2
      refine ⟨.normal, _, h', ?_, .inl rfl, u3, u4⟩
      simp [-oLoad_ptr, -oStore_ptr, -oNew_agg, -oNewSlice_eq, -List.map_cons, law07_ExtentApart_k6, law07_ExtentApart_k5, law07_ExtentApart_k4, hk, hts, hne, asRows, hrow, hz2, hNx, hSx, hNs, hsl, hAp, hk1, hLy, b1, u1, u2]
end
end Go.Ab.T

/-
  EXTENTS: nothing is given twice: the law.
-/
set_option linter.unusedSimpArgs false
set_option linter.unusedVariables false
set_option linter.unusedSectionVars false
namespace Go.Ab.T
open Go Go.Ab Go.Ab.F

theorem act_any {T : Int} (h0 : 0 ≤ T) (hT : T ≤ 1024) {h : Heap} {x : A} (i0 : A) (hS : St T h x) (a : ActX) (hh : Heap) :
    ∃ E x' h', (oJoin (oCmp .eql (.s (.int .i64 a.kind)) (.s (.int .i64 0)) fun x33 =>
      oCond x33 ((trim true (h ++ [xa a]).length [x33] (h ++ [xa a])).map fun p => (Ex.normal, p.1, p.2))
      (oCmp .eql (.s (.int .i64 a.kind)) (.s (.int .i64 2)) fun x34 =>
      (trim true (h ++ [xa a]).length [x34] (h ++ [xa a])).map fun p => (Ex.normal, p.1, p.2))) (law07_ExtentApart_k6 (.ptr h.length 0 0 0) (.ptr 0 0 0 0) ([x, i0], hh) (h ++ [xa a]) (.s (.int .i64 a.kind)))) = some (E, [.any, x'], h') ∧ (E = .normal ∨ E = .exit 1) ∧ St T h' x' ∧ h.length + 1 ≤ h'.length := by
  have hts : ∀ vs : List A, trim true (h ++ [xa a]).length vs (h ++ [xa a]) = some (vs, h ++ [xa a]) := fun vs => trim_self _ _ _ _ rfl
  by_cases k02 : a.kind = 0 ∨ a.kind = 2
  · obtain ⟨x', h', e, s, l⟩ := act_alloc (i0 := i0) h0 hT hS a k02 hh
    refine ⟨_, x', h', ?_, .inl rfl, s, l⟩
    rw [← e]
    have hts' : ∀ vs : List A, trim true (h.length + 1) vs (h ++ [xa a]) = some (vs, h ++ [xa a]) := fun vs => trim_self _ _ _ _ (by simp)
    rcases k02 with k | k <;> simp [k, hts']
  · have k0 : a.kind ≠ 0 := fun h => k02 (.inl h)
    have k2 : a.kind ≠ 2 := fun h => k02 (.inr h)
    have hpre : ∀ (k : Ex → List A → Heap → Option (Ex × List A × Heap)), (oJoin (oCmp .eql (.s (.int .i64 a.kind)) (.s (.int .i64 0)) fun x33 =>
      oCond x33 ((trim true (h ++ [xa a]).length [x33] (h ++ [xa a])).map fun p => (Ex.normal, p.1, p.2))
      (oCmp .eql (.s (.int .i64 a.kind)) (.s (.int .i64 2)) fun x34 =>
      (trim true (h ++ [xa a]).length [x34] (h ++ [xa a])).map fun p => (Ex.normal, p.1, p.2))) k) = k .normal [.s (.bool false)] (h ++ [xa a]) := fun k => by
      simp only [hts]; simp [k0, k2]
    rw [hpre]
    by_cases k1 : a.kind = 1
    · obtain ⟨x', h', e, s, l⟩ := act_all (i0 := i0) h0 hT hS a k1 hh
      exact ⟨_, x', h', e, .inl rfl, s, l⟩
    · by_cases k34 : a.kind = 3 ∨ a.kind = 4
      · exact act_back (i0 := i0) h0 hT hS a k34 hh
      · by_cases k5 : a.kind = 5
        · obtain ⟨x', h', e, s, l⟩ := act_commit (i0 := i0) h0 hT hS a k5 hh
          exact ⟨_, x', h', e, .inl rfl, s, l⟩
        · obtain ⟨x', h', e, s, l⟩ := act_none (i0 := i0) h0 hT hS a ⟨k0, k1, k2, fun h => k34 (.inl h), fun h => k34 (.inr h), k5⟩ hh
          exact ⟨_, x', h', e, .inl rfl, s, l⟩

theorem St.check {T : Int} (h0 : 0 ≤ T) (hT : T ≤ 1024) {h : Heap} {x : A} (hS : St T h x) (b : A) {s24 : List A × Heap} (hn0 : 0 < s24.2.length) (hn : s24.2.length ≤ h.length) :
    ∃ h', law07_ExtentApart_k14 (.ptr 0 0 0 0) (.s (.int .i64 T)) s24 .normal [b, x] h = some (.normal, [.any, x], h') ∧ St T h' x ∧ s24.2.length ≤ h'.length := by
  obtain ⟨L, v, had, fs, ls, p, q, rfl, hM, hW, hL, iv⟩ := hS
  obtain ⟨h', e, m, w, l, k⟩ := check_v h0 hT hM hW hL iv hn0 hn b
  exact ⟨h', e, ⟨L, v, had, fs, ls, p, q, rfl, m, w, by rw [k]; exact hL, iv⟩, l⟩

theorem apart_loop {T : Int} (h0 : 0 ≤ T) (hT : T ≤ 1024) (acts : List ActX) (hl : acts.length ≤ 100) {H : Heap} {x : A} (hS : St T H x) (hH : 0 < H.length) (k : Ex → List A → Heap → Option (Out × Heap)) :
    ∃ H', oLoop (law07_ExtentApart_l16 (.s (.int .i64 acts.length)) (mkF 4 (acts.map actXC)) (.ptr 0 0 0 0) (.s (.int .i64 T)) H) ([x, .s (.int .i64 0)], H) k = k (.exit 0) [.any] H' := by
  obtain ⟨Q, ⟨H', rfl⟩, hq⟩ := oLoop_inv' (step := law07_ExtentApart_l16 (.s (.int .i64 acts.length)) (mkF 4 (acts.map actXC)) (.ptr 0 0 0 0) (.s (.int .i64 T)) H) (s0 := ([x, .s (.int .i64 0)], H))
    (fun i s => ∃ h x, s = ([x, .s (.int .i64 i)], h) ∧ St T h x ∧ H.length ≤ h.length) (fun Q => ∃ h, Q = (.exit 0, [.any], h)) acts.length
    ⟨H, x, rfl, hS, Nat.le_refl _⟩ (by omega)
    (by
      rintro i s hi ⟨h, x, rfl, hS, hl'⟩
      left
      have hx : acts[i]? = some acts[i] := List.getElem?_eq_getElem hi
      generalize acts[i] = a at hx
      have hwi := wrap_succ hi (by omega)
      have hz : (A.s (.int .i64 0) :: A.s (.int .i64 0) :: A.s (.int .i64 0) :: A.s (.int .i64 0) :: []) = actXC ⟨0, 0, ⟨0, 0⟩⟩ := rfl
      have hNa := fun (k : A → Heap → Option (Ex × List A × Heap)) => new_xa ⟨0, 0, ⟨0, 0⟩⟩ h k
      have hSa := fun (k : Heap → Option (Ex × List A × Heap)) => stA (at1 h (xa ⟨0, 0, ⟨0, 0⟩⟩) []) a k
      rw [set1] at hSa
      have hk := fun (k : A → Option (Ex × List A × Heap)) => ldA0 (at1 h (xa a) []) k
      obtain ⟨E, x', h1, e1, hE, s1, l1⟩ := act_any h0 hT (.s (.int .i64 i)) hS a h
      have key : ∃ h2, law07_ExtentApart_k14 (.ptr 0 0 0 0) (.s (.int .i64 T)) ([x, .s (.int .i64 i)], h) E [.any, x'] h1 = some (.normal, [.any, x'], h2) ∧ St T h2 x' ∧ h.length ≤ h2.length := by
        rcases hE with rfl | rfl
        · exact s1.check h0 hT .any (s24 := ([x, .s (.int .i64 i)], h)) (show 0 < h.length by omega) (show h.length ≤ h1.length by omega)
        · obtain ⟨h2, t1, t2, t3⟩ := s1.trim [.any, x'] h.length (by omega) (by omega) (by simp)
          refine ⟨h2, ?_, t2, t3⟩
          simp [law07_ExtentApart_k14, t1]
      obtain ⟨h2, e2, s2, l2⟩ := key
      obtain ⟨h3, t1, t2, t3⟩ := s2.trim [x', .s (.int .i64 (i + 1 : Nat))] H.length hH (by omega) (by simp)
      simp only [Int.natCast_add, Int.cast_ofNat_Int] at t1
      refine ⟨([x', .s (.int .i64 (i + 1 : Nat))], h3), ?_, h3, x', rfl, t2, t3⟩
      unfold law07_ExtentApart_l16
      simp only [List.getD_cons_succ, List.getD_cons_zero, oIdxA_mkF _ _ _ _ _ _ _ hx, hz, hNa]
      simp at e1
      simp [-oLoad_ptr, -oStore_ptr, -oNew_agg, hi, hSa, hk, e1]
      simp [e2, law07_ExtentApart_k15, hwi, t1])
    (by
      rintro s ⟨h, x, rfl, hS, hl'⟩
      have ht : ∃ h', trim true H.length [.any] h = some ([.any], h') := by
        obtain ⟨L, v, had, fs, ls, p, q, rfl, hM, hW, hL, iv⟩ := hS
        obtain ⟨h', t, _⟩ := trim_any hM hW [.any] H.length hH hl'
        exact ⟨h', t⟩
      obtain ⟨h', t⟩ := ht
      refine ⟨(.exit 0, [.any], h'), ?_, h', rfl⟩
      simp [law07_ExtentApart_l16, t])
  exact ⟨H', hq k⟩

theorem newF_inv {T : Int} (h0 : 0 ≤ T) : Inv T [] (newF T) [] := by
  refine ⟨newF_wf T h0, h0, by simp, fun i a b => ?_, ?_⟩
  · have hp : 0 < T := by omega
    simp only [newF, if_pos hp, cov]
    rw [c1_in (by simpa using a) (by simpa using b)]
  · unfold newF
    split
    · simp [sumL]
    · simp [sumL]; omega

theorem ExtentApart_v (t : Int) (acts : List ActX) {P Q : Prop} (_w1 : P) (_w2 : Q) : law07_ExtentApart [.s (.int .i64 t), mkF 4 (acts.map actXC)] [] = some (.ok (.s (.bool true)), []) := by
  obtain ⟨H, p, hN, hM, hW⟩ := New_call' t
  have hA := fun (kp k : A → Heap → Option (Out × Heap)) => alive_call kp k
  have hN' := fun (kp k : A → Heap → Option (Out × Heap)) => hN kp k
  have hT := fun (vs : List A) => trim_self true vs H H.length rfl
  have hend : law07_ExtentApart_k18 (.ptr 0 0 0 0) [] (mkF 4 (acts.map actXC)) (.s (.int .i64 t)) .normal [.s (.bool true)] H = some (.ok (.s (.bool true)), []) := by
    simp [law07_ExtentApart_k18, finish_val]
  by_cases c0 : 100 < acts.length
  · have c0' : (100 : Int) < (acts.length : Int) := by omega
    simp [law07_ExtentApart, hA, hN', hT, c0, c0', hend]
  · have c0' : ¬ (100 : Int) < (acts.length : Int) := by omega
    by_cases c1 : t < 0
    · simp [law07_ExtentApart, hA, hN', hT, c0, c0', c1, hend]
    · by_cases c2 : 1024 < t
      · simp [law07_ExtentApart, hA, hN', hT, c0, c0', c1, c2, hend]
      · have hnt : newT t = t := by
          simp only [newT]
          split
          · split
            · rfl
            · omega
          · omega
        rw [hnt] at hM
        have hlt := lt_of_some hM.at_
        have hS : St t (H ++ [.live ⟨0, 2, []⟩]) (.osl H.length 0 2 0 0) :=
          ⟨H.length, 0, [], newF t, [], p, none, rfl, mapP_sub (mapP_app hM [.live ⟨0, 2, []⟩] [H.length] (by simp)) (by simp), wh_app hW _ (by intro s hs; simp at hs; subst hs; rfl), at1 H _ [], newF_inv (by omega)⟩
        obtain ⟨H', hl⟩ := apart_loop (T := t) (by omega) (by omega) acts (by omega) hS (by simp) (law07_ExtentApart_k17 [])
        have hk : law07_ExtentApart_k18 (.ptr 0 0 0 0) [] (mkF 4 (acts.map actXC)) (.s (.int .i64 t)) .normal [.s (.bool false)] H = some (.ok (.s (.bool true)), []) := by
          simp [law07_ExtentApart_k18, asRows, hl, law07_ExtentApart_k17, finish_val]
        simp [law07_ExtentApart, hA, hN', hT, c0, c0', c1, c2, hk]
end Go.Ab.T
