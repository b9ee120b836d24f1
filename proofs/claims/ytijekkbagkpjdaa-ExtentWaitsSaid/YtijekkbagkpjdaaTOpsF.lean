/-
  EXTENTS: all that is asked for.
-/
import Derived.Test.YtijekkbagkpjdaaTOpsE
set_option linter.unusedSimpArgs false
set_option linter.unusedVariables false
namespace Go.Ab.T
open Go Go.Ab Go.Ab.F

theorem cutS_len' (e : Extent) (fs : List Extent) : (cutS e fs).length ≤ 2 * fs.length := cutS_le e fs

/-- What a map that is asked for so many gives, and what it keeps. -/
inductive AllR : Int → List Extent → List Extent → List Extent → Prop
  | done {n : Int} {fs : List Extent} : n ≤ 0 → AllR n fs [] fs
  | step {n : Int} {fs out fs' : List Extent} : 1 ≤ n → fs ≠ [] → fs.length < 900000 → AllR (IntKind.i64.wrap (n - (gotS n fs).len)) (cutS (gotS n fs) fs) out fs' → AllR n fs (gotS n fs :: out) fs'

def AllSpec (F : CallFn) (rest : List A) (T : Int) (fs ls out fs' : List Extent) : Prop :=
  ∀ H p q, MapP H 0 [] T fs ls p q → WH 0 H → H.length < 5000 → ∃ H' p' q' y v, F (.ptr 0 0 0 0 :: rest) H = some (.ok (.tup [.osl y v 2 0 out.length, .s (.int .i64 0)]), H') ∧ MapP H' 0 [y] T fs' ls p' q' ∧ WH 0 H' ∧ H.length ≤ H'.length ∧
    H'[y]? = some (.live ⟨v, 2, out.map extentC⟩)

theorem all_no (T : Int) (fs ls : List Extent) (n : Int) (hn : countS fs < n) (hf : fs.length < 900000) : OpSpec extent_Map_All [.s (.int .i64 n)] T fs ls (.tup [.s (.slice none 0 0), .s (.int .i64 73)]) fs ls := by
  intro H p q hM hW hlen
  have hlt := lt_of_some hM.at_
  obtain ⟨h', p1, q1, f1, f2, f3, f4⟩ := finish_map H.length (.tup [.s (.slice none 0 0), .s (.int .i64 73)]) (by simp) hM hW hlt (by simp) (by omega)
  refine ⟨h', p1, q1, ?_, f2, f3, f4⟩
  have hC := fun (kp k : A → Heap → Option (Out × Heap)) => oLend_map hM.at_ hM.fr hM.la (by simp) (by rfl) (Count_v T fs ls (by omega)) kp k
  simp [extent_Map_All, hC, hn, f1]

theorem mapP_sub {H : Heap} {m : Nat} {X Y : List Nat} {T : Int} {fs ls : List Extent} {p q : Option (Nat × Nat)} (hM : MapP H m X T fs ls p q) (h : ∀ y ∈ Y, y ∈ X) : MapP H m Y T fs ls p q :=
  ⟨hM.at_, hM.fr, hM.la, hM.mp, hM.mq, hM.pq, fun x hx => hM.fx x (h x hx)⟩
theorem mapP_setX {H : Heap} {m : Nat} {X : List Nat} {T : Int} {fs ls : List Extent} {p q : Option (Nat × Nat)} (hM : MapP H m X T fs ls p q) {x : Nat} (hx : x ∈ X) (s : Go.Ab.Slot) : MapP (H.set x s) m X T fs ls p q := by
  obtain ⟨h1, h2, h3⟩ := hM.fx x hx
  have hat : ∀ p0 l, x ∉ lIds p0 → lAt H p0 l → lAt (H.set x s) p0 l := by
    intro p0 l hm h
    cases p0 with
    | none => exact h
    | some y =>
      simp [lIds] at hm
      show (H.set x s)[y.1]? = _
      rw [List.getElem?_set_ne hm]; exact h
  exact ⟨by rw [List.getElem?_set_ne h1]; exact hM.at_, hat _ _ h2 hM.fr, hat _ _ h3 hM.la, hM.mp, hM.mq, hM.pq, hM.fx⟩
theorem wh_setX {H : Heap} {m : Nat} (hW : WH m H) (x : Nat) (s : Go.Ab.Slot) (hs : flatS s = true) : WH m (H.set x s) := by
  intro j t hj ht
  by_cases hjx : x = j
  · subst hjx
    rcases Nat.lt_or_ge x H.length with h | h
    · rw [List.getElem?_set_self h] at ht; cases ht; exact hs
    · rw [List.getElem?_eq_none (by simpa using h)] at ht; cases ht
  · rw [List.getElem?_set_ne hjx] at ht; exact hW j t hj ht

/-- One more at the end of a list that is no map's. -/
theorem app_x {H : Heap} {L v : Nat} {out : List Extent} {x : Extent} (hk : H[L]? = some (.live ⟨v, 2, out.map extentC⟩)) (ok : appendOk (out.length + 1) 16) {β : Type} (k : A → Heap → Option β) :
    oAppend none 2 16 (.osl L v 2 0 out.length) (.osl H.length 0 2 0 1) (H ++ [xs x]) k = k (.osl L (v + 1) 2 0 (out.length + 1)) ((H ++ [xs x]).set L (.live ⟨v + 1, 2, (out ++ [x]).map extentC⟩)) := by
  have hlt := lt_of_some hk
  have h1 : (H ++ [xs x])[L]? = some (.live ⟨v, 2, out.map extentC⟩) := by rw [List.getElem?_append_left hlt]; exact hk
  have h2 : (H ++ [xs x])[H.length]? = some (xs x) := by simp
  simp only [xs] at h1 h2 ⊢
  simp only [oAppend_osl, rowsOf_osl, h1, h2]
  simp [ok, List.take_of_length_le]

theorem oCall_map_all {F : CallFn} {rest : List A} {T : Int} {fs ls out fs' : List Extent} (hS : AllSpec F rest T fs ls out fs') (hr : idsL rest = [])
    {H : Heap} {m : Nat} {X : List Nat} {p q : Option (Nat × Nat)} (hM : MapP H m X T fs ls p q) (hX : ∀ x ∈ X, x < H.length) :
    ∃ H' p' q', MapP H' m X T fs' ls p' q' ∧ (∀ x ∈ X, H'[x]? = H[x]?) ∧ H.length ≤ H'.length ∧ (WH m H → WH m H') ∧
      ∀ {β : Type} (kp k : A → Heap → Option β), (oCall F (.ptr m 0 0 0 :: rest) H kp fun w h => oFrz w h k) = k (.tup [mkF 2 (out.map extentC), .s (.int .i64 0)]) H' := by
  have hsl := stdH_len T p q fs ls
  obtain ⟨H1, p1, q1, y, v, hF, hM1, hW1, hl1, hy⟩ := hS (stdH T p q fs ls) (stdP p) (stdQ p q) (stdH_map hM) (stdH_wh _ _ _ _ _) (by rw [hsl]; cases p <;> cases q <;> simp [lIds])
  obtain ⟨objs, hren, hM2, hK, hL, hW, hG⟩ := back_map hM hX hM1 hW1 (by omega)
  have hy0 : y ≠ 0 := (hM1.fx y (by simp)).1
  have hgy := hG y _ hy0 hy
  have hgX : gB (m :: (lIds p ++ lIds q)) H.length y ∉ X := by
    intro hx
    have hil : ∀ i ∈ m :: (lIds p ++ lIds q), i ∉ X := by
      intro i hi hiX
      obtain ⟨a1, a2, a3⟩ := hM.fx i hiX
      rcases List.mem_cons.1 hi with h | h
      · exact a1 h
      · rcases List.mem_append.1 h with h | h
        · exact a2 h
        · exact a3 h
    have hlt := hX _ hx
    unfold gB at hx hlt
    split at hx
    · rename_i hi
      rw [List.getD_eq_getElem?_getD, List.getElem?_eq_getElem hi] at hx
      exact hil _ (List.getElem_mem hi) hx
    · rename_i hi
      rw [if_neg hi] at hlt; omega
  refine ⟨_, _, _, mapP_sub (mapP_setX hM2 (x := gB (m :: (lIds p ++ lIds q)) H.length y) (by simp) .dead) (fun x hx => by simp [hx]), ?_, ?_, ?_, fun kp k => ?_⟩
  · intro x hx
    rw [List.getElem?_set_ne (fun (h : gB (m :: (lIds p ++ lIds q)) H.length y = x) => hgX (by rw [h]; exact hx))]; exact hK x hx
  · rw [List.length_set]; exact hL
  · intro hw
    exact wh_setX (hW hw) _ _ rfl
  · unfold oCall
    rw [borrow_map hM rest hr]
    have hrt : renA (backIdx (m :: (lIds p ++ lIds q)) H.length) (.tup [.osl y v 2 0 out.length, .s (.int .i64 0)]) = some (.tup [.osl (gB (m :: (lIds p ++ lIds q)) H.length y) v 2 0 out.length, .s (.int .i64 0)]) := by
      simp [back_gB]
    simp only [hF, giveBack, renOut_ok, hrt, Option.map_some, Option.bind_some, hren]
    generalize setAll H (m :: (lIds p ++ lIds q)) (objs.take (m :: (lIds p ++ lIds q)).length) ++ objs.drop (m :: (lIds p ++ lIds q)).length = G at hgy
    have hf : frzA 1000 (.tup [.osl (gB (m :: (lIds p ++ lIds q)) H.length y) v 2 0 out.length, .s (.int .i64 0)]) G = some (.tup [mkF 2 (out.map extentC), .s (.int .i64 0)], G.set (gB (m :: (lIds p ++ lIds q)) H.length y) .dead) := by
      generalize gB (m :: (lIds p ++ lIds q)) H.length y = z at hgy ⊢
      have h1 : frzA 998 (.osl z v 2 0 out.length) G = some (mkF 2 (out.map extentC), G.set z .dead) := by
        rw [show (998 : Nat) = 996 + 2 from rfl, frzA, hgy]
        simp [frzRows, ext_pure, List.take_of_length_le]
      rw [show (1000 : Nat) = 999 + 1 from rfl, frzA, show (999 : Nat) = 998 + 1 from rfl, frzL, if_neg (by simp), h1]
      simp only [Option.bind_some]
      rw [show (998 : Nat) = 997 + 1 from rfl, frzL, if_pos (by simp)]
      rfl
    unfold oFrz
    rw [if_neg (by simp), hf]

theorem allR_of_get {n : Int} {fs out fs' : List Extent} (h : AllR n fs out fs') : (out = [] ∧ n ≤ 0 ∧ fs' = fs) ∨ ∃ r, out = gotS n fs :: r ∧ 1 ≤ n ∧ fs ≠ [] ∧ fs.length < 900000 ∧ AllR (IntKind.i64.wrap (n - (gotS n fs).len)) (cutS (gotS n fs) fs) r fs' := by
  cases h with
  | done h => exact .inl ⟨rfl, h, rfl⟩
  | step h1 h2 h3 h4 => exact .inr ⟨_, rfl, h1, h2, h3, h4⟩

theorem all_ok (T : Int) (fs ls out fs' : List Extent) (n : Int) (hR : AllR n fs out fs') (hn : n ≤ countS fs) (hf : fs.length < 900000) (ho : out.length < 1000000) : AllSpec extent_Map_All [.s (.int .i64 n)] T fs ls out fs' := by
  intro H p q hM hW hlen
  have hlt := lt_of_some hM.at_
  have hM0 := mapP_app hM [.live ⟨0, 2, []⟩] [H.length] (by simp)
  have hW0 := wh_app hW [.live ⟨0, 2, []⟩] (by simp [flatS])
  have at0 : (H ++ [Go.Ab.Slot.live ⟨0, 2, []⟩])[H.length]? = some (.live ⟨0, 2, ([] : List Extent).map extentC⟩) := by simp
  obtain ⟨Q, ⟨p1, q1, h1, v1, hQ, hM1, hW1, hl1, hg1⟩, hq⟩ := oLoop_inv' (step := extent_Map_All_l1 (.ptr 0 0 0 0) (H ++ [.live ⟨0, 2, []⟩])) (s0 := ([.s (.int .i64 n), .osl H.length 0 2 0 0], H ++ [.live ⟨0, 2, []⟩]))
    (fun i s => ∃ p' q' h v n' fs1 o1 o2, s = ([.s (.int .i64 n'), .osl H.length v 2 0 o1.length], h) ∧ MapP h 0 [H.length] T fs1 ls p' q' ∧ WH 0 h ∧ H.length + 1 ≤ h.length ∧ h[H.length]? = some (.live ⟨v, 2, o1.map extentC⟩) ∧
      out = o1 ++ o2 ∧ o1.length = i ∧ AllR n' fs1 o2 fs')
    (fun Q => ∃ p' q' h v, Q = (.exit 0, [.osl H.length v 2 0 out.length], h) ∧ MapP h 0 [H.length] T fs' ls p' q' ∧ WH 0 h ∧ H.length + 1 ≤ h.length ∧ h[H.length]? = some (.live ⟨v, 2, out.map extentC⟩)) out.length
    ⟨p, q, _, 0, n, fs, [], out, rfl, hM0, hW0, by simp, at0, rfl, rfl, hR⟩ (by omega)
    (by
      rintro i s hi ⟨p', q', h, v, n', fs1, o1, o2, rfl, hM', hW', hl', hg', ho1, hoi, hR'⟩
      rcases allR_of_get hR' with ⟨e, _, _⟩ | ⟨r, rfl, hn1, hne, hfl, hR2⟩
      · subst e; rw [ho1] at hi; simp at hi; omega
      · left
        have hX : ∀ x ∈ [H.length], x < h.length := by intro x hx; simp at hx; omega
        obtain ⟨h2, p2, q2, k1, k2, k3, k4, k5⟩ := oCall_map (alloc_ok T fs1 ls n' hn1 hne hfl) (by simp) (by simp) hM' hX
        generalize hgot : gotS n' fs1 = g at *
        have hg2 : h2[H.length]? = some (.live ⟨v, 2, o1.map extentC⟩) := by rw [k2 _ (by simp)]; exact hg'
        have hM3 := mapP_app k1 [xs g, xs g] [] (by simp)
        have hW3 := wh_app (k4 hW') [xs g, xs g] (by simp [xs_flat])
        have hM4 := mapP_setX hM3 (x := H.length) (by simp) (.live ⟨v + 1, 2, (o1 ++ [g]).map extentC⟩)
        have hW4 := wh_setX hW3 H.length (.live ⟨v + 1, 2, (o1 ++ [g]).map extentC⟩) (ext_flat _ _)
        obtain ⟨h4, t1, t2, t3, t4, t5⟩ := trim_any hM4 hW4 [.s (.int .i64 (IntKind.i64.wrap (n' - g.len))), .osl H.length (v + 1) 2 0 (o1.length + 1)] (H.length + 1) (by omega) (by simp; omega)
        refine ⟨([.s (.int .i64 (IntKind.i64.wrap (n' - g.len))), .osl H.length (v + 1) 2 0 (o1 ++ [g]).length], h4), ?_, p2, q2, h4, v + 1, _, _, o1 ++ [g], r, rfl, mapP_sub t2 (by simp), t3, t4, ?_, by rw [ho1]; simp, by simp [hoi], hR2⟩
        · have hz : [A.s (.int .i64 0), .s (.int .i64 0)] = extentC ⟨0, 0⟩ := rfl
          have hC := fun (kp k : A → Heap → Option ((List A × Heap) ⊕ (Ex × List A × Heap))) => k5 kp k
          have hN := fun (k : A → Heap → Option ((List A × Heap) ⊕ (Ex × List A × Heap))) => new_xs ⟨0, 0⟩ h2 k
          have hS := fun (k : Heap → Option ((List A × Heap) ⊕ (Ex × List A × Heap))) => stE (at1 h2 (xs ⟨0, 0⟩) []) g k
          rw [set1] at hS
          have hL := fun (k : A → Option ((List A × Heap) ⊕ (Ex × List A × Heap))) => ldE (at1 h2 (xs g) []) k
          have hg2' : (h2 ++ [xs g])[H.length]? = some (.live ⟨v, 2, o1.map extentC⟩) := by rw [List.getElem?_append_left (lt_of_some hg2)]; exact hg2
          have hA := fun (k : A → Heap → Option ((List A × Heap) ⊕ (Ex × List A × Heap))) => app_x (x := g) hg2' (by
            have : o1.length < 1000000 := by rw [ho1] at ho; simp at ho; omega
            constructor <;> omega) k
          have hLl := fun (k : A → Option ((List A × Heap) ⊕ (Ex × List A × Heap))) => ldLen (h := (h2 ++ [xs g, xs g]).set H.length (.live ⟨v + 1, 2, (o1 ++ [g]).map extentC⟩)) (id := h2.length) (e := g) (by
            have := lt_of_some hg2
            rw [List.getElem?_set_ne (by omega)]; exact at1 h2 (xs g) [xs g]) k
          simp only [List.append_assoc, List.cons_append, List.nil_append, List.length_append, List.length_cons, List.length_nil, Nat.zero_add] at hA t1
          have hns : ∀ (k : A → Heap → Option ((List A × Heap) ⊕ (Ex × List A × Heap))), oNewSlice none 2 (some [extentC g]) (h2 ++ [xs g]) k = k (.osl (h2.length + 1) 0 2 0 1) (h2 ++ [xs g, xs g]) := fun k => by
            simp [xs]
          have hng : 0 < n' := by omega
          simp only [List.map_append, List.map_cons, List.map_nil] at hA t1 hLl
          simp [-oLoad_ptr, -oStore_ptr, -oNew_agg, -oNewSlice_eq, extent_Map_All_l1, hng, hC, hz, hN, hS, hL, hns, hA, hLl, t1]
        · rw [t5 _ (by omega), List.getElem?_set_self (by have := lt_of_some hg2; simp; omega)])
    (by
      rintro s ⟨p', q', h, v, n', fs1, o1, o2, rfl, hM', hW', hl', hg', ho1, hoi, hR'⟩
      have : o2 = [] := by
        have := congrArg List.length ho1
        simp at this
        exact List.length_eq_zero_iff.1 (by omega)
      subst this
      rw [List.append_nil] at ho1
      subst ho1
      rcases allR_of_get hR' with ⟨_, hn0, hfe⟩ | ⟨r, e, _⟩
      · subst hfe
        obtain ⟨h4, t1, t2, t3, t4, t5⟩ := trim_any hM' hW' [.osl H.length v 2 0 out.length] (H.length + 1) (by omega) hl'
        refine ⟨(.exit 0, [.osl H.length v 2 0 out.length], h4), ?_, p', q', h4, v, rfl, t2, t3, t4, by rw [t5 _ (by omega)]; exact hg'⟩
        have hng : ¬ 0 < n' := by omega
        simp [extent_Map_All_l1, hng, t1]
      · cases e)
  subst hQ
  obtain ⟨ids, h', g, e1, e2, e3, e4, e5, e6, e7⟩ := fin_core H.length [H.length] hM1 hW1 hlt (by omega) (by omega) (by simp) (by intro x hx; simp at hx; omega) (by simp)
  refine ⟨h', _, _, g H.length, v1, ?_, by simpa using e5, e6, e7, by rw [e4 _ (by simp)]; exact hg1⟩
  have hC := fun (kp k : A → Heap → Option (Out × Heap)) => oLend_map hM.at_ hM.fr hM.la (by simp) (by rfl) (Count_v T fs ls (by omega)) kp k
  have hq' := fun (k : Ex → List A → Heap → Option (Out × Heap)) => hq k
  have hnn : ¬ countS fs < n := by omega
  have hfin : finish H.length (.ok (.tup [.osl H.length v1 2 0 out.length, .s (.int .i64 0)])) h1 = some (.ok (.tup [.osl (g H.length) v1 2 0 out.length, .s (.int .i64 0)]), h') := by
    unfold finish
    have hid : idsA (.tup [.osl H.length v1 2 0 out.length, .s (.int .i64 0)]) = [H.length] := by simp
    have he3 := e3 H.length (by simp)
    simp only [hid, e1, renOut_ok, e2, renA_tup, renL_cons, renA_osl, he3, renA_s, renL_nil, Option.map_some, Option.bind_some]
  simp [extent_Map_All, hC, hnn, oProm]
  rw [hq']
  simp [extent_Map_All_k2, hfin]
end Go.Ab.T
