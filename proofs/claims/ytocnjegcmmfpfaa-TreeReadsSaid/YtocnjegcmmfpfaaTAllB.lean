/-
 THE PLAIN LAWS, AND WHAT THEY STAND ON, TOGETHER.
-/
import Derived.Test.YtocnjegcmmfpfaaTAllA
set_option linter.unusedSimpArgs false
set_option linter.unusedVariables false
namespace Go.Ab.T
open Go Go.Ab Go.Ab.F
structure Sh (rows : Nat → List (List A)) (tail : Nat → Heap) (len : Nat) (kids : List Nd) : Prop where
 tlen : ∀ b, (tail b).length = len
 pos : 0 < len
 few : len ≤ 6
 rlen : ∀ b, (rows b).length = kids.length
 first : ∀ b, b ∈ idsRows (rows b)
 rrow : ∀ (f : Nat → Option Nat) (b b' : Nat), (∀ i, i < len → f (b + i) = some (b' + i)) → renRows f (rows b) = some (rows b')
 rtail : ∀ (f : Nat → Option Nat) (b b' : Nat), (∀ i, i < len → f (b + i) = some (b' + i)) → renHeap f (tail b) = some (tail b')
 reach : ∀ (H : Heap) (b m : Nat), 4 ≤ b → (∀ i, i < len → H[b + i]? = (tail b)[i]?) → Go.Ab.reach H (m + 20) [0, 1, 2, 3] (idsRows (rows b)) = [0, 1, 2, 3] ++ (List.range len).map (b + ·)
 fz : ∀ H : Heap, ∃ d, flatD d ∧ FzR 60 (rows H.length) (H ++ tail H.length) (kids.map kidC) (H ++ d)
theorem qbY (H l : Heap) (i : Nat) (x : Go.Ab.Slot) : (H ++ l).set (H.length + i) x = H ++ l.set i x := by
 rw [List.set_append_right _ _ (by omega)]; congr 2; omega
theorem qej (H l : Heap) (x : Go.Ab.Slot) : (H ++ l).set H.length x = H ++ l.set 0 x := qbY H l 0 x
theorem set_cut {α : Type} (l : List α) (i : Nat) (x : α) (h : i < l.length) : l.set i x = l.take i ++ x :: l.drop (i + 1) := by
 rw [List.set_eq_take_append_cons_drop, if_pos h]
theorem qiX {α : Type} (l : List α) (i : Nat) (x y : α) (h : i + 1 < l.length) : (l.set i x).set (i + 1) y = l.take i ++ x :: y :: l.drop (i + 2) := by
 apply List.ext_getElem?
 intro n
 rw [List.getElem?_set, List.getElem?_set, List.getElem?_append, List.length_take, Nat.min_eq_left (by omega), List.length_set]
 by_cases h1 : n < i
 · rw [if_neg (by omega), if_neg (by omega), if_pos h1, List.getElem?_take, if_pos h1]
 · rw [if_neg h1]
   by_cases h2 : n = i
   · subst h2; simp; omega
   · by_cases h3 : n = i + 1
     · subst h3; simp; omega
     · rw [if_neg (by omega), if_neg (by omega), show n - i = (n - (i + 2)) + 1 + 1 by omega, List.getElem?_cons_succ, List.getElem?_cons_succ, List.getElem?_drop]
       congr 1; omega
theorem ql7 (H : Heap) (l : List Nd) : FzR 1 (l.map kidC) H (l.map kidC) H := fzr_all H (qaq _ (fun x => by simp) _)
theorem sh_one (kids : List Nd) (C : Nd) (v1 v2 v3 j : Nat) (hj : j < kids.length) (hk : kids.length < 30) : Sh (fun b => (kids.map kidC).set j [.ptr b 0 0 0]) (fun b => ownB b C v1 v2 v3) 4 (kids.set j C) where
 tlen := fun b => rfl
 pos := by decide
 few := by decide
 rlen := fun b => by simp
 first := fun b => by rw [qgl (qaZ kids) (by simpa using hj)]; simp
 rrow := fun f b b' h => by
  have h0 : f b = some b' := h 0 (by decide)
  exact qiw (qaZ kids) (by simpa using hj) (by simp [h0])
 rtail := fun f b b' h => by
  have h1 := h 1 (by decide)
  have h2 := h 2 (by decide)
  have h3 := h 3 (by decide)
  simp [ownB, h1, h2, h3, ren_ks, ren_vs, qbj]
 reach := fun H b m hb h => by
  rw [qgl (qaZ kids) (by simpa using hj)]
  have h0 : H[b]? = _ := h 0 (by decide)
  have h1 := h 1 (by decide)
  have h2 := h 2 (by decide)
  have h3 := h 3 (by decide)
  simp [ownB] at h0 h1 h2 h3
  have e0 : ¬ b = 0 := by omega
  have e1 : ¬ b = 1 := by omega
  have e2 : ¬ b = 2 := by omega
  have e3 : ¬ b = 3 := by omega
  have e5 : ¬ b + 1 = 2 := by omega
  have e6 : ¬ b + 1 = 3 := by omega
  have e7 : ¬ b + 2 = 3 := by omega
  simp [Go.Ab.reach, List.getD_eq_getElem?_getD, h0, h1, h2, h3, ids_ks, ids_vs, qaZ, e0, e1, e2, e3, e5, e6, e7, List.range_succ]
 fz := fun H => by
  refine ⟨[.dead, .dead, .dead, .dead], by simp [flatD], ?_⟩
  have hn := fz_ownB H C v1 v2 v3
  rw [set_cut _ _ _ (by simpa using hj), ← List.map_take, ← List.map_drop]
  have e : (kids.set j C).map kidC = (kids.take j).map kidC ++ kidC C :: (kids.drop (j + 1)).map kidC := by rw [set_cut _ _ _ hj]; simp
  rw [e]
  have := qj8 (n := 20) (qgB (n := 19) rfl (hn.le (by omega)) ((ql7 (H ++ [.dead, .dead, .dead, .dead]) (kids.drop (j + 1))).le (by omega))) (kids.take j)
  exact this.le (by simp; omega)
theorem sh_leaf (kids : List Nd) (p q : Nd) (j : Nat) (hj : j + 1 < kids.length) (hk : kids.length < 30) (hp : p.kids = []) (hq : q.kids = []) : Sh (fun b => ((kids.map kidC).set j [.ptr b 0 0 0]).set (j + 1) [.ptr (b + 3) 0 0 0]) (fun b => twoLeaf b p q) 6 ((kids.set j p).set (j + 1) q) where
 tlen := fun b => rfl
 pos := by decide
 few := by decide
 rlen := fun b => by simp
 first := fun b => by rw [qdx (qaZ kids) (by simpa using hj)]; simp
 rrow := fun f b b' h => by
  have h0 : f b = some b' := h 0 (by decide)
  have h3 : f (b + 3) = some (b' + 3) := h 3 (by decide)
  exact qf4 (qaZ kids) (by simpa using hj) (by simp [h0]) (by simp [h3])
 rtail := fun f b b' h => by
  have h1 := h 1 (by decide)
  have h2 := h 2 (by decide)
  have h4 := h 4 (by decide)
  have h5 := h 5 (by decide)
  simp [twoLeaf, h1, h2, h4, h5, ren_ks, ren_vs]
 reach := fun H b m hb h => by
  rw [qdx (qaZ kids) (by simpa using hj)]
  have h0 : H[b]? = _ := h 0 (by decide)
  have h1 := h 1 (by decide)
  have h2 := h 2 (by decide)
  have h3 := h 3 (by decide)
  have h4 := h 4 (by decide)
  have h5 := h 5 (by decide)
  simp [twoLeaf] at h0 h1 h2 h3 h4 h5
  have e0 : ¬ b = 0 := by omega
  have e1 : ¬ b = 1 := by omega
  have e2 : ¬ b = 2 := by omega
  have e3 : ¬ b = 3 := by omega
  have e5 : ¬ b + 1 = 2 := by omega
  have e6 : ¬ b + 1 = 3 := by omega
  have e7 : ¬ b + 2 = 3 := by omega
  simp [Go.Ab.reach, List.getD_eq_getElem?_getD, h0, h1, h2, h3, h4, h5, ids_ks, ids_vs, qaZ, e0, e1, e2, e3, e5, e6, e7, List.range_succ]
 fz := fun H => by
  obtain ⟨pk, pv, pc⟩ := p
  obtain ⟨qk, qv, qc⟩ := q
  simp only [Nd.kids_mk] at hp hq
  subst hp; subst hq
  refine ⟨dead6, by simp [flatD, dead6], ?_⟩
  have g0 : (H ++ twoLeaf H.length (.mk pk pv []) (.mk qk qv []))[H.length]? = _ := at_b H (twoLeaf H.length (.mk pk pv []) (.mk qk qv [])) 0
  have g1 := at_b H (twoLeaf H.length (.mk pk pv []) (.mk qk qv [])) 1
  have g2 := at_b H (twoLeaf H.length (.mk pk pv []) (.mk qk qv [])) 2
  have g3 := at_b H (twoLeaf H.length (.mk pk pv []) (.mk qk qv [])) 3
  have g4 := at_b H (twoLeaf H.length (.mk pk pv []) (.mk qk qv [])) 4
  have g5 := at_b H (twoLeaf H.length (.mk pk pv []) (.mk qk qv [])) 5
  have f1 := fz_leaf (ks := pk) (vs := pv) (g0.trans rfl) (g1.trans rfl) (g2.trans rfl) rfl rfl (by omega) (by omega) (by omega)
  have f2 := fz_leaf (H := (((H ++ twoLeaf H.length (.mk pk pv []) (.mk qk qv [])).set H.length .dead).set (H.length + 1) .dead).set (H.length + 2) .dead) (id := H.length + 3) (v := 0) (kid := H.length + 4) (kv := 1) (vid := H.length + 5) (vv := 1) (ks := qk) (vs := qv)
   (by rw [List.getElem?_set_ne (by omega), List.getElem?_set_ne (by omega), List.getElem?_set_ne (by omega)]; exact g3.trans rfl)
   (by rw [List.getElem?_set_ne (by omega), List.getElem?_set_ne (by omega), List.getElem?_set_ne (by omega)]; exact g4.trans rfl)
   (by rw [List.getElem?_set_ne (by omega), List.getElem?_set_ne (by omega), List.getElem?_set_ne (by omega)]; exact g5.trans rfl) rfl rfl (by omega) (by omega) (by omega)
  have he : ((((((H ++ twoLeaf H.length (.mk pk pv []) (.mk qk qv [])).set H.length .dead).set (H.length + 1) .dead).set (H.length + 2) .dead).set (H.length + 3) .dead).set (H.length + 4) .dead).set (H.length + 5) .dead = H ++ dead6 := by
   rw [qej, qbY, qbY, qbY, qbY, qbY]; rfl
  rw [he] at f2
  rw [qiX _ _ _ _ (by simpa using hj), ← List.map_take, ← List.map_drop]
  have e : ((kids.set j (.mk pk pv [])).set (j + 1) (.mk qk qv [])).map kidC = (kids.take j).map kidC ++ kidC (.mk pk pv []) :: kidC (.mk qk qv []) :: (kids.drop (j + 2)).map kidC := by rw [qiX _ _ _ _ hj]; simp
  rw [e]
  have := qj8 (n := 20) (qgB (n := 19) rfl (f1.le (by omega)) (qgB (n := 18) rfl (f2.le (by omega)) ((ql7 (H ++ dead6) (kids.drop (j + 2))).le (by omega)))) (kids.take j)
  exact this.le (by simp; omega)
theorem sh_inner (kids : List Nd) (p q : Nd) (j : Nat) (hj : j + 1 < kids.length) (hk : kids.length < 30) (hp : p.vs = []) (hq : q.vs = []) : Sh (fun b => ((kids.map kidC).set j [.ptr b 0 0 0]).set (j + 1) [.ptr (b + 3) 0 0 0]) (fun b => qai b p q) 6 ((kids.set j p).set (j + 1) q) where
 tlen := fun b => rfl
 pos := by decide
 few := by decide
 rlen := fun b => by simp
 first := fun b => by rw [qdx (qaZ kids) (by simpa using hj)]; simp
 rrow := fun f b b' h => by
  have h0 : f b = some b' := h 0 (by decide)
  have h3 : f (b + 3) = some (b' + 3) := h 3 (by decide)
  exact qf4 (qaZ kids) (by simpa using hj) (by simp [h0]) (by simp [h3])
 rtail := fun f b b' h => by
  have h1 := h 1 (by decide)
  have h2 := h 2 (by decide)
  have h4 := h 4 (by decide)
  have h5 := h 5 (by decide)
  simp [qai, h1, h2, h4, h5, ren_ks, qbj]
 reach := fun H b m hb h => by
  rw [qdx (qaZ kids) (by simpa using hj)]
  have h0 : H[b]? = _ := h 0 (by decide)
  have h1 := h 1 (by decide)
  have h2 := h 2 (by decide)
  have h3 := h 3 (by decide)
  have h4 := h 4 (by decide)
  have h5 := h 5 (by decide)
  simp [qai] at h0 h1 h2 h3 h4 h5
  have e0 : ¬ b = 0 := by omega
  have e1 : ¬ b = 1 := by omega
  have e2 : ¬ b = 2 := by omega
  have e3 : ¬ b = 3 := by omega
  have e5 : ¬ b + 1 = 2 := by omega
  have e6 : ¬ b + 1 = 3 := by omega
  have e7 : ¬ b + 2 = 3 := by omega
  simp [Go.Ab.reach, List.getD_eq_getElem?_getD, h0, h1, h2, h3, h4, h5, ids_ks, ids_vs, qaZ, e0, e1, e2, e3, e5, e6, e7, List.range_succ]
 fz := fun H => by
  obtain ⟨pk, pv, pc⟩ := p
  obtain ⟨qk, qv, qc⟩ := q
  simp only [Nd.vs_mk] at hp hq
  subst hp; subst hq
  refine ⟨dead6, by simp [flatD, dead6], ?_⟩
  have g0 : (H ++ qai H.length (.mk pk [] pc) (.mk qk [] qc))[H.length]? = _ := at_b H (qai H.length (.mk pk [] pc) (.mk qk [] qc)) 0
  have g1 := at_b H (qai H.length (.mk pk [] pc) (.mk qk [] qc)) 1
  have g2 := at_b H (qai H.length (.mk pk [] pc) (.mk qk [] qc)) 2
  have g3 := at_b H (qai H.length (.mk pk [] pc) (.mk qk [] qc)) 3
  have g4 := at_b H (qai H.length (.mk pk [] pc) (.mk qk [] qc)) 4
  have g5 := at_b H (qai H.length (.mk pk [] pc) (.mk qk [] qc)) 5
  have f1 := qhX (ks := pk) (kids := pc) (g0.trans rfl) (g1.trans rfl) (g2.trans rfl) rfl rfl (by omega) (by omega) (by omega)
  have f2 := qhX (H := (((H ++ qai H.length (.mk pk [] pc) (.mk qk [] qc)).set H.length .dead).set (H.length + 1) .dead).set (H.length + 2) .dead) (id := H.length + 3) (v := 0) (kid := H.length + 4) (kv := 1) (cid := H.length + 5) (cv := 1) (ks := qk) (kids := qc)
   (by rw [List.getElem?_set_ne (by omega), List.getElem?_set_ne (by omega), List.getElem?_set_ne (by omega)]; exact g3.trans rfl)
   (by rw [List.getElem?_set_ne (by omega), List.getElem?_set_ne (by omega), List.getElem?_set_ne (by omega)]; exact g4.trans rfl)
   (by rw [List.getElem?_set_ne (by omega), List.getElem?_set_ne (by omega), List.getElem?_set_ne (by omega)]; exact g5.trans rfl) rfl rfl (by omega) (by omega) (by omega)
  have he : ((((((H ++ qai H.length (.mk pk [] pc) (.mk qk [] qc)).set H.length .dead).set (H.length + 1) .dead).set (H.length + 2) .dead).set (H.length + 3) .dead).set (H.length + 4) .dead).set (H.length + 5) .dead = H ++ dead6 := by
   rw [qej, qbY, qbY, qbY, qbY, qbY]; rfl
  rw [he] at f2
  rw [qiX _ _ _ _ (by simpa using hj), ← List.map_take, ← List.map_drop]
  have e : ((kids.set j (.mk pk [] pc)).set (j + 1) (.mk qk [] qc)).map kidC = (kids.take j).map kidC ++ kidC (.mk pk [] pc) :: kidC (.mk qk [] qc) :: (kids.drop (j + 2)).map kidC := by rw [qiX _ _ _ _ hj]; simp
  rw [e]
  have := qj8 (n := 20) (qgB (n := 19) rfl (f1.le (by omega)) (qgB (n := 18) rfl (f2.le (by omega)) ((ql7 (H ++ dead6) (kids.drop (j + 2))).le (by omega)))) (kids.take j)
  exact this.le (by simp; omega)
end Go.Ab.T
namespace Go.Ab.T
open Go Go.Ab Go.Ab.F
theorem idx_at {ids : List Nat} {i j : Nat} (hn : ids.Nodup) (h : ids[j]? = some i) : Go.Ab.idx ids i = some j := by
 unfold Go.Ab.idx
 rw [List.idxOf?_eq_some_iff]
 obtain ⟨hj, he⟩ := List.getElem?_eq_some_iff.1 h
 refine ⟨hj, he, fun k hk heq => ?_⟩
 have : k = j := (List.getElem_inj (h₀ := by omega) (h₁ := hj) hn).1 (heq.trans he.symm)
 omega
theorem ren_app {f : Nat → Option Nat} : ∀ (a b x y : Heap), renHeap f a = some x → renHeap f b = some y → renHeap f (a ++ b) = some (x ++ y)
 | [], b, x, y, h1, h2 => by simp [renHeap] at h1; subst h1; simpa using h2
 | s :: a, b, x, y, h1, h2 => by
   simp only [renHeap, Option.bind_eq_some_iff, Option.map_eq_some_iff] at h1
   obtain ⟨s', hs, z, hz, rfl⟩ := h1
   simp [renHeap, hs, ren_app a b z y hz h2]
def DelV (F : CallFn) (args : List A) (n' : Nd) : Prop := ∃ objs, F args [] = some (.ok (.ptr 0 0 0 0), objs) ∧
 ∀ H : Heap, ∃ H1 d, qaa [] H (.ok (.ptr 0 0 0 0)) objs = some (.ok (.ptr H.length 0 0 0), H1) ∧ flatD d ∧ FzA 100 (.ptr H.length 0 0 0) H1 (.cptr (nodeC n')) (H ++ d)
theorem delV_call {F : CallFn} {args : List A} {n' : Nd} (h : DelV F args n') (ha : pureL args = true) (H : Heap) (n0 : Nat) (wr : List Nat) : ∃ d, flatD d ∧ ∀ {β : Type} (k : A → Heap → Option β),
 (oCallF n0 wr F args H fun w h' => oFrz w h' k) = k (.cptr (nodeC n')) (H ++ d) := by
 obtain ⟨objs, hF, hg⟩ := h
 obtain ⟨H1, d, g1, g2, g3⟩ := hg H
 refine ⟨d, g2, fun k => ?_⟩
 rw [qgz _ ha hF g1]
 exact fz_oFrz g3 (by omega) (by simp) k
theorem delV_lend {F : CallFn} {args : List A} {n' : Nd} (h : DelV F args n') (ha : pureL args = true) (H : Heap) : ∃ d, flatD d ∧ ∀ {β : Type} (kp k : A → Heap → Option β),
 (oLend F args H kp fun w h' => oFrz w h' k) = k (.cptr (nodeC n')) (H ++ d) := by
 obtain ⟨objs, hF, hg⟩ := h
 obtain ⟨H1, d, g1, g2, g3⟩ := hg H
 refine ⟨d, g2, fun kp k => ?_⟩
 rw [qdf _ _ ha hF g1]
 exact fz_oFrz g3 (by omega) (by simp) k
theorem qlf {F : CallFn} {args : List A} {n' : Nd} {kv vv cv : Nat} (h : F args [] = some (.ok (.ptr 0 0 0 0), ownN n' 0 kv vv cv)) : DelV F args n' :=
 ⟨_, h, fun H => ⟨_, [.dead, .dead, .dead, .dead], gb_own1 H n' kv vv cv, by simp [flatD], (fz_ownB H n' kv vv cv).le (by omega)⟩⟩
def oS (b : Nat) (ks : List Int) (kv vv cv n : Nat) (rws : List (List A)) : Heap := [.live ⟨0, 3, [[.osl (b + 1) kv 1 0 ks.length, .osl (b + 2) vv 2 0 0, .osl (b + 3) cv 1 0 n]]⟩, .live ⟨kv, 1, ks.map (cellC .u64)⟩, .live ⟨vv, 2, []⟩, .live ⟨cv, 1, rws⟩]
theorem delV_sh {F : CallFn} {args : List A} {rows : Nat → List (List A)} {tail : Nat → Heap} {len : Nat} {kids : List Nd} (S : Sh rows tail len kids) {ks : List Int} {kv vv cv n : Nat} (hn : n = kids.length)
 (h : F args [] = some (.ok (.ptr 0 0 0 0), oS 0 ks kv vv cv n (rows 4) ++ tail 4)) : DelV F args (.mk ks [] kids) := by
 refine ⟨_, h, fun H => ?_⟩
 have hf : ∀ i, i < len → backIdx [] H.length (4 + i) = some (H.length + 4 + i) := fun i _ => by simp [backIdx]; omega
 obtain ⟨d, hd, hz⟩ := S.fz (H ++ [.dead, .dead, .dead, .dead])
 have hl4 : (H ++ [.dead, .dead, .dead, .dead] : Heap).length = H.length + 4 := by simp
 rw [hl4] at hz
 refine ⟨H ++ (oS H.length ks kv vv cv n (rows (H.length + 4)) ++ tail (H.length + 4)), [.dead, .dead, .dead, .dead] ++ d, ?_, ?_, ?_⟩
 · have hr := S.rrow _ 4 (H.length + 4) hf
   have ht := S.rtail _ 4 (H.length + 4) hf
   have ho : renHeap (backIdx [] H.length) (oS 0 ks kv vv cv n (rows 4)) = some (oS H.length ks kv vv cv n (rows (H.length + 4))) := by
    simp [oS, ren_ks, hr, backIdx]
   simp only [qaa, ren_app _ _ _ _ ho ht]
   simp [backIdx, setAll]
 · intro s hs
   rcases List.mem_append.1 hs with hs | hs
   · simp at hs; subst hs; rfl
   · exact hd s hs
 · generalize htl : tail (H.length + 4) = T at hz ⊢
   generalize hrw : rows (H.length + 4) = R at hz ⊢
   have hRl : R.length = n := by rw [← hrw, S.rlen, hn]
   have g0 : (H ++ (oS H.length ks kv vv cv n R ++ T))[H.length]? = some (.live ⟨0, 3, [[.osl (H.length + 1) kv 1 0 ks.length, .osl (H.length + 2) vv 2 0 0, .osl (H.length + 3) cv 1 0 n]]⟩) := at_b H (oS H.length ks kv vv cv n R ++ T) 0
   have g1 : (H ++ (oS H.length ks kv vv cv n R ++ T))[H.length + 1]? = some (.live ⟨kv, 1, ks.map (cellC .u64)⟩) := at_b H (oS H.length ks kv vv cv n R ++ T) 1
   have g2 : (H ++ (oS H.length ks kv vv cv n R ++ T))[H.length + 2]? = some (.live ⟨vv, 2, []⟩) := at_b H (oS H.length ks kv vv cv n R ++ T) 2
   have g3 : (H ++ (oS H.length ks kv vv cv n R ++ T))[H.length + 3]? = some (.live ⟨cv, 1, R⟩) := at_b H (oS H.length ks kv vv cv n R ++ T) 3
   have he : ((((H ++ (oS H.length ks kv vv cv n R ++ T)).set H.length .dead).set (H.length + 1) .dead).set (H.length + 2) .dead).set (H.length + 3) .dead = H ++ [.dead, .dead, .dead, .dead] ++ T := by
    rw [qej, qbY, qbY, qbY]; simp [oS]
   rw [qfC, ← List.append_assoc H [.dead, .dead, .dead, .dead] d]
   refine FzA.le (n := 71) (fz_ptr (n := 70) (g0) ?_) (by omega)
   refine qaJ (n := 68) rfl (FzA.le (fz_own (rows := ks.map (cellC .u64)) (by rw [List.getElem?_set_ne (by omega)]; exact g1) (by simp) (qaq _ (fun x => by simp [cellC]) _)) (by omega)) ?_
   refine qaJ (n := 67) rfl (FzA.le (fz_own (rows := []) (by rw [List.getElem?_set_ne (by omega), List.getElem?_set_ne (by omega)]; exact g2) (by simp) rfl) (by omega)) ?_
   refine qaJ (n := 66) rfl (FzA.le (fz_osl (n := 60) (rows := R) (rows' := kids.map kidC) (H' := H ++ [.dead, .dead, .dead, .dead] ++ d) (by rw [List.getElem?_set_ne (by omega), List.getElem?_set_ne (by omega), List.getElem?_set_ne (by omega)]; exact g3) (by omega) ?_) (by omega)) ((fzl_nil _).le (by omega))
   rw [he]
   exact hz
theorem hOne_eq (ks : List Int) (kids : List Nd) (kv vv cv : Nat) (C : Nd) (v1 v2 v3 j : Nat) : hOne ks kids kv vv cv C v1 v2 v3 j 4 = oS 0 ks kv vv cv kids.length ((kids.map kidC).set j [.ptr 4 0 0 0]) := rfl
theorem hTwo_eq (ks : List Int) (kids : List Nd) (kv vv cv j : Nat) (b : Int) : hTwo ks kids kv vv cv j b = oS 0 (ks.set j b) kv vv cv kids.length (((kids.map kidC).set j [.ptr 4 0 0 0]).set (j + 1) [.ptr 7 0 0 0]) := by
 simp [hTwo, oS]
def alike (a b : Nd) : Prop := (a.kids = [] ∧ b.kids = [] ∧ a.vs.length = a.ks.length ∧ b.vs.length = b.ks.length) ∨ (a.vs = [] ∧ b.vs = [] ∧ a.kids.length = a.ks.length + 1 ∧ b.kids.length = b.ks.length + 1)
theorem mend_v {ks : List Int} {kids : List Nd} (kv vv cv : Nat) {j : Nat} {a b : Nd} {k : Int} (hks : ks.length ≤ 7) (hkl : kids.length = ks.length + 1) (ha : kids[j]? = some a) (hb : kids[j + 1]? = some b) (hk : ks[j]? = some k)
 (la : a.ks.length ≤ 7) (lb : b.ks.length ≤ 7) (hab : alike a b) :
 ∃ ks' kv' cv' rows tail len kids', Sh rows tail len kids' ∧ mendN (.mk ks [] kids) j = .mk ks' [] kids' ∧
   qb0 [.ptr 0 0 0 0, .s (.int .i64 j)] (ownN (.mk ks [] kids) 0 kv vv cv) = some (.ok (.s (.tuple #[])), oS 0 ks' kv' vv cv' kids'.length (rows 4) ++ tail 4) := by
 have hj : j < ks.length := (List.getElem?_eq_some_iff.1 hk).1
 have hga : kids.getD j (.mk [] [] []) = a := by simp [List.getD_eq_getElem?_getD, ha]
 have hgb : kids.getD (j + 1) (.mk [] [] []) = b := by simp [List.getD_eq_getElem?_getD, hb]
 have hgk : ks.getD j 0 = k := by simp [List.getD_eq_getElem?_getD, hk]
 have hlk : (kids.eraseIdx (j + 1)).length = kids.length - 1 := by rw [List.length_eraseIdx]; split <;> omega
 simp only [mendN, Nd.ks_mk, Nd.vs_mk, Nd.kids_mk, hga, hgb, hgk]
 rcases hab with ⟨a1, b1, a2, b2⟩ | ⟨a1, b1, a2, b2⟩
 · obtain ⟨v1, v2, v3, hm⟩ := qki (kv := kv) (vv := vv) (cv := cv) (by omega) hkl ha hb hk (by omega) (by omega) (by omega) (by omega) (by simp [a1]) (by simp [b1])
   have hC : joinN a k b = .mk (a.ks ++ b.ks) (a.vs ++ b.vs) [] := by simp [joinN, a1]
   rw [hC]
   have hm2 : qb0 [.ptr 0 0 0 0, .s (.int .i64 j)] (ownN (.mk ks [] kids) 0 kv vv cv) = qe2 (.ptr 4 0 0 0) (.ptr 0 0 0 0) (.s (.int .i64 j)) (ownN (.mk ks [] kids) 0 kv vv cv) (h11 (.mk ks [] kids) kv vv cv (.mk (a.ks ++ b.ks) (a.vs ++ b.vs) []) v1 v2 v3) := by
    rw [hm]; simp [h11, a1, b1]
   rw [hm2]
   have hcl : (a.ks ++ b.ks).length ≤ 14 := by simp; omega
   have hcv : (a.vs ++ b.vs).length = (a.ks ++ b.ks).length := by simp [a2, b2]
   generalize a.ks ++ b.ks = cks at *
   generalize a.vs ++ b.vs = cvs at *
   simp only [Nd.ks_mk]
   by_cases h7 : cks.length ≤ 7
   · rw [if_pos h7, qne hkl hj (by omega) (by simpa using h7), hOne_eq]
     exact ⟨_, kv + 1, cv + 1, _, _, _, _, sh_one (kids.eraseIdx (j + 1)) (.mk cks cvs []) v1 v2 v3 j (by omega) (by omega), rfl, by simp⟩
   · rw [if_neg h7, ql3 hkl hj (by omega) (by omega) (by omega) hcv, hTwo_eq, qe6, if_neg h7, if_pos rfl]
     exact ⟨_, kv, cv, _, _, _, _, sh_leaf kids (.mk (cks.take (cks.length / 2)) (cvs.take (cks.length / 2)) []) (.mk (cks.drop (cks.length / 2)) (cvs.drop (cks.length / 2)) []) j (by omega) (by omega) rfl rfl, rfl, by simp⟩
 · have hk0 : a.kids ≠ [] := by intro h; rw [h] at a2; simp at a2
   obtain ⟨v1, v2, v3, hm⟩ := qki (kv := kv) (vv := vv) (cv := cv) (by omega) hkl ha hb hk (by omega) (by omega) (by simp [a1]) (by simp [b1]) (by omega) (by omega)
   have hC : joinN a k b = .mk (a.ks ++ k :: b.ks) [] (a.kids ++ b.kids) := by simp [joinN, hk0]
   rw [hC]
   have hm2 : qb0 [.ptr 0 0 0 0, .s (.int .i64 j)] (ownN (.mk ks [] kids) 0 kv vv cv) = qe2 (.ptr 4 0 0 0) (.ptr 0 0 0 0) (.s (.int .i64 j)) (ownN (.mk ks [] kids) 0 kv vv cv) (h11 (.mk ks [] kids) kv vv cv (.mk (a.ks ++ k :: b.ks) [] (a.kids ++ b.kids)) v1 v2 v3) := by
    rw [hm]; simp [h11, a1, b1, hk0]
   rw [hm2]
   have hcl : (a.ks ++ k :: b.ks).length ≤ 15 := by simp; omega
   have hcv : (a.kids ++ b.kids).length = (a.ks ++ k :: b.ks).length + 1 := by simp [a2, b2]; omega
   generalize a.ks ++ k :: b.ks = cks at *
   generalize a.kids ++ b.kids = ckids at *
   simp only [Nd.ks_mk]
   by_cases h7 : cks.length ≤ 7
   · rw [if_pos h7, qne hkl hj (by omega) (by simpa using h7), hOne_eq]
     exact ⟨_, kv + 1, cv + 1, _, _, _, _, sh_one (kids.eraseIdx (j + 1)) (.mk cks [] ckids) v1 v2 v3 j (by omega) (by omega), rfl, by simp⟩
   · have hcn : ¬ ckids = [] := by rintro rfl; simp at hcv
     rw [if_neg h7, qk2 hkl hj (by omega) (by omega) (by omega) hcv, hTwo_eq, qe6, if_neg h7, if_neg hcn]
     exact ⟨_, kv, cv, _, _, _, _, sh_inner kids (.mk (cks.take (cks.length / 2)) [] (ckids.take (cks.length / 2 + 1))) (.mk (cks.drop (cks.length / 2 + 1)) [] (ckids.drop (cks.length / 2 + 1))) j (by omega) (by omega) rfl rfl, rfl, by simp⟩
theorem mend_call {ks : List Int} {kids : List Nd} {kv vv cv j : Nat} {ks' : List Int} {kv' cv' n : Nat} {rows : Nat → List (List A)} {tail : Nat → Heap} {len : Nat} {kids' : List Nd} (S : Sh rows tail len kids')
 (h : qb0 [.ptr 0 0 0 0, .s (.int .i64 j)] (ownN (.mk ks [] kids) 0 kv vv cv) = some (.ok (.s (.tuple #[])), oS 0 ks' kv' vv cv' n (rows 4) ++ tail 4)) (d : Heap) {β : Type} (kp k : A → Heap → Option β) :
 oCall qb0 [.ptr 0 0 0 0, .s (.int .i64 j)] (ownN (.mk ks [] kids) 0 kv vv cv ++ d) kp k = k (.s (.tuple #[])) (oS 0 ks' kv' vv cv' n (rows (4 + d.length)) ++ d ++ tail (4 + d.length)) := by
 have hO : OwnAt (ownN (.mk ks [] kids) 0 kv vv cv ++ d) 0 1 2 3 (.mk ks [] kids) kv vv cv := ⟨rfl, rfl, rfl, rfl, by decide, by decide, by decide, by decide, by decide, by decide⟩
 have hb : Go.Ab.borrow [.ptr 0 0 0 0, .s (.int .i64 j)] (ownN (.mk ks [] kids) 0 kv vv cv ++ d) = some ([0, 1, 2, 3], [.ptr 0 0 0 0, .s (.int .i64 j)], ownN (.mk ks [] kids) 0 kv vv cv) := by
  have hr := hO.reach 99980
  obtain ⟨i1, i2, i3, i4⟩ := hO.idx
  have e0 := hO.root
  have e1 := hO.ks
  have e2 := hO.vs
  have e3 := hO.kids
  unfold Go.Ab.borrow
  rw [show qa3 = 99980 + 20 from rfl]
  simp [hr, i1, i2, i3, i4, List.getD_eq_getElem?_getD, e0, e1, e2, e3, ren_ks, ren_vs, qbj]
  simp [ownN]
 have hlen : (ownN (.mk ks [] kids) 0 kv vv cv ++ d).length = 4 + d.length := by simp [ownN]; omega
 unfold oCall
 rw [hb]
 simp only [h]
 have hf : ∀ i, i < len → backIdx [0, 1, 2, 3] (4 + d.length) (4 + i) = some (4 + d.length + i) := fun i _ => by simp [backIdx]
 have ho : renHeap (backIdx [0, 1, 2, 3] (4 + d.length)) (oS 0 ks' kv' vv cv' n (rows 4)) = some (oS 0 ks' kv' vv cv' n (rows (4 + d.length))) := by
  simp [oS, ren_ks, S.rrow _ 4 (4 + d.length) hf, backIdx]
 have hg : qaa [0, 1, 2, 3] (ownN (.mk ks [] kids) 0 kv vv cv ++ d) (.ok (.s (.tuple #[]))) (oS 0 ks' kv' vv cv' n (rows 4) ++ tail 4) = some (.ok (.s (.tuple #[])), oS 0 ks' kv' vv cv' n (rows (4 + d.length)) ++ d ++ tail (4 + d.length)) := by
  simp only [qaa, hlen, ren_app _ _ _ _ ho (S.rtail _ 4 (4 + d.length) hf)]
  simp [oS, ownN, setAll]
 rw [hg]
theorem del_finish {ks : List Int} {kv vv cv n : Nat} {rows : Nat → List (List A)} {tail : Nat → Heap} {len : Nat} {kids : List Nd} (S : Sh rows tail len kids) (d : Heap) :
 finish 0 (.ok (.ptr 0 0 0 0)) (oS 0 ks kv vv cv n (rows (4 + d.length)) ++ d ++ tail (4 + d.length)) = some (.ok (.ptr 0 0 0 0), oS 0 ks kv vv cv n (rows 4) ++ tail 4) := by
 have h4 : (oS 0 ks kv vv cv n (rows (4 + d.length)) ++ d).length = 4 + d.length := by simp [oS]; omega
 have hl : ∀ i, i < len → (oS 0 ks kv vv cv n (rows (4 + d.length)) ++ d ++ tail (4 + d.length))[4 + d.length + i]? = (tail (4 + d.length))[i]? := fun i _ => by
  rw [← h4]; exact at_b _ _ i
 have hre := S.reach _ (4 + d.length) 99976 (by omega) hl
 have g0 : (oS 0 ks kv vv cv n (rows (4 + d.length)) ++ d ++ tail (4 + d.length))[0]? = some (.live ⟨0, 3, [[.osl 1 kv 1 0 ks.length, .osl 2 vv 2 0 0, .osl 3 cv 1 0 n]]⟩) := rfl
 have g1 : (oS 0 ks kv vv cv n (rows (4 + d.length)) ++ d ++ tail (4 + d.length))[1]? = some (.live ⟨kv, 1, ks.map (cellC .u64)⟩) := rfl
 have g2 : (oS 0 ks kv vv cv n (rows (4 + d.length)) ++ d ++ tail (4 + d.length))[2]? = some (.live ⟨vv, 2, []⟩) := rfl
 have g3 : (oS 0 ks kv vv cv n (rows (4 + d.length)) ++ d ++ tail (4 + d.length))[3]? = some (.live ⟨cv, 1, rows (4 + d.length)⟩) := rfl
 generalize hb : 4 + d.length = b at *
 generalize hH : oS 0 ks kv vv cv n (rows b) ++ d ++ tail b = H at *
 have hr : Go.Ab.reach H qa3 [] [0] = [0, 1, 2, 3] ++ (List.range len).map (b + ·) := by
  rw [← hre, show qa3 = 99976 + 20 + 4 from rfl]
  generalize 99976 + 20 = m
  simp [Go.Ab.reach, List.getD_eq_getElem?_getD, g0, g1, g2, g3, ids_ks]
 have hnd : ([0, 1, 2, 3] ++ (List.range len).map (b + ·)).Nodup := by
  rw [List.nodup_append]
  refine ⟨by decide, ?_, ?_⟩
  · exact List.pairwise_map.2 (List.Pairwise.imp (fun h h' => h (by omega)) List.nodup_range)
  · intro x hx y hy
    simp only [List.mem_map, List.mem_range] at hy
    obtain ⟨i, hi, rfl⟩ := hy
    simp at hx
    omega
 have hidx : ∀ i, i < len → Go.Ab.idx ([0, 1, 2, 3] ++ (List.range len).map (b + ·)) (b + i) = some (4 + i) := fun i hi => by
  refine idx_at hnd ?_
  rw [List.getElem?_append_right (by simp)]
  simp [hi]
 have x0 : Go.Ab.idx ([0, 1, 2, 3] ++ (List.range len).map (b + ·)) 0 = some 0 := rfl
 have x1 : Go.Ab.idx ([0, 1, 2, 3] ++ (List.range len).map (b + ·)) 1 = some 1 := rfl
 have x2 : Go.Ab.idx ([0, 1, 2, 3] ++ (List.range len).map (b + ·)) 2 = some 2 := rfl
 have x3 : Go.Ab.idx ([0, 1, 2, 3] ++ (List.range len).map (b + ·)) 3 = some 3 := rfl
 have hmap : ([0, 1, 2, 3] ++ (List.range len).map (b + ·)).map (H.getD · .dead) = oS 0 ks kv vv cv n (rows b) ++ tail b := by
  rw [List.map_append, List.map_map]
  congr 1
  · simp [List.getD_eq_getElem?_getD, g0, g1, g2, g3, oS]
  · apply List.ext_getElem?
    intro i
    rw [List.getElem?_map]
    by_cases hi : i < len
    · rw [List.getElem?_range hi]
      have := hl i hi
      simp only [Option.map_some, Function.comp, List.getD_eq_getElem?_getD, this]
      rw [List.getElem?_eq_getElem (by rw [S.tlen]; exact hi)]; rfl
    · rw [List.getElem?_eq_none (by simp; omega), List.getElem?_eq_none (by rw [S.tlen]; omega)]; rfl
 unfold finish
 simp only [qj6, List.range_zero, List.take_zero, List.flatMap_nil, List.append_nil, hr, hmap]
 generalize ([0, 1, 2, 3] ++ (List.range len).map (b + ·)) = ids at *
 have ho : renHeap (Go.Ab.idx ids) (oS 0 ks kv vv cv n (rows b)) = some (oS 0 ks kv vv cv n (rows 4)) := by
  simp [oS, ren_ks, S.rrow _ b 4 hidx, x1, x2, x3]
 rw [ren_app _ _ _ _ ho (S.rtail _ b 4 hidx)]
 simp [x0]
end Go.Ab.T
namespace Go.Ab.T
open Go Go.Ab Go.Ab.F
theorem del_leaf_v {ks : List Int} {vs : List Extent} (hs : ks.Pairwise (· < ·)) (hl : ks.length ≤ 7) (hv : vs.length = ks.length) (x : Int) (self : CallFn) :
 DelV (qaR self) [.cptr (nodeC (.mk ks vs [])), .s (.int .u64 x)] (delN x 0 (.mk ks vs [])) := by
 have hC := fun (h : Heap) (kp k : A → Heap → Option (Out × Heap)) => qgI (.mk ks vs []) (by simp only [Nd.ks_mk]; omega) (by simp only [Nd.vs_mk]; omega) (by simp) h kp k
 have hL := fun (h : Heap) (kp k : A → Heap → Option (Out × Heap)) => qdQ (.mk ks vs []) h kp k
 have hS := fun (h : Heap) (kp k : A → Heap → Option (Ex × List A × Heap)) => qfG ks x hs (by omega) h kp k
 simp only [Nd.kids_mk, decide_true] at hL
 have hp := pos_le ks x
 by_cases hf : ks[pos ks x]? = some x
 · have hdel : delN x 0 (.mk ks vs []) = .mk (ks.eraseIdx (pos ks x)) (vs.eraseIdx (pos ks x)) [] := by simp [delN, hf]
   rw [hdel]
   have hd : decide (ks[pos ks x]? = some x) = true := by simp [hf]
   rw [hd] at hS
   have hpl : pos ks x < ks.length := (List.getElem?_eq_some_iff.1 hf).1
   have hkl : (ks.eraseIdx (pos ks x)).length = ks.length - 1 := by rw [List.length_eraseIdx, if_pos hpl]
   have hvl : (vs.eraseIdx (pos ks x)).length = ks.length - 1 := by rw [List.length_eraseIdx, if_pos (by omega), hv]
   have q1 : IntKind.i64.wrap ((pos ks x : Int) + 1) = ((pos ks x : Nat) : Int) + 1 := qad (by omega) (by omega)
   have hw : wrL [.live ⟨0, 3, [[.osl 1 1 1 0 ks.length, .osl 2 1 2 0 ks.length, .osl 3 1 1 0 0]]⟩, .live ⟨1, 1, ks.map (cellC .u64)⟩, .live ⟨1, 2, vs.map extentC⟩, .live ⟨1, 1, []⟩] [(.ptr 0 0 0 0, true)] = [1, 2, 3] := by
    simp [wrL, wrA, idTop]
   have hO : OwnAt [.live ⟨0, 3, [[.osl 1 2 1 0 (ks.length - 1), .osl 2 2 2 0 (ks.length - 1), .osl 3 1 1 0 0]]⟩, .live ⟨2, 1, (ks.eraseIdx (pos ks x)).map (cellC .u64)⟩, .live ⟨2, 2, (vs.eraseIdx (pos ks x)).map extentC⟩, .live ⟨1, 1, []⟩] 0 1 2 3 (.mk (ks.eraseIdx (pos ks x)) (vs.eraseIdx (pos ks x)) []) 2 2 1 :=
    ⟨by simp [hkl, hvl], rfl, rfl, rfl, by omega, by omega, by omega, by omega, by omega, by omega⟩
   have hfin := qgn hO
   refine qlf (kv := 2) (vv := 2) (cv := 1) ?_
   simp [qaR, hC, hL, hS, qbS, ownB, oLoadD, hv, hw, q1]
   rw [qeA (i := pos ks x) 1 8 _ (by rfl) (by simp) (by simp) hpl rfl rfl (ids_ks _)]
   simp
   rw [qeA (i := pos ks x) 2 16 _ (by rfl) (by simp) (by simp [hv]) hpl rfl rfl (ids_vs _)]
   simp only [qhN]
   simp [qa5, trim, qa2, ids_ks, ids_vs, qel]
   exact hfin
 · have hdel : delN x 0 (.mk ks vs []) = .mk ks vs [] := by simp [delN, hf]
   rw [hdel]
   have hd : decide (ks[pos ks x]? = some x) = false := by simp [hf]
   rw [hd] at hS
   have hO : OwnAt (ownB 0 (.mk ks vs []) 1 1 1) 0 1 2 3 (.mk ks vs []) 1 1 1 :=
    ⟨by simp [ownB], rfl, rfl, rfl, by omega, by omega, by omega, by omega, by omega, by omega⟩
   have hfin := qgn hO
   refine qlf (kv := 1) (vv := 1) (cv := 1) ?_
   simp [qaR, hC, hL, hS, qbS, ownB, trim, qa2, ids_ks, ids_vs, qel] at hfin ⊢
   exact hfin
theorem qn1 {ks : List Int} {kids : List Nd} (hs : ks.Pairwise (· < ·)) (hl : ks.length ≤ 7) (hne : ks ≠ []) (hkl : kids.length = ks.length + 1) (x : Int) {self : CallFn} {kid : Nd} (hk : kids[way ks x]? = some kid) {n1 : Nd} (hself : DelV self [.cptr (nodeC kid), .s (.int .u64 x)] n1)
 (hsz : ∀ m ∈ kids.set (way ks x) n1, m.ks.length ≤ 7) (hal : ∀ a ∈ kids.set (way ks x) n1, ∀ b ∈ kids.set (way ks x) n1, alike a b) :
 DelV (qaR self) [.cptr (nodeC (.mk ks [] kids)), .s (.int .u64 x)]
  (if n1.ks.length < 3 then mendN (.mk ks [] (kids.set (way ks x) n1)) (way ks x - 1) else .mk ks [] (kids.set (way ks x) n1)) := by
 have hkn : ¬ kids = [] := by rintro rfl; simp at hkl
 have hkpos : 0 < ks.length := List.length_pos_iff.2 hne
 have hC := fun (h : Heap) (kp k : A → Heap → Option (Out × Heap)) => qgI (.mk ks [] kids) (by simp only [Nd.ks_mk]; omega) (by simp) (by simp only [Nd.kids_mk]; omega) h kp k
 have hL := fun (h : Heap) (kp k : A → Heap → Option (Out × Heap)) => qdQ (.mk ks [] kids) h kp k
 have hW := fun (h : Heap) (kp k : A → Heap → Option (Out × Heap)) => qn4 (.mk ks [] kids) x hs (by simp only [Nd.ks_mk]; omega) h kp k
 simp only [Nd.kids_mk, hkn, decide_false, Nd.ks_mk] at hL hW
 have hwl := way_le ks x
 have hwk : way ks x < kids.length := by omega
 have hik : (kids.map kidC)[way ks x]? = some (kidC kid) := by simp [hk]
 have ik : ∀ (β : Type) (k : A → Option β), oIdxA 1 (mkF 1 (kids.map kidC)) (.s (.int .i64 (way ks x))) k = k (.cptr (kidC kid)) := fun β k => qbE 1 kidC kids .i64 _ _ k hk
 obtain ⟨d, hd, hP⟩ := delV_call hself (by simp) (ownB 0 (.mk ks [] kids) 1 1 1) 4 []
 have hset : (kids.map kidC).set (way ks x) (kidC n1) = (kids.set (way ks x) n1).map kidC := by rw [List.map_set]
 have hmain : qaR self [.cptr (nodeC (.mk ks [] kids)), .s (.int .u64 x)] [] =
  oJoin (qa0 (.ptr 0 0 0 0) fun x64 =>
  oFieldA 2 x64 fun x65 =>
  oLoad none x65 (ownN (.mk ks [] (kids.set (way ks x) n1)) 0 1 1 1 ++ d) fun x66 =>
  oIdxA 1 x66 (.s (.int .i64 (way ks x))) fun x67 =>
  oLoad none x67 (ownN (.mk ks [] (kids.set (way ks x) n1)) 0 1 1 1 ++ d) fun x68 =>
  qa0 x68 fun x69 =>
  oFieldA 0 x69 fun x70 =>
  oLoad none x70 (ownN (.mk ks [] (kids.set (way ks x) n1)) 0 1 1 1 ++ d) fun x71 =>
  oLen x71 fun x72 =>
  oCmp .lss x72 (.s (.int .i64 3)) fun x73 =>
  oCond x73 (oAr .sub (.s (.int .i64 (way ks x))) (.s (.int .i64 1)) fun x74 =>
  oMax x74 (.s (.int .i64 0)) fun x75 =>
  oCall qb0 [.ptr 0 0 0 0, x75] (ownN (.mk ks [] (kids.set (way ks x) n1)) 0 1 1 1 ++ d) (fun v78 h79 => some (Ex.panic v78, [], h79)) fun w80 h81 => oFrz w80 h81 fun x76 h77 =>
  (Go.Ab.trim true (4 + d.length) [] h77).map fun p => (Ex.normal, p.1, p.2))
  ((Go.Ab.trim true (4 + d.length) [] (ownN (.mk ks [] (kids.set (way ks x) n1)) 0 1 1 1 ++ d)).map fun p => (Ex.normal, p.1, p.2))) (qci [] (.ptr 0 0 0 0)) := by
  have hlen : (ownN (.mk ks [] (kids.set (way ks x) n1)) 0 1 1 1 ++ d).length = 4 + d.length := by simp [ownN]; omega
  have q0 : (0 : Int) ≤ (way ks x : Int) ∧ (way ks x : Int) < (kids.length : Int) := by omega
  simp only [qaR, hC, hL, oCond_s, Bool.false_eq_true, if_false, hW, List.nil_append, List.length_nil]
  simp only [qfA, qde, qgX, qee, Nat.zero_add, oLoadD, ownB, List.length_cons, List.length_nil, Nat.reduceAdd, Nat.reduceLT, List.not_mem_nil, not_false_eq_true, and_true, if_true, qgd, List.getElem?_cons_zero, List.getElem?_cons_succ, qc9, qeJ, qdo, Nd.kids_mk, ik]
  simp only [ownB, Nd.ks_mk, Nd.vs_mk, Nd.kids_mk, Nat.zero_add, List.length_nil, List.map_nil] at hP ⊢
  rw [hP]
  have st : ∀ {β : Type} (K : Heap → Option β), (oIdxA 1 (.osl 3 1 1 0 kids.length) (.s (.int .i64 (way ks x))) fun x62 => oStore none x62 (.cptr (nodeC n1)) ([.live ⟨0, 3, [[.osl 1 1 1 0 ks.length, .osl 2 1 2 0 0, .osl 3 1 1 0 kids.length]]⟩, .live ⟨1, 1, ks.map (cellC .u64)⟩, .live ⟨1, 2, []⟩, .live ⟨1, 1, kids.map kidC⟩] ++ d) K) =
   K (ownN (.mk ks [] (kids.set (way ks x) n1)) 0 1 1 1 ++ d) := by
   intro β K
   have hik2 : kids[way ks x]? = some kid := hk
   simp [q0.2, hwk, hik2, ownN]
  rw [st, hlen]
 clear hP hC hL hW ik hself
 have hw2 : (kids.set (way ks x) n1)[way ks x]? = some n1 := by simp [hwk]
 have hkl2 : (kids.set (way ks x) n1).length = ks.length + 1 := by simp [hkl]
 generalize kids.set (way ks x) n1 = kids2 at *
 have hwk2 : way ks x < kids2.length := by omega
 generalize way ks x = w at *
 have q1 : IntKind.i64.wrap ((w : Int) - 1) = (w : Int) - 1 := qad (by omega) (by omega)
 have q2 : (if (0 : Int) > (w : Int) - 1 then (0 : Int) else (w : Int) - 1) = ((w - 1 : Nat) : Int) := by split <;> omega
 have hw3 : kids2[w]? = some n1 := hw2
 have hw4 : kids2[w]'hwk2 = n1 := by rw [List.getElem?_eq_getElem hwk2] at hw2; exact Option.some.inj hw2
 have hlen : (ownN (.mk ks [] kids2) 0 1 1 1 ++ d).length = 4 + d.length := by simp [ownN]; omega
 have h0 : ∀ s ∈ (ownN (.mk ks [] kids2) 0 1 1 1 ++ d).take (4 + d.length), True := fun _ _ => trivial
 have hm2 : qaR self [.cptr (nodeC (.mk ks [] kids)), .s (.int .u64 x)] [] =
  oJoin (if n1.ks.length < 3 then oCall qb0 [.ptr 0 0 0 0, .s (.int .i64 (w - 1 : Nat))] (ownN (.mk ks [] kids2) 0 1 1 1 ++ d) (fun v78 h79 => some (Ex.panic v78, [], h79)) fun w80 h81 => oFrz w80 h81 fun x76 h77 =>
  (Go.Ab.trim true (4 + d.length) [] h77).map fun p => (Ex.normal, p.1, p.2)
  else ((Go.Ab.trim true (4 + d.length) [] (ownN (.mk ks [] kids2) 0 1 1 1 ++ d)).map fun p => (Ex.normal, p.1, p.2))) (qci [] (.ptr 0 0 0 0)) := by
  rw [hmain]
  have g0 : (ownN (.mk ks [] kids2) 0 1 1 1 ++ d)[0]? = some (.live ⟨0, 3, [[.osl 1 1 1 0 ks.length, .osl 2 1 2 0 0, .osl 3 1 1 0 kids2.length]]⟩) := rfl
  have g3 : (ownN (.mk ks [] kids2) 0 1 1 1 ++ d)[3]? = some (.live ⟨1, 1, kids2.map kidC⟩) := rfl
  generalize ownN (.mk ks [] kids2) 0 1 1 1 ++ d = H at *
  have c3 : ((n1.ks.length : Int) < 3) ↔ n1.ks.length < 3 := by omega
  simp [g0, g3, hwk2, hw3, qbS, q1, q2, c3]
  simp only [hw4, c3]
 by_cases h3 : n1.ks.length < 3
 · rw [if_pos h3] at hm2 ⊢
   obtain ⟨a, ha⟩ : ∃ a, kids2[w - 1]? = some a := ⟨_, List.getElem?_eq_getElem (by omega)⟩
   obtain ⟨b, hb⟩ : ∃ b, kids2[w - 1 + 1]? = some b := ⟨_, List.getElem?_eq_getElem (by omega)⟩
   obtain ⟨k, hkk⟩ : ∃ k, ks[w - 1]? = some k := ⟨_, List.getElem?_eq_getElem (by omega)⟩
   have hma := List.mem_of_getElem? ha
   have hmb := List.mem_of_getElem? hb
   obtain ⟨ks', kv', cv', rows, tail, len, kids', S, e1, e2⟩ := mend_v 1 1 1 hl hkl2 ha hb hkk (hsz a hma) (hsz b hmb) (hal a hma b hmb)
   rw [e1]
   refine delV_sh S (kv := kv') (vv := 1) (cv := cv') rfl (hm2.trans ?_)
   rw [mend_call S e2]
   have ht : Go.Ab.trim true (4 + d.length) [] (oS 0 ks' kv' 1 cv' kids'.length (rows (4 + d.length)) ++ d ++ tail (4 + d.length)) = some ([], oS 0 ks' kv' 1 cv' kids'.length (rows (4 + d.length)) ++ d ++ tail (4 + d.length)) := by
    unfold Go.Ab.trim
    rw [if_neg]
    simp only [Bool.true_and, Bool.and_eq_true, not_and, List.all_eq_true]
    intro _ h
    have hmem : (Go.Ab.Slot.live ⟨cv', 1, rows (4 + d.length)⟩) ∈ (oS 0 ks' kv' 1 cv' kids'.length (rows (4 + d.length)) ++ d ++ tail (4 + d.length)).take (4 + d.length) := by
     refine List.mem_of_getElem? (i := 3) ?_
     rw [List.getElem?_take, if_pos (by omega)]
     rfl
    have := h _ hmem
    simp only [qa2, List.all_eq_true, decide_eq_true_eq] at this
    have := this _ (S.first (4 + d.length))
    omega
   simp only [oFrz_pure' (.s (.tuple #[])) _ _ rfl, ht, Option.map_some, qgx, qci, List.length_nil]
   exact del_finish S d
 · rw [if_neg h3] at hm2 ⊢
   obtain ⟨H', t1, t2⟩ := trim0 (4 + d.length) [] (ownN (.mk ks [] kids2) 0 1 1 1 ++ d)
   have hO : OwnAt (ownN (.mk ks [] kids2) 0 1 1 1 ++ d) 0 1 2 3 (.mk ks [] kids2) 1 1 1 := ⟨rfl, rfl, rfl, rfl, by decide, by decide, by decide, by decide, by decide, by decide⟩
   have hO2 := hO.same (H' := H') (4 + d.length) (by omega) (by omega) (by omega) (by omega) t2
   refine qlf (kv := 1) (vv := 1) (cv := 1) (hm2.trans ?_)
   simp only [t1, Option.map_some, qgx, qci, List.length_nil]
   exact qgn hO2
theorem alike_ok {h : Nat} {lo hi lo' hi' : Option Int} {a b : Nd} (ha : okN h lo hi a) (hb : okN h lo' hi' b) : alike a b := by
 obtain ⟨aks, avs, akids⟩ := a
 obtain ⟨bks, bvs, bkids⟩ := b
 cases h with
 | zero => exact .inl ⟨ha.1, hb.1, ha.2.1, hb.2.1⟩
 | succ h => exact .inr ⟨ha.1, hb.1, qbb ha.2.1, qbb hb.2.1⟩
theorem del_v (x : Int) : ∀ (h : Nat) (lo hi : Option Int) (n : Nd), okN h lo hi n → n.ks.length ≤ 7 → (0 < h → n.ks ≠ []) → lb lo x → ub hi x → ∀ fuel, h < fuel → DelV (qdE fuel) [.cptr (nodeC n), .s (.int .u64 x)] (delN x h n)
 | 0, lo, hi, .mk ks vs kids, hn, hl, _, _, _, fuel, hf => by
   obtain ⟨f, rfl⟩ : ∃ f, fuel = f + 1 := ⟨fuel - 1, by omega⟩
   obtain ⟨rfl, e2, e3, e4⟩ := hn
   exact del_leaf_v e3 hl e2 x _
 | h + 1, lo, hi, .mk ks vs kids, hn, hl, hk0, b1, b2, fuel, hf => by
   obtain ⟨f, rfl⟩ : ∃ f, fuel = f + 1 := ⟨fuel - 1, by omega⟩
   have hs : ks.Pairwise (· < ·) := (qj3 hn).1
   have hk1 : ks ≠ [] := hk0 (by omega)
   obtain ⟨rfl, c1, c2⟩ := hn
   have hkl := qbb c1
   obtain ⟨kid, lo', hi', X, Y, A⟩ := atK (okN_inB h) c1 b1 b2
   have hk := A.get
   have hm := List.mem_of_getElem? hk
   have hks := c2 kid hm
   have hkn : 0 < h → kid.ks ≠ [] := fun _ e => by have := hks.1; rw [e] at this; simp at this
   have ih := del_v x h lo' hi' kid A.ok hks.2 hkn A.lbx A.ubx f (by omega)
   have hok := del_ok (x := x) A.ok hks.2 hkn A.lbx A.ubx
   have hgd : kids.getD (way ks x) (.mk [] [] []) = kid := by simp [List.getD_eq_getElem?_getD, hk]
   have hmem : ∀ m ∈ kids.set (way ks x) (delN x h kid), m.ks.length ≤ 7 ∧ ∃ lo hi, okN h lo hi m := fun m hm => by
    rcases List.mem_or_eq_of_mem_set hm with hm | rfl
    · exact ⟨(c2 m hm).2, qbO c1 m hm⟩
    · exact ⟨by have := hok.2.2.2; have := hks.2; omega, _, _, hok.1⟩
   have := qn1 hs hl hk1 hkl x hk ih (fun m hm => (hmem m hm).1) (fun a ha b hb => by
    obtain ⟨-, _, _, o1⟩ := hmem a ha
    obtain ⟨-, _, _, o2⟩ := hmem b hb
    exact alike_ok o1 o2)
   simp only [delN, hgd]
   exact this
end Go.Ab.T
namespace Go.Ab.T
open Go Go.Ab Go.Ab.F
def delRoot (n : Nd) : Nd := match n.kids with
 | [k] => k
 | _ => n
def delT (x : Int) (h : Nat) (root : Nd) : Nd := if (getP x (flat root)).isSome then delRoot (delN x h root) else root
def delLen (x : Int) (root : Nd) (len : Int) : Int := if (getP x (flat root)).isSome then len - 1 else len
theorem Del_v {h : Nat} {root : Nd} (hT : TreeI h root) (len x : Int) (hlen : -9223372036854775808 < len ∧ len ≤ 9223372036854775807) (H : Heap) : ∃ d, flatD d ∧ ∀ {β : Type} (kp k : A → Heap → Option β),
 (oLend qbe [.cptr (treeC root len), .s (.int .u64 x)] H kp fun w h' => oFrz w h' k) = k (.cptr (treeC (delT x h root) (delLen x root len))) (H ++ d) := by
 have hG := fun (H : Heap) (kp k : A → Heap → Option (Out × Heap)) => qln hT.ok hT.low hT.few len x H kp k
 have hz : ([.s (.int .i64 0), .s (.int .i64 0)] : List A) = extentC ⟨0, 0⟩ := rfl
 cases hg : (getP x (flat root)).isSome with
 | false =>
   have e : delT x h root = root := by simp [delT, hg]
   have e2 : delLen x root len = len := by simp [delLen, hg]
   rw [e, e2]
   refine ⟨[], by simp [flatD], fun {β} kp k => ?_⟩
   have f1 : qbe [.cptr (treeC root len), .s (.int .u64 x)] [] = some (.ok (.cptr (treeC root len)), []) := by
    simp [qbe]
    rw [hG]
    simp [hg, hz, ext_put, qa9]
   rw [qbi _ _ _ _ _ _ (by simp) (by simp) f1]
   simp
 | true =>
   have e : delT x h root = delRoot (delN x h root) := by simp [delT, hg]
   have e2 : delLen x root len = len - 1 := by simp [delLen, hg]
   rw [e, e2]
   have hw : IntKind.i64.wrap (len - 1) = len - 1 := qad (by omega) (by omega)
   have hdel := del_v x h none none root hT.ok hT.few hT.ne (by simp) (by simp) big (by have := big_lt; have := hT.low; omega)
   generalize delN x h root = n at hdel
   obtain ⟨e0, he0⟩ : ∃ e0, getP x (flat root) = some e0 := Option.isSome_iff_exists.1 hg
   obtain ⟨d, hd, hP⟩ := delV_lend hdel (by simp) [.live ⟨0, 2, [extentC e0]⟩]
   have f2 : qbe [.cptr (treeC root len), .s (.int .u64 x)] [] = some (.ok (.ptr 0 0 0 0), [.live ⟨0, 2, [treeC (delRoot n) (len - 1)]⟩]) := by
    have f1 : qbe [.cptr (treeC root len), .s (.int .u64 x)] [] = oJoin (oJoin (oLend qar [.cptr (nodeC n)] ([.live ⟨0, 2, [extentC e0]⟩] ++ d) (fun v20 h21 => some (Ex.panic v20, [], h21)) fun w28 h29 => oFrz w28 h29 fun x18 h19 =>
    oNot x18 fun x22 =>
    oGuard x22 true (fun _ => qa0 (.cptr (nodeC n)) fun x23 =>
    oFieldA 2 x23 fun x24 =>
    oLoad none x24 h19 fun x25 =>
    oLen x25 fun x26 =>
    oCmp .eql x26 (.s (.int .i64 1)) fun x27 =>
    (Go.Ab.trim true (d.length + 1) [x27] h19).map fun p => (Ex.normal, p.1, p.2))
    (fun _ => (Go.Ab.trim true (d.length + 1) [(.s (.bool false))] h19).map fun p => (Ex.normal, p.1, p.2))) (qck (.cptr (nodeC n)) ([.live ⟨0, 2, [extentC e0]⟩] ++ d))) (qdm (.cptr (treeC root len)) []) := by
     simp only [qbe]
     rw [hG]
     have l1 : ([.live ⟨0, 2, [extentC e0]⟩] ++ d : Heap).length = d.length + 1 := by simp
     have t0 : (treeC root len).drop 0 = treeC root len := rfl
     have t1 : (treeC root len)[0]? = some (.cptr (nodeC root)) := rfl
     have hst : ∀ {β : Type} (K : A → Heap → Option β) (K2 : A → Heap → Option β), (oNew none (some 2) (.agg [.s (.int .i64 0), .s (.int .i64 0)]) [] fun x7 h8 => oStore (some 2) x7 (.agg (extentC e0)) h8 fun h9 => K x7 h9) = K (.ptr 0 0 0 0) [.live ⟨0, 2, [extentC e0]⟩] := by
      intro β K K2
      simp [hz, ext_put]
     simp only [hg, he0, Option.getD_some, qef, List.getElem?_cons_zero, List.getElem?_cons_succ]
     rw [hst]
     · simp only [oNot_s, Option.isSome_some, Bool.not_true, oCond_s, Bool.false_eq_true, if_false, qde, qee, qeJ, t0, t1, qc9]
       rw [hP]
       rw [l1]
       rfl
     · exact fun _ _ => none
    have hGl : ([.live ⟨0, 2, [extentC e0]⟩] ++ d : Heap).length = d.length + 1 := by simp
    generalize ([.live ⟨0, 2, [extentC e0]⟩] ++ d : Heap) = G at f1 hGl
    rw [f1, ← hGl]
    have hts : ∀ vs : List A, Go.Ab.trim true G.length vs G = some (vs, G) := fun vs => by
     unfold Go.Ab.trim; rw [List.take_length]; split <;> rfl
    clear f1 hP
    have hfin : ∀ v, finish 0 (.ok (.ptr G.length 0 0 0)) (G ++ [.live ⟨0, 2, [treeC v (len - 1)]⟩]) = some (.ok (.ptr 0 0 0 0), [.live ⟨0, 2, [treeC v (len - 1)]⟩]) := fun v => by
     have hr : Go.Ab.reach (G ++ [.live ⟨0, 2, [treeC v (len - 1)]⟩]) qa3 [] [G.length] = [G.length] := by
      rw [show qa3 = 99990 + 10 from rfl]
      simp [Go.Ab.reach, treeC]
     simp [finish, hr]
     simp [idx, treeC, List.idxOf?_cons]
    have hk2 : ∀ v, qdm (.cptr (treeC root len)) [] .normal [.cptr (nodeC v)] G = some (.ok (.ptr 0 0 0 0), [.live ⟨0, 2, [treeC v (len - 1)]⟩]) := fun v => by
     have t0 : (treeC root len).drop 1 = [.s (.int .i64 len)] := rfl
     have := hfin v
     simp only [treeC] at this
     simp [qdm, t0, hw, qa5, treeC, this]
    have hL := fun (h : Heap) (kp k : A → Heap → Option (Ex × List A × Heap)) => qdQ n h kp k
    rw [hL]
    obtain ⟨ks, vs, kids⟩ := n
    match kids with
    | [] => simp [hts, qck, hk2, delRoot]
    | [m] =>
      have ia : ∀ {β : Type} (k : A → Option β), oIdxA 1 (mkF 1 [kidC m]) (.s (.int .i64 0)) k = k (.cptr (kidC m)) := fun _ => rfl
      simp [hts, qck, hk2, delRoot, qdo, ia]
    | m :: m2 :: r =>
      have e1 : ¬ ((r.length : Int) + 1 + 1 = 1) := by omega
      simp [hts, qck, hk2, delRoot, qdo, e1]
   refine ⟨[.dead], by simp [flatD], fun {β} kp k => ?_⟩
   have hgb : qaa [] H (.ok (.ptr 0 0 0 0)) [.live ⟨0, 2, [treeC (delRoot n) (len - 1)]⟩] = some (.ok (.ptr H.length 0 0 0), H ++ [.live ⟨0, 2, [treeC (delRoot n) (len - 1)]⟩]) := by
    simp [qaa, backIdx, treeC, setAll]
   rw [qdf _ _ (by simp) f2 hgb]
   have hz : FzA 10 (.ptr H.length 0 0 0) (H ++ [.live ⟨0, 2, [treeC (delRoot n) (len - 1)]⟩]) (.cptr (treeC (delRoot n) (len - 1))) (H ++ [.dead]) := by
    have := fz_ptr (n := 9) (id := H.length) (ver := 0) (sz := 2) (row := treeC (delRoot n) (len - 1)) (H := H ++ [.live ⟨0, 2, [treeC (delRoot n) (len - 1)]⟩]) (row' := treeC (delRoot n) (len - 1)) (H' := H ++ [.dead]) (by simp) (by
     simp only [set_end]
     exact qaJ (n := 7) rfl ((fz_flat _ rfl).le (by omega)) (qaJ (n := 6) rfl ((fz_flat _ rfl).le (by omega)) ((fzl_nil _).le (by omega))))
    exact this
   exact fz_oFrz hz (by omega) (by simp) k
theorem qnp {h : Nat} {root : Nd} (hT : TreeI h root) (x : Int) : ∃ h', h' ≤ h ∧ TreeI h' (delT x h root) ∧ flat (delT x h root) = delP x (flat root) := by
 cases hg : (getP x (flat root)).isSome with
 | false =>
   refine ⟨h, Nat.le_refl _, by simpa [delT, hg] using hT, ?_⟩
   rw [show delT x h root = root by simp [delT, hg], qfq]
   intro p hp he
   have : getP x (flat root) = none := by simpa using hg
   simp only [getP, Option.map_eq_none_iff, List.find?_eq_none, decide_eq_true_eq] at this
   exact this p hp he
 | true =>
   rw [show delT x h root = delRoot (delN x h root) by simp [delT, hg]]
   obtain ⟨o1, o2, o3, o4⟩ := del_ok (x := x) hT.ok hT.few hT.ne (by simp) (by simp)
   have hf := hT.few
   generalize delN x h root = n at o1 o2 o3 o4
   obtain ⟨ks, vs, kids⟩ := n
   simp only [Nd.ks_mk] at o3 o4
   cases h with
   | zero =>
     have hk := o1.1
     subst hk
     refine ⟨0, Nat.le_refl _, ⟨o1, by simp only [delRoot, Nd.ks_mk, Nd.kids_mk]; omega, by simp, by decide⟩, o2⟩
   | succ h =>
     obtain ⟨rfl, c1, c2⟩ := o1
     have hkl := qbb c1
     match kids, hkl, c1, c2, o2 with
     | [], hkl, _, _, _ => simp at hkl
     | [m], hkl, c1, c2, o2 =>
       have hks : ks = [] := by simpa using hkl
       subst hks
       have hm := c2 m (by simp)
       refine ⟨h, by omega, ⟨c1, hm.2, fun _ e => ?_, by have := hT.low; omega⟩, ?_⟩
       · have := hm.1; simp only [delRoot, Nd.kids_mk] at e; rw [e] at this; simp at this
       · rw [← o2]; simp [delRoot, flat, flats]
     | m :: m2 :: r, hkl, c1, c2, o2 =>
       refine ⟨h + 1, Nat.le_refl _, ⟨⟨rfl, c1, c2⟩, by simp only [delRoot, Nd.ks_mk, Nd.kids_mk]; omega, fun _ e => ?_, hT.low⟩, o2⟩
       simp only [delRoot, Nd.ks_mk, Nd.kids_mk] at e
       simp [e] at hkl
theorem new_tree : TreeI 0 (.mk [] [] []) := ⟨⟨rfl, rfl, by simp, by simp⟩, by simp, by simp, by decide⟩
theorem qnw (root : Nd) (len : Int) {β : Type} (H : Heap) (kp k : A → Heap → Option β) : (oLend qbd [.cptr (treeC root len)] H kp fun w h' => oFrz w h' k) = k (.s (.int .i64 len)) H := by
 have t : (treeC root len).drop 1 = [.s (.int .i64 len)] := rfl
 have hF : qbd [.cptr (treeC root len)] [] = some (.ok (.s (.int .i64 len)), []) := by simp [qbd, t, qa9]
 rw [qbi _ _ _ _ _ _ (by simp) (by simp) hF]
 simp
end Go.Ab.T
namespace Go.Ab.T
open Go Go.Ab Go.Ab.F
def scanP (a b : Int) : List Pr → List Pr × Bool
 | [] => ([], true)
 | p :: r => if p.1 < a then scanP a b r else if p.1 ≤ b then (p :: (scanP a b r).1, (scanP a b r).2) else ([], false)
theorem qdu (a b : Int) : ∀ X Y : List Pr, scanP a b (X ++ Y) = if (scanP a b X).2 = true then ((scanP a b X).1 ++ (scanP a b Y).1, (scanP a b Y).2) else scanP a b X
 | [], Y => by simp [scanP]
 | p :: X, Y => by
   have ih := qdu a b X Y
   simp only [List.cons_append, scanP]
   by_cases h1 : p.1 < a
   · simp only [if_pos h1]; exact ih
   · simp only [if_neg h1]
     by_cases h2 : p.1 ≤ b
     · simp only [if_pos h2]
       rw [ih]
       split
       · rfl
       · rename_i h; simp at h; simp [h]
     · simp only [if_neg h2]
       simp
theorem qlz {a b : Int} : ∀ {X : List Pr}, (∀ p ∈ X, p.1 < a) → scanP a b X = ([], true)
 | [], _ => rfl
 | p :: X, h => by
   simp only [scanP, if_pos (h p (by simp))]
   exact qlz fun q hq => h q (by simp [hq])
def pairC (p : Pr) : List A := [.s (.int .u64 p.1), .s (.int .i64 p.2.start), .s (.int .i64 p.2.len)]
@[simp] theorem pureL_pair (p : Pr) : pureL (pairC p) = true := by simp [pairC]
@[simp] theorem pairC_len (p : Pr) : (pairC p).length = 3 := _root_.id rfl
@[simp] theorem pairC_ids (p : Pr) : idsL (pairC p) = [] := _root_.id rfl
@[simp] theorem pairC_g0 (p : Pr) (h : 0 < (pairC p).length) : (pairC p)[0] = .s (.int .u64 p.1) := _root_.id rfl
@[simp] theorem pairC_at (p : Pr) : cellsAt (some 3) (pairC p) 0 = some (.agg (pairC p)) := _root_.id rfl
@[simp] theorem pairC_e (p : Pr) : (pairC p).isEmpty = false := _root_.id rfl
@[simp] theorem pairC_ren (f : Nat → Option Nat) (p : Pr) : renL f (pairC p) = some (pairC p) := by simp [pairC]
theorem qb3 (l : List Pr) : idsRows (l.map pairC) = [] := qdZ _ (fun x => by simp [pairC]) l
theorem qbR (f : Nat → Option Nat) (l : List Pr) : renRows f (l.map pairC) = some (l.map pairC) := qb9 f _ (qb3 l)
def hR (b : Int) (l : List Pr) : Heap := if l = [] then [.live ⟨0, 1, [[.s (.int .u64 b)]]⟩, .live ⟨0, 1, [[.s (.slice none 0 0)]]⟩]
 else [.live ⟨0, 1, [[.s (.int .u64 b)]]⟩, .live ⟨0, 1, [[.osl 2 (l.length - 1) 3 0 l.length]]⟩, .live ⟨l.length - 1, 3, l.map pairC⟩]
abbrev rName : String := "(*bailey/tree.Tree).Range$1"
theorem c1_v (p : Pr) (b : Int) (l : List Pr) (hl : l.length < 1000000) : qaF [.agg (pairC p), .ptr 0 0 0 0, .ptr 1 0 0 0] (hR b l) = some (.ok (.s (.bool (decide (p.1 ≤ b)))), hR b (if p.1 ≤ b then l ++ [p] else l)) := by
 by_cases hp : p.1 ≤ b
 · rw [if_pos hp]
   cases l with
   | nil =>
     have hfin : finish 2 (.ok (.s (.bool true))) [.live ⟨0, 1, [[.s (.int .u64 b)]]⟩, .live ⟨0, 1, [[.osl 4 0 3 0 1]]⟩, .live ⟨0, 3, [pairC p]⟩, .live ⟨0, 3, [pairC p]⟩, .live ⟨0, 3, [pairC p]⟩] = some (.ok (.s (.bool true)), [.live ⟨0, 1, [[.s (.int .u64 b)]]⟩, .live ⟨0, 1, [[.osl 2 0 3 0 1]]⟩, .live ⟨0, 3, [pairC p]⟩]) := by
      have hr : Go.Ab.reach [.live ⟨0, 1, [[.s (.int .u64 b)]]⟩, .live ⟨0, 1, [[.osl 4 0 3 0 1]]⟩, .live ⟨0, 3, [pairC p]⟩, .live ⟨0, 3, [pairC p]⟩, .live ⟨0, 3, [pairC p]⟩] qa3 [0, 1] [4] = [0, 1, 4] := by
       rw [show qa3 = 99990 + 10 from rfl]
       simp [Go.Ab.reach]
      have hr2 : List.range 2 = [0, 1] := rfl
      simp [finish, hr2, hr]
      simp [idx, List.idxOf?_cons]
     have ap : qa4 1 24 := by decide
     simp [qaF, hR, hp, qeQ, qa5, trim, qa2, qbx, ap]
     exact hfin
   | cons q r =>
     have hfin : finish 3 (.ok (.s (.bool true))) [.live ⟨0, 1, [[.s (.int .u64 b)]]⟩, .live ⟨0, 1, [[.osl 2 (r.length + 1) 3 0 (r.length + 1 + 1)]]⟩, .live ⟨r.length + 1, 3, (q :: r ++ [p]).map pairC⟩, .live ⟨0, 3, [pairC p]⟩] = some (.ok (.s (.bool true)), [.live ⟨0, 1, [[.s (.int .u64 b)]]⟩, .live ⟨0, 1, [[.osl 2 (r.length + 1) 3 0 (r.length + 1 + 1)]]⟩, .live ⟨r.length + 1, 3, (q :: r ++ [p]).map pairC⟩]) := by
      have i1 := qb3 (q :: r ++ [p])
      have i2 := fun f => qbR f (q :: r ++ [p])
      generalize (q :: r ++ [p]).map pairC = rows at *
      have hr : Go.Ab.reach [.live ⟨0, 1, [[.s (.int .u64 b)]]⟩, .live ⟨0, 1, [[.osl 2 (r.length + 1) 3 0 (r.length + 1 + 1)]]⟩, .live ⟨r.length + 1, 3, rows⟩, .live ⟨0, 3, [pairC p]⟩] qa3 [0, 1, 2] [2] = [0, 1, 2] := by
       rw [show qa3 = 99990 + 10 from rfl]
       simp [Go.Ab.reach, i1]
      have hr2 : List.range 3 = [0, 1, 2] := rfl
      simp [finish, hr2, hr, i1]
      simp [idx, List.idxOf?_cons, i2]
     have ap : qa4 (r.length + 1 + 1) 24 := by
      simp only [List.length_cons] at hl
      unfold qa4; omega
     have i3 : idsRows (r.map pairC ++ [pairC p]) = [] := by rw [qas, qb3]; simp
     simp [qaF, hR, hp, qb1, qa5, trim, qa2, qbx, ap, qb3, i3, List.take_of_length_le]
     simpa using hfin
 · rw [if_neg hp]
   by_cases hl0 : l = []
   · subst hl0
     have hfin : finish 2 (.ok (.s (.bool false))) [.live ⟨0, 1, [[.s (.int .u64 b)]]⟩, .live ⟨0, 1, [[.s (.slice none 0 0)]]⟩, .live ⟨0, 3, [pairC p]⟩] = some (.ok (.s (.bool false)), [.live ⟨0, 1, [[.s (.int .u64 b)]]⟩, .live ⟨0, 1, [[.s (.slice none 0 0)]]⟩]) := by
      have hr : Go.Ab.reach [.live ⟨0, 1, [[.s (.int .u64 b)]]⟩, .live ⟨0, 1, [[.s (.slice none 0 0)]]⟩, .live ⟨0, 3, [pairC p]⟩] qa3 [0, 1] [] = [0, 1] := by
       simp
      have hr2 : List.range 2 = [0, 1] := rfl
      simp [finish, hr2, hr]
     simp [qaF, hR, hp, qa5, trim, qa2, qbx]
     simpa using hfin
   · have i1 := qb3 l
     have i2 := fun f => qbR f l
     simp only [hR, if_neg hl0]
     generalize l.length - 1 = v
     generalize l.length = n
     generalize l.map pairC = rows at *
     have hfin : finish 3 (.ok (.s (.bool false))) [.live ⟨0, 1, [[.s (.int .u64 b)]]⟩, .live ⟨0, 1, [[.osl 2 v 3 0 n]]⟩, .live ⟨v, 3, rows⟩, .live ⟨0, 3, [pairC p]⟩] = some (.ok (.s (.bool false)), [.live ⟨0, 1, [[.s (.int .u64 b)]]⟩, .live ⟨0, 1, [[.osl 2 v 3 0 n]]⟩, .live ⟨v, 3, rows⟩]) := by
      have hr : Go.Ab.reach [.live ⟨0, 1, [[.s (.int .u64 b)]]⟩, .live ⟨0, 1, [[.osl 2 v 3 0 n]]⟩, .live ⟨v, 3, rows⟩, .live ⟨0, 3, [pairC p]⟩] qa3 [0, 1, 2] [2] = [0, 1, 2] := by
       rw [show qa3 = 99990 + 10 from rfl]
       simp [Go.Ab.reach]
      have hr2 : List.range 3 = [0, 1, 2] := rfl
      simp [finish, hr2, hr, i1]
      simp [idx, List.idxOf?_cons, i2]
     simp [qaF, hp, qa5, trim, qa2, qbx, i1]
     simpa using hfin
theorem hR_nil (b : Int) : hR b [] = [.live ⟨0, 1, [[.s (.int .u64 b)]]⟩, .live ⟨0, 1, [[.s (.slice none 0 0)]]⟩] := rfl
theorem hR_cons (b : Int) {l : List Pr} (h : l ≠ []) : hR b l = [.live ⟨0, 1, [[.s (.int .u64 b)]]⟩, .live ⟨0, 1, [[.osl 2 (l.length - 1) 3 0 l.length]]⟩, .live ⟨l.length - 1, 3, l.map pairC⟩] := by simp [hR, h]
def two01 (args : List A) : Prop := idsL args = [0, 1] ∧ ∀ f : Nat → Option Nat, f 0 = some 0 → f 1 = some 1 → renL f args = some args
theorem hR_borrow {args : List A} (ha : two01 args) (b : Int) (l : List Pr) : Go.Ab.borrow args (hR b l) = some (if l = [] then [0, 1] else [0, 1, 2], args, hR b l) := by
 obtain ⟨hi, hr⟩ := ha
 by_cases h : l = []
 · subst h
   rw [if_pos rfl, hR_nil]
   have h1 : Go.Ab.reach [.live ⟨0, 1, [[.s (.int .u64 b)]]⟩, .live ⟨0, 1, [[.s (.slice none 0 0)]]⟩] qa3 [] [0, 1] = [0, 1] := by
    rw [show qa3 = 99990 + 10 from rfl]
    simp [Go.Ab.reach]
   unfold Go.Ab.borrow
   simp only [hi, h1]
   rw [hr (Go.Ab.idx [0, 1]) rfl rfl]
   simp
 · rw [if_neg h, hR_cons b h]
   have i1 := qb3 l
   have i2 := fun f => qbR f l
   generalize l.map pairC = rows at *
   have h1 : Go.Ab.reach [.live ⟨0, 1, [[.s (.int .u64 b)]]⟩, .live ⟨0, 1, [[.osl 2 (l.length - 1) 3 0 l.length]]⟩, .live ⟨l.length - 1, 3, rows⟩] qa3 [] [0, 1] = [0, 1, 2] := by
    rw [show qa3 = 99990 + 10 from rfl]
    simp [Go.Ab.reach, i1]
   unfold Go.Ab.borrow
   simp only [hi, h1]
   rw [hr (Go.Ab.idx [0, 1, 2]) rfl rfl]
   simp [i2, idx, List.idxOf?_cons]
theorem hR_len (b : Int) (l : List Pr) : (hR b l).length = if l = [] then 2 else 3 := by unfold hR; split <;> rfl
theorem hR_call {F : CallFn} {args : List A} (ha : two01 args) (b : Int) (l : List Pr) {v : A} {l' : List Pr} (hv : idsA v = []) (hl : l ≠ [] → l' ≠ []) (hF : F args (hR b l) = some (.ok v, hR b l')) {β : Type} (kp k : A → Heap → Option β) :
 oCall F args (hR b l) kp k = k v (hR b l') := by
 unfold oCall
 rw [hR_borrow ha]
 simp only [hF]
 have hg : qaa (if l = [] then [0, 1] else [0, 1, 2]) (hR b l) (.ok v) (hR b l') = some (.ok v, hR b l') := by
  have hvr := fun f => qcL v f hv
  by_cases h : l = []
  · subst h
    rw [if_pos rfl]
    by_cases h' : l' = []
    · subst h'
      simp [qaa, hR_nil, hvr, setAll]
    · rw [hR_cons b h']
      simp [qaa, hR_nil, hvr, setAll, backIdx, qbR]
  · rw [if_neg h, hR_cons b (hl h)]
    rw [hR_cons b h]
    simp [qaa, hvr, setAll, backIdx, qbR]
 rw [hg]
theorem hR_trim (b : Int) (l l' : List Pr) (vs : List A) (hv : idsL vs = []) (hl : l ≠ [] → l' ≠ []) : Go.Ab.trim true (hR b l).length vs (hR b l') = some (vs, hR b l') := by
 rw [hR_len]
 unfold Go.Ab.trim
 by_cases h : l = []
 · rw [if_pos h]
   by_cases h' : l' = []
   · subst h'
     simp [hR_nil]
   · rw [hR_cons b h', if_neg]
     simp [hv, qa2]
 · rw [if_neg h, hR_cons b (hl h)]
   simp
theorem qm2 (b : Int) (l l' : List Pr) (v : A) (hv : idsA v = []) (hl : l ≠ [] → l' ≠ []) : finish (hR b l).length (.ok v) (hR b l') = some (.ok v, hR b l') := by
 rw [hR_len]
 have hvr := fun f => qcL v f hv
 have r2 : List.range 2 = [0, 1] := rfl
 have r3 : List.range 3 = [0, 1, 2] := rfl
 by_cases h' : l' = []
 · have h : l = [] := Classical.byContradiction fun h => hl h h'
   subst h; subst h'
   simp [finish, hR_nil, r2, hv, hvr]
 · have i1 := qb3 l'
   have i2 := fun f => qbR f l'
   rw [hR_cons b h']
   generalize l'.map pairC = rows at *
   split
   · have h1 : Go.Ab.reach [.live ⟨0, 1, [[.s (.int .u64 b)]]⟩, .live ⟨0, 1, [[.osl 2 (l'.length - 1) 3 0 l'.length]]⟩, .live ⟨l'.length - 1, 3, rows⟩] qa3 [0, 1] [2] = [0, 1, 2] := by
      rw [show qa3 = 99990 + 10 from rfl]
      simp [Go.Ab.reach, i1]
     simp [finish, r2, hv, hvr, h1]
     simp [i2, idx, List.idxOf?_cons]
   · have h1 : Go.Ab.reach [.live ⟨0, 1, [[.s (.int .u64 b)]]⟩, .live ⟨0, 1, [[.osl 2 (l'.length - 1) 3 0 l'.length]]⟩, .live ⟨l'.length - 1, 3, rows⟩] qa3 [0, 1, 2] [2] = [0, 1, 2] := by
      rw [show qa3 = 99990 + 10 from rfl]
      simp [Go.Ab.reach, i1]
     simp [finish, r3, hv, hvr, h1, i1]
     simp [i2, idx, List.idxOf?_cons]
theorem en_range : qak rName = qaF := by simp [qak, rName]
abbrev fnR : A := .fn rName [.ptr 0 0 0 0, .ptr 1 0 0 0]
theorem c1_call (p : Pr) (b : Int) (l : List Pr) (hl : l.length < 1000000) {β : Type} (kp k : A → Heap → Option β) :
 (oCallV qak fnR [.agg (pairC p)] (hR b l) kp fun w h' => oFrz w h' k) = k (.s (.bool (decide (p.1 ≤ b)))) (hR b (if p.1 ≤ b then l ++ [p] else l)) := by
 rw [oCallV_fn, en_range]
 have := hR_call (F := qaF) (args := [.agg (pairC p), .ptr 0 0 0 0, .ptr 1 0 0 0]) ⟨by simp, fun f h0 h1 => by simp [h0, h1]⟩ b l (v := .s (.bool (decide (p.1 ≤ b)))) (by simp) (by intro h; split <;> simp [h]) (c1_v p b l hl) kp (fun w h' => oFrz w h' k)
 refine Eq.trans this ?_
 simp
theorem visit_leaf {ks : List Int} {vs : List Extent} (hv : vs.length = ks.length) (hk : ks.length < 1000) (a b : Int) (l : List Pr) (hl : l.length < 900000) (self : CallFn) :
 qaL qak self [.cptr (nodeC (.mk ks vs [])), .s (.int .u64 a), fnR] (hR b l) = some (.ok (.s (.bool (scanP a b (ks.zip vs)).2)), hR b (l ++ (scanP a b (ks.zip vs)).1)) := by
 have hL := fun (h : Heap) (kp k : A → Heap → Option (Out × Heap)) => qdQ (.mk ks vs []) h kp k
 simp only [Nd.kids_mk, decide_true] at hL
 have hzl : (ks.zip vs).length = ks.length := by simp [hv]
 have hsl : ∀ X : List Pr, (scanP a b X).1.length ≤ X.length := by
  intro X
  induction X with
  | nil => simp [scanP]
  | cons p X ih =>
    simp only [scanP]
    split
    · simp only [List.length_cons]; omega
    · split
      · simp only [List.length_cons]; omega
      · simp
 obtain ⟨q, hQ, hq⟩ := qb6 (step := qbl qak (.s (.int .i64 ks.length)) (mkF 1 (ks.map (cellC .u64))) (.s (.int .u64 a)) (.cptr (nodeC (.mk ks vs []))) fnR (hR b l)) (s0 := ([.s (.int .i64 0)], hR b l))
  (fun i s => s = ([.s (.int .i64 i)], hR b (l ++ (scanP a b ((ks.zip vs).take i)).1)) ∧ (scanP a b ((ks.zip vs).take i)).2 = true)
  (fun q => q = if (scanP a b (ks.zip vs)).2 = true then (Ex.exit 0, [.any], hR b (l ++ (scanP a b (ks.zip vs)).1)) else (Ex.ret, [.s (.bool false)], hR b (l ++ (scanP a b (ks.zip vs)).1))) ks.length ⟨by simp [scanP], by simp [scanP]⟩ (by omega)
  (by
   rintro i s hi ⟨rfl, h2⟩
   have hki : ks[i]? = some ks[i] := List.getElem?_eq_getElem hi
   have hvi : vs[i]? = some (vs[i]'(by omega)) := List.getElem?_eq_getElem _
   have hz : (ks.zip vs).take (i + 1) = (ks.zip vs).take i ++ [(ks[i], vs[i]'(by omega))] := by
    rw [List.take_add_one, List.getElem?_eq_getElem (by omega), List.getElem_zip]; rfl
   have hX := hsl ((ks.zip vs).take i)
   have hXl : ((ks.zip vs).take i).length ≤ i := by simp; omega
   have hall : ks.zip vs = (ks.zip vs).take (i + 1) ++ (ks.zip vs).drop (i + 1) := (List.take_append_drop _ _).symm
   have ik : ∀ (β : Type) (k : A → Option β), oIdxA 1 (mkF 1 (ks.map (cellC .u64))) (.s (.int .i64 i)) k = k (.cptr (cellC .u64 ks[i])) := fun β k => qbE 1 _ ks .i64 _ _ k hki
   have iv : ∀ (β : Type) (k : A → Option β), oIdxA 2 (mkF 2 (vs.map extentC)) (.s (.int .i64 i)) k = k (.cptr (extentC (vs[i]'(by omega)))) := fun β k => qbE 2 _ vs .i64 _ _ k hvi
   have hsc := qdu a b ((ks.zip vs).take i) [(ks[i], vs[i]'(by omega))]
   rw [if_pos h2, ← hz] at hsc
   have w1 : IntKind.i64.wrap ((i : Int) + 1) = ((i + 1 : Nat) : Int) := by rw [qad (by omega) (by omega)]; simp
   have c1 := fun {β : Type} (kp k : A → Heap → Option β) => c1_call (ks[i], vs[i]'(by omega)) b (l ++ (scanP a b ((ks.zip vs).take i)).1) (by simp; omega) kp k
   have hL1 : (l ++ (scanP a b ((ks.zip vs).take i)).1) ≠ [] ∨ l = [] := by
    by_cases h : l = []
    · exact .inr h
    · exact .inl (by simp [h])
   generalize (scanP a b ((ks.zip vs).take i)).1 = X at *
   generalize ks[i] = k0 at *
   generalize (vs[i]'(by omega)) = v0 at *
   generalize (ks.zip vs).drop (i + 1) = R at *
   generalize hT : (ks.zip vs).take (i + 1) = T at *
   have ht : ∀ (Y : List Pr) (v : A), idsA v = [] → Go.Ab.trim true (hR b l).length [v] (hR b (l ++ Y)) = some ([v], hR b (l ++ Y)) := fun Y v hv => hR_trim b l (l ++ Y) [v] (by simp [hv]) (by intro h; simp [h])
   have ht2 : ∀ (v : A), idsA v = [] → Go.Ab.trim true (hR b (l ++ X)).length [v] (hR b (l ++ (X ++ [(k0, v0)]))) = some ([v], hR b (l ++ (X ++ [(k0, v0)]))) := fun v hv => hR_trim b _ _ [v] (by simp [hv]) (by simp)
   have ht3 : ∀ (v : A), idsA v = [] → Go.Ab.trim true (hR b (l ++ X)).length [v] (hR b (l ++ X)) = some ([v], hR b (l ++ X)) := fun v hv => hR_trim b _ _ [v] (by simp [hv]) _root_.id
   have c1' : ∀ {β : Type} (kp k : A → Heap → Option β), (oCall (qak rName) [.agg (qa5 [.s (.int .u64 k0), .s (.int .i64 0), .s (.int .i64 0)] 1 (extentC v0)), .ptr 0 0 0 0, .ptr 1 0 0 0] (hR b (l ++ X)) kp fun w h' => oFrz w h' k) = k (.s (.bool (decide (k0 ≤ b)))) (hR b (if k0 ≤ b then l ++ X ++ [(k0, v0)] else l ++ X)) := c1
   by_cases g1 : k0 < a
   · left
     have e1 : scanP a b T = (X, true) := by rw [hsc]; simp [scanP, g1]
     have g2 : ¬ a ≤ k0 := by omega
     refine ⟨([.s (.int .i64 (i + 1 : Nat))], hR b (l ++ X)), ?_, by rw [e1], by rw [e1]⟩
     simp [qbl, hi, ik, iv, cellC, g2, ht3, qct, w1, ht]
   · have g2 : a ≤ k0 := by omega
     by_cases g3 : k0 ≤ b
     · left
       have e1 : scanP a b T = (X ++ [(k0, v0)], true) := by rw [hsc]; simp [scanP, g1, g3]
       refine ⟨([.s (.int .i64 (i + 1 : Nat))], hR b (l ++ (X ++ [(k0, v0)]))), ?_, by rw [e1], by rw [e1]⟩
       simp [qbl, hi, ik, iv, cellC, g2, g3, ht2, qct, w1, ht, qeC, c1']
     · right
       have e1 : scanP a b T = (X, false) := by rw [hsc]; simp [scanP, g1, g3]
       have e2 : scanP a b (ks.zip vs) = (X, false) := by rw [hall, qdu, e1]; simp
       refine ⟨_, ?_, rfl⟩
       rw [e2]
       simp [qbl, hi, ik, iv, cellC, g2, g3, ht3, qct, w1, ht, qeC, c1'])
  (by
   rintro s ⟨rfl, h2⟩
   have ht : ∀ (Y : List Pr) (v : A), idsA v = [] → Go.Ab.trim true (hR b l).length [v] (hR b (l ++ Y)) = some ([v], hR b (l ++ Y)) := fun Y v hv => hR_trim b l (l ++ Y) [v] (by simp [hv]) (by intro h; simp [h])
   rw [List.take_of_length_le (by omega)] at h2 ⊢
   refine ⟨_, ?_, rfl⟩
   rw [if_pos h2]
   simp [qbl, ht])
 have hfin : ∀ (v : A), idsA v = [] → finish (hR b l).length (.ok v) (hR b (l ++ (scanP a b (ks.zip vs)).1)) = some (.ok v, hR b (l ++ (scanP a b (ks.zip vs)).1)) := fun v hv => qm2 b l _ v hv (by intro h; simp [h])
 have h1 : qaL qak self [.cptr (nodeC (.mk ks vs [])), .s (.int .u64 a), fnR] (hR b l) = oLoop (qbl qak (.s (.int .i64 ks.length)) (mkF 1 (ks.map (cellC .u64))) (.s (.int .u64 a)) (.cptr (nodeC (.mk ks vs []))) fnR (hR b l)) ([.s (.int .i64 0)], hR b l) (qdC (hR b l)) := by
  simp [qaL, hL, qbS]
 rw [h1, hq, hQ]
 generalize scanP a b (ks.zip vs) = r at *
 obtain ⟨r1, r2⟩ := r
 cases r2 <;> simp [qdC, hfin]
theorem qkF (a b : Int) : ∀ X : List Pr, (scanP a b X).1.length ≤ X.length
 | [] => by simp [scanP]
 | p :: X => by
   have ih := qkF a b X
   simp only [scanP]
   split
   · simp only [List.length_cons]; omega
   · split
     · simp only [List.length_cons]; omega
     · simp
theorem qmn {P : Option Int → Option Int → Nd → Prop} (hP : ∀ lo hi n, P lo hi n → inB lo hi (flat n)) (x : Int) : ∀ {lo : Option Int} {ks : List Int} {kids : List Nd} {hi : Option Int}, chain P lo ks kids hi → ∀ p ∈ flats (kids.take (way ks x)), p.1 < x
 | lo, [], [n], hi, h => by simp [way, flats]
 | lo, k :: ks, n :: ns, hi, h => by
   obtain ⟨c1, c2, c3, c4⟩ := h
   simp only [way]
   split
   · rename_i hk
     intro p hp
     simp only [List.take_succ_cons, flats, List.mem_append] at hp
     rcases hp with hp | hp
     · have := (hP _ _ _ c1 p hp).2 k rfl
       omega
     · exact qmn hP x c4 p hp
   · simp [flats]
 | _, [], [], _, h => h.elim
 | _, [], _ :: _ :: _, _, h => h.elim
 | _, _ :: _, [], _, h => h.elim
theorem qmq {ks : List Int} {kids : List Nd} (hs : ks.Pairwise (· < ·)) (hk : ks.length < 1000) (hkl : kids.length = ks.length + 1) (a b : Int) (hlow : ∀ p ∈ flats (kids.take (way ks a)), p.1 < a) (l : List Pr) {self : CallFn}
 (ih : ∀ m ∈ kids, ∀ l' : List Pr, l'.length + (flat m).length ≤ l.length + (flats kids).length → self [.cptr (nodeC m), .s (.int .u64 a), fnR] (hR b l') = some (.ok (.s (.bool (scanP a b (flat m)).2)), hR b (l' ++ (scanP a b (flat m)).1))) :
 qaL qak self [.cptr (nodeC (.mk ks [] kids)), .s (.int .u64 a), fnR] (hR b l) = some (.ok (.s (.bool (scanP a b (flats kids)).2)), hR b (l ++ (scanP a b (flats kids)).1)) := by
 have hkn : ¬ kids = [] := by rintro rfl; simp at hkl
 have hL := fun (h : Heap) (kp k : A → Heap → Option (Out × Heap)) => qdQ (.mk ks [] kids) h kp k
 simp only [Nd.kids_mk, hkn, decide_false] at hL
 have hW := fun (n0 : Nat) (h : Heap) (k : A → Heap → Option (Out × Heap)) => qlo n0 [] (.mk ks [] kids) a hs (by simp only [Nd.ks_mk]; omega) h k
 simp only [Nd.ks_mk] at hW
 have hwl := way_le ks a
 have hall : scanP a b (flats kids) = scanP a b (flats (kids.drop (way ks a))) := by
  have : flats kids = flats (kids.take (way ks a)) ++ flats (kids.drop (way ks a)) := by rw [← qc8, List.take_append_drop]
  rw [this, qdu, qlz hlow]; simp
 have hfl : (flats (kids.drop (way ks a))).length ≤ (flats kids).length := by
  have : flats kids = flats (kids.take (way ks a)) ++ flats (kids.drop (way ks a)) := by rw [← qc8, List.take_append_drop]
  rw [this, List.length_append]; omega
 have ih2 : ∀ m ∈ kids.drop (way ks a), ∀ l' : List Pr, l'.length + (flat m).length ≤ l.length + (flats kids).length → self [.cptr (nodeC m), .s (.int .u64 a), fnR] (hR b l') = some (.ok (.s (.bool (scanP a b (flat m)).2)), hR b (l' ++ (scanP a b (flat m)).1)) := fun m hm => ih m (List.mem_of_mem_drop hm)
 have h1 : qaL qak self [.cptr (nodeC (.mk ks [] kids)), .s (.int .u64 a), fnR] (hR b l) = oLoop (qbA self (.s (.int .i64 (kids.drop (way ks a)).length)) (mkF 1 ((kids.drop (way ks a)).map kidC)) (.s (.int .u64 a)) fnR (hR b l)) ([.s (.int .i64 0)], hR b l) (qdB (hR b l)) := by
  simp [qaL, hL, qdo, oLoadD, hW]
  rw [oSlice_mkF 1 (kids.map kidC) _ _ (way ks a) kids.length _ (by simp [bnd]) (by simp [bnd]) (by omega) (by simp)]
  have : ((kids.length - way ks a : Nat) : Int) = ((kids.drop (way ks a)).length : Int) := by simp
  simp [List.take_of_length_le]
 rw [h1, hall]
 have hKl : (kids.drop (way ks a)).length ≤ 1000 := by simp; omega
 generalize kids.drop (way ks a) = K at *
 obtain ⟨q, hQ, hq⟩ := qb6 (step := qbA self (.s (.int .i64 K.length)) (mkF 1 (K.map kidC)) (.s (.int .u64 a)) fnR (hR b l)) (s0 := ([.s (.int .i64 0)], hR b l))
  (fun i s => s = ([.s (.int .i64 i)], hR b (l ++ (scanP a b (flats (K.take i))).1)) ∧ (scanP a b (flats (K.take i))).2 = true)
  (fun q => q = if (scanP a b (flats K)).2 = true then (Ex.exit 2, [.any], hR b (l ++ (scanP a b (flats K)).1)) else (Ex.ret, [.s (.bool false)], hR b (l ++ (scanP a b (flats K)).1))) K.length ⟨by simp [scanP, flats], by simp [scanP, flats]⟩ (by omega)
  (by
   rintro i s hi ⟨rfl, h2⟩
   have hki : K[i]? = some K[i] := List.getElem?_eq_getElem hi
   have hm := List.getElem_mem hi
   have hz : flats (K.take (i + 1)) = flats (K.take i) ++ flat K[i] := by
    rw [List.take_add_one, hki, qc8]; simp [flats]
   have hsplit : flats K = flats (K.take (i + 1)) ++ flats (K.drop (i + 1)) := by rw [← qc8, List.take_append_drop]
   have hX := qkF a b (flats (K.take i))
   have hXl : (flats (K.take i)).length + (flat K[i]).length ≤ (flats K).length := by rw [hsplit, hz]; simp only [List.length_append]; omega
   have ik : ∀ (β : Type) (k : A → Option β), oIdxA 1 (mkF 1 (K.map kidC)) (.s (.int .i64 i)) k = k (.cptr (kidC K[i])) := fun β k => qbE 1 _ K .i64 _ _ k hki
   have hsc := qdu a b (flats (K.take i)) (flat K[i])
   rw [if_pos h2, ← hz] at hsc
   have w1 : IntKind.i64.wrap ((i : Int) + 1) = ((i + 1 : Nat) : Int) := by rw [qad (by omega) (by omega)]; simp
   have ih3 := ih2 K[i] hm (l ++ (scanP a b (flats (K.take i))).1) (by simp only [List.length_append]; omega)
   generalize (scanP a b (flats (K.take i))).1 = X at *
   generalize K[i] = m at *
   generalize flats (K.take (i + 1)) = T at *
   generalize flats (K.drop (i + 1)) = R at *
   have c1 : ∀ {β : Type} (kp k : A → Heap → Option β), oCall self [.cptr (nodeC m), .s (.int .u64 a), fnR] (hR b (l ++ X)) kp k = k (.s (.bool (scanP a b (flat m)).2)) (hR b (l ++ X ++ (scanP a b (flat m)).1)) := fun kp k =>
    hR_call (args := [.cptr (nodeC m), .s (.int .u64 a), fnR]) ⟨by simp, fun f h0 h1 => by simp [h0, h1]⟩ b (l ++ X) (by simp) (fun h h' => h (List.append_eq_nil_iff.1 h').1) ih3 kp k
   generalize scanP a b (flat m) = r at *
   obtain ⟨r1, r2⟩ := r
   simp only at hsc c1
   have ht : ∀ (v : A), idsA v = [] → Go.Ab.trim true (hR b l).length [v] (hR b (l ++ X ++ r1)) = some ([v], hR b (l ++ X ++ r1)) := fun v hv => hR_trim b l _ [v] (by simp [hv]) (by intro h; simp [h])
   cases r2 with
   | true =>
     left
     refine ⟨([.s (.int .i64 (i + 1 : Nat))], hR b (l ++ X ++ r1)), ?_, by rw [hsc]; simp, by rw [hsc]⟩
     simp only [List.append_assoc] at ht c1
     simp [qbA, hi, ik, c1, ht, w1]
   | false =>
     right
     have e2 : scanP a b (flats K) = (X ++ r1, false) := by rw [hsplit, qdu, hsc]; simp
     refine ⟨_, ?_, rfl⟩
     rw [e2]
     simp only [List.append_assoc] at ht c1
     simp [qbA, hi, ik, c1, ht, w1])
  (by
   rintro s ⟨rfl, h2⟩
   have ht : ∀ (Y : List Pr) (v : A), idsA v = [] → Go.Ab.trim true (hR b l).length [v] (hR b (l ++ Y)) = some ([v], hR b (l ++ Y)) := fun Y v hv => hR_trim b l (l ++ Y) [v] (by simp [hv]) (by intro h; simp [h])
   rw [List.take_of_length_le (Nat.le_refl _)] at h2 ⊢
   refine ⟨_, ?_, rfl⟩
   rw [if_pos h2]
   simp [qbA, ht])
 have hfin : ∀ (v : A), idsA v = [] → finish (hR b l).length (.ok v) (hR b (l ++ (scanP a b (flats K)).1)) = some (.ok v, hR b (l ++ (scanP a b (flats K)).1)) := fun v hv => qm2 b l _ v hv (by intro h; simp [h])
 rw [hq, hQ]
 generalize scanP a b (flats K) = r at *
 obtain ⟨r1, r2⟩ := r
 cases r2 <;> simp [qdB, hfin]
theorem visit_v (a b : Int) : ∀ (h : Nat) (lo hi : Option Int) (n : Nd), okN h lo hi n → n.ks.length ≤ 7 → ∀ fuel, h < fuel → ∀ l : List Pr, l.length + (flat n).length < 900000 →
 qbZ qak fuel [.cptr (nodeC n), .s (.int .u64 a), fnR] (hR b l) = some (.ok (.s (.bool (scanP a b (flat n)).2)), hR b (l ++ (scanP a b (flat n)).1))
 | 0, lo, hi, .mk ks vs kids, hn, hl, fuel, hf, l, hlen => by
   obtain ⟨f, rfl⟩ : ∃ f, fuel = f + 1 := ⟨fuel - 1, by omega⟩
   obtain ⟨rfl, e2, e3, e4⟩ := hn
   simp only [Nd.ks_mk] at hl
   have e : flat (.mk ks vs []) = ks.zip vs := by simp only [flat, flats, List.append_nil]
   rw [e]
   exact visit_leaf e2 (by omega) a b l (by omega) _
 | h + 1, lo, hi, .mk ks vs kids, hn, hl, fuel, hf, l, hlen => by
   obtain ⟨f, rfl⟩ : ∃ f, fuel = f + 1 := ⟨fuel - 1, by omega⟩
   have hs : ks.Pairwise (· < ·) := (qj3 hn).1
   obtain ⟨rfl, c1, c2⟩ := hn
   simp only [Nd.ks_mk] at hl
   have e : flat (.mk ks [] kids) = flats kids := by simp only [flat, List.zip_nil_right, List.nil_append]
   rw [e] at hlen ⊢
   refine qmq hs (by omega) (qbb c1) a b (qmn (okN_inB h) a c1) l fun m hm l' hl' => ?_
   obtain ⟨lo', hi', hok⟩ := qbO c1 m hm
   exact visit_v a b h lo' hi' m hok (c2 m hm).2 f (by omega) l' (by omega)
theorem qky {h : Nat} {root : Nd} (hT : TreeI h root) (len a b : Int) (hfl : (flat root).length < 400000) (H : Heap) : ∃ d, flatD d ∧ ∀ {β : Type} (kp k : A → Heap → Option β),
 (oLend qaG [.cptr (treeC root len), .s (.int .u64 a), .s (.int .u64 b)] H kp fun w h' => oFrz w h' k) = k (mkF 3 ((scanP a b (flat root)).1.map pairC)) (H ++ d) := by
 have hv := visit_v a b h none none root hT.ok hT.few big (by have := big_lt; have := hT.low; omega) [] (by simp; omega)
 rw [List.nil_append] at hv
 have hsl := qkF a b (flat root)
 generalize scanP a b (flat root) = r at *
 obtain ⟨l, v⟩ := r
 simp only at hv hsl ⊢
 have t0 : (treeC root len).drop 0 = treeC root len := rfl
 have t1 : (treeC root len)[0]? = some (.cptr (nodeC root)) := rfl
 have hc : ∀ {β : Type} (kp k : A → Heap → Option β), oCall (qbZ qak big) [.cptr (nodeC root), .s (.int .u64 a), fnR] (hR b []) kp k = k (.s (.bool v)) (hR b l) := fun kp k =>
  hR_call (args := [.cptr (nodeC root), .s (.int .u64 a), fnR]) ⟨by simp, fun f h0 h1 => by simp [h0, h1]⟩ b [] (by simp) (by simp) hv kp k
 have h1 : qaG [.cptr (treeC root len), .s (.int .u64 a), .s (.int .u64 b)] [] = oLoad none (.ptr 1 0 0 0) (hR b l) fun x12 => finish 0 (.ok x12) (hR b l) := by
  rw [hR_nil] at hc
  simp only [qaG, oNew]
  simp
  rw [t1]
  simp only
  rw [hc]
  simp
 by_cases hl : l = []
 · subst hl
   have hF : qaG [.cptr (treeC root len), .s (.int .u64 a), .s (.int .u64 b)] [] = some (.ok (.s (.slice none 0 0)), []) := by
    rw [h1]; simp [hR_nil, qa9]
   refine ⟨[], by simp [flatD], fun {β} kp k => ?_⟩
   have hg : qaa [] H (.ok (.s (.slice none 0 0))) [] = some (.ok (.s (.slice none 0 0)), H) := by simp [qaa, setAll]
   rw [qdf _ _ (by simp) hF hg]
   simp [oFrz, frzA, nilS, pureA, qbX, mkF]
 · have hF : qaG [.cptr (treeC root len), .s (.int .u64 a), .s (.int .u64 b)] [] = some (.ok (.osl 0 (l.length - 1) 3 0 l.length), [.live ⟨l.length - 1, 3, l.map pairC⟩]) := by
    rw [h1]
    have := qgF 2 (l.length - 1) 3 l.length (l.map pairC) (hR b l) (by rw [hR_cons b hl]; rfl) (qb3 l) (fun f => qbR f l)
    rw [← this]
    rw [hR_cons b hl]
    simp
   refine ⟨[.dead], by simp [flatD], fun {β} kp k => ?_⟩
   rw [qjF _ _ _ _ _ _ (l.length - 1) 3 l.length (l.map pairC) (by simp) (qco 999 _ _ (by simp)) (fun f => qbR f l) hF]
   rw [ql2 _ _ _ _ _ (l.map pairC) _ (by simp) (by simp) (qaq _ (fun x => by simp) _)]
   simp
end Go.Ab.T
namespace Go.Ab.T
open Go Go.Ab Go.Ab.F
abbrev oP (id : Nat) (o : List Pr) : A := .osl id o.length 3 0 o.length
abbrev sP (o : List Pr) : Go.Ab.Slot := .live ⟨o.length, 3, o.map pairC⟩
theorem ql6 {l : List Pr} {i : Nat} {p : Pr} (h : l[i]? = some p) {β : Type} (k : A → Option β) : oIdxA 3 (mkF 3 (l.map pairC)) (.s (.int .i64 i)) k = k (.cptr (pairC p)) := qbE 3 pairC l .i64 _ _ k h
theorem qeH (l : List Pr) : qay (l.map pairC) = true := qaq _ (fun x => by simp) _
theorem qnb {F : CallFn} {args : List A} (ha : pureL args = true) {o : List Pr} (hF : F args [] = some (.ok (oP 0 o), [sP o])) {β : Type} (H : Heap) (kp k : A → Heap → Option β) :
 (oLend F args H kp fun w h' => oFrz w h' k) = k (mkF 3 (o.map pairC)) (H ++ [.dead]) := by
 have hi : idsL args = [] := qdd args ha
 rw [qjF _ _ _ _ _ _ o.length 3 o.length (o.map pairC) hi (qco 999 _ _ ha) (fun f => qbR f o) hF]
 rw [ql2 _ _ _ _ _ (o.map pairC) _ (by simp) (by simp) (qeH o)]
 simp
theorem del_take {l : List Pr} {i : Nat} (hi : i < l.length) (x : Int) : delP x (l.take (i + 1)) = if l[i].1 = x then delP x (l.take i) else delP x (l.take i) ++ [l[i]] := by
 rw [List.take_add_one, List.getElem?_eq_getElem hi, qh4]
 by_cases h : l[i].1 = x
 · simp [delP, h]
 · simp [delP, h]
theorem rDel_v (l : List Pr) (x : Int) (hl : l.length < 400000) : qec [mkF 3 (l.map pairC), .s (.int .u64 x)] [] = some (.ok (oP 0 (delP x l)), [sP (delP x l)]) := by
 obtain ⟨q, rfl, hq⟩ := qb6 (step := qdw (.s (.int .i64 l.length)) (mkF 3 (l.map pairC)) (.s (.int .u64 x)) [sP []]) (s0 := ([oP 0 [], .s (.int .i64 0)], [sP []]))
  (fun i s => s = ([oP 0 (delP x (l.take i)), .s (.int .i64 i)], [sP (delP x (l.take i))]))
  (fun q => q = (Ex.exit 0, [oP 0 (delP x l)], [sP (delP x l)])) l.length (by simp [delP]) (by omega)
  (by
   rintro i s hi rfl
   left
   have hp : l[i]? = some l[i] := List.getElem?_eq_getElem hi
   have w1 : IntKind.i64.wrap ((i : Int) + 1) = ((i + 1 : Nat) : Int) := by rw [qad (by omega) (by omega)]; simp
   have hdt := del_take hi x
   have hol : (delP x (l.take i)).length ≤ i := by
    unfold delP; refine Nat.le_trans (List.length_filter_le _ _) ?_; simp; omega
   have ip := fun {β : Type} (k : A → Option β) => ql6 hp k
   generalize l[i] = p at *
   generalize hO : delP x (l.take i) = o at *
   have i1 := qb3 o
   have ap : qa4 (o.length + 1) 24 := by unfold qa4; omega
   refine ⟨_, ?_, rfl⟩
   rw [hdt]
   by_cases h : p.1 = x
   · rw [if_pos h]
     simp [qdw, hi, ip, h, trim, qa2, i1, qgb, w1]
   · rw [if_neg h]
     have i2 : idsRows (o.map pairC ++ [pairC p]) = [] := by rw [qas, i1]; simp
     simp [qdw, hi, ip, h, trim, qa2, i1, i2, qgb, w1, qb1, ap, List.take_of_length_le])
  (by
   rintro s rfl
   refine ⟨_, ?_, rfl⟩
   have i1 := qb3 (delP x l)
   rw [List.take_length]
   simp [qdw, trim, qa2, i1])
 have h1 : qec [mkF 3 (l.map pairC), .s (.int .u64 x)] [] = oLoop (qdw (.s (.int .i64 l.length)) (mkF 3 (l.map pairC)) (.s (.int .u64 x)) [sP []]) ([oP 0 [], .s (.int .i64 0)], [sP []]) (qga []) := by
  simp [qec]
  rfl
 rw [h1, hq]
 have := qgF 0 (delP x l).length 3 (delP x l).length ((delP x l).map pairC) [sP (delP x l)] rfl (qb3 _) (fun f => qbR f _)
 simpa [qga] using this
theorem rDel_call (l : List Pr) (x : Int) (hl : l.length < 400000) {β : Type} (H : Heap) (kp k : A → Heap → Option β) :
 (oLend qec [mkF 3 (l.map pairC), .s (.int .u64 x)] H kp fun w h' => oFrz w h' k) = k (mkF 3 ((delP x l).map pairC)) (H ++ [.dead]) := qnb (by simp [qeH]) (rDel_v l x hl) H kp k
def rngP (a b : Int) (l : List Pr) : List Pr := l.filter fun p => decide (a ≤ p.1) && decide (p.1 ≤ b)
theorem qkE {a b : Int} : ∀ {l : List Pr}, l.Pairwise (fun p q => p.1 < q.1) → (scanP a b l).1 = rngP a b l
 | [], _ => rfl
 | p :: l, h => by
   obtain ⟨h1, h2⟩ := List.pairwise_cons.1 h
   have ih := qkE (a := a) (b := b) h2
   simp only [scanP, rngP, List.filter_cons]
   by_cases g1 : p.1 < a
   · have : ¬ a ≤ p.1 := by omega
     simp only [if_pos g1, this, decide_false, Bool.false_and, Bool.false_eq_true, if_false]
     exact ih
   · have g2 : a ≤ p.1 := by omega
     by_cases g3 : p.1 ≤ b
     · simp only [if_neg g1, if_pos g3, g2, g3, decide_true, Bool.and_self, if_true]
       rw [ih]; rfl
     · simp only [if_neg g1, if_neg g3, g2, g3, decide_false, Bool.and_false, Bool.false_eq_true, if_false]
       symm
       rw [List.filter_eq_nil_iff]
       intro q hq
       have := h1 q hq
       simp
       omega
theorem eq_pair (p : Pr) : eqCells [true, true, true] (pairC p) (pairC p) = some true := by simp [pairC, eqCells]
theorem rSame_v (l : List Pr) (hl : l.length < 400000) : qcn [mkF 3 (l.map pairC), mkF 3 (l.map pairC)] [] = some (.ok (.s (.bool true)), []) := by
 obtain ⟨q, rfl, hq⟩ := qb6 (step := qdM (.s (.int .i64 l.length)) (mkF 3 (l.map pairC)) (mkF 3 (l.map pairC)) []) (s0 := ([.s (.int .i64 0)], []))
  (fun i s => s = ([.s (.int .i64 i)], [])) (fun q => q = (Ex.exit 0, [.any], [])) l.length rfl (by omega)
  (by
   rintro i s hi rfl
   left
   have hp : l[i]? = some l[i] := List.getElem?_eq_getElem hi
   have w1 : IntKind.i64.wrap ((i : Int) + 1) = ((i + 1 : Nat) : Int) := by rw [qad (by omega) (by omega)]; simp
   have ip := fun {β : Type} (k : A → Option β) => ql6 hp k
   generalize l[i] = p at *
   refine ⟨_, ?_, rfl⟩
   simp [qdM, hi, ip, oLoadD, eq_pair, trim, qa2, w1])
  (by
   rintro s rfl
   refine ⟨_, ?_, rfl⟩
   simp [qdM, trim, qa2])
 have h1 : qcn [mkF 3 (l.map pairC), mkF 3 (l.map pairC)] [] = oLoop (qdM (.s (.int .i64 l.length)) (mkF 3 (l.map pairC)) (mkF 3 (l.map pairC)) []) ([.s (.int .i64 0)], []) (qfy []) := by
  simp [qcn]
 rw [h1, hq]
 simp [qfy, qa9]
theorem qie (l : List Pr) (hl : l.length < 400000) {β : Type} (H : Heap) (kp k : A → Heap → Option β) :
 (oLend qcn [mkF 3 (l.map pairC), mkF 3 (l.map pairC)] H kp fun w h' => oFrz w h' k) = k (.s (.bool true)) H := by
 rw [qbi _ _ _ _ _ _ (by simp [qeH]) (by simp) (rSame_v l hl)]
 simp
def putB (x : Int) (T : List Pr) : Bool := T.any fun p => decide (x ≤ p.1)
def putO (x : Int) (e : Extent) (T : List Pr) : List Pr := if putB x T then insP x e T else T
theorem put_step {l : List Pr} (hs : l.Pairwise (fun p q => p.1 < q.1)) {i : Nat} (hi : i < l.length) (x : Int) (e : Extent) :
 (putB x (l.take i) = true → x < l[i].1 ∧ putB x (l.take (i + 1)) = true ∧ putO x e (l.take (i + 1)) = putO x e (l.take i) ++ [l[i]]) ∧
 (putB x (l.take i) = false → putO x e (l.take i) = l.take i ∧
  (x < l[i].1 → putB x (l.take (i + 1)) = true ∧ putO x e (l.take (i + 1)) = l.take i ++ [(x, e)] ++ [l[i]]) ∧
  (x = l[i].1 → putB x (l.take (i + 1)) = true ∧ putO x e (l.take (i + 1)) = l.take i ++ [(x, e)]) ∧
  (l[i].1 < x → putB x (l.take (i + 1)) = false ∧ putO x e (l.take (i + 1)) = l.take i ++ [l[i]])) := by
 have hlt : ∀ p ∈ l.take i, p.1 < l[i].1 := fun p hp => by
  obtain ⟨j, hj, rfl⟩ := List.mem_take_iff_getElem.1 hp
  exact List.pairwise_iff_getElem.1 hs j i (by omega) hi (by omega)
 have ht : l.take (i + 1) = l.take i ++ [l[i]] := by rw [List.take_add_one, List.getElem?_eq_getElem hi]; rfl
 rw [ht]
 generalize l.take i = T at *
 generalize l[i] = p at *
 have hb : putB x (T ++ [p]) = (putB x T || decide (x ≤ p.1)) := by simp [putB]
 constructor
 · intro h
   have hx : x < p.1 := by
    simp only [putB, List.any_eq_true, decide_eq_true_eq] at h
    obtain ⟨q, hq, hxq⟩ := h
    have := hlt q hq
    omega
   refine ⟨hx, by simp [hb, h], ?_⟩
   simp only [putO, hb, h, Bool.true_or, if_true]
   exact qil T [p] (by simpa using hx)
 · intro h
   have hall : ∀ q ∈ T, q.1 < x := fun q hq => by
    simp only [putB, List.any_eq_false, decide_eq_true_eq] at h
    have := h q hq; omega
   refine ⟨by simp [putO, h], fun hx => ?_, fun hx => ?_, fun hx => ?_⟩
   · have g : x ≤ p.1 := by omega
     refine ⟨by simp [hb, g], ?_⟩
     simp only [putO, hb, h, g, decide_true, Bool.or_true, if_true]
     rw [qgk T [p] hall]
     have g1 : ¬ p.1 < x := by omega
     have g2 : ¬ p.1 = x := by omega
     simp [insP, g1, g2]
   · have g : x ≤ p.1 := by omega
     refine ⟨by simp [hb, g], ?_⟩
     simp only [putO, hb, h, g, decide_true, Bool.or_true, if_true]
     rw [qgk T [p] hall]
     have g1 : ¬ p.1 < x := by omega
     have g2 : p.1 = x := by omega
     simp [insP, g1, g2]
   · have g : ¬ x ≤ p.1 := by omega
     refine ⟨by simp [hb, h, g], ?_⟩
     simp [putO, hb, h, g]
theorem put_last {l : List Pr} (x : Int) (e : Extent) : (putB x l = true → putO x e l = insP x e l) ∧ (putB x l = false → putO x e l ++ [(x, e)] = insP x e l) := by
 constructor
 · intro h; simp [putO, h]
 · intro h
   have hall : ∀ q ∈ l, q.1 < x := fun q hq => by
    simp only [putB, List.any_eq_false, decide_eq_true_eq] at h
    have := h q hq; omega
   have := qgk (a := e) l [] hall
   simp only [List.append_nil] at this
   rw [this]
   simp [putO, h, insP]
theorem ins_len (x : Int) (e : Extent) : ∀ l : List Pr, (insP x e l).length ≤ l.length + 1
 | [] => by simp [insP]
 | p :: l => by
   have := ins_len x e l
   simp only [insP]
   split
   · simp only [List.length_cons]; omega
   · split <;> simp
theorem qna (x : Int) (e : Extent) (l : List Pr) : (putO x e l).length ≤ l.length + 1 := by
 unfold putO
 split
 · exact ins_len x e l
 · omega
theorem rPut_v {l : List Pr} (hs : l.Pairwise (fun p q => p.1 < q.1)) (x : Int) (e : Extent) (hl : l.length < 400000) : qeb [mkF 3 (l.map pairC), .s (.int .u64 x), .agg (extentC e)] [] = some (.ok (oP 0 (insP x e l)), [sP (insP x e l)]) := by
 have hE : (extentC e).isEmpty = false := rfl
 have hpe : qa5 [.s (.int .u64 x), .s (.int .i64 0), .s (.int .i64 0)] 1 (extentC e) = pairC (x, e) := rfl
 obtain ⟨q, rfl, hq⟩ := qb6 (step := qc7 (.s (.int .i64 l.length)) (mkF 3 (l.map pairC)) (.s (.int .u64 x)) (.ptr 0 0 0 0) [.live ⟨0, 2, [extentC e]⟩, sP []]) (s0 := ([oP 1 [], .s (.bool false), .s (.int .i64 0)], [.live ⟨0, 2, [extentC e]⟩, sP []]))
  (fun i s => s = ([oP 1 (putO x e (l.take i)), .s (.bool (putB x (l.take i))), .s (.int .i64 i)], [.live ⟨0, 2, [extentC e]⟩, sP (putO x e (l.take i))]))
  (fun q => q = (Ex.exit 0, [oP 1 (putO x e l), .s (.bool (putB x l))], [.live ⟨0, 2, [extentC e]⟩, sP (putO x e l)])) l.length (by simp [putO, putB]) (by omega)
  (by
   rintro i s hi rfl
   left
   have hp : l[i]? = some l[i] := List.getElem?_eq_getElem hi
   have w1 : IntKind.i64.wrap ((i : Int) + 1) = ((i + 1 : Nat) : Int) := by rw [qad (by omega) (by omega)]; simp
   obtain ⟨s1, s2⟩ := put_step hs hi x e
   have hol := qna x e (l.take i)
   have htl : (l.take i).length ≤ i := by simp; omega
   have ip := fun {β : Type} (k : A → Option β) => ql6 hp k
   generalize putO x e (l.take (i + 1)) = o' at *
   generalize putB x (l.take (i + 1)) = b' at *
   generalize putB x (l.take i) = b at *
   generalize hO : putO x e (l.take i) = o at *
   generalize l.take i = T at *
   generalize l[i] = p at *
   have i1 := qb3 o
   have ap : qa4 (o.length + 1) 24 := by unfold qa4; omega
   have ap2 : qa4 (o.length + 1 + 1) 24 := by unfold qa4; omega
   have i2 : idsRows (o.map pairC ++ [pairC p]) = [] := by rw [qas, i1]; simp
   have i3 : idsRows (o.map pairC ++ [pairC (x, e)]) = [] := by rw [qas, i1]; simp
   have i4 : idsRows (o.map pairC ++ [pairC (x, e), pairC p]) = [] := by rw [qas, i1]; simp
   refine ⟨_, ?_, rfl⟩
   cases b with
   | true =>
     obtain ⟨hx, rfl, rfl⟩ := s1 rfl
     have h1 : ¬ p.1 = x := by omega
     simp [qc7, hi, ip, h1, trim, qa2, i1, i2, qea, qe9, qe8, w1, qb1, ap, List.take_of_length_le]
   | false =>
     obtain ⟨rfl, t1, t2, t3⟩ := s2 rfl
     by_cases h1 : p.1 < x
     · obtain ⟨rfl, rfl⟩ := t3 h1
       have h2 : ¬ p.1 = x := by omega
       have h3 : ¬ x ≤ p.1 := by omega
       simp [qc7, hi, ip, h2, h3, trim, qa2, i1, i2, qea, qe9, qe8, w1, qb1, ap, List.take_of_length_le]
     · have h3 : x ≤ p.1 := by omega
       by_cases h2 : p.1 = x
       · obtain ⟨rfl, rfl⟩ := t2 h2.symm
         simp [qc7, hi, ip, h2, trim, qa2, i1, i3, qea, qe9, qe8, w1, qb1, ap, List.take_of_length_le, hpe]
       · obtain ⟨rfl, rfl⟩ := t1 (by omega)
         simp [qc7, hi, ip, h2, h3, trim, qa2, i1, i3, i4, qea, qe9, qe8, w1, qb1, ap, ap2, List.take_of_length_le, hpe])
  (by
   rintro s rfl
   refine ⟨_, ?_, rfl⟩
   have i1 := qb3 (putO x e l)
   rw [List.take_length]
   simp [qc7, trim, qa2, i1])
 have h1 : qeb [mkF 3 (l.map pairC), .s (.int .u64 x), .agg (extentC e)] [] = oLoop (qc7 (.s (.int .i64 l.length)) (mkF 3 (l.map pairC)) (.s (.int .u64 x)) (.ptr 0 0 0 0) [.live ⟨0, 2, [extentC e]⟩, sP []]) ([oP 1 [], .s (.bool false), .s (.int .i64 0)], [.live ⟨0, 2, [extentC e]⟩, sP []]) (qf6 (.ptr 0 0 0 0) (.s (.int .u64 x)) []) := by
  simp [qeb, hE]
  rfl
 rw [h1, hq]
 obtain ⟨p1, p2⟩ := put_last (l := l) x e
 have hol := qna x e l
 have hfin : finish 0 (.ok (oP 1 (insP x e l))) [.live ⟨0, 2, [extentC e]⟩, sP (insP x e l)] = some (.ok (oP 0 (insP x e l)), [sP (insP x e l)]) := qgF 1 (insP x e l).length 3 (insP x e l).length ((insP x e l).map pairC) [.live ⟨0, 2, [extentC e]⟩, sP (insP x e l)] rfl (qb3 _) (fun f => qbR f _)
 generalize insP x e l = r at *
 generalize putO x e l = o at *
 cases hb : putB x l with
 | true =>
   have := p1 hb
   subst this
   have i1 := qb3 o
   simp [qf6, qg9, trim, qa2, i1]
   exact hfin
 | false =>
   have := p2 hb
   subst this
   have i1 := qb3 o
   have ap : qa4 (o.length + 1) 24 := by unfold qa4; omega
   have i3 : idsRows (o.map pairC ++ [pairC (x, e)]) = [] := by rw [qas, i1]; simp
   simp [qf6, qg9, trim, qa2, i1, i3, qb1, ap, List.take_of_length_le, hpe]
   simp only [oP, sP, List.length_append, List.length_cons, List.length_nil, Nat.zero_add, List.map_append, List.map_cons, List.map_nil] at hfin ⊢
   exact hfin
theorem rPut_call {l : List Pr} (hs : l.Pairwise (fun p q => p.1 < q.1)) (x : Int) (e : Extent) (hl : l.length < 400000) {β : Type} (H : Heap) (kp k : A → Heap → Option β) :
 (oLend qeb [mkF 3 (l.map pairC), .s (.int .u64 x), .agg (extentC e)] H kp fun w h' => oFrz w h' k) = k (mkF 3 ((insP x e l).map pairC)) (H ++ [.dead]) := qnb (by simp [qeH]) (rPut_v hs x e hl) H kp k
end Go.Ab.T
namespace Go.Ab.T
open Go Go.Ab Go.Ab.F
abbrev sorted (l : List Pr) : Prop := l.Pairwise fun p q => p.1 < q.1
theorem qkp {x : Int} {e : Extent} : ∀ {l : List Pr}, sorted l → (insP x e l).length = if (getP x l).isSome then l.length else l.length + 1
 | [], _ => by simp [insP, getP]
 | p :: l, h => by
   obtain ⟨h1, h2⟩ := List.pairwise_cons.1 h
   have ih := qkp (x := x) (e := e) h2
   simp only [insP]
   by_cases g1 : p.1 < x
   · rw [if_pos g1]
     have : getP x (p :: l) = getP x l := by
      have g2 : ¬ p.1 = x := by omega
      simp [getP, g2]
     rw [this, List.length_cons, ih]
     split <;> simp
   · rw [if_neg g1]
     by_cases g2 : p.1 = x
     · rw [if_pos g2]
       simp [getP, g2]
     · rw [if_neg g2]
       have : getP x (p :: l) = none := by
        simp only [getP, Option.map_eq_none_iff, List.find?_eq_none, decide_eq_true_eq]
        intro q hq
        rcases List.mem_cons.1 hq with rfl | hq
        · exact g2
        · have := h1 q hq; omega
       simp [this]
theorem qks {x : Int} : ∀ {l : List Pr}, sorted l → (delP x l).length = if (getP x l).isSome then l.length - 1 else l.length
 | [], _ => by simp [delP, getP]
 | p :: l, h => by
   obtain ⟨h1, h2⟩ := List.pairwise_cons.1 h
   have ih := qks (x := x) h2
   by_cases g2 : p.1 = x
   · have e1 : delP x (p :: l) = delP x l := by simp [delP, g2]
     have e2 : delP x l = l := qfq fun q hq => by have := h1 q hq; omega
     rw [e1, e2]
     simp [getP, g2]
   · have e1 : delP x (p :: l) = p :: delP x l := by simp [delP, g2]
     have e2 : getP x (p :: l) = getP x l := by simp [getP, g2]
     rw [e1, e2, List.length_cons, ih]
     split
     · rename_i hs
       have : l ≠ [] := by rintro rfl; simp [getP] at hs
       have := List.length_pos_iff.2 this
       simp only [List.length_cons]; omega
     · simp
abbrev okK (x : Int) : Prop := 0 ≤ x ∧ x ≤ 18446744073709551615
structure Tr (n : Nat) (t : A) (L : List Pr) : Prop where
 tree : ∃ h root, h ≤ n ∧ TreeI h root ∧ flat root = L ∧ t = .cptr (treeC root L.length)
 len : L.length ≤ n
 keys : ∀ p ∈ L, okK p.1
theorem Tr.sorted {n : Nat} {t : A} {L : List Pr} (h : Tr n t L) : T.sorted L := by
 obtain ⟨h, root, -, hT, rfl, -⟩ := h.tree
 exact qig _ _ _ _ hT.ok
theorem Tr.pure {n : Nat} {t : A} {L : List Pr} (h : Tr n t L) : pureA t = true := by
 obtain ⟨h, root, -, -, -, rfl⟩ := h.tree
 rfl
theorem Tr.cptr {n : Nat} {t : A} {L : List Pr} (h : Tr n t L) : ∃ cs, t = .cptr cs := by
 obtain ⟨h, root, -, -, -, rfl⟩ := h.tree
 exact ⟨_, rfl⟩
theorem ins_mem {x : Int} {e : Extent} : ∀ {l : List Pr} {p : Pr}, p ∈ insP x e l → p = (x, e) ∨ p ∈ l
 | [], p, h => by simp [insP] at h; exact .inl h
 | q :: l, p, h => by
   simp only [insP] at h
   split at h
   · rcases List.mem_cons.1 h with rfl | h
     · simp
     · rcases ins_mem h with h | h
       · exact .inl h
       · exact .inr (by simp [h])
   · split at h
     · rcases List.mem_cons.1 h with rfl | h
       · simp
       · exact .inr (by simp [h])
     · rcases List.mem_cons.1 h with rfl | h
       · simp
       · exact .inr h
def Gv (F : CallFn) (args : List A) (a' : A) : Prop := ∀ H : Heap, ∃ d, flatD d ∧ ∀ {β : Type} (kp k : A → Heap → Option β), (oLend F args H kp fun w h' => oFrz w h' k) = k a' (H ++ d)
theorem Tr.put {n : Nat} {t : A} {L : List Pr} (h : Tr n t L) (hn : n ≤ 1000) {x : Int} (hx : okK x) (e : Extent) : ∃ t', Tr (n + 1) t' (insP x e L) ∧ Gv qaW [t, .s (.int .u64 x), .agg (extentC e)] t' := by
 have hs := h.sorted
 have hlen := h.len
 have hk := h.keys
 obtain ⟨ht, root, h1, hT, rfl, rfl⟩ := h.tree
 obtain ⟨h', h2, hT', hf⟩ := qk9 hT (by have : (1000 : Nat) + 2 < 2 ^ 62 := (by decide); omega) x e
 refine ⟨_, ⟨⟨h', putRoot (putN x e ht root), by omega, hT', hf, rfl⟩, ?_, ?_⟩, fun H => ?_⟩
 · have := ins_len x e (flat root); omega
 · intro p hp
   rcases ins_mem hp with rfl | hp
   · exact hx
   · exact hk p hp
 · obtain ⟨d, hd, hP⟩ := Put_v hT (flat root).length x e (by omega) H
   refine ⟨d, hd, fun kp k => ?_⟩
   rw [hP]
   have : ((insP x e (flat root)).length : Int) = if (getP x (flat root)).isSome then ((flat root).length : Int) else (flat root).length + 1 := by
    rw [qkp hs]; split <;> simp
   rw [this]
theorem Tr.del {n : Nat} {t : A} {L : List Pr} (h : Tr n t L) (hn : n ≤ 1000) (x : Int) : ∃ t', Tr n t' (delP x L) ∧ Gv qbe [t, .s (.int .u64 x)] t' := by
 have hs := h.sorted
 have hlen := h.len
 have hk := h.keys
 obtain ⟨ht, root, h1, hT, rfl, rfl⟩ := h.tree
 obtain ⟨h', h2, hT', hf⟩ := qnp hT x
 have hdl : (delP x (flat root)).length ≤ (flat root).length := List.length_filter_le _ _
 refine ⟨_, ⟨⟨h', delT x ht root, by omega, hT', hf, rfl⟩, by omega, fun p hp => hk p (List.mem_filter.1 hp).1⟩, fun H => ?_⟩
 obtain ⟨d, hd, hP⟩ := Del_v hT (flat root).length x (by omega) H
 refine ⟨d, hd, fun kp k => ?_⟩
 rw [hP]
 have : ((delP x (flat root)).length : Int) = delLen x root (flat root).length := by
  rw [qks hs]
  unfold delLen
  split
  · rename_i hs
    have : flat root ≠ [] := by intro h; rw [h] at hs; simp [getP] at hs
    have := List.length_pos_iff.2 this
    omega
  · rfl
 rw [this]
theorem Tr.range {n : Nat} {t : A} {L : List Pr} (h : Tr n t L) (hn : n ≤ 2000) (a b : Int) : Gv qaG [t, .s (.int .u64 a), .s (.int .u64 b)] (mkF 3 ((rngP a b L).map pairC)) := by
 have hs := h.sorted
 have hlen := h.len
 obtain ⟨ht, root, h1, hT, rfl, rfl⟩ := h.tree
 intro H
 obtain ⟨d, hd, hP⟩ := qky hT (flat root).length a b (by omega) H
 rw [qkE hs] at hP
 exact ⟨d, hd, hP⟩
theorem rng_all {L : List Pr} (hk : ∀ p ∈ L, okK p.1) : rngP 0 18446744073709551615 L = L := by
 unfold rngP
 rw [List.filter_eq_self]
 intro p hp
 have := hk p hp
 simp [this.1, this.2]
theorem Tr.all {n : Nat} {t : A} {L : List Pr} (h : Tr n t L) (hn : n ≤ 2000) : Gv qaG [t, .s (.int .u64 0), .s (.int .u64 18446744073709551615)] (mkF 3 (L.map pairC)) := by
 have := h.range hn 0 18446744073709551615
 rwa [rng_all h.keys] at this
theorem Tr.get {n : Nat} {t : A} {L : List Pr} (h : Tr n t L) (x : Int) (H : Heap) {β : Type} (kp k : A → Heap → Option β) : (oLend qbn [t, .s (.int .u64 x)] H kp fun w h' => oFrz w h' k) =
 k (.tup [.agg (extentC ((getP x L).getD ⟨0, 0⟩)), .s (.bool (getP x L).isSome)]) H := by
 obtain ⟨ht, root, h1, hT, rfl, rfl⟩ := h.tree
 exact qln hT.ok hT.low hT.few _ x H kp k
theorem Tr.length {n : Nat} {t : A} {L : List Pr} (h : Tr n t L) (H : Heap) {β : Type} (kp k : A → Heap → Option β) : (oLend qbd [t] H kp fun w h' => oFrz w h' k) = k (.s (.int .i64 L.length)) H := by
 obtain ⟨ht, root, h1, hT, rfl, rfl⟩ := h.tree
 exact qnw _ _ H kp k
theorem Tr.mono {n m : Nat} {t : A} {L : List Pr} (h : Tr n t L) (hm : n ≤ m) : Tr m t L := by
 obtain ⟨ht, root, h1, h2⟩ := h.tree
 exact ⟨⟨ht, root, by omega, h2⟩, by have := h.len; omega, h.keys⟩
theorem Tr.new : Tr 0 (.cptr (treeC (.mk [] [] []) 0)) [] := ⟨⟨0, .mk [] [] [], by omega, new_tree, by simp [flat, flats], rfl⟩, by simp, by simp⟩
structure ActT where
 kind : Int
 key : Int
 ext : Extent
end Go.Ab.T
namespace Go.Ab.T
open Go Go.Ab Go.Ab.F
structure NodeR where
 ks : List Int
 vs : List Extent
 idx : List Int
mutual
def cntN : Nd → Nat
 | .mk _ _ kids => 1 + cntL kids
def cntL : List Nd → Nat
 | [] => 0
 | n :: l => cntN n + cntL l
end
def idxL (b : Nat) : List Nd → List Int
 | [] => []
 | n :: l => (b : Int) :: idxL (b + cntN n) l
mutual
def listN (b : Nat) : Nd → List NodeR
 | .mk ks vs kids => ⟨ks, vs, idxL (b + 1) kids⟩ :: listL (b + 1) kids
def listL (b : Nat) : List Nd → List NodeR
 | [] => []
 | n :: l => listN b n ++ listL (b + cntN n) l
end
mutual
theorem qdO : ∀ (b : Nat) (n : Nd), (listN b n).length = cntN n
 | b, .mk ks vs kids => by rw [listN, cntN, List.length_cons, qgi (b + 1) kids]; omega
theorem qgi : ∀ (b : Nat) (l : List Nd), (listL b l).length = cntL l
 | b, [] => by simp [listL, cntL]
 | b, n :: l => by rw [listL, cntL, List.length_append, qdO b n, qgi _ l]
end
theorem qh5 : ∀ (l : List Nd) (k : Nd), cntL (l ++ [k]) = cntL l + cntN k
 | [], k => by simp [cntL]
 | n :: l, k => by simp only [List.cons_append, cntL, qh5 l k]; omega
theorem qh0 : ∀ (b : Nat) (l : List Nd) (k : Nd), idxL b (l ++ [k]) = idxL b l ++ [((b + cntL l : Nat) : Int)]
 | b, [], k => by simp [idxL, cntL]
 | b, n :: l, k => by
   simp only [List.cons_append, idxL, qh0 (b + cntN n) l k, cntL]
   rw [show b + cntN n + cntL l = b + (cntN n + cntL l) by omega]
theorem qgj : ∀ (b : Nat) (l : List Nd) (k : Nd), listL b (l ++ [k]) = listL b l ++ listN (b + cntL l) k
 | b, [], k => by simp [listL, cntL]
 | b, n :: l, k => by
   simp only [List.cons_append, listL, qgj (b + cntN n) l k, cntL, List.append_assoc]
   rw [show b + cntN n + cntL l = b + (cntN n + cntL l) by omega]
structure RP where
 a : Nat
 b : Nat
 c : Option (Nat × Nat)
abbrev XR := RP × NodeR
def cellI (x : XR) : A := match x.1.c with
 | none => .s (.slice none 0 0)
 | some q => .osl q.1 q.2 1 0 x.2.idx.length
def rowC (x : XR) : List A := [.osl x.1.a 1 1 0 x.2.ks.length, .osl x.1.b 1 2 0 x.2.vs.length, cellI x]
def RP.ids (p : RP) : List Nat := p.a :: p.b :: (match p.c with | none => [] | some q => [q.1])
theorem rowC_ids (x : XR) : idsL (rowC x) = x.1.ids := by
 obtain ⟨⟨a, b, c⟩, r⟩ := x
 cases c <;> simp [rowC, RP.ids, cellI]
theorem qhq : ∀ X : List XR, idsRows (X.map rowC) = X.flatMap fun x => x.1.ids
 | [] => rfl
 | x :: X => by rw [List.map_cons, qb7, rowC_ids, qhq X, List.flatMap_cons]
def mvP (g : Nat → Nat) (p : RP) : RP := ⟨g p.a, g p.b, p.c.map fun q => (g q.1, q.2)⟩
def mvX (g : Nat → Nat) (x : XR) : XR := (mvP g x.1, x.2)
theorem mv_ids' (g : Nat → Nat) (p : RP) : (mvP g p).ids = p.ids.map g := by
 obtain ⟨a, b, c⟩ := p
 cases c <;> simp [mvP, RP.ids]
theorem qhM (g : Nat → Nat) : ∀ X : List XR, ((X.map (mvX g)).flatMap fun x => x.1.ids) = (X.flatMap fun x => x.1.ids).map g
 | [] => rfl
 | x :: X => by simp only [List.map_cons, List.flatMap_cons, qhM g X, List.map_append]; rw [mvX, mv_ids']
theorem row_ren {f : Nat → Option Nat} {g : Nat → Nat} (x : XR) (h : ∀ i ∈ x.1.ids, f i = some (g i)) : renL f (rowC x) = some (rowC (mvX g x)) := by
 obtain ⟨⟨a, b, c⟩, r⟩ := x
 have h1 := h a (by simp [RP.ids])
 have h2 := h b (by simp [RP.ids])
 cases c with
 | none => simp [rowC, cellI, mvX, mvP, h1, h2]
 | some q =>
   have h3 := h q.1 (by simp [RP.ids])
   simp [rowC, cellI, mvX, mvP, h1, h2, h3]
theorem qiY {f : Nat → Option Nat} {g : Nat → Nat} : ∀ (X : List XR), (∀ i ∈ X.flatMap (fun x => x.1.ids), f i = some (g i)) → renRows f (X.map rowC) = some ((X.map (mvX g)).map rowC)
 | [], _ => rfl
 | x :: X, h => by
   rw [List.map_cons, qdv, row_ren x (fun i hi => h i (by simp [hi])), qiY X (fun i hi => h i (by rw [List.flatMap_cons]; exact List.mem_append_right _ hi))]
   rfl
def qeF (H : Heap) (x : XR) : Prop := H[x.1.a]? = some (.live ⟨1, 1, x.2.ks.map (cellC .u64)⟩) ∧ H[x.1.b]? = some (.live ⟨1, 2, x.2.vs.map extentC⟩) ∧
 match x.1.c with
 | none => x.2.idx = []
 | some q => H[q.1]? = some (.live ⟨q.2, 1, x.2.idx.map (cellC .i64)⟩)
structure Rep (H : Heap) (o v : Nat) (X : List XR) : Prop where
 root : H[o]? = some (.live ⟨v, 3, X.map rowC⟩)
 cells : ∀ x ∈ X, qeF H x
 nd : (o :: X.flatMap fun x => x.1.ids).Nodup
def fl (s : Go.Ab.Slot) : Prop := Go.Ab.Slot.ids s = [] ∧ s ≠ .res
theorem ids_i64 (l : List Int) : idsRows (l.map (cellC .i64)) = [] := qdZ _ (fun x => by simp [cellC]) l
theorem cells_fl {H : Heap} {x : XR} (h : qeF H x) : ∀ i ∈ x.1.ids, ∃ s, H[i]? = some s ∧ fl s := by
 obtain ⟨⟨a, b, c⟩, r⟩ := x
 obtain ⟨h1, h2, h3⟩ := h
 intro i hi
 cases c with
 | none =>
   simp only [RP.ids, List.mem_cons, List.not_mem_nil, or_false] at hi
   rcases hi with rfl | rfl
   · exact ⟨_, h1, ids_ks _, by simp⟩
   · exact ⟨_, h2, ids_vs _, by simp⟩
 | some q =>
   simp only [RP.ids, List.mem_cons, List.not_mem_nil, or_false] at hi
   rcases hi with rfl | rfl | rfl
   · exact ⟨_, h1, ids_ks _, by simp⟩
   · exact ⟨_, h2, ids_vs _, by simp⟩
   · exact ⟨_, h3, ids_i64 _, by simp⟩
theorem Rep.flat {H : Heap} {o v : Nat} {X : List XR} (h : Rep H o v X) : ∀ i ∈ X.flatMap (fun x => x.1.ids), ∃ s, H[i]? = some s ∧ fl s := by
 intro i hi
 obtain ⟨x, hx, hi⟩ := List.mem_flatMap.1 hi
 exact cells_fl (h.cells x hx) i hi
theorem qf9 {H H' : Heap} {g : Nat → Nat} {x : XR} (h : qeF H x) (hg : ∀ i ∈ x.1.ids, H'[g i]? = H[i]?) : qeF H' (mvX g x) := by
 obtain ⟨⟨a, b, c⟩, r⟩ := x
 obtain ⟨h1, h2, h3⟩ := h
 have g1 := hg a (by simp [RP.ids])
 have g2 := hg b (by simp [RP.ids])
 cases c with
 | none => exact ⟨g1.trans h1, g2.trans h2, h3⟩
 | some q =>
   have g3 := hg q.1 (by simp [RP.ids])
   exact ⟨g1.trans h1, g2.trans h2, g3.trans h3⟩
theorem nd_map {g : Nat → Nat} : ∀ {l : List Nat}, l.Nodup → (∀ i ∈ l, ∀ j ∈ l, g i = g j → i = j) → (l.map g).Nodup
 | [], _, _ => by simp
 | a :: l, h, hg => by
   rw [List.nodup_cons] at h
   rw [List.map_cons, List.nodup_cons]
   refine ⟨fun hm => ?_, nd_map h.2 fun i hi j hj => hg i (by simp [hi]) j (by simp [hj])⟩
   obtain ⟨b, hb, he⟩ := List.mem_map.1 hm
   have := hg b (by simp [hb]) a (by simp) he
   subst this
   exact h.1 hb
theorem Rep.mv {H H' : Heap} {o v : Nat} {X : List XR} (h : Rep H o v X) {g : Nat → Nat} (hg : ∀ i ∈ X.flatMap (fun x => x.1.ids), H'[g i]? = H[i]?) (hi : ∀ i ∈ o :: X.flatMap (fun x => x.1.ids), ∀ j ∈ o :: X.flatMap (fun x => x.1.ids), g i = g j → i = j)
 (hr : H'[g o]? = some (.live ⟨v, 3, (X.map (mvX g)).map rowC⟩)) : Rep H' (g o) v (X.map (mvX g)) where
 root := hr
 cells := fun y hy => by
  obtain ⟨x, hx, rfl⟩ := List.mem_map.1 hy
  exact qf9 (h.cells x hx) fun i hi => hg i (List.mem_flatMap.2 ⟨x, hx, hi⟩)
 nd := by
  rw [qhM]
  have := nd_map h.nd hi
  simpa using this
theorem mvX_id (X : List XR) : X.map (mvX fun i => i) = X := by
 have : (mvX fun i => i) = fun x : XR => x := by
  funext x
  obtain ⟨⟨a, b, c⟩, r⟩ := x
  cases c <;> rfl
 rw [this]; simp
theorem Rep.same {H H' : Heap} {o v : Nat} {X : List XR} (h : Rep H o v X) (e : ∀ i ∈ o :: X.flatMap (fun x => x.1.ids), H'[i]? = H[i]?) : Rep H' o v X := by
 have := h.mv (g := fun i => i) (H' := H') (fun i hi => e i (by simp [hi])) (fun _ _ _ _ h => h) (by rw [mvX_id, e o (by simp)]; exact h.root)
 rwa [mvX_id] at this
end Go.Ab.T
namespace Go.Ab.T
open Go Go.Ab Go.Ab.F
theorem qjD (h : Heap) : ∀ (L seen : List Nat) (n : Nat), (∀ id ∈ L, id ∉ seen → (h.getD id .dead).ids = []) → L.length < n → seen.Nodup →
 ∃ E, Go.Ab.reach h n seen L = seen ++ E ∧ (seen ++ E).Nodup ∧ (∀ i ∈ L, i ∈ seen ++ E) ∧ ∀ i ∈ E, i ∈ L
 | [], seen, n, _, _, hs => ⟨[], by simp, by simpa using hs, by simp, by simp⟩
 | id :: L, seen, n, hf, hl, hs => by
   obtain ⟨n, rfl⟩ : ∃ m, n = m + 1 := ⟨n - 1, by simp at hl; omega⟩
   by_cases hm : id ∈ seen
   · obtain ⟨E, h1, h2, h3, h4⟩ := qjD h L seen n (fun x hx => hf x (by simp [hx])) (by simp at hl; omega) hs
     refine ⟨E, ?_, h2, ?_, fun i hi => by simp [h4 i hi]⟩
     · rw [Go.Ab.reach, if_pos (by simpa using hm), h1]
     · intro i hi
       rcases List.mem_cons.1 hi with rfl | hi
       · simp [hm]
       · exact h3 i hi
   · obtain ⟨E, h1, h2, h3, h4⟩ := qjD h L (seen ++ [id]) n (fun x hx hn => hf x (by simp [hx]) (fun h => hn (by simp [h]))) (by simp at hl; omega) (by
      rw [List.nodup_append]
      refine ⟨hs, by simp, ?_⟩
      intro a ha b hb
      simp at hb
      subst hb
      intro hab; subst hab; exact hm ha)
     refine ⟨id :: E, ?_, by simpa using h2, ?_, ?_⟩
     · rw [Go.Ab.reach, if_neg (by simpa using hm), hf id (by simp) hm, List.nil_append, h1]
       simp
     · intro i hi
       rcases List.mem_cons.1 hi with rfl | hi
       · simp
       · simpa using h3 i hi
     · intro i hi
       rcases List.mem_cons.1 hi with rfl | hi
       · simp
       · simp [h4 i hi]
theorem qm0 {ids : List Nat} {id j : Nat} (h : Go.Ab.idx ids id = some j) : ids[j]? = some id := by
 unfold Go.Ab.idx at h
 rw [List.idxOf?_eq_some_iff] at h
 obtain ⟨hj, he, -⟩ := h
 rw [List.getElem?_eq_getElem hj, he]
abbrev xIds (X : List XR) : List Nat := X.flatMap fun x => x.1.ids
theorem getD_of {H : Heap} {i : Nat} {s : Go.Ab.Slot} (h : H[i]? = some s) : H.getD i .dead = s := by rw [List.getD_eq_getElem?_getD, h]; rfl
theorem renS_fl {f : Nat → Option Nat} {s : Go.Ab.Slot} (h : fl s) : renSlot f s = some s := by
 obtain ⟨h1, h2⟩ := h
 cases s with
 | live ob => simp only [renSlot, qb9 f _ h1, Option.map_some]
 | dead => rfl
 | res => exact absurd rfl h2
 | mp k e => rfl
theorem ren_fl {f : Nat → Option Nat} : ∀ (l : Heap), (∀ s ∈ l, fl s) → renHeap f l = some l
 | [], _ => rfl
 | s :: l, h => by
   rw [qf5, renS_fl (h s (by simp)), ren_fl l fun t ht => h t (by simp [ht])]; rfl
theorem Rep.reach {H : Heap} {o v : Nat} {X : List XR} (h : Rep H o v X) (S L : List Nat) (n : Nat) (hS : S.Nodup) (ho : o ∈ S) (hL : ∀ i ∈ L, i = o ∨ i ∈ xIds X) (hL2 : ∀ i ∈ xIds X, i ∈ L) (hn : L.length < n) :
 ∃ E, Go.Ab.reach H n S L = S ++ E ∧ (S ++ E).Nodup ∧ (∀ i ∈ xIds X, i ∈ S ++ E) ∧ ∀ i ∈ E, i ∈ xIds X := by
 obtain ⟨E, h1, h2, h3, h4⟩ := qjD H L S n (fun i hi hns => by
  rcases hL i hi with rfl | hi
  · exact absurd ho hns
  · obtain ⟨s, hs, hf⟩ := h.flat i hi
    rw [getD_of hs]; exact hf.1) hn hS
 refine ⟨E, h1, h2, fun i hi => h3 i (hL2 i hi), fun i hi => ?_⟩
 rcases hL i (h4 i hi) with rfl | h'
 · exact absurd ho (fun ho => (List.nodup_append.1 h2).2.2 _ ho _ hi rfl)
 · exact h'
theorem qlg {H : Heap} {o v : Nat} {X : List XR} (h : Rep H o v X) {E : List Nat} (hnd : (o :: E).Nodup) (h3 : ∀ i ∈ xIds X, i ∈ o :: E) (hE : ∀ i ∈ E, ∃ s, H[i]? = some s ∧ fl s) :
 ∃ g objs, (∀ (j i : Nat), (o :: E)[j]? = some i → g i = j) ∧ Go.Ab.idx (o :: E) o = some 0 ∧ renHeap (Go.Ab.idx (o :: E)) ((o :: E).map (H.getD · .dead)) = some objs ∧
   Rep objs 0 v (X.map (mvX g)) ∧ (∀ (i : Nat) s, 1 ≤ i → objs[i]? = some s → fl s) ∧ objs.length = (o :: E).length := by
 have hidx : ∀ (j i : Nat), (o :: E)[j]? = some i → Go.Ab.idx (o :: E) i = some j := fun j i hj => idx_at hnd hj
 have hg : ∀ i ∈ o :: E, Go.Ab.idx (o :: E) i = some ((fun i => (Go.Ab.idx (o :: E) i).getD 0) i) := fun i hi => by
  obtain ⟨j, hj⟩ := List.getElem?_of_mem hi
  simp [hidx j i hj]
 have hg2 : ∀ (j i : Nat), (o :: E)[j]? = some i → (fun i => (Go.Ab.idx (o :: E) i).getD 0) i = j := fun j i hj => by simp [hidx j i hj]
 generalize (fun i => (Go.Ab.idx (o :: E) i).getD 0) = g at hg hg2
 have hg0 : g o = 0 := hg2 0 o rfl
 have hfl : ∀ s ∈ E.map (H.getD · .dead), fl s := by
  intro s hs
  obtain ⟨i, hi, rfl⟩ := List.mem_map.1 hs
  obtain ⟨s', hs', hf⟩ := hE i hi
  rw [getD_of hs']; exact hf
 refine ⟨g, .live ⟨v, 3, (X.map (mvX g)).map rowC⟩ :: E.map (H.getD · .dead), hg2, hidx 0 o rfl, ?_, ?_, ?_, by simp⟩
 · simp only [List.map_cons, getD_of h.root, qf5, ren_fl _ hfl]
   have : renSlot (Go.Ab.idx (o :: E)) (.live ⟨v, 3, X.map rowC⟩) = some (.live ⟨v, 3, (X.map (mvX g)).map rowC⟩) := by
    simp only [renSlot, qiY (g := g) X fun i hi => hg i (h3 i hi), Option.map_some]
   rw [this]
   rfl
 · have hget : ∀ i ∈ xIds X, (.live ⟨v, 3, (X.map (mvX g)).map rowC⟩ :: E.map (H.getD · .dead) : Heap)[g i]? = H[i]? := by
    intro i hi
    obtain ⟨j, hj⟩ := List.getElem?_of_mem (h3 i hi)
    rw [hg2 j i hj]
    cases j with
    | zero =>
      simp only [List.getElem?_cons_zero, Option.some.injEq] at hj
      subst hj
      exact absurd hi (List.nodup_cons.1 h.nd).1
    | succ j =>
      simp only [List.getElem?_cons_succ] at hj ⊢
      rw [List.getElem?_map, hj]
      obtain ⟨s, hs, -⟩ := h.flat i hi
      simp only [Option.map_some, getD_of hs, hs]
   have := h.mv (g := g) (H' := .live ⟨v, 3, (X.map (mvX g)).map rowC⟩ :: E.map (H.getD · .dead)) hget (fun i hi j hj he => by
    have hi' : i ∈ o :: E := by
     rcases List.mem_cons.1 hi with rfl | hi
     · simp
     · exact h3 i hi
    have hj' : j ∈ o :: E := by
     rcases List.mem_cons.1 hj with rfl | hj
     · simp
     · exact h3 j hj
    have e1 := qm0 (hg i hi')
    have e2 := qm0 (hg j hj')
    rw [he] at e1
    rw [e1] at e2
    exact Option.some.inj e2) (by rw [hg0]; rfl)
   rwa [hg0] at this
 · intro i s hi hs
   obtain ⟨i, rfl⟩ : ∃ k, i = k + 1 := ⟨i - 1, by omega⟩
   rw [List.getElem?_cons_succ] at hs
   exact hfl s (List.mem_of_getElem? hs)
theorem borrow_rep {H : Heap} {o v : Nat} {X : List XR} (h : Rep H o v X) {a0 : A} (ha : idsA a0 = []) (m : Nat) (hl : (xIds X).length < 90000) :
 ∃ E g objs, (o :: E).Nodup ∧ (∀ i ∈ o :: E, i < H.length) ∧ (∀ (j i : Nat), (o :: E)[j]? = some i → g i = j) ∧
   Go.Ab.borrow [a0, .osl o v 3 0 m] H = some (o :: E, [a0, .osl 0 v 3 0 m], objs) ∧ Rep objs 0 v (X.map (mvX g)) ∧ (∀ (i : Nat) s, 1 ≤ i → objs[i]? = some s → fl s) ∧ objs.length = (o :: E).length := by
 have hroot : (H.getD o .dead).ids = xIds X := by rw [getD_of h.root]; exact qhq X
 obtain ⟨E, h1, h2, h3, h4⟩ := h.reach [o] (xIds X) 99999 (by simp) (by simp) (fun i hi => .inr hi) (fun i hi => hi) (by omega)
 have hre : Go.Ab.reach H qa3 [] (idsL [a0, .osl o v 3 0 m]) = o :: E := by
  rw [show qa3 = 99999 + 1 from rfl]
  simp only [qhW, ha, qj7, qnl, List.nil_append, List.append_nil]
  rw [Go.Ab.reach, if_neg (by simp), hroot, List.append_nil]
  exact h1
 have hE : ∀ i ∈ E, ∃ s, H[i]? = some s ∧ fl s := fun i hi => h.flat i (h4 i hi)
 obtain ⟨g, objs, c1, c2, c3, c4, c5, c6⟩ := qlg h (E := E) h2 h3 hE
 refine ⟨E, g, objs, h2, ?_, c1, ?_, c4, c5, c6⟩
 · intro i hi
   rcases List.mem_cons.1 hi with rfl | hi
   · exact qaE h.root
   · obtain ⟨s, hs, -⟩ := hE i hi
     exact qaE hs
 · have hr0 : renA (Go.Ab.idx (o :: E)) a0 = some a0 := qcL _ _ ha
   unfold Go.Ab.borrow
   rw [hre]
   simp only [qg6, hr0, qet, c2, qiZ, c3, Option.map_some, Option.bind_some]
theorem qgE {H : Heap} {nb o v : Nat} {X : List XR} (h : Rep H o v X) (hnb : (0 < nb ∧ o = 0) ∨ nb = 0) (hlen : nb ≤ H.length) (hfl : ∀ (i : Nat) s, i < nb → i ≠ o → H[i]? = some s → fl s) (m : Nat) (hl : (xIds X).length < 90000) :
 ∃ g objs, finish nb (.ok (.osl o v 3 0 m)) H = some (.ok (.osl 0 v 3 0 m), objs) ∧ Rep objs 0 v (X.map (mvX g)) ∧ (∀ (i : Nat) s, 1 ≤ i → objs[i]? = some s → fl s) ∧ nb ≤ objs.length := by
 have hroot : (H.getD o .dead).ids = xIds X := by rw [getD_of h.root]; exact qhq X
 rcases hnb with ⟨hpos, rfl⟩ | rfl
 · obtain ⟨k, rfl⟩ : ∃ k, nb = k + 1 := ⟨nb - 1, by omega⟩
   have htk : (H.take (k + 1)).flatMap Go.Ab.Slot.ids = xIds X := by
    obtain ⟨r0, T, rfl⟩ : ∃ r0 T, H = r0 :: T := by cases H with
     | nil => simp at hlen
     | cons a b => exact ⟨a, b, rfl⟩
    rw [List.take_succ_cons, List.flatMap_cons]
    have e1 : r0.ids = xIds X := hroot
    have e2 : (T.take k).flatMap Go.Ab.Slot.ids = [] := by
     rw [List.flatMap_eq_nil_iff]
     intro s hs
     obtain ⟨i, hi⟩ := List.getElem?_of_mem hs
     rw [List.getElem?_take] at hi
     split at hi
     · exact (hfl (i + 1) s (by omega) (by omega) (by simpa using hi)).1
     · cases hi
    rw [e1, e2, List.append_nil]
   obtain ⟨E, h1, h2, h3, h4⟩ := h.reach (List.range (k + 1)) (0 :: xIds X) 100000 List.nodup_range (by simp) (fun i hi => by
    rcases List.mem_cons.1 hi with rfl | hi
    · exact .inl rfl
    · exact .inr hi) (fun i hi => by simp [hi]) (by rw [List.length_cons]; omega)
   have hS : List.range (k + 1) ++ E = 0 :: ((List.range k).map (· + 1) ++ E) := by rw [List.range_succ_eq_map]; rfl
   rw [hS] at h1 h2 h3
   obtain ⟨g, objs, c1, c2, c3, c4, c5, c6⟩ := qlg h h2 h3 (fun i hi => by
    rcases List.mem_append.1 hi with hi | hi
    · obtain ⟨j, hj, rfl⟩ := List.mem_map.1 hi
      rw [List.mem_range] at hj
      have hjl : j + 1 < H.length := by omega
      exact ⟨H[j + 1], List.getElem?_eq_getElem hjl, hfl (j + 1) _ (by omega) (by omega) (List.getElem?_eq_getElem hjl)⟩
    · exact h.flat i (h4 i hi))
   refine ⟨g, objs, ?_, c4, c5, ?_⟩
   · unfold finish
     simp only [qj7, htk, List.cons_append, List.nil_append, show qa3 = 100000 from rfl, h1, renOut, qet, c2, c3, Option.map_some, Option.bind_some]
   · rw [c6]; simp
 · obtain ⟨E, h1, h2, h3, h4⟩ := h.reach [o] (xIds X) 99999 (by simp) (by simp) (fun i hi => .inr hi) (fun i hi => hi) (by omega)
   have hre : Go.Ab.reach H qa3 [] [o] = o :: E := by
    rw [show qa3 = 99999 + 1 from rfl, Go.Ab.reach, if_neg (by simp), hroot, List.append_nil]
    exact h1
   obtain ⟨g, objs, c1, c2, c3, c4, c5, c6⟩ := qlg h (E := E) h2 h3 (fun i hi => h.flat i (h4 i hi))
   refine ⟨g, objs, ?_, c4, c5, by omega⟩
   unfold finish
   simp only [qj7, List.range_zero, List.take_zero, List.flatMap_nil, List.append_nil, hre, renOut, qet, c2, c3, Option.map_some, Option.bind_some]
theorem setAll_len : ∀ (E : List Nat) (H xs : Heap), (setAll H E xs).length = H.length
 | [], H, xs => by cases xs <;> rfl
 | e :: E, H, [] => rfl
 | e :: E, H, x :: xs => by rw [setAll, setAll_len E]; simp
theorem qia : ∀ (E : List Nat) (H xs : Heap) (i : Nat), i ∉ E → (setAll H E xs)[i]? = H[i]?
 | [], H, xs, i, _ => by cases xs <;> rfl
 | e :: E, H, [], i, _ => rfl
 | e :: E, H, x :: xs, i, hi => by
   simp only [List.mem_cons, not_or] at hi
   rw [setAll, qia E _ _ i hi.2, List.getElem?_set_ne (Ne.symm hi.1)]
theorem qly : ∀ (E : List Nat) (H xs : Heap), E.Nodup → (∀ i ∈ E, i < H.length) → E.length ≤ xs.length → ∀ (j e : Nat), E[j]? = some e → (setAll H E xs)[e]? = xs[j]?
 | [], H, xs, _, _, _, j, e, h => by simp at h
 | e0 :: E, H, [], _, _, hl, j, e, h => by simp at hl
 | e0 :: E, H, x :: xs, hn, hlt, hl, j, e, h => by
   rw [List.nodup_cons] at hn
   rw [setAll]
   cases j with
   | zero =>
     simp only [List.getElem?_cons_zero, Option.some.injEq] at h
     subst h
     rw [qia E _ _ e0 hn.1, List.getElem?_set_self (hlt e0 (by simp))]; rfl
   | succ j =>
     rw [List.getElem?_cons_succ] at h
     rw [qly E _ xs hn.2 (fun i hi => by rw [List.length_set]; exact hlt i (by simp [hi])) (by simpa using hl) j e h]; rfl
theorem qm3 {H : Heap} {o : Nat} {E : List Nat} (hnd : (o :: E).Nodup) (hlt : ∀ i ∈ o :: E, i < H.length) {objs : Heap} {v : Nat} {X : List XR} (h : Rep objs 0 v X) (hfl : ∀ (i : Nat) s, 1 ≤ i → objs[i]? = some s → fl s) (hlen : (o :: E).length ≤ objs.length) (m : Nat) :
 ∃ H' g, qaa (o :: E) H (.ok (.osl 0 v 3 0 m)) objs = some (.ok (.osl o v 3 0 m), H') ∧ Rep H' o v (X.map (mvX g)) ∧ H.length ≤ H'.length ∧ (∀ (i : Nat), i < H.length → i ∉ o :: E → H'[i]? = H[i]?) ∧
   (∀ i ∈ E, ∃ s, H'[i]? = some s ∧ fl s) := by
 obtain ⟨r0, rest, rfl⟩ : ∃ r0 rest, objs = r0 :: rest := by cases objs with
  | nil => simp at hlen
  | cons a b => exact ⟨a, b, rfl⟩
 have h0 : r0 = .live ⟨v, 3, X.map rowC⟩ := by have := h.root; simpa using this
 subst h0
 have hrest : ∀ s ∈ rest, fl s := fun s hs => by
  obtain ⟨i, hi⟩ := List.getElem?_of_mem hs
  exact hfl (i + 1) s (by omega) (by simpa using hi)
 have hback : ∀ j : Nat, ∃ i, backIdx (o :: E) H.length j = some i := fun j => by
  unfold backIdx
  split
  · rename_i hj
    exact ⟨_, List.getElem?_eq_getElem hj⟩
  · exact ⟨_, rfl⟩
 have hg : ∀ j : Nat, backIdx (o :: E) H.length j = some ((fun j => (backIdx (o :: E) H.length j).getD 0) j) := fun j => by
  obtain ⟨i, hi⟩ := hback j
  simp [hi]
 generalize hgd : (fun j => (backIdx (o :: E) H.length j).getD 0) = g at hg
 have hg1 : ∀ (j i : Nat), (o :: E)[j]? = some i → g j = i := fun j i hj => by
  have := hg j
  unfold backIdx at this
  rw [if_pos (List.getElem?_eq_some_iff.1 hj).1, hj] at this
  exact (Option.some.inj this).symm
 have hg2 : ∀ j : Nat, (o :: E).length ≤ j → g j = H.length + (j - (o :: E).length) := fun j hj => by
  have := hg j
  unfold backIdx at this
  rw [if_neg (by omega)] at this
  exact (Option.some.inj this).symm
 have hg0 : g 0 = o := hg1 0 o rfl
 have hinj : ∀ i j : Nat, g i = g j → i = j := fun i j hij => by
  by_cases hi : i < (o :: E).length
  · have e1 := hg1 i _ (List.getElem?_eq_getElem hi)
    by_cases hj : j < (o :: E).length
    · have e2 := hg1 j _ (List.getElem?_eq_getElem hj)
      rw [e1, e2] at hij
      exact (List.getElem_inj hnd).1 hij
    · have e2 := hg2 j (by omega)
      have := hlt _ (List.getElem_mem hi)
      omega
  · have e1 := hg2 i (by omega)
    by_cases hj : j < (o :: E).length
    · have e2 := hg1 j _ (List.getElem?_eq_getElem hj)
      have := hlt _ (List.getElem_mem hj)
      omega
    · have e2 := hg2 j (by omega)
      omega
 have hren : renHeap (backIdx (o :: E) H.length) (.live ⟨v, 3, X.map rowC⟩ :: rest) = some (.live ⟨v, 3, (X.map (mvX g)).map rowC⟩ :: rest) := by
  rw [qf5, ren_fl rest hrest]
  simp only [renSlot, qiY (g := g) X fun i hi => hg i, Option.map_some, Option.bind_some]
 let O : Heap := .live ⟨v, 3, (X.map (mvX g)).map rowC⟩ :: rest
 have hlen' : (o :: E).length ≤ O.length := hlen
 have hget : ∀ j : Nat, (setAll H (o :: E) (O.take (o :: E).length) ++ O.drop (o :: E).length)[g j]? = O[j]? := fun j => by
  by_cases hj : j < (o :: E).length
  · have e1 := hg1 j _ (List.getElem?_eq_getElem hj)
    have hl := hlt _ (List.getElem_mem hj)
    rw [e1, List.getElem?_append_left (by rw [setAll_len]; exact hl), qly (o :: E) H _ hnd hlt (by rw [List.length_take]; omega) j _ (List.getElem?_eq_getElem hj), List.getElem?_take, if_pos hj]
  · have e1 := hg2 j (by omega)
    rw [e1, List.getElem?_append_right (by rw [setAll_len]; omega), setAll_len, List.getElem?_drop]
    congr 1; omega
 refine ⟨setAll H (o :: E) (O.take (o :: E).length) ++ O.drop (o :: E).length, g, ?_, ?_, ?_, ?_, ?_⟩
 · unfold qaa
   simp only [renOut, qet, hg 0, hg0, Option.map_some, Option.bind_some, hren]
   rfl
 · have := h.mv (g := g) (H' := setAll H (o :: E) (O.take (o :: E).length) ++ O.drop (o :: E).length) (fun i hi => by
    rw [hget i]
    have hi0 : i ≠ 0 := by rintro rfl; exact (List.nodup_cons.1 h.nd).1 hi
    obtain ⟨i, rfl⟩ : ∃ k, i = k + 1 := ⟨i - 1, by omega⟩
    rfl) (fun i _ j _ he => hinj i j he) (by rw [hget 0]; rfl)
   rwa [hg0] at this
 · rw [List.length_append, setAll_len]; omega
 · intro i hi hn
   rw [List.getElem?_append_left (by rw [setAll_len]; exact hi), qia _ _ _ _ hn]
 · intro i hi
   obtain ⟨j, hj⟩ := List.getElem?_of_mem hi
   have e1 := hg1 (j + 1) i (by simpa using hj)
   have e2 := hget (j + 1)
   rw [e1] at e2
   have hj2 : j + 1 < O.length := by
    have := (List.getElem?_eq_some_iff.1 hj).1
    have h5 : (o :: E).length = E.length + 1 := rfl
    omega
   have hj3 : j < rest.length := by simpa [O] using hj2
   refine ⟨rest[j], ?_, hrest _ (List.getElem_mem hj3)⟩
   rw [e2]
   show rest[j]? = _
   exact List.getElem?_eq_getElem hj3
theorem nd_mid {l1 l2 : List Nat} {c : Nat} (h : (l1 ++ l2).Nodup) (hc : c ∉ l1 ++ l2) : (l1 ++ c :: l2).Nodup := by
 rw [List.nodup_append] at h ⊢
 obtain ⟨h1, h2, h3⟩ := h
 rw [List.mem_append, not_or] at hc
 refine ⟨h1, List.nodup_cons.2 ⟨hc.2, h2⟩, fun x hx y hy => ?_⟩
 rcases List.mem_cons.1 hy with rfl | hy
 · rintro rfl; exact hc.1 hx
 · exact h3 x hx y hy
theorem rep_add {H : Heap} {o v : Nat} {X1 X2 : List XR} {xb : XR} (h : Rep H o v (X1 ++ xb :: X2)) (m : Int) (hx : xb.2.idx.length < 1000) :
 ∃ (c' : A) (Hn : Heap) (xb' : XR), (∀ {β : Type} (k : A → Heap → Option β), oAppend none 1 8 (cellI xb) (.osl H.length 0 1 0 1) (H ++ [Go.Ab.Slot.live ⟨0, 1, [[.s (.int .i64 m)]]⟩]) k = k c' Hn) ∧
   Rep (Hn.set o (Go.Ab.Slot.live ⟨v, 3, (X1 ++ xb' :: X2).map rowC⟩)) o v (X1 ++ xb' :: X2) ∧ xb'.2 = ⟨xb.2.ks, xb.2.vs, xb.2.idx ++ [m]⟩ ∧ rowC xb' = [.osl xb.1.a 1 1 0 xb.2.ks.length, .osl xb.1.b 1 2 0 xb.2.vs.length, c'] ∧ isCell c' = true ∧
   Hn[o]? = H[o]? ∧ H.length ≤ Hn.length ∧ (∀ (i : Nat) s, i < H.length → i ≠ o → (∀ s, H[i]? = some s → fl s) → Hn[i]? = some s → fl s) := by
 obtain ⟨⟨a, b, c⟩, ⟨ks, vs, ix⟩⟩ := xb
 have hol := qaE h.root
 have hids : xIds (X1 ++ ((⟨a, b, c⟩, ⟨ks, vs, ix⟩) : XR) :: X2) = xIds X1 ++ (RP.ids ⟨a, b, c⟩ ++ xIds X2) := by simp [xIds]
 have hin : ∀ i ∈ xIds (X1 ++ ((⟨a, b, c⟩, ⟨ks, vs, ix⟩) : XR) :: X2), i < H.length := fun i hi => by
  obtain ⟨s, hs, -⟩ := h.flat i hi
  exact qaE hs
 have hnd : (o :: xIds (X1 ++ ((⟨a, b, c⟩, ⟨ks, vs, ix⟩) : XR) :: X2)).Nodup := h.nd
 rw [hids] at hnd
 rw [hids] at hin
 have hb := h.cells ((⟨a, b, c⟩, ⟨ks, vs, ix⟩) : XR) (by simp)
 have ap : qa4 1 8 := by decide
 simp only at hx
 have ap2 : qa4 (ix.length + 1) 8 := by unfold qa4; omega
 cases c with
 | none =>
   have hix : ix = [] := hb.2.2
   subst hix
   refine ⟨.osl (H.length + 1) 0 1 0 1, H ++ [Go.Ab.Slot.live ⟨0, 1, [[.s (.int .i64 m)]]⟩, Go.Ab.Slot.live ⟨0, 1, [[.s (.int .i64 m)]]⟩], (⟨a, b, some (H.length + 1, 0)⟩, ⟨ks, vs, [m]⟩), ?_, ?_, rfl, rfl, rfl, ?_, by simp, ?_⟩
   · intro β k
     simp [cellI, qeQ, ap]
   · have hget : ∀ (i : Nat), i < H.length → i ≠ o → ((H ++ [Go.Ab.Slot.live ⟨0, 1, [[.s (.int .i64 m)]]⟩, Go.Ab.Slot.live ⟨0, 1, [[.s (.int .i64 m)]]⟩]).set o (Go.Ab.Slot.live ⟨v, 3, (X1 ++ ((⟨a, b, some (H.length + 1, 0)⟩, ⟨ks, vs, [m]⟩) : XR) :: X2).map rowC⟩))[i]? = H[i]? := fun i hi hio => by
      rw [List.getElem?_set_ne (Ne.symm hio), List.getElem?_append_left hi]
     have hoth : ∀ i ∈ xIds (X1 ++ ((⟨a, b, none⟩, ⟨ks, vs, []⟩) : XR) :: X2), ((H ++ [Go.Ab.Slot.live ⟨0, 1, [[.s (.int .i64 m)]]⟩, Go.Ab.Slot.live ⟨0, 1, [[.s (.int .i64 m)]]⟩]).set o (Go.Ab.Slot.live ⟨v, 3, (X1 ++ ((⟨a, b, some (H.length + 1, 0)⟩, ⟨ks, vs, [m]⟩) : XR) :: X2).map rowC⟩))[i]? = H[i]? := fun i hi => by
      have hio : i ≠ o := by rintro rfl; exact (List.nodup_cons.1 h.nd).1 hi
      rw [hids] at hi
      exact hget i (hin i hi) hio
     refine ⟨by rw [List.getElem?_set_self (by simp; omega)], ?_, ?_⟩
     · intro x hx
       have hx' : x ∈ X1 ∨ x ∈ X2 ∨ x = ((⟨a, b, some (H.length + 1, 0)⟩, ⟨ks, vs, [m]⟩) : XR) := by
        simp at hx; rcases hx with h | h | h
        · exact .inl h
        · exact .inr (.inr h)
        · exact .inr (.inl h)
       have old : ∀ x ∈ X1 ++ ((⟨a, b, none⟩, ⟨ks, vs, []⟩) : XR) :: X2, qeF ((H ++ [Go.Ab.Slot.live ⟨0, 1, [[.s (.int .i64 m)]]⟩, Go.Ab.Slot.live ⟨0, 1, [[.s (.int .i64 m)]]⟩]).set o (Go.Ab.Slot.live ⟨v, 3, (X1 ++ ((⟨a, b, some (H.length + 1, 0)⟩, ⟨ks, vs, [m]⟩) : XR) :: X2).map rowC⟩)) x := fun x hx => by
        have := qf9 (g := fun i => i) (h.cells x hx) (fun i hi => hoth i (List.mem_flatMap.2 ⟨x, hx, hi⟩))
        have e : mvX (fun i => i) x = x := by obtain ⟨⟨a, b, c⟩, r⟩ := x; cases c <;> rfl
        rwa [e] at this
       rcases hx' with hx | hx | rfl
       · exact old x (by simp [hx])
       · exact old x (by simp [hx])
       · obtain ⟨o1, o2, -⟩ := old (⟨a, b, none⟩, ⟨ks, vs, []⟩) (by simp)
         refine ⟨o1, o2, ?_⟩
         show _[H.length + 1]? = _
         rw [List.getElem?_set_ne (by omega)]
         exact at_b H _ 1
     · have e : xIds (X1 ++ ((⟨a, b, some (H.length + 1, 0)⟩, ⟨ks, vs, [m]⟩) : XR) :: X2) = (xIds X1 ++ [a, b]) ++ (H.length + 1) :: xIds X2 := by simp [xIds, RP.ids]
       show (o :: xIds (X1 ++ ((⟨a, b, some (H.length + 1, 0)⟩, ⟨ks, vs, [m]⟩) : XR) :: X2)).Nodup
       rw [e, ← List.cons_append]
       refine nd_mid (by simpa [RP.ids] using hnd) ?_
       intro hm
       rw [List.cons_append] at hm
       rcases List.mem_cons.1 hm with hm | hm
       · omega
       · have := hin (H.length + 1) (by simpa [RP.ids] using hm)
         omega
   · rw [List.getElem?_append_left hol]
   · intro i s hi hio hf hs
     rw [List.getElem?_append_left hi] at hs
     exact hf s hs
 | some q =>
   obtain ⟨c, vc⟩ := q
   have hbc : H[c]? = some (Go.Ab.Slot.live ⟨vc, 1, ix.map (cellC .i64)⟩) := hb.2.2
   have hcl := qaE hbc
   have hco : c ≠ o := by
    rintro rfl
    exact (List.nodup_cons.1 hnd).1 (by simp [RP.ids])
   have hset : ((H ++ [Go.Ab.Slot.live ⟨0, 1, [[.s (.int .i64 m)]]⟩]).set c (Go.Ab.Slot.live ⟨vc + 1, 1, (ix ++ [m]).map (cellC .i64)⟩) : Heap) = H.set c (Go.Ab.Slot.live ⟨vc + 1, 1, (ix ++ [m]).map (cellC .i64)⟩) ++ [Go.Ab.Slot.live ⟨0, 1, [[.s (.int .i64 m)]]⟩] := qll hbc _ _
   refine ⟨.osl c (vc + 1) 1 0 (ix.length + 1), H.set c (Go.Ab.Slot.live ⟨vc + 1, 1, (ix ++ [m]).map (cellC .i64)⟩) ++ [Go.Ab.Slot.live ⟨0, 1, [[.s (.int .i64 m)]]⟩], (⟨a, b, some (c, vc + 1)⟩, ⟨ks, vs, ix ++ [m]⟩), ?_, ?_, rfl, by simp [rowC, cellI], rfl, ?_, by simp, ?_⟩
   · intro β k
     rw [← hset]
     have hc2 : (H ++ [Go.Ab.Slot.live ⟨0, 1, [[.s (.int .i64 m)]]⟩] : Heap)[c]? = some (Go.Ab.Slot.live ⟨vc, 1, ix.map (cellC .i64)⟩) := qfF hbc _
     simp [cellI, qb1, hc2, ap2, List.take_of_length_le, cellC]
   · have hget : ∀ (i : Nat), i < H.length → i ≠ o → i ≠ c → ((H.set c (Go.Ab.Slot.live ⟨vc + 1, 1, (ix ++ [m]).map (cellC .i64)⟩) ++ [Go.Ab.Slot.live ⟨0, 1, [[.s (.int .i64 m)]]⟩]).set o (Go.Ab.Slot.live ⟨v, 3, (X1 ++ ((⟨a, b, some (c, vc + 1)⟩, ⟨ks, vs, ix ++ [m]⟩) : XR) :: X2).map rowC⟩))[i]? = H[i]? := fun i hi hio hic => by
      rw [List.getElem?_set_ne (Ne.symm hio), List.getElem?_append_left (by simpa using hi), List.getElem?_set_ne (Ne.symm hic)]
     have hnd2 := (List.nodup_cons.1 hnd).2
     have hnotin : ∀ x : XR, x ∈ X1 ∨ x ∈ X2 → c ∉ x.1.ids := fun x hx hc => by
      have hcm : c ∈ RP.ids ⟨a, b, some (c, vc)⟩ := by simp [RP.ids]
      obtain ⟨n1, n2, n3⟩ := List.nodup_append.1 hnd2
      rcases hx with hx | hx
      · exact n3 c (List.mem_flatMap.2 ⟨x, hx, hc⟩) c (List.mem_append_left _ hcm) rfl
      · exact (List.nodup_append.1 n2).2.2 c hcm c (List.mem_flatMap.2 ⟨x, hx, hc⟩) rfl
     refine ⟨by rw [List.getElem?_set_self (by simp; omega)], ?_, ?_⟩
     · intro x hx
       have hx' : x ∈ X1 ∨ x ∈ X2 ∨ x = ((⟨a, b, some (c, vc + 1)⟩, ⟨ks, vs, ix ++ [m]⟩) : XR) := by
        simp at hx; rcases hx with h | h | h
        · exact .inl h
        · exact .inr (.inr h)
        · exact .inr (.inl h)
       have old : ∀ x : XR, (x ∈ X1 ∨ x ∈ X2) → qeF ((H.set c (Go.Ab.Slot.live ⟨vc + 1, 1, (ix ++ [m]).map (cellC .i64)⟩) ++ [Go.Ab.Slot.live ⟨0, 1, [[.s (.int .i64 m)]]⟩]).set o (Go.Ab.Slot.live ⟨v, 3, (X1 ++ ((⟨a, b, some (c, vc + 1)⟩, ⟨ks, vs, ix ++ [m]⟩) : XR) :: X2).map rowC⟩)) x := fun x hxx => by
        have hxm : x ∈ X1 ++ ((⟨a, b, some (c, vc)⟩, ⟨ks, vs, ix⟩) : XR) :: X2 := by rcases hxx with hx | hx <;> simp [hx]
        have := qf9 (g := fun i => i) (h.cells x hxm) (fun i hi => by
         have hi2 : i ∈ xIds (X1 ++ ((⟨a, b, some (c, vc)⟩, ⟨ks, vs, ix⟩) : XR) :: X2) := List.mem_flatMap.2 ⟨x, hxm, hi⟩
         refine hget i (hin i (by rw [← hids]; exact hi2)) ?_ ?_
         · rintro rfl; exact (List.nodup_cons.1 h.nd).1 hi2
         · intro hic; exact hnotin x hxx (hic ▸ hi))
        have e : mvX (fun i => i) x = x := by obtain ⟨⟨a, b, c⟩, r⟩ := x; cases c <;> rfl
        rwa [e] at this
       rcases hx' with hx | hx | rfl
       · exact old x (.inl hx)
       · exact old x (.inr hx)
       · have hndm := (List.nodup_append.1 (List.nodup_append.1 hnd2).2.1).1
         simp [RP.ids] at hndm
         obtain ⟨⟨hab, hac⟩, hbc'⟩ := hndm
         have hao : a ≠ o := by rintro rfl; exact (List.nodup_cons.1 hnd).1 (by simp [RP.ids])
         have hbo : b ≠ o := by rintro rfl; exact (List.nodup_cons.1 hnd).1 (by simp [RP.ids])
         refine ⟨?_, ?_, ?_⟩
         · show _[a]? = _
           rw [hget a (qaE hb.1) hao hac]; exact hb.1
         · show _[b]? = _
           rw [hget b (qaE hb.2.1) hbo hbc']; exact hb.2.1
         · show _[c]? = _
           rw [List.getElem?_set_ne (Ne.symm hco), List.getElem?_append_left (by simpa using hcl), List.getElem?_set_self hcl]
     · have e : xIds (X1 ++ ((⟨a, b, some (c, vc + 1)⟩, ⟨ks, vs, ix ++ [m]⟩) : XR) :: X2) = xIds X1 ++ (RP.ids ⟨a, b, some (c, vc)⟩ ++ xIds X2) := by simp [xIds, RP.ids]
       show (o :: xIds (X1 ++ ((⟨a, b, some (c, vc + 1)⟩, ⟨ks, vs, ix ++ [m]⟩) : XR) :: X2)).Nodup
       rw [e]
       exact hnd
   · rw [List.getElem?_append_left (by simpa using hol), List.getElem?_set_ne hco]
   · intro i s hi hio hf hs
     rw [List.getElem?_append_left (by simpa using hi)] at hs
     by_cases hic : i = c
     · subst hic
       rw [List.getElem?_set_self hcl] at hs
       cases hs
       exact ⟨ids_i64 _, by simp⟩
     · rw [List.getElem?_set_ne (Ne.symm hic)] at hs
       exact hf s hs
end Go.Ab.T
namespace Go.Ab.T
open Go Go.Ab Go.Ab.F
structure FI (nb o : Nat) (H : Heap) (v : Nat) (X : List XR) : Prop where
 rep : Rep H o v X
 len : nb ≤ H.length
 fl : ∀ (i : Nat) s, i < nb → i ≠ o → H[i]? = some s → T.fl s
theorem ids_few (X : List XR) : (xIds X).length ≤ 3 * X.length := by
 induction X with
 | nil => simp
 | cons x X ih =>
   obtain ⟨⟨a, b, c⟩, r⟩ := x
   have : (RP.ids ⟨a, b, c⟩).length ≤ 3 := by cases c <;> simp [RP.ids]
   simp only [xIds, List.flatMap_cons, List.length_append, List.length_cons] at ih ⊢
   omega
theorem snd_mv (g : Nat → Nat) (X : List XR) : (X.map (mvX g)).map (·.2) = X.map (·.2) := by
 rw [List.map_map]; rfl
def ListV (F : CallFn) (n : Nd) : Prop := ∀ (objs : Heap) (v : Nat) (X : List XR), Rep objs 0 v X → (∀ (i : Nat) s, 1 ≤ i → objs[i]? = some s → fl s) → X.length + cntN n ≤ 20000 →
 ∃ v' X' objs', F [.cptr (nodeC n), .osl 0 v 3 0 X.length] objs = some (.ok (.osl 0 v' 3 0 X'.length), objs') ∧ Rep objs' 0 v' X' ∧ (∀ (i : Nat) s, 1 ≤ i → objs'[i]? = some s → fl s) ∧ objs.length ≤ objs'.length ∧
   X'.map (·.2) = X.map (·.2) ++ listN X.length n
theorem list_call {F : CallFn} {n : Nd} (hF : ListV F n) {nb o v : Nat} {H : Heap} {X : List XR} (h : FI nb o H v X) (hc : X.length + cntN n ≤ 20000) :
 ∃ v' X' H', (∀ {β : Type} (kp k : A → Heap → Option β), oCall F [.cptr (nodeC n), .osl o v 3 0 X.length] H kp k = k (.osl o v' 3 0 X'.length) H') ∧ FI nb o H' v' X' ∧ H.length ≤ H'.length ∧ X'.map (·.2) = X.map (·.2) ++ listN X.length n := by
 have hfew := ids_few X
 obtain ⟨E, g, objs, b1, b2, b3, b4, b5, b6, b7⟩ := borrow_rep h.rep (a0 := .cptr (nodeC n)) (by simp) X.length (by omega)
 obtain ⟨v', X', objs', f1, f2, f3, f4, f5⟩ := hF objs v _ b5 b6 (by simpa using hc)
 rw [List.length_map] at f1 f5
 rw [snd_mv] at f5
 obtain ⟨H', g', r1, r2, r3, r4, r5⟩ := qm3 b1 b2 f2 f3 (by omega) X'.length
 refine ⟨v', X'.map (mvX g'), H', fun kp k => ?_, ⟨r2, by have := h.len; omega, fun i s hi hio hs => ?_⟩, r3, by rw [snd_mv, f5]⟩
 · unfold oCall
   rw [b4]
   simp only [f1, r1, List.length_map]
 · by_cases hiE : i ∈ E
   · obtain ⟨s', hs', hf⟩ := r5 i hiE
     rw [hs'] at hs
     cases hs
     exact hf
   · have := h.len
     rw [r4 i (by omega) (by simp [hio, hiE])] at hs
     exact h.fl i s hi hio hs
theorem qlU {nb o v n0 : Nat} {H : Heap} {X : List XR} (h : FI nb o H v X) (hn : nb ≤ n0) (hn0 : n0 ≤ H.length) (vs : List A) (hv : idsL vs = [o]) :
 ∃ H', Go.Ab.trim true n0 vs H = some (vs, H') ∧ FI nb o H' v X ∧ n0 ≤ H'.length := by
 unfold Go.Ab.trim
 rw [hv]
 split
 · rename_i hc
   simp only [Bool.true_and, Bool.and_eq_true, qa2, List.all_cons, List.all_nil, Bool.and_true, decide_eq_true_eq, List.all_eq_true] at hc
   obtain ⟨ho, hall⟩ := hc
   have hroot : (H.take n0)[o]? = some (.live ⟨v, 3, X.map rowC⟩) := by rw [List.getElem?_take, if_pos ho]; exact h.rep.root
   have hids := hall _ (List.mem_of_getElem? hroot)
   have hids' : ∀ i ∈ xIds X, i < n0 := fun i hi => hids i (by
    have : Go.Ab.Slot.ids (.live ⟨v, 3, X.map rowC⟩) = xIds X := qhq X
    rw [this]; exact hi)
   refine ⟨_, rfl, ⟨h.rep.same fun i hi => ?_, ?_, fun i s hi hio hs => ?_⟩, ?_⟩
   · rw [List.getElem?_take, if_pos]
     rcases List.mem_cons.1 hi with rfl | hi
     · exact ho
     · exact hids' i hi
   · rw [List.length_take]; have := h.len; omega
   · rw [List.getElem?_take] at hs
     split at hs
     · exact h.fl i s hi hio hs
     · cases hs
   · rw [List.length_take]; omega
 · exact ⟨_, rfl, h, hn0⟩
theorem qlV {self : CallFn} {kids : List Nd} (hself : ∀ m ∈ kids, ListV self m) {nb o b : Nat} {ks : List Int} {vs : List Extent} {R0 : List NodeR} (hb : R0.length = b) (hkl : kids.length < 1000) (hcnt : b + 1 + cntL kids ≤ 20000) {h18 : Heap} (hn18 : nb ≤ h18.length)
 {v0 : Nat} {X0 : List XR} (hX0 : X0.map (·.2) = R0 ++ [⟨ks, vs, []⟩]) (hI : FI nb o h18 v0 X0) :
 ∃ H v X, (∀ {β : Type} (k : Ex → List A → Heap → Option β), oLoop (qbv self (.s (.int .i64 kids.length)) (mkF 1 (kids.map kidC)) (.s (.int .i64 b)) h18) ([.osl o v0 3 0 (b + 1), .s (.int .i64 0)], h18) k = k (Ex.exit 0) [.osl o v 3 0 X.length] H) ∧ FI nb o H v X ∧
   X.map (·.2) = R0 ++ ⟨ks, vs, idxL (b + 1) kids⟩ :: listL (b + 1) kids := by
 have hl0 : X0.length = b + 1 := by
  have := congrArg List.length hX0
  simp at this; omega
 obtain ⟨q, ⟨H, v, X, rfl, hQ1, hQ2⟩, hq⟩ := qb6 (step := qbv self (.s (.int .i64 kids.length)) (mkF 1 (kids.map kidC)) (.s (.int .i64 b)) h18) (s0 := ([.osl o v0 3 0 (b + 1), .s (.int .i64 0)], h18))
  (fun i s => ∃ H v X, s = ([.osl o v 3 0 X.length, .s (.int .i64 i)], H) ∧ FI nb o H v X ∧ h18.length ≤ H.length ∧ X.map (·.2) = R0 ++ ⟨ks, vs, idxL (b + 1) (kids.take i)⟩ :: listL (b + 1) (kids.take i))
  (fun q => ∃ H v X, q = (Ex.exit 0, [.osl o v 3 0 X.length], H) ∧ FI nb o H v X ∧ X.map (·.2) = R0 ++ ⟨ks, vs, idxL (b + 1) kids⟩ :: listL (b + 1) kids) kids.length
  ⟨h18, v0, X0, by rw [hl0]; rfl, hI, Nat.le_refl _, by simpa [idxL, listL] using hX0⟩ (by omega)
  (by
   rintro i s hi ⟨H, v, X, rfl, hF, hlen, hX⟩
   left
   have hki : kids[i]? = some kids[i] := List.getElem?_eq_getElem hi
   have hmem := List.getElem_mem hi
   have hsf := hself _ hmem
   have htk : kids.take (i + 1) = kids.take i ++ [kids[i]] := by rw [List.take_add_one, hki]; rfl
   have hsplit : kids = kids.take (i + 1) ++ kids.drop (i + 1) := (List.take_append_drop _ _).symm
   have hcn : cntL (kids.take i) + cntN kids[i] ≤ cntL kids := by
    have e1 : cntL kids = cntL (kids.take (i + 1) ++ kids.drop (i + 1)) := by rw [← hsplit]
    have e2 : ∀ a b : List Nd, cntL (a ++ b) = cntL a + cntL b := fun a b => by
     induction a with
     | nil => simp [cntL]
     | cons x a ih => simp only [List.cons_append, cntL, ih]; omega
    rw [e1, e2, htk, e2]; simp [cntL]
   have hXl : X.length = b + 1 + cntL (kids.take i) := by
    have := congrArg List.length hX
    rw [List.length_map, List.length_append, List.length_cons, qgi] at this
    omega
   have w1 : IntKind.i64.wrap ((i : Int) + 1) = ((i + 1 : Nat) : Int) := by rw [qad (by omega) (by omega)]; simp
   have ik : ∀ (β : Type) (k : A → Option β), oIdxA 1 (mkF 1 (kids.map kidC)) (.s (.int .i64 i)) k = k (.cptr (kidC kids[i])) := fun β k => qbE 1 kidC kids .i64 _ _ k hki
   rw [htk, qh0, qgj]
   generalize kids[i] = kid at *
   generalize hT : kids.take i = T at *
   have hbX : b < X.length := by omega
   have hcut : X = X.take b ++ X[b] :: X.drop (b + 1) := by rw [← List.drop_eq_getElem_cons hbX, List.take_append_drop]
   have hrow : X[b].2 = ⟨ks, vs, idxL (b + 1) T⟩ := by
    have e : (X.map (·.2))[b]? = some X[b].2 := by rw [List.getElem?_map, List.getElem?_eq_getElem hbX]; rfl
    rw [hX, List.getElem?_append_right (by omega), hb, Nat.sub_self] at e
    exact (Option.some.inj e).symm
   have h1l : (X.take b).map (·.2) = R0 := by
    rw [List.map_take, hX, ← hb, List.take_left]
   have h2l : (X.drop (b + 1)).map (·.2) = listL (b + 1) T := by
    rw [List.map_drop, hX, ← hb, List.drop_append]; simp
   have htl : (X.take b).length = b := by rw [List.length_take]; omega
   generalize X.take b = X1 at *
   generalize X.drop (b + 1) = X2 at *
   generalize X[b] = xb at *
   subst hcut
   have hidx : xb.2.idx.length < 1000 := by
    rw [hrow]
    have : ∀ (c : Nat) (l : List Nd), (idxL c l).length = l.length := fun c l => by
     induction l generalizing c with
     | nil => rfl
     | cons x l ih => simp only [idxL, List.length_cons, ih]
    simp only [this, ← hT, List.length_take]; omega
   obtain ⟨c', Hn, xb', a1, a2, a3, a4, a5, a6, a7, a8⟩ := rep_add hF.rep (((X1 ++ xb :: X2).length : Nat) : Int) hidx
   have hroot := hF.rep.root
   have hol := qaE hroot
   have hgb : ((X1 ++ xb :: X2).map rowC)[b]? = some (rowC xb) := by
    rw [List.map_append, List.map_cons, List.getElem?_append_right (by simp [htl]), List.length_map, htl, Nat.sub_self]; rfl
   have hset : ((X1 ++ xb :: X2).map rowC).set b (rowC xb') = (X1 ++ xb' :: X2).map rowC := by
    rw [List.map_append, List.map_cons, List.set_append_right _ _ (by simp [htl]), List.length_map, htl, Nat.sub_self]; simp
   have hFI : FI nb o (Hn.set o (.live ⟨v, 3, (X1 ++ xb' :: X2).map rowC⟩)) v (X1 ++ xb' :: X2) := ⟨a2, by rw [List.length_set]; have := hF.len; omega, fun j s hj hjo hs => by
    rw [List.getElem?_set_ne (Ne.symm hjo)] at hs
    have := hF.len
    exact a8 j s (by omega) hjo (fun s hs => hF.fl j s hj hjo hs) hs⟩
   have hlX : (X1 ++ xb' :: X2).length = (X1 ++ xb :: X2).length := by simp
   obtain ⟨v', X', H', c1, c2, c3, c4⟩ := list_call hsf hFI (by rw [hlX, hXl]; omega)
   obtain ⟨H'', t1, t2, t3⟩ := qlU (n0 := h18.length) c2 hn18 (by rw [List.length_set] at c3; omega) [.osl o v' 3 0 X'.length, .s (.int .i64 (i + 1 : Nat))] (by simp)
   refine ⟨([.osl o v' 3 0 X'.length, .s (.int .i64 (i + 1 : Nat))], H''), ?_, H'', v', X', rfl, t2, t3, ?_⟩
   · rw [hlX] at c1
     clear c4 hX hcn hsplit hsf hself htk h1l h2l a2 a3 hFI a8 c2 hF hlX
     generalize hM : (X1 ++ xb :: X2).length = M at *
     have hz : (0 : Int) ≤ (b : Int) ∧ (b : Int) < (M : Int) := by omega
     have hc2 : cellsAt none (rowC xb) 2 = some (cellI xb) := rfl
     have hc3 : (rowC xb)[2]? = some (cellI xb) := rfl
     have hon : Hn[o]? = some (.live ⟨v, 3, (X1 ++ xb :: X2).map rowC⟩) := a6.trans hroot
     have hput : qa5 (rowC xb) 2 [c'] = rowC xb' := by rw [a4]; rfl
     have hrl : (rowC xb).length = 3 := rfl
     generalize (X1 ++ xb :: X2).map rowC = rows at *
     generalize (X1 ++ xb' :: X2).map rowC = rows' at *
     have hc4 : ∀ p : 2 < (rowC xb).length, (rowC xb)[2] = cellI xb := fun _ => rfl
     simp [qbv, hi, ik, qge, hz, hbX, hroot, hgb, hc4, hrl, w1]
     refine (a1 _).trans ?_
     simp only [hon, if_true, hgb, a5, List.length_cons, List.length_nil, Nat.zero_add, Nat.reduceAdd, hrl, Nat.le_refl, hput, hset]
     refine (c1 _ _).trans ?_
     have t1' := t1
     simp at t1'
     rw [show (A.int IntKind.i64 ((i : Int) + 1)) = .s (.int .i64 ((i : Int) + 1)) from rfl, t1']
     rfl
   · rw [c4, hlX, hXl]
     simp only [List.map_append, List.map_cons, h1l, h2l, a3, hrow, List.append_assoc, List.cons_append]
     rw [hXl])
  (by
   rintro s ⟨H, v, X, rfl, hF, hlen, hX⟩
   rw [List.take_length] at hX
   obtain ⟨H'', t1, t2, t3⟩ := qlU (n0 := h18.length) hF hn18 hlen [.osl o v 3 0 X.length] (by simp)
   refine ⟨_, ?_, H'', v, X, rfl, t2, hX⟩
   simp [qbv, t1])
 exact ⟨H, v, X, hq, hQ1, hQ2⟩
end Go.Ab.T
namespace Go.Ab.T
open Go Go.Ab Go.Ab.F
theorem qjL {ks : List Int} {vs : List Extent} {kids : List Nd} (hk : ks.length < 100) (hv : vs.length < 100) (hkl : kids.length < 1000) {self : CallFn} (hself : ∀ m ∈ kids, ListV self m) : ListV (qaV self) (.mk ks vs kids) := by
 intro objs v X hR hfl hcnt
 have hpos := qaE hR.root
 have hcnt2 : X.length + 1 + cntL kids ≤ 20000 := by rw [cntN] at hcnt; omega
 have c1 : ∀ {β : Type} (m : Nat) (wr : List Nat) (h : Heap) (k : A → Heap → Option β), oCallF m wr (qa8 1 8) [mkF 1 (ks.map (cellC .u64))] h k = k (.osl h.length 1 1 0 ks.length) (h ++ [.live ⟨1, 1, ks.map (cellC .u64)⟩]) := fun m wr h k => by
  have : qa4 ks.length 8 := by unfold qa4; omega
  exact qbK _ _ _ _ _ _ 1 1 ks.length _ (by simp) (fun f => ren_ks f _) (by simp [qa8, this])
 have c2 : ∀ {β : Type} (m : Nat) (wr : List Nat) (h : Heap) (k : A → Heap → Option β), oCallF m wr (qa8 2 16) [mkF 2 (vs.map extentC)] h k = k (.osl h.length 1 2 0 vs.length) (h ++ [.live ⟨1, 2, vs.map extentC⟩]) := fun m wr h k => by
  have : qa4 vs.length 16 := by unfold qa4; omega
  exact qbK _ _ _ _ _ _ 1 2 vs.length _ (by simp) (fun f => ren_vs f _) (by simp [qa8, this])
 let x : XR := (⟨objs.length + 2, objs.length + 3, none⟩, ⟨ks, vs, []⟩)
 let h18 : Heap := objs.set 0 (.live ⟨v + 1, 3, (X ++ [x]).map rowC⟩) ++ [.live ⟨0, 3, [rowC x]⟩, .res, .live ⟨1, 1, ks.map (cellC .u64)⟩, .live ⟨1, 2, vs.map extentC⟩]
 have hI : FI objs.length 0 h18 (v + 1) (X ++ [x]) := by
  have hlen : (objs.set 0 (.live ⟨v + 1, 3, (X ++ [x]).map rowC⟩)).length = objs.length := List.length_set
  have hin : ∀ i ∈ xIds X, i < objs.length := fun i hi => by
   obtain ⟨s, hs, -⟩ := hR.flat i hi
   exact qaE hs
  have hold : ∀ (i : Nat), i < objs.length → i ≠ 0 → h18[i]? = objs[i]? := fun i hi h0 => by
   show (objs.set 0 _ ++ _)[i]? = _
   rw [List.getElem?_append_left (by rw [hlen]; exact hi), List.getElem?_set_ne (Ne.symm h0)]
  have hnew : ∀ k : Nat, h18[objs.length + k]? = ([.live ⟨0, 3, [rowC x]⟩, .res, .live ⟨1, 1, ks.map (cellC .u64)⟩, .live ⟨1, 2, vs.map extentC⟩] : Heap)[k]? := fun k => by
   have := at_b (objs.set 0 (.live ⟨v + 1, 3, (X ++ [x]).map rowC⟩)) [.live ⟨0, 3, [rowC x]⟩, .res, .live ⟨1, 1, ks.map (cellC .u64)⟩, .live ⟨1, 2, vs.map extentC⟩] k
   rw [hlen] at this
   exact this
  refine ⟨⟨?_, ?_, ?_⟩, ?_, ?_⟩
  · show (objs.set 0 _ ++ _)[0]? = _
    rw [List.getElem?_append_left (by rw [hlen]; exact hpos), List.getElem?_set_self hpos]
  · intro y hy
    rcases List.mem_append.1 hy with hy | hy
    · have := qf9 (g := fun i => i) (H' := h18) (hR.cells y hy) (fun i hi => by
       have hi2 : i ∈ xIds X := List.mem_flatMap.2 ⟨y, hy, hi⟩
       refine hold i (hin i hi2) ?_
       rintro rfl
       exact (List.nodup_cons.1 hR.nd).1 hi2)
      have e : mvX (fun i => i) y = y := by obtain ⟨⟨a, b, c⟩, r⟩ := y; cases c <;> rfl
      rwa [e] at this
    · simp only [List.mem_cons, List.not_mem_nil, or_false] at hy
      subst hy
      exact ⟨hnew 2, hnew 3, rfl⟩
  · have e : xIds (X ++ [x]) = xIds X ++ [objs.length + 2, objs.length + 3] := by simp [xIds, RP.ids, x]
    show (0 :: xIds (X ++ [x])).Nodup
    have hnd : (0 :: xIds X).Nodup := hR.nd
    rw [e, ← List.cons_append, List.nodup_append]
    refine ⟨hnd, by simp, fun a ha b hb => ?_⟩
    have : a < objs.length := by
     rcases List.mem_cons.1 ha with rfl | ha
     · exact hpos
     · exact hin a ha
    simp at hb
    omega
  · show objs.length ≤ (objs.set 0 _ ++ _).length
    rw [List.length_append, hlen]; omega
  · intro i s hi h0 hs
    rw [hold i hi h0] at hs
    exact hfl i s (by omega) hs
 have hX0 : (X ++ [x]).map (·.2) = X.map (·.2) ++ [⟨ks, vs, []⟩] := by simp [x]
 obtain ⟨H, v', X', l1, l2, l3⟩ := qlV hself (b := X.length) (R0 := X.map (·.2)) (by simp) hkl hcnt2 (hn18 := hI.len) hX0 hI
 have hl' : X'.length = X.length + cntN (.mk ks vs kids) := by
  have := congrArg List.length l3
  rw [List.length_map, List.length_append, List.length_map, List.length_cons, qgi] at this
  rw [cntN]; omega
 have hfew := ids_few X'
 obtain ⟨g, objs', f1, f2, f3, f4⟩ := qgE l2.rep (nb := objs.length) (.inl ⟨hpos, rfl⟩) l2.len l2.fl X'.length (by omega)
 refine ⟨v', X'.map (mvX g), objs', ?_, f2, f3, f4, by rw [snd_mv, l3, listN]⟩
 have ap : qa4 (X.length + 1) 72 := by unfold qa4; omega
 have hroot := hR.root
 have e0 : objs ++ List.replicate 2 Go.Ab.Slot.res = objs ++ [.res, .res] := rfl
 have g0 : (objs ++ [.res, .res, .live ⟨1, 1, ks.map (cellC .u64)⟩, .live ⟨1, 2, vs.map extentC⟩] : Heap)[objs.length]? = some .res := at_b objs _ 0
 have s0 : ∀ y, (objs ++ [.res, .res, .live ⟨1, 1, ks.map (cellC .u64)⟩, .live ⟨1, 2, vs.map extentC⟩] : Heap).set objs.length y = objs ++ [y, .res, .live ⟨1, 1, ks.map (cellC .u64)⟩, .live ⟨1, 2, vs.map extentC⟩] := fun y => qej objs _ y
 have g1 : ∀ y : Go.Ab.Slot, (objs ++ [y, .res, .live ⟨1, 1, ks.map (cellC .u64)⟩, .live ⟨1, 2, vs.map extentC⟩] : Heap)[objs.length]? = some y := fun y => at_b objs _ 0
 have g2 : ∀ l : Heap, (objs ++ l)[0]? = some (.live ⟨v, 3, X.map rowC⟩) := fun l => qfF hroot l
 have s1 : ∀ (l : Heap) y, (objs ++ l).set 0 y = objs.set 0 y ++ l := fun l y => qll hroot l y
 have hw : wrL objs [(.osl 0 v 3 0 X.length, false)] = [0] := by simp [wrL, wrA, idTop]
 have hmain : qaV self [.cptr (nodeC (.mk ks vs kids)), .osl 0 v 3 0 X.length] objs = oLoop (qbv self (.s (.int .i64 kids.length)) (mkF 1 (kids.map kidC)) (.s (.int .i64 X.length)) h18) ([.osl 0 (v + 1) 3 0 (X.length + 1), .s (.int .i64 0)], h18) (qc0 objs) := by
  simp only [qaV]
  simp [hw, e0, oLoadD, qbS, qeC, qdo, c1, c2, qa5, Go.Ab.place, g0, s0, qb2, qb1, g1, g2, app_get' hroot, ap, s1, List.take_of_length_le]
  simp [h18, x, rowC, cellI]
 rw [hmain, l1]
 simp only [qc0, if_true, List.getD_cons_zero, List.length_map]
 exact f1
theorem list_v : ∀ (h : Nat) (lo hi : Option Int) (n : Nd), okN h lo hi n → n.ks.length ≤ 7 → ∀ fuel, h < fuel → ListV (qbT fuel) n
 | 0, lo, hi, .mk ks vs kids, hn, hl, fuel, hf => by
   obtain ⟨f, rfl⟩ : ∃ f, fuel = f + 1 := ⟨fuel - 1, by omega⟩
   obtain ⟨rfl, e2, e3, e4⟩ := hn
   simp only [Nd.ks_mk] at hl
   exact qjL (by omega) (by omega) (by simp) (by simp)
 | h + 1, lo, hi, .mk ks vs kids, hn, hl, fuel, hf => by
   obtain ⟨f, rfl⟩ : ∃ f, fuel = f + 1 := ⟨fuel - 1, by omega⟩
   obtain ⟨rfl, c1, c2⟩ := hn
   simp only [Nd.ks_mk] at hl
   have hkl := qbb c1
   refine qjL (by omega) (by simp) (by omega) fun m hm => ?_
   obtain ⟨lo', hi', hok⟩ := qbO c1 m hm
   exact list_v h lo' hi' m hok (c2 m hm).2 f (by omega)
theorem qnh {ks : List Int} {vs : List Extent} {kids : List Nd} (hk : ks.length < 100) (hv : vs.length < 100) (hkl : kids.length < 1000) {self : CallFn} (hself : ∀ m ∈ kids, ListV self m) (hcnt : 1 + cntL kids ≤ 20000) :
 ∃ v X objs, qaV self [.cptr (nodeC (.mk ks vs kids)), .s (.slice none 0 0)] [] = some (.ok (.osl 0 v 3 0 X.length), objs) ∧ Rep objs 0 v X ∧ (∀ (i : Nat) s, 1 ≤ i → objs[i]? = some s → fl s) ∧ X.map (·.2) = listN 0 (.mk ks vs kids) := by
 have c1 : ∀ {β : Type} (m : Nat) (wr : List Nat) (h : Heap) (k : A → Heap → Option β), oCallF m wr (qa8 1 8) [mkF 1 (ks.map (cellC .u64))] h k = k (.osl h.length 1 1 0 ks.length) (h ++ [.live ⟨1, 1, ks.map (cellC .u64)⟩]) := fun m wr h k => by
  have : qa4 ks.length 8 := by unfold qa4; omega
  exact qbK _ _ _ _ _ _ 1 1 ks.length _ (by simp) (fun f => ren_ks f _) (by simp [qa8, this])
 have c2 : ∀ {β : Type} (m : Nat) (wr : List Nat) (h : Heap) (k : A → Heap → Option β), oCallF m wr (qa8 2 16) [mkF 2 (vs.map extentC)] h k = k (.osl h.length 1 2 0 vs.length) (h ++ [.live ⟨1, 2, vs.map extentC⟩]) := fun m wr h k => by
  have : qa4 vs.length 16 := by unfold qa4; omega
  exact qbK _ _ _ _ _ _ 1 2 vs.length _ (by simp) (fun f => ren_vs f _) (by simp [qa8, this])
 let x : XR := (⟨2, 3, none⟩, ⟨ks, vs, []⟩)
 let h18 : Heap := [.live ⟨0, 3, [rowC x]⟩, .live ⟨0, 3, [rowC x]⟩, .live ⟨1, 1, ks.map (cellC .u64)⟩, .live ⟨1, 2, vs.map extentC⟩]
 have hI : FI 0 1 h18 0 [x] := by
  refine ⟨⟨rfl, ?_, by simp [RP.ids, x]⟩, by simp, fun i s hi => by omega⟩
  intro y hy
  simp only [List.mem_cons, List.not_mem_nil, or_false] at hy
  subst hy
  exact ⟨rfl, rfl, rfl⟩
 obtain ⟨H, v', X', l1, l2, l3⟩ := qlV hself (b := 0) (R0 := []) rfl hkl (by omega) (hn18 := hI.len) (ks := ks) (vs := vs) rfl hI
 have hl' : X'.length = 1 + cntL kids := by
  have := congrArg List.length l3
  rw [List.length_map, List.nil_append, List.length_cons, qgi] at this
  omega
 have hfew := ids_few X'
 obtain ⟨g, objs', f1, f2, f3, f4⟩ := qgE l2.rep (nb := 0) (.inr rfl) (by omega) (fun i s hi => by omega) X'.length (by omega)
 refine ⟨v', X'.map (mvX g), objs', ?_, f2, f3, by rw [snd_mv, l3, listN]; rfl⟩
 have ap : qa4 1 72 := by decide
 have hw : wrL [] [(.s (.slice none 0 0), false)] = [] := by simp [wrL, wrA, idTop]
 have hmain : qaV self [.cptr (nodeC (.mk ks vs kids)), .s (.slice none 0 0)] [] = oLoop (qbv self (.s (.int .i64 kids.length)) (mkF 1 (kids.map kidC)) (.s (.int .i64 (0 : Nat))) h18) ([.osl 1 0 3 0 (0 + 1), .s (.int .i64 0)], h18) (qc0 []) := by
  simp only [qaV]
  simp [hw, oLoadD, qbS, qeC, qdo, c1, c2, qa5, Go.Ab.place, qb2, qeQ, ap]
  simp [h18, x, rowC, cellI]
 rw [hmain, l1]
 simp only [qc0, if_true, List.getD_cons_zero, List.length_map, List.length_nil]
 exact f1
theorem qkI {f : Nat → Option Nat} {H : Heap} {v : Nat} {X : List XR} (hR : Rep H 0 v X) (hfl : ∀ (i : Nat) s, 1 ≤ i → H[i]? = some s → fl s) {g : Nat → Nat} (hf : ∀ i, f i = some (g i)) : ∃ T, H = .live ⟨v, 3, X.map rowC⟩ :: T ∧ (∀ s ∈ T, fl s) ∧ renHeap f H = some (.live ⟨v, 3, (X.map (mvX g)).map rowC⟩ :: T) := by
 obtain ⟨r0, T, rfl⟩ : ∃ r0 T, H = r0 :: T := by
  cases H with
  | nil => have := hR.root; simp at this
  | cons a b => exact ⟨a, b, rfl⟩
 have h0 : r0 = .live ⟨v, 3, X.map rowC⟩ := by have := hR.root; simpa using this
 subst h0
 have hT : ∀ s ∈ T, fl s := fun s hs => by
  obtain ⟨i, hi⟩ := List.getElem?_of_mem hs
  exact hfl (i + 1) s (by omega) (by simpa using hi)
 refine ⟨T, rfl, hT, ?_⟩
 rw [qf5, ren_fl T hT]
 simp only [renSlot, qiY (g := g) X fun i _ => hf i, Option.map_some, Option.bind_some]
theorem Nodes_v {h : Nat} {root : Nd} (hT : TreeI h root) (len : Int) (hc : cntN root ≤ 20000) :
 ∃ v X objs, qb8 [.cptr (treeC root len)] [] = some (.ok (.osl 0 v 3 0 X.length), objs) ∧ Rep objs 0 v X ∧ (∀ (i : Nat) s, 1 ≤ i → objs[i]? = some s → fl s) ∧ X.map (·.2) = listN 0 root := by
 have hbig : ∃ b, big = b + 1 ∧ h < b + 1 := ⟨big - 1, by have := big_lt; have := hT.low; omega, by have := big_lt; have := hT.low; omega⟩
 obtain ⟨b, hb1, hb2⟩ := hbig
 have htop : ∃ v X objs, qbT big [.cptr (nodeC root), .s (.slice none 0 0)] [] = some (.ok (.osl 0 v 3 0 X.length), objs) ∧ Rep objs 0 v X ∧ (∀ (i : Nat) s, 1 ≤ i → objs[i]? = some s → fl s) ∧ X.map (·.2) = listN 0 root := by
  rw [hb1]
  have hok := hT.ok
  have hfew := hT.few
  obtain ⟨ks, vs, kids⟩ := root
  simp only [Nd.ks_mk] at hfew
  have hcn : 1 + cntL kids ≤ 20000 := by rw [cntN] at hc; exact hc
  cases h with
  | zero =>
    obtain ⟨rfl, e2, e3, e4⟩ := hok
    exact qnh (by omega) (by omega) (by simp) (by simp) hcn
  | succ h =>
    obtain ⟨rfl, c1, c2⟩ := hok
    have hkl := qbb c1
    refine qnh (by omega) (by simp) (by omega) (fun m hm => ?_) hcn
    obtain ⟨lo', hi', hok⟩ := qbO c1 m hm
    exact list_v h lo' hi' m hok (c2 m hm).2 b (by omega)
 obtain ⟨v, X, objs, f1, f2, f3, f4⟩ := htop
 have hXl : X.length = cntN root := by
  have := congrArg List.length f4
  rwa [List.length_map, qdO] at this
 have hfew := ids_few X
 obtain ⟨T, e1, e2, e3⟩ := qkI f2 f3 (f := backIdx [] 0) (g := fun i => i) (fun i => by simp [backIdx])
 rw [mvX_id] at e3
 have hoc : ∀ {β : Type} (kp k : A → Heap → Option β), oCall (qbT big) [.cptr (nodeC root), .s (.slice none 0 0)] [] kp k = k (.osl 0 v 3 0 X.length) objs := fun kp k => by
  have hbo : Go.Ab.borrow [.cptr (nodeC root), .s (.slice none 0 0)] [] = some ([], [.cptr (nodeC root), .s (.slice none 0 0)], []) := by
   unfold Go.Ab.borrow; simp
  have hg : qaa [] [] (.ok (.osl 0 v 3 0 X.length)) objs = some (.ok (.osl 0 v 3 0 X.length), objs) := by
   unfold qaa
   simp only [List.length_nil, e3, renOut, qet]
   rw [← e1]
   simp [backIdx, setAll]
  unfold oCall
  rw [hbo]
  simp only [f1, hg]
 obtain ⟨g, objs', q1, q2, q3, q4⟩ := qgE f2 (nb := 0) (.inr rfl) (by omega) (fun i s hi => by omega) X.length (by omega)
 refine ⟨v, X.map (mvX g), objs', ?_, q2, q3, by rw [snd_mv, f4]⟩
 have t0 : (treeC root len).drop 0 = treeC root len := rfl
 have t1 : (treeC root len)[0]? = some (.cptr (nodeC root)) := rfl
 simp only [qb8, qde, qee, t0, qeJ, qc9, t1, List.length_nil]
 rw [hoc]
 rw [List.length_map]
 exact q1
def nodeRC (r : NodeR) : List A := [mkF 1 (r.ks.map (cellC .u64)), mkF 2 (r.vs.map extentC), mkF 1 (r.idx.map (cellC .i64))]
theorem qgZ (r : NodeR) : pureL (nodeRC r) = true := by
 have h1 : qay (r.ks.map (cellC .u64)) = true := qaq _ (fun x => by simp [cellC]) _
 have h2 : qay (r.vs.map extentC) = true := qaq _ (fun x => by simp) _
 have h3 : qay (r.idx.map (cellC .i64)) = true := qaq _ (fun x => by simp [cellC]) _
 simp [nodeRC, h1, h2, h3]
def killI (G : Heap) (l : List Nat) : Heap := l.foldl (fun G i => G.set i .dead) G
theorem qlX : ∀ (l : List Nat) (G : Heap) (j : Nat), j ∉ l → (killI G l)[j]? = G[j]?
 | [], G, j, _ => rfl
 | i :: l, G, j, h => by
   simp only [List.mem_cons, not_or] at h
   rw [killI, List.foldl_cons]
   refine (qlX l _ j h.2).trans ?_
   rw [List.getElem?_set_ne (Ne.symm h.1)]
theorem killI_app (l1 l2 : List Nat) (G : Heap) : killI G (l1 ++ l2) = killI (killI G l1) l2 := by simp [killI, List.foldl_append]
theorem fzr_row {n : Nat} {row row' : List A} {r r' : List (List A)} {H H1 H2 : Heap} (hp : pureL row = false) (h1 : FzL n row H row' H1) (h2 : FzR n r H1 r' H2) : FzR (n + 1) (row :: r) H (row' :: r') H2 := fun m => by
 rw [show m + (n + 1) = (m + n) + 1 by omega, frzRows]
 rw [if_neg (by simp [qay, hp])]
 simp only [h1 m, Option.bind_some, h2 m, Option.map_some]
theorem fz_row {G : Heap} {x : XR} (h : qeF G x) (hnd : x.1.ids.Nodup) : FzL 8 (rowC x) G (nodeRC x.2) (killI G x.1.ids) := by
 obtain ⟨⟨a, b, c⟩, ⟨ks, vs, ix⟩⟩ := x
 obtain ⟨h1, h2, h3⟩ := h
 have p1 : qay (ks.map (cellC .u64)) = true := qaq _ (fun x => by simp [cellC]) _
 have p2 : qay (vs.map extentC) = true := qaq _ (fun x => by simp) _
 have p3 : qay (ix.map (cellC .i64)) = true := qaq _ (fun x => by simp [cellC]) _
 cases c with
 | none =>
   simp [RP.ids] at hnd
   have hix : ix = [] := h3
   subst hix
   refine qaJ (n := 6) rfl (FzA.le (n := 2) (fz_own (rows := ks.map (cellC .u64)) h1 (by simp) p1) (by omega)) ?_
   refine qaJ (n := 5) rfl (FzA.le (n := 2) (fz_own (rows := vs.map extentC) (by rw [List.getElem?_set_ne hnd]; exact h2) (by simp) p2) (by omega)) ?_
   exact qaJ (n := 4) rfl ((fz_flat _ rfl).le (by omega)) ((fzl_nil _).le (by omega))
 | some q =>
   obtain ⟨c, vc⟩ := q
   simp [RP.ids] at hnd
   obtain ⟨⟨hab, hac⟩, hbc⟩ := hnd
   refine qaJ (n := 6) rfl (FzA.le (n := 2) (fz_own (rows := ks.map (cellC .u64)) h1 (by simp) p1) (by omega)) ?_
   refine qaJ (n := 5) rfl (FzA.le (n := 2) (fz_own (rows := vs.map extentC) (by rw [List.getElem?_set_ne hab]; exact h2) (by simp) p2) (by omega)) ?_
   refine qaJ (n := 4) rfl (FzA.le (n := 2) (fz_own (id := c) (ver := vc) (sz := 1) (rows := ix.map (cellC .i64)) (by rw [List.getElem?_set_ne hbc, List.getElem?_set_ne hac]; exact h3) (by simp) p3) (by omega)) ((fzl_nil _).le (by omega))
theorem rowC_np (x : XR) : pureL (rowC x) = false := by simp [rowC, pureA]
theorem fz_rows : ∀ (X : List XR) (G : Heap), (∀ x ∈ X, qeF G x) → (xIds X).Nodup → FzR (10 + X.length) (X.map rowC) G (X.map fun x => nodeRC x.2) (killI G (xIds X))
 | [], G, _, _ => (fzr_nil G).le (by simp)
 | x :: X, G, hc, hn => by
   have hn' : (x.1.ids ++ xIds X).Nodup := hn
   obtain ⟨n1, n2, n3⟩ := List.nodup_append.1 hn'
   have hr := fz_row (hc x (by simp)) n1
   have ih := fz_rows X (killI G x.1.ids) (fun y hy => by
    have := qf9 (g := fun i => i) (H' := killI G x.1.ids) (hc y (by simp [hy])) (fun i hi => qlX _ _ _ (fun hx => n3 i hx i (List.mem_flatMap.2 ⟨y, hy, hi⟩) rfl))
    have e : mvX (fun i => i) y = y := by obtain ⟨⟨a, b, c⟩, r⟩ := y; cases c <;> rfl
    rwa [e] at this) n2
   have e : killI G (xIds (x :: X)) = killI (killI G x.1.ids) (xIds X) := killI_app _ _ _
   rw [e]
   exact (fzr_row (rowC_np x) (hr.le (by omega)) ih).le (by simp; omega)
theorem qnv {h : Nat} {root : Nd} (hT : TreeI h root) (len : Int) (hc : cntN root ≤ 800) : Gv qb8 [.cptr (treeC root len)] (mkF 3 ((listN 0 root).map nodeRC)) := by
 intro H
 obtain ⟨v, X, objs, f1, f2, f3, f4⟩ := Nodes_v hT len (by omega)
 have hXl : X.length = cntN root := by
  have := congrArg List.length f4
  rwa [List.length_map, qdO] at this
 obtain ⟨T, e1, e2, e3⟩ := qkI f2 f3 (f := backIdx [] H.length) (g := fun i => H.length + i) (fun i => by simp [backIdx])
 have hg : qaa [] H (.ok (.osl 0 v 3 0 X.length)) objs = some (.ok (.osl H.length v 3 0 X.length), H ++ (.live ⟨v, 3, (X.map (mvX fun i => H.length + i)).map rowC⟩ :: T)) := by
  unfold qaa
  simp only [e3, renOut, qet]
  simp [backIdx, setAll]
 have hR : Rep (H ++ (.live ⟨v, 3, (X.map (mvX fun i => H.length + i)).map rowC⟩ :: T)) H.length v (X.map (mvX fun i => H.length + i)) := by
  have := f2.mv (g := fun i => H.length + i) (H' := H ++ (.live ⟨v, 3, (X.map (mvX fun i => H.length + i)).map rowC⟩ :: T)) (fun i hi => by
   rw [at_b, e1]
   have hi0 : i ≠ 0 := by rintro rfl; exact (List.nodup_cons.1 f2.nd).1 hi
   obtain ⟨i, rfl⟩ : ∃ k, i = k + 1 := ⟨i - 1, by omega⟩
   rfl) (fun i _ j _ he => by omega) (at_b H _ 0)
  exact this
 generalize hX2 : X.map (mvX fun i => H.length + i) = X2 at *
 have hX2l : X2.length = X.length := by rw [← hX2]; simp
 have hX2m : X2.map (fun x => nodeRC x.2) = (listN 0 root).map nodeRC := by
  rw [← f4, ← hX2, List.map_map, List.map_map]; rfl
 have hids : ∀ i ∈ xIds X2, H.length < i := fun i hi => by
  rw [← hX2] at hi
  have hi' : i ∈ (xIds X).map (fun i => H.length + i) := by rw [← qhM]; exact hi
  obtain ⟨j, hj, rfl⟩ := List.mem_map.1 hi'
  have : j ≠ 0 := by rintro rfl; exact (List.nodup_cons.1 f2.nd).1 hj
  omega
 have hnd := (List.nodup_cons.1 hR.nd)
 have hz := fz_rows X2 ((H ++ (.live ⟨v, 3, X2.map rowC⟩ :: T)).set H.length .dead) (fun x hx => by
  have := qf9 (g := fun i => i) (H' := (H ++ (.live ⟨v, 3, X2.map rowC⟩ :: T)).set H.length .dead) (hR.cells x hx) (fun i hi => by
   have := hids i (List.mem_flatMap.2 ⟨x, hx, hi⟩)
   rw [List.getElem?_set_ne (by omega)])
  have e : mvX (fun i => i) x = x := by obtain ⟨⟨a, b, c⟩, r⟩ := x; cases c <;> rfl
  rwa [e] at this) hnd.2
 rw [qej, List.set_cons_zero] at hz
 have hkill : ∀ (l : List Nat) (D : Heap), flatD D → (∀ i ∈ l, H.length ≤ i) → ∃ d, flatD d ∧ killI (H ++ D) l = H ++ d := by
  intro l
  induction l with
  | nil => exact fun D hD _ => ⟨D, hD, rfl⟩
  | cons i l ih =>
    intro D hD hl
    obtain ⟨k, rfl⟩ : ∃ k, i = H.length + k := ⟨i - H.length, by have := hl i (by simp); omega⟩
    have : killI (H ++ D) ((H.length + k) :: l) = killI ((H ++ D).set (H.length + k) .dead) l := rfl
    rw [this, qbY]
    refine ih (D.set k .dead) (fun s hs => ?_) (fun i hi => hl i (by simp [hi]))
    rcases List.mem_or_eq_of_mem_set hs with hs | rfl
    · exact hD s hs
    · rfl
 obtain ⟨d, hd, hk⟩ := hkill (xIds X2) (.dead :: T) (fun s hs => by
  rcases List.mem_cons.1 hs with rfl | hs
  · rfl
  · exact (e2 s hs).1) (fun i hi => Nat.le_of_lt (hids i hi))
 rw [hk] at hz
 refine ⟨d, hd, fun kp k => ?_⟩
 rw [qdf _ _ (by simp) f1 hg]
 have hfin : FzA (11 + X2.length) (.osl H.length v 3 0 X.length) (H ++ (.live ⟨v, 3, X2.map rowC⟩ :: T)) (mkF 3 (X2.map fun x => nodeRC x.2)) (H ++ d) := by
  have := fz_osl (n := 10 + X2.length) (id := H.length) (ver := v) (sz := 3) (sz' := 3) (m := X.length) (rows := X2.map rowC) (H := H ++ (.live ⟨v, 3, X2.map rowC⟩ :: T)) (by simp) (by simp [hX2l]) (by rw [qej, List.set_cons_zero]; exact hz)
  exact this.le (by omega)
 rw [hX2m] at hfin
 exact fz_oFrz hfin (by omega) (by simp) k
end Go.Ab.T
namespace Go.Ab.T
theorem qli : ∀ (a b : List Nd), cntL (a ++ b) = cntL a + cntL b
 | [], b => by simp [cntL]
 | n :: a, b => by simp only [List.cons_append, cntL, qli a b]; omega
theorem qgH : ∀ (l : List Nd) (i : Nat) (n m : Nd), l[i]? = some m → cntL (l.set i n) + cntN m = cntL l + cntN n
 | [], i, n, m, h => by simp at h
 | a :: l, 0, n, m, h => by simp at h; subst h; simp only [List.set_cons_zero, cntL]; omega
 | a :: l, i + 1, n, m, h => by
   have := qgH l i n m (by simpa using h)
   simp only [List.set_cons_succ, cntL]; omega
theorem qns : ∀ (l : List Nd) (i : Nat) (n : Nd), cntL (l.insertIdx i n) ≤ cntL l + cntN n
 | l, 0, n => by simp only [List.insertIdx_zero, cntL]; omega
 | [], i + 1, n => by simp [cntL]
 | a :: l, i + 1, n => by
   have := qns l i n
   simp only [List.insertIdx_succ_cons, cntL]; omega
theorem qnt : ∀ (l : List Nd) (i : Nat) (m : Nd), l[i]? = some m → cntL (l.eraseIdx i) + cntN m = cntL l
 | [], i, m, h => by simp at h
 | a :: l, 0, m, h => by simp at h; subst h; simp only [List.eraseIdx_cons_zero, cntL]; omega
 | a :: l, i + 1, m, h => by
   have := qnt l i m (by simpa using h)
   simp only [List.eraseIdx_cons_succ, cntL]; omega
def cntO : Option Nd → Nat
 | none => 0
 | some m => cntN m
theorem qei : cntO none = 0 := rfl
theorem qeh (m : Nd) : cntO (some m) = cntN m := rfl
theorem qhi (n : Nd) : cntN (splitN n).1 + cntO (splitN n).2.2 ≤ cntN n + 1 := by
 obtain ⟨ks, vs, kids⟩ := n
 rw [qe6]
 split
 · simp only [qei, qeh]; omega
 · split
   · rename_i h; subst h
     simp [qei, qeh, cntN, cntL]
   · simp only [qei, qeh, cntN]
     have : cntL kids = cntL (kids.take (ks.length / 2 + 1)) + cntL (kids.drop (ks.length / 2 + 1)) := by rw [← qli, List.take_append_drop]
     omega
theorem split_some {n : Nd} (h : 7 < n.ks.length) : ∃ p m q, splitN n = (p, m, some q) := by
 obtain ⟨ks, vs, kids⟩ := n
 simp only [Nd.ks_mk] at h
 rw [qe6, if_neg (by omega)]
 split <;> exact ⟨_, _, _, rfl⟩
theorem put_cnt (x : Int) (e : Extent) : ∀ (h : Nat) (lo hi : Option Int) (n : Nd), okN h lo hi n → cntN (putN x e h n).1 + cntO (putN x e h n).2.2 ≤ cntN n + h + 1
 | 0, lo, hi, .mk ks vs kids, hn => by
   simp only [putN]
   split
   · simp only [qei, qeh, cntN]; omega
   · refine Nat.le_trans (qhi _) ?_
     simp only [cntN]; omega
 | h + 1, lo, hi, .mk ks vs kids, hn => by
   obtain ⟨rfl, c1, c2⟩ := hn
   have hkl := qbb c1
   have hw := way_le ks x
   have hk : kids[way ks x]? = some kids[way ks x] := List.getElem?_eq_getElem (by omega)
   obtain ⟨lo', hi', hok⟩ := qbO c1 _ (List.getElem_mem (show way ks x < kids.length by omega))
   have ih := put_cnt x e h lo' hi' _ hok
   simp only [putN]
   have hgd : kids.getD (way ks x) (.mk [] [] []) = kids[way ks x] := by rw [List.getD_eq_getElem?_getD, hk]; rfl
   rw [hgd]
   generalize kids[way ks x] = kid at *
   rcases hr : putN x e h kid with ⟨n, b, m⟩
   rw [hr] at ih
   have hset := qgH kids _ n kid hk
   cases m with
   | none =>
     simp only [qei, qeh] at ih ⊢
     have := qhi (.mk ks [] (kids.set (way ks x) n))
     simp only [cntN] at this ⊢
     omega
   | some m =>
     simp only [qei, qeh] at ih
     have := qhi (.mk (ks.insertIdx (way ks x) b) [] ((kids.set (way ks x) n).insertIdx (way ks x + 1) m))
     have h2 := qns (kids.set (way ks x) n) (way ks x + 1) m
     simp only [cntN] at this ⊢
     omega
theorem qmE {x : Int} {e : Extent} {h : Nat} {root : Nd} (hn : okN h none none root) : cntN (putRoot (putN x e h root)) ≤ cntN root + h + 2 := by
 have := put_cnt x e h none none root hn
 generalize putN x e h root = r at *
 obtain ⟨n, b, m⟩ := r
 cases m with
 | none => simp only [putRoot, cntO] at this ⊢; omega
 | some m => simp only [putRoot, qei, qeh, cntN, cntL] at this ⊢; omega
theorem join_cnt (a : Nd) (k : Int) (b : Nd) : cntN (joinN a k b) + 1 ≤ cntN a + cntN b := by
 obtain ⟨ak, av, ac⟩ := a
 obtain ⟨bk, bv, bc⟩ := b
 unfold joinN
 split
 · simp only [cntN, cntL]; omega
 · simp only [cntN, Nd.kids_mk, qli]; omega
theorem mend_cnt (ks : List Int) (vs : List Extent) (kids : List Nd) (j : Nat) (hj : j + 1 < kids.length) : cntN (mendN (.mk ks vs kids) j) ≤ 1 + cntL kids := by
 have ha : kids[j]? = some kids[j] := List.getElem?_eq_getElem (by omega)
 have hb : kids[j + 1]? = some kids[j + 1] := List.getElem?_eq_getElem hj
 have hga : kids.getD j (.mk [] [] []) = kids[j] := by rw [List.getD_eq_getElem?_getD, ha]; rfl
 have hgb : kids.getD (j + 1) (.mk [] [] []) = kids[j + 1] := by rw [List.getD_eq_getElem?_getD, hb]; rfl
 simp only [mendN, Nd.kids_mk, Nd.ks_mk, Nd.vs_mk, hga, hgb]
 generalize kids[j] = a at *
 generalize kids[j + 1] = b at *
 have hc := join_cnt a (ks.getD j 0) b
 generalize joinN a (ks.getD j 0) b = c at *
 split
 · have h1 := qnt kids (j + 1) b hb
   have h2 := qgH (kids.eraseIdx (j + 1)) j c a (by rw [List.getElem?_eraseIdx_of_lt (by omega)]; exact ha)
   simp only [cntN]; omega
 · rename_i h7
   obtain ⟨p, m, q, hs⟩ := split_some (n := c) (by omega)
   have hsc := qhi c
   rw [hs] at hsc
   rw [hs]
   simp only [qei, qeh] at hsc
   have h1 := qgH kids j p a ha
   have h2 := qgH (kids.set j p) (j + 1) q b (by rw [List.getElem?_set_ne (by omega)]; exact hb)
   simp only [cntN]; omega
theorem del_cnt (x : Int) : ∀ (h : Nat) (lo hi : Option Int) (n : Nd), okN h lo hi n → (0 < h → n.ks ≠ []) → cntN (delN x h n) ≤ cntN n
 | 0, lo, hi, .mk ks vs kids, hn, hne => by
   simp only [delN]
   split <;> simp [cntN]
 | h + 1, lo, hi, .mk ks vs kids, hn, hne => by
   obtain ⟨rfl, c1, c2⟩ := hn
   have hkl := qbb c1
   have hw := way_le ks x
   have hne := hne (by omega)
   simp only [Nd.ks_mk] at hne
   have hpos := List.length_pos_iff.2 hne
   have hk : kids[way ks x]? = some kids[way ks x] := List.getElem?_eq_getElem (by omega)
   have hm := List.getElem_mem (show way ks x < kids.length by omega)
   obtain ⟨lo', hi', hok⟩ := qbO c1 _ hm
   have ih := del_cnt x h lo' hi' _ hok (fun _ e => by have := (c2 _ hm).1; rw [e] at this; simp at this)
   simp only [delN]
   have hgd : kids.getD (way ks x) (.mk [] [] []) = kids[way ks x] := by rw [List.getD_eq_getElem?_getD, hk]; rfl
   rw [hgd]
   generalize kids[way ks x] = kid at *
   have hset := qgH kids _ (delN x h kid) kid hk
   split
   · have := mend_cnt ks [] (kids.set (way ks x) (delN x h kid)) (way ks x - 1) (by rw [List.length_set]; omega)
     refine Nat.le_trans this ?_
     simp only [cntN]; omega
   · simp only [cntN]; omega
theorem delT_cnt {x : Int} {h : Nat} {root : Nd} (hT : TreeI h root) : cntN (delT x h root) ≤ cntN root := by
 unfold delT
 split
 · refine Nat.le_trans ?_ (del_cnt x h none none root hT.ok hT.ne)
   generalize delN x h root = n
   obtain ⟨ks, vs, kids⟩ := n
   unfold delRoot
   split
   · rename_i k hk
     simp only [Nd.kids_mk] at hk
     subst hk
     simp only [cntN, cntL]; omega
   · exact Nat.le_refl _
 · exact Nat.le_refl _
theorem qkq : ∀ {l : List Nd} {p : Pr}, p ∈ flats l → ∃ n ∈ l, p ∈ flat n
 | [], p, h => by simp [flats] at h
 | n :: l, p, h => by
   simp only [flats, List.mem_append] at h
   rcases h with h | h
   · exact ⟨n, by simp, h⟩
   · obtain ⟨m, hm, hp⟩ := qkq h
     exact ⟨m, by simp [hm], hp⟩
end Go.Ab.T
