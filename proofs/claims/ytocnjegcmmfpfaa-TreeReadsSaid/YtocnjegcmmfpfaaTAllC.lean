/-
 THE PLAIN LAWS, AND WHAT THEY STAND ON, TOGETHER.
-/
import Derived.Test.YtocnjegcmmfpfaaTAllB
import Derived.Test.YtocnjegcmmfpfaaTAllA
import Derived.KernelRfl
set_option linter.unusedSimpArgs false
set_option linter.unusedVariables false
namespace Go.Ab.T
mutual
def keysN : Nd → List Int
 | .mk ks _ kids => ks ++ keysL kids
def keysL : List Nd → List Int
 | [] => []
 | n :: l => keysN n ++ keysL l
end
mutual
theorem qgA : ∀ (b : Nat) (n : Nd), (listN b n).flatMap (·.ks) = keysN n
 | b, .mk ks vs kids => by rw [listN, keysN, List.flatMap_cons, qkk (b + 1) kids]
theorem qkk : ∀ (b : Nat) (l : List Nd), (listL b l).flatMap (·.ks) = keysL l
 | b, [] => by simp [listL, keysL]
 | b, n :: l => by rw [listL, keysL, List.flatMap_append, qgA b n, qkk _ l]
end
def inK (lo hi : Option Int) (l : List Int) : Prop := ∀ k ∈ l, lb lo k ∧ ub hi k
theorem qlZ : ∀ {l : List Nd} {k : Int}, k ∈ keysL l ↔ ∃ n ∈ l, k ∈ keysN n
 | [], k => by simp [keysL]
 | n :: l, k => by simp [keysL, qlZ (l := l)]
theorem qjP {P : Option Int → Option Int → Nd → Prop} (hP : ∀ lo hi n, P lo hi n → inK lo hi (keysN n)) :
 ∀ {lo : Option Int} {ks : List Int} {kids : List Nd} {hi : Option Int}, chain P lo ks kids hi → inK lo hi (keysL kids)
 | lo, [], [n], hi, h => fun k hk => by
   simp [keysL] at hk
   exact hP _ _ _ h k hk
 | lo, a :: ks, n :: ns, hi, h => fun k hk => by
   simp only [keysL, List.mem_append] at hk
   obtain ⟨h1, h2, h3, h4⟩ := h
   rcases hk with hk | hk
   · obtain ⟨g1, g2⟩ := hP _ _ _ h1 k hk
     have : k < a := by simpa using g2
     exact ⟨g1, h3.le (by omega)⟩
   · obtain ⟨g1, g2⟩ := qjP hP h4 k hk
     have : a ≤ k := by simpa using g1
     exact ⟨h2.lb.le this, g2⟩
 | _, [], [], _, h => h.elim
 | _, [], _ :: _ :: _, _, h => h.elim
 | _, _ :: _, [], _, h => h.elim
theorem okN_inK : ∀ (h : Nat) (lo hi : Option Int) (n : Nd), okN h lo hi n → inK lo hi (keysN n)
 | 0, lo, hi, .mk ks vs kids, hn => by
   obtain ⟨rfl, e2, e3, e4⟩ := hn
   intro k hk
   simp [keysN, keysL] at hk
   exact e4 k hk
 | h + 1, lo, hi, .mk ks vs kids, hn => by
   obtain ⟨rfl, c1, c2⟩ := hn
   intro k hk
   simp only [keysN, List.mem_append] at hk
   rcases hk with hk | hk
   · obtain ⟨g1, g2⟩ := (qdy c1).2 k hk
     exact ⟨g1.lb, g2⟩
   · exact qjP (okN_inK h) c1 k hk
theorem qiI {P : Option Int → Option Int → Nd → Prop} (hK : ∀ lo hi n, P lo hi n → inK lo hi (keysN n))
 (hP : ∀ lo hi n lo' hi', P lo hi n → inK lo' hi' (keysN n) → P lo' hi' n) :
 ∀ {lo : Option Int} {ks : List Int} {kids : List Nd} {hi lo' hi' : Option Int}, chain P lo ks kids hi → (∀ n ∈ kids, keysN n ≠ []) → inK lo' hi' ks → inK lo' hi' (keysL kids) → chain P lo' ks kids hi'
 | lo, [], [n], hi, lo', hi', h, hne, h1, h2 => hP _ _ _ _ _ h fun k hk => h2 k (by simpa [keysL] using hk)
 | lo, a :: ks, n :: ns, hi, lo', hi', h, hne, h1, h2 => by
   obtain ⟨g1, g2, g3, g4⟩ := h
   have h2n : ∀ k ∈ keysN n, lb lo' k ∧ ub hi' k := fun k hk => h2 k (by simp [keysL, hk])
   have hks : ∀ k ∈ ks, a < k := fun k hk => by simpa using ((qdy g4).2 k hk).1
   refine ⟨hP _ _ _ _ _ g1 fun k hk => ⟨(h2n k hk).1, (hK _ _ _ g1 k hk).2⟩, ?_, (h1 a (by simp)).2, ?_⟩
   · obtain ⟨x, hx⟩ := List.exists_mem_of_ne_nil _ (hne n (by simp))
     exact (h2n x hx).1.lt (by simpa using (hK _ _ _ g1 x hx).2)
   · refine qiI hK hP g4 (fun m hm => hne m (by simp [hm])) (fun k hk => ⟨by have := hks k hk; simp; omega, (h1 k (by simp [hk])).2⟩) fun k hk => ⟨(qjP hK g4 k hk).1, (h2 k (by simp [keysL, hk])).2⟩
 | _, [], [], _, _, _, h, _, _, _ => h.elim
 | _, [], _ :: _ :: _, _, _, _, h, _, _, _ => h.elim
 | _, _ :: _, [], _, _, _, h, _, _, _ => h.elim
theorem keys_ne {n : Nd} (h : sz n) : keysN n ≠ [] := by
 obtain ⟨ks, vs, kids⟩ := n
 intro e
 have := h.1
 simp only [keysN, List.append_eq_nil_iff] at e
 simp [e.1] at this
theorem qih : ∀ (h : Nat) (lo hi : Option Int) (n : Nd) (lo' hi' : Option Int), okN h lo hi n → inK lo' hi' (keysN n) → okN h lo' hi' n
 | 0, lo, hi, .mk ks vs kids, lo', hi', hn, hk => by
   obtain ⟨rfl, e2, e3, e4⟩ := hn
   exact ⟨rfl, e2, e3, fun k h => hk k (by simp [keysN, h])⟩
 | h + 1, lo, hi, .mk ks vs kids, lo', hi', hn, hk => by
   obtain ⟨rfl, c1, c2⟩ := hn
   exact ⟨rfl, qiI (okN_inK h) (qih h) c1 (fun m hm => keys_ne (c2 m hm)) (fun k h => hk k (by simp [keysN, h])) (fun k h => hk k (by simp [keysN, h])), c2⟩
end Go.Ab.T
namespace Go.Ab.T
open Classical
def loK (b : Option Int) (ks : List Int) : Nat → Option Int
 | 0 => b
 | i + 1 => ks[i]?
def hiK (b : Option Int) (ks : List Int) (i : Nat) : Option Int := if i < ks.length then ks[i]? else b
theorem qng (b : Option Int) (k : Int) (ks : List Int) (j : Nat) : loK b (k :: ks) (j + 1) = loK (some k) ks j := by cases j <;> rfl
theorem qnm (b : Option Int) (k : Int) (ks : List Int) (j : Nat) : hiK b (k :: ks) (j + 1) = hiK b ks j := by simp [hiK]
theorem qlk {P : Option Int → Option Int → Nd → Prop} : ∀ {ks : List Int} {lo hi : Option Int} {kids : List Nd}, kids.length = ks.length + 1 → (∀ (j : Nat) n, kids[j]? = some n → P (loK lo ks j) (hiK hi ks j) n) →
 (∀ k ∈ ks, sl lo k ∧ ub hi k) → ks.Pairwise (· < ·) → chain P lo ks kids hi
 | [], lo, hi, [n], _, h, _, _ => h 0 n rfl
 | k :: ks, lo, hi, n :: ns, hl, h, hk, hs => by
   refine ⟨by simpa [loK, hiK] using h 0 n rfl, (hk k (by simp)).1, (hk k (by simp)).2, qlk (by simpa using hl) (fun j m hj => ?_) (fun x hx => ⟨?_, (hk x (by simp [hx])).2⟩) (List.pairwise_cons.1 hs).2⟩
   · have := h (j + 1) m (by simpa using hj)
     rwa [qng, qnm] at this
   · simpa using (List.pairwise_cons.1 hs).1 x hx
 | [], _, _, [], hl, _, _, _ => by simp at hl
 | [], _, _, _ :: _ :: _, hl, _, _, _ => by simp at hl
 | _ :: _, _, _, [], hl, _, _, _ => by simp at hl
theorem qlj {P : Option Int → Option Int → Nd → Prop} : ∀ {ks : List Int} {lo hi : Option Int} {kids : List Nd}, chain P lo ks kids hi → ∀ (j : Nat) n, kids[j]? = some n → P (loK lo ks j) (hiK hi ks j) n
 | [], lo, hi, [n], h, j, m, hj => by
   cases j with
   | zero => simp at hj; subst hj; exact h
   | succ j => simp at hj
 | k :: ks, lo, hi, n :: ns, h, j, m, hj => by
   cases j with
   | zero => simp at hj; subst hj; simpa [loK, hiK] using h.1
   | succ j =>
     rw [qng, qnm]
     exact qlj h.2.2.2 j m (by simpa using hj)
 | [], _, _, [], h, _, _, _ => h.elim
 | [], _, _, _ :: _ :: _, h, _, _, _ => h.elim
 | _ :: _, _, _, [], h, _, _, _ => h.elim
def formP (x : NodeR) (root : Bool) : Prop :=
 x.ks.length ≤ 7 ∧ (root = true ∨ 3 ≤ x.ks.length) ∧ x.ks.Pairwise (· < ·) ∧ ((x.idx = [] ∧ x.vs.length = x.ks.length) ∨ (x.idx ≠ [] ∧ x.vs = [] ∧ x.idx.length = x.ks.length + 1 ∧ 2 ≤ x.idx.length))
def part (N : List NodeR) (p n : Nat) : List NodeR := (N.drop p).take n
theorem qhF {N : List NodeR} {p n : Nat} {x : NodeR} (h : N[p]? = some x) : part N p (n + 1) = x :: part N (p + 1) n := by
 obtain ⟨hp, rfl⟩ := List.getElem?_eq_some_iff.1 h
 unfold part
 rw [List.drop_eq_getElem_cons hp, List.take_succ_cons]
theorem qkW (N : List NodeR) (p n m : Nat) : part N p (n + m) = part N p n ++ part N (p + n) m := by
 unfold part
 rw [List.take_add, List.drop_drop]
theorem qhE {N : List NodeR} {p n : Nat} {x : NodeR} {l : List NodeR} (h : part N p n = x :: l) : N[p]? = some x ∧ part N (p + 1) (n - 1) = l := by
 unfold part at h ⊢
 cases n with
 | zero => simp at h
 | succ n =>
   cases hd : N.drop p with
   | nil => simp [hd] at h
   | cons y r =>
     rw [hd, List.take_succ_cons] at h
     simp only [List.cons.injEq] at h
     obtain ⟨rfl, h⟩ := h
     have hp : N[p]? = some y := by
      have := List.getElem?_drop (xs := N) (i := p) (j := 0)
      rw [hd] at this; simpa using this.symm
     refine ⟨hp, ?_⟩
     have h2 : N.drop (p + 1) = r := by rw [← List.drop_drop, hd]; rfl
     rw [h2]; simpa using h
theorem qj1 (N : List NodeR) : part N 0 N.length = N := by simp [part]
theorem qkc {N : List NodeR} {p a b : Nat} {A B : List NodeR} (h : part N p (a + b) = A ++ B) (hA : A.length = a) : part N p a = A ∧ part N (p + a) b = B := by
 rw [qkW] at h
 have hl : (part N p a).length ≤ a := by unfold part; simp; omega
 have h1 : (part N p a).length = a := by
  by_cases hlt : (part N p a).length < a
  · have : part N (p + a) b = [] := by
     unfold part at hlt ⊢
     rw [List.length_take, List.length_drop] at hlt
     rw [List.drop_eq_nil_of_le (by omega)]; simp
    rw [this, List.append_nil] at h
    have := congrArg List.length h
    simp at this; omega
  · omega
 exact List.append_inj h (by omega)
theorem qhV : ∀ (b : Nat) (l : List Nd), (idxL b l).length = l.length
 | b, [] => rfl
 | b, n :: l => by simp [idxL, qhV]
theorem cnt_pos (n : Nd) : 1 ≤ cntN n := by obtain ⟨ks, vs, kids⟩ := n; rw [cntN]; omega
theorem qgm : ∀ (h : Nat) (lo hi : Option Int) (n : Nd), okN h lo hi n → h + 1 ≤ cntN n
 | 0, _, _, n, _ => cnt_pos n
 | h + 1, lo, hi, .mk ks vs kids, hn => by
   obtain ⟨rfl, c1, c2⟩ := hn
   have hl := qbb c1
   cases kids with
   | nil => simp at hl
   | cons m r =>
     obtain ⟨lo', hi', hm⟩ := qbO c1 m (by simp)
     have := qgm h lo' hi' m hm
     rw [cntN, cntL]; omega
noncomputable def rdKids (N : List NodeR) (rec : Nat → Option (Nat × Nat × Nd)) (p : Nat) (ks : List Int) : Nat → List Int → Nat → Option Nat → List Nd → Option (Nat × Option Nat × List Nd)
 | _, [], size, deep, kids => some (size, deep, kids)
 | i, m :: r, size, deep, kids =>
   if m = ((p + size : Nat) : Int) then
    match rec (p + size) with
    | none => none
    | some (n, d, nd) =>
      if (deep = none ∨ deep = some d) ∧ ∀ x ∈ part N (p + size) n, inK (loK none ks i) (hiK none ks i) x.ks then rdKids N rec p ks (i + 1) r (size + n) (some d) (kids ++ [nd])
      else none
   else none
noncomputable def rd : Nat → List NodeR → Nat → Option (Nat × Nat × Nd)
 | 0, _, _ => none
 | f + 1, N, p =>
   match N[p]? with
   | none => none
   | some x =>
     if formP x (decide (p = 0)) then
      if x.idx = [] then some (1, 0, .mk x.ks x.vs [])
      else match rdKids N (rd f N) p x.ks 0 x.idx 1 none [] with
       | some (size, some d, kids) => some (size, d + 1, .mk x.ks [] kids)
       | _ => none
     else none
structure ReadAt (N : List NodeR) (p n h : Nat) (lo hi : Option Int) (nd : Nd) : Prop where
 cnt : n = cntN nd
 le : p + n ≤ N.length
 part : part N p n = listN p nd
 ok : okN h lo hi nd
 few : nd.ks.length ≤ 7
 size : p ≠ 0 → sz nd
 ne : 0 < h → nd.ks ≠ []
structure KidsAt (N : List NodeR) (p : Nat) (lo hi : Option Int) (ks : List Int) (size : Nat) (deep : Option Nat) (kids : List Nd) : Prop where
 cnt : size = 1 + cntL kids
 le : p + size ≤ N.length
 part : part N (p + 1) (cntL kids) = listL (p + 1) kids
 dp : kids = [] ∨ ∃ d, deep = some d
 ok : ∀ (j : Nat) n, kids[j]? = some n → sz n ∧ ∃ d, deep = some d ∧ okN d (loK lo ks j) (hiK hi ks j) n
theorem qiz {N : List NodeR} {rec : Nat → Option (Nat × Nat × Nd)} (hrec : ∀ p n h nd, rec p = some (n, h, nd) → ReadAt N p n h none none nd) {p : Nat} {ks : List Int} :
 ∀ {r : List Int} {i size : Nat} {deep : Option Nat} {kids : List Nd} {size' : Nat} {deep' : Option Nat} {kids' : List Nd}, KidsAt N p none none ks size deep kids → i = kids.length →
   rdKids N rec p ks i r size deep kids = some (size', deep', kids') → KidsAt N p none none ks size' deep' kids' ∧ idxL (p + 1) kids ++ r = idxL (p + 1) kids'
 | [], i, size, deep, kids, size', deep', kids', hK, hi, h => by
   simp only [rdKids, Option.some.injEq, Prod.mk.injEq] at h
   obtain ⟨rfl, rfl, rfl⟩ := h
   exact ⟨hK, by simp⟩
 | m :: r, i, size, deep, kids, size', deep', kids', hK, hi, h => by
   simp only [rdKids] at h
   split at h <;> try (cases h; done)
   rename_i hm
   split at h <;> try (cases h; done)
   rename_i n d nd hr
   split at h <;> try (cases h; done)
   rename_i hc
   obtain ⟨hc1, hc2⟩ := hc
   have hA := hrec _ _ _ _ hr
   have hsz : sz nd := hA.size (by have := hK.cnt; omega)
   have e1 : p + 1 + cntL kids = p + size := by rw [hK.cnt]; omega
   have hin : inK (loK none ks i) (hiK none ks i) (keysN nd) := by
    rw [← qgA (p + size) nd, ← hA.part]
    intro k hk
    obtain ⟨x, hx, hkx⟩ := List.mem_flatMap.1 hk
    exact hc2 x hx k hkx
   obtain ⟨g1, g2⟩ := qiz hrec (kids := kids ++ [nd]) (i := i + 1) (deep := some d) (size := size + n) ⟨by rw [qh5, ← hA.cnt, hK.cnt]; omega, by have := hA.le; omega, by
    rw [qh5, qkW, qgj, hK.part, e1, ← hA.part, hA.cnt], .inr ⟨d, rfl⟩, fun j x hj => by
    by_cases hjl : j < kids.length
    · rw [List.getElem?_append_left hjl] at hj
      obtain ⟨g1, d', g2, g3⟩ := hK.ok j x hj
      refine ⟨g1, d, rfl, ?_⟩
      rcases hc1 with e | e
      · rw [e] at g2; cases g2
      · rw [e] at g2; cases g2; exact g3
    · rw [List.getElem?_append_right (by omega)] at hj
      have hj0 : j - kids.length = 0 := by
       cases hj1 : j - kids.length with
       | zero => rfl
       | succ y => rw [hj1] at hj; simp at hj
      rw [hj0] at hj
      simp at hj
      subst hj
      have : j = i := by omega
      subst this
      exact ⟨hsz, d, rfl, qih _ _ _ _ _ _ hA.ok hin⟩⟩ (by simp [hi]) h
   refine ⟨g1, ?_⟩
   rw [← g2, qh0, e1, hm]
   simp
theorem qj0 {N : List NodeR} : ∀ (f p n h : Nat) (nd : Nd), rd f N p = some (n, h, nd) → ReadAt N p n h none none nd
 | 0, _, _, _, _, e => by simp [rd] at e
 | f + 1, p, n, h, nd, e => by
   simp only [rd] at e
   split at e <;> try (cases e; done)
   rename_i x hx
   have hp : p < N.length := (List.getElem?_eq_some_iff.1 hx).1
   split at e <;> try (cases e; done)
   rename_i hf
   obtain ⟨f1, f2, f3, f4⟩ := hf
   have hsz : p ≠ 0 → 3 ≤ x.ks.length := fun h => by
    rcases f2 with g | g
    · simp [h] at g
    · exact g
   split at e
   · rename_i hi
     simp only [Option.some.injEq, Prod.mk.injEq] at e
     obtain ⟨rfl, rfl, rfl⟩ := e
     have hv : x.vs.length = x.ks.length := by
      rcases f4 with g | g
      · exact g.2
      · exact absurd hi g.1
     refine ⟨by simp [cntN, cntL], by omega, ?_, ⟨rfl, hv, f3, by simp⟩, f1, fun h => ⟨hsz h, f1⟩, by omega⟩
     rw [qhF hx]
     obtain ⟨a, b, c⟩ := x
     simp only at hi
     subst hi
     simp [part, listN, listL, idxL]
   · rename_i hi
     split at e <;> try (cases e; done)
     rename_i size d kids hk
     simp only [Option.some.injEq, Prod.mk.injEq] at e
     obtain ⟨rfl, rfl, rfl⟩ := e
     obtain ⟨g0, g1, g2, g3⟩ : x.idx ≠ [] ∧ x.vs = [] ∧ x.idx.length = x.ks.length + 1 ∧ 2 ≤ x.idx.length := by
      rcases f4 with g | g
      · exact absurd g.1 hi
      · exact g
     obtain ⟨hK, hI⟩ := qiz (qj0 f) (p := p) (kids := []) (i := 0) ⟨by simp [cntL], by omega, by simp [cntL, part, listL], .inl rfl, by simp⟩ rfl hk
     simp only [idxL, List.nil_append] at hI
     have hlen : kids.length = x.ks.length + 1 := by rw [← g2, hI, qhV]
     refine ⟨by rw [cntN]; exact hK.cnt, hK.le, ?_, ⟨rfl, qlk hlen (fun j m hj => ?_) (by simp) f3, fun m hm => ?_⟩, f1, fun h => ⟨hsz h, f1⟩, fun _ e => ?_⟩
     · rw [hK.cnt, Nat.add_comm, qhF hx, hK.part]
       obtain ⟨a, b, c⟩ := x
       simp only at g1 hI
       subst g1 hI
       rw [listN]
     · obtain ⟨_, d', h1, h2⟩ := hK.ok j m hj
       cases h1; exact h2
     · obtain ⟨j, hj, rfl⟩ := List.mem_iff_getElem.1 hm
       exact (hK.ok j _ (List.getElem?_eq_getElem hj)).1
     · simp only [Nd.ks_mk] at e
       rw [e] at g2; simp at g2; omega
theorem qjE {N : List NodeR} {rec : Nat → Option (Nat × Nat × Nd)} {h : Nat} (hrec : ∀ p lo hi nd, okN h lo hi nd → sz nd → p ≠ 0 → p + cntN nd ≤ N.length → part N p (cntN nd) = listN p nd → rec p = some (cntN nd, h, nd)) {p : Nat} {ks : List Int} :
 ∀ (r : List Nd) (i size : Nat) (deep : Option Nat) (kids : List Nd), 1 ≤ size → p + size + cntL r ≤ N.length → part N (p + size) (cntL r) = listL (p + size) r → (deep = none ∨ deep = some h) →
   (∀ (j : Nat) n, r[j]? = some n → sz n ∧ okN h (loK none ks (i + j)) (hiK none ks (i + j)) n) →
   rdKids N rec p ks i (idxL (p + size) r) size deep kids = some (size + cntL r, (if r = [] then deep else some h), kids ++ r)
 | [], i, size, deep, kids, _, _, _, _, _ => by simp [rdKids, idxL, cntL]
 | m :: r, i, size, deep, kids, h1, h2, h3, h4, h5 => by
   obtain ⟨g1, g2⟩ := h5 0 m rfl
   rw [cntL] at h2
   rw [cntL, listL] at h3
   obtain ⟨p1, p2⟩ := qkc h3 (qdO _ _)
   simp only [idxL, rdKids, if_true, hrec (p + size) _ _ m g2 g1 (by omega) (by omega) p1]
   rw [if_pos]
   · have := qjE hrec (p := p) (ks := ks) r (i + 1) (size + cntN m) (some h) (kids ++ [m]) (by omega) (by omega) (by rw [← Nat.add_assoc]; exact p2) (.inr rfl) fun j n hj => by
      have := h5 (j + 1) n (by simpa using hj)
      rwa [show i + (j + 1) = i + 1 + j by omega] at this
     rw [← Nat.add_assoc] at this
     rw [this, cntL]
     simp [Nat.add_assoc]
   · refine ⟨h4, fun x hx k hk => ?_⟩
     rw [p1] at hx
     have : k ∈ keysN m := by rw [← qgA (p + size) m]; exact List.mem_flatMap.2 ⟨x, hx, hk⟩
     simpa using okN_inK _ _ _ _ g2 k this
theorem rd_full {N : List NodeR} : ∀ (h f p : Nat) (lo hi : Option Int) (nd : Nd), h < f → okN h lo hi nd → nd.ks.length ≤ 7 → (p ≠ 0 → sz nd) → (0 < h → nd.ks ≠ []) → p + cntN nd ≤ N.length → part N p (cntN nd) = listN p nd → rd f N p = some (cntN nd, h, nd)
 | 0, f + 1, p, lo, hi, .mk ks vs kids, _, hn, h7, hs, hne, hl, hp => by
   obtain ⟨rfl, e2, e3, e4⟩ := hn
   rw [listN] at hp
   obtain ⟨hx, _⟩ := qhE hp
   have hf : formP ⟨ks, vs, idxL (p + 1) []⟩ (decide (p = 0)) := ⟨h7, by
    by_cases h0 : p = 0
    · simp [h0]
    · exact .inr (hs h0).1, e3, .inl ⟨rfl, e2⟩⟩
   simp only [rd, hx, if_pos hf]
   simp [idxL, cntN, cntL]
 | h + 1, f + 1, p, lo, hi, .mk ks vs kids, hhf, hn, h7, hs, hne, hl, hp => by
   have hok := hn
   obtain ⟨rfl, c1, c2⟩ := hn
   have hks := (qdy c1).1
   have hkl := qbb c1
   rw [listN] at hp
   rw [cntN] at hl hp
   obtain ⟨hx, ht⟩ := qhE hp
   simp only [Nd.ks_mk] at hne
   have hne := hne (by omega)
   have hpos : 0 < ks.length := List.length_pos_iff.2 hne
   have hile : (idxL (p + 1) kids).length = ks.length + 1 := by rw [qhV, hkl]
   have hf : formP ⟨ks, [], idxL (p + 1) kids⟩ (decide (p = 0)) := ⟨h7, by
    by_cases h0 : p = 0
    · simp [h0]
    · exact .inr (hs h0).1, hks, .inr ⟨fun e => by simp only at e; rw [e] at hile; simp at hile, rfl, hile, by simp only; omega⟩⟩
   simp only [rd, hx, if_pos hf]
   rw [if_neg (by intro e; rw [e] at hile; simp at hile)]
   have := qjE (N := N) (rec := rd f N) (h := h) (fun q lo' hi' nd' g1 g2 g3 g4 g5 => rd_full h f q lo' hi' nd' (by omega) g1 g2.2 (fun _ => g2) (fun _ e => by have := g2.1; rw [e] at this; simp at this) g4 g5)
    (p := p) (ks := ks) kids 0 1 none [] (by omega) (by omega) (by rw [show 1 + cntL kids - 1 = cntL kids by omega] at ht; exact ht) (.inl rfl) fun j n hj => by
     rw [Nat.zero_add]
     have h1 := qlj c1 j n hj
     refine ⟨c2 n (List.mem_of_getElem? hj), qih _ _ _ _ _ _ h1 fun k hk => ?_⟩
     have h2 := okN_inK _ _ _ _ h1 k hk
     refine ⟨?_, ?_⟩
     · cases j with
       | zero => simp [loK]
       | succ j => exact h2.1
     · have h3 := h2.2
       unfold hiK at h3 ⊢
       split
       · rename_i g; rwa [if_pos g] at h3
       · simp
   rw [this]
   have hkn : kids ≠ [] := fun e => by rw [e] at hkl; simp at hkl
   simp [hkn, cntN]
end Go.Ab.T
namespace Go.Ab.T
open Classical
structure RS where
 nxt : Nat
 dep : Int
 cnt : Nat
 bad : Bool
abbrev RecT := Int → Option Int → Option Int → RS → RS × Nd
noncomputable def rnKids (rec : RecT) (lo hi : Option Int) (ks : List Int) : Nat → List Int → RS → List Nd → RS × List Nd
 | _, [], s, kids => (s, kids)
 | j, m :: r, s, kids => rnKids rec lo hi ks (j + 1) r (rec m (loK lo ks j) (hiK hi ks j) s).1 (kids ++ [(rec m (loK lo ks j) (hiK hi ks j) s).2])
def RS.fail (s : RS) : RS × Nd := ({ s with bad := true }, .mk [] [] [])
noncomputable def rnLeaf (x : NodeR) (depth : Int) (s : RS) : RS :=
 let d := if s.dep < 0 then depth else s.dep
 { s with dep := d, bad := s.bad || decide (d ≠ depth), cnt := s.cnt + x.ks.length }
noncomputable def rnIn (x : NodeR) (lo hi : Option Int) (s : RS) : RS := { s with nxt := s.nxt + 1, bad := !decide (inK lo hi x.ks) }
noncomputable def rn : Nat → List NodeR → Int → Int → Option Int → Option Int → RS → RS × Nd
 | 0, _, _, _, _, _, s => s.fail
 | f + 1, N, i, depth, lo, hi, s =>
   if s.bad = true ∨ i ≠ s.nxt then s.fail else
   match N[s.nxt]? with
   | none => s.fail
   | some x =>
     if formP x (decide (i = 0)) then
      if x.idx = [] then (rnLeaf x depth (rnIn x lo hi s), .mk x.ks x.vs [])
      else ((rnKids (rn f N · (depth + 1)) lo hi x.ks 0 x.idx (rnIn x lo hi s) []).1, .mk x.ks x.vs (rnKids (rn f N · (depth + 1)) lo hi x.ks 0 x.idx (rnIn x lo hi s) []).2)
     else s.fail
theorem qk6 {rec : RecT} (hrec : ∀ i lo hi s, s.bad = true → (rec i lo hi s).1.bad = true) {lo hi : Option Int} {ks : List Int} :
 ∀ (r : List Int) (j : Nat) (s : RS) (kids : List Nd), s.bad = true → (rnKids rec lo hi ks j r s kids).1.bad = true
 | [], _, _, _, h => h
 | m :: r, j, s, kids, h => qk6 hrec r _ _ _ (hrec _ _ _ _ h)
theorem rn_bad (N : List NodeR) : ∀ (f : Nat) (i depth : Int) (lo hi : Option Int) (s : RS), s.bad = true → (rn f N i depth lo hi s).1.bad = true
 | 0, _, _, _, _, _, _ => rfl
 | f + 1, i, depth, lo, hi, s, h => by simp [rn, h, RS.fail]
structure RnAt (N : List NodeR) (i depth : Int) (lo hi : Option Int) (s s' : RS) (nd : Nd) : Prop where
 bad : s.bad = false
 at' : i = s.nxt
 get : ∃ h : Nat, ReadAt N s.nxt (cntN nd) h lo hi nd ∧ s'.dep = depth + h ∧ (s.dep < 0 ∨ s.dep = depth + h)
 nxt : s'.nxt = s.nxt + cntN nd
 cnt : s'.cnt = s.cnt + (flat nd).length
structure RkAt (N : List NodeR) (depth : Int) (lo hi : Option Int) (ks : List Int) (s s' : RS) (old new : List Nd) : Prop where
 bad : s.bad = false
 ex : ∃ more, new = old ++ more ∧ part N s.nxt (cntL more) = listL s.nxt more ∧ s'.nxt = s.nxt + cntL more ∧ s'.cnt = s.cnt + (flats more).length ∧ (more = [] → s' = s) ∧
  (more ≠ [] → ∃ h : Nat, s'.dep = depth + h ∧ (s.dep < 0 ∨ s.dep = depth + h) ∧ ∀ (j : Nat) n, more[j]? = some n → sz n ∧ okN h (loK lo ks (old.length + j)) (hiK hi ks (old.length + j)) n)
theorem qiu {N : List NodeR} {rec : RecT} {depth : Int} (hd : 0 ≤ depth) (hbad : ∀ i lo hi s, s.bad = true → (rec i lo hi s).1.bad = true)
 (hrec : ∀ i lo hi s, (rec i lo hi s).1.bad = false → RnAt N i depth lo hi s (rec i lo hi s).1 (rec i lo hi s).2) {lo hi : Option Int} {ks : List Int} :
 ∀ (r : List Int) (j : Nat) (s : RS) (kids : List Nd), j = kids.length → 1 ≤ s.nxt → (rnKids rec lo hi ks j r s kids).1.bad = false →
   RkAt N depth lo hi ks s (rnKids rec lo hi ks j r s kids).1 kids (rnKids rec lo hi ks j r s kids).2 ∧
   ∃ more, (rnKids rec lo hi ks j r s kids).2 = kids ++ more ∧ r = idxL s.nxt more ∧ (s.nxt ≤ N.length → (rnKids rec lo hi ks j r s kids).1.nxt ≤ N.length)
 | [], j, s, kids, hj, h1, hb => ⟨⟨hb, [], by simp [rnKids], by simp [cntL, part, listL], by simp [rnKids, cntL], by simp [rnKids, flats], fun _ => rfl, fun h => absurd rfl h⟩, [], by simp [rnKids], rfl, fun h => h⟩
 | m :: r, j, s, kids, hj, h1, hb => by
   simp only [rnKids] at hb ⊢
   have hb1 : (rec m (loK lo ks j) (hiK hi ks j) s).1.bad = false := by
    cases h : (rec m (loK lo ks j) (hiK hi ks j) s).1.bad with
    | false => rfl
    | true => rw [qk6 hbad r _ _ _ h] at hb; exact absurd hb (by simp)
   have hA := hrec _ _ _ _ hb1
   generalize rec m (loK lo ks j) (hiK hi ks j) s = q at *
   obtain ⟨s1, nd⟩ := q
   simp only at hA hb hb1 ⊢
   have e1 := hA.nxt
   obtain ⟨h, hR, d1, d2⟩ := hA.get
   have hsz := hR.size (by omega)
   obtain ⟨g1, more, g2, g3, g4⟩ := qiu hd hbad hrec r (j + 1) s1 (kids ++ [nd]) (by simp [hj]) (by omega) hb
   obtain ⟨_, more', k1, k2, k3, k4, k5, k6⟩ := g1
   have hmm : more' = more := List.append_cancel_left (k1.symm.trans g2)
   subst hmm
   refine ⟨⟨hA.bad, nd :: more', by rw [k1]; simp, ?_, by rw [k3, e1, cntL]; omega, by rw [k4, hA.cnt, flats, List.length_append]; omega, fun e => by simp at e, fun _ => ⟨h, ?_⟩⟩, nd :: more', by rw [g2]; simp, ?_, fun hl => g4 (by have := hR.le; omega)⟩
   · rw [cntL, qkW, listL, hR.part, ← e1, k2]
   · by_cases hm : more' = []
     · rw [k5 hm]
       refine ⟨d1, d2, fun i n hi => ?_⟩
       subst hm
       cases i with
       | zero => simp at hi; subst hi; rw [Nat.add_zero, ← hj]; exact ⟨hsz, hR.ok⟩
       | succ i => simp at hi
     · obtain ⟨h', c1, c2, c3⟩ := k6 hm
       have hh : h' = h := by rcases c2 with c2 | c2 <;> omega
       subst hh
       refine ⟨c1, d2, fun i n hi => ?_⟩
       cases i with
       | zero => simp at hi; subst hi; rw [Nat.add_zero, ← hj]; exact ⟨hsz, hR.ok⟩
       | succ i =>
         have := c3 i n (by simpa using hi)
         rw [List.length_append, List.length_singleton] at this
         rwa [show kids.length + (i + 1) = kids.length + 1 + i by omega]
   · rw [idxL, ← e1, ← g3, hA.at']
theorem qn7 {N : List NodeR} : ∀ (f : Nat) (i depth : Int) (lo hi : Option Int) (s : RS), 0 ≤ depth → (rn f N i depth lo hi s).1.bad = false → RnAt N i depth lo hi s (rn f N i depth lo hi s).1 (rn f N i depth lo hi s).2
 | 0, _, _, _, _, _, _, hb => by simp [rn, RS.fail] at hb
 | f + 1, i, depth, lo, hi, s, hd, hb => by
   simp only [rn] at hb ⊢
   split at hb
   · simp [RS.fail] at hb
   rename_i h0
   obtain ⟨hb0, hi0⟩ : s.bad = false ∧ i = s.nxt := ⟨by cases h : s.bad <;> simp [h] at h0 ⊢, Classical.byContradiction fun h => h0 (.inr h)⟩
   rw [if_neg h0]
   split at hb
   · simp [RS.fail] at hb
   rename_i x hx
   have hp : s.nxt < N.length := (List.getElem?_eq_some_iff.1 hx).1
   split at hb <;> try (simp [RS.fail] at hb; done)
   rename_i hf
   rw [if_pos hf]
   obtain ⟨f1, f2, f3, f4⟩ := hf
   have hsz : s.nxt ≠ 0 → 3 ≤ x.ks.length := fun h => by
    rcases f2 with g | g
    · simp only [decide_eq_true_eq] at g; omega
    · exact g
   split at hb
   · rename_i hidx
     rw [if_pos hidx]
     have hv : x.vs.length = x.ks.length := by
      rcases f4 with g | g
      · exact g.2
      · exact absurd hidx g.1
     have hb1 : decide (inK lo hi x.ks) = true ∧ (if s.dep < 0 then depth else s.dep) = depth := by
      simp only [rnLeaf, rnIn, Bool.or_eq_false_iff, Bool.not_eq_false', decide_eq_false_iff_not] at hb
      exact ⟨hb.1, Classical.not_not.1 (of_decide_eq_false hb.2)⟩
     refine ⟨hb0, hi0, ⟨0, ⟨rfl, by simp [cntN, cntL]; omega, ?_, ⟨rfl, hv, f3, fun k hk => (of_decide_eq_true hb1.1) k hk⟩, f1, fun h => ⟨hsz h, f1⟩, by omega⟩, ?_, ?_⟩, by simp [rnLeaf, rnIn, cntN, cntL], by simp [rnLeaf, rnIn, T.flat, flats, hv]⟩
     · obtain ⟨a, b, c⟩ := x
       simp only at hidx
       subst hidx
       rw [cntN, cntL, qhF hx]
       simp [part, listN, listL, idxL]
     · have e : (rnLeaf x depth (rnIn x lo hi s)).dep = (if s.dep < 0 then depth else s.dep) := rfl
       rw [e, hb1.2]; simp
     · by_cases hneg : s.dep < 0
       · exact .inl hneg
       · rw [if_neg hneg] at hb1; right; simp [hb1.2]
   · rename_i hidx
     rw [if_neg hidx]
     obtain ⟨g0, g1, g2, g3⟩ : x.idx ≠ [] ∧ x.vs = [] ∧ x.idx.length = x.ks.length + 1 ∧ 2 ≤ x.idx.length := by
      rcases f4 with g | g
      · exact absurd g.1 hidx
      · exact g
     obtain ⟨hK, more, m1, m2, m3⟩ := qiu (N := N) (depth := depth + 1) (rec := (rn f N · (depth + 1))) (by omega) (fun i lo hi s h => rn_bad N f i _ lo hi s h) (fun i lo hi s h => qn7 f i (depth + 1) lo hi s (by omega) h) x.idx 0 (rnIn x lo hi s) [] rfl (by simp [rnIn]) hb
     simp only at hb ⊢
     generalize rnKids (rn f N · (depth + 1)) lo hi x.ks 0 x.idx (rnIn x lo hi s) [] = q at *
     obtain ⟨s', kids⟩ := q
     simp only [List.nil_append] at hb hK m1 m2 m3 ⊢
     subst m1
     obtain ⟨hb1, more, k1, k2, k3, k4, k5, k6⟩ := hK
     simp only [List.nil_append] at k1
     subst k1
     have hin : inK lo hi x.ks := by simpa [rnIn] using hb1
     have hlen : kids.length = x.ks.length + 1 := by rw [← g2, m2, qhV]
     have hkn : kids ≠ [] := fun e => by rw [e] at hlen; simp at hlen
     obtain ⟨h, c1, c2, c3⟩ := k6 hkn
     have hnx : (rnIn x lo hi s).nxt = s.nxt + 1 := rfl
     have hsl : ∀ k ∈ x.ks, sl lo k ∧ ub hi k := fun k hk => by
      refine ⟨?_, (hin k hk).2⟩
      obtain ⟨j, hj, rfl⟩ := List.mem_iff_getElem.1 hk
      cases hk0 : kids with
      | nil => exact absurd hk0 hkn
      | cons n r =>
        obtain ⟨h1, h2⟩ := c3 0 n (by rw [hk0]; rfl)
        obtain ⟨y, hy⟩ := List.exists_mem_of_ne_nil _ (keys_ne h1)
        obtain ⟨g1, g2⟩ := okN_inK _ _ _ _ h2 y hy
        simp only [List.length_nil, Nat.zero_add, loK] at g1
        have : y < x.ks[0] := by simpa [hiK, show 0 < x.ks.length by omega] using g2
        have h0 : x.ks[0] ≤ x.ks[j] := by
         by_cases hz : j = 0
         · subst hz; exact Int.le_refl _
         · exact Int.le_of_lt (List.pairwise_iff_getElem.1 f3 0 j (by omega) hj (by omega))
        exact g1.lt (by omega)
     refine ⟨hb0, hi0, ⟨h + 1, ⟨rfl, ?_, ?_, ⟨g1, qlk hlen (fun j n hj => ?_) hsl f3, fun n hn => ?_⟩, f1, fun hh => ⟨hsz hh, f1⟩, fun _ e => ?_⟩, by rw [c1]; push_cast; omega, ?_⟩, by rw [cntN, k3, hnx]; omega, ?_⟩
     · have := m3 (by rw [hnx]; omega)
       rw [cntN]; rw [k3, hnx] at this; omega
     · rw [cntN, Nat.add_comm 1, qhF hx, ← hnx, k2, hnx]
       obtain ⟨a, b, c⟩ := x
       simp only at g1 m2
       subst g1
       rw [listN, m2, hnx]
     · have := (c3 j n hj).2
       simpa using this
     · obtain ⟨j, hj, rfl⟩ := List.mem_iff_getElem.1 hn
       exact (c3 j _ (List.getElem?_eq_getElem hj)).1
     · simp only [Nd.ks_mk] at e
       rw [e] at g2; simp at g2; omega
     · rcases c2 with c2 | c2
       · exact .inl c2
       · right; have : s.dep = depth + 1 + h := c2
         push_cast; omega
     · rw [k4, T.flat]
       simp [rnIn, g1]
theorem qjk {N : List NodeR} {rec : RecT} {depth : Int} {h : Nat} (hd : 0 ≤ depth)
 (hrec : ∀ lo hi nd s, okN h lo hi nd → sz nd → s.nxt ≠ 0 → s.bad = false → (s.dep < 0 ∨ s.dep = depth + h) → s.nxt + cntN nd ≤ N.length → part N s.nxt (cntN nd) = listN s.nxt nd → rec s.nxt lo hi s = (⟨s.nxt + cntN nd, depth + h, s.cnt + (flat nd).length, false⟩, nd)) {lo hi : Option Int} {ks : List Int} :
 ∀ (r : List Nd) (j : Nat) (s : RS) (kids : List Nd), s.nxt ≠ 0 → s.bad = false → (s.dep < 0 ∨ s.dep = depth + h) → s.nxt + cntL r ≤ N.length → part N s.nxt (cntL r) = listL s.nxt r →
   (∀ (i : Nat) n, r[i]? = some n → sz n ∧ okN h (loK lo ks (j + i)) (hiK hi ks (j + i)) n) →
   rnKids rec lo hi ks j (idxL s.nxt r) s kids = (⟨s.nxt + cntL r, if r = [] then s.dep else depth + h, s.cnt + (flats r).length, false⟩, kids ++ r)
 | [], j, s, kids, h1, h2, h3, _, _, _ => by
   obtain ⟨a, b, c, d⟩ := s
   simp only at h2
   subst h2
   simp [rnKids, idxL, cntL, flats]
 | m :: r, j, s, kids, h1, h2, h3, h4, h5, h6 => by
   obtain ⟨g1, g2⟩ := h6 0 m rfl
   rw [cntL] at h4
   rw [cntL, listL] at h5
   obtain ⟨p1, p2⟩ := qkc h5 (qdO _ _)
   rw [Nat.add_zero] at g2
   simp only [idxL, rnKids, hrec _ _ m s g2 g1 h1 h2 h3 (by omega) p1]
   have := qjk hd hrec (lo := lo) (hi := hi) (ks := ks) r (j + 1) ⟨s.nxt + cntN m, depth + h, s.cnt + (flat m).length, false⟩ (kids ++ [m]) (by simp only; omega) rfl (.inr rfl) (by simp only; omega) p2 fun i n hi => by
    have := h6 (i + 1) n (by simpa using hi)
    rwa [show j + (i + 1) = j + 1 + i by omega] at this
   simp only at this
   rw [this, cntL, flats]
   simp [Nat.add_assoc]
theorem rn_full {N : List NodeR} : ∀ (h f : Nat) (depth : Int) (lo hi : Option Int) (nd : Nd) (s : RS), h < f → 0 ≤ depth → okN h lo hi nd → nd.ks.length ≤ 7 → (s.nxt ≠ 0 → sz nd) → (0 < h → nd.ks ≠ []) → s.bad = false → (s.dep < 0 ∨ s.dep = depth + h) →
 s.nxt + cntN nd ≤ N.length → part N s.nxt (cntN nd) = listN s.nxt nd → rn f N s.nxt depth lo hi s = (⟨s.nxt + cntN nd, depth + h, s.cnt + (flat nd).length, false⟩, nd)
 | 0, f + 1, depth, lo, hi, .mk ks vs kids, s, _, hd, hn, h7, hs, hne, hb, hdep, hl, hp => by
   obtain ⟨rfl, e2, e3, e4⟩ := hn
   rw [listN] at hp
   obtain ⟨hx, _⟩ := qhE hp
   have hf : formP ⟨ks, vs, idxL (s.nxt + 1) []⟩ (decide ((s.nxt : Int) = 0)) := ⟨h7, by
    by_cases h0 : s.nxt = 0
    · simp [h0]
    · exact .inr (hs h0).1, e3, .inl ⟨rfl, e2⟩⟩
   have hc : ¬ (s.bad = true ∨ ((s.nxt : Nat) : Int) ≠ s.nxt) := by simp [hb]
   have hin : inK lo hi ks := fun k hk => e4 k hk
   simp only [rn, if_neg hc, hx, if_pos hf]
   simp only [idxL, if_true, rnLeaf, rnIn, hin, decide_true, Bool.not_true, Bool.false_or, cntN, cntL, T.flat, flats, List.append_nil, List.length_zip, e2, Nat.min_self]
   congr 2
   · by_cases hneg : s.dep < 0
     · simp [hneg]
     · rw [if_neg hneg]; rcases hdep with g | g
       · exact absurd g hneg
       · exact g
   · by_cases hneg : s.dep < 0
     · simp [hneg]
     · rw [if_neg hneg]; rcases hdep with g | g
       · exact absurd g hneg
       · simp [g]
 | h + 1, f + 1, depth, lo, hi, .mk ks vs kids, s, hhf, hd, hn, h7, hs, hne, hb, hdep, hl, hp => by
   have hok := hn
   obtain ⟨rfl, c1, c2⟩ := hn
   have hks := (qdy c1).1
   have hkl := qbb c1
   rw [listN] at hp
   rw [cntN] at hl hp
   obtain ⟨hx, ht⟩ := qhE hp
   simp only [Nd.ks_mk] at hne
   have hne := hne (by omega)
   have hpos : 0 < ks.length := List.length_pos_iff.2 hne
   have hile : (idxL (s.nxt + 1) kids).length = ks.length + 1 := by rw [qhV, hkl]
   have hf : formP ⟨ks, [], idxL (s.nxt + 1) kids⟩ (decide ((s.nxt : Int) = 0)) := ⟨h7, by
    by_cases h0 : s.nxt = 0
    · simp [h0]
    · exact .inr (hs h0).1, hks, .inr ⟨fun e => by simp only at e; rw [e] at hile; simp at hile, rfl, hile, by simp only; omega⟩⟩
   have hc : ¬ (s.bad = true ∨ ((s.nxt : Nat) : Int) ≠ s.nxt) := by simp [hb]
   have hin : inK lo hi ks := fun k hk => ⟨((qdy c1).2 k hk).1.lb, ((qdy c1).2 k hk).2⟩
   have hnx : (rnIn ⟨ks, [], idxL (s.nxt + 1) kids⟩ lo hi s) = ⟨s.nxt + 1, s.dep, s.cnt, false⟩ := by simp [rnIn, hin]
   simp only [rn, if_neg hc, hx, if_pos hf]
   rw [if_neg (by intro e; rw [e] at hile; simp at hile)]
   have := qjk (N := N) (rec := (rn f N · (depth + 1))) (depth := depth + 1) (h := h) (by omega) (fun lo' hi' nd' s' g1 g2 g3 g4 g5 g6 g7 => rn_full h f (depth + 1) lo' hi' nd' s' (by omega) (by omega) g1 g2.2 (fun _ => g2) (fun _ e => by have := g2.1; rw [e] at this; simp at this) g4 g5 g6 g7)
    (lo := lo) (hi := hi) (ks := ks) kids 0 ⟨s.nxt + 1, s.dep, s.cnt, false⟩ [] (by simp) rfl (by simp only; rcases hdep with g | g; exact .inl g; right; rw [g]; push_cast; omega) (by simp only; omega) (by simp only; rw [show 1 + cntL kids - 1 = cntL kids by omega] at ht; exact ht) fun j n hj => by
     rw [Nat.zero_add]
     exact ⟨c2 n (List.mem_of_getElem? hj), qlj c1 j n hj⟩
   simp only at this
   rw [hnx, this]
   have hkn : kids ≠ [] := fun e => by rw [e] at hkl; simp at hkl
   simp only [hkn, if_false, List.nil_append, cntN, T.flat, List.zip_nil_right]
   congr 2
   · omega
   · push_cast; omega
end Go.Ab.T
namespace Go.Ab.T
open Go Go.Ab Go.Ab.F
open Classical
theorem qlx {ks : List Int} (h : ∀ (i : Nat) (hi : i + 1 < ks.length), ks[i] < ks[i + 1]) : ks.Pairwise (· < ·) := by
 refine List.pairwise_iff_getElem.2 fun i j hi hj hij => ?_
 induction j with
 | zero => omega
 | succ j ih =>
   by_cases e : i = j
   · subst e; exact h i hj
   · exact Int.lt_trans (ih (by omega) (by omega)) (h j hj)
theorem qlw {ks : List Int} (h : ks.Pairwise (· < ·)) (i : Nat) (hi : i + 1 < ks.length) : ks[i] < ks[i + 1] := List.pairwise_iff_getElem.1 h i (i + 1) (by omega) hi (by omega)
theorem idx_key {l : List Int} {i : Nat} (h : i < l.length) {β : Type} (k : A → Option β) : oIdxA 1 (mkF 1 (l.map (cellC .u64))) (.s (.int .i64 i)) k = k (.cptr (cellC .u64 l[i])) := qbE 1 (cellC .u64) l .i64 _ _ k (List.getElem?_eq_getElem h)
theorem qhU {N : List NodeR} {i : Nat} {x : NodeR} (h : N[i]? = some x) {β : Type} (k : A → Option β) : oIdxA 3 (mkF 3 (N.map nodeRC)) (.s (.int .i64 i)) k = k (.cptr (nodeRC x)) := qbE 3 nodeRC N .i64 _ _ k h
theorem pure_ks (l : List Int) : qay (l.map (cellC .u64)) = true := qaq _ (fun x => by simp [cellC]) _
theorem qd4 (N : List NodeR) : qay (N.map nodeRC) = true := qaq _ (fun x => qgZ x) _
section
variable (x : NodeR)
abbrev fBox : Heap := [.live ⟨0, 3, [nodeRC x]⟩]
theorem form_loop (h7 : x.ks.length ≤ 7) :
 ∃ q, ((x.ks.Pairwise (· < ·) ∧ q = (Ex.exit 0, [.any], fBox x)) ∨ (¬ x.ks.Pairwise (· < ·) ∧ q = (Ex.ret, [.s (.bool false)], fBox x))) ∧
   ∀ {β : Type} (k : Ex → List A → Heap → Option β), oLoop (qd1 (.ptr 0 0 0 0) (fBox x)) ([.s (.int .i64 1)], fBox x) k = k q.1 q.2.1 q.2.2 := by
 obtain ⟨q, hq, h⟩ := qb6 (step := qd1 (.ptr 0 0 0 0) (fBox x)) (s0 := ([.s (.int .i64 1)], fBox x))
  (fun i s => s = ([.s (.int .i64 (i + 1 : Nat))], fBox x) ∧ ∀ (j : Nat) (hj : j + 1 < x.ks.length), j < i → x.ks[j] < x.ks[j + 1])
  (fun q => (x.ks.Pairwise (· < ·) ∧ q = (Ex.exit 0, [.any], fBox x)) ∨ (¬ x.ks.Pairwise (· < ·) ∧ q = (Ex.ret, [.s (.bool false)], fBox x))) (x.ks.length - 1) ⟨rfl, fun _ _ h => by omega⟩ (by omega)
  (by
   rintro i s hi ⟨rfl, hs⟩
   have hi1 : i + 1 < x.ks.length := by omega
   have w1 : IntKind.i64.wrap (((i + 1 : Nat) : Int) + 1) = ((i + 1 + 1 : Nat) : Int) := by rw [qad (by omega) (by omega)]; simp
   have w2 : IntKind.i64.wrap (((i + 1 : Nat) : Int) - 1) = (i : Int) := by rw [qad (by omega) (by omega)]; omega
   have ip := fun {β : Type} (k : A → Option β) => idx_key (l := x.ks) (i := i + 1) hi1 k
   have ip0 := fun {β : Type} (k : A → Option β) => idx_key (l := x.ks) (i := i) (by omega) k
   by_cases hlt : x.ks[i] < x.ks[i + 1]
   · left
     have hc : ¬ x.ks[i + 1] ≤ x.ks[i] := by omega
     refine ⟨_, ?_, rfl, fun j hj hji => ?_⟩
     · simp only [qd1, fBox, nodeRC]
       simp [ip, ip0, w1, w2, hc, hi1, oLoadD, trim, qa2, -Int.natCast_add]
     · by_cases e : j = i
       · subst e; exact hlt
       · exact hs j hj (by omega)
   · right
     have hc : x.ks[i + 1] ≤ x.ks[i] := by omega
     refine ⟨_, ?_, .inr ⟨fun h => hlt (qlw h i hi1), rfl⟩⟩
     simp only [qd1, fBox, nodeRC]
     simp [ip, ip0, w1, w2, hc, hi1, oLoadD, trim, qa2, -Int.natCast_add])
  (by
   rintro s ⟨rfl, hs⟩
   have hc : ¬ (((x.ks.length - 1 + 1 : Nat) : Int) < (x.ks.length : Int)) := by omega
   refine ⟨_, ?_, .inl ⟨qlx fun i hi => hs i hi (by omega), rfl⟩⟩
   simp only [qd1, fBox, nodeRC]
   simp [hc, trim, qa2, -Int.natCast_add])
 exact ⟨q, hq, h⟩
theorem form_v (root : Bool) : qd3 [.agg (nodeRC x), .s (.bool root)] [] = some (.ok (.s (.bool (decide (formP x root)))), []) := by
 by_cases h7 : x.ks.length ≤ 7
 · have c7 : ¬ (7 : Int) < (x.ks.length : Int) := by omega
   have hent : ∀ g : Bool, g = (!root && decide ((x.ks.length : Int) < 3)) → qd3 [.agg (nodeRC x), .s (.bool root)] [] = qd2 [] (.ptr 0 0 0 0) Ex.normal [.s (.bool g)] (fBox x) := by
    rintro g rfl
    simp only [qd3, nodeRC]
    cases root <;> simp [c7, trim, qa2, qa5] <;> rfl
   by_cases h3 : root = true ∨ 3 ≤ x.ks.length
   · have hg : (!root && decide ((x.ks.length : Int) < 3)) = false := by
      rcases h3 with h3 | h3
      · simp [h3]
      · have : ¬ ((x.ks.length : Int) < 3) := by omega
        simp [this]
     rw [hent false hg.symm]
     obtain ⟨q, hq, hloop⟩ := form_loop x h7
     have e1 : qd2 [] (.ptr 0 0 0 0) Ex.normal [.s (.bool false)] (fBox x) = qdL (.ptr 0 0 0 0) [] q.1 q.2.1 q.2.2 := by
      refine Eq.trans ?_ (hloop (qdL (.ptr 0 0 0 0) []))
      simp [qd2]
     rw [e1]
     rcases hq with ⟨hs, rfl⟩ | ⟨hs, rfl⟩
     · simp only [qdL, fBox, nodeRC]
       by_cases hidx : x.idx = []
       · have : formP x root ↔ (x.vs.length : Int) = x.ks.length := ⟨fun h => by
          rcases h.2.2.2 with g | g
          · exact_mod_cast g.2
          · exact absurd hidx g.1, fun h => ⟨h7, h3, hs, .inl ⟨hidx, by exact_mod_cast h⟩⟩⟩
         simp [hidx, qa9, this]
       · have hi0 : ¬ ((x.idx.length : Int) = 0) := by
          intro h; exact hidx (List.length_eq_zero_iff.1 (by exact_mod_cast h))
         have w1 : IntKind.i64.wrap ((x.ks.length : Int) + 1) = ((x.ks.length + 1 : Nat) : Int) := by rw [qad (by omega) (by omega)]; simp
         by_cases hv : x.vs = []
         · by_cases hl : x.idx.length = x.ks.length + 1
           · have : formP x root ↔ (1 : Int) < (x.idx.length : Int) := ⟨fun h => by
              rcases h.2.2.2 with g | g
              · exact absurd g.1 hidx
              · have := g.2.2.2; omega, fun h => ⟨h7, h3, hs, .inr ⟨hidx, hv, hl, by omega⟩⟩⟩
             simp [hi0, hv, w1, hl, qa9, this, -Int.natCast_add, hidx]
           · have hl' : ¬ ((x.idx.length : Int) = ((x.ks.length + 1 : Nat) : Int)) := by omega
             have : ¬ formP x root := fun h => by
              rcases h.2.2.2 with g | g
              · exact absurd g.1 hidx
              · exact hl g.2.2.1
             simp [hi0, hv, w1, hl', qa9, this, -Int.natCast_add, hidx]
         · have hv' : ¬ ((x.vs.length : Int) = 0) := by
            intro h; exact hv (List.length_eq_zero_iff.1 (by exact_mod_cast h))
           have : ¬ formP x root := fun h => by
            rcases h.2.2.2 with g | g
            · exact absurd g.1 hidx
            · exact hv g.2.1
           simp [hi0, hv', hv, qa9, this, hidx]
     · have : ¬ formP x root := fun h => hs h.2.2.1
       simp [qdL, qa9, this]
   · have hg : (!root && decide ((x.ks.length : Int) < 3)) = true := by
      have h1 : root = false := by cases root <;> simp_all
      have h2 : (x.ks.length : Int) < 3 := by have : ¬ 3 ≤ x.ks.length := fun h => h3 (.inr h); omega
      simp [h1, h2]
     rw [hent true hg.symm]
     have : ¬ formP x root := fun h => h3 h.2.1
     simp [qd2, qa9, this]
 · have c7 : (7 : Int) < (x.ks.length : Int) := by omega
   have : ¬ formP x root := fun h => h7 h.1
   simp only [qd3, nodeRC]
   simp [c7, trim, qa2, qa5, qd2, qa9, this]
theorem fits_loop (h7 : x.ks.length ≤ 7) :
 ∃ q, ((x.ks.Pairwise (· < ·) ∧ q = (Ex.exit 0, [.any], fBox x)) ∨ (¬ x.ks.Pairwise (· < ·) ∧ q = (Ex.ret, [.s (.bool false)], fBox x))) ∧
   ∀ {β : Type} (k : Ex → List A → Heap → Option β), oLoop (qbt (.ptr 0 0 0 0) (fBox x)) ([.s (.int .i64 1)], fBox x) k = k q.1 q.2.1 q.2.2 := by
 obtain ⟨q, hq, h⟩ := qb6 (step := qbt (.ptr 0 0 0 0) (fBox x)) (s0 := ([.s (.int .i64 1)], fBox x))
  (fun i s => s = ([.s (.int .i64 (i + 1 : Nat))], fBox x) ∧ ∀ (j : Nat) (hj : j + 1 < x.ks.length), j < i → x.ks[j] < x.ks[j + 1])
  (fun q => (x.ks.Pairwise (· < ·) ∧ q = (Ex.exit 0, [.any], fBox x)) ∨ (¬ x.ks.Pairwise (· < ·) ∧ q = (Ex.ret, [.s (.bool false)], fBox x))) (x.ks.length - 1) ⟨rfl, fun _ _ h => by omega⟩ (by omega)
  (by
   rintro i s hi ⟨rfl, hs⟩
   have hi1 : i + 1 < x.ks.length := by omega
   have w1 : IntKind.i64.wrap (((i + 1 : Nat) : Int) + 1) = ((i + 1 + 1 : Nat) : Int) := by rw [qad (by omega) (by omega)]; simp
   have w2 : IntKind.i64.wrap (((i + 1 : Nat) : Int) - 1) = (i : Int) := by rw [qad (by omega) (by omega)]; omega
   have ip := fun {β : Type} (k : A → Option β) => idx_key (l := x.ks) (i := i + 1) hi1 k
   have ip0 := fun {β : Type} (k : A → Option β) => idx_key (l := x.ks) (i := i) (by omega) k
   by_cases hlt : x.ks[i] < x.ks[i + 1]
   · left
     have hc : ¬ x.ks[i + 1] ≤ x.ks[i] := by omega
     refine ⟨_, ?_, rfl, fun j hj hji => ?_⟩
     · simp only [qbt, fBox, nodeRC]
       simp [ip, ip0, w1, w2, hc, hi1, oLoadD, trim, qa2, -Int.natCast_add]
     · by_cases e : j = i
       · subst e; exact hlt
       · exact hs j hj (by omega)
   · right
     have hc : x.ks[i + 1] ≤ x.ks[i] := by omega
     refine ⟨_, ?_, .inr ⟨fun h => hlt (qlw h i hi1), rfl⟩⟩
     simp only [qbt, fBox, nodeRC]
     simp [ip, ip0, w1, w2, hc, hi1, oLoadD, trim, qa2, -Int.natCast_add])
  (by
   rintro s ⟨rfl, hs⟩
   have hc : ¬ (((x.ks.length - 1 + 1 : Nat) : Int) < (x.ks.length : Int)) := by omega
   refine ⟨_, ?_, .inl ⟨qlx fun i hi => hs i hi (by omega), rfl⟩⟩
   simp only [qbt, fBox, nodeRC]
   simp [hc, trim, qa2, -Int.natCast_add])
 exact ⟨q, hq, h⟩
theorem fits_v (a0 : A) (root : Bool) : qbc [a0, .agg (nodeRC x), .s (.bool root)] [] = some (.ok (.s (.bool (decide (formP x root)))), []) := by
 by_cases h7 : x.ks.length ≤ 7
 · have c7 : ¬ (7 : Int) < (x.ks.length : Int) := by omega
   have hent : ∀ g : Bool, g = (!root && decide ((x.ks.length : Int) < 3)) → qbc [a0, .agg (nodeRC x), .s (.bool root)] [] = qbu [] (.ptr 0 0 0 0) Ex.normal [.s (.bool g)] (fBox x) := by
    rintro g rfl
    simp only [qbc, nodeRC]
    cases root <;> simp [c7, trim, qa2, qa5] <;> rfl
   by_cases h3 : root = true ∨ 3 ≤ x.ks.length
   · have hg : (!root && decide ((x.ks.length : Int) < 3)) = false := by
      rcases h3 with h3 | h3
      · simp [h3]
      · have : ¬ ((x.ks.length : Int) < 3) := by omega
        simp [this]
     rw [hent false hg.symm]
     obtain ⟨q, hq, hloop⟩ := fits_loop x h7
     have e1 : qbu [] (.ptr 0 0 0 0) Ex.normal [.s (.bool false)] (fBox x) = qbJ (.ptr 0 0 0 0) [] q.1 q.2.1 q.2.2 := by
      refine Eq.trans ?_ (hloop (qbJ (.ptr 0 0 0 0) []))
      simp [qbu]
     rw [e1]
     rcases hq with ⟨hs, rfl⟩ | ⟨hs, rfl⟩
     · simp only [qbJ, fBox, nodeRC]
       by_cases hidx : x.idx = []
       · have : formP x root ↔ (x.vs.length : Int) = x.ks.length := ⟨fun h => by
          rcases h.2.2.2 with g | g
          · exact_mod_cast g.2
          · exact absurd hidx g.1, fun h => ⟨h7, h3, hs, .inl ⟨hidx, by exact_mod_cast h⟩⟩⟩
         simp [hidx, qa9, this]
       · have hi0 : ¬ ((x.idx.length : Int) = 0) := by
          intro h; exact hidx (List.length_eq_zero_iff.1 (by exact_mod_cast h))
         have w1 : IntKind.i64.wrap ((x.ks.length : Int) + 1) = ((x.ks.length + 1 : Nat) : Int) := by rw [qad (by omega) (by omega)]; simp
         by_cases hv : x.vs = []
         · by_cases hl : x.idx.length = x.ks.length + 1
           · have : formP x root ↔ (2 : Int) ≤ (x.idx.length : Int) := ⟨fun h => by
              rcases h.2.2.2 with g | g
              · exact absurd g.1 hidx
              · have := g.2.2.2; omega, fun h => ⟨h7, h3, hs, .inr ⟨hidx, hv, hl, by omega⟩⟩⟩
             simp [hi0, hv, w1, hl, qa9, this, -Int.natCast_add, hidx]
           · have hl' : ¬ ((x.idx.length : Int) = ((x.ks.length + 1 : Nat) : Int)) := by omega
             have : ¬ formP x root := fun h => by
              rcases h.2.2.2 with g | g
              · exact absurd g.1 hidx
              · exact hl g.2.2.1
             simp [hi0, hv, w1, hl', qa9, this, -Int.natCast_add, hidx]
         · have hv' : ¬ ((x.vs.length : Int) = 0) := by
            intro h; exact hv (List.length_eq_zero_iff.1 (by exact_mod_cast h))
           have : ¬ formP x root := fun h => by
            rcases h.2.2.2 with g | g
            · exact absurd g.1 hidx
            · exact hv g.2.1
           simp [hi0, hv', hv, qa9, this, hidx]
     · have : ¬ formP x root := fun h => hs h.2.2.1
       simp [qbJ, qa9, this]
   · have hg : (!root && decide ((x.ks.length : Int) < 3)) = true := by
      have h1 : root = false := by cases root <;> simp_all
      have h2 : (x.ks.length : Int) < 3 := by have : ¬ 3 ≤ x.ks.length := fun h => h3 (.inr h); omega
      simp [h1, h2]
     rw [hent true hg.symm]
     have : ¬ formP x root := fun h => h3 h.2.1
     simp [qbu, qa9, this]
 · have c7 : (7 : Int) < (x.ks.length : Int) := by omega
   have : ¬ formP x root := fun h => h7 h.1
   simp only [qbc, nodeRC]
   simp [c7, trim, qa2, qa5, qbu, qa9, this]
end
theorem lo_bad {ks : List Int} {j : Nat} {k : Int} (hj : j ≤ ks.length) : lb (loK none ks j) k ↔ (j = 0 ∨ ∃ h : j - 1 < ks.length, ks[j - 1] ≤ k) := by
 cases j with
 | zero => simp [loK]
 | succ j =>
   have : j < ks.length := by omega
   simp [loK, this]
theorem hi_bad {ks : List Int} {j : Nat} {k : Int} : ub (hiK none ks j) k ↔ ∀ h : j < ks.length, k < ks[j] := by
 unfold hiK
 by_cases h : j < ks.length
 · simp [h]
 · simp [h]
theorem qmO {N : List NodeR} {x : NodeR} {ks : List Int} (hk : ks.length < 1000) {j : Nat} (hj : j ≤ ks.length) {i : Nat} (hi : i < x.ks.length) (hx : x.ks.length < 1000) :
 qaY (.s (.int .i64 x.ks.length)) (mkF 1 (x.ks.map (cellC .u64))) (.s (.int .i64 j)) (mkF 1 (ks.map (cellC .u64))) [] ([.s (.int .i64 i)], []) =
  if lb (loK none ks j) x.ks[i] ∧ ub (hiK none ks j) x.ks[i] then some (.inl ([.s (.int .i64 (i + 1 : Nat))], [])) else some (.inr (Ex.ret, [.s (.bool false)], [])) := by
 have w1 : IntKind.i64.wrap ((i : Int) + 1) = ((i + 1 : Nat) : Int) := by rw [qad (by omega) (by omega)]; simp
 have ip := fun {β : Type} (k : A → Option β) => idx_key (l := x.ks) (i := i) hi k
 have hi' : (i : Int) < x.ks.length := by omega
 rw [lo_bad hj, hi_bad]
 by_cases hjl : j < ks.length
 · have ip2 := fun {β : Type} (k : A → Option β) => idx_key (l := ks) (i := j) hjl k
   have hjl' : (j : Int) < ks.length := by omega
   by_cases h0 : j = 0
   · subst h0
     by_cases hc : x.ks[i] < ks[0]
     · have hc' : ¬ ks[0] ≤ x.ks[i] := by omega
       have ip3 : ∀ {β : Type} (k : A → Option β), oIdxA 1 (mkF 1 (ks.map (cellC .u64))) (.s (.int .i64 0)) k = k (.cptr (cellC .u64 ks[0])) := fun k => ip2 k
       simp [qaY, hi, ip, ip3, hjl, hc, hc', trim, qa2, qbo, w1, -Int.natCast_add]
     · have hc' : ks[0] ≤ x.ks[i] := by omega
       have ip3 : ∀ {β : Type} (k : A → Option β), oIdxA 1 (mkF 1 (ks.map (cellC .u64))) (.s (.int .i64 0)) k = k (.cptr (cellC .u64 ks[0])) := fun k => ip2 k
       simp [qaY, hi, ip, ip3, hjl, hc, hc', trim, qa2, qbo, w1, -Int.natCast_add]
   · obtain ⟨j, rfl⟩ : ∃ m, j = m + 1 := ⟨j - 1, by omega⟩
     have w2 : IntKind.i64.wrap (((j + 1 : Nat) : Int) - 1) = (j : Int) := by rw [qad (by omega) (by omega)]; omega
     have hp : (0 : Int) < ((j + 1 : Nat) : Int) := by omega
     have ip3 := fun {β : Type} (k : A → Option β) => idx_key (l := ks) (i := j) (by omega) k
     have hjj : j < ks.length := by omega
     by_cases hd : x.ks[i] < ks[j]
     · have hd' : ¬ ks[j] ≤ x.ks[i] := by omega
       simp [qaY, hi, ip, ip2, ip3, hjl, hp, w2, hd, hd', hjj, trim, qa2, qbo, w1, -Int.natCast_add]
     · have hd' : ks[j] ≤ x.ks[i] := by omega
       by_cases hc : x.ks[i] < ks[j + 1]
       · have hc' : ¬ ks[j + 1] ≤ x.ks[i] := by omega
         simp [qaY, hi, ip, ip2, ip3, hjl, hp, w2, hd, hd', hjj, hc, hc', trim, qa2, qbo, w1, -Int.natCast_add]
       · have hc' : ks[j + 1] ≤ x.ks[i] := by omega
         simp [qaY, hi, ip, ip2, ip3, hjl, hp, w2, hd, hd', hjj, hc, hc', trim, qa2, qbo, w1, -Int.natCast_add]
 · have hjl' : ¬ (j : Int) < ks.length := by omega
   by_cases h0 : j = 0
   · subst h0
     simp [qaY, hi, ip, hjl, trim, qa2, qbo, w1, -Int.natCast_add]
   · obtain ⟨j, rfl⟩ : ∃ m, j = m + 1 := ⟨j - 1, by omega⟩
     have w2 : IntKind.i64.wrap (((j + 1 : Nat) : Int) - 1) = (j : Int) := by rw [qad (by omega) (by omega)]; omega
     have hp : (0 : Int) < ((j + 1 : Nat) : Int) := by omega
     have ip3 := fun {β : Type} (k : A → Option β) => idx_key (l := ks) (i := j) (by omega) k
     have hjj : j < ks.length := by omega
     by_cases hd : x.ks[i] < ks[j]
     · have hd' : ¬ ks[j] ≤ x.ks[i] := by omega
       simp [qaY, hi, ip, ip3, hjl, hp, w2, hd, hd', hjj, trim, qa2, qbo, w1, -Int.natCast_add]
     · have hd' : ks[j] ≤ x.ks[i] := by omega
       simp [qaY, hi, ip, ip3, hjl, hp, w2, hd, hd', hjj, trim, qa2, qbo, w1, -Int.natCast_add]
theorem inside_v {N : List NodeR} {p : Nat} {x : NodeR} (hx : N[p]? = some x) (hl : x.ks.length < 1000) {ks : List Int} (hk : ks.length < 1000) {j : Nat} (hj : j ≤ ks.length) :
 qc6 [mkF 3 (N.map nodeRC), .s (.int .i64 p), .s (.int .i64 j), mkF 1 (ks.map (cellC .u64))] [] = some (.ok (.s (.bool (decide (inK (loK none ks j) (hiK none ks j) x.ks)))), []) := by
 obtain ⟨q, hq, h⟩ := qb6 (step := qaY (.s (.int .i64 x.ks.length)) (mkF 1 (x.ks.map (cellC .u64))) (.s (.int .i64 j)) (mkF 1 (ks.map (cellC .u64))) []) (s0 := ([.s (.int .i64 0)], []))
  (fun i s => s = ([.s (.int .i64 i)], []) ∧ ∀ (m : Nat) (hm : m < x.ks.length), m < i → lb (loK none ks j) x.ks[m] ∧ ub (hiK none ks j) x.ks[m])
  (fun q => (inK (loK none ks j) (hiK none ks j) x.ks ∧ q = (Ex.exit 0, [.any], [])) ∨ (¬ inK (loK none ks j) (hiK none ks j) x.ks ∧ q = (Ex.ret, [.s (.bool false)], []))) x.ks.length ⟨rfl, fun _ _ h => by omega⟩ (by omega)
  (by
   rintro i s hi ⟨rfl, hs⟩
   rw [qmO (N := N) hk hj hi hl]
   by_cases hc : lb (loK none ks j) x.ks[i] ∧ ub (hiK none ks j) x.ks[i]
   · left
     rw [if_pos hc]
     refine ⟨_, rfl, rfl, fun m hm hmi => ?_⟩
     by_cases e : m = i
     · subst e; exact hc
     · exact hs m hm (by omega)
   · right
     rw [if_neg hc]
     exact ⟨_, rfl, .inr ⟨fun h => hc (h _ (List.getElem_mem hi)), rfl⟩⟩)
  (by
   rintro s ⟨rfl, hs⟩
   refine ⟨_, ?_, .inl ⟨fun k hk => ?_, rfl⟩⟩
   · simp [qaY, trim, qa2]
   · obtain ⟨m, hm, rfl⟩ := List.mem_iff_getElem.1 hk
     exact hs m hm hm)
 have e1 : qc6 [mkF 3 (N.map nodeRC), .s (.int .i64 p), .s (.int .i64 j), mkF 1 (ks.map (cellC .u64))] [] = qcM [] q.1 q.2.1 q.2.2 := by
  refine Eq.trans ?_ (h (qcM []))
  simp [qc6, qhU hx, nodeRC]
 rw [e1]
 rcases hq with ⟨hs, rfl⟩ | ⟨hs, rfl⟩
 · simp [qcM, qa9, hs]
 · simp [qcM, qa9, hs]
end Go.Ab.T
namespace Go.Ab.T
open Go Go.Ab Go.Ab.F
open Classical
theorem qlW : ∀ (b : Nat) (l : List Nd) (x : NodeR), x ∈ listL b l → ∃ m ∈ l, ∃ b', x ∈ listN b' m
 | b, [], x, h => by simp [listL] at h
 | b, n :: l, x, h => by
   rw [listL, List.mem_append] at h
   rcases h with h | h
   · exact ⟨n, by simp, b, h⟩
   · obtain ⟨m, hm, b', hb⟩ := qlW _ l x h
     exact ⟨m, by simp [hm], b', hb⟩
theorem qni : ∀ (h : Nat) (lo hi : Option Int) (n : Nd), okN h lo hi n → n.ks.length ≤ 7 → ∀ b, ∀ x ∈ listN b n, x.ks.length ≤ 7
 | 0, lo, hi, .mk ks vs kids, hn, h7, b, x, hx => by
   obtain ⟨rfl, -, -, -⟩ := hn
   simp only [listN, listL, List.mem_singleton] at hx
   subst hx; exact h7
 | h + 1, lo, hi, .mk ks vs kids, hn, h7, b, x, hx => by
   obtain ⟨rfl, c1, c2⟩ := hn
   simp only [listN, List.mem_cons] at hx
   rcases hx with rfl | hx
   · exact h7
   · obtain ⟨m, hm, b', hb⟩ := qlW _ _ _ hx
     obtain ⟨lo', hi', hok⟩ := qbO c1 m hm
     exact qni h lo' hi' m hok (c2 m hm).2 b' x hb
theorem qno : ∀ (l : List Nd), (∀ m ∈ l, (T.flat m).length ≤ 7 * cntN m) → (flats l).length ≤ 7 * cntL l
 | [], _ => by simp [flats]
 | n :: l, h => by
   have := h n (by simp)
   have := qno l fun m hm => h m (by simp [hm])
   simp only [flats, cntL, List.length_append]; omega
theorem flat_le : ∀ (h : Nat) (lo hi : Option Int) (n : Nd), okN h lo hi n → n.ks.length ≤ 7 → (T.flat n).length ≤ 7 * cntN n
 | 0, lo, hi, .mk ks vs kids, hn, h7 => by
   obtain ⟨rfl, e2, -, -⟩ := hn
   simp only [Nd.ks_mk] at h7
   simp only [T.flat, flats, List.append_nil, List.length_zip, cntN, cntL]; omega
 | h + 1, lo, hi, .mk ks vs kids, hn, h7 => by
   obtain ⟨rfl, c1, c2⟩ := hn
   have := qno kids fun m hm => by
    obtain ⟨lo', hi', hok⟩ := qbO c1 m hm
    exact flat_le h lo' hi' m hok (c2 m hm).2
   simp only [T.flat, List.zip_nil_right, List.nil_append, cntN]; omega
def RdV (F : CallFn) (N : List NodeR) (p : Nat) (r : Option (Nat × Nat × Nd)) : Prop :=
 match r with
 | none => F [mkF 3 (N.map nodeRC), .s (.int .i64 p)] [] = some (.ok (.tup [.s (.int .i64 0), .s (.int .i64 0), .s (.slice none 0 0), .s (.bool false)]), [])
 | some (n, h, nd) => ∃ v, F [mkF 3 (N.map nodeRC), .s (.int .i64 p)] [] = some (.ok (.tup [.s (.int .i64 n), .s (.int .i64 h), .osl 0 v 3 0 (T.flat nd).length, .s (.bool true)]), [.live ⟨v, 3, (T.flat nd).map pairC⟩])
def rdB (r : Option (Nat × Nat × Nd)) : A :=
 match r with
 | none => .tup [.s (.int .i64 0), .s (.int .i64 0), .fsl 0 [], .s (.bool false)]
 | some (n, h, nd) => .tup [.s (.int .i64 n), .s (.int .i64 h), mkF 3 ((T.flat nd).map pairC), .s (.bool true)]
theorem rd_frz (n d : Int) (id v m : Nat) (b : Bool) (rows : List (List A)) (H : Heap) (hk : H[id]? = some (.live ⟨v, 3, rows⟩)) (hm : m = rows.length) (hp : qay rows = true) {β : Type} (k : A → Heap → Option β) :
 oFrz (.tup [.s (.int .i64 n), .s (.int .i64 d), .osl id v 3 0 m, .s (.bool b)]) H k = k (.tup [.s (.int .i64 n), .s (.int .i64 d), mkF 3 rows, .s (.bool b)]) (H.set id .dead) := by
 subst hm
 have e : ∀ m, frzA (m + 6) (.tup [.s (.int .i64 n), .s (.int .i64 d), .osl id v 3 0 rows.length, .s (.bool b)]) H = some (.tup [.s (.int .i64 n), .s (.int .i64 d), mkF 3 rows, .s (.bool b)], H.set id .dead) := by
  intro m; simp [frzA, frzL, frzRows, hp, hk, nilS, pureA, qbX]
 unfold oFrz
 rw [if_neg (by simp [pureA]), show (1000 : Nat) = 994 + 6 from rfl, e]
theorem nil_frz (H : Heap) {β : Type} (k : A → Heap → Option β) :
 oFrz (.tup [.s (.int .i64 0), .s (.int .i64 0), .s (.slice none 0 0), .s (.bool false)]) H k = k (.tup [.s (.int .i64 0), .s (.int .i64 0), .fsl 0 [], .s (.bool false)]) H := by
 have e : ∀ m, frzA (m + 6) (.tup [.s (.int .i64 0), .s (.int .i64 0), .s (.slice none 0 0), .s (.bool false)]) H = some (.tup [.s (.int .i64 0), .s (.int .i64 0), .fsl 0 [], .s (.bool false)], H) := by
  intro m; simp [frzA, frzL, nilS, pureA, qbX]
 unfold oFrz
 rw [if_neg (by simp [pureA, qbX]), show (1000 : Nat) = 994 + 6 from rfl, e]
theorem rd_call {F : CallFn} {N : List NodeR} {p : Nat} {r : Option (Nat × Nat × Nd)} (h : RdV F N p r) (H : Heap) {β : Type} (kp k : A → Heap → Option β) :
 (oLend F [mkF 3 (N.map nodeRC), .s (.int .i64 p)] H kp fun w h' => oFrz w h' k) = k (rdB r) (H ++ if r.isSome then [.dead] else []) := by
 match r, h with
 | none, h =>
   rw [qbi _ _ _ _ _ _ (by simp [qd4]) (by simp) h]
   rw [nil_frz]; simp [rdB]
 | some (n, d, nd), h =>
   obtain ⟨v, h⟩ := h
   have hr := fun f => qbR f (T.flat nd)
   rw [qdf (a' := .tup [.s (.int .i64 n), .s (.int .i64 d), .osl H.length v 3 0 (T.flat nd).length, .s (.bool true)]) (h' := H ++ [.live ⟨v, 3, (T.flat nd).map pairC⟩]) _ _ (by simp [qd4]) h (by
    simp [qaa, renOut, renA, renL, backIdx, hr, setAll])]
   rw [rd_frz _ _ _ _ _ _ ((T.flat nd).map pairC) _ (by simp) (by simp) (qeH _)]
   simp [rdB]
theorem fin_1 (a a' : A) (id : Nat) (ob : Obj) (H : Heap) (ha : idsA a = [id]) (hr : renA (fun j => if j = id then some 0 else none) a = some a') (hk : H[id]? = some (.live ob)) (hp : idsRows ob.rows = []) (hrr : ∀ f, renRows f ob.rows = some ob.rows) :
 finish 0 (.ok a) H = some (.ok a', [.live ob]) := by
 have h1 : reach H qa3 [] [id] = [id] := by
  rw [show qa3 = 99999 + 1 from rfl, reach]
  simp [hk, hp]
 have h2 : idx [id] = fun j => if j = id then some 0 else none := by
  funext j
  by_cases hj : j = id
  · subst hj; simp [idx]
  · simp [idx, List.idxOf?_cons, hj, Ne.symm hj]
 simp [finish, ha, hk, hrr, h1, h2, hr]
section
variable {N : List NodeR} {x : NodeR}
abbrev rH (x : NodeR) (v : Nat) (L : List Pr) : Heap := [.live ⟨0, 3, [nodeRC x]⟩, .live ⟨v, 3, L.map pairC⟩]
theorem rd_leaf (hv : x.vs.length = x.ks.length) (h7 : x.ks.length ≤ 7) :
 ∃ v, oLoop (qdJ (.s (.int .i64 x.ks.length)) (.ptr 0 0 0 0) (rH x 0 [])) ([.osl 1 0 3 0 0, .s (.int .i64 0)], rH x 0 []) (qew []) =
   some (.ok (.tup [.s (.int .i64 1), .s (.int .i64 0), .osl 0 v 3 0 (x.ks.zip x.vs).length, .s (.bool true)]), [.live ⟨v, 3, (x.ks.zip x.vs).map pairC⟩]) := by
 obtain ⟨q, hq, h⟩ := qb6 (step := qdJ (.s (.int .i64 x.ks.length)) (.ptr 0 0 0 0) (rH x 0 [])) (s0 := ([.osl 1 0 3 0 0, .s (.int .i64 0)], rH x 0 []))
  (fun i s => s = ([.osl 1 i 3 0 i, .s (.int .i64 i)], rH x i ((x.ks.zip x.vs).take i)))
  (fun q => q = (Ex.exit 0, [.osl 1 x.ks.length 3 0 x.ks.length], rH x x.ks.length (x.ks.zip x.vs))) x.ks.length (by simp) (by omega)
  (by
   rintro i s hi rfl
   left
   have hi2 : i < x.vs.length := by omega
   have w1 : IntKind.i64.wrap ((i : Int) + 1) = ((i + 1 : Nat) : Int) := by rw [qad (by omega) (by omega)]; simp
   have ip := fun {β : Type} (k : A → Option β) => idx_key (l := x.ks) (i := i) hi k
   have ip2 := fun {β : Type} (k : A → Option β) => qbE 2 extentC x.vs .i64 _ _ k (List.getElem?_eq_getElem hi2)
   have ap : qa4 (i + 1) 24 := by unfold qa4; omega
   have hL : (x.ks.zip x.vs).take (i + 1) = (x.ks.zip x.vs).take i ++ [(x.ks[i], x.vs[i])] := by
    rw [List.take_add_one, List.getElem?_eq_getElem (by simp; omega)]
    simp
   have hlen : ((x.ks.zip x.vs).take i).length = i := by simp; omega
   refine ⟨_, ?_, rfl⟩
   rw [hL]
   generalize (x.ks.zip x.vs).take i = L at *
   have i1 := qb3 L
   have i2 : idsRows (L.map pairC ++ [pairC (x.ks[i], x.vs[i])]) = [] := by rw [qas, i1]; simp
   have hpc : pairC (x.ks[i], x.vs[i]) = [.s (.int .u64 x.ks[i]), .s (.int .i64 x.vs[i].start), .s (.int .i64 x.vs[i].len)] := rfl
   have ext1 : cellsAt (some 2) (extentC x.vs[i]) 0 = some (.agg (extentC x.vs[i])) := _root_.id rfl
   have hel : (extentC x.vs[i]).length = 2 := _root_.id rfl
   have hp3 : (pairC (x.ks[i], x.vs[i])).length = 3 := _root_.id rfl
   have hput2 : qa5 [.s (.int .u64 x.ks[i]), .s (.int .i64 0), .s (.int .i64 0)] 1 (extentC x.vs[i]) = pairC (x.ks[i], x.vs[i]) := rfl
   simp only [qdJ, rH, nodeRC]
   simp [hi, ip, ip2, w1, oLoadD, qb2, wrL, wrA, idTop, ext1, hel, hput2, hp3, asCells, qb1, ap, hlen, List.take_of_length_le, trim, qa2, i1, i2, Go.Ab.place])
  (by
   rintro s rfl
   have i1 := qb3 (x.ks.zip x.vs)
   refine ⟨_, ?_, rfl⟩
   have ht : (x.ks.zip x.vs).take x.ks.length = x.ks.zip x.vs := List.take_of_length_le (by simp; omega)
   rw [ht]
   simp only [qdJ, rH, nodeRC]
   simp [trim, qa2, i1])
 subst hq
 refine ⟨x.ks.length, ?_⟩
 rw [h (qew [])]
 have hl : (x.ks.zip x.vs).length = x.ks.length := by simp; omega
 simp only [qew, if_true, List.getD_cons_zero, hl]
 exact fin_1 _ _ 1 _ _ (by simp) (by simp [renA, renL]) (by simp) (qb3 _) (fun f => qbR f _)
theorem part_get (N : List NodeR) (p n i : Nat) : (part N p n)[i]? = if i < n then N[p + i]? else none := by
 unfold part
 rw [List.getElem?_take]
 split
 · rw [List.getElem?_drop]
 · rfl
theorem ins_loop (hN : N.length ≤ 1000) (h7 : x.ks.length ≤ 7) {p n j : Nat} (hn : p + n ≤ N.length) (hfew : ∀ y ∈ part N p n, y.ks.length ≤ 7) (hj : j ≤ x.ks.length) (a b c : A) (h0 : Heap) (v : Nat) (L : List Pr) :
 ∃ q, (((∀ y ∈ part N p n, inK (loK none x.ks j) (hiK none x.ks j) y.ks) ∧ q = (Ex.exit 4, [.any, .any, .any, .any], rH x v L ++ [.dead])) ∨
  ((¬ ∀ y ∈ part N p n, inK (loK none x.ks j) (hiK none x.ks j) y.ks) ∧ q = (Ex.ret, [.s (.int .i64 0), .s (.int .i64 0), .s (.slice none 0 0), .s (.bool false)], rH x v L ++ [.dead]))) ∧
   ∀ {β : Type} (k : Ex → List A → Heap → Option β), oLoop (qcZ (.s (.int .i64 p)) (.s (.int .i64 n)) (.ptr 0 0 0 0) (mkF 3 (N.map nodeRC)) ([a, b, c, .s (.int .i64 j)], h0) (rH x v L ++ [.dead])) ([.s (.int .i64 p)], rH x v L ++ [.dead]) k = k q.1 q.2.1 q.2.2 := by
 have w0 : IntKind.i64.wrap ((p : Int) + n) = ((p + n : Nat) : Int) := by rw [qad (by omega) (by omega)]; simp
 have i1 := qb3 L
 obtain ⟨q, hq, h⟩ := qb6 (step := qcZ (.s (.int .i64 p)) (.s (.int .i64 n)) (.ptr 0 0 0 0) (mkF 3 (N.map nodeRC)) ([a, b, c, .s (.int .i64 j)], h0) (rH x v L ++ [.dead])) (s0 := ([.s (.int .i64 p)], rH x v L ++ [.dead]))
  (fun i s => s = ([.s (.int .i64 (p + i : Nat))], rH x v L ++ [.dead]) ∧ ∀ (m : Nat) y, m < i → (part N p n)[m]? = some y → inK (loK none x.ks j) (hiK none x.ks j) y.ks)
  (fun q => ((∀ y ∈ part N p n, inK (loK none x.ks j) (hiK none x.ks j) y.ks) ∧ q = (Ex.exit 4, [.any, .any, .any, .any], rH x v L ++ [.dead])) ∨
   ((¬ ∀ y ∈ part N p n, inK (loK none x.ks j) (hiK none x.ks j) y.ks) ∧ q = (Ex.ret, [.s (.int .i64 0), .s (.int .i64 0), .s (.slice none 0 0), .s (.bool false)], rH x v L ++ [.dead]))) n ⟨rfl, fun _ _ h => by omega⟩ (by omega)
  (by
   rintro i s hi ⟨rfl, hs⟩
   have hlt : ((p + i : Nat) : Int) < ((p + n : Nat) : Int) := by omega
   have w1 : IntKind.i64.wrap (((p + i : Nat) : Int) + 1) = ((p + (i + 1) : Nat) : Int) := by rw [qad (by omega) (by omega)]; omega
   have hy : N[p + i]? = some N[p + i] := List.getElem?_eq_getElem (by omega)
   have hpg : (part N p n)[i]? = some N[p + i] := by rw [part_get, if_pos hi, hy]
   have hf := hfew _ (List.mem_of_getElem? hpg)
   have hI := inside_v hy (by omega) (show x.ks.length < 1000 by omega) hj
   have hC := fun {β : Type} (H : Heap) (kp k : A → Heap → Option β) => qbi qc6 _ H kp k _ (by simp [qd4, pure_ks]) (by simp) hI
   generalize N[p + i]'(by omega) = y at *
   by_cases hc : inK (loK none x.ks j) (hiK none x.ks j) y.ks
   · left
     refine ⟨_, ?_, rfl, fun m z hm hz => ?_⟩
     · simp only [hc, decide_true] at hC
       simp only [qcZ, rH, nodeRC] at hC ⊢
       simp [w0, hlt, hC, w1, trim, qa2, i1, -Int.natCast_add]
     · by_cases e : m = i
       · subst e; rw [hpg] at hz; cases hz; exact hc
       · exact hs m z (by omega) hz
   · right
     refine ⟨_, ?_, .inr ⟨fun hh => hc (hh _ (List.mem_of_getElem? hpg)), rfl⟩⟩
     simp only [hc, decide_false] at hC
     simp only [qcZ, rH, nodeRC] at hC ⊢
     simp [w0, hlt, hC, w1, trim, qa2, i1, -Int.natCast_add])
  (by
   rintro s ⟨rfl, hs⟩
   refine ⟨_, ?_, .inl ⟨fun y hy => ?_, rfl⟩⟩
   · simp only [qcZ, rH, nodeRC]
     simp [w0, trim, qa2, i1, -Int.natCast_add]
   · obtain ⟨m, hm, rfl⟩ := List.mem_iff_getElem.1 hy
     have hml : m < n := by unfold part at hm; simp at hm; omega
     exact hs m _ hml (List.getElem?_eq_getElem hm))
 exact ⟨q, hq, h⟩
end
end Go.Ab.T
namespace Go.Ab.T
open Go Go.Ab Go.Ab.F
open Classical
def deepI : Option Nat → Int
 | none => -1
 | some d => d
theorem app_pairs (b v : Nat) (L M : List Pr) (H : Heap) (hb : H[b]? = some (.live ⟨v, 3, L.map pairC⟩)) (hl : L.length + M.length < 100000) {β : Type} (k : A → Heap → Option β) :
 oAppend none 3 24 (.osl b v 3 0 L.length) (mkF 3 (M.map pairC)) H k = k (.osl b (v + 1) 3 0 (L ++ M).length) (H.set b (.live ⟨v + 1, 3, (L ++ M).map pairC⟩)) := by
 have hr : rowsOf 3 (mkF 3 (M.map pairC)) H = some (M.map pairC) := by
  cases M with
  | nil => simp [rowsOf, mkF]
  | cons a r => simp [rowsOf, mkF]
 have ap : qa4 (L.length + M.length) 24 := by unfold qa4; omega
 simp [qb1, hr, hb, ap, List.take_of_length_le]
section
variable {N : List NodeR} {x : NodeR}
abbrev ret0 : List A := [.s (.int .i64 0), .s (.int .i64 0), .s (.slice none 0 0), .s (.bool false)]
structure KS (N : List NodeR) (x : NodeR) (f p i : Nat) (s : List A × Heap) (size : Nat) (deep : Option Nat) (kids : List Nd) (v : Nat) : Prop where
 st : s = ([.osl 1 v 3 0 (flats kids).length, .s (.int .i64 size), .s (.int .i64 (deepI deep)), .s (.int .i64 i)], rH x v (flats kids))
 run : rdKids N (rd f N) p x.ks i (x.idx.drop i) size deep kids = rdKids N (rd f N) p x.ks 0 x.idx 1 none []
 le : p + size ≤ N.length
 len : (flats kids).length ≤ 7 * size
 one : 1 ≤ size
 dp : 0 < i → ∃ d, deep = some d
theorem qmb (l : List Nd) (m : Nd) : flats (l ++ [m]) = flats l ++ T.flat m := by rw [qc8]; simp [flats]
theorem kid_step (hN : N.length ≤ 1000) {f p : Nat} (h7 : x.ks.length ≤ 7) (hidx : x.idx.length = x.ks.length + 1) {self : CallFn} (hself : ∀ q, q ≤ N.length → p < q → RdV self N q (rd f N q))
 {i : Nat} (hi : i < x.idx.length) {s : List A × Heap} {size : Nat} {deep : Option Nat} {kids : List Nd} {v : Nat} (hK : KS N x f p i s size deep kids v) :
 (∃ s' size' deep' kids' v', qbf self (.s (.int .i64 x.idx.length)) (mkF 1 (x.idx.map (cellC .i64))) (.s (.int .i64 p)) (rH x 0 []) (mkF 3 (N.map nodeRC)) (.ptr 0 0 0 0) s = some (.inl s') ∧ KS N x f p (i + 1) s' size' deep' kids' v') ∨
 (qbf self (.s (.int .i64 x.idx.length)) (mkF 1 (x.idx.map (cellC .i64))) (.s (.int .i64 p)) (rH x 0 []) (mkF 3 (N.map nodeRC)) (.ptr 0 0 0 0) s = some (.inr (Ex.ret, ret0 ++ [.osl 1 v 3 0 (flats kids).length, .s (.int .i64 size), .s (.int .i64 (deepI deep))], rH x v (flats kids))) ∧
  rdKids N (rd f N) p x.ks 0 x.idx 1 none [] = none) := by
 obtain ⟨rfl, hrun, hle, hlen, hone, hdp⟩ := hK
 have hi' : (i : Int) < x.idx.length := by omega
 have w1 : IntKind.i64.wrap ((i : Int) + 1) = ((i + 1 : Nat) : Int) := by rw [qad (by omega) (by omega)]; simp
 have w2 : IntKind.i64.wrap ((p : Int) + size) = ((p + size : Nat) : Int) := by rw [qad (by omega) (by omega)]; simp
 have ip := fun {β : Type} (k : A → Option β) => qbE 1 (cellC .i64) x.idx .i64 _ _ k (List.getElem?_eq_getElem hi)
 rw [List.drop_eq_getElem_cons hi] at hrun
 generalize x.idx[i] = m at *
 have i1 := qb3 (flats kids)
 have hn0 : x.idx ≠ [] := fun e => by rw [e] at hi; simp at hi
 by_cases hm : m = ((p + size : Nat) : Int)
 · have hV := hself (p + size) hle (by omega)
   have hS := qj0 (N := N) f (p + size)
   cases hr : rd f N (p + size) with
   | none =>
     right
     rw [hr] at hV
     have hC := fun {β : Type} (H : Heap) (kp k : A → Heap → Option β) => rd_call hV H kp k
     simp only [rdKids, if_pos hm, hr] at hrun
     subst hm
     refine ⟨?_, hrun.symm⟩
     simp only [qbf, rH, nodeRC]
     simp [hi, ip, w2, hC, rdB, trim, qa2, i1, qdK, -Int.natCast_add]
   | some r =>
     obtain ⟨n, d, nd⟩ := r
     have hA := hS n d nd hr
     rw [hr] at hV
     have hC := fun {β : Type} (H : Heap) (kp k : A → Heap → Option β) => rd_call hV H kp k
     simp only [rdKids, if_pos hm, hr] at hrun
     subst hm
     have hdn := qgm _ _ _ _ hA.ok
     have hcn := hA.cnt
     have hln := hA.le
     by_cases hd : deep = none ∨ deep = some d
     · have hgd : (decide ((0 : Int) ≤ deepI deep) && decide (¬ (d : Int) = deepI deep)) = false := by
        rcases hd with rfl | rfl
        · simp [deepI]
        · simp [deepI]
       have hfew : ∀ y ∈ part N (p + size) n, y.ks.length ≤ 7 := by
        rw [hA.part]; exact qni _ _ _ _ hA.ok hA.few _
       obtain ⟨q, hq, hloop⟩ := ins_loop (N := N) (x := x) hN h7 hln hfew (j := i) (by omega) (.osl 1 v 3 0 (flats kids).length) (.s (.int .i64 size)) (.s (.int .i64 (deepI deep)))
        (rH x v (flats kids)) v (flats kids)
       have hgo : qbf self (.s (.int .i64 x.idx.length)) (mkF 1 (x.idx.map (cellC .i64))) (.s (.int .i64 p)) (rH x 0 []) (mkF 3 (N.map nodeRC)) (.ptr 0 0 0 0)
        ([.osl 1 v 3 0 (flats kids).length, .s (.int .i64 size), .s (.int .i64 (deepI deep)), .s (.int .i64 i)], rH x v (flats kids)) =
        qev ([.osl 1 v 3 0 (flats kids).length, .s (.int .i64 size), .s (.int .i64 (deepI deep)), .s (.int .i64 i)], rH x v (flats kids)) (.s (.int .i64 n)) (mkF 3 ((T.flat nd).map pairC)) (rH x 0 []) (.s (.int .i64 d)) q.1 q.2.1 q.2.2 := by
        refine Eq.trans ?_ (hloop _)
        by_cases g1 : (0 : Int) ≤ deepI deep
        · have g2 : (d : Int) = deepI deep := by simpa [g1] using hgd
          simp only [qbf, rH, nodeRC]
          simp [hi, ip, w2, hC, rdB, g1, g2, trim, qa2, i1, qdK, -Int.natCast_add]
        · simp only [qbf, rH, nodeRC]
          simp [hi, ip, w2, hC, rdB, g1, trim, qa2, i1, qdK, -Int.natCast_add]
       rw [hgo]
       rcases hq with ⟨hin, rfl⟩ | ⟨hin, rfl⟩
       · left
         rw [if_pos ⟨hd, hin⟩] at hrun
         have w3 : IntKind.i64.wrap ((size : Int) + n) = ((size + n : Nat) : Int) := by rw [qad (by omega) (by omega)]; simp
         have hfl := flat_le _ _ _ _ hA.ok hA.few
         have hap := fun {β : Type} (k : A → Heap → Option β) => app_pairs 1 v (flats kids) (T.flat nd) (rH x v (flats kids) ++ [.dead]) (by simp) (by omega) k
         have i2 := qb3 (flats kids ++ T.flat nd)
         refine ⟨_, size + n, some d, kids ++ [nd], v + 1, ?_, ⟨rfl, hrun, by omega, ?_, by omega, fun _ => ⟨d, rfl⟩⟩⟩
         · simp only [qev]
           simp only [if_true, List.getD_cons_zero, List.getD_cons_succ]
           rw [show (rH x v (flats kids) ++ [Go.Ab.Slot.dead]) = [.live ⟨0, 3, [nodeRC x]⟩, .live ⟨v, 3, (flats kids).map pairC⟩, .dead] from rfl] at hap ⊢
           simp only [rH, nodeRC] at hap ⊢
           simp only [oAr_s, hap]
           simp [w1, w3, trim, qa2, i2, qmb, deepI, -Int.natCast_add, -List.map_append]
         · rw [qmb, List.length_append]; omega
       · right
         rw [if_neg (fun h => hin h.2)] at hrun
         refine ⟨?_, hrun.symm⟩
         simp only [qev, rH, nodeRC]
         simp [trim, qa2, i1]
     · right
       rw [if_neg (fun h => hd h.1)] at hrun
       refine ⟨?_, hrun.symm⟩
       cases deep with
       | none => exact absurd (.inl rfl) hd
       | some e =>
         have g1 : (0 : Int) ≤ deepI (some e) := by simp [deepI]
         have g2 : ¬ (d : Int) = deepI (some e) := by
          intro h
          simp only [deepI] at h
          exact hd (.inr (by congr 1; omega))
         simp only [qbf, rH, nodeRC]
         simp [hi, ip, w2, hC, rdB, g1, g2, trim, qa2, i1, qdK, -Int.natCast_add]
 · right
   simp only [rdKids, if_neg hm] at hrun
   refine ⟨?_, hrun.symm⟩
   simp only [qbf, rH, nodeRC]
   simp [hi, ip, w2, hm, trim, qa2, i1, -Int.natCast_add]
theorem kids_loop (hN : N.length ≤ 1000) {f p : Nat} (hp : p < N.length) (h7 : x.ks.length ≤ 7) (hidx : x.idx.length = x.ks.length + 1) {self : CallFn} (hself : ∀ q, q ≤ N.length → p < q → RdV self N q (rd f N q)) :
 ∃ q, ((rdKids N (rd f N) p x.ks 0 x.idx 1 none [] = none ∧ ∃ a b c H, q = (Ex.ret, ret0 ++ [a, b, c], H)) ∨
  (∃ size d kids v, rdKids N (rd f N) p x.ks 0 x.idx 1 none [] = some (size, some d, kids) ∧ q = (Ex.exit 2, [.any, .any, .any, .any, .osl 1 v 3 0 (flats kids).length, .s (.int .i64 size), .s (.int .i64 d)], rH x v (flats kids)))) ∧
   ∀ {β : Type} (k : Ex → List A → Heap → Option β), oLoop (qbf self (.s (.int .i64 x.idx.length)) (mkF 1 (x.idx.map (cellC .i64))) (.s (.int .i64 p)) (rH x 0 []) (mkF 3 (N.map nodeRC)) (.ptr 0 0 0 0)) ([.osl 1 0 3 0 0, .s (.int .i64 1), .s (.int .i64 (-1)), .s (.int .i64 0)], rH x 0 []) k = k q.1 q.2.1 q.2.2 := by
 obtain ⟨q, hq, h⟩ := qb6 (step := qbf self (.s (.int .i64 x.idx.length)) (mkF 1 (x.idx.map (cellC .i64))) (.s (.int .i64 p)) (rH x 0 []) (mkF 3 (N.map nodeRC)) (.ptr 0 0 0 0))
  (s0 := ([.osl 1 0 3 0 0, .s (.int .i64 1), .s (.int .i64 (-1)), .s (.int .i64 0)], rH x 0 []))
  (fun i s => ∃ size deep kids v, KS N x f p i s size deep kids v)
  (fun q => (rdKids N (rd f N) p x.ks 0 x.idx 1 none [] = none ∧ ∃ a b c H, q = (Ex.ret, ret0 ++ [a, b, c], H)) ∨
   (∃ size d kids v, rdKids N (rd f N) p x.ks 0 x.idx 1 none [] = some (size, some d, kids) ∧ q = (Ex.exit 2, [.any, .any, .any, .any, .osl 1 v 3 0 (flats kids).length, .s (.int .i64 size), .s (.int .i64 d)], rH x v (flats kids)))) x.idx.length
  ⟨1, none, [], 0, ⟨by simp [flats, deepI], by simp, by omega, by simp [flats], by omega, fun h => by omega⟩⟩ (by omega)
  (by
   rintro i s hi ⟨size, deep, kids, v, hK⟩
   rcases kid_step hN h7 hidx hself hi hK with ⟨s', a, b, c, d, h1, h2⟩ | ⟨h1, h2⟩
   · exact .inl ⟨s', h1, a, b, c, d, h2⟩
   · exact .inr ⟨_, h1, .inl ⟨h2, _, _, _, _, rfl⟩⟩)
  (by
   rintro s ⟨size, deep, kids, v, hK⟩
   obtain ⟨rfl, hrun, hle, hlen, hone, hdp⟩ := hK
   obtain ⟨d, rfl⟩ := hdp (by omega)
   rw [List.drop_length] at hrun
   simp only [rdKids] at hrun
   have i1 := qb3 (flats kids)
   refine ⟨_, ?_, .inr ⟨size, d, kids, v, hrun.symm, rfl⟩⟩
   simp only [qbf, rH, nodeRC]
   simp [trim, qa2, i1, deepI])
 exact ⟨q, hq, h⟩
end
theorem read_v {N : List NodeR} (hN : N.length ≤ 1000) : ∀ f p, p ≤ N.length → N.length - p < f → RdV (qcm f) N p (rd f N p)
 | 0, p, hp, hf => by omega
 | f + 1, p, hp, hf => by
   cases hx : N[p]? with
   | none =>
     have hge : N.length ≤ p := List.getElem?_eq_none_iff.1 hx
     have hge' : (N.length : Int) ≤ (p : Int) := by omega
     simp only [rd, hx, RdV]
     show qba (qcm f) _ [] = _
     simp [qba, hge, trim, qa2, qd0]
     exact qa9 _ _ (by simp)
   | some x =>
     have hpl : p < N.length := (List.getElem?_eq_some_iff.1 hx).1
     have hge' : ¬ N.length ≤ p := by omega
     have in1 := fun {β : Type} (k : A → Option β) => qhU hx k
     have hfv := form_v x (decide (p = 0))
     have hC := fun {β : Type} (H : Heap) (kp k : A → Heap → Option β) => qbi qd3 _ H kp k _ (by simp [qgZ, pureA]) (by simp) hfv
     have hat : cellsAt (some 3) (nodeRC x) 0 = some (.agg (nodeRC x)) := _root_.id rfl
     have hput : qa5 [.s (.slice none 0 0), .s (.slice none 0 0), .s (.slice none 0 0)] 0 (nodeRC x) = nodeRC x := _root_.id rfl
     have hl3 : (nodeRC x).length = 3 := _root_.id rfl
     by_cases hform : formP x (decide (p = 0))
     · simp only [hform, decide_true] at hC
       simp only [rd, hx, if_pos hform]
       have hk8 : ∀ r, qd0 (qcm f) [] (mkF 3 (N.map nodeRC)) (.s (.int .i64 p)) Ex.normal [.s (.bool false)] [] = r → qba (qcm f) [mkF 3 (N.map nodeRC), .s (.int .i64 p)] [] = r := by
        rintro r rfl
        simp [qba, hge', in1, hat, hC, trim, qa2]
       by_cases hidx : x.idx = []
       · have hv : x.vs.length = x.ks.length := by
          rcases hform.2.2.2 with g | g
          · exact g.2
          · exact absurd hidx g.1
         obtain ⟨v, hv⟩ := rd_leaf (x := x) hv hform.1
         rw [if_pos hidx]
         simp only [RdV, T.flat, flats, List.append_nil]
         refine ⟨v, hk8 _ ?_⟩
         refine Eq.trans ?_ (hv.trans (by simp))
         simp [qd0, in1, hat, hput, hl3, hidx]
         simp only [rH]
         simp [nodeRC, hidx]
       · have hidl : x.idx.length = x.ks.length + 1 := by
          rcases hform.2.2.2 with g | g
          · exact absurd g.1 hidx
          · exact g.2.2.1
         have hid0 : ¬ ((x.idx.length : Int) = 0) := by omega
         rw [if_neg hidx]
         obtain ⟨q, hq, hloop⟩ := kids_loop (x := x) hN hpl hform.1 hidl (f := f) (fun q h1 h2 => read_v hN f q h1 (by omega))
         have hgo : qba (qcm f) [mkF 3 (N.map nodeRC), .s (.int .i64 p)] [] = qeu [] q.1 q.2.1 q.2.2 := by
          refine hk8 _ ?_
          refine Eq.trans ?_ (hloop _)
          simp [qd0, in1, hat, hput, hl3]
          simp [nodeRC, hid0, hidx]
          rfl
         rcases hq with ⟨hr, a, b, c, H, rfl⟩ | ⟨size, d, kids, v, hr, rfl⟩
         · rw [hr]
           simp only [RdV]
           refine hgo.trans ?_
           simp only [qeu, ret0]
           simp
           exact qa9 _ _ (by simp)
         · rw [hr]
           have hS := qj0 (N := N) (f + 1) p size (d + 1) (.mk x.ks [] kids) (by simp only [rd, hx, if_pos hform, if_neg hidx, hr])
           have hh := qgm _ _ _ _ hS.ok
           have hc := hS.cnt
           have hle := hS.le
           have w1 : IntKind.i64.wrap ((d : Int) + 1) = ((d + 1 : Nat) : Int) := by rw [qad (by omega) (by omega)]; simp
           simp only [RdV, T.flat, List.zip_nil_right, List.nil_append]
           refine ⟨v, hgo.trans ?_⟩
           simp only [qeu, if_true, List.getD_cons_zero, List.getD_cons_succ, oAr_s]
           have e : arInt BinOp.add IntKind.i64 (d : Int) 1 = some ((d + 1 : Nat) : Int) := by rw [← w1]; rfl
           rw [e]
           exact fin_1 _ _ 1 _ _ (by simp) (by simp [renA, renL]) (by simp) (qb3 _) (fun f => qbR f _)
     · simp only [hform, decide_false] at hC
       simp only [rd, hx, if_neg hform, RdV]
       show qba (qcm f) _ [] = _
       simp [qba, hge', in1, hat, hC, trim, qa2, qd0]
       exact qa9 _ _ (by simp)
noncomputable def readR (N : List NodeR) : Option (List Pr) := match rd big N 0 with
 | some (n, _, nd) => if n = N.length then some (T.flat nd) else none
 | none => none
def readB : Option (List Pr) → A
 | some l => .tup [mkF 3 (l.map pairC), .s (.bool true)]
 | none => .tup [.fsl 0 [], .s (.bool false)]
def readO : Option (List Pr) → A
 | some l => .tup [mkF 3 (l.map pairC), .s (.bool true)]
 | none => .tup [.s (.slice none 0 0), .s (.bool false)]
theorem Read_v {N : List NodeR} (hN : N.length ≤ 1000) : qc2 [mkF 3 (N.map nodeRC)] [] = some (.ok (readO (readR N)), []) := by
 have hV := read_v hN big 0 (by omega) (by rw [big_eq]; omega)
 have hC := fun {β : Type} (H : Heap) (kp k : A → Heap → Option β) => rd_call hV H kp k
 unfold readR
 cases hr : rd big N 0 with
 | none =>
   rw [hr] at hC
   simp only [rdB, show ((0 : Nat) : Int) = 0 from rfl] at hC
   simp [qc2]
   simp [hC, trim, qa2, qex, readO]
   exact qa9 _ _ (by simp)
 | some r =>
   obtain ⟨n, h, nd⟩ := r
   rw [hr] at hC
   by_cases hn : n = N.length
   · have hn' : (n : Int) = N.length := by omega
     simp only [rdB, show ((0 : Nat) : Int) = 0 from rfl] at hC
     simp [qc2]
     simp [hC, hn, trim, qa2, qex, readO]
     exact qa9 _ _ (by simp)
   · have hn' : ¬ (n : Int) = N.length := by omega
     simp only [rdB, show ((0 : Nat) : Int) = 0 from rfl] at hC
     simp [qc2]
     simp [hC, hn, trim, qa2, qex, readO]
     rw [if_neg hn']
     exact qa9 _ _ (by simp)
theorem qjT {N : List NodeR} (hN : N.length ≤ 1000) {β : Type} (H : Heap) (kp k : A → Heap → Option β) :
 (oLend qc2 [mkF 3 (N.map nodeRC)] H kp fun w h' => oFrz w h' k) = k (readB (readR N)) H := by
 have hv := Read_v hN
 cases hr : readR N with
 | some l =>
   rw [hr] at hv
   rw [qbi _ _ _ _ _ _ (by simp [qd4]) (by simp [readO]) hv]
   simp only [readO, readB]
   rw [qgf _ _ _ (by simp [pureA, qeH])]
 | none =>
   rw [hr] at hv
   rw [qbi _ _ _ _ _ _ (by simp [qd4]) (by simp [readO]) hv]
   simp only [readO, readB]
   have e : ∀ m, frzA (m + 4) (.tup [.s (.slice none 0 0), .s (.bool false)]) H = some (.tup [.fsl 0 [], .s (.bool false)], H) := by
    intro m; simp [frzA, frzL, nilS, pureA, qbX]
   unfold oFrz
   rw [if_neg (by simp [pureA, qbX]), show (1000 : Nat) = 996 + 4 from rfl, e]
end Go.Ab.T
namespace Go.Ab.T
open Go Go.Ab Go.Ab.F
open Classical
def bndC (lo hi : Option Int) : List A := [.s (.int .u64 (lo.getD 0)), .s (.int .u64 (hi.getD 0)), .s (.bool lo.isSome), .s (.bool hi.isSome)]
theorem outside_v (lo hi : Option Int) (k : Int) : qat [.agg (bndC lo hi), .s (.int .u64 k)] [] = some (.ok (.s (.bool (!decide (lb lo k ∧ ub hi k)))), []) := by
 cases lo with
 | none =>
   cases hi with
   | none => simp [qat, bndC, qa9]
   | some b =>
     by_cases h : k < b
     · have h' : ¬ b ≤ k := by omega
       simp [qat, bndC, qa9, h, h']
     · have h' : b ≤ k := by omega
       simp [qat, bndC, qa9, h, h']
 | some a =>
   by_cases g : k < a
   · have g' : ¬ a ≤ k := by omega
     simp [qat, bndC, qa9, g, g']
   · have g' : a ≤ k := by omega
     cases hi with
     | none => simp [qat, bndC, qa9, g, g']
     | some b =>
       by_cases h : k < b
       · have h' : ¬ b ≤ k := by omega
         simp [qat, bndC, qa9, g, g', h, h']
       · have h' : b ≤ k := by omega
         simp [qat, bndC, qa9, g, g', h, h']
abbrev oName : String := "(bailey/tree.bounds).outside"
abbrev outF (lo hi : Option Int) : A := .fn oName [.fsl 0 [[.any]], .agg (bndC lo hi)]
theorem en_out : qau oName = qat := by simp [qau, oName]
theorem qnu : pureA (.fsl 0 [[.any]]) = true := rfl
theorem index_v (lo hi : Option Int) (ks : List Int) (hk : ks.length ≤ 1000) : ∃ r : Int, qao qau [mkF 1 (ks.map (cellC .u64)), outF lo hi] [] = some (.ok (.s (.int .i64 r)), []) ∧ decide (0 ≤ r) = !decide (inK lo hi ks) := by
 obtain ⟨q, hq, h⟩ := qb6 (step := qaB qau (.s (.int .i64 ks.length)) (mkF 1 (ks.map (cellC .u64))) (outF lo hi) []) (s0 := ([.s (.int .i64 0)], []))
  (fun i s => s = ([.s (.int .i64 i)], []) ∧ ∀ (m : Nat) (hm : m < ks.length), m < i → lb lo ks[m] ∧ ub hi ks[m])
  (fun q => (inK lo hi ks ∧ q = (Ex.exit 0, [.any], [])) ∨ (¬ inK lo hi ks ∧ ∃ i : Nat, q = (Ex.ret, [.s (.int .i64 i)], []))) ks.length ⟨rfl, fun _ _ h => by omega⟩ (by omega)
  (by
   rintro i s hil ⟨rfl, hs⟩
   have w1 : IntKind.i64.wrap ((i : Int) + 1) = ((i + 1 : Nat) : Int) := by rw [qad (by omega) (by omega)]; simp
   have ip := fun {β : Type} (k : A → Option β) => idx_key (l := ks) (i := i) hil k
   have hO := outside_v lo hi ks[i]
   have hC := fun {β : Type} (H : Heap) (kp k : A → Heap → Option β) => qbi qat _ H kp k _ (by simp [bndC]) (by simp) hO
   by_cases hc : lb lo ks[i] ∧ ub hi ks[i]
   · left
     simp only [hc, and_self, decide_true, Bool.not_true] at hC
     refine ⟨_, ?_, rfl, fun m hm hmi => ?_⟩
     · simp [qaB, hil, ip, en_out, hC, w1, trim, qa2]
     · by_cases e : m = i
       · subst e; exact hc
       · exact hs m hm (by omega)
   · right
     simp only [hc, decide_false, Bool.not_false] at hC
     refine ⟨_, ?_, .inr ⟨fun hh => hc (hh _ (List.getElem_mem hil)), i, rfl⟩⟩
     simp [qaB, hil, ip, en_out, hC, w1, trim, qa2])
  (by
   rintro s ⟨rfl, hs⟩
   refine ⟨_, ?_, .inl ⟨fun k hk => ?_, rfl⟩⟩
   · simp [qaB, trim, qa2]
   · obtain ⟨m, hm, rfl⟩ := List.mem_iff_getElem.1 hk
     exact hs m hm hm)
 have e1 : qao qau [mkF 1 (ks.map (cellC .u64)), outF lo hi] [] = qaC [] q.1 q.2.1 q.2.2 := by
  refine Eq.trans ?_ (h (qaC []))
  simp [qao]
 rw [e1]
 rcases hq with ⟨hs, rfl⟩ | ⟨hs, i, rfl⟩
 · exact ⟨-1, by simp [qaC, qa9], by simp [hs]⟩
 · exact ⟨i, by simp [qaC, qa9], by simp [hs]⟩
theorem qlh (lo hi : Option Int) (ks : List Int) (hk : ks.length ≤ 1000) (H : Heap) {β : Type} (kp k : A → Heap → Option β) :
 oLend (qav qau) [mkF 1 (ks.map (cellC .u64)), outF lo hi] H kp k = k (.s (.bool (!decide (inK lo hi ks)))) H := by
 obtain ⟨r, h1, h2⟩ := index_v lo hi ks hk
 have hC := fun {β : Type} (H : Heap) (kp k : A → Heap → Option β) => qbi (qao qau) _ H kp k _ (by simp [pure_ks, bndC, qnu]) (by simp) h1
 refine qbi _ _ _ _ _ _ (by simp [pure_ks, bndC, qnu]) (by simp) ?_
 rw [← h2]
 simp [qav, hC, qa9]
structure RInv (N : List NodeR) (s : RS) : Prop where
 cnt : s.cnt ≤ 7 * s.nxt
 nxt : s.nxt ≤ N.length
theorem qk5 {N : List NodeR} {rec : RecT} (hrec : ∀ i lo hi s, RInv N s → RInv N (rec i lo hi s).1 ∧ s.nxt ≤ (rec i lo hi s).1.nxt) {lo hi : Option Int} {ks : List Int} :
 ∀ (r : List Int) (j : Nat) (s : RS) (kids : List Nd), RInv N s → RInv N (rnKids rec lo hi ks j r s kids).1 ∧ s.nxt ≤ (rnKids rec lo hi ks j r s kids).1.nxt
 | [], _, s, _, h => ⟨h, Nat.le_refl _⟩
 | m :: r, j, s, kids, h => by
   obtain ⟨h1, h2⟩ := hrec m (loK lo ks j) (hiK hi ks j) s h
   obtain ⟨g1, g2⟩ := qk5 hrec (lo := lo) (hi := hi) (ks := ks) r (j + 1) _ (kids ++ [(rec m (loK lo ks j) (hiK hi ks j) s).2]) h1
   exact ⟨g1, Nat.le_trans h2 g2⟩
theorem rn_inv {N : List NodeR} : ∀ (f : Nat) (i depth : Int) (lo hi : Option Int) (s : RS), RInv N s → RInv N (rn f N i depth lo hi s).1 ∧ s.nxt ≤ (rn f N i depth lo hi s).1.nxt
 | 0, _, _, _, _, s, h => ⟨⟨h.cnt, h.nxt⟩, Nat.le_refl _⟩
 | f + 1, i, depth, lo, hi, s, h => by
   have hfail : RInv N s.fail.1 ∧ s.nxt ≤ s.fail.1.nxt := ⟨⟨h.cnt, h.nxt⟩, Nat.le_refl _⟩
   have := h.cnt
   have := h.nxt
   simp only [rn]
   split
   · exact hfail
   split
   · exact hfail
   rename_i x hx
   have hp : s.nxt < N.length := (List.getElem?_eq_some_iff.1 hx).1
   split
   · rename_i hf
     have h7 := hf.1
     split
     · exact ⟨⟨show s.cnt + x.ks.length ≤ 7 * (s.nxt + 1) by omega, show s.nxt + 1 ≤ N.length by omega⟩, show s.nxt ≤ s.nxt + 1 by omega⟩
     · obtain ⟨g1, g2⟩ := qk5 (N := N) (rec := (rn f N · (depth + 1))) (fun i lo hi s h => rn_inv f i (depth + 1) lo hi s h) (lo := lo) (hi := hi) (ks := x.ks) x.idx 0 (rnIn x lo hi s) [] ⟨by simp only [rnIn]; omega, by simp only [rnIn]; omega⟩
       exact ⟨g1, Nat.le_trans (show s.nxt ≤ s.nxt + 1 by omega) g2⟩
   · exact hfail
theorem qlK (l : List Extent) : qay (l.map extentC) = true := qaq _ (fun x => by simp [extentC]) _
theorem pure_kidsC (l : List Nd) : qay (l.map kidC) = true := qaq _ (fun x => by simp) _
def frozeO (r : Option (Out × Heap)) : Option (Out × Heap) :=
 match r with
 | some (.ok a, h1) => oFrz a h1 fun a h2 => (Go.Ab.trim true 1 [a] h2).map fun p => (.ok a, p.2)
 | _ => none
theorem qj9 (F : CallFn) (args : List A) (R : Go.Ab.Slot) : froze F args [R] = frozeO (F args [R]) := by
 unfold froze frozeO
 rfl
section
variable {H : Heap} {a : Nat} {row : List A} (h0 : H[0]? = some (.live ⟨0, 5, [row]⟩)) (hr : idsL row = [])
include h0 hr
theorem froze_nil (ha : H[a]? = some (.live ⟨0, 3, [[.s (.slice none 0 0), .s (.slice none 0 0), .s (.slice none 0 0)]]⟩)) :
 frozeO (finish 1 (.ok (.ptr a 0 0 0)) H) = some (.ok (.cptr (nodeC (.mk [] [] []))), [.live ⟨0, 5, [row]⟩]) := by
 have ha0 : ¬ a = 0 := by rintro rfl; rw [h0] at ha; cases ha
 have hreach : Go.Ab.reach H qa3 [0] [a] = [0, a] := by
  rw [show qa3 = 99980 + 20 from rfl]
  simp [Go.Ab.reach, List.getD_eq_getElem?_getD, ha, ha0]
 have hrr : ∀ f, renL f row = some row := fun f => qcf _ f hr
 have h1 : (H.take 1).flatMap Go.Ab.Slot.ids = [] := by
  cases H with
  | nil => simp at h0
  | cons x r => simp at h0; subst h0; simp [hr]
 have hg0 : H.getD 0 .dead = .live ⟨0, 5, [row]⟩ := by rw [List.getD_eq_getElem?_getD, h0]; rfl
 have hga : H.getD a .dead = .live ⟨0, 3, [[.s (.slice none 0 0), .s (.slice none 0 0), .s (.slice none 0 0)]]⟩ := by rw [List.getD_eq_getElem?_getD, ha]; rfl
 have hrange : List.range 1 = [0] := rfl
 have e : finish 1 (.ok (.ptr a 0 0 0)) H = some (.ok (.ptr 1 0 0 0), [.live ⟨0, 5, [row]⟩, .live ⟨0, 3, [[.s (.slice none 0 0), .s (.slice none 0 0), .s (.slice none 0 0)]]⟩]) := by
  unfold finish
  simp only [qj6, h1, List.append_nil, hrange, hreach, List.map_cons, List.map_nil, hg0, hga]
  simp [Go.Ab.idx, List.idxOf?_cons, hrr, Ne.symm ha0]
 rw [e]
 have hnn : nodeC (.mk [] [] []) = [.fsl 0 [], .fsl 0 [], .fsl 0 []] := by rw [qfC]; rfl
 have ef : ∀ m, frzA (m + 8) (.ptr 1 0 0 0) [.live ⟨0, 5, [row]⟩, .live ⟨0, 3, [[.s (.slice none 0 0), .s (.slice none 0 0), .s (.slice none 0 0)]]⟩] = some (.cptr [.fsl 0 [], .fsl 0 [], .fsl 0 []], [.live ⟨0, 5, [row]⟩, .dead]) := by
  intro m; simp [frzA, frzL, frzRows, nilS, pureA, qbX]
 unfold frozeO oFrz
 simp only [if_neg (show ¬ pureA (.ptr 1 0 0 0) = true by simp [pureA]), show (1000 : Nat) = 992 + 8 from rfl, ef, hnn]
 simp [Go.Ab.trim, qa2, hr]
theorem froze_leaf {k v : Nat} {ks : List Int} {vs : List Extent} (ha : H[a]? = some (.live ⟨0, 3, [[.osl k 1 1 0 ks.length, .osl v 1 2 0 vs.length, .s (.slice none 0 0)]]⟩)) (hk : H[k]? = some (.live ⟨1, 1, ks.map (cellC .u64)⟩)) (hv : H[v]? = some (.live ⟨1, 2, vs.map extentC⟩))
 (d1 : k ≠ a) (d2 : v ≠ a) (d3 : v ≠ k) :
 frozeO (finish 1 (.ok (.ptr a 0 0 0)) H) = some (.ok (.cptr (nodeC (.mk ks vs []))), [.live ⟨0, 5, [row]⟩]) := by
 have ha0 : ¬ a = 0 := by rintro rfl; rw [h0] at ha; cases ha
 have hk0 : ¬ k = 0 := by rintro rfl; rw [h0] at hk; cases hk
 have hv0 : ¬ v = 0 := by rintro rfl; rw [h0] at hv; cases hv
 have hreach : Go.Ab.reach H qa3 [0] [a] = [0, a, k, v] := by
  rw [show qa3 = 99980 + 20 from rfl]
  simp [Go.Ab.reach, List.getD_eq_getElem?_getD, ha, ha0, hk, hk0, hv, hv0, d1, d2, d3, ids_ks, ids_vs]
 have hrr : ∀ f, renL f row = some row := fun f => qcf _ f hr
 have h1 : (H.take 1).flatMap Go.Ab.Slot.ids = [] := by
  cases H with
  | nil => simp at h0
  | cons x r => simp at h0; subst h0; simp [hr]
 have hg0 : H.getD 0 .dead = .live ⟨0, 5, [row]⟩ := by rw [List.getD_eq_getElem?_getD, h0]; rfl
 have hga : H.getD a .dead = .live ⟨0, 3, [[.osl k 1 1 0 ks.length, .osl v 1 2 0 vs.length, .s (.slice none 0 0)]]⟩ := by rw [List.getD_eq_getElem?_getD, ha]; rfl
 have hgk : H.getD k .dead = .live ⟨1, 1, ks.map (cellC .u64)⟩ := by rw [List.getD_eq_getElem?_getD, hk]; rfl
 have hgv : H.getD v .dead = .live ⟨1, 2, vs.map extentC⟩ := by rw [List.getD_eq_getElem?_getD, hv]; rfl
 have hrange : List.range 1 = [0] := rfl
 have e : finish 1 (.ok (.ptr a 0 0 0)) H = some (.ok (.ptr 1 0 0 0), [.live ⟨0, 5, [row]⟩, .live ⟨0, 3, [[.osl 2 1 1 0 ks.length, .osl 3 1 2 0 vs.length, .s (.slice none 0 0)]]⟩, .live ⟨1, 1, ks.map (cellC .u64)⟩, .live ⟨1, 2, vs.map extentC⟩]) := by
  unfold finish
  simp only [qj6, h1, List.append_nil, hrange, hreach, List.map_cons, List.map_nil, hg0, hga, hgk, hgv]
  simp [Go.Ab.idx, List.idxOf?_cons, hrr, Ne.symm ha0, Ne.symm hk0, Ne.symm hv0, Ne.symm d1, Ne.symm d2, Ne.symm d3, ren_ks, ren_vs]
 rw [e]
 have hnn : nodeC (.mk ks vs []) = [mkF 1 (ks.map (cellC .u64)), mkF 2 (vs.map extentC), .fsl 0 []] := by rw [qfC]; rfl
 have ef : ∀ m, frzA (m + 8) (.ptr 1 0 0 0) [.live ⟨0, 5, [row]⟩, .live ⟨0, 3, [[.osl 2 1 1 0 ks.length, .osl 3 1 2 0 vs.length, .s (.slice none 0 0)]]⟩, .live ⟨1, 1, ks.map (cellC .u64)⟩, .live ⟨1, 2, vs.map extentC⟩] =
  some (.cptr [mkF 1 (ks.map (cellC .u64)), mkF 2 (vs.map extentC), .fsl 0 []], [.live ⟨0, 5, [row]⟩, .dead, .dead, .dead]) := by
  intro m; simp [frzA, frzL, frzRows, nilS, pureA, qbX, pure_ks, qlK, List.take_of_length_le]
 unfold frozeO oFrz
 simp only [if_neg (show ¬ pureA (.ptr 1 0 0 0) = true by simp [pureA]), show (1000 : Nat) = 992 + 8 from rfl, ef, hnn]
 simp [Go.Ab.trim, qa2, hr]
theorem froze_kids {k v c cv : Nat} {ks : List Int} {vs : List Extent} {kids : List Nd} (ha : H[a]? = some (.live ⟨0, 3, [[.osl k 1 1 0 ks.length, .osl v 1 2 0 vs.length, .osl c cv 1 0 kids.length]]⟩)) (hk : H[k]? = some (.live ⟨1, 1, ks.map (cellC .u64)⟩)) (hv : H[v]? = some (.live ⟨1, 2, vs.map extentC⟩))
 (hc : H[c]? = some (.live ⟨cv, 1, kids.map kidC⟩)) (d1 : k ≠ a) (d2 : v ≠ a) (d3 : v ≠ k) (d4 : c ≠ a) (d5 : c ≠ k) (d6 : c ≠ v) :
 frozeO (finish 1 (.ok (.ptr a 0 0 0)) H) = some (.ok (.cptr (nodeC (.mk ks vs kids))), [.live ⟨0, 5, [row]⟩]) := by
 have ha0 : ¬ a = 0 := by rintro rfl; rw [h0] at ha; cases ha
 have hk0 : ¬ k = 0 := by rintro rfl; rw [h0] at hk; cases hk
 have hv0 : ¬ v = 0 := by rintro rfl; rw [h0] at hv; cases hv
 have hc0 : ¬ c = 0 := by rintro rfl; rw [h0] at hc; cases hc
 have hreach : Go.Ab.reach H qa3 [0] [a] = [0, a, k, v, c] := by
  rw [show qa3 = 99980 + 20 from rfl]
  simp [Go.Ab.reach, List.getD_eq_getElem?_getD, ha, ha0, hk, hk0, hv, hv0, hc, hc0, d1, d2, d3, d4, d5, d6, ids_ks, ids_vs, qaZ]
 have hrr : ∀ f, renL f row = some row := fun f => qcf _ f hr
 have h1 : (H.take 1).flatMap Go.Ab.Slot.ids = [] := by
  cases H with
  | nil => simp at h0
  | cons x r => simp at h0; subst h0; simp [hr]
 have hg0 : H.getD 0 .dead = .live ⟨0, 5, [row]⟩ := by rw [List.getD_eq_getElem?_getD, h0]; rfl
 have hga : H.getD a .dead = .live ⟨0, 3, [[.osl k 1 1 0 ks.length, .osl v 1 2 0 vs.length, .osl c cv 1 0 kids.length]]⟩ := by rw [List.getD_eq_getElem?_getD, ha]; rfl
 have hgk : H.getD k .dead = .live ⟨1, 1, ks.map (cellC .u64)⟩ := by rw [List.getD_eq_getElem?_getD, hk]; rfl
 have hgv : H.getD v .dead = .live ⟨1, 2, vs.map extentC⟩ := by rw [List.getD_eq_getElem?_getD, hv]; rfl
 have hgc : H.getD c .dead = .live ⟨cv, 1, kids.map kidC⟩ := by rw [List.getD_eq_getElem?_getD, hc]; rfl
 have hrange : List.range 1 = [0] := rfl
 have e : finish 1 (.ok (.ptr a 0 0 0)) H = some (.ok (.ptr 1 0 0 0), [.live ⟨0, 5, [row]⟩, .live ⟨0, 3, [[.osl 2 1 1 0 ks.length, .osl 3 1 2 0 vs.length, .osl 4 cv 1 0 kids.length]]⟩, .live ⟨1, 1, ks.map (cellC .u64)⟩, .live ⟨1, 2, vs.map extentC⟩, .live ⟨cv, 1, kids.map kidC⟩]) := by
  unfold finish
  simp only [qj6, h1, List.append_nil, hrange, hreach, List.map_cons, List.map_nil, hg0, hga, hgk, hgv, hgc]
  simp [Go.Ab.idx, List.idxOf?_cons, hrr, Ne.symm ha0, Ne.symm hk0, Ne.symm hv0, Ne.symm hc0, Ne.symm d1, Ne.symm d2, Ne.symm d3, Ne.symm d4, Ne.symm d5, Ne.symm d6, ren_ks, ren_vs, qbj]
 rw [e]
 have hnn : nodeC (.mk ks vs kids) = [mkF 1 (ks.map (cellC .u64)), mkF 2 (vs.map extentC), mkF 1 (kids.map kidC)] := qfC _ _ _
 have ef : ∀ m, frzA (m + 8) (.ptr 1 0 0 0) [.live ⟨0, 5, [row]⟩, .live ⟨0, 3, [[.osl 2 1 1 0 ks.length, .osl 3 1 2 0 vs.length, .osl 4 cv 1 0 kids.length]]⟩, .live ⟨1, 1, ks.map (cellC .u64)⟩, .live ⟨1, 2, vs.map extentC⟩, .live ⟨cv, 1, kids.map kidC⟩] =
  some (.cptr [mkF 1 (ks.map (cellC .u64)), mkF 2 (vs.map extentC), mkF 1 (kids.map kidC)], [.live ⟨0, 5, [row]⟩, .dead, .dead, .dead, .dead]) := by
  intro m; simp [frzA, frzL, frzRows, nilS, pureA, qbX, pure_ks, qlK, pure_kidsC, List.take_of_length_le]
 unfold frozeO oFrz
 simp only [if_neg (show ¬ pureA (.ptr 1 0 0 0) = true by simp [pureA]), show (1000 : Nat) = 992 + 8 from rfl, ef, hnn]
 simp [Go.Ab.trim, qa2, hr]
end
end Go.Ab.T
namespace Go.Ab.T
open Go Go.Ab Go.Ab.F
open Classical
def rsC (N : List NodeR) (s : RS) : List A := [mkF 3 (N.map nodeRC), .s (.int .i64 s.nxt), .s (.int .i64 s.dep), .s (.int .i64 s.cnt), .s (.bool s.bad)]
theorem rsC_ids (N : List NodeR) (s : RS) : idsL (rsC N s) = [] := by simp [rsC]
theorem rsC_pure (N : List NodeR) (s : RS) : pureL (rsC N s) = true := by simp [rsC, qd4]
abbrev slR (N : List NodeR) (s : RS) : Go.Ab.Slot := .live ⟨0, 5, [rsC N s]⟩
abbrev slB (lo hi : Option Int) : Go.Ab.Slot := .live ⟨0, 4, [bndC lo hi]⟩
def NodeV (F : CallFn) (N : List NodeR) (i depth : Int) (lo hi : Option Int) (s : RS) (r : RS × Nd) : Prop :=
 froze F [.ptr 0 0 0 0, .s (.int .i64 i), .s (.int .i64 depth), .agg (bndC lo hi)] [slR N s] = some (.ok (.cptr (nodeC r.2)), [slR N r.1])
theorem fits_call (N : List NodeR) (s : RS) (x : NodeR) (root : Bool) (B : Heap) {β : Type} (kp k : A → Heap → Option β) :
 (oLend qbc [.ptr 0 0 0 0, .agg (nodeRC x), .s (.bool root)] (slR N s :: B) kp fun w h' => oFrz w h' k) = k (.s (.bool (decide (formP x root)))) (slR N s :: B) := by
 have hl : lendL qbB [.ptr 0 0 0 0, .agg (nodeRC x), .s (.bool root)] (slR N s :: B) = some [.cptr (rsC N s), .agg (nodeRC x), .s (.bool root)] := by
  have hq : pureL [A.agg (nodeRC x), .s (.bool root)] = true := by simp [qgZ]
  have e2 : lendA (997 + 2) (.ptr 0 0 0 0) (slR N s :: B) = some (.cptr (rsC N s)) := by
   simp only [lendA, List.getElem?_cons_zero, if_true, qco _ _ _ (rsC_pure N s), Option.map_some]
  rw [show qbB = 999 + 1 from rfl, qdY _ _ _ _ (by simp), show (999 : Nat) = 997 + 2 from rfl, e2, Option.bind_some, qco _ _ _ hq]
  rfl
 have hF := fits_v x (.cptr (rsC N s)) root
 unfold oLend
 have hi : (idsL [A.ptr 0 0 0 0, .agg (nodeRC x), .s (.bool root)]).isEmpty = false := by simp
 rw [hi]
 simp only [Bool.false_eq_true, if_false, hl, hF]
 simp [ownO, ownA, ownH, qaa, setAll]
section
variable {N : List NodeR} {self : CallFn} {i depth : Int} {lo hi : Option Int} {s : RS}
abbrev nArgs (i depth : Int) (lo hi : Option Int) : List A := [.ptr 0 0 0 0, .s (.int .i64 i), .s (.int .i64 depth), .agg (bndC lo hi)]
abbrev nK8 (self : CallFn) (N : List NodeR) (i depth : Int) (lo hi : Option Int) (s : RS) (g : Bool) : Option (Out × Heap) :=
 qca qau self (.ptr 0 0 0 0) [slR N s] (.s (.int .i64 i)) (.ptr 1 0 0 0) (.s (.int .i64 depth)) Ex.normal [.s (.bool g)] [slR N s, slB lo hi]
theorem qkn : nK8 self N i depth lo hi s true = finish 1 (.ok (.ptr 2 0 0 0)) [slR N s.fail.1, slB lo hi, .live ⟨0, 3, [[.s (.slice none 0 0), .s (.slice none 0 0), .s (.slice none 0 0)]]⟩] := by
 obtain ⟨n, d, c, b⟩ := s
 simp only [nK8, qca, slR, slB, rsC, RS.fail]
 simp [qa5]
theorem k8_fail : frozeO (nK8 self N i depth lo hi s true) = some (.ok (.cptr (nodeC s.fail.2)), [slR N s.fail.1]) := by
 rw [qkn]
 exact froze_nil (by rfl) (rsC_ids _ _) (by rfl)
theorem entry_bad (hb : s.bad = true) : qaj self (nArgs i depth lo hi) [slR N s] = nK8 self N i depth lo hi s true := by
 obtain ⟨n, d, c, b⟩ := s
 simp only at hb
 subst hb
 simp only [qaj, nK8, nArgs, slR, slB, rsC, bndC]
 simp [trim, qa2]
theorem entry_nxt (hb : s.bad = false) (hi' : i ≠ s.nxt) : qaj self (nArgs i depth lo hi) [slR N s] = nK8 self N i depth lo hi s true := by
 obtain ⟨n, d, c, b⟩ := s
 simp only at hb hi'
 subst hb
 simp only [qaj, nK8, nArgs, slR, slB, rsC, bndC]
 simp [hi', trim, qa2]
theorem entry_none (hb : s.bad = false) (hi' : i = s.nxt) (hx : N.length ≤ s.nxt) : qaj self (nArgs i depth lo hi) [slR N s] = nK8 self N i depth lo hi s true := by
 obtain ⟨n, d, c, b⟩ := s
 simp only at hb hi' hx
 subst hb hi'
 simp only [qaj, nK8, nArgs, slR, slB, rsC, bndC]
 simp [hx, trim, qa2]
theorem entry_some (hb : s.bad = false) (hi' : i = s.nxt) {x : NodeR} (hx : N[s.nxt]? = some x) : qaj self (nArgs i depth lo hi) [slR N s] = nK8 self N i depth lo hi s (!decide (formP x (decide (i = 0)))) := by
 have hlt : ¬ N.length ≤ s.nxt := by have := (List.getElem?_eq_some_iff.1 hx).1; omega
 have in1 := fun {β : Type} (k : A → Option β) => qhU hx k
 have hat : cellsAt (some 3) (nodeRC x) 0 = some (.agg (nodeRC x)) := _root_.id rfl
 have hF := fun {β : Type} (kp k : A → Heap → Option β) => fits_call N s x (decide (i = 0)) [slB lo hi] kp k
 generalize hg : decide (formP x (decide (i = 0))) = g at *
 obtain ⟨n, d, c, b⟩ := s
 simp only at hb hi' hx hlt in1
 subst hb hi'
 simp only [qaj, nK8, nArgs, slR, slB, rsC, bndC] at hF ⊢
 simp [trim, qa2] at hF
 simp [hlt, in1, hat, hF, trim, qa2]
abbrev h6 (N : List NodeR) (lo hi : Option Int) (x : NodeR) (s : RS) : Heap := [slR N s, slB lo hi, .live ⟨0, 3, [nodeRC x]⟩, .live ⟨0, 3, [[.osl 4 1 1 0 x.ks.length, .osl 5 1 2 0 x.vs.length, .s (.slice none 0 0)]]⟩,
 .live ⟨1, 1, x.ks.map (cellC .u64)⟩, .live ⟨1, 2, x.vs.map extentC⟩]
abbrev nK7 (self : CallFn) (N : List NodeR) (depth : Int) (s0 : RS) (H : Heap) : Option (Out × Heap) :=
 qbs self (.ptr 2 0 0 0) (.ptr 0 0 0 0) (.s (.int .i64 depth)) [slR N s0] (.ptr 3 0 0 0) (.ptr 1 0 0 0) Ex.normal [] H
theorem k8_go {x : NodeR} (hb : s.bad = false) (hi' : i = s.nxt) (hx : N[s.nxt]? = some x) (hN : N.length ≤ 1000) (h7 : x.ks.length ≤ 7) (hv7 : x.vs.length ≤ 7) :
 nK8 self N i depth lo hi s false = nK7 self N depth s (h6 N lo hi x (rnIn x lo hi s)) := by
 have hlt := (List.getElem?_eq_some_iff.1 hx).1
 have in1 := fun {β : Type} (k : A → Option β) => qhU hx k
 have hat : cellsAt (some 3) (nodeRC x) 0 = some (.agg (nodeRC x)) := _root_.id rfl
 have hput : qa5 [.s (.slice none 0 0), .s (.slice none 0 0), .s (.slice none 0 0)] 0 (nodeRC x) = nodeRC x := _root_.id rfl
 have hl3 : (nodeRC x).length = 3 := _root_.id rfl
 have c1 : ∀ {β : Type} (m : Nat) (wr : List Nat) (h : Heap) (k : A → Heap → Option β), oCallF m wr (qa8 1 8) [mkF 1 (x.ks.map (cellC .u64))] h k = k (.osl h.length 1 1 0 x.ks.length) (h ++ [.live ⟨1, 1, x.ks.map (cellC .u64)⟩]) := fun m wr h k => by
  have : qa4 x.ks.length 8 := by unfold qa4; omega
  exact qbK _ _ _ _ _ _ 1 1 x.ks.length _ (by simp) (fun f => ren_ks f _) (by simp [qa8, this])
 have c2 : ∀ {β : Type} (m : Nat) (wr : List Nat) (h : Heap) (k : A → Heap → Option β), oCallF m wr (qa8 2 16) [mkF 2 (x.vs.map extentC)] h k = k (.osl h.length 1 2 0 x.vs.length) (h ++ [.live ⟨1, 2, x.vs.map extentC⟩]) := fun m wr h k => by
  have : qa4 x.vs.length 16 := by unfold qa4; omega
  exact qbK _ _ _ _ _ _ 1 2 x.vs.length _ (by simp) (fun f => ren_vs f _) (by simp [qa8, this])
 have hC := fun (H : Heap) {β : Type} (kp k : A → Heap → Option β) => qlh lo hi x.ks (by omega) H kp k
 have hbp : pureA (.agg (bndC lo hi)) = true := by simp [bndC]
 have hbat : cellsAt (some 4) (bndC lo hi) 0 = some (.agg (bndC lo hi)) := _root_.id rfl
 obtain ⟨n, d, c, b⟩ := s
 simp only at hb hi' hx hlt in1
 subst hb hi'
 have w1 : IntKind.i64.wrap ((n : Int) + 1) = ((n + 1 : Nat) : Int) := by rw [qad (by omega) (by omega)]; simp
 simp only [nK8, nK7, h6, slR, slB, rsC, rnIn]
 generalize hg : decide (inK lo hi x.ks) = g at *
 simp only [qca]
 simp [w1, in1, hat, hput, hl3, qa5]
 simp [nodeRC, oLoadD, c1, c2, qa5, hbat, oBound_of, hbp, hC, Go.Ab.place, trim, qa2]
theorem k7_leaf {x : NodeR} (s0 : RS) (hidx : x.idx = []) (h7 : x.ks.length ≤ 7) (hc : s.cnt ≤ 100000) :
 nK7 self N depth s0 (h6 N lo hi x s) = finish 1 (.ok (.ptr 3 0 0 0)) (h6 N lo hi x (rnLeaf x depth s)) := by
 obtain ⟨n, d, c, b⟩ := s
 simp only at hc
 have w1 : IntKind.i64.wrap ((c : Int) + x.ks.length) = ((c + x.ks.length : Nat) : Int) := by rw [qad (by omega) (by omega)]; simp
 by_cases hd : d < 0
 · cases b <;>
   · simp only [nK7, h6, slR, slB, rsC, rnLeaf, qbs, nodeRC, hidx]
     simp [hd, qa5, trim, qa2, qcc, qcd, oLoadD, w1]
 · by_cases he : d = depth
   · cases b <;>
     · simp only [nK7, h6, slR, slB, rsC, rnLeaf, qbs, nodeRC, hidx]
       simp [hd, he, qa5, trim, qa2, qcc, qcd, oLoadD, w1]
   · cases b <;>
     · simp only [nK7, h6, slR, slB, rsC, rnLeaf, qbs, nodeRC, hidx]
       simp [hd, he, qa5, trim, qa2, qcc, qcd, oLoadD, w1]
end
end Go.Ab.T
namespace Go.Ab.T
open Go Go.Ab Go.Ab.F
open Classical
section
variable {N : List NodeR} {self : CallFn} {depth : Int} {lo hi : Option Int} {x : NodeR}
abbrev base (N : List NodeR) (lo hi : Option Int) (x : NodeR) (s : RS) (kid : A) (T : Heap) : Heap :=
 slR N s :: slB lo hi :: .live ⟨0, 3, [nodeRC x]⟩ :: .live ⟨0, 3, [[.osl 4 1 1 0 x.ks.length, .osl 5 1 2 0 x.vs.length, kid]]⟩ :: .live ⟨1, 1, x.ks.map (cellC .u64)⟩ :: .live ⟨1, 2, x.vs.map extentC⟩ :: T
theorem qkz {gc : Bool} {n0 : Nat} (vs : List A) {h : Heap} (hl : h.length ≤ n0) : Go.Ab.trim gc n0 vs h = some (vs, h) := by
 unfold Go.Ab.trim
 rw [List.take_of_length_le hl]
 split <;> rfl
abbrev nL5 (self : CallFn) (x : NodeR) (depth : Int) (N : List NodeR) (lo hi : Option Int) (s1 : RS) : List A × Heap → Option ((List A × Heap) ⊕ (Ex × List A × Heap)) :=
 qbg self (.s (.int .i64 x.idx.length)) (mkF 1 (x.idx.map (cellC .i64))) (.ptr 1 0 0 0) (.ptr 2 0 0 0) (.ptr 3 0 0 0) (.ptr 0 0 0 0) (.s (.int .i64 depth)) (h6 N lo hi x s1)
abbrev nK3 (self : CallFn) (x : NodeR) (depth : Int) (N : List NodeR) (lo hi : Option Int) (s1 s : RS) (j : Nat) (m : Int) (kid : A) (T : Heap) : Option ((List A × Heap) ⊕ (Ex × List A × Heap)) :=
 qcb self (.ptr 3 0 0 0) (.ptr 0 0 0 0) (.s (.int .i64 depth)) (.ptr (T.length + 1 + 1 + 1 + 1 + 1 + 1) 0 0 0) (.s (.int .i64 m)) ([.s (.int .i64 j)], base N lo hi x s kid T) (h6 N lo hi x s1) Ex.normal [] (base N lo hi x s kid (T ++ [slB (loK lo x.ks j) (hiK hi x.ks j)]))
theorem at_tail (a0 a1 a2 a3 a4 a5 : Go.Ab.Slot) (T R : Heap) : (a0 :: a1 :: a2 :: a3 :: a4 :: a5 :: (T ++ R))[T.length + 1 + 1 + 1 + 1 + 1 + 1]? = R[0]? := by
 have : (a0 :: a1 :: a2 :: a3 :: a4 :: a5 :: (T ++ R)) = ([a0, a1, a2, a3, a4, a5] ++ T) ++ R := by simp
 rw [this, List.getElem?_append_right (by simp)]
 congr 1; simp
theorem qiV (a0 a1 a2 a3 a4 a5 : Go.Ab.Slot) (T R : Heap) (y : Go.Ab.Slot) : (a0 :: a1 :: a2 :: a3 :: a4 :: a5 :: (T ++ R)).set (T.length + 1 + 1 + 1 + 1 + 1 + 1) y = (a0 :: a1 :: a2 :: a3 :: a4 :: a5 :: (T ++ R.set 0 y)) := by
 simp
theorem qha (a0 a1 a2 a3 a4 a5 b : Go.Ab.Slot) (T : Heap) (vs : List A) : Go.Ab.trim true (T.length + 1 + 1 + 1 + 1 + 1 + 1 + 1) vs (a0 :: a1 :: a2 :: a3 :: a4 :: a5 :: (T ++ [b])) = some (vs, a0 :: a1 :: a2 :: a3 :: a4 :: a5 :: (T ++ [b])) := qkz _ (by simp)
theorem l5_pre (s1 : RS) {s : RS} {j : Nat} (hj : j < x.idx.length) (hjk : j ≤ x.ks.length) (h7 : x.ks.length ≤ 7) (kid : A) (T : Heap) :
 nL5 self x depth N lo hi s1 ([.s (.int .i64 j)], base N lo hi x s kid T) = nK3 self x depth N lo hi s1 s j x.idx[j] kid T := by
 have ip := fun {β : Type} (k : A → Option β) => qbE 1 (cellC .i64) x.idx .i64 _ _ k (List.getElem?_eq_getElem hj)
 have hbat : cellsAt (some 4) (bndC lo hi) 0 = some (.agg (bndC lo hi)) := _root_.id rfl
 have hbl : (bndC lo hi).length = 4 := _root_.id rfl
 simp only [nL5, nK3, base, h6, slR, slB]
 generalize rsC N s = rs
 generalize x.idx[j] = m at *
 have hput : qa5 [.s (.int .u64 0), .s (.int .u64 0), .s (.bool false), .s (.bool false)] 0 (bndC lo hi) = bndC lo hi := _root_.id rfl
 cases j with
 | zero =>
   have ip0 : ∀ {β : Type} (k : A → Option β), oIdxA 1 (mkF 1 (x.idx.map (cellC .i64))) (.s (.int .i64 0)) k = k (.cptr (cellC .i64 m)) := fun k => ip k
   by_cases hk : 0 < x.ks.length
   · have ik : ∀ {β : Type} (k : A → Option β), oIdxA 1 (mkF 1 (x.ks.map (cellC .u64))) (.s (.int .i64 0)) k = k (.cptr (cellC .u64 x.ks[0])) := fun k => idx_key (l := x.ks) (i := 0) hk k
     have e0 : loK lo x.ks 0 = lo := rfl
     have e1 : hiK hi x.ks 0 = some x.ks[0] := by simp [hiK, hk]
     simp only [qbg]
     simp [hj, ip0, hbat, hbl, at_tail, qiV, qha, hput, qbI, nodeRC, hk, ik, e0, e1]
     simp [bndC, qa5]
   · have hk' : x.ks.length = 0 := by omega
     have e0 : loK lo x.ks 0 = lo := rfl
     have e1 : hiK hi x.ks 0 = hi := by simp [hiK, hk]
     simp only [qbg]
     simp [hj, ip0, hbat, hbl, at_tail, qiV, qha, hput, qbI, nodeRC, hk', e0, e1]
 | succ j =>
   have hp : (0 : Int) < ((j + 1 : Nat) : Int) := by omega
   have hjk' : j < x.ks.length := by omega
   have w2 : IntKind.i64.wrap (((j + 1 : Nat) : Int) - 1) = (j : Int) := by rw [qad (by omega) (by omega)]; omega
   have ik0 := fun {β : Type} (k : A → Option β) => idx_key (l := x.ks) (i := j) hjk' k
   have e0 : loK lo x.ks (j + 1) = some x.ks[j] := by simp [loK, hjk']
   by_cases hk : j + 1 < x.ks.length
   · have ik := fun {β : Type} (k : A → Option β) => idx_key (l := x.ks) (i := j + 1) hk k
     have e1 : hiK hi x.ks (j + 1) = some x.ks[j + 1] := by simp [hiK, hk]
     simp only [qbg]
     simp [hj, hp, w2, ip, hbat, hbl, at_tail, qiV, qha, hput, qbI, nodeRC, hk, ik, ik0, e0, e1, -Int.natCast_add]
     simp [bndC, qa5]
   · have e1 : hiK hi x.ks (j + 1) = hi := by simp [hiK, hk]
     have hk' : ¬ (((j + 1 : Nat) : Int) < (x.ks.length : Int)) := by omega
     simp only [qbg]
     simp [hj, hp, w2, ip, hbat, hbl, at_tail, qiV, qha, hput, qbI, nodeRC, hk, hk', ik0, e0, e1, -Int.natCast_add]
     simp [bndC, qa5]
theorem qlY {lo' hi' : Option Int} {s : RS} {m : Int} {r : RS × Nd} (hV : NodeV self N m (depth + 1) lo' hi' s r) (n0 : Nat) (W : List Nat) (hW : 0 ∈ W) (B : Heap) {β : Type} (k : A → Heap → Option β) :
 oCallW n0 W (froze self) [.ptr 0 0 0 0, .s (.int .i64 m), .s (.int .i64 (depth + 1)), .agg (bndC lo' hi')] (slR N s :: B) k = k (.cptr (nodeC r.2)) (slR N r.1 :: B) := by
 have hi0 : idsL [A.ptr 0 0 0 0, .s (.int .i64 m), .s (.int .i64 (depth + 1)), .agg (bndC lo' hi')] = [0] := by simp [bndC]
 have hb : idsL (bndC lo' hi') = [] := by simp [bndC]
 have hok : okW n0 W [0] (slR N s :: B) = true := by
  simp [okW, nodupB, hW, liveS, rsC_ids]
 have hren : renL (idx [0]) [A.ptr 0 0 0 0, .s (.int .i64 m), .s (.int .i64 (depth + 1)), .agg (bndC lo' hi')] = some [A.ptr 0 0 0 0, .s (.int .i64 m), .s (.int .i64 (depth + 1)), .agg (bndC lo' hi')] := by
  have := fun f => qcf _ f hb
  simp [renL, renA, Go.Ab.idx, this]
 unfold NodeV at hV
 unfold oCallW
 rw [hi0, if_pos hok, hren]
 simp only [List.map_cons, List.map_nil, List.getD_cons_zero, hV]
 simp [flatS, rsC_ids, setAll]
theorem wr_ids (s : RS) (kid : A) (T : Heap) : wrL (base N lo hi x s kid T) [(.ptr 0 0 0 0, false), (.ptr 3 0 0 0, true)] = 0 :: 4 :: 5 :: idsA kid := by
 simp [wrL, wrA, idTop]
theorem place_1 (a0 a1 a2 a3 a4 a5 b c : Go.Ab.Slot) (T : Heap) (ob : Obj) : Go.Ab.place (some (T.length + 1 + 1 + 1 + 1 + 1 + 1 + 1)) (a0 :: a1 :: a2 :: a3 :: a4 :: a5 :: (T ++ [b, .res, c])) ob =
 some (T.length + 1 + 1 + 1 + 1 + 1 + 1 + 1, a0 :: a1 :: a2 :: a3 :: a4 :: a5 :: (T ++ [b, .live ob, c])) := by
 have e : (T ++ [b, .res, c])[T.length + 1]? = some .res := by rw [List.getElem?_append_right (by omega)]; simp
 have e2 : (T ++ [b, .res, c]).set (T.length + 1) (.live ob) = T ++ [b, .live ob, c] := by rw [List.set_append_right _ _ (by omega)]; simp
 simp [Go.Ab.place, e, e2]
theorem place_2 (a0 a1 a2 a3 a4 a5 b c : Go.Ab.Slot) (T : Heap) (ob : Obj) : Go.Ab.place (some (T.length + 1 + 1 + 1 + 1 + 1 + 1 + 1 + 1)) (a0 :: a1 :: a2 :: a3 :: a4 :: a5 :: (T ++ [b, c, .res])) ob =
 some (T.length + 1 + 1 + 1 + 1 + 1 + 1 + 1 + 1, a0 :: a1 :: a2 :: a3 :: a4 :: a5 :: (T ++ [b, c, .live ob])) := by
 have e : (T ++ [b, c, .res])[T.length + 1 + 1]? = some .res := by rw [List.getElem?_append_right (by omega)]; simp [show T.length + 1 + 1 - T.length = 2 by omega]
 have e2 : (T ++ [b, c, .res]).set (T.length + 1 + 1) (.live ob) = T ++ [b, c, .live ob] := by rw [List.set_append_right _ _ (by omega)]; simp [show T.length + 1 + 1 - T.length = 2 by omega]
 simp [Go.Ab.place, e, e2]
theorem at_1 (a0 a1 a2 a3 a4 a5 b c d : Go.Ab.Slot) (T : Heap) : (a0 :: a1 :: a2 :: a3 :: a4 :: a5 :: (T ++ [b, c, d]))[T.length + 1 + 1 + 1 + 1 + 1 + 1 + 1]? = some c := by
 have e : (T ++ [b, c, d])[T.length + 1]? = some c := by rw [List.getElem?_append_right (by omega)]; simp
 simp [e]
theorem qkA (a0 a1 a2 a4 a5 : Go.Ab.Slot) (ob : Obj) (R : Heap) (id : Nat) (hid : 6 ≤ id) (hm : id ∈ idsRows ob.rows) (vs : List A) : Go.Ab.trim true 6 vs (a0 :: a1 :: a2 :: .live ob :: a4 :: a5 :: R) = some (vs, a0 :: a1 :: a2 :: .live ob :: a4 :: a5 :: R) := by
 unfold Go.Ab.trim
 rw [if_neg]
 simp only [Bool.true_and, Bool.and_eq_true, List.all_eq_true, not_and]
 intro _ h
 have := h (.live ob) (by simp)
 simp only [qa2, List.all_eq_true, decide_eq_true_eq] at this
 have := this id hm
 omega
theorem k3_first (s1 : RS) {s : RS} {m : Int} {r : RS × Nd} (hd : -1 ≤ depth ∧ depth < 1000000) (hV : NodeV self N m (depth + 1) (loK lo x.ks 0) (hiK hi x.ks 0) s r) (T : Heap) :
 nK3 self x depth N lo hi s1 s 0 m (.s (.slice none 0 0)) T = some (.inl ([.s (.int .i64 1)], base N lo hi x r.1 (.osl (T.length + 1 + 1 + 1 + 1 + 1 + 1 + 1 + 1) 0 1 0 1) (T ++ [slB (loK lo x.ks 0) (hiK hi x.ks 0), .live ⟨0, 1, [kidC r.2]⟩, .live ⟨0, 1, [kidC r.2]⟩]))) := by
 have w1 : IntKind.i64.wrap (depth + 1) = depth + 1 := qad (by omega) (by omega)
 have hbat : cellsAt (some 4) (bndC (loK lo x.ks 0) (hiK hi x.ks 0)) 0 = some (.agg (bndC (loK lo x.ks 0) (hiK hi x.ks 0))) := _root_.id rfl
 have hC := fun (n0 : Nat) (B : Heap) {β : Type} (k : A → Heap → Option β) => qlY (depth := depth) hV n0 [0, 4, 5] (by simp) B k
 have hw := wr_ids (N := N) (lo := lo) (hi := hi) (x := x) s (.s (.slice none 0 0)) (T ++ [slB (loK lo x.ks 0) (hiK hi x.ks 0)])
 simp only [nK3, base, slR, slB] at hw hC ⊢
 generalize rsC N s = rs at *
 generalize rsC N r.1 = rs' at *
 generalize bndC (loK lo x.ks 0) (hiK hi x.ks 0) = bb at *
 simp only [qcb]
 have ap : qa4 1 8 := by unfold qa4; omega
 simp [hw, oLoadD, w1, hbat, hC, place_1, place_2, qb2, qeQ, at_1, ap, qa5]
 have w0 : IntKind.i64.wrap 1 = 1 := qad (by omega) (by omega)
 rw [qkA _ _ _ _ _ _ _ (T.length + 1 + 1 + 1 + 1 + 1 + 1 + 1 + 1) (by omega) (by simp), w0]
theorem k3_next (s1 : RS) {s : RS} {j : Nat} {m : Int} {r : RS × Nd} (hj : j < 1000) (hd : -1 ≤ depth ∧ depth < 1000000) (hV : NodeV self N m (depth + 1) (loK lo x.ks j) (hiK hi x.ks j) s r) {T : Heap} {tc cv : Nat} {kids : List Nd}
 (hT : T[tc]? = some (.live ⟨cv, 1, kids.map kidC⟩)) (hkl : kids.length = j) :
 nK3 self x depth N lo hi s1 s j m (.osl (tc + 1 + 1 + 1 + 1 + 1 + 1) cv 1 0 j) T = some (.inl ([.s (.int .i64 (j + 1 : Nat))], base N lo hi x r.1 (.osl (tc + 1 + 1 + 1 + 1 + 1 + 1) (cv + 1) 1 0 (j + 1))
  (T.set tc (.live ⟨cv + 1, 1, (kids ++ [r.2]).map kidC⟩) ++ [slB (loK lo x.ks j) (hiK hi x.ks j), .live ⟨0, 1, [kidC r.2]⟩, .res]))) := by
 have w1 : IntKind.i64.wrap (depth + 1) = depth + 1 := qad (by omega) (by omega)
 have w2 : IntKind.i64.wrap ((j : Int) + 1) = ((j + 1 : Nat) : Int) := by rw [qad (by omega) (by omega)]; simp
 have hbat : cellsAt (some 4) (bndC (loK lo x.ks j) (hiK hi x.ks j)) 0 = some (.agg (bndC (loK lo x.ks j) (hiK hi x.ks j))) := _root_.id rfl
 have htl : tc < T.length := (List.getElem?_eq_some_iff.1 hT).1
 have hC := fun (n0 : Nat) (B : Heap) {β : Type} (k : A → Heap → Option β) => qlY (depth := depth) hV n0 [0, 4, 5, tc + 1 + 1 + 1 + 1 + 1 + 1] (by simp) B k
 have hw := wr_ids (N := N) (lo := lo) (hi := hi) (x := x) s (.osl (tc + 1 + 1 + 1 + 1 + 1 + 1) cv 1 0 j) (T ++ [slB (loK lo x.ks j) (hiK hi x.ks j)])
 have g1 : ∀ R : Heap, (T ++ R)[tc]? = some (.live ⟨cv, 1, kids.map kidC⟩) := fun R => by rw [List.getElem?_append_left htl, hT]
 have g2 : ∀ (R : Heap) y, (T ++ R).set tc y = T.set tc y ++ R := fun R y => List.set_append_left _ _ htl
 have htk : (kids.map kidC).take j = kids.map kidC := List.take_of_length_le (by simp [hkl])
 simp only [nK3, base, slR, slB] at hw hC ⊢
 generalize rsC N s = rs at *
 generalize rsC N r.1 = rs' at *
 generalize bndC (loK lo x.ks j) (hiK hi x.ks j) = bb at *
 simp only [qcb]
 have ap : qa4 (j + 1) 8 := by unfold qa4; omega
 have ne1 : ¬ (T.length + 1 + 1 + 1 + 1 + 1 + 1 = tc + 1 + 1 + 1 + 1 + 1 + 1) := by omega
 simp [hw, oLoadD, w1, hbat, hC, place_1, qb2, qb1, at_1, ap, qa5, ne1, g1, g2, hkl, htk]
 rw [qkA _ _ _ _ _ _ _ (tc + 1 + 1 + 1 + 1 + 1 + 1) (by omega) (by simp), w2]
 exact ⟨by omega, by simp⟩
def KidAt (T : Heap) (kid : A) (kids : List Nd) : Prop :=
 (kid = .s (.slice none 0 0) ∧ T = [] ∧ kids = []) ∨ (0 < kids.length ∧ ∃ tc cv, kid = .osl (tc + 1 + 1 + 1 + 1 + 1 + 1) cv 1 0 kids.length ∧ T[tc]? = some (.live ⟨cv, 1, kids.map kidC⟩))
theorem kids_go (hN : N.length ≤ 1000) {f : Nat} (s1 : RS) (hd : 0 ≤ depth ∧ depth < s1.nxt) (hs1 : RInv N s1) (h7 : x.ks.length ≤ 7) (hidx : x.idx.length = x.ks.length + 1)
 (hself : ∀ m lo hi s, RInv N s → s1.nxt ≤ s.nxt → NodeV self N m (depth + 1) lo hi s (rn f N m (depth + 1) lo hi s)) :
 ∃ q, (∃ T kid kids s, KidAt T kid kids ∧ kids.length = x.idx.length ∧ rnKids (rn f N · (depth + 1)) lo hi x.ks 0 x.idx s1 [] = (s, kids) ∧ q = (Ex.exit 0, [], base N lo hi x s kid T)) ∧
   ∀ {β : Type} (k : Ex → List A → Heap → Option β), oLoop (nL5 self x depth N lo hi s1) ([.s (.int .i64 0)], h6 N lo hi x s1) k = k q.1 q.2.1 q.2.2 := by
 obtain ⟨q, hq, h⟩ := qb6 (step := nL5 self x depth N lo hi s1) (s0 := ([.s (.int .i64 0)], h6 N lo hi x s1))
  (fun j st => ∃ T kid kids s, KidAt T kid kids ∧ kids.length = j ∧ RInv N s ∧ s1.nxt ≤ s.nxt ∧ rnKids (rn f N · (depth + 1)) lo hi x.ks j (x.idx.drop j) s kids = rnKids (rn f N · (depth + 1)) lo hi x.ks 0 x.idx s1 [] ∧
   st = ([.s (.int .i64 j)], base N lo hi x s kid T))
  (fun q => ∃ T kid kids s, KidAt T kid kids ∧ kids.length = x.idx.length ∧ rnKids (rn f N · (depth + 1)) lo hi x.ks 0 x.idx s1 [] = (s, kids) ∧ q = (Ex.exit 0, [], base N lo hi x s kid T)) x.idx.length
  ⟨[], .s (.slice none 0 0), [], s1, .inl ⟨rfl, rfl, rfl⟩, rfl, hs1, Nat.le_refl _, by simp, rfl⟩ (by omega)
  (by
   rintro j st hj ⟨T, kid, kids, s, hK, hkl, hs, hn, hrun, rfl⟩
   left
   rw [l5_pre s1 hj (by omega) h7 kid T]
   rw [List.drop_eq_getElem_cons hj] at hrun
   have hb : s.nxt ≤ N.length := hs.nxt
   have hV := hself x.idx[j] (loK lo x.ks j) (hiK hi x.ks j) s hs hn
   obtain ⟨i1, i2⟩ := rn_inv (N := N) f x.idx[j] (depth + 1) (loK lo x.ks j) (hiK hi x.ks j) s hs
   generalize x.idx[j] = m at *
   simp only [rnKids] at hrun
   generalize hr : rn f N m (depth + 1) (loK lo x.ks j) (hiK hi x.ks j) s = r at *
   rcases hK with ⟨rfl, rfl, rfl⟩ | ⟨h0, tc, cv, rfl, hT⟩
   · simp only [List.length_nil] at hkl
     subst hkl
     refine ⟨_, k3_first s1 (by omega) hV [], _, _, [r.2], r.1, .inr ⟨by simp, 2, 0, rfl, by rfl⟩, rfl, i1, Nat.le_trans hn i2, hrun, rfl⟩
   · have htl : tc < T.length := (List.getElem?_eq_some_iff.1 hT).1
     refine ⟨_, (by rw [hkl]; exact k3_next s1 (by omega) (by omega) hV hT hkl), _, _, kids ++ [r.2], r.1, .inr ⟨by simp, tc, cv + 1, ?_, ?_⟩, by simp [hkl], i1, Nat.le_trans hn i2, hrun, rfl⟩
     · simp [hkl]
     · rw [List.getElem?_append_left (by simpa using htl), List.getElem?_set_self htl])
  (by
   rintro st ⟨T, kid, kids, s, hK, hkl, hs, hn, hrun, rfl⟩
   rw [List.drop_length] at hrun
   simp only [rnKids] at hrun
   refine ⟨_, ?_, T, kid, kids, s, hK, hkl, hrun.symm, rfl⟩
   rcases hK with ⟨rfl, rfl, rfl⟩ | ⟨h0, tc, cv, rfl, hT⟩
   · simp at hkl; omega
   · simp only [nL5, qbg, base, h6]
     simp [qkA _ _ _ _ _ _ _ (tc + 1 + 1 + 1 + 1 + 1 + 1)])
 exact ⟨q, hq, h⟩
end
end Go.Ab.T
namespace Go.Ab.T
open Go Go.Ab Go.Ab.F
open Classical
theorem node_v {N : List NodeR} (hN : N.length ≤ 1000) : ∀ (f : Nat) (i depth : Int) (lo hi : Option Int) (s : RS), RInv N s → 0 ≤ depth → depth ≤ s.nxt → N.length - s.nxt < f →
 (∃ a H, qaz f (nArgs i depth lo hi) [slR N s] = finish 1 (.ok (.ptr a 0 0 0)) H) ∧ NodeV (qaz f) N i depth lo hi s (rn f N i depth lo hi s)
 | 0, i, depth, lo, hi, s, hs, h0, h1, hf => by omega
 | f + 1, i, depth, lo, hi, s, hs, h0, h1, hf => by
   have hfail : ∀ {F : CallFn}, F (nArgs i depth lo hi) [slR N s] = nK8 (qaz f) N i depth lo hi s true → (∃ a H, F (nArgs i depth lo hi) [slR N s] = finish 1 (.ok (.ptr a 0 0 0)) H) ∧ NodeV F N i depth lo hi s s.fail := by
    intro F hF
    refine ⟨⟨2, [slR N s.fail.1, slB lo hi, .live ⟨0, 3, [[.s (.slice none 0 0), .s (.slice none 0 0), .s (.slice none 0 0)]]⟩], ?_⟩, ?_⟩
    · rw [hF]; exact qkn
    · unfold NodeV
      rw [qj9]
      exact (congrArg frozeO hF).trans k8_fail
   show (∃ a H, qaj (qaz f) (nArgs i depth lo hi) [slR N s] = finish 1 (.ok (.ptr a 0 0 0)) H) ∧ NodeV (qaj (qaz f)) N i depth lo hi s (rn (f + 1) N i depth lo hi s)
   simp only [rn]
   by_cases hb : s.bad = true
   · rw [if_pos (.inl hb)]
     exact hfail (entry_bad hb)
   · have hb : s.bad = false := by cases h : s.bad <;> simp_all
     by_cases hi0 : i = s.nxt
     · rw [if_neg (by simp [hb, hi0])]
       cases hx : N[s.nxt]? with
       | none => exact hfail (entry_none hb hi0 (List.getElem?_eq_none_iff.1 hx))
       | some x =>
         have hlt := (List.getElem?_eq_some_iff.1 hx).1
         have hent := entry_some (self := qaz f) (depth := depth) (lo := lo) (hi := hi) hb hi0 hx
         simp only
         by_cases hf' : formP x (decide (i = 0))
         · rw [if_pos hf']
           simp only [hf', decide_true, Bool.not_true] at hent
           obtain ⟨f1, f2, f3, f4⟩ := hf'
           have hv7 : x.vs.length ≤ 7 := by
            rcases f4 with g | g
            · rw [g.2]; exact f1
            · rw [g.2.1]; simp
           have hgo := hent.trans (k8_go hb hi0 hx hN f1 hv7)
           have hcn := hs.cnt
           have hnn := hs.nxt
           by_cases hidx : x.idx = []
           · rw [if_pos hidx]
             have hfin := hgo.trans (k7_leaf s hidx f1 (by show s.cnt ≤ 100000; omega))
             refine ⟨⟨3, _, hfin⟩, ?_⟩
             unfold NodeV
             rw [qj9]
             refine (congrArg frozeO hfin).trans ?_
             exact froze_leaf (by rfl) (rsC_ids _ _) (k := 4) (v := 5) (by rfl) (by rfl) (by rfl) (by omega) (by omega) (by omega)
           · rw [if_neg hidx]
             have hidl : x.idx.length = x.ks.length + 1 := by
              rcases f4 with g | g
              · exact absurd g.1 hidx
              · exact g.2.2.1
             have hnx : (rnIn x lo hi s).nxt = s.nxt + 1 := rfl
             obtain ⟨q, ⟨T, kid, kids, s', hK, hkl, hrn, rfl⟩, hloop⟩ := kids_go (self := qaz f) (depth := depth) (lo := lo) (hi := hi) (x := x) hN (f := f) (rnIn x lo hi s) ⟨h0, by rw [hnx]; omega⟩
              ⟨by show s.cnt ≤ 7 * (s.nxt + 1); omega, by show s.nxt + 1 ≤ N.length; omega⟩ f1 hidl (fun m lo' hi' s' g1 g2 => (node_v hN f m (depth + 1) lo' hi' s' g1 (by omega) (by rw [hnx] at g2; omega) (by rw [hnx] at g2; omega)).2)
             rw [hrn]
             simp only
             have hfin : qaj (qaz f) (nArgs i depth lo hi) [slR N s] = finish 1 (.ok (.ptr 3 0 0 0)) (base N lo hi x s' kid T) := by
              refine hgo.trans ?_
              have hid0 : ¬ ((x.idx.length : Int) = 0) := by omega
              have e : nK7 (qaz f) N depth s (h6 N lo hi x (rnIn x lo hi s)) = oLoop (nL5 (qaz f) x depth N lo hi (rnIn x lo hi s)) ([.s (.int .i64 0)], h6 N lo hi x (rnIn x lo hi s)) (qdp [slR N s] (.ptr 3 0 0 0)) := by
               simp only [nK7, nL5, h6, qbs, nodeRC]
               simp [hid0, hidx]
              rw [e, hloop]
              simp [qdp]
             refine ⟨⟨3, _, hfin⟩, ?_⟩
             unfold NodeV
             rw [qj9]
             refine (congrArg frozeO hfin).trans ?_
             rcases hK with ⟨rfl, rfl, rfl⟩ | ⟨hk0, tc, cv, rfl, hT⟩
             · simp at hkl; omega
             · exact froze_kids (by rfl) (rsC_ids _ _) (k := 4) (v := 5) (c := tc + 1 + 1 + 1 + 1 + 1 + 1) (cv := cv) (by rfl) (by rfl) (by rfl) (by simpa using hT) (by omega) (by omega) (by omega) (by omega) (by omega) (by omega)
         · rw [if_neg hf']
           simp only [hf', decide_false, Bool.not_false] at hent
           exact hfail hent
     · rw [if_pos (.inr hi0)]
       exact hfail (entry_nxt hb hi0)
end Go.Ab.T
namespace Go.Ab.T
open Go Go.Ab Go.Ab.F
open Classical
mutual
theorem qjq : ∀ (a : A), renA (fun j => some j) a = some a
 | .s v => by simp [renA]
 | .any => by simp [renA]
 | .cptr _ => by simp [renA]
 | .fsl _ _ => by simp [renA]
 | .ptr id ver row off => by simp [renA]
 | .osl id ver sz lo len => by simp [renA]
 | .mref id => by simp [renA]
 | .agg cs => by simp [renA, qg5 cs]
 | .tup cs => by simp [renA, qg5 cs]
 | .fn n cs => by simp [renA, qg5 cs]
 | .iface t a => by simp [renA, qjq a]
theorem qg5 : ∀ (l : List A), renL (fun j => some j) l = some l
 | [] => by simp [renL]
 | a :: l => by simp [renL, qjq a, qg5 l]
end
theorem qix : ∀ (l : List (List A)), renRows (fun j => some j) l = some l
 | [] => by simp [renRows]
 | a :: l => by simp [renRows, qg5 a, qix l]
theorem qiy : ∀ (l : Heap), (∀ s ∈ l, s ≠ .res) → renHeap (fun j => some j) l = some l
 | [], _ => rfl
 | s :: l, h => by
   have hl := qiy l fun x hx => h x (by simp [hx])
   have hs : renSlot (fun j => some j) s = some s := by
    cases s with
    | live ob => simp [renSlot, qix]
    | dead => rfl
    | res => exact absurd rfl (h .res (by simp))
    | mp kd es => rfl
   simp [renHeap, hs, hl]
theorem renHeap_nores {f : Nat → Option Nat} : ∀ (l l' : Heap), renHeap f l = some l' → ∀ s ∈ l', s ≠ .res
 | [], l', h => by simp [renHeap] at h; subst h; simp
 | s :: l, l', h => by
   simp only [renHeap, Option.bind_eq_some_iff, Option.map_eq_some_iff] at h
   obtain ⟨s', h1, r, h2, rfl⟩ := h
   intro y hy
   rcases List.mem_cons.1 hy with rfl | hy
   · rintro rfl
     cases s <;> simp [renSlot] at h1
   · exact renHeap_nores l r h2 y hy
theorem qjo {f : Nat → Option Nat} : ∀ (l l' : Heap), renHeap f l = some l' → l'.length = l.length
 | [], l', h => by simp [renHeap] at h; subst h; rfl
 | s :: l, l', h => by
   simp only [renHeap, Option.bind_eq_some_iff, Option.map_eq_some_iff] at h
   obtain ⟨s', h1, r, h2, rfl⟩ := h
   simp [qjo l r h2]
theorem qjB (H : Heap) : ∀ (n : Nat) (seen l : List Nat), seen.length ≤ (Go.Ab.reach H n seen l).length
 | 0, seen, l => by cases l <;> simp [Go.Ab.reach]
 | n + 1, seen, [] => by simp [Go.Ab.reach]
 | n + 1, seen, id :: l => by
   rw [Go.Ab.reach]
   split
   · exact qjB H n seen l
   · have := qjB H n (seen ++ [id]) ((H.getD id .dead).ids ++ l)
     rw [List.length_append, List.length_singleton] at this; omega
theorem finish_len {nb : Nat} {r : Out} {h : Heap} {r' : Out} {h' : Heap} (e : finish nb r h = some (r', h')) : nb ≤ h'.length := by
 simp only [finish, Option.bind_eq_some_iff, Option.map_eq_some_iff] at e
 obtain ⟨a, _, b, h1, h2⟩ := e
 cases h2
 rw [qjo _ _ h1, List.length_map]
 refine Nat.le_trans ?_ (qjB _ _ _ _)
 simp
theorem qmd {nb : Nat} {r : Out} {h : Heap} {r' : Out} {h' : Heap} (e : finish nb r h = some (r', h')) : ∀ s ∈ h', s ≠ .res := by
 simp only [finish, Option.bind_eq_some_iff, Option.map_eq_some_iff] at e
 obtain ⟨a, _, b, h1, h2⟩ := e
 cases h2
 exact renHeap_nores _ _ h1
theorem qn9 {F : CallFn} {N : List NodeR} {i depth : Int} {lo hi : Option Int} {s : RS} {r : RS × Nd} (hF : ∃ a H, F (nArgs i depth lo hi) [slR N s] = finish 1 (.ok (.ptr a 0 0 0)) H) (hV : NodeV F N i depth lo hi s r) :
 ∃ D, ∀ {β : Type} (kp k : A → Heap → Option β), (oCall F (nArgs i depth lo hi) [slR N s] kp fun w h => oFrz w h k) = k (.cptr (nodeC r.2)) (slR N r.1 :: D) := by
 obtain ⟨a, H, hF⟩ := hF
 unfold NodeV at hV
 rw [qj9] at hV
 cases hr : F (nArgs i depth lo hi) [slR N s] with
 | none => rw [hr] at hV; simp [frozeO] at hV
 | some r1 =>
   obtain ⟨o, h1⟩ := r1
   have hnr := qmd (hF.symm.trans hr)
   have hnl := finish_len (hF.symm.trans hr)
   rw [hr] at hV
   cases o with
   | pan v => simp [frozeO] at hV
   | ok a1 =>
     simp only [frozeO] at hV
     have hdet : ∃ v h2, (∀ {β : Type} (k : A → Heap → Option β), oFrz a1 h1 k = k v h2) := by
      unfold oFrz at hV ⊢
      by_cases hp : pureA a1 = true
      · exact ⟨a1, h1, fun k => by rw [if_pos hp]⟩
      · rw [if_neg hp] at hV
        cases hz : frzA 1000 a1 h1 with
        | none => rw [hz] at hV; simp at hV
        | some q => exact ⟨q.1, q.2, fun k => by rw [if_neg hp]⟩
     obtain ⟨v, h2, hdet⟩ := hdet
     rw [hdet] at hV
     simp only [Option.map_eq_some_iff] at hV
     obtain ⟨⟨us, h3⟩, ht, e⟩ := hV
     simp only [Prod.mk.injEq, Out.ok.injEq] at e
     obtain ⟨rfl, rfl⟩ := e
     have hh : h2.take 1 = [slR N r.1] := by
      unfold Go.Ab.trim at ht
      split at ht
      · simp only [Option.some.injEq, Prod.mk.injEq] at ht; exact ht.2
      · simp only [Option.some.injEq, Prod.mk.injEq] at ht; rw [ht.2]; rfl
     refine ⟨h2.drop 1, fun kp k => ?_⟩
     have hh2 : h2 = slR N r.1 :: h2.drop 1 := by
      conv => lhs; rw [← List.take_append_drop 1 h2, hh]
      rfl
     have hb : idsL (bndC lo hi) = [] := by simp [bndC]
     have hids : idsL (nArgs i depth lo hi) = [0] := by simp [bndC]
     have hreach : Go.Ab.reach [slR N s] qa3 [] [0] = [0] := by
      rw [show qa3 = 99980 + 20 from rfl]
      simp [Go.Ab.reach, rsC_ids]
     have hrb := fun f => qcf _ f hb
     have hrs := fun f => qcf _ f (rsC_ids N s)
     have hbor : borrow (nArgs i depth lo hi) [slR N s] = some ([0], nArgs i depth lo hi, [slR N s]) := by
      unfold borrow
      rw [hids, hreach]
      simp [renL, renA, Go.Ab.idx, hrb, hrs, renHeap, renSlot, renRows]
     have hback : backIdx [0] ([slR N s] : Heap).length = fun j => some j := by
      funext j
      unfold backIdx
      cases j with
      | zero => simp
      | succ j => simp; omega
     have hgb : qaa [0] [slR N s] (.ok a1) h1 = some (.ok a1, h1) := by
      unfold qaa
      rw [hback]
      simp only [renOut, qjq, Option.map_some, Option.bind_some, qiy h1 hnr]
      cases h1 with
      | nil => simp at hnl
      | cons y t => simp [setAll]
     unfold oCall
     rw [hbor]
     simp only [hr, hgb]
     rw [hdet, ← hh2]
noncomputable def rnTop (N : List NodeR) : RS × Nd := rn big N 0 0 none none ⟨0, -1, 0, false⟩
noncomputable def ofR (N : List NodeR) : Option (Nd × Nat) := if (rnTop N).1.bad = true ∨ (rnTop N).1.nxt ≠ N.length then none else some ((rnTop N).2, (rnTop N).1.cnt)
def ofB : Option (Nd × Nat) → A
 | some (nd, c) => .tup [.cptr (treeC nd c), .s (.int .i64 0)]
 | none => .tup [.s (.pointer none), .s (.int .i64 81)]
theorem Of_none {N : List NodeR} (hN : N.length ≤ 1000) (h : ofR N = none) : tree_Of [mkF 3 (N.map nodeRC)] [] = some (.ok (.tup [.s (.pointer none), .s (.int .i64 81)]), []) := by
 obtain ⟨h1, h2⟩ := node_v hN big 0 0 none none ⟨0, -1, 0, false⟩ ⟨by simp, by simp⟩ (by omega) (by simp) (by simp only; rw [big_eq]; omega)
 obtain ⟨D, hC⟩ := qn9 h1 h2
 unfold ofR at h
 have h : (rnTop N).1.bad = true ∨ (rnTop N).1.nxt ≠ N.length := Classical.byContradiction fun g => by rw [if_neg g] at h; cases h
 change ((rn big N 0 0 none none ⟨0, -1, 0, false⟩).1.bad = true ∨ (rn big N 0 0 none none ⟨0, -1, 0, false⟩).1.nxt ≠ N.length) at h
 generalize rn big N 0 0 none none ⟨0, -1, 0, false⟩ = r at *
 obtain ⟨⟨n, d, c, b⟩, nd⟩ := r
 have ht := fun (y : Go.Ab.Slot) (vs : List A) => qkz (gc := true) (n0 := D.length + 1) vs (h := y :: D) (by simp)
 simp only [nArgs, slR, rsC, bndC] at hC h
 cases b with
 | true =>
   simp at hC
   simp [tree_Of, qa5]
   simp [hC, ht, qgu]
   exact qa9 _ _ (by simp)
 | false =>
   have hne : ¬ ((n : Int) = N.length) := by
    have : n ≠ N.length := by simpa using h
    omega
   simp at hC
   simp [tree_Of, qa5]
   simp [hC, ht, qgu, hne]
   exact qa9 _ _ (by simp)
theorem Of_some {N : List NodeR} (hN : N.length ≤ 1000) {nd : Nd} {c : Nat} (h : ofR N = some (nd, c)) : tree_Of [mkF 3 (N.map nodeRC)] [] = some (.ok (.tup [.ptr 0 0 0 0, .s (.int .i64 0)]), [.live ⟨0, 2, [treeC nd c]⟩]) := by
 obtain ⟨h1, h2⟩ := node_v hN big 0 0 none none ⟨0, -1, 0, false⟩ ⟨by simp, by simp⟩ (by omega) (by simp) (by simp only; rw [big_eq]; omega)
 obtain ⟨D, hC⟩ := qn9 h1 h2
 unfold ofR at h
 have h0 : ¬ ((rnTop N).1.bad = true ∨ (rnTop N).1.nxt ≠ N.length) := fun g => by rw [if_pos g] at h; cases h
 rw [if_neg h0] at h
 simp only [Option.some.injEq, Prod.mk.injEq] at h
 obtain ⟨e1, e2⟩ := h
 change ¬ ((rn big N 0 0 none none ⟨0, -1, 0, false⟩).1.bad = true ∨ (rn big N 0 0 none none ⟨0, -1, 0, false⟩).1.nxt ≠ N.length) at h0
 change (rn big N 0 0 none none ⟨0, -1, 0, false⟩).2 = nd at e1
 change (rn big N 0 0 none none ⟨0, -1, 0, false⟩).1.cnt = c at e2
 generalize rn big N 0 0 none none ⟨0, -1, 0, false⟩ = r at *
 obtain ⟨⟨n, d, c', b⟩, nd'⟩ := r
 have ht := fun (y : Go.Ab.Slot) (vs : List A) => qkz (gc := true) (n0 := D.length + 1) vs (h := y :: D) (by simp)
 simp only at e1 e2 h0
 subst e1 e2
 cases b with
 | true => simp at h0
 | false =>
   have hne : n = N.length := by
    have : ¬ n ≠ N.length := fun g => h0 (.inr g)
    omega
   simp only [nArgs, slR, rsC, bndC] at hC
   simp at hC
   simp [tree_Of, qa5]
   simp [hC, ht, qgu, hne, qa5]
   exact fin_1 _ _ (D.length + 1) ⟨0, 2, [treeC nd' c']⟩ _ (by simp) (by simp [renA, renL]) (by simp [treeC]) (by simp [treeC]) (fun f => by simp [treeC, renRows, renL, renA])
theorem Of_gv {N : List NodeR} (hN : N.length ≤ 1000) : Gv tree_Of [mkF 3 (N.map nodeRC)] (ofB (ofR N)) := by
 intro H
 cases h : ofR N with
 | none =>
   refine ⟨[], by simp [flatD], fun kp k => ?_⟩
   rw [qbi _ _ _ _ _ _ (by simp [qd4]) (by simp) (Of_none hN h)]
   simp only [ofB, List.append_nil]
   rw [qgf _ _ _ (by simp [pureA, qbX])]
 | some r =>
   obtain ⟨nd, c⟩ := r
   refine ⟨[.dead], by simp [flatD], fun kp k => ?_⟩
   have hp : pureL (treeC nd c) = true := by simp [treeC]
   rw [qdf (a' := .tup [.ptr H.length 0 0 0, .s (.int .i64 0)]) (h' := H ++ [.live ⟨0, 2, [treeC nd c]⟩]) _ _ (by simp [qd4]) (Of_some hN h) (by
    simp [qaa, renOut, renA, renL, backIdx, setAll, renHeap, renSlot, renRows, treeC])]
   have e : ∀ m, frzA (m + 6) (.tup [.ptr H.length 0 0 0, .s (.int .i64 0)]) (H ++ [.live ⟨0, 2, [treeC nd c]⟩]) = some (.tup [.cptr (treeC nd c), .s (.int .i64 0)], H ++ [.dead]) := by
    intro m; simp [frzA, frzL, nilS, pureA, hp]
   unfold oFrz
   rw [if_neg (by simp [pureA]), show (1000 : Nat) = 994 + 6 from rfl, e]
   rfl
theorem qkT {h : Nat} {root : Nd} (hT : TreeI h root) : readR (listN 0 root) = some (T.flat root) := by
 have hl := qdO 0 root
 have hp : part (listN 0 root) 0 (cntN root) = listN 0 root := by rw [← hl]; exact qj1 _
 have := rd_full (N := listN 0 root) h big 0 none none root (by have := big_lt; have := hT.low; omega) hT.ok hT.few (fun h => absurd rfl h) hT.ne (by omega) hp
 simp only [readR, this, hl, if_true]
theorem ofR_of {h : Nat} {root : Nd} (hT : TreeI h root) : ofR (listN 0 root) = some (root, (T.flat root).length) := by
 have hl := qdO 0 root
 have hp : part (listN 0 root) 0 (cntN root) = listN 0 root := by rw [← hl]; exact qj1 _
 have := rn_full (N := listN 0 root) h big 0 none none root ⟨0, -1, 0, false⟩ (by have := big_lt; have := hT.low; omega) (by omega) hT.ok hT.few (fun h => absurd rfl h) hT.ne rfl (.inl (by simp)) (by simp only; omega) hp
 simp only at this
 have e : rnTop (listN 0 root) = (⟨0 + cntN root, 0 + h, 0 + (T.flat root).length, false⟩, root) := this
 unfold ofR
 rw [e]
 simp [hl]
end Go.Ab.T
namespace Go.Ab.T
open Go Go.Ab Go.Ab.F
theorem ga0 (T R : Heap) : (T ++ R)[T.length]? = R[0]? := by rw [List.getElem?_append_right (by omega)]; congr 1; omega
theorem sa0 (T R : Heap) (y : Go.Ab.Slot) : (T ++ R).set (T.length) y = T ++ R.set 0 y := by rw [List.set_append_right _ _ (by omega)]; congr 2; omega
theorem ga1 (T R : Heap) : (T ++ R)[T.length + 1]? = R[1]? := by rw [List.getElem?_append_right (by omega)]; congr 1; omega
theorem sa1 (T R : Heap) (y : Go.Ab.Slot) : (T ++ R).set (T.length + 1) y = T ++ R.set 1 y := by rw [List.set_append_right _ _ (by omega)]; congr 2; omega
theorem ga2 (T R : Heap) : (T ++ R)[T.length + 1 + 1]? = R[2]? := by rw [List.getElem?_append_right (by omega)]; congr 1; omega
theorem sa2 (T R : Heap) (y : Go.Ab.Slot) : (T ++ R).set (T.length + 1 + 1) y = T ++ R.set 2 y := by rw [List.set_append_right _ _ (by omega)]; congr 2; omega
theorem ga3 (T R : Heap) : (T ++ R)[T.length + 1 + 1 + 1]? = R[3]? := by rw [List.getElem?_append_right (by omega)]; congr 1; omega
theorem sa3 (T R : Heap) (y : Go.Ab.Slot) : (T ++ R).set (T.length + 1 + 1 + 1) y = T ++ R.set 3 y := by rw [List.set_append_right _ _ (by omega)]; congr 2; omega
theorem ga4 (T R : Heap) : (T ++ R)[T.length + 1 + 1 + 1 + 1]? = R[4]? := by rw [List.getElem?_append_right (by omega)]; congr 1; omega
theorem sa4 (T R : Heap) (y : Go.Ab.Slot) : (T ++ R).set (T.length + 1 + 1 + 1 + 1) y = T ++ R.set 4 y := by rw [List.set_append_right _ _ (by omega)]; congr 2; omega
theorem ga5 (T R : Heap) : (T ++ R)[T.length + 1 + 1 + 1 + 1 + 1]? = R[5]? := by rw [List.getElem?_append_right (by omega)]; congr 1; omega
theorem sa5 (T R : Heap) (y : Go.Ab.Slot) : (T ++ R).set (T.length + 1 + 1 + 1 + 1 + 1) y = T ++ R.set 5 y := by rw [List.set_append_right _ _ (by omega)]; congr 2; omega
theorem ga6 (T R : Heap) : (T ++ R)[T.length + 1 + 1 + 1 + 1 + 1 + 1]? = R[6]? := by rw [List.getElem?_append_right (by omega)]; congr 1; omega
theorem sa6 (T R : Heap) (y : Go.Ab.Slot) : (T ++ R).set (T.length + 1 + 1 + 1 + 1 + 1 + 1) y = T ++ R.set 6 y := by rw [List.set_append_right _ _ (by omega)]; congr 2; omega
theorem ga7 (T R : Heap) : (T ++ R)[T.length + 1 + 1 + 1 + 1 + 1 + 1 + 1]? = R[7]? := by rw [List.getElem?_append_right (by omega)]; congr 1; omega
theorem sa7 (T R : Heap) (y : Go.Ab.Slot) : (T ++ R).set (T.length + 1 + 1 + 1 + 1 + 1 + 1 + 1) y = T ++ R.set 7 y := by rw [List.set_append_right _ _ (by omega)]; congr 2; omega
theorem ga8 (T R : Heap) : (T ++ R)[T.length + 1 + 1 + 1 + 1 + 1 + 1 + 1 + 1]? = R[8]? := by rw [List.getElem?_append_right (by omega)]; congr 1; omega
theorem sa8 (T R : Heap) (y : Go.Ab.Slot) : (T ++ R).set (T.length + 1 + 1 + 1 + 1 + 1 + 1 + 1 + 1) y = T ++ R.set 8 y := by rw [List.set_append_right _ _ (by omega)]; congr 2; omega
theorem rep_push {H H' : Heap} {v v' : Nat} {X : List XR} {x : XR} (h : Rep H 0 v X) (h0 : H'[0]? = some (.live ⟨v', 3, (X ++ [x]).map rowC⟩)) (hold : ∀ i, i < H.length → i ≠ 0 → H'[i]? = H[i]?)
 (hc : qeF H' x) (hn : x.1.ids.Nodup) (hge : ∀ i ∈ x.1.ids, H.length ≤ i) : Rep H' 0 v' (X ++ [x]) := by
 have hin : ∀ i ∈ xIds X, i < H.length := fun i hi => by
  obtain ⟨s, hs, -⟩ := h.flat i hi
  exact qaE hs
 have hpos := qaE h.root
 refine ⟨h0, fun y hy => ?_, ?_⟩
 · rcases List.mem_append.1 hy with hy | hy
   · have := qf9 (g := fun i => i) (H' := H') (h.cells y hy) (fun i hi => by
      have hi2 : i ∈ xIds X := List.mem_flatMap.2 ⟨y, hy, hi⟩
      refine hold i (hin i hi2) ?_
      rintro rfl
      exact (List.nodup_cons.1 h.nd).1 hi2)
     have e : mvX (fun i => i) y = y := by obtain ⟨⟨a, b, c⟩, r⟩ := y; cases c <;> rfl
     rwa [e] at this
   · simp only [List.mem_cons, List.not_mem_nil, or_false] at hy
     subst hy; exact hc
 · have e : xIds (X ++ [x]) = xIds X ++ x.1.ids := by simp [xIds]
   show (0 :: xIds (X ++ [x])).Nodup
   have hnd : (0 :: xIds X).Nodup := h.nd
   rw [e, ← List.cons_append, List.nodup_append]
   refine ⟨hnd, hn, fun a ha b hb => ?_⟩
   have : a < H.length := by
    rcases List.mem_cons.1 ha with rfl | ha
    · exact hpos
    · exact hin a ha
   have := hge b hb
   omega
theorem rowsOf_mkF (sz : Nat) (rows : List (List A)) (H : Heap) : rowsOf sz (mkF sz rows) H = some rows := by
 cases rows with
 | nil => simp [rowsOf, mkF]
 | cons a r => simp [rowsOf, mkF]
def okR (r : NodeR) : Prop := qa4 r.ks.length 8 ∧ qa4 r.vs.length 16 ∧ qa4 r.idx.length 8
theorem copy_step {N : List NodeR} {i : Nat} (hi : i < N.length) (hl : N.length ≤ 1000) (hr : okR N[i]) {H : Heap} {v : Nat} {X : List XR} (h : Rep H 0 v X) (hX : X.length = i) (h2 : Heap) (hh2 : h2.length = 1) :
 ∃ H' X', qdN (.s (.int .i64 N.length)) (mkF 3 (N.map nodeRC)) h2 ([.osl 0 v 3 0 i, .s (.int .i64 i)], H) = some (.inl ([.osl 0 (v + 1) 3 0 (i + 1), .s (.int .i64 (i + 1 : Nat))], H')) ∧
   Rep H' 0 (v + 1) X' ∧ X'.map (·.2) = X.map (·.2) ++ [N[i]] := by
 obtain ⟨r1, r2, r3⟩ := hr
 have in1 := fun {β : Type} (k : A → Option β) => qhU (N := N) (i := i) (List.getElem?_eq_getElem hi) k
 generalize N[i] = r at *
 have hat : cellsAt (some 3) (nodeRC r) 0 = some (.agg (nodeRC r)) := _root_.id rfl
 have hput : qa5 [.s (.slice none 0 0), .s (.slice none 0 0), .s (.slice none 0 0)] 0 (nodeRC r) = nodeRC r := _root_.id rfl
 have hl3 : (nodeRC r).length = 3 := _root_.id rfl
 have e0 : ∀ h, (nodeRC r)[0]'h = mkF 1 (r.ks.map (cellC .u64)) := fun _ => _root_.id rfl
 have e1 : ∀ h, (nodeRC r)[1]'h = mkF 2 (r.vs.map extentC) := fun _ => _root_.id rfl
 have e2 : ∀ h, (nodeRC r)[2]'h = mkF 1 (r.idx.map (cellC .i64)) := fun _ => _root_.id rfl
 have w1 : IntKind.i64.wrap ((i : Int) + 1) = ((i + 1 : Nat) : Int) := by rw [qad (by omega) (by omega)]; simp
 have ap : qa4 (i + 1) 72 := by unfold qa4; omega
 obtain ⟨r0, T, rfl⟩ : ∃ r0 T, H = r0 :: T := by
  cases H with
  | nil => have := h.root; simp at this
  | cons a b => exact ⟨a, b, rfl⟩
 have hr0 : r0 = .live ⟨v, 3, X.map rowC⟩ := by have := h.root; simpa using this
 subst hr0
 let x : XR := (⟨T.length + 1 + 1, T.length + 1 + 1 + 1 + 1, some (T.length + 1 + 1 + 1 + 1 + 1 + 1, 1)⟩, r)
 let H' : Heap := .live ⟨v + 1, 3, X.map rowC ++ [rowC x]⟩ :: (T ++ [.live ⟨0, 3, [nodeRC r]⟩, .live ⟨1, 1, r.ks.map (cellC .u64)⟩, .res, .live ⟨1, 2, r.vs.map extentC⟩, .res, .live ⟨1, 1, r.idx.map (cellC .i64)⟩, .res, .live ⟨0, 3, [rowC x]⟩, .res])
 have hrow : rowC x = [.osl (T.length + 1 + 1) 1 1 0 r.ks.length, .osl (T.length + 1 + 1 + 1 + 1) 1 2 0 r.vs.length, .osl (T.length + 1 + 1 + 1 + 1 + 1 + 1) 1 1 0 r.idx.length] := rfl
 refine ⟨H', X ++ [x], ?_, ?_, by simp [x]⟩
 · have ht : ∀ vs, Go.Ab.trim true 1 vs H' = some (vs, H') := fun vs => by
    unfold Go.Ab.trim
    rw [if_neg]
    simp only [Bool.true_and, Bool.and_eq_true, List.all_eq_true, not_and]
    intro _ hh
    have := hh (.live ⟨v + 1, 3, X.map rowC ++ [rowC x]⟩) (by simp [H'])
    simp only [qa2, List.all_eq_true, decide_eq_true_eq] at this
    have := this (T.length + 1 + 1) (by
     show T.length + 1 + 1 ∈ idsRows (X.map rowC ++ [rowC x])
     rw [qas]
     simp [hrow])
    omega
   have htk : (X.map rowC).take i = X.map rowC := List.take_of_length_le (by simp [hX])
   simp only [qdN]
   simp [hi, in1, hat, hput, hl3, ga0, ga1, ga2, ga3, ga4, ga5, ga6, ga7, ga8, sa0, sa1, sa2, sa3, sa4, sa5, sa6, sa7, sa8, Go.Ab.place, oLoadD, qb2, qb1, wrL, wrA, idTop, ap, r1, r2, r3, w1, hX, htk, hh2, e0, e1, e2, rowsOf_mkF, qa5]
   exact ht _
 · refine rep_push h (by simp [H']) (fun j hj h0 => ?_) ⟨?_, ?_, ?_⟩ ?_ ?_
   · obtain ⟨j, rfl⟩ : ∃ m, j = m + 1 := ⟨j - 1, by omega⟩
     simp only [H', List.getElem?_cons_succ]
     rw [List.getElem?_append_left (by simpa using hj)]
   · simp [H', x, ga1]
   · simp [H', x, ga3]
   · simp [H', x, ga5]
   · simp [x, RP.ids]
   · simp [x, RP.ids]
theorem rep_gv {F : CallFn} {args : List A} (ha : pureL args = true) {v : Nat} {X : List XR} {objs : Heap} {N : List NodeR} (f1 : F args [] = some (.ok (.osl 0 v 3 0 X.length), objs)) (f2 : Rep objs 0 v X)
 (f3 : ∀ (i : Nat) s, 1 ≤ i → objs[i]? = some s → fl s) (f4 : X.map (·.2) = N) (hXl : X.length ≤ 800) : Gv F args (mkF 3 (N.map nodeRC)) := by
 intro H
 obtain ⟨T, e1, e2, e3⟩ := qkI f2 f3 (f := backIdx [] H.length) (g := fun i => H.length + i) (fun i => by simp [backIdx])
 have hg : qaa [] H (.ok (.osl 0 v 3 0 X.length)) objs = some (.ok (.osl H.length v 3 0 X.length), H ++ (.live ⟨v, 3, (X.map (mvX fun i => H.length + i)).map rowC⟩ :: T)) := by
  unfold qaa
  simp only [e3, renOut, qet]
  simp [backIdx, setAll]
 have hR : Rep (H ++ (.live ⟨v, 3, (X.map (mvX fun i => H.length + i)).map rowC⟩ :: T)) H.length v (X.map (mvX fun i => H.length + i)) := by
  have := f2.mv (g := fun i => H.length + i) (H' := H ++ (.live ⟨v, 3, (X.map (mvX fun i => H.length + i)).map rowC⟩ :: T)) (fun i hi => by
   rw [at_b, e1]
   have hi0 : i ≠ 0 := by rintro rfl; exact (List.nodup_cons.1 f2.nd).1 hi
   obtain ⟨i, rfl⟩ : ∃ k, i = k + 1 := ⟨i - 1, by omega⟩
   rfl) (fun i _ j _ he => by omega) (at_b H _ 0)
  exact this
 generalize hX2 : X.map (mvX fun i => H.length + i) = X2 at *
 have hX2l : X2.length = X.length := by rw [← hX2]; simp
 have hX2m : X2.map (fun x => nodeRC x.2) = N.map nodeRC := by
  rw [← f4, ← hX2, List.map_map, List.map_map]; rfl
 have hids : ∀ i ∈ xIds X2, H.length < i := fun i hi => by
  rw [← hX2] at hi
  have hi' : i ∈ (xIds X).map (fun i => H.length + i) := by rw [← qhM]; exact hi
  obtain ⟨j, hj, rfl⟩ := List.mem_map.1 hi'
  have : j ≠ 0 := by rintro rfl; exact (List.nodup_cons.1 f2.nd).1 hj
  omega
 have hnd := (List.nodup_cons.1 hR.nd)
 have hz := fz_rows X2 ((H ++ (.live ⟨v, 3, X2.map rowC⟩ :: T)).set H.length .dead) (fun x hx => by
  have := qf9 (g := fun i => i) (H' := (H ++ (.live ⟨v, 3, X2.map rowC⟩ :: T)).set H.length .dead) (hR.cells x hx) (fun i hi => by
   have := hids i (List.mem_flatMap.2 ⟨x, hx, hi⟩)
   rw [List.getElem?_set_ne (by omega)])
  have e : mvX (fun i => i) x = x := by obtain ⟨⟨a, b, c⟩, r⟩ := x; cases c <;> rfl
  rwa [e] at this) hnd.2
 rw [qej, List.set_cons_zero] at hz
 have hkill : ∀ (l : List Nat) (D : Heap), flatD D → (∀ i ∈ l, H.length ≤ i) → ∃ d, flatD d ∧ killI (H ++ D) l = H ++ d := by
  intro l
  induction l with
  | nil => exact fun D hD _ => ⟨D, hD, rfl⟩
  | cons i l ih =>
    intro D hD hl
    obtain ⟨k, rfl⟩ : ∃ k, i = H.length + k := ⟨i - H.length, by have := hl i (by simp); omega⟩
    have : killI (H ++ D) ((H.length + k) :: l) = killI ((H ++ D).set (H.length + k) .dead) l := rfl
    rw [this, qbY]
    refine ih (D.set k .dead) (fun s hs => ?_) (fun i hi => hl i (by simp [hi]))
    rcases List.mem_or_eq_of_mem_set hs with hs | rfl
    · exact hD s hs
    · rfl
 obtain ⟨d, hd, hk⟩ := hkill (xIds X2) (.dead :: T) (fun s hs => by
  rcases List.mem_cons.1 hs with rfl | hs
  · rfl
  · exact (e2 s hs).1) (fun i hi => Nat.le_of_lt (hids i hi))
 rw [hk] at hz
 refine ⟨d, hd, fun kp k => ?_⟩
 rw [qdf _ _ ha f1 hg]
 have hfin : FzA (11 + X2.length) (.osl H.length v 3 0 X.length) (H ++ (.live ⟨v, 3, X2.map rowC⟩ :: T)) (mkF 3 (X2.map fun x => nodeRC x.2)) (H ++ d) := by
  have := fz_osl (n := 10 + X2.length) (id := H.length) (ver := v) (sz := 3) (sz' := 3) (m := X.length) (rows := X2.map rowC) (H := H ++ (.live ⟨v, 3, X2.map rowC⟩ :: T)) (by simp) (by simp [hX2l]) (by rw [qej, List.set_cons_zero]; exact hz)
  exact this.le (by omega)
 rw [hX2m] at hfin
 exact fz_oFrz hfin (by omega) (by simp) k
theorem Copy_gv {N : List NodeR} (hN : N.length ≤ 800) (hr : ∀ r ∈ N, okR r) : Gv qeG [mkF 3 (N.map nodeRC)] (mkF 3 (N.map nodeRC)) := by
 obtain ⟨q, ⟨v, X, H, h1, h2, rfl⟩, hq⟩ := qb6 (step := qdN (.s (.int .i64 N.length)) (mkF 3 (N.map nodeRC)) [.live ⟨0, 3, []⟩]) (s0 := ([.osl 0 0 3 0 0, .s (.int .i64 0)], [.live ⟨0, 3, []⟩]))
  (fun i s => ∃ v X H, Rep H 0 v X ∧ X.map (·.2) = N.take i ∧ s = ([.osl 0 v 3 0 i, .s (.int .i64 i)], H))
  (fun q => ∃ v X H, Rep H 0 v X ∧ X.map (·.2) = N ∧ q = (Ex.exit 0, [.osl 0 v 3 0 N.length], H)) N.length
  ⟨0, [], [.live ⟨0, 3, []⟩], ⟨rfl, by simp, by simp⟩, by simp, rfl⟩ (by omega)
  (by
   rintro i s hi ⟨v, X, H, h1, h2, rfl⟩
   left
   have hX : X.length = i := by have := congrArg List.length h2; simpa [Nat.min_eq_left (Nat.le_of_lt hi)] using this
   obtain ⟨H', X', e1, e2, e3⟩ := copy_step hi (by omega) (hr _ (List.getElem_mem hi)) h1 hX [.live ⟨0, 3, []⟩] rfl
   exact ⟨_, e1, v + 1, X', H', e2, by rw [e3, h2, List.take_add_one, List.getElem?_eq_getElem hi]; rfl, rfl⟩)
  (by
   rintro s ⟨v, X, H, h1, h2, rfl⟩
   rw [List.take_length] at h2
   have htrim : ∃ H2, Go.Ab.trim true 1 [.osl 0 v 3 0 N.length] H = some ([.osl 0 v 3 0 N.length], H2) ∧ Rep H2 0 v X := by
    unfold Go.Ab.trim
    split
    · rename_i hc
      refine ⟨_, rfl, ?_⟩
      simp only [Bool.true_and, Bool.and_eq_true, List.all_eq_true] at hc
      have hroot := h1.root
      have hx : X = [] := by
       cases X with
       | nil => rfl
       | cons x X =>
         have h0 : (Go.Ab.Slot.live ⟨v, 3, (x :: X).map rowC⟩) ∈ H.take 1 := by
          refine List.mem_of_getElem? (i := 0) ?_
          rw [List.getElem?_take, if_pos (by omega)]; exact hroot
         have := hc.2 _ h0
         simp only [qa2, List.all_eq_true, decide_eq_true_eq] at this
         have hm : x.1.a ∈ xIds (x :: X) := by simp [xIds, RP.ids]
         have := this x.1.a (by show x.1.a ∈ idsRows ((x :: X).map rowC); rw [qhq]; exact hm)
         have h00 : x.1.a = 0 := by omega
         rw [h00] at hm
         exact absurd hm (List.nodup_cons.1 h1.nd).1
      subst hx
      exact ⟨by rw [List.getElem?_take, if_pos (by omega)]; exact hroot, by simp, by simp⟩
    · exact ⟨H, rfl, h1⟩
   obtain ⟨H2, ht, hR⟩ := htrim
   refine ⟨_, ?_, v, X, H2, hR, h2, rfl⟩
   simp only [qdN]
   simp [ht])
 have hXl : X.length = N.length := by have := congrArg List.length h2; simpa using this
 have hfew := ids_few X
 obtain ⟨g, objs', f1, f2, f3, f4⟩ := qgE h1 (nb := 0) (.inr rfl) (by omega) (fun i s hi => by omega) N.length (by omega)
 refine rep_gv (v := v) (X := X.map (mvX g)) (objs := objs') (by simp [qd4]) ?_ f2 f3 (by rw [snd_mv, h2]) (by rw [List.length_map]; omega)
 rw [List.length_map, hXl, ← f1]
 refine Eq.trans ?_ (hq (qhA []))
 simp [qeG]
end Go.Ab.T
namespace Go.Ab.T
open Go Go.Ab Go.Ab.F
theorem Gv.fn5 {F : CallFn} {args : List A} {a' : A} (h : Gv F args a') : ∃ D : Heap → Heap, ∀ (H : Heap) {β : Type} (kp k : A → Heap → Option β), (oLend F args H kp fun w h' => oFrz w h' k) = k a' (H ++ D H) :=
 ⟨fun H => Classical.choose (h H), fun H _ kp k => (Classical.choose_spec (h H)).2 kp k⟩
set_option maxRecDepth 100000 in
theorem alive5_v : qc4 [] [] = some (.ok (.s (.bool true)), []) := by kernel_rfl
theorem qh8 (H : Heap) {β : Type} (kp k : A → Heap → Option β) : (oLend qc4 [] H kp fun w h' => oFrz w h' k) = k (.s (.bool true)) H := by
 rw [qbi _ _ _ _ _ _ (by simp) (by simp) alive5_v]; simp
def trimR (n0 : Nat) (vs : List A) (h : Heap) : Heap := if qa2 n0 (idsL vs) && (h.take n0).all (fun s => qa2 n0 s.ids) then h.take n0 else h
theorem trimR_eq (n0 : Nat) (vs : List A) (h : Heap) : Go.Ab.trim true n0 vs h = some (vs, trimR n0 vs h) := by
 unfold Go.Ab.trim trimR
 rw [Bool.true_and]
 split <;> rfl
theorem qmc : ∀ (h : Nat) (lo hi : Option Int) (n : Nd), okN h lo hi n → ∀ p ∈ T.flat n, p.1 ∈ keysN n
 | 0, lo, hi, .mk ks vs kids, hn, p, hp => by
   obtain ⟨rfl, e2, e3, e4⟩ := hn
   simp only [T.flat, flats, List.append_nil] at hp
   simp only [keysN, List.mem_append]
   exact .inl (qgs hp)
 | h + 1, lo, hi, .mk ks vs kids, hn, p, hp => by
   obtain ⟨rfl, c1, c2⟩ := hn
   simp only [T.flat, List.zip_nil_right, List.nil_append] at hp
   obtain ⟨m, hm, hpm⟩ := qkq hp
   obtain ⟨lo', hi', hok⟩ := qbO c1 m hm
   simp only [keysN, List.mem_append]
   exact .inr (qlZ.2 ⟨m, hm, qmc h lo' hi' m hok p hpm⟩)
theorem readR_some {N : List NodeR} (hN : N.length ≤ 300) {L : List Pr} (h : readR N = some L) : ∃ d root, TreeI d root ∧ N = listN 0 root ∧ T.flat root = L ∧ d + 1 ≤ cntN root ∧ cntN root = N.length := by
 unfold readR at h
 split at h
 · rename_i n d nd hr
   split at h
   · rename_i hn
     simp only [Option.some.injEq] at h
     have hA := qj0 big 0 n d nd hr
     have hh := qgm _ _ _ _ hA.ok
     have hc := hA.cnt
     have hp := hA.part
     rw [hn, qj1] at hp
     refine ⟨d, nd, ⟨hA.ok, hA.few, hA.ne, ?_⟩, hp, h, hh, by omega⟩
     have : (1000 : Nat) < 2 ^ 62 := by decide
     omega
   · cases h
 · cases h
theorem ofR_none {N : List NodeR} (hN : N.length ≤ 300) (h : readR N = none) : ofR N = none := by
 cases ho : ofR N with
 | none => rfl
 | some r =>
   exfalso
   unfold ofR at ho
   by_cases hb : (rnTop N).1.bad = true ∨ (rnTop N).1.nxt ≠ N.length
   · rw [if_pos hb] at ho; cases ho
   · have hb1 : (rnTop N).1.bad = false := by cases h : (rnTop N).1.bad <;> simp_all
     have hb2 : (rnTop N).1.nxt = N.length := Classical.byContradiction fun g => hb (.inr g)
     have hS := qn7 (N := N) big 0 0 none none ⟨0, -1, 0, false⟩ (by omega) hb1
     obtain ⟨d, hR, -, -⟩ := hS.get
     have hx := hS.nxt
     have hh := qgm _ _ _ _ hR.ok
     have hp := hR.part
     change (rnTop N).1.nxt = 0 + cntN (rn big N 0 0 none none ⟨0, -1, 0, false⟩).2 at hx
     have hc : cntN (rn big N 0 0 none none ⟨0, -1, 0, false⟩).2 = N.length := by omega
     generalize (rn big N 0 0 none none ⟨0, -1, 0, false⟩).2 = nd at *
     rw [hc, qj1] at hp
     have hT : TreeI d nd := ⟨hR.ok, hR.few, hR.ne, by
      have : (1000 : Nat) < 2 ^ 62 := by decide
      omega⟩
     have := qkT hT
     rw [← hp, h] at this
     cases this
def okNd (r : NodeR) : Prop := (fitsM r.ks.length 8 ∧ ∀ k ∈ r.ks, okK k) ∧ fitsM r.vs.length 16 ∧ fitsM r.idx.length 8
theorem okNd.okR {r : NodeR} (h : okNd r) : T.okR r := by
 obtain ⟨⟨⟨_, h1⟩, _⟩, ⟨_, h2⟩, ⟨_, h3⟩⟩ := h
 refine ⟨?_, ?_, ?_⟩ <;> unfold qa4 <;> omega
theorem qn3 (N : List NodeR) (key : Int) {p : Prop} (w0 : p ∧ ∀ r ∈ N, okNd r) (w1 : wfI .u64 key) : qc5 [mkF 3 (N.map nodeRC), .s (.int .u64 key)] [] = some (.ok (.s (.bool true)), []) := by
 have hk := w0.2
 by_cases hl : N.length ≤ 300
 · have h3 : ¬ (300 : Int) < (N.length : Int) := by omega
   obtain ⟨DC, hC⟩ := (Copy_gv (N := N) (by omega) fun r hr => (hk r hr).okR).fn5
   obtain ⟨DO, hO⟩ := (Of_gv (N := N) (by omega)).fn5
   have hRd := fun (H : Heap) {β : Type} (kp k : A → Heap → Option β) => qjT (N := N) (by omega) H kp k
   cases hr : readR N with
   | none =>
     rw [hr] at hRd
     rw [ofR_none hl hr] at hO
     simp only [readB] at hRd
     simp only [ofB] at hO
     simp [qc5, qh8, h3, hC, hO, hRd]
     exact qa9 _ _ (by simp)
   | some L =>
     obtain ⟨d, root, hT, hNr, hfl, hd, hcn⟩ := readR_some hl hr
     have hof : ofR N = some (root, L.length) := by rw [hNr, ofR_of hT, hfl]
     rw [hr] at hRd
     rw [hof] at hO
     simp only [readB] at hRd
     simp only [ofB] at hO
     have hLl : L.length ≤ 2100 := by
      have := flat_le _ _ _ _ hT.ok hT.few
      rw [hfl] at this; omega
     have hLk : ∀ p ∈ L, okK p.1 := fun p hp => by
      rw [← hfl] at hp
      have h1 := qmc _ _ _ _ hT.ok p hp
      rw [← qgA 0 root, ← hNr] at h1
      obtain ⟨r, hr, hkr⟩ := List.mem_flatMap.1 h1
      exact (hk r hr).1.2 _ hkr
     have hs : sorted L := by rw [← hfl]; exact qig _ _ _ _ hT.ok
     have hLen := fun (H : Heap) {β : Type} (kp k : A → Heap → Option β) => qnw root (L.length : Int) (β := β) H kp k
     have hRg : Gv qaG [.cptr (treeC root L.length), .s (.int .u64 0), .s (.int .u64 18446744073709551615)] (mkF 3 (L.map pairC)) := fun H => by
      obtain ⟨d, hd, hP⟩ := qky hT (L.length : Int) 0 18446744073709551615 (by rw [hfl]; omega) H
      rw [hfl, qkE hs, rng_all hLk] at hP
      exact ⟨d, hd, hP⟩
     obtain ⟨DR, hR⟩ := hRg.fn5
     have hS := fun (H : Heap) {β : Type} (kp k : A → Heap → Option β) => qie L (by omega) H kp k
     obtain ⟨h', hh', hT', hf'⟩ := qk9 hT (by have : (1000 : Nat) < 2 ^ 62 := (by decide); omega) key ⟨7, 7⟩
     have hPg : Gv qaW [.cptr (treeC root L.length), .s (.int .u64 key), .agg (extentC ⟨7, 7⟩)] (.cptr (treeC (putRoot (putN key ⟨7, 7⟩ d root)) (if (getP key (T.flat root)).isSome then (L.length : Int) else (L.length : Int) + 1))) := fun H => Put_v hT (L.length : Int) key ⟨7, 7⟩ (by omega) H
     obtain ⟨DP, hP⟩ := hPg.fn5
     have hc' := qmE (x := key) (e := ⟨7, 7⟩) hT.ok
     generalize (if (getP key (T.flat root)).isSome then (L.length : Int) else (L.length : Int) + 1) = n1 at *
     generalize putRoot (putN key ⟨7, 7⟩ d root) = root1 at *
     obtain ⟨DN1, hN1⟩ := (qnv hT' n1 (by omega)).fn5
     have hRd1 := fun (H : Heap) {β : Type} (kp k : A → Heap → Option β) => qjT (N := listN 0 root1) (by rw [qdO]; omega) H kp k
     rw [qkT hT', hf', hfl] at hRd1
     have hrp := fun (H : Heap) {β : Type} (kp k : A → Heap → Option β) => rPut_call hs key ⟨7, 7⟩ (by omega) H kp k
     have hil := ins_len key ⟨7, 7⟩ L
     have hS1 := fun (H : Heap) {β : Type} (kp k : A → Heap → Option β) => qie (insP key ⟨7, 7⟩ L) (by omega) H kp k
     obtain ⟨h2, hh2, hT2, hf2⟩ := qnp hT key
     have hDg : Gv qbe [.cptr (treeC root L.length), .s (.int .u64 key)] (.cptr (treeC (delT key d root) (delLen key root L.length))) := fun H => Del_v hT (L.length : Int) key (by omega) H
     obtain ⟨DD, hD⟩ := hDg.fn5
     have hc2 := delT_cnt (x := key) hT
     generalize delLen key root (L.length : Int) = n2 at *
     generalize delT key d root = root2 at *
     obtain ⟨DN2, hN2⟩ := (qnv hT2 n2 (by omega)).fn5
     have hRd2 := fun (H : Heap) {β : Type} (kp k : A → Heap → Option β) => qjT (N := listN 0 root2) (by rw [qdO]; omega) H kp k
     rw [qkT hT2, hf2, hfl] at hRd2
     have hrd := fun (H : Heap) {β : Type} (kp k : A → Heap → Option β) => rDel_call L key (by omega) H kp k
     have hdl : (delP key L).length ≤ L.length := List.length_filter_le _ _
     have hS2 := fun (H : Heap) {β : Type} (kp k : A → Heap → Option β) => qie (delP key L) (by omega) H kp k
     simp only [readB] at hRd1 hRd2
     have h77 : ([.s (.int .i64 7), .s (.int .i64 7)] : List A) = extentC ⟨7, 7⟩ := rfl
     simp [qc5, qh8, h3, hC, hO, hRd, hLen, hR, hS, trimR_eq, qf8, qa5, h77, hP, hD, hN1, hN2, hRd1, hRd2, hrp, hrd, hS1, hS2]
     exact qa9 _ _ (by simp)
 · have h3 : (300 : Int) < (N.length : Int) := by omega
   simp [qc5, qh8, h3, qa9]
end Go.Ab.T
