/-
 THE PLAIN LAWS, AND WHAT THEY STAND ON, TOGETHER.
-/
import Derived.Test.YtocnjegcmmfpfaaTAllB
import Derived.KernelRfl
set_option linter.unusedSimpArgs false
set_option linter.unusedVariables false
namespace Go.Ab.T
mutual
def keysN : Nd → List Int
 | .mk ks _ kids => ks ++ keysL kids
def keysL : List Nd → List Int
 | [] => []
 | n :: l => keysN n ++ keysL l
end
mutual
theorem listN_keys : ∀ (b : Nat) (n : Nd), (listN b n).flatMap (·.ks) = keysN n
 | b, .mk ks vs kids => by rw [listN, keysN, List.flatMap_cons, listL_keys (b + 1) kids]
theorem listL_keys : ∀ (b : Nat) (l : List Nd), (listL b l).flatMap (·.ks) = keysL l
 | b, [] => by simp [listL, keysL]
 | b, n :: l => by rw [listL, keysL, List.flatMap_append, listN_keys b n, listL_keys _ l]
end
def inK (lo hi : Option Int) (l : List Int) : Prop := ∀ k ∈ l, lb lo k ∧ ub hi k
theorem chain_inK {P : Option Int → Option Int → Nd → Prop} (hP : ∀ lo hi n, P lo hi n → inK lo hi (keysN n)) :
 ∀ {lo : Option Int} {ks : List Int} {kids : List Nd} {hi : Option Int}, chain P lo ks kids hi → inK lo hi (keysL kids)
 | lo, [], [n], hi, h => fun k hk => by
   simp [keysL] at hk
   exact hP _ _ _ h k hk
 | lo, a :: ks, n :: ns, hi, h => fun k hk => by
   simp only [keysL, List.mem_append] at hk
   obtain ⟨h1, h2, h3, h4⟩ := h
   rcases hk with hk | hk
   · obtain ⟨g1, g2⟩ := hP _ _ _ h1 k hk
     have : k < a := by simpa using g2
     exact ⟨g1, h3.le (by omega)⟩
   · obtain ⟨g1, g2⟩ := chain_inK hP h4 k hk
     have : a ≤ k := by simpa using g1
     exact ⟨h2.lb.le this, g2⟩
 | _, [], [], _, h => h.elim
 | _, [], _ :: _ :: _, _, h => h.elim
 | _, _ :: _, [], _, h => h.elim
theorem okN_inK : ∀ (h : Nat) (lo hi : Option Int) (n : Nd), okN h lo hi n → inK lo hi (keysN n)
 | 0, lo, hi, .mk ks vs kids, hn => by
   obtain ⟨rfl, e2, e3, e4⟩ := hn
   intro k hk
   simp [keysN, keysL] at hk
   exact e4 k hk
 | h + 1, lo, hi, .mk ks vs kids, hn => by
   obtain ⟨rfl, c1, c2⟩ := hn
   intro k hk
   simp only [keysN, List.mem_append] at hk
   rcases hk with hk | hk
   · obtain ⟨g1, g2⟩ := (chain_keys c1).2 k hk
     exact ⟨g1.lb, g2⟩
   · exact chain_inK (okN_inK h) c1 k hk
theorem chain_narrow {P : Option Int → Option Int → Nd → Prop} (hK : ∀ lo hi n, P lo hi n → inK lo hi (keysN n))
 (hP : ∀ lo hi n lo' hi', P lo hi n → inK lo' hi' (keysN n) → P lo' hi' n) :
 ∀ {lo : Option Int} {ks : List Int} {kids : List Nd} {hi lo' hi' : Option Int}, chain P lo ks kids hi → (∀ n ∈ kids, keysN n ≠ []) → inK lo' hi' ks → inK lo' hi' (keysL kids) → chain P lo' ks kids hi'
 | lo, [], [n], hi, lo', hi', h, hne, h1, h2 => hP _ _ _ _ _ h fun k hk => h2 k (by simpa [keysL] using hk)
 | lo, a :: ks, n :: ns, hi, lo', hi', h, hne, h1, h2 => by
   obtain ⟨g1, g2, g3, g4⟩ := h
   have h2n : ∀ k ∈ keysN n, lb lo' k ∧ ub hi' k := fun k hk => h2 k (by simp [keysL, hk])
   have hks : ∀ k ∈ ks, a < k := fun k hk => by simpa using ((chain_keys g4).2 k hk).1
   refine ⟨hP _ _ _ _ _ g1 fun k hk => ⟨(h2n k hk).1, (hK _ _ _ g1 k hk).2⟩, ?_, (h1 a (by simp)).2, ?_⟩
   · obtain ⟨x, hx⟩ := List.exists_mem_of_ne_nil _ (hne n (by simp))
     exact (h2n x hx).1.lt (by simpa using (hK _ _ _ g1 x hx).2)
   · refine chain_narrow hK hP g4 (fun m hm => hne m (by simp [hm])) (fun k hk => ⟨by have := hks k hk; simp; omega, (h1 k (by simp [hk])).2⟩) fun k hk => ⟨(chain_inK hK g4 k hk).1, (h2 k (by simp [keysL, hk])).2⟩
 | _, [], [], _, _, _, h, _, _, _ => h.elim
 | _, [], _ :: _ :: _, _, _, _, h, _, _, _ => h.elim
 | _, _ :: _, [], _, _, _, h, _, _, _ => h.elim
theorem keys_ne {n : Nd} (h : sz n) : keysN n ≠ [] := by
 obtain ⟨ks, vs, kids⟩ := n
 intro e
 have := h.1
 simp only [keysN, List.append_eq_nil_iff] at e
 simp [e.1] at this
theorem okN_narrow : ∀ (h : Nat) (lo hi : Option Int) (n : Nd) (lo' hi' : Option Int), okN h lo hi n → inK lo' hi' (keysN n) → okN h lo' hi' n
 | 0, lo, hi, .mk ks vs kids, lo', hi', hn, hk => by
   obtain ⟨rfl, e2, e3, e4⟩ := hn
   exact ⟨rfl, e2, e3, fun k h => hk k (by simp [keysN, h])⟩
 | h + 1, lo, hi, .mk ks vs kids, lo', hi', hn, hk => by
   obtain ⟨rfl, c1, c2⟩ := hn
   exact ⟨rfl, chain_narrow (okN_inK h) (okN_narrow h) c1 (fun m hm => keys_ne (c2 m hm)) (fun k h => hk k (by simp [keysN, h])) (fun k h => hk k (by simp [keysN, h])), c2⟩
end Go.Ab.T
namespace Go.Ab.T
open Classical
def loK (b : Option Int) (ks : List Int) : Nat → Option Int
 | 0 => b
 | i + 1 => ks[i]?
def hiK (b : Option Int) (ks : List Int) (i : Nat) : Option Int := if i < ks.length then ks[i]? else b
theorem loK_cons (b : Option Int) (k : Int) (ks : List Int) (j : Nat) : loK b (k :: ks) (j + 1) = loK (some k) ks j := by cases j <;> rfl
theorem hiK_cons (b : Option Int) (k : Int) (ks : List Int) (j : Nat) : hiK b (k :: ks) (j + 1) = hiK b ks j := by simp [hiK]
theorem chain_of {P : Option Int → Option Int → Nd → Prop} : ∀ {ks : List Int} {lo hi : Option Int} {kids : List Nd}, kids.length = ks.length + 1 → (∀ (j : Nat) n, kids[j]? = some n → P (loK lo ks j) (hiK hi ks j) n) →
 (∀ k ∈ ks, sl lo k ∧ ub hi k) → ks.Pairwise (· < ·) → chain P lo ks kids hi
 | [], lo, hi, [n], _, h, _, _ => h 0 n rfl
 | k :: ks, lo, hi, n :: ns, hl, h, hk, hs => by
   refine ⟨by simpa [loK, hiK] using h 0 n rfl, (hk k (by simp)).1, (hk k (by simp)).2, chain_of (by simpa using hl) (fun j m hj => ?_) (fun x hx => ⟨?_, (hk x (by simp [hx])).2⟩) (List.pairwise_cons.1 hs).2⟩
   · have := h (j + 1) m (by simpa using hj)
     rwa [loK_cons, hiK_cons] at this
   · simpa using (List.pairwise_cons.1 hs).1 x hx
 | [], _, _, [], hl, _, _, _ => by simp at hl
 | [], _, _, _ :: _ :: _, hl, _, _, _ => by simp at hl
 | _ :: _, _, _, [], hl, _, _, _ => by simp at hl
theorem chain_to {P : Option Int → Option Int → Nd → Prop} : ∀ {ks : List Int} {lo hi : Option Int} {kids : List Nd}, chain P lo ks kids hi → ∀ (j : Nat) n, kids[j]? = some n → P (loK lo ks j) (hiK hi ks j) n
 | [], lo, hi, [n], h, j, m, hj => by
   cases j with
   | zero => simp at hj; subst hj; exact h
   | succ j => simp at hj
 | k :: ks, lo, hi, n :: ns, h, j, m, hj => by
   cases j with
   | zero => simp at hj; subst hj; simpa [loK, hiK] using h.1
   | succ j =>
     rw [loK_cons, hiK_cons]
     exact chain_to h.2.2.2 j m (by simpa using hj)
 | [], _, _, [], h, _, _, _ => h.elim
 | [], _, _, _ :: _ :: _, h, _, _, _ => h.elim
 | _ :: _, _, _, [], h, _, _, _ => h.elim
def formP (x : NodeR) (root : Bool) : Prop :=
 x.ks.length ≤ 7 ∧ (root = true ∨ 3 ≤ x.ks.length) ∧ x.ks.Pairwise (· < ·) ∧ ((x.idx = [] ∧ x.vs.length = x.ks.length) ∨ (x.idx ≠ [] ∧ x.vs = [] ∧ x.idx.length = x.ks.length + 1 ∧ 2 ≤ x.idx.length))
def part (N : List NodeR) (p n : Nat) : List NodeR := (N.drop p).take n
theorem part_cons {N : List NodeR} {p n : Nat} {x : NodeR} (h : N[p]? = some x) : part N p (n + 1) = x :: part N (p + 1) n := by
 obtain ⟨hp, rfl⟩ := List.getElem?_eq_some_iff.1 h
 unfold part
 rw [List.drop_eq_getElem_cons hp, List.take_succ_cons]
theorem part_add (N : List NodeR) (p n m : Nat) : part N p (n + m) = part N p n ++ part N (p + n) m := by
 unfold part
 rw [List.take_add, List.drop_drop]
theorem part_head {N : List NodeR} {p n : Nat} {x : NodeR} {l : List NodeR} (h : part N p n = x :: l) : N[p]? = some x ∧ part N (p + 1) (n - 1) = l := by
 unfold part at h ⊢
 cases n with
 | zero => simp at h
 | succ n =>
   cases hd : N.drop p with
   | nil => simp [hd] at h
   | cons y r =>
     rw [hd, List.take_succ_cons] at h
     simp only [List.cons.injEq] at h
     obtain ⟨rfl, h⟩ := h
     have hp : N[p]? = some y := by
      have := List.getElem?_drop (xs := N) (i := p) (j := 0)
      rw [hd] at this; simpa using this.symm
     refine ⟨hp, ?_⟩
     have h2 : N.drop (p + 1) = r := by rw [← List.drop_drop, hd]; rfl
     rw [h2]; simpa using h
theorem part_all (N : List NodeR) : part N 0 N.length = N := by simp [part]
theorem part_split {N : List NodeR} {p a b : Nat} {A B : List NodeR} (h : part N p (a + b) = A ++ B) (hA : A.length = a) : part N p a = A ∧ part N (p + a) b = B := by
 rw [part_add] at h
 have hl : (part N p a).length ≤ a := by unfold part; simp; omega
 have h1 : (part N p a).length = a := by
  by_cases hlt : (part N p a).length < a
  · have : part N (p + a) b = [] := by
     unfold part at hlt ⊢
     rw [List.length_take, List.length_drop] at hlt
     rw [List.drop_eq_nil_of_le (by omega)]; simp
    rw [this, List.append_nil] at h
    have := congrArg List.length h
    simp at this; omega
  · omega
 exact List.append_inj h (by omega)
theorem idxL_len : ∀ (b : Nat) (l : List Nd), (idxL b l).length = l.length
 | b, [] => rfl
 | b, n :: l => by simp [idxL, idxL_len]
theorem cnt_pos (n : Nd) : 1 ≤ cntN n := by obtain ⟨ks, vs, kids⟩ := n; rw [cntN]; omega
theorem height_le : ∀ (h : Nat) (lo hi : Option Int) (n : Nd), okN h lo hi n → h + 1 ≤ cntN n
 | 0, _, _, n, _ => cnt_pos n
 | h + 1, lo, hi, .mk ks vs kids, hn => by
   obtain ⟨rfl, c1, c2⟩ := hn
   have hl := chain_len c1
   cases kids with
   | nil => simp at hl
   | cons m r =>
     obtain ⟨lo', hi', hm⟩ := chain_each c1 m (by simp)
     have := height_le h lo' hi' m hm
     rw [cntN, cntL]; omega
noncomputable def rdKids (N : List NodeR) (rec : Nat → Option (Nat × Nat × Nd)) (p : Nat) (ks : List Int) : Nat → List Int → Nat → Option Nat → List Nd → Option (Nat × Option Nat × List Nd)
 | _, [], size, deep, kids => some (size, deep, kids)
 | i, m :: r, size, deep, kids =>
   if m = ((p + size : Nat) : Int) then
    match rec (p + size) with
    | none => none
    | some (n, d, nd) =>
      if (deep = none ∨ deep = some d) ∧ ∀ x ∈ part N (p + size) n, inK (loK none ks i) (hiK none ks i) x.ks then rdKids N rec p ks (i + 1) r (size + n) (some d) (kids ++ [nd])
      else none
   else none
noncomputable def rd : Nat → List NodeR → Nat → Option (Nat × Nat × Nd)
 | 0, _, _ => none
 | f + 1, N, p =>
   match N[p]? with
   | none => none
   | some x =>
     if formP x (decide (p = 0)) then
      if x.idx = [] then some (1, 0, .mk x.ks x.vs [])
      else match rdKids N (rd f N) p x.ks 0 x.idx 1 none [] with
       | some (size, some d, kids) => some (size, d + 1, .mk x.ks [] kids)
       | _ => none
     else none
structure ReadAt (N : List NodeR) (p n h : Nat) (lo hi : Option Int) (nd : Nd) : Prop where
 cnt : n = cntN nd
 le : p + n ≤ N.length
 part : part N p n = listN p nd
 ok : okN h lo hi nd
 few : nd.ks.length ≤ 7
 size : p ≠ 0 → sz nd
 ne : 0 < h → nd.ks ≠ []
structure KidsAt (N : List NodeR) (p : Nat) (lo hi : Option Int) (ks : List Int) (size : Nat) (deep : Option Nat) (kids : List Nd) : Prop where
 cnt : size = 1 + cntL kids
 le : p + size ≤ N.length
 part : part N (p + 1) (cntL kids) = listL (p + 1) kids
 dp : kids = [] ∨ ∃ d, deep = some d
 ok : ∀ (j : Nat) n, kids[j]? = some n → sz n ∧ ∃ d, deep = some d ∧ okN d (loK lo ks j) (hiK hi ks j) n
theorem rdKids_sound {N : List NodeR} {rec : Nat → Option (Nat × Nat × Nd)} (hrec : ∀ p n h nd, rec p = some (n, h, nd) → ReadAt N p n h none none nd) {p : Nat} {ks : List Int} :
 ∀ {r : List Int} {i size : Nat} {deep : Option Nat} {kids : List Nd} {size' : Nat} {deep' : Option Nat} {kids' : List Nd}, KidsAt N p none none ks size deep kids → i = kids.length →
   rdKids N rec p ks i r size deep kids = some (size', deep', kids') → KidsAt N p none none ks size' deep' kids' ∧ idxL (p + 1) kids ++ r = idxL (p + 1) kids'
 | [], i, size, deep, kids, size', deep', kids', hK, hi, h => by
   simp only [rdKids, Option.some.injEq, Prod.mk.injEq] at h
   obtain ⟨rfl, rfl, rfl⟩ := h
   exact ⟨hK, by simp⟩
 | m :: r, i, size, deep, kids, size', deep', kids', hK, hi, h => by
   simp only [rdKids] at h
   split at h <;> try (cases h; done)
   rename_i hm
   split at h <;> try (cases h; done)
   rename_i n d nd hr
   split at h <;> try (cases h; done)
   rename_i hc
   obtain ⟨hc1, hc2⟩ := hc
   have hA := hrec _ _ _ _ hr
   have hsz : sz nd := hA.size (by have := hK.cnt; omega)
   have e1 : p + 1 + cntL kids = p + size := by rw [hK.cnt]; omega
   have hin : inK (loK none ks i) (hiK none ks i) (keysN nd) := by
    rw [← listN_keys (p + size) nd, ← hA.part]
    intro k hk
    obtain ⟨x, hx, hkx⟩ := List.mem_flatMap.1 hk
    exact hc2 x hx k hkx
   obtain ⟨g1, g2⟩ := rdKids_sound hrec (kids := kids ++ [nd]) (i := i + 1) (deep := some d) (size := size + n) ⟨by rw [cntL_append, ← hA.cnt, hK.cnt]; omega, by have := hA.le; omega, by
    rw [cntL_append, part_add, listL_append, hK.part, e1, ← hA.part, hA.cnt], .inr ⟨d, rfl⟩, fun j x hj => by
    by_cases hjl : j < kids.length
    · rw [List.getElem?_append_left hjl] at hj
      obtain ⟨g1, d', g2, g3⟩ := hK.ok j x hj
      refine ⟨g1, d, rfl, ?_⟩
      rcases hc1 with e | e
      · rw [e] at g2; cases g2
      · rw [e] at g2; cases g2; exact g3
    · rw [List.getElem?_append_right (by omega)] at hj
      have hj0 : j - kids.length = 0 := by
       cases hj1 : j - kids.length with
       | zero => rfl
       | succ y => rw [hj1] at hj; simp at hj
      rw [hj0] at hj
      simp at hj
      subst hj
      have : j = i := by omega
      subst this
      exact ⟨hsz, d, rfl, okN_narrow _ _ _ _ _ _ hA.ok hin⟩⟩ (by simp [hi]) h
   refine ⟨g1, ?_⟩
   rw [← g2, idxL_append, e1, hm]
   simp
theorem rd_sound {N : List NodeR} : ∀ (f p n h : Nat) (nd : Nd), rd f N p = some (n, h, nd) → ReadAt N p n h none none nd
 | 0, _, _, _, _, e => by simp [rd] at e
 | f + 1, p, n, h, nd, e => by
   simp only [rd] at e
   split at e <;> try (cases e; done)
   rename_i x hx
   have hp : p < N.length := (List.getElem?_eq_some_iff.1 hx).1
   split at e <;> try (cases e; done)
   rename_i hf
   obtain ⟨f1, f2, f3, f4⟩ := hf
   have hsz : p ≠ 0 → 3 ≤ x.ks.length := fun h => by
    rcases f2 with g | g
    · simp [h] at g
    · exact g
   split at e
   · rename_i hi
     simp only [Option.some.injEq, Prod.mk.injEq] at e
     obtain ⟨rfl, rfl, rfl⟩ := e
     have hv : x.vs.length = x.ks.length := by
      rcases f4 with g | g
      · exact g.2
      · exact absurd hi g.1
     refine ⟨by simp [cntN, cntL], by omega, ?_, ⟨rfl, hv, f3, by simp⟩, f1, fun h => ⟨hsz h, f1⟩, by omega⟩
     rw [part_cons hx]
     obtain ⟨a, b, c⟩ := x
     simp only at hi
     subst hi
     simp [part, listN, listL, idxL]
   · rename_i hi
     split at e <;> try (cases e; done)
     rename_i size d kids hk
     simp only [Option.some.injEq, Prod.mk.injEq] at e
     obtain ⟨rfl, rfl, rfl⟩ := e
     obtain ⟨g0, g1, g2, g3⟩ : x.idx ≠ [] ∧ x.vs = [] ∧ x.idx.length = x.ks.length + 1 ∧ 2 ≤ x.idx.length := by
      rcases f4 with g | g
      · exact absurd g.1 hi
      · exact g
     obtain ⟨hK, hI⟩ := rdKids_sound (rd_sound f) (p := p) (kids := []) (i := 0) ⟨by simp [cntL], by omega, by simp [cntL, part, listL], .inl rfl, by simp⟩ rfl hk
     simp only [idxL, List.nil_append] at hI
     have hlen : kids.length = x.ks.length + 1 := by rw [← g2, hI, idxL_len]
     refine ⟨by rw [cntN]; exact hK.cnt, hK.le, ?_, ⟨rfl, chain_of hlen (fun j m hj => ?_) (by simp) f3, fun m hm => ?_⟩, f1, fun h => ⟨hsz h, f1⟩, fun _ e => ?_⟩
     · rw [hK.cnt, Nat.add_comm, part_cons hx, hK.part]
       obtain ⟨a, b, c⟩ := x
       simp only at g1 hI
       subst g1 hI
       rw [listN]
     · obtain ⟨_, d', h1, h2⟩ := hK.ok j m hj
       cases h1; exact h2
     · obtain ⟨j, hj, rfl⟩ := List.mem_iff_getElem.1 hm
       exact (hK.ok j _ (List.getElem?_eq_getElem hj)).1
     · simp only [Nd.ks_mk] at e
       rw [e] at g2; simp at g2; omega
theorem rdKids_full {N : List NodeR} {rec : Nat → Option (Nat × Nat × Nd)} {h : Nat} (hrec : ∀ p lo hi nd, okN h lo hi nd → sz nd → p ≠ 0 → p + cntN nd ≤ N.length → part N p (cntN nd) = listN p nd → rec p = some (cntN nd, h, nd)) {p : Nat} {ks : List Int} :
 ∀ (r : List Nd) (i size : Nat) (deep : Option Nat) (kids : List Nd), 1 ≤ size → p + size + cntL r ≤ N.length → part N (p + size) (cntL r) = listL (p + size) r → (deep = none ∨ deep = some h) →
   (∀ (j : Nat) n, r[j]? = some n → sz n ∧ okN h (loK none ks (i + j)) (hiK none ks (i + j)) n) →
   rdKids N rec p ks i (idxL (p + size) r) size deep kids = some (size + cntL r, (if r = [] then deep else some h), kids ++ r)
 | [], i, size, deep, kids, _, _, _, _, _ => by simp [rdKids, idxL, cntL]
 | m :: r, i, size, deep, kids, h1, h2, h3, h4, h5 => by
   obtain ⟨g1, g2⟩ := h5 0 m rfl
   rw [cntL] at h2
   rw [cntL, listL] at h3
   obtain ⟨p1, p2⟩ := part_split h3 (listN_len _ _)
   simp only [idxL, rdKids, if_true, hrec (p + size) _ _ m g2 g1 (by omega) (by omega) p1]
   rw [if_pos]
   · have := rdKids_full hrec (p := p) (ks := ks) r (i + 1) (size + cntN m) (some h) (kids ++ [m]) (by omega) (by omega) (by rw [← Nat.add_assoc]; exact p2) (.inr rfl) fun j n hj => by
      have := h5 (j + 1) n (by simpa using hj)
      rwa [show i + (j + 1) = i + 1 + j by omega] at this
     rw [← Nat.add_assoc] at this
     rw [this, cntL]
     simp [Nat.add_assoc]
   · refine ⟨h4, fun x hx k hk => ?_⟩
     rw [p1] at hx
     have : k ∈ keysN m := by rw [← listN_keys (p + size) m]; exact List.mem_flatMap.2 ⟨x, hx, hk⟩
     simpa using okN_inK _ _ _ _ g2 k this
theorem rd_full {N : List NodeR} : ∀ (h f p : Nat) (lo hi : Option Int) (nd : Nd), h < f → okN h lo hi nd → nd.ks.length ≤ 7 → (p ≠ 0 → sz nd) → (0 < h → nd.ks ≠ []) → p + cntN nd ≤ N.length → part N p (cntN nd) = listN p nd → rd f N p = some (cntN nd, h, nd)
 | 0, f + 1, p, lo, hi, .mk ks vs kids, _, hn, h7, hs, hne, hl, hp => by
   obtain ⟨rfl, e2, e3, e4⟩ := hn
   rw [listN] at hp
   obtain ⟨hx, _⟩ := part_head hp
   have hf : formP ⟨ks, vs, idxL (p + 1) []⟩ (decide (p = 0)) := ⟨h7, by
    by_cases h0 : p = 0
    · simp [h0]
    · exact .inr (hs h0).1, e3, .inl ⟨rfl, e2⟩⟩
   simp only [rd, hx, if_pos hf]
   simp [idxL, cntN, cntL]
 | h + 1, f + 1, p, lo, hi, .mk ks vs kids, hhf, hn, h7, hs, hne, hl, hp => by
   have hok := hn
   obtain ⟨rfl, c1, c2⟩ := hn
   have hks := (chain_keys c1).1
   have hkl := chain_len c1
   rw [listN] at hp
   rw [cntN] at hl hp
   obtain ⟨hx, ht⟩ := part_head hp
   simp only [Nd.ks_mk] at hne
   have hne := hne (by omega)
   have hpos : 0 < ks.length := List.length_pos_iff.2 hne
   have hile : (idxL (p + 1) kids).length = ks.length + 1 := by rw [idxL_len, hkl]
   have hf : formP ⟨ks, [], idxL (p + 1) kids⟩ (decide (p = 0)) := ⟨h7, by
    by_cases h0 : p = 0
    · simp [h0]
    · exact .inr (hs h0).1, hks, .inr ⟨fun e => by simp only at e; rw [e] at hile; simp at hile, rfl, hile, by simp only; omega⟩⟩
   simp only [rd, hx, if_pos hf]
   rw [if_neg (by intro e; rw [e] at hile; simp at hile)]
   have := rdKids_full (N := N) (rec := rd f N) (h := h) (fun q lo' hi' nd' g1 g2 g3 g4 g5 => rd_full h f q lo' hi' nd' (by omega) g1 g2.2 (fun _ => g2) (fun _ e => by have := g2.1; rw [e] at this; simp at this) g4 g5)
    (p := p) (ks := ks) kids 0 1 none [] (by omega) (by omega) (by rw [show 1 + cntL kids - 1 = cntL kids by omega] at ht; exact ht) (.inl rfl) fun j n hj => by
     rw [Nat.zero_add]
     have h1 := chain_to c1 j n hj
     refine ⟨c2 n (List.mem_of_getElem? hj), okN_narrow _ _ _ _ _ _ h1 fun k hk => ?_⟩
     have h2 := okN_inK _ _ _ _ h1 k hk
     refine ⟨?_, ?_⟩
     · cases j with
       | zero => simp [loK]
       | succ j => exact h2.1
     · have h3 := h2.2
       unfold hiK at h3 ⊢
       split
       · rename_i g; rwa [if_pos g] at h3
       · simp
   rw [this]
   have hkn : kids ≠ [] := fun e => by rw [e] at hkl; simp at hkl
   simp [hkn, cntN]
end Go.Ab.T
namespace Go.Ab.T
open Classical
structure RS where
 nxt : Nat
 dep : Int
 cnt : Nat
 bad : Bool
abbrev RecT := Int → Option Int → Option Int → RS → RS × Nd
noncomputable def rnKids (rec : RecT) (lo hi : Option Int) (ks : List Int) : Nat → List Int → RS → List Nd → RS × List Nd
 | _, [], s, kids => (s, kids)
 | j, m :: r, s, kids => rnKids rec lo hi ks (j + 1) r (rec m (loK lo ks j) (hiK hi ks j) s).1 (kids ++ [(rec m (loK lo ks j) (hiK hi ks j) s).2])
def RS.fail (s : RS) : RS × Nd := ({ s with bad := true }, .mk [] [] [])
noncomputable def rnLeaf (x : NodeR) (depth : Int) (s : RS) : RS :=
 let d := if s.dep < 0 then depth else s.dep
 { s with dep := d, bad := s.bad || decide (d ≠ depth), cnt := s.cnt + x.ks.length }
noncomputable def rnIn (x : NodeR) (lo hi : Option Int) (s : RS) : RS := { s with nxt := s.nxt + 1, bad := !decide (inK lo hi x.ks) }
noncomputable def rn : Nat → List NodeR → Int → Int → Option Int → Option Int → RS → RS × Nd
 | 0, _, _, _, _, _, s => s.fail
 | f + 1, N, i, depth, lo, hi, s =>
   if s.bad = true ∨ i ≠ s.nxt then s.fail else
   match N[s.nxt]? with
   | none => s.fail
   | some x =>
     if formP x (decide (i = 0)) then
      if x.idx = [] then (rnLeaf x depth (rnIn x lo hi s), .mk x.ks x.vs [])
      else ((rnKids (rn f N · (depth + 1)) lo hi x.ks 0 x.idx (rnIn x lo hi s) []).1, .mk x.ks x.vs (rnKids (rn f N · (depth + 1)) lo hi x.ks 0 x.idx (rnIn x lo hi s) []).2)
     else s.fail
structure RnAt (N : List NodeR) (i depth : Int) (lo hi : Option Int) (s s' : RS) (nd : Nd) : Prop where
 bad : s.bad = false
 at' : i = s.nxt
 get : ∃ h : Nat, ReadAt N s.nxt (cntN nd) h lo hi nd ∧ s'.dep = depth + h ∧ (s.dep < 0 ∨ s.dep = depth + h)
 nxt : s'.nxt = s.nxt + cntN nd
 cnt : s'.cnt = s.cnt + (flat nd).length
structure RkAt (N : List NodeR) (depth : Int) (lo hi : Option Int) (ks : List Int) (s s' : RS) (old new : List Nd) : Prop where
 bad : s.bad = false
 ex : ∃ more, new = old ++ more ∧ part N s.nxt (cntL more) = listL s.nxt more ∧ s'.nxt = s.nxt + cntL more ∧ s'.cnt = s.cnt + (flats more).length ∧ (more = [] → s' = s) ∧
  (more ≠ [] → ∃ h : Nat, s'.dep = depth + h ∧ (s.dep < 0 ∨ s.dep = depth + h) ∧ ∀ (j : Nat) n, more[j]? = some n → sz n ∧ okN h (loK lo ks (old.length + j)) (hiK hi ks (old.length + j)) n)
theorem rnKids_full {N : List NodeR} {rec : RecT} {depth : Int} {h : Nat} (hd : 0 ≤ depth)
 (hrec : ∀ lo hi nd s, okN h lo hi nd → sz nd → s.nxt ≠ 0 → s.bad = false → (s.dep < 0 ∨ s.dep = depth + h) → s.nxt + cntN nd ≤ N.length → part N s.nxt (cntN nd) = listN s.nxt nd → rec s.nxt lo hi s = (⟨s.nxt + cntN nd, depth + h, s.cnt + (flat nd).length, false⟩, nd)) {lo hi : Option Int} {ks : List Int} :
 ∀ (r : List Nd) (j : Nat) (s : RS) (kids : List Nd), s.nxt ≠ 0 → s.bad = false → (s.dep < 0 ∨ s.dep = depth + h) → s.nxt + cntL r ≤ N.length → part N s.nxt (cntL r) = listL s.nxt r →
   (∀ (i : Nat) n, r[i]? = some n → sz n ∧ okN h (loK lo ks (j + i)) (hiK hi ks (j + i)) n) →
   rnKids rec lo hi ks j (idxL s.nxt r) s kids = (⟨s.nxt + cntL r, if r = [] then s.dep else depth + h, s.cnt + (flats r).length, false⟩, kids ++ r)
 | [], j, s, kids, h1, h2, h3, _, _, _ => by
   obtain ⟨a, b, c, d⟩ := s
   simp only at h2
   subst h2
   simp [rnKids, idxL, cntL, flats]
 | m :: r, j, s, kids, h1, h2, h3, h4, h5, h6 => by
   obtain ⟨g1, g2⟩ := h6 0 m rfl
   rw [cntL] at h4
   rw [cntL, listL] at h5
   obtain ⟨p1, p2⟩ := part_split h5 (listN_len _ _)
   rw [Nat.add_zero] at g2
   simp only [idxL, rnKids, hrec _ _ m s g2 g1 h1 h2 h3 (by omega) p1]
   have := rnKids_full hd hrec (lo := lo) (hi := hi) (ks := ks) r (j + 1) ⟨s.nxt + cntN m, depth + h, s.cnt + (flat m).length, false⟩ (kids ++ [m]) (by simp only; omega) rfl (.inr rfl) (by simp only; omega) p2 fun i n hi => by
    have := h6 (i + 1) n (by simpa using hi)
    rwa [show j + (i + 1) = j + 1 + i by omega] at this
   simp only at this
   rw [this, cntL, flats]
   simp [Nat.add_assoc]
theorem rn_full {N : List NodeR} : ∀ (h f : Nat) (depth : Int) (lo hi : Option Int) (nd : Nd) (s : RS), h < f → 0 ≤ depth → okN h lo hi nd → nd.ks.length ≤ 7 → (s.nxt ≠ 0 → sz nd) → (0 < h → nd.ks ≠ []) → s.bad = false → (s.dep < 0 ∨ s.dep = depth + h) →
 s.nxt + cntN nd ≤ N.length → part N s.nxt (cntN nd) = listN s.nxt nd → rn f N s.nxt depth lo hi s = (⟨s.nxt + cntN nd, depth + h, s.cnt + (flat nd).length, false⟩, nd)
 | 0, f + 1, depth, lo, hi, .mk ks vs kids, s, _, hd, hn, h7, hs, hne, hb, hdep, hl, hp => by
   obtain ⟨rfl, e2, e3, e4⟩ := hn
   rw [listN] at hp
   obtain ⟨hx, _⟩ := part_head hp
   have hf : formP ⟨ks, vs, idxL (s.nxt + 1) []⟩ (decide ((s.nxt : Int) = 0)) := ⟨h7, by
    by_cases h0 : s.nxt = 0
    · simp [h0]
    · exact .inr (hs h0).1, e3, .inl ⟨rfl, e2⟩⟩
   have hc : ¬ (s.bad = true ∨ ((s.nxt : Nat) : Int) ≠ s.nxt) := by simp [hb]
   have hin : inK lo hi ks := fun k hk => e4 k hk
   simp only [rn, if_neg hc, hx, if_pos hf]
   simp only [idxL, if_true, rnLeaf, rnIn, hin, decide_true, Bool.not_true, Bool.false_or, cntN, cntL, T.flat, flats, List.append_nil, List.length_zip, e2, Nat.min_self]
   congr 2
   · by_cases hneg : s.dep < 0
     · simp [hneg]
     · rw [if_neg hneg]; rcases hdep with g | g
       · exact absurd g hneg
       · exact g
   · by_cases hneg : s.dep < 0
     · simp [hneg]
     · rw [if_neg hneg]; rcases hdep with g | g
       · exact absurd g hneg
       · simp [g]
 | h + 1, f + 1, depth, lo, hi, .mk ks vs kids, s, hhf, hd, hn, h7, hs, hne, hb, hdep, hl, hp => by
   have hok := hn
   obtain ⟨rfl, c1, c2⟩ := hn
   have hks := (chain_keys c1).1
   have hkl := chain_len c1
   rw [listN] at hp
   rw [cntN] at hl hp
   obtain ⟨hx, ht⟩ := part_head hp
   simp only [Nd.ks_mk] at hne
   have hne := hne (by omega)
   have hpos : 0 < ks.length := List.length_pos_iff.2 hne
   have hile : (idxL (s.nxt + 1) kids).length = ks.length + 1 := by rw [idxL_len, hkl]
   have hf : formP ⟨ks, [], idxL (s.nxt + 1) kids⟩ (decide ((s.nxt : Int) = 0)) := ⟨h7, by
    by_cases h0 : s.nxt = 0
    · simp [h0]
    · exact .inr (hs h0).1, hks, .inr ⟨fun e => by simp only at e; rw [e] at hile; simp at hile, rfl, hile, by simp only; omega⟩⟩
   have hc : ¬ (s.bad = true ∨ ((s.nxt : Nat) : Int) ≠ s.nxt) := by simp [hb]
   have hin : inK lo hi ks := fun k hk => ⟨((chain_keys c1).2 k hk).1.lb, ((chain_keys c1).2 k hk).2⟩
   have hnx : (rnIn ⟨ks, [], idxL (s.nxt + 1) kids⟩ lo hi s) = ⟨s.nxt + 1, s.dep, s.cnt, false⟩ := by simp [rnIn, hin]
   simp only [rn, if_neg hc, hx, if_pos hf]
   rw [if_neg (by intro e; rw [e] at hile; simp at hile)]
   have := rnKids_full (N := N) (rec := (rn f N · (depth + 1))) (depth := depth + 1) (h := h) (by omega) (fun lo' hi' nd' s' g1 g2 g3 g4 g5 g6 g7 => rn_full h f (depth + 1) lo' hi' nd' s' (by omega) (by omega) g1 g2.2 (fun _ => g2) (fun _ e => by have := g2.1; rw [e] at this; simp at this) g4 g5 g6 g7)
    (lo := lo) (hi := hi) (ks := ks) kids 0 ⟨s.nxt + 1, s.dep, s.cnt, false⟩ [] (by simp) rfl (by simp only; rcases hdep with g | g; exact .inl g; right; rw [g]; push_cast; omega) (by simp only; omega) (by simp only; rw [show 1 + cntL kids - 1 = cntL kids by omega] at ht; exact ht) fun j n hj => by
     rw [Nat.zero_add]
     exact ⟨c2 n (List.mem_of_getElem? hj), chain_to c1 j n hj⟩
   simp only at this
   rw [hnx, this]
   have hkn : kids ≠ [] := fun e => by rw [e] at hkl; simp at hkl
   simp only [hkn, if_false, List.nil_append, cntN, T.flat, List.zip_nil_right]
   congr 2
   · omega
   · push_cast; omega
end Go.Ab.T
namespace Go.Ab.T
open Go Go.Ab Go.Ab.F
open Classical
theorem sorted_of {ks : List Int} (h : ∀ (i : Nat) (hi : i + 1 < ks.length), ks[i] < ks[i + 1]) : ks.Pairwise (· < ·) := by
 refine List.pairwise_iff_getElem.2 fun i j hi hj hij => ?_
 induction j with
 | zero => omega
 | succ j ih =>
   by_cases e : i = j
   · subst e; exact h i hj
   · exact Int.lt_trans (ih (by omega) (by omega)) (h j hj)
theorem sorted_to {ks : List Int} (h : ks.Pairwise (· < ·)) (i : Nat) (hi : i + 1 < ks.length) : ks[i] < ks[i + 1] := List.pairwise_iff_getElem.1 h i (i + 1) (by omega) hi (by omega)
theorem idx_key {l : List Int} {i : Nat} (h : i < l.length) {β : Type} (k : A → Option β) : oIdxA 1 (mkF 1 (l.map (cellC .u64))) (.s (.int .i64 i)) k = k (.cptr (cellC .u64 l[i])) := oIdxA_mkF 1 (cellC .u64) l .i64 _ _ k (List.getElem?_eq_getElem h)
theorem idx_node {N : List NodeR} {i : Nat} {x : NodeR} (h : N[i]? = some x) {β : Type} (k : A → Option β) : oIdxA 3 (mkF 3 (N.map nodeRC)) (.s (.int .i64 i)) k = k (.cptr (nodeRC x)) := oIdxA_mkF 3 nodeRC N .i64 _ _ k h
theorem pure_ks (l : List Int) : pureRows (l.map (cellC .u64)) = true := pureRows_map _ (fun x => by simp [cellC]) _
theorem pure_nodes (N : List NodeR) : pureRows (N.map nodeRC) = true := pureRows_map _ (fun x => nodeRC_pure x) _
section
variable (x : NodeR)
abbrev fBox : Heap := [.live ⟨0, 3, [nodeRC x]⟩]
theorem form_loop (h7 : x.ks.length ≤ 7) :
 ∃ q, ((x.ks.Pairwise (· < ·) ∧ q = (Ex.exit 0, [.any], fBox x)) ∨ (¬ x.ks.Pairwise (· < ·) ∧ q = (Ex.ret, [.s (.bool false)], fBox x))) ∧
   ∀ {β : Type} (k : Ex → List A → Heap → Option β), oLoop (ref08_form_l1 (.ptr 0 0 0 0) (fBox x)) ([.s (.int .i64 1)], fBox x) k = k q.1 q.2.1 q.2.2 := by
 obtain ⟨q, hq, h⟩ := oLoop_inv' (step := ref08_form_l1 (.ptr 0 0 0 0) (fBox x)) (s0 := ([.s (.int .i64 1)], fBox x))
  (fun i s => s = ([.s (.int .i64 (i + 1 : Nat))], fBox x) ∧ ∀ (j : Nat) (hj : j + 1 < x.ks.length), j < i → x.ks[j] < x.ks[j + 1])
  (fun q => (x.ks.Pairwise (· < ·) ∧ q = (Ex.exit 0, [.any], fBox x)) ∨ (¬ x.ks.Pairwise (· < ·) ∧ q = (Ex.ret, [.s (.bool false)], fBox x))) (x.ks.length - 1) ⟨rfl, fun _ _ h => by omega⟩ (by omega)
  (by
   rintro i s hi ⟨rfl, hs⟩
   have hi1 : i + 1 < x.ks.length := by omega
   have w1 : IntKind.i64.wrap (((i + 1 : Nat) : Int) + 1) = ((i + 1 + 1 : Nat) : Int) := by rw [wrap64_id (by omega) (by omega)]; simp
   have w2 : IntKind.i64.wrap (((i + 1 : Nat) : Int) - 1) = (i : Int) := by rw [wrap64_id (by omega) (by omega)]; omega
   have ip := fun {β : Type} (k : A → Option β) => idx_key (l := x.ks) (i := i + 1) hi1 k
   have ip0 := fun {β : Type} (k : A → Option β) => idx_key (l := x.ks) (i := i) (by omega) k
   by_cases hlt : x.ks[i] < x.ks[i + 1]
   · left
     have hc : ¬ x.ks[i + 1] ≤ x.ks[i] := by omega
     refine ⟨_, ?_, rfl, fun j hj hji => ?_⟩
     · simp only [ref08_form_l1, fBox, nodeRC]
       simp [ip, ip0, w1, w2, hc, hi1, oLoadD, trim, allBelow, -Int.natCast_add]
     · by_cases e : j = i
       · subst e; exact hlt
       · exact hs j hj (by omega)
   · right
     have hc : x.ks[i + 1] ≤ x.ks[i] := by omega
     refine ⟨_, ?_, .inr ⟨fun h => hlt (sorted_to h i hi1), rfl⟩⟩
     simp only [ref08_form_l1, fBox, nodeRC]
     simp [ip, ip0, w1, w2, hc, hi1, oLoadD, trim, allBelow, -Int.natCast_add])
  (by
   rintro s ⟨rfl, hs⟩
   have hc : ¬ (((x.ks.length - 1 + 1 : Nat) : Int) < (x.ks.length : Int)) := by omega
   refine ⟨_, ?_, .inl ⟨sorted_of fun i hi => hs i hi (by omega), rfl⟩⟩
   simp only [ref08_form_l1, fBox, nodeRC]
   simp [hc, trim, allBelow, -Int.natCast_add])
 exact ⟨q, hq, h⟩
theorem form_v (root : Bool) : ref08_form [.agg (nodeRC x), .s (.bool root)] [] = some (.ok (.s (.bool (decide (formP x root)))), []) := by
 by_cases h7 : x.ks.length ≤ 7
 · have c7 : ¬ (7 : Int) < (x.ks.length : Int) := by omega
   have hent : ∀ g : Bool, g = (!root && decide ((x.ks.length : Int) < 3)) → ref08_form [.agg (nodeRC x), .s (.bool root)] [] = ref08_form_k3 [] (.ptr 0 0 0 0) Ex.normal [.s (.bool g)] (fBox x) := by
    rintro g rfl
    simp only [ref08_form, nodeRC]
    cases root <;> simp [c7, trim, allBelow, putCells] <;> rfl
   by_cases h3 : root = true ∨ 3 ≤ x.ks.length
   · have hg : (!root && decide ((x.ks.length : Int) < 3)) = false := by
      rcases h3 with h3 | h3
      · simp [h3]
      · have : ¬ ((x.ks.length : Int) < 3) := by omega
        simp [this]
     rw [hent false hg.symm]
     obtain ⟨q, hq, hloop⟩ := form_loop x h7
     have e1 : ref08_form_k3 [] (.ptr 0 0 0 0) Ex.normal [.s (.bool false)] (fBox x) = ref08_form_k2 (.ptr 0 0 0 0) [] q.1 q.2.1 q.2.2 := by
      refine Eq.trans ?_ (hloop (ref08_form_k2 (.ptr 0 0 0 0) []))
      simp [ref08_form_k3]
     rw [e1]
     rcases hq with ⟨hs, rfl⟩ | ⟨hs, rfl⟩
     · simp only [ref08_form_k2, fBox, nodeRC]
       by_cases hidx : x.idx = []
       · have : formP x root ↔ (x.vs.length : Int) = x.ks.length := ⟨fun h => by
          rcases h.2.2.2 with g | g
          · exact_mod_cast g.2
          · exact absurd hidx g.1, fun h => ⟨h7, h3, hs, .inl ⟨hidx, by exact_mod_cast h⟩⟩⟩
         simp [hidx, finish_val, this]
       · have hi0 : ¬ ((x.idx.length : Int) = 0) := by
          intro h; exact hidx (List.length_eq_zero_iff.1 (by exact_mod_cast h))
         have w1 : IntKind.i64.wrap ((x.ks.length : Int) + 1) = ((x.ks.length + 1 : Nat) : Int) := by rw [wrap64_id (by omega) (by omega)]; simp
         by_cases hv : x.vs = []
         · by_cases hl : x.idx.length = x.ks.length + 1
           · have : formP x root ↔ (1 : Int) < (x.idx.length : Int) := ⟨fun h => by
              rcases h.2.2.2 with g | g
              · exact absurd g.1 hidx
              · have := g.2.2.2; omega, fun h => ⟨h7, h3, hs, .inr ⟨hidx, hv, hl, by omega⟩⟩⟩
             simp [hi0, hv, w1, hl, finish_val, this, -Int.natCast_add, hidx]
           · have hl' : ¬ ((x.idx.length : Int) = ((x.ks.length + 1 : Nat) : Int)) := by omega
             have : ¬ formP x root := fun h => by
              rcases h.2.2.2 with g | g
              · exact absurd g.1 hidx
              · exact hl g.2.2.1
             simp [hi0, hv, w1, hl', finish_val, this, -Int.natCast_add, hidx]
         · have hv' : ¬ ((x.vs.length : Int) = 0) := by
            intro h; exact hv (List.length_eq_zero_iff.1 (by exact_mod_cast h))
           have : ¬ formP x root := fun h => by
            rcases h.2.2.2 with g | g
            · exact absurd g.1 hidx
            · exact hv g.2.1
           simp [hi0, hv', hv, finish_val, this, hidx]
     · have : ¬ formP x root := fun h => hs h.2.2.1
       simp [ref08_form_k2, finish_val, this]
   · have hg : (!root && decide ((x.ks.length : Int) < 3)) = true := by
      have h1 : root = false := by cases root <;> simp_all
      have h2 : (x.ks.length : Int) < 3 := by have : ¬ 3 ≤ x.ks.length := fun h => h3 (.inr h); omega
      simp [h1, h2]
     rw [hent true hg.symm]
     have : ¬ formP x root := fun h => h3 h.2.1
     simp [ref08_form_k3, finish_val, this]
 · have c7 : (7 : Int) < (x.ks.length : Int) := by omega
   have : ¬ formP x root := fun h => h7 h.1
   simp only [ref08_form, nodeRC]
   simp [c7, trim, allBelow, putCells, ref08_form_k3, finish_val, this]
theorem fits_loop (h7 : x.ks.length ≤ 7) :
 ∃ q, ((x.ks.Pairwise (· < ·) ∧ q = (Ex.exit 0, [.any], fBox x)) ∨ (¬ x.ks.Pairwise (· < ·) ∧ q = (Ex.ret, [.s (.bool false)], fBox x))) ∧
   ∀ {β : Type} (k : Ex → List A → Heap → Option β), oLoop (tree_reader_fits_l1 (.ptr 0 0 0 0) (fBox x)) ([.s (.int .i64 1)], fBox x) k = k q.1 q.2.1 q.2.2 := by
 obtain ⟨q, hq, h⟩ := oLoop_inv' (step := tree_reader_fits_l1 (.ptr 0 0 0 0) (fBox x)) (s0 := ([.s (.int .i64 1)], fBox x))
  (fun i s => s = ([.s (.int .i64 (i + 1 : Nat))], fBox x) ∧ ∀ (j : Nat) (hj : j + 1 < x.ks.length), j < i → x.ks[j] < x.ks[j + 1])
  (fun q => (x.ks.Pairwise (· < ·) ∧ q = (Ex.exit 0, [.any], fBox x)) ∨ (¬ x.ks.Pairwise (· < ·) ∧ q = (Ex.ret, [.s (.bool false)], fBox x))) (x.ks.length - 1) ⟨rfl, fun _ _ h => by omega⟩ (by omega)
  (by
   rintro i s hi ⟨rfl, hs⟩
   have hi1 : i + 1 < x.ks.length := by omega
   have w1 : IntKind.i64.wrap (((i + 1 : Nat) : Int) + 1) = ((i + 1 + 1 : Nat) : Int) := by rw [wrap64_id (by omega) (by omega)]; simp
   have w2 : IntKind.i64.wrap (((i + 1 : Nat) : Int) - 1) = (i : Int) := by rw [wrap64_id (by omega) (by omega)]; omega
   have ip := fun {β : Type} (k : A → Option β) => idx_key (l := x.ks) (i := i + 1) hi1 k
   have ip0 := fun {β : Type} (k : A → Option β) => idx_key (l := x.ks) (i := i) (by omega) k
   by_cases hlt : x.ks[i] < x.ks[i + 1]
   · left
     have hc : ¬ x.ks[i + 1] ≤ x.ks[i] := by omega
     refine ⟨_, ?_, rfl, fun j hj hji => ?_⟩
     · simp only [tree_reader_fits_l1, fBox, nodeRC]
       simp [ip, ip0, w1, w2, hc, hi1, oLoadD, trim, allBelow, -Int.natCast_add]
     · by_cases e : j = i
       · subst e; exact hlt
       · exact hs j hj (by omega)
   · right
     have hc : x.ks[i + 1] ≤ x.ks[i] := by omega
     refine ⟨_, ?_, .inr ⟨fun h => hlt (sorted_to h i hi1), rfl⟩⟩
     simp only [tree_reader_fits_l1, fBox, nodeRC]
     simp [ip, ip0, w1, w2, hc, hi1, oLoadD, trim, allBelow, -Int.natCast_add])
  (by
   rintro s ⟨rfl, hs⟩
   have hc : ¬ (((x.ks.length - 1 + 1 : Nat) : Int) < (x.ks.length : Int)) := by omega
   refine ⟨_, ?_, .inl ⟨sorted_of fun i hi => hs i hi (by omega), rfl⟩⟩
   simp only [tree_reader_fits_l1, fBox, nodeRC]
   simp [hc, trim, allBelow, -Int.natCast_add])
 exact ⟨q, hq, h⟩
theorem fits_v (a0 : A) (root : Bool) : tree_reader_fits [a0, .agg (nodeRC x), .s (.bool root)] [] = some (.ok (.s (.bool (decide (formP x root)))), []) := by
 by_cases h7 : x.ks.length ≤ 7
 · have c7 : ¬ (7 : Int) < (x.ks.length : Int) := by omega
   have hent : ∀ g : Bool, g = (!root && decide ((x.ks.length : Int) < 3)) → tree_reader_fits [a0, .agg (nodeRC x), .s (.bool root)] [] = tree_reader_fits_k3 [] (.ptr 0 0 0 0) Ex.normal [.s (.bool g)] (fBox x) := by
    rintro g rfl
    simp only [tree_reader_fits, nodeRC]
    cases root <;> simp [c7, trim, allBelow, putCells] <;> rfl
   by_cases h3 : root = true ∨ 3 ≤ x.ks.length
   · have hg : (!root && decide ((x.ks.length : Int) < 3)) = false := by
      rcases h3 with h3 | h3
      · simp [h3]
      · have : ¬ ((x.ks.length : Int) < 3) := by omega
        simp [this]
     rw [hent false hg.symm]
     obtain ⟨q, hq, hloop⟩ := fits_loop x h7
     have e1 : tree_reader_fits_k3 [] (.ptr 0 0 0 0) Ex.normal [.s (.bool false)] (fBox x) = tree_reader_fits_k2 (.ptr 0 0 0 0) [] q.1 q.2.1 q.2.2 := by
      refine Eq.trans ?_ (hloop (tree_reader_fits_k2 (.ptr 0 0 0 0) []))
      simp [tree_reader_fits_k3]
     rw [e1]
     rcases hq with ⟨hs, rfl⟩ | ⟨hs, rfl⟩
     · simp only [tree_reader_fits_k2, fBox, nodeRC]
       by_cases hidx : x.idx = []
       · have : formP x root ↔ (x.vs.length : Int) = x.ks.length := ⟨fun h => by
          rcases h.2.2.2 with g | g
          · exact_mod_cast g.2
          · exact absurd hidx g.1, fun h => ⟨h7, h3, hs, .inl ⟨hidx, by exact_mod_cast h⟩⟩⟩
         simp [hidx, finish_val, this]
       · have hi0 : ¬ ((x.idx.length : Int) = 0) := by
          intro h; exact hidx (List.length_eq_zero_iff.1 (by exact_mod_cast h))
         have w1 : IntKind.i64.wrap ((x.ks.length : Int) + 1) = ((x.ks.length + 1 : Nat) : Int) := by rw [wrap64_id (by omega) (by omega)]; simp
         by_cases hv : x.vs = []
         · by_cases hl : x.idx.length = x.ks.length + 1
           · have : formP x root ↔ (2 : Int) ≤ (x.idx.length : Int) := ⟨fun h => by
              rcases h.2.2.2 with g | g
              · exact absurd g.1 hidx
              · have := g.2.2.2; omega, fun h => ⟨h7, h3, hs, .inr ⟨hidx, hv, hl, by omega⟩⟩⟩
             simp [hi0, hv, w1, hl, finish_val, this, -Int.natCast_add, hidx]
           · have hl' : ¬ ((x.idx.length : Int) = ((x.ks.length + 1 : Nat) : Int)) := by omega
             have : ¬ formP x root := fun h => by
              rcases h.2.2.2 with g | g
              · exact absurd g.1 hidx
              · exact hl g.2.2.1
             simp [hi0, hv, w1, hl', finish_val, this, -Int.natCast_add, hidx]
         · have hv' : ¬ ((x.vs.length : Int) = 0) := by
            intro h; exact hv (List.length_eq_zero_iff.1 (by exact_mod_cast h))
           have : ¬ formP x root := fun h => by
            rcases h.2.2.2 with g | g
            · exact absurd g.1 hidx
            · exact hv g.2.1
           simp [hi0, hv', hv, finish_val, this, hidx]
     · have : ¬ formP x root := fun h => hs h.2.2.1
       simp [tree_reader_fits_k2, finish_val, this]
   · have hg : (!root && decide ((x.ks.length : Int) < 3)) = true := by
      have h1 : root = false := by cases root <;> simp_all
      have h2 : (x.ks.length : Int) < 3 := by have : ¬ 3 ≤ x.ks.length := fun h => h3 (.inr h); omega
      simp [h1, h2]
     rw [hent true hg.symm]
     have : ¬ formP x root := fun h => h3 h.2.1
     simp [tree_reader_fits_k3, finish_val, this]
 · have c7 : (7 : Int) < (x.ks.length : Int) := by omega
   have : ¬ formP x root := fun h => h7 h.1
   simp only [tree_reader_fits, nodeRC]
   simp [c7, trim, allBelow, putCells, tree_reader_fits_k3, finish_val, this]
end
theorem lo_bad {ks : List Int} {j : Nat} {k : Int} (hj : j ≤ ks.length) : lb (loK none ks j) k ↔ (j = 0 ∨ ∃ h : j - 1 < ks.length, ks[j - 1] ≤ k) := by
 cases j with
 | zero => simp [loK]
 | succ j =>
   have : j < ks.length := by omega
   simp [loK, this]
theorem hi_bad {ks : List Int} {j : Nat} {k : Int} : ub (hiK none ks j) k ↔ ∀ h : j < ks.length, k < ks[j] := by
 unfold hiK
 by_cases h : j < ks.length
 · simp [h]
 · simp [h]
theorem inside_step {N : List NodeR} {x : NodeR} {ks : List Int} (hk : ks.length < 1000) {j : Nat} (hj : j ≤ ks.length) {i : Nat} (hi : i < x.ks.length) (hx : x.ks.length < 1000) :
 ref08_inside_l2 (.s (.int .i64 x.ks.length)) (mkF 1 (x.ks.map (cellC .u64))) (.s (.int .i64 j)) (mkF 1 (ks.map (cellC .u64))) [] ([.s (.int .i64 i)], []) =
  if lb (loK none ks j) x.ks[i] ∧ ub (hiK none ks j) x.ks[i] then some (.inl ([.s (.int .i64 (i + 1 : Nat))], [])) else some (.inr (Ex.ret, [.s (.bool false)], [])) := by
 have w1 : IntKind.i64.wrap ((i : Int) + 1) = ((i + 1 : Nat) : Int) := by rw [wrap64_id (by omega) (by omega)]; simp
 have ip := fun {β : Type} (k : A → Option β) => idx_key (l := x.ks) (i := i) hi k
 have hi' : (i : Int) < x.ks.length := by omega
 rw [lo_bad hj, hi_bad]
 by_cases hjl : j < ks.length
 · have ip2 := fun {β : Type} (k : A → Option β) => idx_key (l := ks) (i := j) hjl k
   have hjl' : (j : Int) < ks.length := by omega
   by_cases h0 : j = 0
   · subst h0
     by_cases hc : x.ks[i] < ks[0]
     · have hc' : ¬ ks[0] ≤ x.ks[i] := by omega
       have ip3 : ∀ {β : Type} (k : A → Option β), oIdxA 1 (mkF 1 (ks.map (cellC .u64))) (.s (.int .i64 0)) k = k (.cptr (cellC .u64 ks[0])) := fun k => ip2 k
       simp [ref08_inside_l2, hi, ip, ip3, hjl, hc, hc', trim, allBelow, ref08_inside_k1, w1, -Int.natCast_add]
     · have hc' : ks[0] ≤ x.ks[i] := by omega
       have ip3 : ∀ {β : Type} (k : A → Option β), oIdxA 1 (mkF 1 (ks.map (cellC .u64))) (.s (.int .i64 0)) k = k (.cptr (cellC .u64 ks[0])) := fun k => ip2 k
       simp [ref08_inside_l2, hi, ip, ip3, hjl, hc, hc', trim, allBelow, ref08_inside_k1, w1, -Int.natCast_add]
   · obtain ⟨j, rfl⟩ : ∃ m, j = m + 1 := ⟨j - 1, by omega⟩
     have w2 : IntKind.i64.wrap (((j + 1 : Nat) : Int) - 1) = (j : Int) := by rw [wrap64_id (by omega) (by omega)]; omega
     have hp : (0 : Int) < ((j + 1 : Nat) : Int) := by omega
     have ip3 := fun {β : Type} (k : A → Option β) => idx_key (l := ks) (i := j) (by omega) k
     have hjj : j < ks.length := by omega
     by_cases hd : x.ks[i] < ks[j]
     · have hd' : ¬ ks[j] ≤ x.ks[i] := by omega
       simp [ref08_inside_l2, hi, ip, ip2, ip3, hjl, hp, w2, hd, hd', hjj, trim, allBelow, ref08_inside_k1, w1, -Int.natCast_add]
     · have hd' : ks[j] ≤ x.ks[i] := by omega
       by_cases hc : x.ks[i] < ks[j + 1]
       · have hc' : ¬ ks[j + 1] ≤ x.ks[i] := by omega
         simp [ref08_inside_l2, hi, ip, ip2, ip3, hjl, hp, w2, hd, hd', hjj, hc, hc', trim, allBelow, ref08_inside_k1, w1, -Int.natCast_add]
       · have hc' : ks[j + 1] ≤ x.ks[i] := by omega
         simp [ref08_inside_l2, hi, ip, ip2, ip3, hjl, hp, w2, hd, hd', hjj, hc, hc', trim, allBelow, ref08_inside_k1, w1, -Int.natCast_add]
 · have hjl' : ¬ (j : Int) < ks.length := by omega
   by_cases h0 : j = 0
   · subst h0
     simp [ref08_inside_l2, hi, ip, hjl, trim, allBelow, ref08_inside_k1, w1, -Int.natCast_add]
   · obtain ⟨j, rfl⟩ : ∃ m, j = m + 1 := ⟨j - 1, by omega⟩
     have w2 : IntKind.i64.wrap (((j + 1 : Nat) : Int) - 1) = (j : Int) := by rw [wrap64_id (by omega) (by omega)]; omega
     have hp : (0 : Int) < ((j + 1 : Nat) : Int) := by omega
     have ip3 := fun {β : Type} (k : A → Option β) => idx_key (l := ks) (i := j) (by omega) k
     have hjj : j < ks.length := by omega
     by_cases hd : x.ks[i] < ks[j]
     · have hd' : ¬ ks[j] ≤ x.ks[i] := by omega
       simp [ref08_inside_l2, hi, ip, ip3, hjl, hp, w2, hd, hd', hjj, trim, allBelow, ref08_inside_k1, w1, -Int.natCast_add]
     · have hd' : ks[j] ≤ x.ks[i] := by omega
       simp [ref08_inside_l2, hi, ip, ip3, hjl, hp, w2, hd, hd', hjj, trim, allBelow, ref08_inside_k1, w1, -Int.natCast_add]
theorem inside_v {N : List NodeR} {p : Nat} {x : NodeR} (hx : N[p]? = some x) (hl : x.ks.length < 1000) {ks : List Int} (hk : ks.length < 1000) {j : Nat} (hj : j ≤ ks.length) :
 ref08_inside [mkF 3 (N.map nodeRC), .s (.int .i64 p), .s (.int .i64 j), mkF 1 (ks.map (cellC .u64))] [] = some (.ok (.s (.bool (decide (inK (loK none ks j) (hiK none ks j) x.ks)))), []) := by
 obtain ⟨q, hq, h⟩ := oLoop_inv' (step := ref08_inside_l2 (.s (.int .i64 x.ks.length)) (mkF 1 (x.ks.map (cellC .u64))) (.s (.int .i64 j)) (mkF 1 (ks.map (cellC .u64))) []) (s0 := ([.s (.int .i64 0)], []))
  (fun i s => s = ([.s (.int .i64 i)], []) ∧ ∀ (m : Nat) (hm : m < x.ks.length), m < i → lb (loK none ks j) x.ks[m] ∧ ub (hiK none ks j) x.ks[m])
  (fun q => (inK (loK none ks j) (hiK none ks j) x.ks ∧ q = (Ex.exit 0, [.any], [])) ∨ (¬ inK (loK none ks j) (hiK none ks j) x.ks ∧ q = (Ex.ret, [.s (.bool false)], []))) x.ks.length ⟨rfl, fun _ _ h => by omega⟩ (by omega)
  (by
   rintro i s hi ⟨rfl, hs⟩
   rw [inside_step (N := N) hk hj hi hl]
   by_cases hc : lb (loK none ks j) x.ks[i] ∧ ub (hiK none ks j) x.ks[i]
   · left
     rw [if_pos hc]
     refine ⟨_, rfl, rfl, fun m hm hmi => ?_⟩
     by_cases e : m = i
     · subst e; exact hc
     · exact hs m hm (by omega)
   · right
     rw [if_neg hc]
     exact ⟨_, rfl, .inr ⟨fun h => hc (h _ (List.getElem_mem hi)), rfl⟩⟩)
  (by
   rintro s ⟨rfl, hs⟩
   refine ⟨_, ?_, .inl ⟨fun k hk => ?_, rfl⟩⟩
   · simp [ref08_inside_l2, trim, allBelow]
   · obtain ⟨m, hm, rfl⟩ := List.mem_iff_getElem.1 hk
     exact hs m hm hm)
 have e1 : ref08_inside [mkF 3 (N.map nodeRC), .s (.int .i64 p), .s (.int .i64 j), mkF 1 (ks.map (cellC .u64))] [] = ref08_inside_k3 [] q.1 q.2.1 q.2.2 := by
  refine Eq.trans ?_ (h (ref08_inside_k3 []))
  simp [ref08_inside, idx_node hx, nodeRC]
 rw [e1]
 rcases hq with ⟨hs, rfl⟩ | ⟨hs, rfl⟩
 · simp [ref08_inside_k3, finish_val, hs]
 · simp [ref08_inside_k3, finish_val, hs]
end Go.Ab.T
namespace Go.Ab.T
open Go Go.Ab Go.Ab.F
open Classical
theorem listL_mem : ∀ (b : Nat) (l : List Nd) (x : NodeR), x ∈ listL b l → ∃ m ∈ l, ∃ b', x ∈ listN b' m
 | b, [], x, h => by simp [listL] at h
 | b, n :: l, x, h => by
   rw [listL, List.mem_append] at h
   rcases h with h | h
   · exact ⟨n, by simp, b, h⟩
   · obtain ⟨m, hm, b', hb⟩ := listL_mem _ l x h
     exact ⟨m, by simp [hm], b', hb⟩
theorem list_few : ∀ (h : Nat) (lo hi : Option Int) (n : Nd), okN h lo hi n → n.ks.length ≤ 7 → ∀ b, ∀ x ∈ listN b n, x.ks.length ≤ 7
 | 0, lo, hi, .mk ks vs kids, hn, h7, b, x, hx => by
   obtain ⟨rfl, -, -, -⟩ := hn
   simp only [listN, listL, List.mem_singleton] at hx
   subst hx; exact h7
 | h + 1, lo, hi, .mk ks vs kids, hn, h7, b, x, hx => by
   obtain ⟨rfl, c1, c2⟩ := hn
   simp only [listN, List.mem_cons] at hx
   rcases hx with rfl | hx
   · exact h7
   · obtain ⟨m, hm, b', hb⟩ := listL_mem _ _ _ hx
     obtain ⟨lo', hi', hok⟩ := chain_each c1 m hm
     exact list_few h lo' hi' m hok (c2 m hm).2 b' x hb
theorem flats_le : ∀ (l : List Nd), (∀ m ∈ l, (T.flat m).length ≤ 7 * cntN m) → (flats l).length ≤ 7 * cntL l
 | [], _ => by simp [flats]
 | n :: l, h => by
   have := h n (by simp)
   have := flats_le l fun m hm => h m (by simp [hm])
   simp only [flats, cntL, List.length_append]; omega
theorem flat_le : ∀ (h : Nat) (lo hi : Option Int) (n : Nd), okN h lo hi n → n.ks.length ≤ 7 → (T.flat n).length ≤ 7 * cntN n
 | 0, lo, hi, .mk ks vs kids, hn, h7 => by
   obtain ⟨rfl, e2, -, -⟩ := hn
   simp only [Nd.ks_mk] at h7
   simp only [T.flat, flats, List.append_nil, List.length_zip, cntN, cntL]; omega
 | h + 1, lo, hi, .mk ks vs kids, hn, h7 => by
   obtain ⟨rfl, c1, c2⟩ := hn
   have := flats_le kids fun m hm => by
    obtain ⟨lo', hi', hok⟩ := chain_each c1 m hm
    exact flat_le h lo' hi' m hok (c2 m hm).2
   simp only [T.flat, List.zip_nil_right, List.nil_append, cntN]; omega
def RdV (F : CallFn) (N : List NodeR) (p : Nat) (r : Option (Nat × Nat × Nd)) : Prop :=
 match r with
 | none => F [mkF 3 (N.map nodeRC), .s (.int .i64 p)] [] = some (.ok (.tup [.s (.int .i64 0), .s (.int .i64 0), .s (.slice none 0 0), .s (.bool false)]), [])
 | some (n, h, nd) => ∃ v, F [mkF 3 (N.map nodeRC), .s (.int .i64 p)] [] = some (.ok (.tup [.s (.int .i64 n), .s (.int .i64 h), .osl 0 v 3 0 (T.flat nd).length, .s (.bool true)]), [.live ⟨v, 3, (T.flat nd).map pairC⟩])
def rdB (r : Option (Nat × Nat × Nd)) : A :=
 match r with
 | none => .tup [.s (.int .i64 0), .s (.int .i64 0), .fsl 0 [], .s (.bool false)]
 | some (n, h, nd) => .tup [.s (.int .i64 n), .s (.int .i64 h), mkF 3 ((T.flat nd).map pairC), .s (.bool true)]
theorem rd_frz (n d : Int) (id v m : Nat) (b : Bool) (rows : List (List A)) (H : Heap) (hk : H[id]? = some (.live ⟨v, 3, rows⟩)) (hm : m = rows.length) (hp : pureRows rows = true) {β : Type} (k : A → Heap → Option β) :
 oFrz (.tup [.s (.int .i64 n), .s (.int .i64 d), .osl id v 3 0 m, .s (.bool b)]) H k = k (.tup [.s (.int .i64 n), .s (.int .i64 d), mkF 3 rows, .s (.bool b)]) (H.set id .dead) := by
 subst hm
 have e : ∀ m, frzA (m + 6) (.tup [.s (.int .i64 n), .s (.int .i64 d), .osl id v 3 0 rows.length, .s (.bool b)]) H = some (.tup [.s (.int .i64 n), .s (.int .i64 d), mkF 3 rows, .s (.bool b)], H.set id .dead) := by
  intro m; simp [frzA, frzL, frzRows, hp, hk, nilS, pureA, notSlice]
 unfold oFrz
 rw [if_neg (by simp [pureA]), show (1000 : Nat) = 994 + 6 from rfl, e]
theorem nil_frz (H : Heap) {β : Type} (k : A → Heap → Option β) :
 oFrz (.tup [.s (.int .i64 0), .s (.int .i64 0), .s (.slice none 0 0), .s (.bool false)]) H k = k (.tup [.s (.int .i64 0), .s (.int .i64 0), .fsl 0 [], .s (.bool false)]) H := by
 have e : ∀ m, frzA (m + 6) (.tup [.s (.int .i64 0), .s (.int .i64 0), .s (.slice none 0 0), .s (.bool false)]) H = some (.tup [.s (.int .i64 0), .s (.int .i64 0), .fsl 0 [], .s (.bool false)], H) := by
  intro m; simp [frzA, frzL, nilS, pureA, notSlice]
 unfold oFrz
 rw [if_neg (by simp [pureA, notSlice]), show (1000 : Nat) = 994 + 6 from rfl, e]
theorem rd_call {F : CallFn} {N : List NodeR} {p : Nat} {r : Option (Nat × Nat × Nd)} (h : RdV F N p r) (H : Heap) {β : Type} (kp k : A → Heap → Option β) :
 (oLend F [mkF 3 (N.map nodeRC), .s (.int .i64 p)] H kp fun w h' => oFrz w h' k) = k (rdB r) (H ++ if r.isSome then [.dead] else []) := by
 match r, h with
 | none, h =>
   rw [oLend_val _ _ _ _ _ _ (by simp [pure_nodes]) (by simp) h]
   rw [nil_frz]; simp [rdB]
 | some (n, d, nd), h =>
   obtain ⟨v, h⟩ := h
   have hr := fun f => ren_pairs f (T.flat nd)
   rw [oLend_any (a' := .tup [.s (.int .i64 n), .s (.int .i64 d), .osl H.length v 3 0 (T.flat nd).length, .s (.bool true)]) (h' := H ++ [.live ⟨v, 3, (T.flat nd).map pairC⟩]) _ _ (by simp [pure_nodes]) h (by
    simp [giveBack, renOut, renA, renL, backIdx, hr, setAll])]
   rw [rd_frz _ _ _ _ _ _ ((T.flat nd).map pairC) _ (by simp) (by simp) (pure_pairs _)]
   simp [rdB]
theorem fin_1 (a a' : A) (id : Nat) (ob : Obj) (H : Heap) (ha : idsA a = [id]) (hr : renA (fun j => if j = id then some 0 else none) a = some a') (hk : H[id]? = some (.live ob)) (hp : idsRows ob.rows = []) (hrr : ∀ f, renRows f ob.rows = some ob.rows) :
 finish 0 (.ok a) H = some (.ok a', [.live ob]) := by
 have h1 : reach H reachFuel [] [id] = [id] := by
  rw [show reachFuel = 99999 + 1 from rfl, reach]
  simp [hk, hp]
 have h2 : idx [id] = fun j => if j = id then some 0 else none := by
  funext j
  by_cases hj : j = id
  · subst hj; simp [idx]
  · simp [idx, List.idxOf?_cons, hj, Ne.symm hj]
 simp [finish, ha, hk, hrr, h1, h2, hr]
section
variable {N : List NodeR} {x : NodeR}
abbrev rH (x : NodeR) (v : Nat) (L : List Pr) : Heap := [.live ⟨0, 3, [nodeRC x]⟩, .live ⟨v, 3, L.map pairC⟩]
theorem rd_leaf (hv : x.vs.length = x.ks.length) (h7 : x.ks.length ≤ 7) :
 ∃ v, oLoop (ref08_read_l1 (.s (.int .i64 x.ks.length)) (.ptr 0 0 0 0) (rH x 0 [])) ([.osl 1 0 3 0 0, .s (.int .i64 0)], rH x 0 []) (ref08_read_k2 []) =
   some (.ok (.tup [.s (.int .i64 1), .s (.int .i64 0), .osl 0 v 3 0 (x.ks.zip x.vs).length, .s (.bool true)]), [.live ⟨v, 3, (x.ks.zip x.vs).map pairC⟩]) := by
 obtain ⟨q, hq, h⟩ := oLoop_inv' (step := ref08_read_l1 (.s (.int .i64 x.ks.length)) (.ptr 0 0 0 0) (rH x 0 [])) (s0 := ([.osl 1 0 3 0 0, .s (.int .i64 0)], rH x 0 []))
  (fun i s => s = ([.osl 1 i 3 0 i, .s (.int .i64 i)], rH x i ((x.ks.zip x.vs).take i)))
  (fun q => q = (Ex.exit 0, [.osl 1 x.ks.length 3 0 x.ks.length], rH x x.ks.length (x.ks.zip x.vs))) x.ks.length (by simp) (by omega)
  (by
   rintro i s hi rfl
   left
   have hi2 : i < x.vs.length := by omega
   have w1 : IntKind.i64.wrap ((i : Int) + 1) = ((i + 1 : Nat) : Int) := by rw [wrap64_id (by omega) (by omega)]; simp
   have ip := fun {β : Type} (k : A → Option β) => idx_key (l := x.ks) (i := i) hi k
   have ip2 := fun {β : Type} (k : A → Option β) => oIdxA_mkF 2 extentC x.vs .i64 _ _ k (List.getElem?_eq_getElem hi2)
   have ap : appendOk (i + 1) 24 := by unfold appendOk; omega
   have hL : (x.ks.zip x.vs).take (i + 1) = (x.ks.zip x.vs).take i ++ [(x.ks[i], x.vs[i])] := by
    rw [List.take_add_one, List.getElem?_eq_getElem (by simp; omega)]
    simp
   have hlen : ((x.ks.zip x.vs).take i).length = i := by simp; omega
   refine ⟨_, ?_, rfl⟩
   rw [hL]
   generalize (x.ks.zip x.vs).take i = L at *
   have i1 := ids_pairs L
   have i2 : idsRows (L.map pairC ++ [pairC (x.ks[i], x.vs[i])]) = [] := by rw [idsRows_append, i1]; simp
   have hpc : pairC (x.ks[i], x.vs[i]) = [.s (.int .u64 x.ks[i]), .s (.int .i64 x.vs[i].start), .s (.int .i64 x.vs[i].len)] := rfl
   have ext1 : cellsAt (some 2) (extentC x.vs[i]) 0 = some (.agg (extentC x.vs[i])) := _root_.id rfl
   have hel : (extentC x.vs[i]).length = 2 := _root_.id rfl
   have hp3 : (pairC (x.ks[i], x.vs[i])).length = 3 := _root_.id rfl
   have hput2 : putCells [.s (.int .u64 x.ks[i]), .s (.int .i64 0), .s (.int .i64 0)] 1 (extentC x.vs[i]) = pairC (x.ks[i], x.vs[i]) := rfl
   simp only [ref08_read_l1, rH, nodeRC]
   simp [hi, ip, ip2, w1, oLoadD, oAppendD, wrL, wrA, idTop, ext1, hel, hput2, hp3, asCells, oAppend_osl, ap, hlen, List.take_of_length_le, trim, allBelow, i1, i2, Go.Ab.place])
  (by
   rintro s rfl
   have i1 := ids_pairs (x.ks.zip x.vs)
   refine ⟨_, ?_, rfl⟩
   have ht : (x.ks.zip x.vs).take x.ks.length = x.ks.zip x.vs := List.take_of_length_le (by simp; omega)
   rw [ht]
   simp only [ref08_read_l1, rH, nodeRC]
   simp [trim, allBelow, i1])
 subst hq
 refine ⟨x.ks.length, ?_⟩
 rw [h (ref08_read_k2 [])]
 have hl : (x.ks.zip x.vs).length = x.ks.length := by simp; omega
 simp only [ref08_read_k2, if_true, List.getD_cons_zero, hl]
 exact fin_1 _ _ 1 _ _ (by simp) (by simp [renA, renL]) (by simp) (ids_pairs _) (fun f => ren_pairs f _)
theorem part_get (N : List NodeR) (p n i : Nat) : (part N p n)[i]? = if i < n then N[p + i]? else none := by
 unfold part
 rw [List.getElem?_take]
 split
 · rw [List.getElem?_drop]
 · rfl
theorem ins_loop (hN : N.length ≤ 1000) (h7 : x.ks.length ≤ 7) {p n j : Nat} (hn : p + n ≤ N.length) (hfew : ∀ y ∈ part N p n, y.ks.length ≤ 7) (hj : j ≤ x.ks.length) (a b c : A) (h0 : Heap) (v : Nat) (L : List Pr) :
 ∃ q, (((∀ y ∈ part N p n, inK (loK none x.ks j) (hiK none x.ks j) y.ks) ∧ q = (Ex.exit 4, [.any, .any, .any, .any], rH x v L ++ [.dead])) ∨
  ((¬ ∀ y ∈ part N p n, inK (loK none x.ks j) (hiK none x.ks j) y.ks) ∧ q = (Ex.ret, [.s (.int .i64 0), .s (.int .i64 0), .s (.slice none 0 0), .s (.bool false)], rH x v L ++ [.dead]))) ∧
   ∀ {β : Type} (k : Ex → List A → Heap → Option β), oLoop (ref08_read_l3 (.s (.int .i64 p)) (.s (.int .i64 n)) (.ptr 0 0 0 0) (mkF 3 (N.map nodeRC)) ([a, b, c, .s (.int .i64 j)], h0) (rH x v L ++ [.dead])) ([.s (.int .i64 p)], rH x v L ++ [.dead]) k = k q.1 q.2.1 q.2.2 := by
 have w0 : IntKind.i64.wrap ((p : Int) + n) = ((p + n : Nat) : Int) := by rw [wrap64_id (by omega) (by omega)]; simp
 have i1 := ids_pairs L
 obtain ⟨q, hq, h⟩ := oLoop_inv' (step := ref08_read_l3 (.s (.int .i64 p)) (.s (.int .i64 n)) (.ptr 0 0 0 0) (mkF 3 (N.map nodeRC)) ([a, b, c, .s (.int .i64 j)], h0) (rH x v L ++ [.dead])) (s0 := ([.s (.int .i64 p)], rH x v L ++ [.dead]))
  (fun i s => s = ([.s (.int .i64 (p + i : Nat))], rH x v L ++ [.dead]) ∧ ∀ (m : Nat) y, m < i → (part N p n)[m]? = some y → inK (loK none x.ks j) (hiK none x.ks j) y.ks)
  (fun q => ((∀ y ∈ part N p n, inK (loK none x.ks j) (hiK none x.ks j) y.ks) ∧ q = (Ex.exit 4, [.any, .any, .any, .any], rH x v L ++ [.dead])) ∨
   ((¬ ∀ y ∈ part N p n, inK (loK none x.ks j) (hiK none x.ks j) y.ks) ∧ q = (Ex.ret, [.s (.int .i64 0), .s (.int .i64 0), .s (.slice none 0 0), .s (.bool false)], rH x v L ++ [.dead]))) n ⟨rfl, fun _ _ h => by omega⟩ (by omega)
  (by
   rintro i s hi ⟨rfl, hs⟩
   have hlt : ((p + i : Nat) : Int) < ((p + n : Nat) : Int) := by omega
   have w1 : IntKind.i64.wrap (((p + i : Nat) : Int) + 1) = ((p + (i + 1) : Nat) : Int) := by rw [wrap64_id (by omega) (by omega)]; omega
   have hy : N[p + i]? = some N[p + i] := List.getElem?_eq_getElem (by omega)
   have hpg : (part N p n)[i]? = some N[p + i] := by rw [part_get, if_pos hi, hy]
   have hf := hfew _ (List.mem_of_getElem? hpg)
   have hI := inside_v hy (by omega) (show x.ks.length < 1000 by omega) hj
   have hC := fun {β : Type} (H : Heap) (kp k : A → Heap → Option β) => oLend_val ref08_inside _ H kp k _ (by simp [pure_nodes, pure_ks]) (by simp) hI
   generalize N[p + i]'(by omega) = y at *
   by_cases hc : inK (loK none x.ks j) (hiK none x.ks j) y.ks
   · left
     refine ⟨_, ?_, rfl, fun m z hm hz => ?_⟩
     · simp only [hc, decide_true] at hC
       simp only [ref08_read_l3, rH, nodeRC] at hC ⊢
       simp [w0, hlt, hC, w1, trim, allBelow, i1, -Int.natCast_add]
     · by_cases e : m = i
       · subst e; rw [hpg] at hz; cases hz; exact hc
       · exact hs m z (by omega) hz
   · right
     refine ⟨_, ?_, .inr ⟨fun hh => hc (hh _ (List.mem_of_getElem? hpg)), rfl⟩⟩
     simp only [hc, decide_false] at hC
     simp only [ref08_read_l3, rH, nodeRC] at hC ⊢
     simp [w0, hlt, hC, w1, trim, allBelow, i1, -Int.natCast_add])
  (by
   rintro s ⟨rfl, hs⟩
   refine ⟨_, ?_, .inl ⟨fun y hy => ?_, rfl⟩⟩
   · simp only [ref08_read_l3, rH, nodeRC]
     simp [w0, trim, allBelow, i1, -Int.natCast_add]
   · obtain ⟨m, hm, rfl⟩ := List.mem_iff_getElem.1 hy
     have hml : m < n := by unfold part at hm; simp at hm; omega
     exact hs m _ hml (List.getElem?_eq_getElem hm))
 exact ⟨q, hq, h⟩
end
end Go.Ab.T
namespace Go.Ab.T
open Go Go.Ab Go.Ab.F
open Classical
def deepI : Option Nat → Int
 | none => -1
 | some d => d
theorem app_pairs (b v : Nat) (L M : List Pr) (H : Heap) (hb : H[b]? = some (.live ⟨v, 3, L.map pairC⟩)) (hl : L.length + M.length < 100000) {β : Type} (k : A → Heap → Option β) :
 oAppend none 3 24 (.osl b v 3 0 L.length) (mkF 3 (M.map pairC)) H k = k (.osl b (v + 1) 3 0 (L ++ M).length) (H.set b (.live ⟨v + 1, 3, (L ++ M).map pairC⟩)) := by
 have hr : rowsOf 3 (mkF 3 (M.map pairC)) H = some (M.map pairC) := by
  cases M with
  | nil => simp [rowsOf, mkF]
  | cons a r => simp [rowsOf, mkF]
 have ap : appendOk (L.length + M.length) 24 := by unfold appendOk; omega
 simp [oAppend_osl, hr, hb, ap, List.take_of_length_le]
section
variable {N : List NodeR} {x : NodeR}
abbrev ret0 : List A := [.s (.int .i64 0), .s (.int .i64 0), .s (.slice none 0 0), .s (.bool false)]
structure KS (N : List NodeR) (x : NodeR) (f p i : Nat) (s : List A × Heap) (size : Nat) (deep : Option Nat) (kids : List Nd) (v : Nat) : Prop where
 st : s = ([.osl 1 v 3 0 (flats kids).length, .s (.int .i64 size), .s (.int .i64 (deepI deep)), .s (.int .i64 i)], rH x v (flats kids))
 run : rdKids N (rd f N) p x.ks i (x.idx.drop i) size deep kids = rdKids N (rd f N) p x.ks 0 x.idx 1 none []
 le : p + size ≤ N.length
 len : (flats kids).length ≤ 7 * size
 one : 1 ≤ size
 dp : 0 < i → ∃ d, deep = some d
theorem flats_add (l : List Nd) (m : Nd) : flats (l ++ [m]) = flats l ++ T.flat m := by rw [flats_append]; simp [flats]
theorem kid_step (hN : N.length ≤ 1000) {f p : Nat} (h7 : x.ks.length ≤ 7) (hidx : x.idx.length = x.ks.length + 1) {self : CallFn} (hself : ∀ q, q ≤ N.length → p < q → RdV self N q (rd f N q))
 {i : Nat} (hi : i < x.idx.length) {s : List A × Heap} {size : Nat} {deep : Option Nat} {kids : List Nd} {v : Nat} (hK : KS N x f p i s size deep kids v) :
 (∃ s' size' deep' kids' v', ref08_read_l6 self (.s (.int .i64 x.idx.length)) (mkF 1 (x.idx.map (cellC .i64))) (.s (.int .i64 p)) (rH x 0 []) (mkF 3 (N.map nodeRC)) (.ptr 0 0 0 0) s = some (.inl s') ∧ KS N x f p (i + 1) s' size' deep' kids' v') ∨
 (ref08_read_l6 self (.s (.int .i64 x.idx.length)) (mkF 1 (x.idx.map (cellC .i64))) (.s (.int .i64 p)) (rH x 0 []) (mkF 3 (N.map nodeRC)) (.ptr 0 0 0 0) s = some (.inr (Ex.ret, ret0 ++ [.osl 1 v 3 0 (flats kids).length, .s (.int .i64 size), .s (.int .i64 (deepI deep))], rH x v (flats kids))) ∧
  rdKids N (rd f N) p x.ks 0 x.idx 1 none [] = none) := by
 obtain ⟨rfl, hrun, hle, hlen, hone, hdp⟩ := hK
 have hi' : (i : Int) < x.idx.length := by omega
 have w1 : IntKind.i64.wrap ((i : Int) + 1) = ((i + 1 : Nat) : Int) := by rw [wrap64_id (by omega) (by omega)]; simp
 have w2 : IntKind.i64.wrap ((p : Int) + size) = ((p + size : Nat) : Int) := by rw [wrap64_id (by omega) (by omega)]; simp
 have ip := fun {β : Type} (k : A → Option β) => oIdxA_mkF 1 (cellC .i64) x.idx .i64 _ _ k (List.getElem?_eq_getElem hi)
 rw [List.drop_eq_getElem_cons hi] at hrun
 generalize x.idx[i] = m at *
 have i1 := ids_pairs (flats kids)
 have hn0 : x.idx ≠ [] := fun e => by rw [e] at hi; simp at hi
 by_cases hm : m = ((p + size : Nat) : Int)
 · have hV := hself (p + size) hle (by omega)
   have hS := rd_sound (N := N) f (p + size)
   cases hr : rd f N (p + size) with
   | none =>
     right
     rw [hr] at hV
     have hC := fun {β : Type} (H : Heap) (kp k : A → Heap → Option β) => rd_call hV H kp k
     simp only [rdKids, if_pos hm, hr] at hrun
     subst hm
     refine ⟨?_, hrun.symm⟩
     simp only [ref08_read_l6, rH, nodeRC]
     simp [hi, ip, w2, hC, rdB, trim, allBelow, i1, ref08_read_k5, -Int.natCast_add]
   | some r =>
     obtain ⟨n, d, nd⟩ := r
     have hA := hS n d nd hr
     rw [hr] at hV
     have hC := fun {β : Type} (H : Heap) (kp k : A → Heap → Option β) => rd_call hV H kp k
     simp only [rdKids, if_pos hm, hr] at hrun
     subst hm
     have hdn := height_le _ _ _ _ hA.ok
     have hcn := hA.cnt
     have hln := hA.le
     by_cases hd : deep = none ∨ deep = some d
     · have hgd : (decide ((0 : Int) ≤ deepI deep) && decide (¬ (d : Int) = deepI deep)) = false := by
        rcases hd with rfl | rfl
        · simp [deepI]
        · simp [deepI]
       have hfew : ∀ y ∈ part N (p + size) n, y.ks.length ≤ 7 := by
        rw [hA.part]; exact list_few _ _ _ _ hA.ok hA.few _
       obtain ⟨q, hq, hloop⟩ := ins_loop (N := N) (x := x) hN h7 hln hfew (j := i) (by omega) (.osl 1 v 3 0 (flats kids).length) (.s (.int .i64 size)) (.s (.int .i64 (deepI deep)))
        (rH x v (flats kids)) v (flats kids)
       have hgo : ref08_read_l6 self (.s (.int .i64 x.idx.length)) (mkF 1 (x.idx.map (cellC .i64))) (.s (.int .i64 p)) (rH x 0 []) (mkF 3 (N.map nodeRC)) (.ptr 0 0 0 0)
        ([.osl 1 v 3 0 (flats kids).length, .s (.int .i64 size), .s (.int .i64 (deepI deep)), .s (.int .i64 i)], rH x v (flats kids)) =
        ref08_read_k4 ([.osl 1 v 3 0 (flats kids).length, .s (.int .i64 size), .s (.int .i64 (deepI deep)), .s (.int .i64 i)], rH x v (flats kids)) (.s (.int .i64 n)) (mkF 3 ((T.flat nd).map pairC)) (rH x 0 []) (.s (.int .i64 d)) q.1 q.2.1 q.2.2 := by
        refine Eq.trans ?_ (hloop _)
        by_cases g1 : (0 : Int) ≤ deepI deep
        · have g2 : (d : Int) = deepI deep := by simpa [g1] using hgd
          simp only [ref08_read_l6, rH, nodeRC]
          simp [hi, ip, w2, hC, rdB, g1, g2, trim, allBelow, i1, ref08_read_k5, -Int.natCast_add]
        · simp only [ref08_read_l6, rH, nodeRC]
          simp [hi, ip, w2, hC, rdB, g1, trim, allBelow, i1, ref08_read_k5, -Int.natCast_add]
       rw [hgo]
       rcases hq with ⟨hin, rfl⟩ | ⟨hin, rfl⟩
       · left
         rw [if_pos ⟨hd, hin⟩] at hrun
         have w3 : IntKind.i64.wrap ((size : Int) + n) = ((size + n : Nat) : Int) := by rw [wrap64_id (by omega) (by omega)]; simp
         have hfl := flat_le _ _ _ _ hA.ok hA.few
         have hap := fun {β : Type} (k : A → Heap → Option β) => app_pairs 1 v (flats kids) (T.flat nd) (rH x v (flats kids) ++ [.dead]) (by simp) (by omega) k
         have i2 := ids_pairs (flats kids ++ T.flat nd)
         refine ⟨_, size + n, some d, kids ++ [nd], v + 1, ?_, ⟨rfl, hrun, by omega, ?_, by omega, fun _ => ⟨d, rfl⟩⟩⟩
         · simp only [ref08_read_k4]
           simp only [if_true, List.getD_cons_zero, List.getD_cons_succ]
           rw [show (rH x v (flats kids) ++ [Go.Ab.Slot.dead]) = [.live ⟨0, 3, [nodeRC x]⟩, .live ⟨v, 3, (flats kids).map pairC⟩, .dead] from rfl] at hap ⊢
           simp only [rH, nodeRC] at hap ⊢
           simp only [oAr_s, hap]
           simp [w1, w3, trim, allBelow, i2, flats_add, deepI, -Int.natCast_add, -List.map_append]
         · rw [flats_add, List.length_append]; omega
       · right
         rw [if_neg (fun h => hin h.2)] at hrun
         refine ⟨?_, hrun.symm⟩
         simp only [ref08_read_k4, rH, nodeRC]
         simp [trim, allBelow, i1]
     · right
       rw [if_neg (fun h => hd h.1)] at hrun
       refine ⟨?_, hrun.symm⟩
       cases deep with
       | none => exact absurd (.inl rfl) hd
       | some e =>
         have g1 : (0 : Int) ≤ deepI (some e) := by simp [deepI]
         have g2 : ¬ (d : Int) = deepI (some e) := by
          intro h
          simp only [deepI] at h
          exact hd (.inr (by congr 1; omega))
         simp only [ref08_read_l6, rH, nodeRC]
         simp [hi, ip, w2, hC, rdB, g1, g2, trim, allBelow, i1, ref08_read_k5, -Int.natCast_add]
 · right
   simp only [rdKids, if_neg hm] at hrun
   refine ⟨?_, hrun.symm⟩
   simp only [ref08_read_l6, rH, nodeRC]
   simp [hi, ip, w2, hm, trim, allBelow, i1, -Int.natCast_add]
theorem kids_loop (hN : N.length ≤ 1000) {f p : Nat} (hp : p < N.length) (h7 : x.ks.length ≤ 7) (hidx : x.idx.length = x.ks.length + 1) {self : CallFn} (hself : ∀ q, q ≤ N.length → p < q → RdV self N q (rd f N q)) :
 ∃ q, ((rdKids N (rd f N) p x.ks 0 x.idx 1 none [] = none ∧ ∃ a b c H, q = (Ex.ret, ret0 ++ [a, b, c], H)) ∨
  (∃ size d kids v, rdKids N (rd f N) p x.ks 0 x.idx 1 none [] = some (size, some d, kids) ∧ q = (Ex.exit 2, [.any, .any, .any, .any, .osl 1 v 3 0 (flats kids).length, .s (.int .i64 size), .s (.int .i64 d)], rH x v (flats kids)))) ∧
   ∀ {β : Type} (k : Ex → List A → Heap → Option β), oLoop (ref08_read_l6 self (.s (.int .i64 x.idx.length)) (mkF 1 (x.idx.map (cellC .i64))) (.s (.int .i64 p)) (rH x 0 []) (mkF 3 (N.map nodeRC)) (.ptr 0 0 0 0)) ([.osl 1 0 3 0 0, .s (.int .i64 1), .s (.int .i64 (-1)), .s (.int .i64 0)], rH x 0 []) k = k q.1 q.2.1 q.2.2 := by
 obtain ⟨q, hq, h⟩ := oLoop_inv' (step := ref08_read_l6 self (.s (.int .i64 x.idx.length)) (mkF 1 (x.idx.map (cellC .i64))) (.s (.int .i64 p)) (rH x 0 []) (mkF 3 (N.map nodeRC)) (.ptr 0 0 0 0))
  (s0 := ([.osl 1 0 3 0 0, .s (.int .i64 1), .s (.int .i64 (-1)), .s (.int .i64 0)], rH x 0 []))
  (fun i s => ∃ size deep kids v, KS N x f p i s size deep kids v)
  (fun q => (rdKids N (rd f N) p x.ks 0 x.idx 1 none [] = none ∧ ∃ a b c H, q = (Ex.ret, ret0 ++ [a, b, c], H)) ∨
   (∃ size d kids v, rdKids N (rd f N) p x.ks 0 x.idx 1 none [] = some (size, some d, kids) ∧ q = (Ex.exit 2, [.any, .any, .any, .any, .osl 1 v 3 0 (flats kids).length, .s (.int .i64 size), .s (.int .i64 d)], rH x v (flats kids)))) x.idx.length
  ⟨1, none, [], 0, ⟨by simp [flats, deepI], by simp, by omega, by simp [flats], by omega, fun h => by omega⟩⟩ (by omega)
  (by
   rintro i s hi ⟨size, deep, kids, v, hK⟩
   rcases kid_step hN h7 hidx hself hi hK with ⟨s', a, b, c, d, h1, h2⟩ | ⟨h1, h2⟩
   · exact .inl ⟨s', h1, a, b, c, d, h2⟩
   · exact .inr ⟨_, h1, .inl ⟨h2, _, _, _, _, rfl⟩⟩)
  (by
   rintro s ⟨size, deep, kids, v, hK⟩
   obtain ⟨rfl, hrun, hle, hlen, hone, hdp⟩ := hK
   obtain ⟨d, rfl⟩ := hdp (by omega)
   rw [List.drop_length] at hrun
   simp only [rdKids] at hrun
   have i1 := ids_pairs (flats kids)
   refine ⟨_, ?_, .inr ⟨size, d, kids, v, hrun.symm, rfl⟩⟩
   simp only [ref08_read_l6, rH, nodeRC]
   simp [trim, allBelow, i1, deepI])
 exact ⟨q, hq, h⟩
end
theorem read_v {N : List NodeR} (hN : N.length ≤ 1000) : ∀ f p, p ≤ N.length → N.length - p < f → RdV (ref08_read f) N p (rd f N p)
 | 0, p, hp, hf => by omega
 | f + 1, p, hp, hf => by
   cases hx : N[p]? with
   | none =>
     have hge : N.length ≤ p := List.getElem?_eq_none_iff.1 hx
     have hge' : (N.length : Int) ≤ (p : Int) := by omega
     simp only [rd, hx, RdV]
     show ref08_read_step (ref08_read f) _ [] = _
     simp [ref08_read_step, hge, trim, allBelow, ref08_read_k8]
     exact finish_val _ _ (by simp)
   | some x =>
     have hpl : p < N.length := (List.getElem?_eq_some_iff.1 hx).1
     have hge' : ¬ N.length ≤ p := by omega
     have in1 := fun {β : Type} (k : A → Option β) => idx_node hx k
     have hfv := form_v x (decide (p = 0))
     have hC := fun {β : Type} (H : Heap) (kp k : A → Heap → Option β) => oLend_val ref08_form _ H kp k _ (by simp [nodeRC_pure, pureA]) (by simp) hfv
     have hat : cellsAt (some 3) (nodeRC x) 0 = some (.agg (nodeRC x)) := _root_.id rfl
     have hput : putCells [.s (.slice none 0 0), .s (.slice none 0 0), .s (.slice none 0 0)] 0 (nodeRC x) = nodeRC x := _root_.id rfl
     have hl3 : (nodeRC x).length = 3 := _root_.id rfl
     by_cases hform : formP x (decide (p = 0))
     · simp only [hform, decide_true] at hC
       simp only [rd, hx, if_pos hform]
       have hk8 : ∀ r, ref08_read_k8 (ref08_read f) [] (mkF 3 (N.map nodeRC)) (.s (.int .i64 p)) Ex.normal [.s (.bool false)] [] = r → ref08_read_step (ref08_read f) [mkF 3 (N.map nodeRC), .s (.int .i64 p)] [] = r := by
        rintro r rfl
        simp [ref08_read_step, hge', in1, hat, hC, trim, allBelow]
       by_cases hidx : x.idx = []
       · have hv : x.vs.length = x.ks.length := by
          rcases hform.2.2.2 with g | g
          · exact g.2
          · exact absurd hidx g.1
         obtain ⟨v, hv⟩ := rd_leaf (x := x) hv hform.1
         rw [if_pos hidx]
         simp only [RdV, T.flat, flats, List.append_nil]
         refine ⟨v, hk8 _ ?_⟩
         refine Eq.trans ?_ (hv.trans (by simp))
         simp [ref08_read_k8, in1, hat, hput, hl3, hidx]
         simp only [rH]
         simp [nodeRC, hidx]
       · have hidl : x.idx.length = x.ks.length + 1 := by
          rcases hform.2.2.2 with g | g
          · exact absurd g.1 hidx
          · exact g.2.2.1
         have hid0 : ¬ ((x.idx.length : Int) = 0) := by omega
         rw [if_neg hidx]
         obtain ⟨q, hq, hloop⟩ := kids_loop (x := x) hN hpl hform.1 hidl (f := f) (fun q h1 h2 => read_v hN f q h1 (by omega))
         have hgo : ref08_read_step (ref08_read f) [mkF 3 (N.map nodeRC), .s (.int .i64 p)] [] = ref08_read_k7 [] q.1 q.2.1 q.2.2 := by
          refine hk8 _ ?_
          refine Eq.trans ?_ (hloop _)
          simp [ref08_read_k8, in1, hat, hput, hl3]
          simp [nodeRC, hid0, hidx]
          rfl
         rcases hq with ⟨hr, a, b, c, H, rfl⟩ | ⟨size, d, kids, v, hr, rfl⟩
         · rw [hr]
           simp only [RdV]
           refine hgo.trans ?_
           simp only [ref08_read_k7, ret0]
           simp
           exact finish_val _ _ (by simp)
         · rw [hr]
           have hS := rd_sound (N := N) (f + 1) p size (d + 1) (.mk x.ks [] kids) (by simp only [rd, hx, if_pos hform, if_neg hidx, hr])
           have hh := height_le _ _ _ _ hS.ok
           have hc := hS.cnt
           have hle := hS.le
           have w1 : IntKind.i64.wrap ((d : Int) + 1) = ((d + 1 : Nat) : Int) := by rw [wrap64_id (by omega) (by omega)]; simp
           simp only [RdV, T.flat, List.zip_nil_right, List.nil_append]
           refine ⟨v, hgo.trans ?_⟩
           simp only [ref08_read_k7, if_true, List.getD_cons_zero, List.getD_cons_succ, oAr_s]
           have e : arInt BinOp.add IntKind.i64 (d : Int) 1 = some ((d + 1 : Nat) : Int) := by rw [← w1]; rfl
           rw [e]
           exact fin_1 _ _ 1 _ _ (by simp) (by simp [renA, renL]) (by simp) (ids_pairs _) (fun f => ren_pairs f _)
     · simp only [hform, decide_false] at hC
       simp only [rd, hx, if_neg hform, RdV]
       show ref08_read_step (ref08_read f) _ [] = _
       simp [ref08_read_step, hge', in1, hat, hC, trim, allBelow, ref08_read_k8]
       exact finish_val _ _ (by simp)
noncomputable def readR (N : List NodeR) : Option (List Pr) := match rd big N 0 with
 | some (n, _, nd) => if n = N.length then some (T.flat nd) else none
 | none => none
def readB : Option (List Pr) → A
 | some l => .tup [mkF 3 (l.map pairC), .s (.bool true)]
 | none => .tup [.fsl 0 [], .s (.bool false)]
def readO : Option (List Pr) → A
 | some l => .tup [mkF 3 (l.map pairC), .s (.bool true)]
 | none => .tup [.s (.slice none 0 0), .s (.bool false)]
theorem Read_v {N : List NodeR} (hN : N.length ≤ 1000) : ref08_Read [mkF 3 (N.map nodeRC)] [] = some (.ok (readO (readR N)), []) := by
 have hV := read_v hN big 0 (by omega) (by rw [big_eq]; omega)
 have hC := fun {β : Type} (H : Heap) (kp k : A → Heap → Option β) => rd_call hV H kp k
 unfold readR
 cases hr : rd big N 0 with
 | none =>
   rw [hr] at hC
   simp only [rdB, show ((0 : Nat) : Int) = 0 from rfl] at hC
   simp [ref08_Read]
   simp [hC, trim, allBelow, ref08_Read_k1, readO]
   exact finish_val _ _ (by simp)
 | some r =>
   obtain ⟨n, h, nd⟩ := r
   rw [hr] at hC
   by_cases hn : n = N.length
   · have hn' : (n : Int) = N.length := by omega
     simp only [rdB, show ((0 : Nat) : Int) = 0 from rfl] at hC
     simp [ref08_Read]
     simp [hC, hn, trim, allBelow, ref08_Read_k1, readO]
     exact finish_val _ _ (by simp)
   · have hn' : ¬ (n : Int) = N.length := by omega
     simp only [rdB, show ((0 : Nat) : Int) = 0 from rfl] at hC
     simp [ref08_Read]
     simp [hC, hn, trim, allBelow, ref08_Read_k1, readO]
     rw [if_neg hn']
     exact finish_val _ _ (by simp)
theorem Read_call {N : List NodeR} (hN : N.length ≤ 1000) {β : Type} (H : Heap) (kp k : A → Heap → Option β) :
 (oLend ref08_Read [mkF 3 (N.map nodeRC)] H kp fun w h' => oFrz w h' k) = k (readB (readR N)) H := by
 have hv := Read_v hN
 cases hr : readR N with
 | some l =>
   rw [hr] at hv
   rw [oLend_val _ _ _ _ _ _ (by simp [pure_nodes]) (by simp [readO]) hv]
   simp only [readO, readB]
   rw [oFrz_pure _ _ _ (by simp [pureA, pure_pairs])]
 | none =>
   rw [hr] at hv
   rw [oLend_val _ _ _ _ _ _ (by simp [pure_nodes]) (by simp [readO]) hv]
   simp only [readO, readB]
   have e : ∀ m, frzA (m + 4) (.tup [.s (.slice none 0 0), .s (.bool false)]) H = some (.tup [.fsl 0 [], .s (.bool false)], H) := by
    intro m; simp [frzA, frzL, nilS, pureA, notSlice]
   unfold oFrz
   rw [if_neg (by simp [pureA, notSlice]), show (1000 : Nat) = 996 + 4 from rfl, e]
end Go.Ab.T
namespace Go.Ab.T
open Go Go.Ab Go.Ab.F
open Classical
def bndC (lo hi : Option Int) : List A := [.s (.int .u64 (lo.getD 0)), .s (.int .u64 (hi.getD 0)), .s (.bool lo.isSome), .s (.bool hi.isSome)]
theorem outside_v (lo hi : Option Int) (k : Int) : tree_bounds_outside [.agg (bndC lo hi), .s (.int .u64 k)] [] = some (.ok (.s (.bool (!decide (lb lo k ∧ ub hi k)))), []) := by
 cases lo with
 | none =>
   cases hi with
   | none => simp [tree_bounds_outside, bndC, finish_val]
   | some b =>
     by_cases h : k < b
     · have h' : ¬ b ≤ k := by omega
       simp [tree_bounds_outside, bndC, finish_val, h, h']
     · have h' : b ≤ k := by omega
       simp [tree_bounds_outside, bndC, finish_val, h, h']
 | some a =>
   by_cases g : k < a
   · have g' : ¬ a ≤ k := by omega
     simp [tree_bounds_outside, bndC, finish_val, g, g']
   · have g' : a ≤ k := by omega
     cases hi with
     | none => simp [tree_bounds_outside, bndC, finish_val, g, g']
     | some b =>
       by_cases h : k < b
       · have h' : ¬ b ≤ k := by omega
         simp [tree_bounds_outside, bndC, finish_val, g, g', h, h']
       · have h' : b ≤ k := by omega
         simp [tree_bounds_outside, bndC, finish_val, g, g', h, h']
abbrev oName : String := "(bailey/tree.bounds).outside"
abbrev outF (lo hi : Option Int) : A := .fn oName [.fsl 0 [[.any]], .agg (bndC lo hi)]
theorem en_out : En_tree_reader_node oName = tree_bounds_outside := by simp [En_tree_reader_node, oName]
theorem bnd_pure : pureA (.fsl 0 [[.any]]) = true := rfl
theorem index_v (lo hi : Option Int) (ks : List Int) (hk : ks.length ≤ 1000) : ∃ r : Int, slices_IndexFunc_Suint64_uint64 En_tree_reader_node [mkF 1 (ks.map (cellC .u64)), outF lo hi] [] = some (.ok (.s (.int .i64 r)), []) ∧ decide (0 ≤ r) = !decide (inK lo hi ks) := by
 obtain ⟨q, hq, h⟩ := oLoop_inv' (step := slices_IndexFunc_Suint64_uint64_l1 En_tree_reader_node (.s (.int .i64 ks.length)) (mkF 1 (ks.map (cellC .u64))) (outF lo hi) []) (s0 := ([.s (.int .i64 0)], []))
  (fun i s => s = ([.s (.int .i64 i)], []) ∧ ∀ (m : Nat) (hm : m < ks.length), m < i → lb lo ks[m] ∧ ub hi ks[m])
  (fun q => (inK lo hi ks ∧ q = (Ex.exit 0, [.any], [])) ∨ (¬ inK lo hi ks ∧ ∃ i : Nat, q = (Ex.ret, [.s (.int .i64 i)], []))) ks.length ⟨rfl, fun _ _ h => by omega⟩ (by omega)
  (by
   rintro i s hil ⟨rfl, hs⟩
   have w1 : IntKind.i64.wrap ((i : Int) + 1) = ((i + 1 : Nat) : Int) := by rw [wrap64_id (by omega) (by omega)]; simp
   have ip := fun {β : Type} (k : A → Option β) => idx_key (l := ks) (i := i) hil k
   have hO := outside_v lo hi ks[i]
   have hC := fun {β : Type} (H : Heap) (kp k : A → Heap → Option β) => oLend_val tree_bounds_outside _ H kp k _ (by simp [bndC]) (by simp) hO
   by_cases hc : lb lo ks[i] ∧ ub hi ks[i]
   · left
     simp only [hc, and_self, decide_true, Bool.not_true] at hC
     refine ⟨_, ?_, rfl, fun m hm hmi => ?_⟩
     · simp [slices_IndexFunc_Suint64_uint64_l1, hil, ip, en_out, hC, w1, trim, allBelow]
     · by_cases e : m = i
       · subst e; exact hc
       · exact hs m hm (by omega)
   · right
     simp only [hc, decide_false, Bool.not_false] at hC
     refine ⟨_, ?_, .inr ⟨fun hh => hc (hh _ (List.getElem_mem hil)), i, rfl⟩⟩
     simp [slices_IndexFunc_Suint64_uint64_l1, hil, ip, en_out, hC, w1, trim, allBelow])
  (by
   rintro s ⟨rfl, hs⟩
   refine ⟨_, ?_, .inl ⟨fun k hk => ?_, rfl⟩⟩
   · simp [slices_IndexFunc_Suint64_uint64_l1, trim, allBelow]
   · obtain ⟨m, hm, rfl⟩ := List.mem_iff_getElem.1 hk
     exact hs m hm hm)
 have e1 : slices_IndexFunc_Suint64_uint64 En_tree_reader_node [mkF 1 (ks.map (cellC .u64)), outF lo hi] [] = slices_IndexFunc_Suint64_uint64_k2 [] q.1 q.2.1 q.2.2 := by
  refine Eq.trans ?_ (h (slices_IndexFunc_Suint64_uint64_k2 []))
  simp [slices_IndexFunc_Suint64_uint64]
 rw [e1]
 rcases hq with ⟨hs, rfl⟩ | ⟨hs, i, rfl⟩
 · exact ⟨-1, by simp [slices_IndexFunc_Suint64_uint64_k2, finish_val], by simp [hs]⟩
 · exact ⟨i, by simp [slices_IndexFunc_Suint64_uint64_k2, finish_val], by simp [hs]⟩
theorem contains_call (lo hi : Option Int) (ks : List Int) (hk : ks.length ≤ 1000) (H : Heap) {β : Type} (kp k : A → Heap → Option β) :
 oLend (slices_ContainsFunc_Suint64_uint64 En_tree_reader_node) [mkF 1 (ks.map (cellC .u64)), outF lo hi] H kp k = k (.s (.bool (!decide (inK lo hi ks)))) H := by
 obtain ⟨r, h1, h2⟩ := index_v lo hi ks hk
 have hC := fun {β : Type} (H : Heap) (kp k : A → Heap → Option β) => oLend_val (slices_IndexFunc_Suint64_uint64 En_tree_reader_node) _ H kp k _ (by simp [pure_ks, bndC, bnd_pure]) (by simp) h1
 refine oLend_val _ _ _ _ _ _ (by simp [pure_ks, bndC, bnd_pure]) (by simp) ?_
 rw [← h2]
 simp [slices_ContainsFunc_Suint64_uint64, hC, finish_val]
structure RInv (N : List NodeR) (s : RS) : Prop where
 cnt : s.cnt ≤ 7 * s.nxt
 nxt : s.nxt ≤ N.length
theorem rnKids_inv {N : List NodeR} {rec : RecT} (hrec : ∀ i lo hi s, RInv N s → RInv N (rec i lo hi s).1 ∧ s.nxt ≤ (rec i lo hi s).1.nxt) {lo hi : Option Int} {ks : List Int} :
 ∀ (r : List Int) (j : Nat) (s : RS) (kids : List Nd), RInv N s → RInv N (rnKids rec lo hi ks j r s kids).1 ∧ s.nxt ≤ (rnKids rec lo hi ks j r s kids).1.nxt
 | [], _, s, _, h => ⟨h, Nat.le_refl _⟩
 | m :: r, j, s, kids, h => by
   obtain ⟨h1, h2⟩ := hrec m (loK lo ks j) (hiK hi ks j) s h
   obtain ⟨g1, g2⟩ := rnKids_inv hrec (lo := lo) (hi := hi) (ks := ks) r (j + 1) _ (kids ++ [(rec m (loK lo ks j) (hiK hi ks j) s).2]) h1
   exact ⟨g1, Nat.le_trans h2 g2⟩
theorem rn_inv {N : List NodeR} : ∀ (f : Nat) (i depth : Int) (lo hi : Option Int) (s : RS), RInv N s → RInv N (rn f N i depth lo hi s).1 ∧ s.nxt ≤ (rn f N i depth lo hi s).1.nxt
 | 0, _, _, _, _, s, h => ⟨⟨h.cnt, h.nxt⟩, Nat.le_refl _⟩
 | f + 1, i, depth, lo, hi, s, h => by
   have hfail : RInv N s.fail.1 ∧ s.nxt ≤ s.fail.1.nxt := ⟨⟨h.cnt, h.nxt⟩, Nat.le_refl _⟩
   have := h.cnt
   have := h.nxt
   simp only [rn]
   split
   · exact hfail
   split
   · exact hfail
   rename_i x hx
   have hp : s.nxt < N.length := (List.getElem?_eq_some_iff.1 hx).1
   split
   · rename_i hf
     have h7 := hf.1
     split
     · exact ⟨⟨show s.cnt + x.ks.length ≤ 7 * (s.nxt + 1) by omega, show s.nxt + 1 ≤ N.length by omega⟩, show s.nxt ≤ s.nxt + 1 by omega⟩
     · obtain ⟨g1, g2⟩ := rnKids_inv (N := N) (rec := (rn f N · (depth + 1))) (fun i lo hi s h => rn_inv f i (depth + 1) lo hi s h) (lo := lo) (hi := hi) (ks := x.ks) x.idx 0 (rnIn x lo hi s) [] ⟨by simp only [rnIn]; omega, by simp only [rnIn]; omega⟩
       exact ⟨g1, Nat.le_trans (show s.nxt ≤ s.nxt + 1 by omega) g2⟩
   · exact hfail
theorem pure_exts (l : List Extent) : pureRows (l.map extentC) = true := pureRows_map _ (fun x => by simp [extentC]) _
theorem pure_kidsC (l : List Nd) : pureRows (l.map kidC) = true := pureRows_map _ (fun x => by simp) _
def frozeO (r : Option (Out × Heap)) : Option (Out × Heap) :=
 match r with
 | some (.ok a, h1) => oFrz a h1 fun a h2 => (Go.Ab.trim true 1 [a] h2).map fun p => (.ok a, p.2)
 | _ => none
theorem froze_eq (F : CallFn) (args : List A) (R : Go.Ab.Slot) : froze F args [R] = frozeO (F args [R]) := by
 unfold froze frozeO
 rfl
section
variable {H : Heap} {a : Nat} {row : List A} (h0 : H[0]? = some (.live ⟨0, 5, [row]⟩)) (hr : idsL row = [])
include h0 hr
theorem froze_nil (ha : H[a]? = some (.live ⟨0, 3, [[.s (.slice none 0 0), .s (.slice none 0 0), .s (.slice none 0 0)]]⟩)) :
 frozeO (finish 1 (.ok (.ptr a 0 0 0)) H) = some (.ok (.cptr (nodeC (.mk [] [] []))), [.live ⟨0, 5, [row]⟩]) := by
 have ha0 : ¬ a = 0 := by rintro rfl; rw [h0] at ha; cases ha
 have hreach : Go.Ab.reach H reachFuel [0] [a] = [0, a] := by
  rw [show reachFuel = 99980 + 20 from rfl]
  simp [Go.Ab.reach, List.getD_eq_getElem?_getD, ha, ha0]
 have hrr : ∀ f, renL f row = some row := fun f => renL_of_ids _ f hr
 have h1 : (H.take 1).flatMap Go.Ab.Slot.ids = [] := by
  cases H with
  | nil => simp at h0
  | cons x r => simp at h0; subst h0; simp [hr]
 have hg0 : H.getD 0 .dead = .live ⟨0, 5, [row]⟩ := by rw [List.getD_eq_getElem?_getD, h0]; rfl
 have hga : H.getD a .dead = .live ⟨0, 3, [[.s (.slice none 0 0), .s (.slice none 0 0), .s (.slice none 0 0)]]⟩ := by rw [List.getD_eq_getElem?_getD, ha]; rfl
 have hrange : List.range 1 = [0] := rfl
 have e : finish 1 (.ok (.ptr a 0 0 0)) H = some (.ok (.ptr 1 0 0 0), [.live ⟨0, 5, [row]⟩, .live ⟨0, 3, [[.s (.slice none 0 0), .s (.slice none 0 0), .s (.slice none 0 0)]]⟩]) := by
  unfold finish
  simp only [idsA_ptr, h1, List.append_nil, hrange, hreach, List.map_cons, List.map_nil, hg0, hga]
  simp [Go.Ab.idx, List.idxOf?_cons, hrr, Ne.symm ha0]
 rw [e]
 have hnn : nodeC (.mk [] [] []) = [.fsl 0 [], .fsl 0 [], .fsl 0 []] := by rw [nodeC_mk]; rfl
 have ef : ∀ m, frzA (m + 8) (.ptr 1 0 0 0) [.live ⟨0, 5, [row]⟩, .live ⟨0, 3, [[.s (.slice none 0 0), .s (.slice none 0 0), .s (.slice none 0 0)]]⟩] = some (.cptr [.fsl 0 [], .fsl 0 [], .fsl 0 []], [.live ⟨0, 5, [row]⟩, .dead]) := by
  intro m; simp [frzA, frzL, frzRows, nilS, pureA, notSlice]
 unfold frozeO oFrz
 simp only [if_neg (show ¬ pureA (.ptr 1 0 0 0) = true by simp [pureA]), show (1000 : Nat) = 992 + 8 from rfl, ef, hnn]
 simp [Go.Ab.trim, allBelow, hr]
theorem froze_leaf {k v : Nat} {ks : List Int} {vs : List Extent} (ha : H[a]? = some (.live ⟨0, 3, [[.osl k 1 1 0 ks.length, .osl v 1 2 0 vs.length, .s (.slice none 0 0)]]⟩)) (hk : H[k]? = some (.live ⟨1, 1, ks.map (cellC .u64)⟩)) (hv : H[v]? = some (.live ⟨1, 2, vs.map extentC⟩))
 (d1 : k ≠ a) (d2 : v ≠ a) (d3 : v ≠ k) :
 frozeO (finish 1 (.ok (.ptr a 0 0 0)) H) = some (.ok (.cptr (nodeC (.mk ks vs []))), [.live ⟨0, 5, [row]⟩]) := by
 have ha0 : ¬ a = 0 := by rintro rfl; rw [h0] at ha; cases ha
 have hk0 : ¬ k = 0 := by rintro rfl; rw [h0] at hk; cases hk
 have hv0 : ¬ v = 0 := by rintro rfl; rw [h0] at hv; cases hv
 have hreach : Go.Ab.reach H reachFuel [0] [a] = [0, a, k, v] := by
  rw [show reachFuel = 99980 + 20 from rfl]
  simp [Go.Ab.reach, List.getD_eq_getElem?_getD, ha, ha0, hk, hk0, hv, hv0, d1, d2, d3, ids_ks, ids_vs]
 have hrr : ∀ f, renL f row = some row := fun f => renL_of_ids _ f hr
 have h1 : (H.take 1).flatMap Go.Ab.Slot.ids = [] := by
  cases H with
  | nil => simp at h0
  | cons x r => simp at h0; subst h0; simp [hr]
 have hg0 : H.getD 0 .dead = .live ⟨0, 5, [row]⟩ := by rw [List.getD_eq_getElem?_getD, h0]; rfl
 have hga : H.getD a .dead = .live ⟨0, 3, [[.osl k 1 1 0 ks.length, .osl v 1 2 0 vs.length, .s (.slice none 0 0)]]⟩ := by rw [List.getD_eq_getElem?_getD, ha]; rfl
 have hgk : H.getD k .dead = .live ⟨1, 1, ks.map (cellC .u64)⟩ := by rw [List.getD_eq_getElem?_getD, hk]; rfl
 have hgv : H.getD v .dead = .live ⟨1, 2, vs.map extentC⟩ := by rw [List.getD_eq_getElem?_getD, hv]; rfl
 have hrange : List.range 1 = [0] := rfl
 have e : finish 1 (.ok (.ptr a 0 0 0)) H = some (.ok (.ptr 1 0 0 0), [.live ⟨0, 5, [row]⟩, .live ⟨0, 3, [[.osl 2 1 1 0 ks.length, .osl 3 1 2 0 vs.length, .s (.slice none 0 0)]]⟩, .live ⟨1, 1, ks.map (cellC .u64)⟩, .live ⟨1, 2, vs.map extentC⟩]) := by
  unfold finish
  simp only [idsA_ptr, h1, List.append_nil, hrange, hreach, List.map_cons, List.map_nil, hg0, hga, hgk, hgv]
  simp [Go.Ab.idx, List.idxOf?_cons, hrr, Ne.symm ha0, Ne.symm hk0, Ne.symm hv0, Ne.symm d1, Ne.symm d2, Ne.symm d3, ren_ks, ren_vs]
 rw [e]
 have hnn : nodeC (.mk ks vs []) = [mkF 1 (ks.map (cellC .u64)), mkF 2 (vs.map extentC), .fsl 0 []] := by rw [nodeC_mk]; rfl
 have ef : ∀ m, frzA (m + 8) (.ptr 1 0 0 0) [.live ⟨0, 5, [row]⟩, .live ⟨0, 3, [[.osl 2 1 1 0 ks.length, .osl 3 1 2 0 vs.length, .s (.slice none 0 0)]]⟩, .live ⟨1, 1, ks.map (cellC .u64)⟩, .live ⟨1, 2, vs.map extentC⟩] =
  some (.cptr [mkF 1 (ks.map (cellC .u64)), mkF 2 (vs.map extentC), .fsl 0 []], [.live ⟨0, 5, [row]⟩, .dead, .dead, .dead]) := by
  intro m; simp [frzA, frzL, frzRows, nilS, pureA, notSlice, pure_ks, pure_exts, List.take_of_length_le]
 unfold frozeO oFrz
 simp only [if_neg (show ¬ pureA (.ptr 1 0 0 0) = true by simp [pureA]), show (1000 : Nat) = 992 + 8 from rfl, ef, hnn]
 simp [Go.Ab.trim, allBelow, hr]
theorem froze_kids {k v c cv : Nat} {ks : List Int} {vs : List Extent} {kids : List Nd} (ha : H[a]? = some (.live ⟨0, 3, [[.osl k 1 1 0 ks.length, .osl v 1 2 0 vs.length, .osl c cv 1 0 kids.length]]⟩)) (hk : H[k]? = some (.live ⟨1, 1, ks.map (cellC .u64)⟩)) (hv : H[v]? = some (.live ⟨1, 2, vs.map extentC⟩))
 (hc : H[c]? = some (.live ⟨cv, 1, kids.map kidC⟩)) (d1 : k ≠ a) (d2 : v ≠ a) (d3 : v ≠ k) (d4 : c ≠ a) (d5 : c ≠ k) (d6 : c ≠ v) :
 frozeO (finish 1 (.ok (.ptr a 0 0 0)) H) = some (.ok (.cptr (nodeC (.mk ks vs kids))), [.live ⟨0, 5, [row]⟩]) := by
 have ha0 : ¬ a = 0 := by rintro rfl; rw [h0] at ha; cases ha
 have hk0 : ¬ k = 0 := by rintro rfl; rw [h0] at hk; cases hk
 have hv0 : ¬ v = 0 := by rintro rfl; rw [h0] at hv; cases hv
 have hc0 : ¬ c = 0 := by rintro rfl; rw [h0] at hc; cases hc
 have hreach : Go.Ab.reach H reachFuel [0] [a] = [0, a, k, v, c] := by
  rw [show reachFuel = 99980 + 20 from rfl]
  simp [Go.Ab.reach, List.getD_eq_getElem?_getD, ha, ha0, hk, hk0, hv, hv0, hc, hc0, d1, d2, d3, d4, d5, d6, ids_ks, ids_vs, ids_kids]
 have hrr : ∀ f, renL f row = some row := fun f => renL_of_ids _ f hr
 have h1 : (H.take 1).flatMap Go.Ab.Slot.ids = [] := by
  cases H with
  | nil => simp at h0
  | cons x r => simp at h0; subst h0; simp [hr]
 have hg0 : H.getD 0 .dead = .live ⟨0, 5, [row]⟩ := by rw [List.getD_eq_getElem?_getD, h0]; rfl
 have hga : H.getD a .dead = .live ⟨0, 3, [[.osl k 1 1 0 ks.length, .osl v 1 2 0 vs.length, .osl c cv 1 0 kids.length]]⟩ := by rw [List.getD_eq_getElem?_getD, ha]; rfl
 have hgk : H.getD k .dead = .live ⟨1, 1, ks.map (cellC .u64)⟩ := by rw [List.getD_eq_getElem?_getD, hk]; rfl
 have hgv : H.getD v .dead = .live ⟨1, 2, vs.map extentC⟩ := by rw [List.getD_eq_getElem?_getD, hv]; rfl
 have hgc : H.getD c .dead = .live ⟨cv, 1, kids.map kidC⟩ := by rw [List.getD_eq_getElem?_getD, hc]; rfl
 have hrange : List.range 1 = [0] := rfl
 have e : finish 1 (.ok (.ptr a 0 0 0)) H = some (.ok (.ptr 1 0 0 0), [.live ⟨0, 5, [row]⟩, .live ⟨0, 3, [[.osl 2 1 1 0 ks.length, .osl 3 1 2 0 vs.length, .osl 4 cv 1 0 kids.length]]⟩, .live ⟨1, 1, ks.map (cellC .u64)⟩, .live ⟨1, 2, vs.map extentC⟩, .live ⟨cv, 1, kids.map kidC⟩]) := by
  unfold finish
  simp only [idsA_ptr, h1, List.append_nil, hrange, hreach, List.map_cons, List.map_nil, hg0, hga, hgk, hgv, hgc]
  simp [Go.Ab.idx, List.idxOf?_cons, hrr, Ne.symm ha0, Ne.symm hk0, Ne.symm hv0, Ne.symm hc0, Ne.symm d1, Ne.symm d2, Ne.symm d3, Ne.symm d4, Ne.symm d5, Ne.symm d6, ren_ks, ren_vs, ren_kids]
 rw [e]
 have hnn : nodeC (.mk ks vs kids) = [mkF 1 (ks.map (cellC .u64)), mkF 2 (vs.map extentC), mkF 1 (kids.map kidC)] := nodeC_mk _ _ _
 have ef : ∀ m, frzA (m + 8) (.ptr 1 0 0 0) [.live ⟨0, 5, [row]⟩, .live ⟨0, 3, [[.osl 2 1 1 0 ks.length, .osl 3 1 2 0 vs.length, .osl 4 cv 1 0 kids.length]]⟩, .live ⟨1, 1, ks.map (cellC .u64)⟩, .live ⟨1, 2, vs.map extentC⟩, .live ⟨cv, 1, kids.map kidC⟩] =
  some (.cptr [mkF 1 (ks.map (cellC .u64)), mkF 2 (vs.map extentC), mkF 1 (kids.map kidC)], [.live ⟨0, 5, [row]⟩, .dead, .dead, .dead, .dead]) := by
  intro m; simp [frzA, frzL, frzRows, nilS, pureA, notSlice, pure_ks, pure_exts, pure_kidsC, List.take_of_length_le]
 unfold frozeO oFrz
 simp only [if_neg (show ¬ pureA (.ptr 1 0 0 0) = true by simp [pureA]), show (1000 : Nat) = 992 + 8 from rfl, ef, hnn]
 simp [Go.Ab.trim, allBelow, hr]
end
end Go.Ab.T
namespace Go.Ab.T
open Go Go.Ab Go.Ab.F
open Classical
def rsC (N : List NodeR) (s : RS) : List A := [mkF 3 (N.map nodeRC), .s (.int .i64 s.nxt), .s (.int .i64 s.dep), .s (.int .i64 s.cnt), .s (.bool s.bad)]
theorem rsC_ids (N : List NodeR) (s : RS) : idsL (rsC N s) = [] := by simp [rsC]
theorem rsC_pure (N : List NodeR) (s : RS) : pureL (rsC N s) = true := by simp [rsC, pure_nodes]
abbrev slR (N : List NodeR) (s : RS) : Go.Ab.Slot := .live ⟨0, 5, [rsC N s]⟩
abbrev slB (lo hi : Option Int) : Go.Ab.Slot := .live ⟨0, 4, [bndC lo hi]⟩
def NodeV (F : CallFn) (N : List NodeR) (i depth : Int) (lo hi : Option Int) (s : RS) (r : RS × Nd) : Prop :=
 froze F [.ptr 0 0 0 0, .s (.int .i64 i), .s (.int .i64 depth), .agg (bndC lo hi)] [slR N s] = some (.ok (.cptr (nodeC r.2)), [slR N r.1])
theorem fits_call (N : List NodeR) (s : RS) (x : NodeR) (root : Bool) (B : Heap) {β : Type} (kp k : A → Heap → Option β) :
 (oLend tree_reader_fits [.ptr 0 0 0 0, .agg (nodeRC x), .s (.bool root)] (slR N s :: B) kp fun w h' => oFrz w h' k) = k (.s (.bool (decide (formP x root)))) (slR N s :: B) := by
 have hl : lendL lendFuel [.ptr 0 0 0 0, .agg (nodeRC x), .s (.bool root)] (slR N s :: B) = some [.cptr (rsC N s), .agg (nodeRC x), .s (.bool root)] := by
  have hq : pureL [A.agg (nodeRC x), .s (.bool root)] = true := by simp [nodeRC_pure]
  have e2 : lendA (997 + 2) (.ptr 0 0 0 0) (slR N s :: B) = some (.cptr (rsC N s)) := by
   simp only [lendA, List.getElem?_cons_zero, if_true, lendL_pure _ _ _ (rsC_pure N s), Option.map_some]
  rw [show lendFuel = 999 + 1 from rfl, lendL_cons' _ _ _ _ (by simp), show (999 : Nat) = 997 + 2 from rfl, e2, Option.bind_some, lendL_pure _ _ _ hq]
  rfl
 have hF := fits_v x (.cptr (rsC N s)) root
 unfold oLend
 have hi : (idsL [A.ptr 0 0 0 0, .agg (nodeRC x), .s (.bool root)]).isEmpty = false := by simp
 rw [hi]
 simp only [Bool.false_eq_true, if_false, hl, hF]
 simp [ownO, ownA, ownH, giveBack, setAll]
section
variable {N : List NodeR} {self : CallFn} {i depth : Int} {lo hi : Option Int} {s : RS}
abbrev nArgs (i depth : Int) (lo hi : Option Int) : List A := [.ptr 0 0 0 0, .s (.int .i64 i), .s (.int .i64 depth), .agg (bndC lo hi)]
abbrev nK8 (self : CallFn) (N : List NodeR) (i depth : Int) (lo hi : Option Int) (s : RS) (g : Bool) : Option (Out × Heap) :=
 tree_reader_node_k8 En_tree_reader_node self (.ptr 0 0 0 0) [slR N s] (.s (.int .i64 i)) (.ptr 1 0 0 0) (.s (.int .i64 depth)) Ex.normal [.s (.bool g)] [slR N s, slB lo hi]
theorem k8_fail_eq : nK8 self N i depth lo hi s true = finish 1 (.ok (.ptr 2 0 0 0)) [slR N s.fail.1, slB lo hi, .live ⟨0, 3, [[.s (.slice none 0 0), .s (.slice none 0 0), .s (.slice none 0 0)]]⟩] := by
 obtain ⟨n, d, c, b⟩ := s
 simp only [nK8, tree_reader_node_k8, slR, slB, rsC, RS.fail]
 simp [putCells]
theorem k8_fail : frozeO (nK8 self N i depth lo hi s true) = some (.ok (.cptr (nodeC s.fail.2)), [slR N s.fail.1]) := by
 rw [k8_fail_eq]
 exact froze_nil (by rfl) (rsC_ids _ _) (by rfl)
theorem entry_bad (hb : s.bad = true) : tree_reader_node_step self (nArgs i depth lo hi) [slR N s] = nK8 self N i depth lo hi s true := by
 obtain ⟨n, d, c, b⟩ := s
 simp only at hb
 subst hb
 simp only [tree_reader_node_step, nK8, nArgs, slR, slB, rsC, bndC]
 simp [trim, allBelow]
theorem entry_nxt (hb : s.bad = false) (hi' : i ≠ s.nxt) : tree_reader_node_step self (nArgs i depth lo hi) [slR N s] = nK8 self N i depth lo hi s true := by
 obtain ⟨n, d, c, b⟩ := s
 simp only at hb hi'
 subst hb
 simp only [tree_reader_node_step, nK8, nArgs, slR, slB, rsC, bndC]
 simp [hi', trim, allBelow]
theorem entry_none (hb : s.bad = false) (hi' : i = s.nxt) (hx : N.length ≤ s.nxt) : tree_reader_node_step self (nArgs i depth lo hi) [slR N s] = nK8 self N i depth lo hi s true := by
 obtain ⟨n, d, c, b⟩ := s
 simp only at hb hi' hx
 subst hb hi'
 simp only [tree_reader_node_step, nK8, nArgs, slR, slB, rsC, bndC]
 simp [hx, trim, allBelow]
theorem entry_some (hb : s.bad = false) (hi' : i = s.nxt) {x : NodeR} (hx : N[s.nxt]? = some x) : tree_reader_node_step self (nArgs i depth lo hi) [slR N s] = nK8 self N i depth lo hi s (!decide (formP x (decide (i = 0)))) := by
 have hlt : ¬ N.length ≤ s.nxt := by have := (List.getElem?_eq_some_iff.1 hx).1; omega
 have in1 := fun {β : Type} (k : A → Option β) => idx_node hx k
 have hat : cellsAt (some 3) (nodeRC x) 0 = some (.agg (nodeRC x)) := _root_.id rfl
 have hF := fun {β : Type} (kp k : A → Heap → Option β) => fits_call N s x (decide (i = 0)) [slB lo hi] kp k
 generalize hg : decide (formP x (decide (i = 0))) = g at *
 obtain ⟨n, d, c, b⟩ := s
 simp only at hb hi' hx hlt in1
 subst hb hi'
 simp only [tree_reader_node_step, nK8, nArgs, slR, slB, rsC, bndC] at hF ⊢
 simp [trim, allBelow] at hF
 simp [hlt, in1, hat, hF, trim, allBelow]
abbrev h6 (N : List NodeR) (lo hi : Option Int) (x : NodeR) (s : RS) : Heap := [slR N s, slB lo hi, .live ⟨0, 3, [nodeRC x]⟩, .live ⟨0, 3, [[.osl 4 1 1 0 x.ks.length, .osl 5 1 2 0 x.vs.length, .s (.slice none 0 0)]]⟩,
 .live ⟨1, 1, x.ks.map (cellC .u64)⟩, .live ⟨1, 2, x.vs.map extentC⟩]
abbrev nK7 (self : CallFn) (N : List NodeR) (depth : Int) (s0 : RS) (H : Heap) : Option (Out × Heap) :=
 tree_reader_node_k7 self (.ptr 2 0 0 0) (.ptr 0 0 0 0) (.s (.int .i64 depth)) [slR N s0] (.ptr 3 0 0 0) (.ptr 1 0 0 0) Ex.normal [] H
theorem k8_go {x : NodeR} (hb : s.bad = false) (hi' : i = s.nxt) (hx : N[s.nxt]? = some x) (hN : N.length ≤ 1000) (h7 : x.ks.length ≤ 7) (hv7 : x.vs.length ≤ 7) :
 nK8 self N i depth lo hi s false = nK7 self N depth s (h6 N lo hi x (rnIn x lo hi s)) := by
 have hlt := (List.getElem?_eq_some_iff.1 hx).1
 have in1 := fun {β : Type} (k : A → Option β) => idx_node hx k
 have hat : cellsAt (some 3) (nodeRC x) 0 = some (.agg (nodeRC x)) := _root_.id rfl
 have hput : putCells [.s (.slice none 0 0), .s (.slice none 0 0), .s (.slice none 0 0)] 0 (nodeRC x) = nodeRC x := _root_.id rfl
 have hl3 : (nodeRC x).length = 3 := _root_.id rfl
 have c1 : ∀ {β : Type} (m : Nat) (wr : List Nat) (h : Heap) (k : A → Heap → Option β), oCallF m wr (primClone 1 8) [mkF 1 (x.ks.map (cellC .u64))] h k = k (.osl h.length 1 1 0 x.ks.length) (h ++ [.live ⟨1, 1, x.ks.map (cellC .u64)⟩]) := fun m wr h k => by
  have : appendOk x.ks.length 8 := by unfold appendOk; omega
  exact oCallF_ownT _ _ _ _ _ _ 1 1 x.ks.length _ (by simp) (fun f => ren_ks f _) (by simp [primClone, this])
 have c2 : ∀ {β : Type} (m : Nat) (wr : List Nat) (h : Heap) (k : A → Heap → Option β), oCallF m wr (primClone 2 16) [mkF 2 (x.vs.map extentC)] h k = k (.osl h.length 1 2 0 x.vs.length) (h ++ [.live ⟨1, 2, x.vs.map extentC⟩]) := fun m wr h k => by
  have : appendOk x.vs.length 16 := by unfold appendOk; omega
  exact oCallF_ownT _ _ _ _ _ _ 1 2 x.vs.length _ (by simp) (fun f => ren_vs f _) (by simp [primClone, this])
 have hC := fun (H : Heap) {β : Type} (kp k : A → Heap → Option β) => contains_call lo hi x.ks (by omega) H kp k
 have hbp : pureA (.agg (bndC lo hi)) = true := by simp [bndC]
 have hbat : cellsAt (some 4) (bndC lo hi) 0 = some (.agg (bndC lo hi)) := _root_.id rfl
 obtain ⟨n, d, c, b⟩ := s
 simp only at hb hi' hx hlt in1
 subst hb hi'
 have w1 : IntKind.i64.wrap ((n : Int) + 1) = ((n + 1 : Nat) : Int) := by rw [wrap64_id (by omega) (by omega)]; simp
 simp only [nK8, nK7, h6, slR, slB, rsC, rnIn]
 generalize hg : decide (inK lo hi x.ks) = g at *
 simp only [tree_reader_node_k8]
 simp [w1, in1, hat, hput, hl3, putCells]
 simp [nodeRC, oLoadD, c1, c2, putCells, hbat, oBound_of, hbp, hC, Go.Ab.place, trim, allBelow]
theorem k7_leaf {x : NodeR} (s0 : RS) (hidx : x.idx = []) (h7 : x.ks.length ≤ 7) (hc : s.cnt ≤ 100000) :
 nK7 self N depth s0 (h6 N lo hi x s) = finish 1 (.ok (.ptr 3 0 0 0)) (h6 N lo hi x (rnLeaf x depth s)) := by
 obtain ⟨n, d, c, b⟩ := s
 simp only at hc
 have w1 : IntKind.i64.wrap ((c : Int) + x.ks.length) = ((c + x.ks.length : Nat) : Int) := by rw [wrap64_id (by omega) (by omega)]; simp
 by_cases hd : d < 0
 · cases b <;>
   · simp only [nK7, h6, slR, slB, rsC, rnLeaf, tree_reader_node_k7, nodeRC, hidx]
     simp [hd, putCells, trim, allBelow, tree_reader_node_k2, tree_reader_node_k1, oLoadD, w1]
 · by_cases he : d = depth
   · cases b <;>
     · simp only [nK7, h6, slR, slB, rsC, rnLeaf, tree_reader_node_k7, nodeRC, hidx]
       simp [hd, he, putCells, trim, allBelow, tree_reader_node_k2, tree_reader_node_k1, oLoadD, w1]
   · cases b <;>
     · simp only [nK7, h6, slR, slB, rsC, rnLeaf, tree_reader_node_k7, nodeRC, hidx]
       simp [hd, he, putCells, trim, allBelow, tree_reader_node_k2, tree_reader_node_k1, oLoadD, w1]
end
end Go.Ab.T
namespace Go.Ab.T
open Go Go.Ab Go.Ab.F
open Classical
section
variable {N : List NodeR} {self : CallFn} {depth : Int} {lo hi : Option Int} {x : NodeR}
abbrev base (N : List NodeR) (lo hi : Option Int) (x : NodeR) (s : RS) (kid : A) (T : Heap) : Heap :=
 slR N s :: slB lo hi :: .live ⟨0, 3, [nodeRC x]⟩ :: .live ⟨0, 3, [[.osl 4 1 1 0 x.ks.length, .osl 5 1 2 0 x.vs.length, kid]]⟩ :: .live ⟨1, 1, x.ks.map (cellC .u64)⟩ :: .live ⟨1, 2, x.vs.map extentC⟩ :: T
theorem trim_len {gc : Bool} {n0 : Nat} (vs : List A) {h : Heap} (hl : h.length ≤ n0) : Go.Ab.trim gc n0 vs h = some (vs, h) := by
 unfold Go.Ab.trim
 rw [List.take_of_length_le hl]
 split <;> rfl
abbrev nL5 (self : CallFn) (x : NodeR) (depth : Int) (N : List NodeR) (lo hi : Option Int) (s1 : RS) : List A × Heap → Option ((List A × Heap) ⊕ (Ex × List A × Heap)) :=
 tree_reader_node_l5 self (.s (.int .i64 x.idx.length)) (mkF 1 (x.idx.map (cellC .i64))) (.ptr 1 0 0 0) (.ptr 2 0 0 0) (.ptr 3 0 0 0) (.ptr 0 0 0 0) (.s (.int .i64 depth)) (h6 N lo hi x s1)
abbrev nK3 (self : CallFn) (x : NodeR) (depth : Int) (N : List NodeR) (lo hi : Option Int) (s1 s : RS) (j : Nat) (m : Int) (kid : A) (T : Heap) : Option ((List A × Heap) ⊕ (Ex × List A × Heap)) :=
 tree_reader_node_k3 self (.ptr 3 0 0 0) (.ptr 0 0 0 0) (.s (.int .i64 depth)) (.ptr (T.length + 1 + 1 + 1 + 1 + 1 + 1) 0 0 0) (.s (.int .i64 m)) ([.s (.int .i64 j)], base N lo hi x s kid T) (h6 N lo hi x s1) Ex.normal [] (base N lo hi x s kid (T ++ [slB (loK lo x.ks j) (hiK hi x.ks j)]))
theorem at_tail (a0 a1 a2 a3 a4 a5 : Go.Ab.Slot) (T R : Heap) : (a0 :: a1 :: a2 :: a3 :: a4 :: a5 :: (T ++ R))[T.length + 1 + 1 + 1 + 1 + 1 + 1]? = R[0]? := by
 have : (a0 :: a1 :: a2 :: a3 :: a4 :: a5 :: (T ++ R)) = ([a0, a1, a2, a3, a4, a5] ++ T) ++ R := by simp
 rw [this, List.getElem?_append_right (by simp)]
 congr 1; simp
theorem set_tail (a0 a1 a2 a3 a4 a5 : Go.Ab.Slot) (T R : Heap) (y : Go.Ab.Slot) : (a0 :: a1 :: a2 :: a3 :: a4 :: a5 :: (T ++ R)).set (T.length + 1 + 1 + 1 + 1 + 1 + 1) y = (a0 :: a1 :: a2 :: a3 :: a4 :: a5 :: (T ++ R.set 0 y)) := by
 simp
theorem trim_tail (a0 a1 a2 a3 a4 a5 b : Go.Ab.Slot) (T : Heap) (vs : List A) : Go.Ab.trim true (T.length + 1 + 1 + 1 + 1 + 1 + 1 + 1) vs (a0 :: a1 :: a2 :: a3 :: a4 :: a5 :: (T ++ [b])) = some (vs, a0 :: a1 :: a2 :: a3 :: a4 :: a5 :: (T ++ [b])) := trim_len _ (by simp)
theorem l5_pre (s1 : RS) {s : RS} {j : Nat} (hj : j < x.idx.length) (hjk : j ≤ x.ks.length) (h7 : x.ks.length ≤ 7) (kid : A) (T : Heap) :
 nL5 self x depth N lo hi s1 ([.s (.int .i64 j)], base N lo hi x s kid T) = nK3 self x depth N lo hi s1 s j x.idx[j] kid T := by
 have ip := fun {β : Type} (k : A → Option β) => oIdxA_mkF 1 (cellC .i64) x.idx .i64 _ _ k (List.getElem?_eq_getElem hj)
 have hbat : cellsAt (some 4) (bndC lo hi) 0 = some (.agg (bndC lo hi)) := _root_.id rfl
 have hbl : (bndC lo hi).length = 4 := _root_.id rfl
 simp only [nL5, nK3, base, h6, slR, slB]
 generalize rsC N s = rs
 generalize x.idx[j] = m at *
 have hput : putCells [.s (.int .u64 0), .s (.int .u64 0), .s (.bool false), .s (.bool false)] 0 (bndC lo hi) = bndC lo hi := _root_.id rfl
 cases j with
 | zero =>
   have ip0 : ∀ {β : Type} (k : A → Option β), oIdxA 1 (mkF 1 (x.idx.map (cellC .i64))) (.s (.int .i64 0)) k = k (.cptr (cellC .i64 m)) := fun k => ip k
   by_cases hk : 0 < x.ks.length
   · have ik : ∀ {β : Type} (k : A → Option β), oIdxA 1 (mkF 1 (x.ks.map (cellC .u64))) (.s (.int .i64 0)) k = k (.cptr (cellC .u64 x.ks[0])) := fun k => idx_key (l := x.ks) (i := 0) hk k
     have e0 : loK lo x.ks 0 = lo := rfl
     have e1 : hiK hi x.ks 0 = some x.ks[0] := by simp [hiK, hk]
     simp only [tree_reader_node_l5]
     simp [hj, ip0, hbat, hbl, at_tail, set_tail, trim_tail, hput, tree_reader_node_k4, nodeRC, hk, ik, e0, e1]
     simp [bndC, putCells]
   · have hk' : x.ks.length = 0 := by omega
     have e0 : loK lo x.ks 0 = lo := rfl
     have e1 : hiK hi x.ks 0 = hi := by simp [hiK, hk]
     simp only [tree_reader_node_l5]
     simp [hj, ip0, hbat, hbl, at_tail, set_tail, trim_tail, hput, tree_reader_node_k4, nodeRC, hk', e0, e1]
 | succ j =>
   have hp : (0 : Int) < ((j + 1 : Nat) : Int) := by omega
   have hjk' : j < x.ks.length := by omega
   have w2 : IntKind.i64.wrap (((j + 1 : Nat) : Int) - 1) = (j : Int) := by rw [wrap64_id (by omega) (by omega)]; omega
   have ik0 := fun {β : Type} (k : A → Option β) => idx_key (l := x.ks) (i := j) hjk' k
   have e0 : loK lo x.ks (j + 1) = some x.ks[j] := by simp [loK, hjk']
   by_cases hk : j + 1 < x.ks.length
   · have ik := fun {β : Type} (k : A → Option β) => idx_key (l := x.ks) (i := j + 1) hk k
     have e1 : hiK hi x.ks (j + 1) = some x.ks[j + 1] := by simp [hiK, hk]
     simp only [tree_reader_node_l5]
     simp [hj, hp, w2, ip, hbat, hbl, at_tail, set_tail, trim_tail, hput, tree_reader_node_k4, nodeRC, hk, ik, ik0, e0, e1, -Int.natCast_add]
     simp [bndC, putCells]
   · have e1 : hiK hi x.ks (j + 1) = hi := by simp [hiK, hk]
     have hk' : ¬ (((j + 1 : Nat) : Int) < (x.ks.length : Int)) := by omega
     simp only [tree_reader_node_l5]
     simp [hj, hp, w2, ip, hbat, hbl, at_tail, set_tail, trim_tail, hput, tree_reader_node_k4, nodeRC, hk, hk', ik0, e0, e1, -Int.natCast_add]
     simp [bndC, putCells]
theorem kidF_call {lo' hi' : Option Int} {s : RS} {m : Int} {r : RS × Nd} (hV : NodeV self N m (depth + 1) lo' hi' s r) (n0 : Nat) (W : List Nat) (hW : 0 ∈ W) (B : Heap) {β : Type} (k : A → Heap → Option β) :
 oCallW n0 W (froze self) [.ptr 0 0 0 0, .s (.int .i64 m), .s (.int .i64 (depth + 1)), .agg (bndC lo' hi')] (slR N s :: B) k = k (.cptr (nodeC r.2)) (slR N r.1 :: B) := by
 have hi0 : idsL [A.ptr 0 0 0 0, .s (.int .i64 m), .s (.int .i64 (depth + 1)), .agg (bndC lo' hi')] = [0] := by simp [bndC]
 have hb : idsL (bndC lo' hi') = [] := by simp [bndC]
 have hok : okW n0 W [0] (slR N s :: B) = true := by
  simp [okW, nodupB, hW, liveS, rsC_ids]
 have hren : renL (idx [0]) [A.ptr 0 0 0 0, .s (.int .i64 m), .s (.int .i64 (depth + 1)), .agg (bndC lo' hi')] = some [A.ptr 0 0 0 0, .s (.int .i64 m), .s (.int .i64 (depth + 1)), .agg (bndC lo' hi')] := by
  have := fun f => renL_of_ids _ f hb
  simp [renL, renA, Go.Ab.idx, this]
 unfold NodeV at hV
 unfold oCallW
 rw [hi0, if_pos hok, hren]
 simp only [List.map_cons, List.map_nil, List.getD_cons_zero, hV]
 simp [flatS, rsC_ids, setAll]
theorem wr_ids (s : RS) (kid : A) (T : Heap) : wrL (base N lo hi x s kid T) [(.ptr 0 0 0 0, false), (.ptr 3 0 0 0, true)] = 0 :: 4 :: 5 :: idsA kid := by
 simp [wrL, wrA, idTop]
theorem place_1 (a0 a1 a2 a3 a4 a5 b c : Go.Ab.Slot) (T : Heap) (ob : Obj) : Go.Ab.place (some (T.length + 1 + 1 + 1 + 1 + 1 + 1 + 1)) (a0 :: a1 :: a2 :: a3 :: a4 :: a5 :: (T ++ [b, .res, c])) ob =
 some (T.length + 1 + 1 + 1 + 1 + 1 + 1 + 1, a0 :: a1 :: a2 :: a3 :: a4 :: a5 :: (T ++ [b, .live ob, c])) := by
 have e : (T ++ [b, .res, c])[T.length + 1]? = some .res := by rw [List.getElem?_append_right (by omega)]; simp
 have e2 : (T ++ [b, .res, c]).set (T.length + 1) (.live ob) = T ++ [b, .live ob, c] := by rw [List.set_append_right _ _ (by omega)]; simp
 simp [Go.Ab.place, e, e2]
theorem place_2 (a0 a1 a2 a3 a4 a5 b c : Go.Ab.Slot) (T : Heap) (ob : Obj) : Go.Ab.place (some (T.length + 1 + 1 + 1 + 1 + 1 + 1 + 1 + 1)) (a0 :: a1 :: a2 :: a3 :: a4 :: a5 :: (T ++ [b, c, .res])) ob =
 some (T.length + 1 + 1 + 1 + 1 + 1 + 1 + 1 + 1, a0 :: a1 :: a2 :: a3 :: a4 :: a5 :: (T ++ [b, c, .live ob])) := by
 have e : (T ++ [b, c, .res])[T.length + 1 + 1]? = some .res := by rw [List.getElem?_append_right (by omega)]; simp [show T.length + 1 + 1 - T.length = 2 by omega]
 have e2 : (T ++ [b, c, .res]).set (T.length + 1 + 1) (.live ob) = T ++ [b, c, .live ob] := by rw [List.set_append_right _ _ (by omega)]; simp [show T.length + 1 + 1 - T.length = 2 by omega]
 simp [Go.Ab.place, e, e2]
theorem at_1 (a0 a1 a2 a3 a4 a5 b c d : Go.Ab.Slot) (T : Heap) : (a0 :: a1 :: a2 :: a3 :: a4 :: a5 :: (T ++ [b, c, d]))[T.length + 1 + 1 + 1 + 1 + 1 + 1 + 1]? = some c := by
 have e : (T ++ [b, c, d])[T.length + 1]? = some c := by rw [List.getElem?_append_right (by omega)]; simp
 simp [e]
theorem trim_kid (a0 a1 a2 a4 a5 : Go.Ab.Slot) (ob : Obj) (R : Heap) (id : Nat) (hid : 6 ≤ id) (hm : id ∈ idsRows ob.rows) (vs : List A) : Go.Ab.trim true 6 vs (a0 :: a1 :: a2 :: .live ob :: a4 :: a5 :: R) = some (vs, a0 :: a1 :: a2 :: .live ob :: a4 :: a5 :: R) := by
 unfold Go.Ab.trim
 rw [if_neg]
 simp only [Bool.true_and, Bool.and_eq_true, List.all_eq_true, not_and]
 intro _ h
 have := h (.live ob) (by simp)
 simp only [allBelow, List.all_eq_true, decide_eq_true_eq] at this
 have := this id hm
 omega
theorem k3_first (s1 : RS) {s : RS} {m : Int} {r : RS × Nd} (hd : -1 ≤ depth ∧ depth < 1000000) (hV : NodeV self N m (depth + 1) (loK lo x.ks 0) (hiK hi x.ks 0) s r) (T : Heap) :
 nK3 self x depth N lo hi s1 s 0 m (.s (.slice none 0 0)) T = some (.inl ([.s (.int .i64 1)], base N lo hi x r.1 (.osl (T.length + 1 + 1 + 1 + 1 + 1 + 1 + 1 + 1) 0 1 0 1) (T ++ [slB (loK lo x.ks 0) (hiK hi x.ks 0), .live ⟨0, 1, [kidC r.2]⟩, .live ⟨0, 1, [kidC r.2]⟩]))) := by
 have w1 : IntKind.i64.wrap (depth + 1) = depth + 1 := wrap64_id (by omega) (by omega)
 have hbat : cellsAt (some 4) (bndC (loK lo x.ks 0) (hiK hi x.ks 0)) 0 = some (.agg (bndC (loK lo x.ks 0) (hiK hi x.ks 0))) := _root_.id rfl
 have hC := fun (n0 : Nat) (B : Heap) {β : Type} (k : A → Heap → Option β) => kidF_call (depth := depth) hV n0 [0, 4, 5] (by simp) B k
 have hw := wr_ids (N := N) (lo := lo) (hi := hi) (x := x) s (.s (.slice none 0 0)) (T ++ [slB (loK lo x.ks 0) (hiK hi x.ks 0)])
 simp only [nK3, base, slR, slB] at hw hC ⊢
 generalize rsC N s = rs at *
 generalize rsC N r.1 = rs' at *
 generalize bndC (loK lo x.ks 0) (hiK hi x.ks 0) = bb at *
 simp only [tree_reader_node_k3]
 have ap : appendOk 1 8 := by unfold appendOk; omega
 simp [hw, oLoadD, w1, hbat, hC, place_1, place_2, oAppendD, oAppend_nil, at_1, ap, putCells]
 have w0 : IntKind.i64.wrap 1 = 1 := wrap64_id (by omega) (by omega)
 rw [trim_kid _ _ _ _ _ _ _ (T.length + 1 + 1 + 1 + 1 + 1 + 1 + 1 + 1) (by omega) (by simp), w0]
theorem k3_next (s1 : RS) {s : RS} {j : Nat} {m : Int} {r : RS × Nd} (hj : j < 1000) (hd : -1 ≤ depth ∧ depth < 1000000) (hV : NodeV self N m (depth + 1) (loK lo x.ks j) (hiK hi x.ks j) s r) {T : Heap} {tc cv : Nat} {kids : List Nd}
 (hT : T[tc]? = some (.live ⟨cv, 1, kids.map kidC⟩)) (hkl : kids.length = j) :
 nK3 self x depth N lo hi s1 s j m (.osl (tc + 1 + 1 + 1 + 1 + 1 + 1) cv 1 0 j) T = some (.inl ([.s (.int .i64 (j + 1 : Nat))], base N lo hi x r.1 (.osl (tc + 1 + 1 + 1 + 1 + 1 + 1) (cv + 1) 1 0 (j + 1))
  (T.set tc (.live ⟨cv + 1, 1, (kids ++ [r.2]).map kidC⟩) ++ [slB (loK lo x.ks j) (hiK hi x.ks j), .live ⟨0, 1, [kidC r.2]⟩, .res]))) := by
 have w1 : IntKind.i64.wrap (depth + 1) = depth + 1 := wrap64_id (by omega) (by omega)
 have w2 : IntKind.i64.wrap ((j : Int) + 1) = ((j + 1 : Nat) : Int) := by rw [wrap64_id (by omega) (by omega)]; simp
 have hbat : cellsAt (some 4) (bndC (loK lo x.ks j) (hiK hi x.ks j)) 0 = some (.agg (bndC (loK lo x.ks j) (hiK hi x.ks j))) := _root_.id rfl
 have htl : tc < T.length := (List.getElem?_eq_some_iff.1 hT).1
 have hC := fun (n0 : Nat) (B : Heap) {β : Type} (k : A → Heap → Option β) => kidF_call (depth := depth) hV n0 [0, 4, 5, tc + 1 + 1 + 1 + 1 + 1 + 1] (by simp) B k
 have hw := wr_ids (N := N) (lo := lo) (hi := hi) (x := x) s (.osl (tc + 1 + 1 + 1 + 1 + 1 + 1) cv 1 0 j) (T ++ [slB (loK lo x.ks j) (hiK hi x.ks j)])
 have g1 : ∀ R : Heap, (T ++ R)[tc]? = some (.live ⟨cv, 1, kids.map kidC⟩) := fun R => by rw [List.getElem?_append_left htl, hT]
 have g2 : ∀ (R : Heap) y, (T ++ R).set tc y = T.set tc y ++ R := fun R y => List.set_append_left _ _ htl
 have htk : (kids.map kidC).take j = kids.map kidC := List.take_of_length_le (by simp [hkl])
 simp only [nK3, base, slR, slB] at hw hC ⊢
 generalize rsC N s = rs at *
 generalize rsC N r.1 = rs' at *
 generalize bndC (loK lo x.ks j) (hiK hi x.ks j) = bb at *
 simp only [tree_reader_node_k3]
 have ap : appendOk (j + 1) 8 := by unfold appendOk; omega
 have ne1 : ¬ (T.length + 1 + 1 + 1 + 1 + 1 + 1 = tc + 1 + 1 + 1 + 1 + 1 + 1) := by omega
 simp [hw, oLoadD, w1, hbat, hC, place_1, oAppendD, oAppend_osl, at_1, ap, putCells, ne1, g1, g2, hkl, htk]
 rw [trim_kid _ _ _ _ _ _ _ (tc + 1 + 1 + 1 + 1 + 1 + 1) (by omega) (by simp), w2]
 exact ⟨by omega, by simp⟩
def KidAt (T : Heap) (kid : A) (kids : List Nd) : Prop :=
 (kid = .s (.slice none 0 0) ∧ T = [] ∧ kids = []) ∨ (0 < kids.length ∧ ∃ tc cv, kid = .osl (tc + 1 + 1 + 1 + 1 + 1 + 1) cv 1 0 kids.length ∧ T[tc]? = some (.live ⟨cv, 1, kids.map kidC⟩))
theorem kids_go (hN : N.length ≤ 1000) {f : Nat} (s1 : RS) (hd : 0 ≤ depth ∧ depth < s1.nxt) (hs1 : RInv N s1) (h7 : x.ks.length ≤ 7) (hidx : x.idx.length = x.ks.length + 1)
 (hself : ∀ m lo hi s, RInv N s → s1.nxt ≤ s.nxt → NodeV self N m (depth + 1) lo hi s (rn f N m (depth + 1) lo hi s)) :
 ∃ q, (∃ T kid kids s, KidAt T kid kids ∧ kids.length = x.idx.length ∧ rnKids (rn f N · (depth + 1)) lo hi x.ks 0 x.idx s1 [] = (s, kids) ∧ q = (Ex.exit 0, [], base N lo hi x s kid T)) ∧
   ∀ {β : Type} (k : Ex → List A → Heap → Option β), oLoop (nL5 self x depth N lo hi s1) ([.s (.int .i64 0)], h6 N lo hi x s1) k = k q.1 q.2.1 q.2.2 := by
 obtain ⟨q, hq, h⟩ := oLoop_inv' (step := nL5 self x depth N lo hi s1) (s0 := ([.s (.int .i64 0)], h6 N lo hi x s1))
  (fun j st => ∃ T kid kids s, KidAt T kid kids ∧ kids.length = j ∧ RInv N s ∧ s1.nxt ≤ s.nxt ∧ rnKids (rn f N · (depth + 1)) lo hi x.ks j (x.idx.drop j) s kids = rnKids (rn f N · (depth + 1)) lo hi x.ks 0 x.idx s1 [] ∧
   st = ([.s (.int .i64 j)], base N lo hi x s kid T))
  (fun q => ∃ T kid kids s, KidAt T kid kids ∧ kids.length = x.idx.length ∧ rnKids (rn f N · (depth + 1)) lo hi x.ks 0 x.idx s1 [] = (s, kids) ∧ q = (Ex.exit 0, [], base N lo hi x s kid T)) x.idx.length
  ⟨[], .s (.slice none 0 0), [], s1, .inl ⟨rfl, rfl, rfl⟩, rfl, hs1, Nat.le_refl _, by simp, rfl⟩ (by omega)
  (by
   rintro j st hj ⟨T, kid, kids, s, hK, hkl, hs, hn, hrun, rfl⟩
   left
   rw [l5_pre s1 hj (by omega) h7 kid T]
   rw [List.drop_eq_getElem_cons hj] at hrun
   have hb : s.nxt ≤ N.length := hs.nxt
   have hV := hself x.idx[j] (loK lo x.ks j) (hiK hi x.ks j) s hs hn
   obtain ⟨i1, i2⟩ := rn_inv (N := N) f x.idx[j] (depth + 1) (loK lo x.ks j) (hiK hi x.ks j) s hs
   generalize x.idx[j] = m at *
   simp only [rnKids] at hrun
   generalize hr : rn f N m (depth + 1) (loK lo x.ks j) (hiK hi x.ks j) s = r at *
   rcases hK with ⟨rfl, rfl, rfl⟩ | ⟨h0, tc, cv, rfl, hT⟩
   · simp only [List.length_nil] at hkl
     subst hkl
     refine ⟨_, k3_first s1 (by omega) hV [], _, _, [r.2], r.1, .inr ⟨by simp, 2, 0, rfl, by rfl⟩, rfl, i1, Nat.le_trans hn i2, hrun, rfl⟩
   · have htl : tc < T.length := (List.getElem?_eq_some_iff.1 hT).1
     refine ⟨_, (by rw [hkl]; exact k3_next s1 (by omega) (by omega) hV hT hkl), _, _, kids ++ [r.2], r.1, .inr ⟨by simp, tc, cv + 1, ?_, ?_⟩, by simp [hkl], i1, Nat.le_trans hn i2, hrun, rfl⟩
     · simp [hkl]
     · rw [List.getElem?_append_left (by simpa using htl), List.getElem?_set_self htl])
  (by
   rintro st ⟨T, kid, kids, s, hK, hkl, hs, hn, hrun, rfl⟩
   rw [List.drop_length] at hrun
   simp only [rnKids] at hrun
   refine ⟨_, ?_, T, kid, kids, s, hK, hkl, hrun.symm, rfl⟩
   rcases hK with ⟨rfl, rfl, rfl⟩ | ⟨h0, tc, cv, rfl, hT⟩
   · simp at hkl; omega
   · simp only [nL5, tree_reader_node_l5, base, h6]
     simp [trim_kid _ _ _ _ _ _ _ (tc + 1 + 1 + 1 + 1 + 1 + 1)])
 exact ⟨q, hq, h⟩
end
end Go.Ab.T
namespace Go.Ab.T
open Go Go.Ab Go.Ab.F
open Classical
theorem node_v {N : List NodeR} (hN : N.length ≤ 1000) : ∀ (f : Nat) (i depth : Int) (lo hi : Option Int) (s : RS), RInv N s → 0 ≤ depth → depth ≤ s.nxt → N.length - s.nxt < f →
 (∃ a H, tree_reader_node f (nArgs i depth lo hi) [slR N s] = finish 1 (.ok (.ptr a 0 0 0)) H) ∧ NodeV (tree_reader_node f) N i depth lo hi s (rn f N i depth lo hi s)
 | 0, i, depth, lo, hi, s, hs, h0, h1, hf => by omega
 | f + 1, i, depth, lo, hi, s, hs, h0, h1, hf => by
   have hfail : ∀ {F : CallFn}, F (nArgs i depth lo hi) [slR N s] = nK8 (tree_reader_node f) N i depth lo hi s true → (∃ a H, F (nArgs i depth lo hi) [slR N s] = finish 1 (.ok (.ptr a 0 0 0)) H) ∧ NodeV F N i depth lo hi s s.fail := by
    intro F hF
    refine ⟨⟨2, [slR N s.fail.1, slB lo hi, .live ⟨0, 3, [[.s (.slice none 0 0), .s (.slice none 0 0), .s (.slice none 0 0)]]⟩], ?_⟩, ?_⟩
    · rw [hF]; exact k8_fail_eq
    · unfold NodeV
      rw [froze_eq]
      exact (congrArg frozeO hF).trans k8_fail
   show (∃ a H, tree_reader_node_step (tree_reader_node f) (nArgs i depth lo hi) [slR N s] = finish 1 (.ok (.ptr a 0 0 0)) H) ∧ NodeV (tree_reader_node_step (tree_reader_node f)) N i depth lo hi s (rn (f + 1) N i depth lo hi s)
   simp only [rn]
   by_cases hb : s.bad = true
   · rw [if_pos (.inl hb)]
     exact hfail (entry_bad hb)
   · have hb : s.bad = false := by cases h : s.bad <;> simp_all
     by_cases hi0 : i = s.nxt
     · rw [if_neg (by simp [hb, hi0])]
       cases hx : N[s.nxt]? with
       | none => exact hfail (entry_none hb hi0 (List.getElem?_eq_none_iff.1 hx))
       | some x =>
         have hlt := (List.getElem?_eq_some_iff.1 hx).1
         have hent := entry_some (self := tree_reader_node f) (depth := depth) (lo := lo) (hi := hi) hb hi0 hx
         simp only
         by_cases hf' : formP x (decide (i = 0))
         · rw [if_pos hf']
           simp only [hf', decide_true, Bool.not_true] at hent
           obtain ⟨f1, f2, f3, f4⟩ := hf'
           have hv7 : x.vs.length ≤ 7 := by
            rcases f4 with g | g
            · rw [g.2]; exact f1
            · rw [g.2.1]; simp
           have hgo := hent.trans (k8_go hb hi0 hx hN f1 hv7)
           have hcn := hs.cnt
           have hnn := hs.nxt
           by_cases hidx : x.idx = []
           · rw [if_pos hidx]
             have hfin := hgo.trans (k7_leaf s hidx f1 (by show s.cnt ≤ 100000; omega))
             refine ⟨⟨3, _, hfin⟩, ?_⟩
             unfold NodeV
             rw [froze_eq]
             refine (congrArg frozeO hfin).trans ?_
             exact froze_leaf (by rfl) (rsC_ids _ _) (k := 4) (v := 5) (by rfl) (by rfl) (by rfl) (by omega) (by omega) (by omega)
           · rw [if_neg hidx]
             have hidl : x.idx.length = x.ks.length + 1 := by
              rcases f4 with g | g
              · exact absurd g.1 hidx
              · exact g.2.2.1
             have hnx : (rnIn x lo hi s).nxt = s.nxt + 1 := rfl
             obtain ⟨q, ⟨T, kid, kids, s', hK, hkl, hrn, rfl⟩, hloop⟩ := kids_go (self := tree_reader_node f) (depth := depth) (lo := lo) (hi := hi) (x := x) hN (f := f) (rnIn x lo hi s) ⟨h0, by rw [hnx]; omega⟩
              ⟨by show s.cnt ≤ 7 * (s.nxt + 1); omega, by show s.nxt + 1 ≤ N.length; omega⟩ f1 hidl (fun m lo' hi' s' g1 g2 => (node_v hN f m (depth + 1) lo' hi' s' g1 (by omega) (by rw [hnx] at g2; omega) (by rw [hnx] at g2; omega)).2)
             rw [hrn]
             simp only
             have hfin : tree_reader_node_step (tree_reader_node f) (nArgs i depth lo hi) [slR N s] = finish 1 (.ok (.ptr 3 0 0 0)) (base N lo hi x s' kid T) := by
              refine hgo.trans ?_
              have hid0 : ¬ ((x.idx.length : Int) = 0) := by omega
              have e : nK7 (tree_reader_node f) N depth s (h6 N lo hi x (rnIn x lo hi s)) = oLoop (nL5 (tree_reader_node f) x depth N lo hi (rnIn x lo hi s)) ([.s (.int .i64 0)], h6 N lo hi x (rnIn x lo hi s)) (tree_reader_node_k6 [slR N s] (.ptr 3 0 0 0)) := by
               simp only [nK7, nL5, h6, tree_reader_node_k7, nodeRC]
               simp [hid0, hidx]
              rw [e, hloop]
              simp [tree_reader_node_k6]
             refine ⟨⟨3, _, hfin⟩, ?_⟩
             unfold NodeV
             rw [froze_eq]
             refine (congrArg frozeO hfin).trans ?_
             rcases hK with ⟨rfl, rfl, rfl⟩ | ⟨hk0, tc, cv, rfl, hT⟩
             · simp at hkl; omega
             · exact froze_kids (by rfl) (rsC_ids _ _) (k := 4) (v := 5) (c := tc + 1 + 1 + 1 + 1 + 1 + 1) (cv := cv) (by rfl) (by rfl) (by rfl) (by simpa using hT) (by omega) (by omega) (by omega) (by omega) (by omega) (by omega)
         · rw [if_neg hf']
           simp only [hf', decide_false, Bool.not_false] at hent
           exact hfail hent
     · rw [if_pos (.inr hi0)]
       exact hfail (entry_nxt hb hi0)
end Go.Ab.T
namespace Go.Ab.T
open Go Go.Ab Go.Ab.F
open Classical
mutual
theorem renA_self : ∀ (a : A), renA (fun j => some j) a = some a
 | .s v => by simp [renA]
 | .any => by simp [renA]
 | .cptr _ => by simp [renA]
 | .fsl _ _ => by simp [renA]
 | .ptr id ver row off => by simp [renA]
 | .osl id ver sz lo len => by simp [renA]
 | .mref id => by simp [renA]
 | .agg cs => by simp [renA, renL_self cs]
 | .tup cs => by simp [renA, renL_self cs]
 | .fn n cs => by simp [renA, renL_self cs]
 | .iface t a => by simp [renA, renA_self a]
theorem renL_self : ∀ (l : List A), renL (fun j => some j) l = some l
 | [] => by simp [renL]
 | a :: l => by simp [renL, renA_self a, renL_self l]
end
theorem renRows_self : ∀ (l : List (List A)), renRows (fun j => some j) l = some l
 | [] => by simp [renRows]
 | a :: l => by simp [renRows, renL_self a, renRows_self l]
theorem renHeap_self : ∀ (l : Heap), (∀ s ∈ l, s ≠ .res) → renHeap (fun j => some j) l = some l
 | [], _ => rfl
 | s :: l, h => by
   have hl := renHeap_self l fun x hx => h x (by simp [hx])
   have hs : renSlot (fun j => some j) s = some s := by
    cases s with
    | live ob => simp [renSlot, renRows_self]
    | dead => rfl
    | res => exact absurd rfl (h .res (by simp))
    | mp kd es => rfl
   simp [renHeap, hs, hl]
theorem renHeap_nores {f : Nat → Option Nat} : ∀ (l l' : Heap), renHeap f l = some l' → ∀ s ∈ l', s ≠ .res
 | [], l', h => by simp [renHeap] at h; subst h; simp
 | s :: l, l', h => by
   simp only [renHeap, Option.bind_eq_some_iff, Option.map_eq_some_iff] at h
   obtain ⟨s', h1, r, h2, rfl⟩ := h
   intro y hy
   rcases List.mem_cons.1 hy with rfl | hy
   · rintro rfl
     cases s <;> simp [renSlot] at h1
   · exact renHeap_nores l r h2 y hy
theorem renHeap_len {f : Nat → Option Nat} : ∀ (l l' : Heap), renHeap f l = some l' → l'.length = l.length
 | [], l', h => by simp [renHeap] at h; subst h; rfl
 | s :: l, l', h => by
   simp only [renHeap, Option.bind_eq_some_iff, Option.map_eq_some_iff] at h
   obtain ⟨s', h1, r, h2, rfl⟩ := h
   simp [renHeap_len l r h2]
theorem reach_len (H : Heap) : ∀ (n : Nat) (seen l : List Nat), seen.length ≤ (Go.Ab.reach H n seen l).length
 | 0, seen, l => by cases l <;> simp [Go.Ab.reach]
 | n + 1, seen, [] => by simp [Go.Ab.reach]
 | n + 1, seen, id :: l => by
   rw [Go.Ab.reach]
   split
   · exact reach_len H n seen l
   · have := reach_len H n (seen ++ [id]) ((H.getD id .dead).ids ++ l)
     rw [List.length_append, List.length_singleton] at this; omega
theorem finish_len {nb : Nat} {r : Out} {h : Heap} {r' : Out} {h' : Heap} (e : finish nb r h = some (r', h')) : nb ≤ h'.length := by
 simp only [finish, Option.bind_eq_some_iff, Option.map_eq_some_iff] at e
 obtain ⟨a, _, b, h1, h2⟩ := e
 cases h2
 rw [renHeap_len _ _ h1, List.length_map]
 refine Nat.le_trans ?_ (reach_len _ _ _ _)
 simp
theorem finish_nores {nb : Nat} {r : Out} {h : Heap} {r' : Out} {h' : Heap} (e : finish nb r h = some (r', h')) : ∀ s ∈ h', s ≠ .res := by
 simp only [finish, Option.bind_eq_some_iff, Option.map_eq_some_iff] at e
 obtain ⟨a, _, b, h1, h2⟩ := e
 cases h2
 exact renHeap_nores _ _ h1
theorem rd_oCall {F : CallFn} {N : List NodeR} {i depth : Int} {lo hi : Option Int} {s : RS} {r : RS × Nd} (hF : ∃ a H, F (nArgs i depth lo hi) [slR N s] = finish 1 (.ok (.ptr a 0 0 0)) H) (hV : NodeV F N i depth lo hi s r) :
 ∃ D, ∀ {β : Type} (kp k : A → Heap → Option β), (oCall F (nArgs i depth lo hi) [slR N s] kp fun w h => oFrz w h k) = k (.cptr (nodeC r.2)) (slR N r.1 :: D) := by
 obtain ⟨a, H, hF⟩ := hF
 unfold NodeV at hV
 rw [froze_eq] at hV
 cases hr : F (nArgs i depth lo hi) [slR N s] with
 | none => rw [hr] at hV; simp [frozeO] at hV
 | some r1 =>
   obtain ⟨o, h1⟩ := r1
   have hnr := finish_nores (hF.symm.trans hr)
   have hnl := finish_len (hF.symm.trans hr)
   rw [hr] at hV
   cases o with
   | pan v => simp [frozeO] at hV
   | ok a1 =>
     simp only [frozeO] at hV
     have hdet : ∃ v h2, (∀ {β : Type} (k : A → Heap → Option β), oFrz a1 h1 k = k v h2) := by
      unfold oFrz at hV ⊢
      by_cases hp : pureA a1 = true
      · exact ⟨a1, h1, fun k => by rw [if_pos hp]⟩
      · rw [if_neg hp] at hV
        cases hz : frzA 1000 a1 h1 with
        | none => rw [hz] at hV; simp at hV
        | some q => exact ⟨q.1, q.2, fun k => by rw [if_neg hp]⟩
     obtain ⟨v, h2, hdet⟩ := hdet
     rw [hdet] at hV
     simp only [Option.map_eq_some_iff] at hV
     obtain ⟨⟨us, h3⟩, ht, e⟩ := hV
     simp only [Prod.mk.injEq, Out.ok.injEq] at e
     obtain ⟨rfl, rfl⟩ := e
     have hh : h2.take 1 = [slR N r.1] := by
      unfold Go.Ab.trim at ht
      split at ht
      · simp only [Option.some.injEq, Prod.mk.injEq] at ht; exact ht.2
      · simp only [Option.some.injEq, Prod.mk.injEq] at ht; rw [ht.2]; rfl
     refine ⟨h2.drop 1, fun kp k => ?_⟩
     have hh2 : h2 = slR N r.1 :: h2.drop 1 := by
      conv => lhs; rw [← List.take_append_drop 1 h2, hh]
      rfl
     have hb : idsL (bndC lo hi) = [] := by simp [bndC]
     have hids : idsL (nArgs i depth lo hi) = [0] := by simp [bndC]
     have hreach : Go.Ab.reach [slR N s] reachFuel [] [0] = [0] := by
      rw [show reachFuel = 99980 + 20 from rfl]
      simp [Go.Ab.reach, rsC_ids]
     have hrb := fun f => renL_of_ids _ f hb
     have hrs := fun f => renL_of_ids _ f (rsC_ids N s)
     have hbor : borrow (nArgs i depth lo hi) [slR N s] = some ([0], nArgs i depth lo hi, [slR N s]) := by
      unfold borrow
      rw [hids, hreach]
      simp [renL, renA, Go.Ab.idx, hrb, hrs, renHeap, renSlot, renRows]
     have hback : backIdx [0] ([slR N s] : Heap).length = fun j => some j := by
      funext j
      unfold backIdx
      cases j with
      | zero => simp
      | succ j => simp; omega
     have hgb : giveBack [0] [slR N s] (.ok a1) h1 = some (.ok a1, h1) := by
      unfold giveBack
      rw [hback]
      simp only [renOut, renA_self, Option.map_some, Option.bind_some, renHeap_self h1 hnr]
      cases h1 with
      | nil => simp at hnl
      | cons y t => simp [setAll]
     unfold oCall
     rw [hbor]
     simp only [hr, hgb]
     rw [hdet, ← hh2]
noncomputable def rnTop (N : List NodeR) : RS × Nd := rn big N 0 0 none none ⟨0, -1, 0, false⟩
noncomputable def ofR (N : List NodeR) : Option (Nd × Nat) := if (rnTop N).1.bad = true ∨ (rnTop N).1.nxt ≠ N.length then none else some ((rnTop N).2, (rnTop N).1.cnt)
def ofB : Option (Nd × Nat) → A
 | some (nd, c) => .tup [.cptr (treeC nd c), .s (.int .i64 0)]
 | none => .tup [.s (.pointer none), .s (.int .i64 81)]
theorem Of_none {N : List NodeR} (hN : N.length ≤ 1000) (h : ofR N = none) : tree_Of [mkF 3 (N.map nodeRC)] [] = some (.ok (.tup [.s (.pointer none), .s (.int .i64 81)]), []) := by
 obtain ⟨h1, h2⟩ := node_v hN big 0 0 none none ⟨0, -1, 0, false⟩ ⟨by simp, by simp⟩ (by omega) (by simp) (by simp only; rw [big_eq]; omega)
 obtain ⟨D, hC⟩ := rd_oCall h1 h2
 unfold ofR at h
 have h : (rnTop N).1.bad = true ∨ (rnTop N).1.nxt ≠ N.length := Classical.byContradiction fun g => by rw [if_neg g] at h; cases h
 change ((rn big N 0 0 none none ⟨0, -1, 0, false⟩).1.bad = true ∨ (rn big N 0 0 none none ⟨0, -1, 0, false⟩).1.nxt ≠ N.length) at h
 generalize rn big N 0 0 none none ⟨0, -1, 0, false⟩ = r at *
 obtain ⟨⟨n, d, c, b⟩, nd⟩ := r
 have ht := fun (y : Go.Ab.Slot) (vs : List A) => trim_len (gc := true) (n0 := D.length + 1) vs (h := y :: D) (by simp)
 simp only [nArgs, slR, rsC, bndC] at hC h
 cases b with
 | true =>
   simp at hC
   simp [tree_Of, putCells]
   simp [hC, ht, tree_Of_k1]
   exact finish_val _ _ (by simp)
 | false =>
   have hne : ¬ ((n : Int) = N.length) := by
    have : n ≠ N.length := by simpa using h
    omega
   simp at hC
   simp [tree_Of, putCells]
   simp [hC, ht, tree_Of_k1, hne]
   exact finish_val _ _ (by simp)
theorem Of_some {N : List NodeR} (hN : N.length ≤ 1000) {nd : Nd} {c : Nat} (h : ofR N = some (nd, c)) : tree_Of [mkF 3 (N.map nodeRC)] [] = some (.ok (.tup [.ptr 0 0 0 0, .s (.int .i64 0)]), [.live ⟨0, 2, [treeC nd c]⟩]) := by
 obtain ⟨h1, h2⟩ := node_v hN big 0 0 none none ⟨0, -1, 0, false⟩ ⟨by simp, by simp⟩ (by omega) (by simp) (by simp only; rw [big_eq]; omega)
 obtain ⟨D, hC⟩ := rd_oCall h1 h2
 unfold ofR at h
 have h0 : ¬ ((rnTop N).1.bad = true ∨ (rnTop N).1.nxt ≠ N.length) := fun g => by rw [if_pos g] at h; cases h
 rw [if_neg h0] at h
 simp only [Option.some.injEq, Prod.mk.injEq] at h
 obtain ⟨e1, e2⟩ := h
 change ¬ ((rn big N 0 0 none none ⟨0, -1, 0, false⟩).1.bad = true ∨ (rn big N 0 0 none none ⟨0, -1, 0, false⟩).1.nxt ≠ N.length) at h0
 change (rn big N 0 0 none none ⟨0, -1, 0, false⟩).2 = nd at e1
 change (rn big N 0 0 none none ⟨0, -1, 0, false⟩).1.cnt = c at e2
 generalize rn big N 0 0 none none ⟨0, -1, 0, false⟩ = r at *
 obtain ⟨⟨n, d, c', b⟩, nd'⟩ := r
 have ht := fun (y : Go.Ab.Slot) (vs : List A) => trim_len (gc := true) (n0 := D.length + 1) vs (h := y :: D) (by simp)
 simp only at e1 e2 h0
 subst e1 e2
 cases b with
 | true => simp at h0
 | false =>
   have hne : n = N.length := by
    have : ¬ n ≠ N.length := fun g => h0 (.inr g)
    omega
   simp only [nArgs, slR, rsC, bndC] at hC
   simp at hC
   simp [tree_Of, putCells]
   simp [hC, ht, tree_Of_k1, hne, putCells]
   exact fin_1 _ _ (D.length + 1) ⟨0, 2, [treeC nd' c']⟩ _ (by simp) (by simp [renA, renL]) (by simp [treeC]) (by simp [treeC]) (fun f => by simp [treeC, renRows, renL, renA])
theorem Of_gv {N : List NodeR} (hN : N.length ≤ 1000) : Gv tree_Of [mkF 3 (N.map nodeRC)] (ofB (ofR N)) := by
 intro H
 cases h : ofR N with
 | none =>
   refine ⟨[], by simp [flatD], fun kp k => ?_⟩
   rw [oLend_val _ _ _ _ _ _ (by simp [pure_nodes]) (by simp) (Of_none hN h)]
   simp only [ofB, List.append_nil]
   rw [oFrz_pure _ _ _ (by simp [pureA, notSlice])]
 | some r =>
   obtain ⟨nd, c⟩ := r
   refine ⟨[.dead], by simp [flatD], fun kp k => ?_⟩
   have hp : pureL (treeC nd c) = true := by simp [treeC]
   rw [oLend_any (a' := .tup [.ptr H.length 0 0 0, .s (.int .i64 0)]) (h' := H ++ [.live ⟨0, 2, [treeC nd c]⟩]) _ _ (by simp [pure_nodes]) (Of_some hN h) (by
    simp [giveBack, renOut, renA, renL, backIdx, setAll, renHeap, renSlot, renRows, treeC])]
   have e : ∀ m, frzA (m + 6) (.tup [.ptr H.length 0 0 0, .s (.int .i64 0)]) (H ++ [.live ⟨0, 2, [treeC nd c]⟩]) = some (.tup [.cptr (treeC nd c), .s (.int .i64 0)], H ++ [.dead]) := by
    intro m; simp [frzA, frzL, nilS, pureA, hp]
   unfold oFrz
   rw [if_neg (by simp [pureA]), show (1000 : Nat) = 994 + 6 from rfl, e]
   rfl
theorem readR_of {h : Nat} {root : Nd} (hT : TreeI h root) : readR (listN 0 root) = some (T.flat root) := by
 have hl := listN_len 0 root
 have hp : part (listN 0 root) 0 (cntN root) = listN 0 root := by rw [← hl]; exact part_all _
 have := rd_full (N := listN 0 root) h big 0 none none root (by have := big_lt; have := hT.low; omega) hT.ok hT.few (fun h => absurd rfl h) hT.ne (by omega) hp
 simp only [readR, this, hl, if_true]
theorem ofR_of {h : Nat} {root : Nd} (hT : TreeI h root) : ofR (listN 0 root) = some (root, (T.flat root).length) := by
 have hl := listN_len 0 root
 have hp : part (listN 0 root) 0 (cntN root) = listN 0 root := by rw [← hl]; exact part_all _
 have := rn_full (N := listN 0 root) h big 0 none none root ⟨0, -1, 0, false⟩ (by have := big_lt; have := hT.low; omega) (by omega) hT.ok hT.few (fun h => absurd rfl h) hT.ne rfl (.inl (by simp)) (by simp only; omega) hp
 simp only at this
 have e : rnTop (listN 0 root) = (⟨0 + cntN root, 0 + h, 0 + (T.flat root).length, false⟩, root) := this
 unfold ofR
 rw [e]
 simp [hl]
end Go.Ab.T
namespace Go.Ab.T
open Go Go.Ab Go.Ab.F
theorem cntL_le : ∀ (l : List Nd), (∀ m ∈ l, cntN m + 1 ≤ (T.flat m).length) → cntL l + l.length ≤ (flats l).length
 | [], _ => by simp [cntL, flats]
 | n :: l, h => by
   have h1 := h n (by simp)
   have h2 := cntL_le l fun m hm => h m (by simp [hm])
   simp only [cntL, flats, List.length_cons, List.length_append]; omega
theorem cnt_le : ∀ (h : Nat) (lo hi : Option Int) (n : Nd), okN h lo hi n → 3 ≤ n.ks.length → cntN n + 1 ≤ (T.flat n).length
 | 0, lo, hi, .mk ks vs kids, hn, h3 => by
   obtain ⟨rfl, e2, e3, e4⟩ := hn
   simp only [Nd.ks_mk] at h3
   simp only [cntN, cntL, T.flat, flats, List.append_nil, List.length_zip]; omega
 | h + 1, lo, hi, .mk ks vs kids, hn, h3 => by
   obtain ⟨rfl, c1, c2⟩ := hn
   have hkl := chain_len c1
   simp only [Nd.ks_mk] at h3
   have := cntL_le kids fun m hm => by
    obtain ⟨lo', hi', hok⟩ := chain_each c1 m hm
    exact cnt_le h lo' hi' m hok (c2 m hm).1
   simp only [cntN, T.flat, List.zip_nil_right, List.nil_append]; omega
theorem cnt_root {h : Nat} {root : Nd} (hT : TreeI h root) : cntN root ≤ (T.flat root).length + 1 := by
 have hok := hT.ok
 obtain ⟨ks, vs, kids⟩ := root
 cases h with
 | zero =>
   obtain ⟨rfl, e2, e3, e4⟩ := hok
   simp only [cntN, cntL]; omega
 | succ h =>
   obtain ⟨rfl, c1, c2⟩ := hok
   have := cntL_le kids fun m hm => by
    obtain ⟨lo', hi', hok⟩ := chain_each c1 m hm
    exact cnt_le h lo' hi' m hok (c2 m hm).1
   simp only [cntN, T.flat, List.zip_nil_right, List.nil_append]; omega
theorem Gv.fn4 {F : CallFn} {args : List A} {a' : A} (h : Gv F args a') : ∃ D : Heap → Heap, ∀ (H : Heap) {β : Type} (kp k : A → Heap → Option β), (oLend F args H kp fun w h' => oFrz w h' k) = k a' (H ++ D H) :=
 ⟨fun H => Classical.choose (h H), fun H _ kp k => (Classical.choose_spec (h H)).2 kp k⟩
set_option maxRecDepth 100000 in
theorem alive4_v : law08_treeAlive [] [] = some (.ok (.s (.bool true)), []) := by kernel_rfl
theorem alive4_call (H : Heap) {β : Type} (kp k : A → Heap → Option β) : (oLend law08_treeAlive [] H kp fun w h' => oFrz w h' k) = k (.s (.bool true)) H := by
 rw [oLend_val _ _ _ _ _ _ (by simp) (by simp) alive4_v]; simp
def trimS (n0 : Nat) (vs : List A) (h : Heap) : Heap := if allBelow n0 (idsL vs) && (h.take n0).all (fun s => allBelow n0 s.ids) then h.take n0 else h
theorem trimS_eq (n0 : Nat) (vs : List A) (h : Heap) : Go.Ab.trim true n0 vs h = some (vs, trimS n0 vs h) := by
 unfold Go.Ab.trim trimS
 rw [Bool.true_and]
 split <;> rfl
theorem TreeShapes_v (as : List ActT) {p : Prop} (w0 : p ∧ ∀ x ∈ as, okK x.key) : law08_TreeShapes [mkF 4 (as.map actTC)] [] = some (.ok (.s (.bool true)), []) := by
 have hk := w0.2
 by_cases hl : as.length ≤ 300
 · have h3 : ¬ (300 : Int) < (as.length : Int) := by omega
   obtain ⟨t, hT, hgv⟩ := grown_call (as := as) (by omega) hk
   obtain ⟨D0, hG⟩ := hgv.fn4
   obtain ⟨DR, hR⟩ := (hT.all (by omega)).fn4
   have hLen := fun (H : Heap) {β : Type} (kp k : A → Heap → Option β) => hT.length H kp k
   have hLl := hT.len
   have hS := fun (H : Heap) {β : Type} (kp k : A → Heap → Option β) => rSame_call (growL as) (by omega) H kp k
   obtain ⟨h, root, hh, hI, hfl, rfl⟩ := hT.tree
   have hc := cnt_root hI
   rw [hfl] at hc
   obtain ⟨DN, hN⟩ := (Nodes_gv hI ((growL as).length : Int) (by omega)).fn4
   have hNl : (listN 0 root).length ≤ 1000 := by rw [listN_len]; omega
   have hRd := fun (H : Heap) {β : Type} (kp k : A → Heap → Option β) => Read_call hNl H kp k
   rw [readR_of hI, hfl] at hRd
   have hof := Of_gv hNl
   rw [ofR_of hI, hfl] at hof
   obtain ⟨DO, hO⟩ := hof.fn4
   simp only [readB] at hRd
   simp only [ofB] at hO
   simp [law08_TreeShapes, alive4_call, h3, hG, hN, hRd, hS, trimS_eq, law08_TreeShapes_k1, hO, hR, hLen]
   exact finish_val _ _ (by simp)
 · have h3 : (300 : Int) < (as.length : Int) := by omega
   simp [law08_TreeShapes, alive4_call, h3, finish_val]
end Go.Ab.T
