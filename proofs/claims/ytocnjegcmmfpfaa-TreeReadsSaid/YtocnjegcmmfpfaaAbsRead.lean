/-
 WHAT IS READ OF A STATEMENT'S ARGUMENTS: values that never change, and their form by type.
-/
import Derived.Test.YtocnjegcmmfpfaaAbsLaw
import GoSem.ClaimChange
import Derived.SizedLaws
set_option linter.unusedSimpArgs false
set_option linter.unusedVariables false
namespace Go.Ab
open Go
section
variable {P : Program} {w : World}
def There (w : World) : Cells := fun b _ => b < w.heap.size
def GdF (g : TypeId → List A → Prop) : List Field → List A → Prop
 | [], cs => cs = []
 | f :: fs, cs => ∃ a b, cs = a ++ b ∧ g f.type a ∧ GdF g fs b
def Gd (P : Program) : Nat → TypeId → List A → Prop
 | 0, _, _ => False
 | d + 1, t, cs =>
   match P.underlying t with
   | some .bool => ∃ b, cs = [.s (.bool b)]
   | some (.int k) => ∃ n, cs = [.s (.int k n)] ∧ (Lit.int k n).wf = true
   | some .string => ∃ s : ByteArray, cs = [.s (.string s)] ∧ s.size ≤ maxLen
   | some (.slice e) => ∃ rows, cs = [mkF (P.cellsOf e) rows] ∧ rows.length ≤ maxLen ∧ rows.length * P.bytesOf e ≤ reachBytes ∧ ∀ row ∈ rows, Gd P d e row
   | some (.struct fs) => GdF (Gd P d) fs.toList cs
   | some (.array n e) => ∃ rows : List (List A), cs = rows.flatten ∧ rows.length = n ∧ ∀ row ∈ rows, Gd P d e row
   | _ => False
def okFs (P : Program) (g : TypeId → Bool) : List Field → Nat → Option Nat
 | [], off => some off
 | f :: fs, off => if f.offset = off ∧ g f.type = true then okFs P g fs (off + P.cellsOf f.type) else none
def okT (P : Program) : Nat → TypeId → Bool
 | 0, _ => false
 | d + 1, t =>
   match P.underlying t with
   | some .bool => P.cellsOf t == 1
   | some (.int _) => P.cellsOf t == 1
   | some .string => P.cellsOf t == 1
   | some (.slice e) => P.cellsOf t == 1 && okT P d e && decide (0 < P.cellsOf e)
   | some (.struct fs) => okFs P (okT P d) fs.toList 0 == some (P.cellsOf t)
   | some (.array n e) => P.cellsOf t == n * P.cellsOf e && okT P d e && decide (0 < P.cellsOf e)
   | _ => false
theorem mapM_some {α β : Type} {f : α → Option β} : ∀ {l : List α} {r : List β}, l.mapM f = some r → ∀ x ∈ l, ∃ y, f x = some y
 | [], r, _, x, hx => by cases hx
 | a :: l, r, h, x, hx => by
   simp only [List.mapM_cons, Option.bind_eq_bind, Option.bind_eq_some_iff] at h
   obtain ⟨y, h1, ys, h2, h3⟩ := h
   rcases List.mem_cons.1 hx with rfl | hx
   · exact ⟨y, h1⟩
   · exact mapM_some h2 x hx
theorem qhO {α β : Type} {f : α → Option β} : ∀ {l : List α} {r : List β}, l.mapM f = some r → r.length = l.length ∧ ∀ (i : Nat) x y, l[i]? = some x → r[i]? = some y → f x = some y
 | [], r, h => by simp at h; subst h; simp
 | a :: l, r, h => by
   simp only [List.mapM_cons, Option.bind_eq_bind, Option.bind_eq_some_iff] at h
   obtain ⟨y, h1, ys, h2, h3⟩ := h
   simp only [Option.pure_def, Option.some.injEq] at h3
   subst h3
   obtain ⟨g1, g2⟩ := qhO h2
   refine ⟨by simp [g1], fun i x z hx hz => ?_⟩
   cases i with
   | zero => simp at hx hz; subst hx; subst hz; exact h1
   | succ i => exact g2 i x z (by simpa using hx) (by simpa using hz)
theorem qkw {base : Nat} {a : Addr} {n : Nat} {vs : List Value} (h : w.cells? base a n = some vs) : vs.length = n ∧ ∀ (i : Nat) v, vs[i]? = some v → w.cell? (a.add i) = some v := by
 unfold World.cells? at h
 split at h <;> try (cases h; done)
 obtain ⟨g1, g2⟩ := qhO h
 refine ⟨by simpa using g1, fun i v hv => ?_⟩
 have hi := (List.getElem?_eq_some_iff.1 hv).1
 exact g2 i i v (by rw [List.getElem?_range (by rw [g1] at hi; simpa using hi)]) hv
theorem cell_spot {a : Addr} {v : Value} (h : w.cell? a = some v) : a = ⟨a.block, a.off, none⟩ ∧ a.block < w.heap.size := by
 obtain ⟨b, o, s⟩ := a
 unfold World.cell? at h
 cases hb : w.heap[b]? with
 | none => simp [hb] at h
 | some x =>
   have := (Array.getElem?_eq_some_iff.1 hb).1
   refine ⟨?_, this⟩
   cases x <;> simp [hb] at h
   obtain ⟨h1, _⟩ := h
   cases s <;> simp_all
theorem qmo (a : Addr) (n : Nat) : (a.add n).block = a.block := by unfold Addr.add; split <;> rfl
theorem add_add {a : Addr} (h : a = ⟨a.block, a.off, none⟩) {x y : Nat} : (a.add x).add y = ⟨a.block, a.off + x + y, none⟩ := by
 obtain ⟨b, o, s⟩ := a
 simp at h
 subst h
 rw [qcg, qcg]
def Read (P : Program) (w : World) (d : Nat) (t : TypeId) (cs : List Value) : Prop :=
 cs.length = P.cellsOf t ∧ (∀ v ∈ cs, v.oneCell = true) ∧ ∃ as : List A, as.length = cs.length ∧ (∀ (j : Nat) v a, cs[j]? = some v → as[j]? = some a → Fz P w (There w) v a) ∧ Gd P d t as
theorem Read.one {d : Nat} {t : TypeId} {v : Value} {a : A} (hc : P.cellsOf t = 1) (h1 : v.oneCell = true) (hz : Fz P w (There w) v a) (hg : Gd P d t [a]) : Read P w d t [v] := by
 refine ⟨by simp [hc], by simpa using h1, [a], rfl, fun j v' a' hv ha => ?_, hg⟩
 cases j with
 | zero => simp at hv ha; subst hv; subst ha; exact hz
 | succ j => simp at hv
theorem qjA {g : TypeId → Bool} {gd : TypeId → List A → Prop} {f : TypeId → List Value → Bool} {cs : List Value}
 (ih : ∀ t vs, g t = true → f t vs = true → vs.length = P.cellsOf t ∧ (∀ v ∈ vs, v.oneCell = true) ∧ ∃ as : List A, as.length = vs.length ∧ (∀ (j : Nat) v a, vs[j]? = some v → as[j]? = some a → Fz P w (There w) v a) ∧ gd t as) :
 ∀ (fs : List Field) (off tot : Nat), okFs P g fs off = some tot → (∀ x ∈ fs, f x.type ((cs.drop x.offset).take (P.cellsOf x.type)) = true) → off ≤ tot ∧ (tot ≤ cs.length →
   (∀ v ∈ (cs.drop off).take (tot - off), v.oneCell = true) ∧ ∃ as : List A, as.length = tot - off ∧ (∀ (j : Nat) v a, ((cs.drop off).take (tot - off))[j]? = some v → as[j]? = some a → Fz P w (There w) v a) ∧ GdF gd fs as)
 | [], off, tot, h, _ => by
   simp [okFs] at h
   subst h
   exact ⟨Nat.le_refl _, fun _ => ⟨by simp, [], by simp, by simp, rfl⟩⟩
 | x :: fs, off, tot, h, hf => by
   simp only [okFs] at h
   split at h <;> try (cases h; done)
   rename_i hc
   obtain ⟨hoff, hg⟩ := hc
   obtain ⟨i1, i2⟩ := qjA ih fs _ tot h fun y hy => hf y (by simp [hy])
   refine ⟨by omega, fun htot => ?_⟩
   obtain ⟨l1, l2, as, l3, l4, l5⟩ := ih x.type _ hg (hf x (by simp))
   obtain ⟨k2, bs, k3, k4, k5⟩ := i2 htot
   rw [hoff] at l1 l2 l3 l4
   have hsplit : (cs.drop off).take (tot - off) = (cs.drop off).take (P.cellsOf x.type) ++ (cs.drop (off + P.cellsOf x.type)).take (tot - (off + P.cellsOf x.type)) := by
    rw [show tot - off = P.cellsOf x.type + (tot - (off + P.cellsOf x.type)) by omega, List.take_add, List.drop_drop]
   refine ⟨?_, as ++ bs, ?_, ?_, as, bs, rfl, l5, k5⟩
   · rw [hsplit]; intro v hv
     rcases List.mem_append.1 hv with hv | hv
     · exact l2 v hv
     · exact k2 v hv
   · simp only [List.length_append, l3, k3, l1]; omega
   · rw [hsplit]; intro j v a hv ha
     by_cases hj : j < P.cellsOf x.type
     · rw [List.getElem?_append_left (by rw [l1]; exact hj)] at hv
       rw [List.getElem?_append_left (by rw [l3, l1]; exact hj)] at ha
       exact l4 j v a hv ha
     · rw [List.getElem?_append_right (by rw [l1]; omega)] at hv
       rw [List.getElem?_append_right (by rw [l3, l1]; omega)] at ha
       rw [l1] at hv; rw [l3, l1] at ha
       exact k4 _ v a hv ha
theorem qjy {d c : Nat} {e : TypeId} (hc : P.cellsOf e = c) : ∀ (n : Nat) (vs : Nat → List Value), (∀ i, i < n → Read P w d e (vs i)) →
 ∃ rows : List (List A), rows.length = n ∧ (∀ row ∈ rows, Gd P d e row ∧ row.length = c) ∧ ∀ (i j : Nat) v a, i < n → (vs i)[j]? = some v → (rows[i]?.bind (·[j]?)) = some a → Fz P w (There w) v a
 | 0, vs, _ => ⟨[], rfl, by simp, by simp⟩
 | n + 1, vs, h => by
   obtain ⟨rows, r1, r2, r3⟩ := qjy hc n vs fun i hi => h i (by omega)
   obtain ⟨h1, h2, as, h3, h4, h5⟩ := h n (by omega)
   refine ⟨rows ++ [as], by simp [r1], fun row hrow => ?_, fun i j v a hi hv ha => ?_⟩
   · rcases List.mem_append.1 hrow with hr | hr
     · exact r2 row hr
     · simp at hr; subst hr; exact ⟨h5, by rw [h3, h1, hc]⟩
   · by_cases hin : i < n
     · rw [List.getElem?_append_left (by omega)] at ha
       exact r3 i j v a hin hv ha
     · obtain rfl : i = n := by omega
       rw [List.getElem?_append_right (by omega), r1, Nat.sub_self] at ha
       simp at ha
       exact h4 j v a hv ha
theorem qeK {H : Type} {e : TypeId} : ∀ {ds : List (DataW H)} {d : DataW H}, d ∈ ds → ∀ n ∈ d.weights P e, n ∈ DataW.weightsAll P e ds
 | [], d, h, _, _ => by cases h
 | x :: r, d, h, n, hn => by
   simp only [DataW.weightsAll, List.mem_append]
   rcases List.mem_cons.1 h with rfl | h
   · exact .inl hn
   · exact .inr (qeK h n hn)
def okW' {H : Type} (P : Program) (t : TypeId) (d : DataW H) : Prop := ∀ n ∈ d.weights P t, n ≤ reachBytes
theorem qh9 {H : Type} {enc : TypeId × Value → H} {spare : Nat → Bool} {held : Bool} : ∀ (n d : Nat) (t : TypeId) (cs : List Value) (x : DataW H × List MemPlace), DataW.trod enc P w 0 spare held n t cs = some x → okT P d t = true → okW' P t x.1 → Read P w d t cs
 | 0, d, t, cs, x, h, _, _ => by simp [DataW.trod] at h
 | n + 1, 0, t, cs, x, _, hok, _ => by simp [okT] at hok
 | n + 1, d + 1, t, cs, x, h, hok, hwt => by
   unfold DataW.trod at h
   split at h <;> rename_i hu
   · simp only [okT, hu, beq_iff_eq] at hok
     exact .one hok rfl (.s _) (by simp [Gd, hu])
   · split at h <;> try (cases h; done)
     rename_i hc
     obtain ⟨rfl, hc⟩ := hc
     simp only [okT, hu, beq_iff_eq] at hok
     exact .one hok rfl (.s _) (by simp [Gd, hu, hc])
   · simp [okT, hu] at hok
   · split at h <;> try (cases h; done)
     rename_i hc
     simp only [okT, hu, beq_iff_eq] at hok
     exact .one hok rfl (.s _) (by simp [Gd, hu, hc])
   · simp [okT, hu] at hok
   · simp [okT, hu] at hok
   · simp only [okT, hu, Bool.and_eq_true, beq_iff_eq] at hok
     exact .one hok.1.1 rfl (a := mkF (P.cellsOf _) []) .nilSlice (by simp only [Gd, hu]; exact ⟨[], rfl, by simp, by simp, by simp⟩)
   · rename_i e a len cap
     simp only [okT, hu, Bool.and_eq_true, beq_iff_eq, decide_eq_true_eq] at hok
     obtain ⟨⟨hc1, hoke⟩, hpos⟩ := hok
     simp only at h
     split at h <;> try (cases h; done)
     rename_i hcond
     obtain ⟨_, hlc, hcm⟩ := hcond
     simp only [Option.bind_eq_some_iff] at h
     obtain ⟨els, hels, hx⟩ := h
     rw [Option.map_eq_some_iff] at hx
     obtain ⟨rest, _, rfl⟩ := hx
     obtain ⟨ml, mg⟩ := qhO hels
     simp only [okW', DataW.weights, hu, List.mem_cons, List.mem_append, forall_eq_or_imp, List.length_map] at hwt
     obtain ⟨hwt0, hwt1⟩ := hwt
     have hbytes : len * P.bytesOf e ≤ reachBytes := by
      rw [ml, List.length_range] at hwt0
      exact Nat.le_trans (Nat.mul_le_mul_right _ (by omega)) hwt0
     have hel : ∀ i, i < len → ∃ vs, w.cells? 0 (a.add (i * P.cellsOf e)) (P.cellsOf e) = some vs ∧ Read P w d e vs := fun i hi => by
      have hil : i < els.length := by rw [ml]; simpa using hi
      have hy := mg i i els[i] (by simp [hi]) (List.getElem?_eq_getElem hil)
      rw [Option.bind_eq_some_iff] at hy
      obtain ⟨vs, h1, h2⟩ := hy
      exact ⟨vs, h1, qh9 n d e vs _ h2 hoke fun k hk => hwt1 k (.inl (qeK (List.mem_map.2 ⟨_, List.getElem_mem hil, rfl⟩) k hk))⟩
     let vs : Nat → List Value := fun i => if h : i < len then Classical.choose (hel i h) else []
     have hvs : ∀ i, i < len → w.cells? 0 (a.add (i * P.cellsOf e)) (P.cellsOf e) = some (vs i) ∧ Read P w d e (vs i) := fun i hi => by
      simp only [vs, dif_pos hi]; exact Classical.choose_spec (hel i hi)
     obtain ⟨rows, r1, r2, r3⟩ := qjy rfl len vs fun i hi => (hvs i hi).2
     subst r1
     have hspot : 0 < rows.length → a = ⟨a.block, a.off, none⟩ ∧ a.block < w.heap.size := fun h0 => by
      obtain ⟨g1, g2⟩ := qkw (hvs 0 h0).1
      have := g2 0 _ (List.getElem?_eq_getElem (by omega))
      have hs := cell_spot this
      rw [Nat.zero_mul] at hs
      have h2 : a.add 0 = a ∨ True := .inr trivial
      obtain ⟨b, o, s⟩ := a
      cases s with
      | none => exact ⟨rfl, by have := hs.2; rwa [qmo, qmo] at this⟩
      | some q => simp [Addr.add] at hs
     have hcell : ∀ i j, i < rows.length → j < P.cellsOf e → ∃ v, (vs i)[j]? = some v ∧ w.cell? ⟨a.block, a.off + i * P.cellsOf e + j, none⟩ = some v ∧ v.oneCell = true := fun i j hi hj => by
      obtain ⟨g1, g2⟩ := qkw (hvs i hi).1
      have hv : (vs i)[j]? = some (vs i)[j] := List.getElem?_eq_getElem (by omega)
      have := g2 j _ hv
      obtain ⟨e1, _⟩ := hspot (by omega)
      rw [add_add e1] at this
      exact ⟨_, hv, this, (hvs i hi).2.2.1 _ (List.getElem_mem _)⟩
     refine .one hc1 rfl (a := mkF (P.cellsOf e) rows) (Fz.mkF ?_) (by simp only [Gd, hu]; exact ⟨rows, rfl, by omega, hbytes, fun row hr => (r2 row hr).1⟩)
     refine .fsl (some a) cap (P.cellsOf e) rows a.block a.off (fun i j => (vs i).getD j undef) hlc (fun h0 => by rw [← (hspot h0).1]) (fun row hr => (r2 row hr).2) (fun i j hi hj => ?_) fun i j hi hj => ?_
     · obtain ⟨v, h1, h2, h3⟩ := hcell i j hi hj
       simp only [List.getD_eq_getElem?_getD, h1, Option.getD_some]
       exact ⟨(hspot (by omega)).2, h2, h3⟩
     · have hw := (r2 _ (List.getElem_mem hi)).2
       obtain ⟨v, h1, h2, h3⟩ := hcell i j hi (by omega)
       simp only [List.getD_eq_getElem?_getD, h1, Option.getD_some]
       exact r3 i j v _ hi h1 (by simp [List.getElem?_eq_getElem hi, List.getElem?_eq_getElem hj])
   · rename_i cs _ _ fs
     simp only [okT, hu, beq_iff_eq] at hok
     split at h <;> try (cases h; done)
     rename_i hlen
     rw [Option.map_eq_some_iff] at h
     obtain ⟨ys, hys, rfl⟩ := h
     obtain ⟨ml, mg⟩ := qhO hys
     simp only [okW', DataW.weights, hu] at hwt
     obtain ⟨_, k⟩ := qjA (P := P) (w := w) (g := okT P d) (gd := Gd P d) (f := fun t vs => match DataW.trod enc P w 0 spare held n t vs with | some y => (y.1.weights P t).all (· ≤ reachBytes) | none => false) (cs := cs) (fun t vs hg hf => by
      cases hy : DataW.trod enc P w 0 spare held n t vs with
      | none => rw [hy] at hf; cases hf
      | some y =>
        rw [hy] at hf
        obtain ⟨h1, h2, h3⟩ := qh9 n d t vs y hy hg fun k hk => by simpa using List.all_eq_true.1 hf k hk
        exact ⟨h1, h2, h3⟩) fs.toList 0 _ hok fun x hx => by
        obtain ⟨j, hj, rfl⟩ := List.mem_iff_getElem.1 hx
        have hjl : j < ys.length := by rw [ml]; exact hj
        have hy := mg j _ ys[j] (List.getElem?_eq_getElem hj) (List.getElem?_eq_getElem hjl)
        rw [hy]
        refine List.all_eq_true.2 fun k hk => ?_
        exact decide_eq_true (hwt k (DataW.weights_mem_each (j := j) (by rw [List.getElem?_map, List.getElem?_eq_getElem hj]; rfl) (by rw [List.getElem?_map, List.getElem?_eq_getElem hjl]; rfl) k hk))
     obtain ⟨k1, as, k2, k3, k4⟩ := k (by omega)
     simp only [List.drop_zero, Nat.sub_zero, ← hlen, List.take_length] at k1 k2 k3
     exact ⟨hlen, k1, as, k2, k3, by simp only [Gd, hu]; exact k4⟩
   · rename_i cs _ _ m e
     simp only [okT, hu, Bool.and_eq_true, beq_iff_eq, decide_eq_true_eq] at hok
     obtain ⟨⟨hc1, hoke⟩, hpos⟩ := hok
     split at h <;> try (cases h; done)
     rename_i hlen
     rw [Option.map_eq_some_iff] at h
     obtain ⟨ys, hys, rfl⟩ := h
     obtain ⟨ml, mg⟩ := qhO hys
     simp only [okW', DataW.weights, hu] at hwt
     let vs : Nat → List Value := fun i => (cs.drop (i * P.cellsOf e)).take (P.cellsOf e)
     have hvs : ∀ i, i < m → Read P w d e (vs i) := fun i hi => by
      have hil : i < ys.length := by rw [ml]; simpa using hi
      have hy := mg i i ys[i] (by simp [hi]) (List.getElem?_eq_getElem hil)
      exact qh9 n d e _ _ hy hoke fun k hk => hwt k (qeK (List.mem_map.2 ⟨_, List.getElem_mem hil, rfl⟩) k hk)
     obtain ⟨rows, r1, r2, r3⟩ := qjy rfl m vs hvs
     have hcl : cs.length = m * P.cellsOf e := by omega
     have hfl : rows.flatten.length = m * P.cellsOf e := by rw [qb4 rows fun row hr => (r2 row hr).2, r1]
     have hsplit : ∀ j, j < m * P.cellsOf e → ∃ i k, i < m ∧ k < P.cellsOf e ∧ j = i * P.cellsOf e + k := fun j hj =>
      ⟨j / P.cellsOf e, j % P.cellsOf e, (Nat.div_lt_iff_lt_mul hpos).2 hj, Nat.mod_lt _ hpos, by rw [Nat.mul_comm]; exact (Nat.div_add_mod j (P.cellsOf e)).symm⟩
     have hget : ∀ i k, i < m → k < P.cellsOf e → cs[i * P.cellsOf e + k]? = (vs i)[k]? := fun i k hi hk => by
      simp only [vs]; rw [List.getElem?_take, if_pos hk, List.getElem?_drop]
     refine ⟨hlen, fun v hv => ?_, rows.flatten, by omega, fun j v a hv ha => ?_, by simp only [Gd, hu]; exact ⟨rows, rfl, r1, fun row hr => (r2 row hr).1⟩⟩
     · obtain ⟨j, hj, rfl⟩ := List.mem_iff_getElem.1 hv
       obtain ⟨i, k, hi, hk, rfl⟩ := hsplit j (by omega)
       have h1 := hget i k hi hk
       rw [List.getElem?_eq_getElem hj] at h1
       exact (hvs i hi).2.1 _ (List.mem_of_getElem? h1.symm)
     · obtain ⟨i, k, hi, hk, rfl⟩ := hsplit j (by have := (List.getElem?_eq_some_iff.1 hv).1; omega)
       rw [hget i k hi hk] at hv
       rw [qgD rows (fun row hr => (r2 row hr).2) i k hk] at ha
       exact r3 i k v a hi hv ha
   all_goals first | (simp [okT, hu] at hok; done) | (cases h; done)
end
end Go.Ab
