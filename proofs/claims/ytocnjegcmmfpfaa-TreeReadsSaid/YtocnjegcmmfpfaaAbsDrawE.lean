/-
 CALLS IN A REGION WITH AN OPEN ORDER: they only add to the heap.
-/
import Derived.Test.YtocnjegcmmfpfaaAbsDrawD
set_option linter.unusedSimpArgs false
set_option linter.unusedVariables false
namespace Go.Ab
open Go
section
variable {P : Program} {β : Type} {r : β} {h h' : Heap} {v : A}
mutual
theorem qkJ {f : Nat → Option Nat} : ∀ {a a' : A}, renA f a = some a' → ∀ id ∈ idsA a', ∃ j, f j = some id
 | .s v, a', h => by simp [renA] at h; subst h; simp [idsA]
 | .any, a', h => by simp [renA] at h; subst h; simp [idsA]
 | .cptr _, a', h => by simp [renA] at h; subst h; simp [idsA]
 | .fsl _ _, a', h => by simp [renA] at h; subst h; simp [idsA]
 | .ptr id ver row off, a', h => by simp only [renA, Option.map_eq_some_iff] at h; obtain ⟨x, h, rfl⟩ := h; simp [idsA]; exact ⟨id, h⟩
 | .osl id ver sz lo len, a', h => by simp only [renA, Option.map_eq_some_iff] at h; obtain ⟨x, h, rfl⟩ := h; simp [idsA]; exact ⟨id, h⟩
 | .mref id, a', h => by simp only [renA, Option.map_eq_some_iff] at h; obtain ⟨x, h, rfl⟩ := h; simp [idsA]; exact ⟨id, h⟩
 | .agg cs, a', h => by simp only [renA, Option.map_eq_some_iff] at h; obtain ⟨x, h, rfl⟩ := h; simp only [idsA]; exact qhx h
 | .tup cs, a', h => by simp only [renA, Option.map_eq_some_iff] at h; obtain ⟨x, h, rfl⟩ := h; simp only [idsA]; exact qhx h
 | .fn n cs, a', h => by simp only [renA, Option.map_eq_some_iff] at h; obtain ⟨x, h, rfl⟩ := h; simp only [idsA]; exact qhx h
 | .iface t a, a', h => by simp only [renA, Option.map_eq_some_iff] at h; obtain ⟨x, h, rfl⟩ := h; simp only [idsA]; exact qkJ h
theorem qhx {f : Nat → Option Nat} : ∀ {l l' : List A}, renL f l = some l' → ∀ id ∈ idsL l', ∃ j, f j = some id
 | [], l', h => by simp [renL] at h; subst h; simp [idsL]
 | a :: r, l', h => by
   simp only [renL, Option.bind_eq_some_iff, Option.map_eq_some_iff] at h
   obtain ⟨a', h1, r', h2, rfl⟩ := h
   intro id hid
   simp only [idsL, List.mem_append] at hid
   rcases hid with hid | hid
   · exact qkJ h1 id hid
   · exact qhx h2 id hid
end
theorem qjm {f : Nat → Option Nat} : ∀ {l l' : List (List A)}, renRows f l = some l' → ∀ id ∈ idsRows l', ∃ j, f j = some id
 | [], l', h => by simp [renRows] at h; subst h; simp [idsRows]
 | a :: r, l', h => by
   simp only [renRows, Option.bind_eq_some_iff, Option.map_eq_some_iff] at h
   obtain ⟨a', h1, r', h2, rfl⟩ := h
   intro id hid
   simp only [idsRows, List.mem_append] at hid
   rcases hid with hid | hid
   · exact qhx h1 id hid
   · exact qjm h2 id hid
def GeA (N : Nat) (a : A) : Prop := ∀ id ∈ idsA a, N ≤ id
def GeL (N : Nat) (l : List A) : Prop := ∀ id ∈ idsL l, N ≤ id
def GeR (N : Nat) (l : List (List A)) : Prop := ∀ id ∈ idsRows l, N ≤ id
def GeH (N : Nat) (x : Heap) : Prop := ∀ s ∈ x, s ≠ .res ∧ ∀ id ∈ s.ids, N ≤ id
theorem renHeap_ge {n : Nat} {objs xs : Heap} (h : renHeap (backIdx [] n) objs = some xs) : GeH n xs := by
 intro s hs
 obtain ⟨i, hi, rfl⟩ := List.mem_iff_getElem.1 hs
 obtain ⟨g1, g2⟩ := qeP h
 have hr := g2 i (by omega) hi
 generalize xs[i] = s at hr
 cases s with
 | dead => exact ⟨by simp, by simp [Slot.ids]⟩
 | res => exact (qcJ hr).elim
 | mp kd es => exact ⟨by simp, by simp [Slot.ids]⟩
 | live ob =>
   refine ⟨by simp, fun id hid => ?_⟩
   obtain ⟨ob0, e1, e2, e3, e4⟩ := qcK hr
   obtain ⟨j, hj⟩ := qjm e4 id hid
   simp [backIdx] at hj; omega
theorem GeH.kill {N k : Nat} {x : Heap} (hx : GeH N x) : GeH N (x.set k .dead) := by
 intro s hs
 rcases List.mem_or_eq_of_mem_set hs with h | rfl
 · exact hx s h
 · exact ⟨by simp, by simp [Slot.ids]⟩
theorem app_get {N id : Nat} {g x : Heap} (hg : g.length = N) (hid : N ≤ id) : (g ++ x)[id]? = x[id - N]? := by
 rw [List.getElem?_append_right (by omega), hg]
theorem app_set {N id : Nat} {g x : Heap} {s : Slot} (hg : g.length = N) (hid : N ≤ id) : (g ++ x).set id s = g ++ x.set (id - N) s := by
 rw [List.set_append_right _ _ (by omega), hg]
theorem GeH.live {N j : Nat} {x : Heap} {ob : Obj} (hx : GeH N x) (h : x[j]? = some (.live ob)) : GeR N ob.rows := (hx _ (List.mem_of_getElem? h)).2
theorem frz_shift : ∀ (n N : Nat),
 (∀ (a : A) (x g : Heap) (a' : A) (y : Heap), g.length = N → GeA N a → GeH N x → frzA n a (g ++ x) = some (a', y) → ∃ x', y = g ++ x' ∧ GeH N x' ∧ ∀ g' : Heap, g'.length = N → frzA n a (g' ++ x) = some (a', g' ++ x')) ∧
 (∀ (l : List A) (x g : Heap) (l' : List A) (y : Heap), g.length = N → GeL N l → GeH N x → frzL n l (g ++ x) = some (l', y) → ∃ x', y = g ++ x' ∧ GeH N x' ∧ ∀ g' : Heap, g'.length = N → frzL n l (g' ++ x) = some (l', g' ++ x')) ∧
 (∀ (l : List (List A)) (x g : Heap) (l' : List (List A)) (y : Heap), g.length = N → GeR N l → GeH N x → frzRows n l (g ++ x) = some (l', y) → ∃ x', y = g ++ x' ∧ GeH N x' ∧ ∀ g' : Heap, g'.length = N → frzRows n l (g' ++ x) = some (l', g' ++ x')) := by
 intro n N
 induction n with
 | zero =>
   refine ⟨fun a x g a' y _ _ _ hk => ?_, fun a x g a' y _ _ _ hk => ?_, fun a x g a' y _ _ _ hk => ?_⟩
   · simp [frzA] at hk
   · simp [frzL] at hk
   · simp [frzRows] at hk
 | succ n ih =>
   obtain ⟨ihA, ihL, ihR⟩ := ih
   refine ⟨fun a x g a' y hg ha hx hk => ?_, fun l x g l' y hg hl hx hk => ?_, fun l x g l' y hg hl hx hk => ?_⟩
   · cases a with
     | s v => simp only [frzA, Option.some.injEq, Prod.mk.injEq] at hk; obtain ⟨rfl, rfl⟩ := hk; exact ⟨x, rfl, hx, fun g' _ => by simp only [frzA]⟩
     | cptr cs => simp only [frzA, Option.some.injEq, Prod.mk.injEq] at hk; obtain ⟨rfl, rfl⟩ := hk; exact ⟨x, rfl, hx, fun g' _ => by simp only [frzA]⟩
     | fsl sz rows => simp only [frzA, Option.some.injEq, Prod.mk.injEq] at hk; obtain ⟨rfl, rfl⟩ := hk; exact ⟨x, rfl, hx, fun g' _ => by simp only [frzA]⟩
     | any => simp [frzA] at hk
     | mref id => simp [frzA] at hk
     | ptr id ver row off =>
       have hid : N ≤ id := ha id (by simp [idsA])
       simp only [frzA] at hk
       rw [app_get hg hid] at hk
       split at hk <;> try (cases hk; done)
       rename_i ob hob
       split at hk <;> try (cases hk; done)
       rename_i hv
       split at hk <;> try (cases hk; done)
       rename_i row_ hrows
       rw [Option.map_eq_some_iff] at hk
       obtain ⟨⟨r', h2⟩, hk, heq⟩ := hk
       simp only [Prod.mk.injEq] at heq
       obtain ⟨rfl, rfl⟩ := heq
       rw [app_set hg hid] at hk
       obtain ⟨x', h3, h4, h5⟩ := ihL row_ _ g r' h2 hg (fun j hj => hx.live hob j (by rw [hrows]; simp [idsRows, hj])) hx.kill hk
       refine ⟨x', h3, h4, fun g' hg' => ?_⟩
       simp only [frzA]
       rw [app_get hg' hid, hob]
       simp only [hv, if_true, hrows]
       rw [app_set hg' hid, h5 g' hg']
       rfl
     | osl id ver sz lo len =>
       have hid : N ≤ id := ha id (by simp [idsA])
       simp only [frzA] at hk
       rw [app_get hg hid] at hk
       split at hk <;> try (cases hk; done)
       rename_i ob hob
       split at hk <;> try (cases hk; done)
       rename_i hv
       rw [Option.map_eq_some_iff] at hk
       obtain ⟨⟨r', h2⟩, hk, heq⟩ := hk
       simp only [Prod.mk.injEq] at heq
       obtain ⟨rfl, rfl⟩ := heq
       rw [app_set hg hid] at hk
       obtain ⟨x', h3, h4, h5⟩ := ihR _ _ g r' h2 hg (fun j hj => by
        obtain ⟨row, h1, h2⟩ := qh1.1 hj
        exact hx.live hob j (qh1.2 ⟨row, List.mem_of_mem_drop (List.mem_of_mem_take h1), h2⟩)) hx.kill hk
       refine ⟨x', h3, h4, fun g' hg' => ?_⟩
       simp only [frzA]
       rw [app_get hg' hid, hob]
       simp only [hv, and_self, if_true]
       rw [app_set hg' hid, h5 g' hg']
       rfl
     | agg cs =>
       simp only [frzA, Option.map_eq_some_iff] at hk
       obtain ⟨⟨r', h2⟩, hk, heq⟩ := hk
       simp only [Prod.mk.injEq] at heq
       obtain ⟨rfl, rfl⟩ := heq
       obtain ⟨x', h3, h4, h5⟩ := ihL cs x g r' h2 hg ha hx hk
       exact ⟨x', h3, h4, fun g' hg' => by simp only [frzA]; rw [h5 g' hg']; rfl⟩
     | tup cs =>
       simp only [frzA, Option.map_eq_some_iff] at hk
       obtain ⟨⟨r', h2⟩, hk, heq⟩ := hk
       simp only [Prod.mk.injEq] at heq
       obtain ⟨rfl, rfl⟩ := heq
       obtain ⟨x', h3, h4, h5⟩ := ihL cs x g r' h2 hg ha hx hk
       exact ⟨x', h3, h4, fun g' hg' => by simp only [frzA]; rw [h5 g' hg']; rfl⟩
     | fn nm cs =>
       simp only [frzA, Option.map_eq_some_iff] at hk
       obtain ⟨⟨r', h2⟩, hk, heq⟩ := hk
       simp only [Prod.mk.injEq] at heq
       obtain ⟨rfl, rfl⟩ := heq
       obtain ⟨x', h3, h4, h5⟩ := ihL cs x g r' h2 hg ha hx hk
       exact ⟨x', h3, h4, fun g' hg' => by simp only [frzA]; rw [h5 g' hg']; rfl⟩
     | iface t b =>
       simp only [frzA, Option.map_eq_some_iff] at hk
       obtain ⟨⟨r', h2⟩, hk, heq⟩ := hk
       simp only [Prod.mk.injEq] at heq
       obtain ⟨rfl, rfl⟩ := heq
       obtain ⟨x', h3, h4, h5⟩ := ihA b x g r' h2 hg ha hx hk
       exact ⟨x', h3, h4, fun g' hg' => by simp only [frzA]; rw [h5 g' hg']; rfl⟩
   · simp only [frzL] at hk ⊢
     split at hk
     · rename_i hp
       simp only [Option.some.injEq, Prod.mk.injEq] at hk; obtain ⟨rfl, rfl⟩ := hk
       exact ⟨x, rfl, hx, fun g' _ => by rw [if_pos hp]⟩
     · rename_i hp
       simp only [if_neg hp]
       cases l with
       | nil => simp at hk; obtain ⟨rfl, rfl⟩ := hk; exact ⟨x, rfl, hx, fun g' _ => rfl⟩
       | cons a rest =>
         simp only [Option.bind_eq_some_iff, Option.map_eq_some_iff] at hk
         obtain ⟨⟨a', h1⟩, hk1, ⟨r', h2⟩, hk2, heq⟩ := hk
         simp only [Prod.mk.injEq] at heq
         obtain ⟨rfl, rfl⟩ := heq
         obtain ⟨x1, rfl, h4, h5⟩ := ihA a x g a' _ hg (fun j hj => hl j (by simp [idsL, hj])) hx hk1
         obtain ⟨x2, rfl, h7, h8⟩ := ihL rest x1 g r' _ hg (fun j hj => hl j (by simp [idsL, hj])) h4 hk2
         refine ⟨x2, rfl, h7, fun g' hg' => ?_⟩
         simp only [h5 g' hg', Option.bind_some, h8 g' hg', Option.map_some]
   · simp only [frzRows] at hk ⊢
     split at hk
     · rename_i hp
       simp only [Option.some.injEq, Prod.mk.injEq] at hk; obtain ⟨rfl, rfl⟩ := hk
       exact ⟨x, rfl, hx, fun g' _ => by rw [if_pos hp]⟩
     · rename_i hp
       simp only [if_neg hp]
       cases l with
       | nil => simp at hk; obtain ⟨rfl, rfl⟩ := hk; exact ⟨x, rfl, hx, fun g' _ => rfl⟩
       | cons a rest =>
         simp only [Option.bind_eq_some_iff, Option.map_eq_some_iff] at hk
         obtain ⟨⟨a', h1⟩, hk1, ⟨r', h2⟩, hk2, heq⟩ := hk
         simp only [Prod.mk.injEq] at heq
         obtain ⟨rfl, rfl⟩ := heq
         obtain ⟨x1, rfl, h4, h5⟩ := ihL a x g a' _ hg (fun j hj => hl j (by simp [idsRows, hj])) hx hk1
         obtain ⟨x2, rfl, h7, h8⟩ := ihR rest x1 g r' _ hg (fun j hj => hl j (by simp [idsRows, hj])) h4 hk2
         refine ⟨x2, rfl, h7, fun g' hg' => ?_⟩
         simp only [h5 g' hg', Option.bind_some, h8 g' hg', Option.map_some]
theorem qjK {n0 : Nat} {wr : List Nat} {g h : Heap} (hl : g.length = h.length) (ha : ∀ id, id < n0 → id ∉ wr → g[id]? = h[id]?) : maskH n0 wr g = maskH n0 wr h := by
 apply List.ext_getElem?
 intro j
 unfold maskH
 rw [qeR, qeR, List.getElem?_take, List.getElem?_take]
 by_cases hj : j < n0
 · simp only [hj, if_true]
   split
   · by_cases hj2 : j < h.length
     · simp [hj2, hl]
     · rw [List.getElem?_eq_none (by omega), List.getElem?_eq_none (by omega)]
   · rename_i hw; exact ha j hj hw
 · simp [hj]
theorem qjI {n0 : Nat} {wr : List Nat} {F : CallFn} {args : List A} (hf : oCallF n0 wr F args h kSome = some (v, h')) :
 ∃ xs, h' = h ++ xs ∧ GeA h.length v ∧ GeH h.length xs ∧ ∀ {γ : Type} (k' : A → Heap → Option γ) (g : Heap), g.length = h.length → (∀ id, id < n0 → id ∉ wr → g[id]? = h[id]?) → oCallF n0 wr F args g k' = k' v (g ++ xs) := by
 unfold oCallF at hf
 split at hf <;> try (cases hf; done)
 rename_i args' hl
 split at hf <;> try (cases hf; done)
 rename_i a objs' hF
 split at hf <;> try (cases hf; done)
 rename_i hc
 split at hf <;> try (cases hf; done)
 rename_i a1 h1 hg
 simp only [kSome, Option.some.injEq, Prod.mk.injEq] at hf
 obtain ⟨rfl, rfl⟩ := hf
 have hg' := hg
 unfold qaa at hg
 simp only [Option.bind_eq_some_iff, Option.map_eq_some_iff, renOut, List.length_nil, List.take_zero, setAll, List.drop_zero] at hg
 obtain ⟨R1, ⟨a2, hr, rfl⟩, xs, hxs, heq⟩ := hg
 simp only [Prod.mk.injEq, Out.ok.injEq] at heq
 obtain ⟨rfl, rfl⟩ := heq
 refine ⟨xs, rfl, fun id hid => ?_, renHeap_ge hxs, fun k' g hgl hag => ?_⟩
 · obtain ⟨j, hj⟩ := qkJ hr id hid
   simp [backIdx] at hj; omega
 · unfold oCallF
   rw [qjK hgl hag, hl]
   simp only
   rw [hF]
   have : qaa [] g (.ok a) objs' = some (.ok a2, g ++ xs) := by
    unfold qaa
    rw [hgl]
    simp [renOut, hr, hxs, setAll]
   simp only [this]
   rw [if_pos hc]
theorem GeH.nores {N : Nat} {x : Heap} (hx : GeH N x) : ∀ j : Nat, x[j]? ≠ some .res := fun j hj => (hx _ (List.mem_of_getElem? hj)).1 rfl
theorem qmL {n0 : Nat} {wr : List Nat} {F : CallFn} {args : List A} (hf : oCallK n0 wr F args h kSome = some (v, h')) :
 ∃ xs, h' = h ++ xs ∧ (∀ j : Nat, xs[j]? ≠ some .res) ∧ ∀ (g : Heap), g.length = h.length → (∀ id, id < n0 → id ∉ wr → g[id]? = h[id]?) → oCallK n0 wr F args g kSome = some (v, g ++ xs) := by
 unfold oCallK at hf
 split at hf <;> try (cases hf; done)
 rename_i ids args' objs hb
 split at hf <;> try (cases hf; done)
 rename_i hall
 split at hf <;> try (cases hf; done)
 rename_i a objs' hF
 split at hf <;> try (cases hf; done)
 rename_i hsame
 split at hf <;> try (cases hf; done)
 rename_i a' xs hra hrx
 simp only [kSome, Option.some.injEq, Prod.mk.injEq] at hf
 obtain ⟨rfl, rfl⟩ := hf
 refine ⟨xs, rfl, renHeap_nores hrx, fun g hgl hag => ?_⟩
 unfold oCallK
 rw [qjK hgl hag, hb]
 simp only [hall, if_true, hF, hsame, hgl, hra, hrx]
theorem qiF {F : CallFn} {args : List A} {d : DM} {raw bor : Bool} {I : Nat → Prop} (hb : bor = false) (hf : qaX (some d) raw bor F args h kSome kNone = some (v, h')) :
 Eff (fun g => qaX (some d) raw bor F args g kSome kNone) d.n0 d.wr I .c h v h' := by
 subst hb
 by_cases hK : raw = true ∧ d.st = true
 · obtain ⟨rfl, hst⟩ := hK
   have e1 : ∀ (g : Heap), qaX (some d) true false F args g kSome kNone = oCallK d.n0 d.wr F args g kSome := fun g => by simp only [qaX, hst]
   simp only [e1] at hf ⊢
   obtain ⟨xs, h1, h2, h3⟩ := qmL hf
   exact .call rfl xs h1 h2 fun g hg ha => h3 g hg ha
 have e1 : ∀ (g : Heap) {γ : Type} (k' kp' : A → Heap → Option γ), qaX (some d) raw false F args g k' kp' = if raw then oCallF d.n0 d.wr F args g k' else oCallF d.n0 d.wr F args g (fun v h => oFrz v h k') := fun g γ k' kp' => by
  cases raw with
  | false => rfl
  | true =>
    have : d.st = false := by
     cases h2 : d.st with
     | false => rfl
     | true => exact absurd ⟨rfl, h2⟩ hK
    simp [qaX, this]
 simp only [e1] at hf ⊢
 cases raw with
 | true =>
   obtain ⟨xs, h1, h2, h3, h4⟩ := qjI hf
   exact .call rfl xs h1 h3.nores fun g hg ha => h4 kSome g hg ha
 | false =>
   obtain ⟨v1, h1, h2, h3⟩ := qgy (k := fun v h => oFrz v h kSome) hf
   obtain ⟨xs, rfl, h5, h6, h7⟩ := qjI (h2 kSome)
   unfold oFrz at h3
   split at h3
   · rename_i hp
     simp only [kSome, Option.some.injEq, Prod.mk.injEq] at h3
     obtain ⟨rfl, rfl⟩ := h3
     refine .call rfl xs rfl h6.nores fun g hg ha => ?_
     show oCallF d.n0 d.wr F args g (fun v h => oFrz v h kSome) = _
     rw [h7 _ g hg ha]
     simp [oFrz, hp, kSome]
   · rename_i hp
     split at h3 <;> try (cases h3; done)
     rename_i a2 h2' hz
     simp only [kSome, Option.some.injEq, Prod.mk.injEq] at h3
     obtain ⟨rfl, rfl⟩ := h3
     obtain ⟨x', rfl, g2, g3⟩ := (frz_shift 1000 h.length).1 v1 xs h a2 h2' rfl h5 h6 hz
     refine .call rfl x' rfl g2.nores fun g hg ha => ?_
     show oCallF d.n0 d.wr F args g (fun v h => oFrz v h kSome) = _
     rw [h7 _ g hg ha]
     simp [oFrz, hp, g3 g hg, kSome]
theorem ql4 {id : Nat} : ∀ {l : List A}, id ∈ idsL l → ∃ a ∈ l, id ∈ idsA a
 | [], h => by simp [idsL] at h
 | a :: l, h => by
   simp only [idsL, List.mem_append] at h
   rcases h with h | h
   · exact ⟨a, by simp, h⟩
   · obtain ⟨b, hb, hi⟩ := ql4 h
     exact ⟨b, by simp [hb], hi⟩
theorem qke {n0 : Nat} {wr : List Nat} {I : Nat → Prop} {F : CallFn} {args : List A} (hI : ∀ id ∈ idsL args, I id) (hf : oCallW n0 wr F args h kSome = some (v, h')) :
 Eff (fun g => oCallW n0 wr F args g kSome) n0 wr I .ap h v h' := by
 have hf' := hf
 unfold oCallW at hf'
 split at hf' <;> try (cases hf'; done)
 rename_i ho
 obtain ⟨h1, h2, h3⟩ := qnc ho
 split at hf' <;> try (cases hf'; done)
 rename_i args' ha
 split at hf' <;> try (cases hf'; done)
 rename_i a objs' hF
 split at hf' <;> try (cases hf'; done)
 rename_i hc
 have hc' := hc
 simp only [Bool.and_eq_true, beq_iff_eq, List.all_eq_true, decide_eq_true_eq] at hc'
 obtain ⟨⟨c1, c2⟩, c3⟩ := hc'
 split at hf' <;> try (cases hf'; done)
 rename_i a' hra
 simp only [kSome, Option.some.injEq, Prod.mk.injEq] at hf'
 obtain ⟨rfl, rfl⟩ := hf'
 have get : ∀ (g : Heap), (∀ id ∈ idsL args, id < g.length) → ∀ id ∈ idsL args, ∃ j, ∃ hj : j < objs'.length, (setAll g (idsL args) objs')[id]? = some objs'[j] := fun g hg id hid => by
  obtain ⟨j, hj, rfl⟩ := List.mem_iff_getElem.1 hid
  have hj' : j < objs'.length := by omega
  exact ⟨j, hj', qfj _ g objs' h1 j _ _ (List.getElem?_eq_getElem hj) (List.getElem?_eq_getElem hj') (hg _ hid)⟩
 refine .loc (idsL args) (idsL args) (.inr (.inr rfl)) ⟨setAll_len _ _ _, fun id hid => (h3 id hid).2.1, fun _ hid => hid, fun id hid => qfW _ _ _ hid, fun g hg => ?_⟩ ⟨fun id hid => .inl hid, fun id hid => ?_, (fun h => by cases h), (fun h => by cases h)⟩
 · have hgd : ∀ id ∈ idsL args, g.getD id .dead = h.getD id .dead := fun id hid => by simp [List.getD_eq_getElem?_getD, hg id hid]
   have hgl : ∀ id ∈ idsL args, id < g.length := fun id hid => by
    obtain ⟨_, _, ob, hob, _⟩ := h3 id hid
    rw [← hg id hid] at hob
    exact (List.getElem?_eq_some_iff.1 hob).1
   have hog : okW n0 wr (idsL args) g = true := by
    rw [← ho]
    unfold okW
    congr 1
    rw [Bool.eq_iff_iff, List.all_eq_true, List.all_eq_true]
    exact ⟨fun hh id hid => by rw [← hgd id hid]; exact hh id hid, fun hh id hid => by rw [hgd id hid]; exact hh id hid⟩
   have hmap : (idsL args).map (g.getD · .dead) = (idsL args).map (h.getD · .dead) := List.map_congr_left hgd
   refine ⟨setAll g (idsL args) objs', ?_, setAll_len _ _ _, fun id hid => ?_, fun id hid => qfW _ _ _ hid⟩
   · unfold oCallW
     rw [if_pos hog]
     simp only [ha, hmap, hF]
     rw [if_pos hc]
     simp only [hra, kSome]
   · obtain ⟨j, hj, rfl⟩ := List.mem_iff_getElem.1 hid
     have hj' : j < objs'.length := by omega
     rw [qfj _ g objs' h1 j _ _ (List.getElem?_eq_getElem hj) (List.getElem?_eq_getElem hj') (hgl _ hid),
      qfj _ h objs' h1 j _ _ (List.getElem?_eq_getElem hj) (List.getElem?_eq_getElem hj') (h3 _ hid).2.1]
 · refine ⟨(h3 id hid).1, ?_, .inr ⟨hI id hid, rfl⟩⟩
   obtain ⟨j, hj, e⟩ := get h (fun id hid => (h3 id hid).2.1) id hid
   rw [e]
   intro hh
   have := c2 objs'[j] (List.getElem_mem hj)
   simp only [Option.some.injEq] at hh
   rw [hh] at this; simp [flatS] at this
def rawOf (an : FAnn) (o : Oper) : Bool := match o.dst with | some d => an.raw.contains d | none => false
def borOf (an : FAnn) (dm : Option DM) (o : Oper) : Bool := match o.dst with | some d => an.bor.contains d | none => dm.isNone
theorem evalStep_H {E : FuncId → CallFn} {En : String → CallFn} {an : FAnn} {dm : Option DM} {o : Oper} {regs : List A} (hp : cls o.op ≠ .p) (g : Heap) (k kp : A → Heap → Option β) :
 qbF P E En an dm o regs g k kp = evalH P E En (rawOf an o) (borOf an dm o) dm o.op (opnd P regs) g k kp := by
 unfold qbF
 split
 · rename_i h; exact absurd h hp
 · rfl
theorem evalH_eff {E : FuncId → CallFn} {En : String → CallFn} {raw bor : Bool} {d : DM} {op : Op} {regs : List A} (hb : cls op = .c → bor = false) (hap : cls op = .ap → d.st = false) (hn : d.n0 ≤ d.slot) (hf : evalH P E En raw bor (some d) op (opnd P regs) h kSome kNone = some (v, h')) :
 Eff (fun g => evalH P E En raw bor (some d) op (opnd P regs) g kSome kNone) d.n0 d.wr (fun id => ∃ x ∈ op.operands, id ∈ idsA (opnd P regs x)) (cls op) h v h' := by
 have top : ∀ x, x ∈ op.operands → ∀ id ∈ idTop (opnd P regs x), ∃ x ∈ op.operands, id ∈ idsA (opnd P regs x) := fun x hx id hid => ⟨x, hx, qm1 hid⟩
 cases op <;> simp only [evalH] at hf ⊢ <;> try (cases hf; done)
 case load t a =>
  split at hf <;> try (cases hf; done)
  rename_i sh hsh
  exact oLoadD_eff (top a (by simp [Op.operands])) hf
 case convert src dst x =>
  split at hf <;> try (cases hf; done)
  · obtain ⟨v0, h1, h2⟩ := qlO hf
    simp only [kSome, Option.some.injEq, Prod.mk.injEq] at h2
    obtain ⟨rfl, rfl⟩ := h2
    exact .pure rfl fun g => h1 fun v => some (v, g)
  · split at hf <;> try (cases hf; done)
    exact qk0 (top x (by simp [Op.operands])) hf
 case store t a x => exact .other rfl
 case alloc t =>
  split at hf <;> try (cases hf; done)
  · split at hf <;> try (cases hf; done)
    exact qkZ hn hf
  · exact qkZ hn hf
 case box t x =>
  split at hf <;> try (cases hf; done)
  exact qkZ hn hf
 case buildSlice t n parts =>
  split at hf <;> try (cases hf; done)
  rename_i e he
  split at hf <;> try (cases hf; done)
  rename_i sz sh hsz hsh
  split at hf <;> try (cases hf; done)
  rename_i hc
  simp only [hc, if_true]
  cases bor with
  | true => exact oNewFz_eff hn hf
  | false => exact qhI hn hf
 case makeSlice t l c =>
  split at hf <;> try (cases hf; done)
  split at hf <;> try (cases hf; done)
  exact oMake_eff hn hf
 case call c =>
  obtain ⟨callee, args, ts⟩ := c
  cases callee with
  | builtin b =>
    cases b <;> simp only at hf ⊢ <;> try (cases hf; done)
    · split at hf <;> try (cases hf; done)
      rename_i t u x y h1 h2
      split at hf <;> try (cases hf; done)
      rename_i e e2 he he2
      split at hf <;> try (cases hf; done)
      rename_i sz hsz
      split at hf <;> try (cases hf; done)
      rename_i hc
      have hx : x ∈ (Op.call { callee := .builtin .append, args, argTypes := ts }).operands := by simp [Op.operands, Call.operands, ← Array.mem_toList_iff, h2]
      have hy : y ∈ (Op.call { callee := .builtin .append, args, argTypes := ts }).operands := by simp [Op.operands, Call.operands, ← Array.mem_toList_iff, h2]
      have hst : d.st = false := hap rfl
      simp only [hst] at hf ⊢
      have := qlQ hn (top x hx) (top y hy) hf
      show Eff _ d.n0 d.wr _ Cls.ap h v h'
      simpa only [h1, h2, he, he2, hsz, hc, if_true, and_self] using this
    · exact .other rfl
  | invoke _ _ => simp only at hf; cases hf
  | value f =>
    have viaV : qbr En (some d) raw bor (opnd P regs f) (args.toList.map (opnd P regs)) h kSome kNone = some (v, h') →
     Eff (fun g => qbr En (some d) raw bor (opnd P regs f) (args.toList.map (opnd P regs)) g kSome kNone) d.n0 d.wr (fun id => ∃ x ∈ (Op.call { callee := .value f, args, argTypes := ts }).operands, id ∈ idsA (opnd P regs x)) .c h v h' := by
     intro hk
     have hk0 := hk
     obtain ⟨name, caps, hfn, hk⟩ := qgp hk
     have : ∀ g : Heap, qbr En (some d) raw bor (.fn name caps) (args.toList.map (opnd P regs)) g kSome kNone = qaX (some d) raw bor (En name) (argsV caps (args.toList.map (opnd P regs))) g kSome kNone := fun g => by
      rw [hb rfl] at hk0 ⊢
      cases raw with
      | false => rfl
      | true =>
        cases hst : d.st with
        | true => simp only [qbr, hst] at hk0; cases hk0
        | false => simp only [qbr, qaX, oCallVF, hst]
     simp only [hfn, this]
     exact qiF (hb rfl) hk
    cases f with
    | func g => exact qiF (hb rfl) hf
    | tmp t => exact viaV hf
    | const c => exact viaV hf
    | global g => exact viaV hf
theorem qmh {E : FuncId → CallFn} {En : String → CallFn} {an : FAnn} {d : DM} {o : Oper} {regs : List A} (hn : d.n0 ≤ d.slot) (hf : qbF P E En an (some d) o regs h kSome kNone = some (v, h')) :
 Eff (fun g => qbF P E En an (some d) o regs g kSome kNone) d.n0 d.wr (fun id => ∃ x ∈ o.op.operands, id ∈ idsA (opnd P regs x)) (clsA an d.st o) h v h' := by
 by_cases hp : cls o.op = .p
 · unfold qbF at hf ⊢
   simp only [hp] at hf ⊢
   obtain ⟨v0, h1, h2⟩ := qmj hf
   simp only [kSome, Option.some.injEq, Prod.mk.injEq] at h2
   obtain ⟨rfl, rfl⟩ := h2
   exact .pure rfl fun g => h1 fun v => some (v, g)
 · simp only [evalStep_H hp] at hf ⊢
   by_cases hc : clsA an d.st o = .w
   · rw [hc]; exact .other rfl
   by_cases hs : ∃ t a x, o.op = .store t a x
   · obtain ⟨t, a, x, hs⟩ := hs
     have hst : d.st = true := by
      cases h : d.st with
      | true => rfl
      | false => exact absurd (by simp [clsA, hs, h]) hc
     have hca : clsA an d.st o = .ap := by simp [clsA, hs, hst]
     rw [hca]
     simp only [hs, evalH] at hf ⊢
     split at hf <;> try (cases hf; done)
     rename_i sh hsh
     simp only [hst] at hf ⊢
     exact qmF (fun id hid => ⟨a, by simp [Op.operands], qm1 hid⟩) hf
   by_cases hb : cls o.op = .c ∧ borOf an (some d) o = true
   · obtain ⟨hcc, hb⟩ := hb
     obtain ⟨dd, hdd, hbc⟩ : ∃ dd, o.dst = some dd ∧ an.bor.contains dd = true := by
      unfold borOf at hb
      split at hb
      · rename_i dd hdd; exact ⟨dd, hdd, hb⟩
      · cases hb
     have hsel : clsA an d.st o = if d.st = true then .ap else .w := by
      unfold clsA
      split
      · rename_i heq; exact absurd ⟨_, _, _, heq⟩ hs
      · simp only [hcc, hdd]
        rw [if_pos hbc]
     have hst : d.st = true := by
      cases h : d.st with
      | true => rfl
      | false => rw [hsel, h] at hc; simp at hc
     rw [hsel, if_pos hst]
     cases hop : o.op <;> simp only [hop, cls] at hcc <;> try (cases hcc; done)
     rename_i c
     obtain ⟨callee, args, ts⟩ := c
     cases callee with
     | builtin b => cases b <;> simp [cls] at hcc
     | invoke _ _ => simp [cls] at hcc
     | value f =>
       simp only [hop, evalH] at hf ⊢
       cases f with
       | func g =>
         simp only [hb] at hf ⊢
         cases hr : rawOf an o with
         | false =>
           have e : ∀ g' : Heap, qaX (some d) false true (E g) (args.toList.map (opnd P regs)) g' kSome kNone = oCallW d.n0 d.wr (froze (E g)) (args.toList.map (opnd P regs)) g' kSome := fun g' => by simp only [qaX, hst]
           simp only [hr, e] at hf ⊢
           refine qke (fun id hid => ?_) hf
           obtain ⟨a, ha, hia⟩ := ql4 hid
           obtain ⟨x, hx, rfl⟩ := List.mem_map.1 ha
           exact ⟨x, by simp [Op.operands, Call.operands, ← Array.mem_toList_iff, hx], hia⟩
         | true =>
           have e : ∀ g' : Heap, qaX (some d) true true (E g) (args.toList.map (opnd P regs)) g' kSome kNone = oCallW d.n0 d.wr (E g) (args.toList.map (opnd P regs)) g' kSome := fun g' => by simp only [qaX, hst]
           simp only [hr, e] at hf ⊢
           refine qke (fun id hid => ?_) hf
           obtain ⟨a, ha, hia⟩ := ql4 hid
           obtain ⟨x, hx, rfl⟩ := List.mem_map.1 ha
           exact ⟨x, by simp [Op.operands, Call.operands, ← Array.mem_toList_iff, hx], hia⟩
       | tmp t => simp only [hb, qbr, hst] at hf; cases hr : rawOf an o <;> simp only [hr, hst] at hf <;> cases hf
       | const c => simp only [hb, qbr, hst] at hf; cases hr : rawOf an o <;> simp only [hr, hst] at hf <;> cases hf
       | global g => simp only [hb, qbr, hst] at hf; cases hr : rawOf an o <;> simp only [hr, hst] at hf <;> cases hf
   · have hbf : cls o.op = .c → borOf an (some d) o = false := fun h => by
      cases h2 : borOf an (some d) o with
      | false => rfl
      | true => exact absurd ⟨h, h2⟩ hb
     have hapf : cls o.op = .ap → d.st = false := fun h => by
      cases h2 : d.st with
      | false => rfl
      | true =>
        refine absurd ?_ hc
        unfold clsA
        split
        · rename_i heq; exact absurd ⟨_, _, _, heq⟩ hs
        · simp [h, h2]
     have hcl : clsA an d.st o = cls o.op := by
      unfold clsA
      split
      · rename_i heq; exact absurd ⟨_, _, _, heq⟩ hs
      · split
        · rename_i hcc
          have hbo := hbf hcc
          unfold borOf at hbo
          split <;> rename_i hd
          · simp only [hd] at hbo
            rw [if_neg (by rw [hbo]; simp), hcc]
          · exact hcc.symm
        · rename_i hcc; rw [hapf hcc, hcc]; rfl
        · rfl
     rw [hcl]
     exact evalH_eff hbf hapf hn hf
end
end Go.Ab
