/-
 WHAT AN OPERATION OF A REGION WITH AN OPEN ORDER READS AND WRITES.
-/
import Derived.Test.YtocnjegcmmfpfaaAbsDrawB
set_option linter.unusedSimpArgs false
set_option linter.unusedVariables false
namespace Go.Ab
open Go
section
variable {P : Program} {β : Type} {r : β} {h h' : Heap} {v : A}
abbrev HF := Heap → Option (A × Heap)
abbrev kSome : A → Heap → Option (A × Heap) := fun v h => some (v, h)
abbrev kNone : A → Heap → Option (A × Heap) := fun _ _ => none
theorem qhK {n : Option Nat} {a : A} {k : A → Option β} (hk : oLoad n a h k = some r) : ∃ v, (∀ {γ : Type} (k' : A → Option γ), oLoad n a h k' = k' v) ∧ k v = some r := by
 unfold oLoad at hk ⊢
 (repeat' split at hk) <;> first | (cases hk; done) | exact ⟨_, fun _ => rfl, hk⟩ | (refine ⟨_, fun _ => ?_, hk⟩; simp_all; done)
theorem qii {n : Option Nat} {a v : A} {k : Heap → Option β} (hk : oStore n a v h k = some r) : ∃ h', (∀ {γ : Type} (k' : Heap → Option γ), oStore n a v h k' = k' h') ∧ k h' = some r := by
 unfold oStore at hk ⊢
 (repeat' split at hk) <;> first | (cases hk; done) | exact ⟨_, fun _ => rfl, hk⟩ | (refine ⟨_, fun _ => ?_, hk⟩; simp_all; done)
theorem ql0 {at_ : Option Nat} {n : Option Nat} {x : A} {k : A → Heap → Option β} (hk : oNew at_ n x h k = some r) : ∃ v h', (∀ {γ : Type} (k' : A → Heap → Option γ), oNew at_ n x h k' = k' v h') ∧ k v h' = some r := by
 unfold oNew at hk ⊢
 (repeat' split at hk) <;> first | (cases hk; done) | exact ⟨_, _, fun _ => rfl, hk⟩ | (refine ⟨_, _, fun _ => ?_, hk⟩; simp_all; done)
theorem qfB {at_ : Option Nat} {sz : Nat} {rows : Option (List (List A))} {k : A → Heap → Option β} (hk : qah at_ sz rows h k = some r) : ∃ v h', (∀ {γ : Type} (k' : A → Heap → Option γ), qah at_ sz rows h k' = k' v h') ∧ k v h' = some r := by
 unfold qah at hk ⊢
 (repeat' split at hk) <;> first | (cases hk; done) | exact ⟨_, _, fun _ => rfl, hk⟩ | (refine ⟨_, _, fun _ => ?_, hk⟩; simp_all; done)
theorem oMake_det {at_ : Option Nat} {sz b : Nat} {z : List A} {l c : A} {k : A → Heap → Option β} (hk : oMake at_ sz b z l c h k = some r) : ∃ v h', (∀ {γ : Type} (k' : A → Heap → Option γ), oMake at_ sz b z l c h k' = k' v h') ∧ k v h' = some r := by
 unfold oMake at hk ⊢
 split at hk <;> try (cases hk; done)
 split at hk <;> try (cases hk; done)
 rename_i hc
 simp only [if_pos hc]
 exact qfB hk
theorem qgY {at_ : Option Nat} {sz b : Nat} {x y : A} {k : A → Heap → Option β} (hk : oAppend at_ sz b x y h k = some r) : ∃ v h', (∀ {γ : Type} (k' : A → Heap → Option γ), oAppend at_ sz b x y h k' = k' v h') ∧ k v h' = some r := by
 unfold oAppend at hk ⊢
 split at hk <;> try (cases hk; done)
 split at hk <;> try (cases hk; done)
 · split at hk <;> try (cases hk; done)
   rename_i hc
   simp only [if_pos hc]
   split at hk <;> try (cases hk; done)
   exact ⟨_, _, fun _ => rfl, hk⟩
 · split at hk <;> try (cases hk; done)
   split at hk <;> try (cases hk; done)
   rename_i hc
   exact ⟨_, _, fun _ => if_pos hc, hk⟩
theorem oCopy_det {sz : Nat} {x y : A} {k : A → Heap → Option β} (hk : oCopy sz x y h k = some r) : ∃ v h', (∀ {γ : Type} (k' : A → Heap → Option γ), oCopy sz x y h k' = k' v h') ∧ k v h' = some r := by
 unfold oCopy at hk ⊢
 (repeat' split at hk) <;> first | (cases hk; done) | exact ⟨_, _, fun _ => rfl, hk⟩ | (refine ⟨_, _, fun _ => ?_, hk⟩; simp_all; done)
theorem qgy {n0 : Nat} {wr : List Nat} {F : CallFn} {args : List A} {k : A → Heap → Option β} (hk : oCallF n0 wr F args h k = some r) : ∃ v h', (∀ {γ : Type} (k' : A → Heap → Option γ), oCallF n0 wr F args h k' = k' v h') ∧ k v h' = some r := by
 unfold oCallF at hk
 split at hk <;> try (cases hk; done)
 rename_i args' hl
 split at hk <;> try (cases hk; done)
 rename_i a objs' hF
 split at hk <;> try (cases hk; done)
 rename_i hc
 split at hk <;> try (cases hk; done)
 rename_i a' h' hg
 refine ⟨a', h', fun _ => ?_, hk⟩
 unfold oCallF
 simp only [hl, hF, hg]
 rw [if_pos hc]
theorem qj4 {a : A} {k : A → Heap → Option β} (hk : oFrz a h k = some r) : ∃ v h', (∀ {γ : Type} (k' : A → Heap → Option γ), oFrz a h k' = k' v h') ∧ k v h' = some r := by
 unfold oFrz at hk ⊢
 split at hk
 · rename_i hc; exact ⟨_, _, fun _ => if_pos hc, hk⟩
 · rename_i hc
   simp only [if_neg hc]
   split at hk <;> try (cases hk; done)
   exact ⟨_, _, fun _ => rfl, hk⟩
theorem oNewFz_det {slot sz : Nat} {rows : Option (List (List A))} {k : A → Heap → Option β} (hk : oNewFz slot sz rows h k = some r) : ∃ v h', (∀ {γ : Type} (k' : A → Heap → Option γ), oNewFz slot sz rows h k' = k' v h') ∧ k v h' = some r := by
 unfold oNewFz at hk ⊢
 split at hk <;> try (cases hk; done)
 rename_i rs
 split at hk <;> try (cases hk; done)
 rename_i hp
 obtain ⟨v, h1, e1, e2⟩ := qfB hk
 obtain ⟨v2, h2, g1, g2⟩ := qj4 e2
 refine ⟨v2, h2, fun k' => ?_, g2⟩
 simp only [if_pos hp]
 rw [e1, g1]
theorem qkg {F : CallFn} {args : List A} {k : A → Heap → Option β} (hk : oCall F args h (fun _ _ => none) k = some r) : ∃ v h', (∀ {γ : Type} (k' : A → Heap → Option γ), oCall F args h (fun _ _ => none) k' = k' v h') ∧ k v h' = some r := by
 unfold oCall at hk ⊢
 split at hk <;> try (cases hk; done)
 rename_i ids args' objs hb
 split at hk <;> try (cases hk; done)
 rename_i R objs' hF
 split at hk <;> try (cases hk; done)
 rename_i a h' hg
 refine ⟨a, h', fun k' => ?_, hk⟩
 simp only [hF, hg]
theorem qkf {n0 : Nat} {wr : List Nat} {F : CallFn} {args : List A} {k : A → Heap → Option β} (hk : oCallW n0 wr F args h k = some r) : ∃ v h', (∀ {γ : Type} (k' : A → Heap → Option γ), oCallW n0 wr F args h k' = k' v h') ∧ k v h' = some r := by
 unfold oCallW at hk ⊢
 split at hk <;> try (cases hk; done)
 rename_i ho
 split at hk <;> try (cases hk; done)
 rename_i args' ha
 split at hk <;> try (cases hk; done)
 rename_i a objs' hF
 split at hk <;> try (cases hk; done)
 rename_i hc
 split at hk <;> try (cases hk; done)
 rename_i a' hra
 refine ⟨a', _, fun k' => ?_, hk⟩
 simp only [ho, if_true, ha, hF, hc, hra]
theorem oCallK_det {n0 : Nat} {wr : List Nat} {F : CallFn} {args : List A} {k : A → Heap → Option β} (hk : oCallK n0 wr F args h k = some r) : ∃ v h', (∀ {γ : Type} (k' : A → Heap → Option γ), oCallK n0 wr F args h k' = k' v h') ∧ k v h' = some r := by
 unfold oCallK at hk ⊢
 split at hk <;> try (cases hk; done)
 rename_i ids args' objs hb
 split at hk <;> try (cases hk; done)
 rename_i hall
 split at hk <;> try (cases hk; done)
 rename_i a objs' hF
 split at hk <;> try (cases hk; done)
 rename_i hsame
 split at hk <;> try (cases hk; done)
 rename_i a' xs hra hrx
 refine ⟨a', _, fun k' => ?_, hk⟩
 simp only [hall, if_true, hF, hsame, hra, hrx]
theorem qiG {d : DM} {raw bor : Bool} {F : CallFn} {args : List A} {k kp : A → Heap → Option β} (hk : qaX (some d) raw bor F args h k kp = some r) : ∃ v h', (∀ {γ : Type} (k' kp' : A → Heap → Option γ), qaX (some d) raw bor F args h k' kp' = k' v h') ∧ k v h' = some r := by
 cases bor with
 | true =>
   cases hst : d.st with
   | true =>
     cases raw with
     | true =>
       have e1 : ∀ {γ : Type} (k' kp' : A → Heap → Option γ), qaX (some d) true true F args h k' kp' = oCallW d.n0 d.wr F args h k' := fun k' kp' => by simp only [qaX, hst]
       simp only [e1] at hk ⊢
       obtain ⟨v, h1, h2, h3⟩ := qkf hk
       exact ⟨v, h1, fun k' kp' => h2 k', h3⟩
     | false =>
       have e1 : ∀ {γ : Type} (k' kp' : A → Heap → Option γ), qaX (some d) false true F args h k' kp' = oCallW d.n0 d.wr (froze F) args h k' := fun k' kp' => by simp only [qaX, hst]
       simp only [e1] at hk ⊢
       obtain ⟨v, h1, h2, h3⟩ := qkf hk
       exact ⟨v, h1, fun k' kp' => h2 k', h3⟩
   | false =>
   have e1 : ∀ {γ : Type} (k' kp' : A → Heap → Option γ), qaX (some d) raw true F args h k' kp' = if raw then oCall F args h (fun _ _ => none) k' else oCall F args h (fun _ _ => none) (fun v h => oFrz v h k') := fun k' kp' => by cases raw <;> simp [qaX, hst]
   simp only [e1] at hk ⊢
   cases raw with
   | true =>
     obtain ⟨v, h1, h2, h3⟩ := qkg hk
     exact ⟨v, h1, fun k' kp' => h2 k', h3⟩
   | false =>
     obtain ⟨v, h1, h2, h3⟩ := qkg (k := fun v h => oFrz v h k) hk
     obtain ⟨v2, h4, h5, h6⟩ := qj4 h3
     refine ⟨v2, h4, fun k' kp' => ?_, h6⟩
     show oCall F args h (fun _ _ => none) (fun v h => oFrz v h k') = _
     rw [h2]; exact h5 k'
 | false =>
 cases hst : d.st with
 | true =>
   cases raw with
   | true =>
     have e1 : ∀ {γ : Type} (k' kp' : A → Heap → Option γ), qaX (some d) true false F args h k' kp' = oCallK d.n0 d.wr F args h k' := fun k' kp' => by simp only [qaX, hst]
     simp only [e1] at hk ⊢
     obtain ⟨v, h1, h2, h3⟩ := oCallK_det hk
     exact ⟨v, h1, fun k' kp' => h2 k', h3⟩
   | false =>
     obtain ⟨v, h1, h2, h3⟩ := qgy (k := fun v h => oFrz v h k) hk
     obtain ⟨v2, h4, h5, h6⟩ := qj4 h3
     refine ⟨v2, h4, fun k' kp' => ?_, h6⟩
     show oCallF d.n0 d.wr F args h (fun v h => oFrz v h k') = _
     rw [h2]; exact h5 k'
 | false =>
 have e1 : ∀ {γ : Type} (k' kp' : A → Heap → Option γ), qaX (some d) raw false F args h k' kp' = if raw then oCallF d.n0 d.wr F args h k' else oCallF d.n0 d.wr F args h (fun v h => oFrz v h k') := fun k' kp' => by cases raw <;> simp [qaX, hst]
 simp only [e1] at hk ⊢
 cases raw with
 | true =>
   obtain ⟨v, h1, h2, h3⟩ := qgy hk
   exact ⟨v, h1, fun k' kp' => h2 k', h3⟩
 | false =>
   obtain ⟨v, h1, h2, h3⟩ := qgy (k := fun v h => oFrz v h k) hk
   obtain ⟨v2, h4, h5, h6⟩ := qj4 h3
   refine ⟨v2, h4, fun k' kp' => ?_, h6⟩
   show oCallF d.n0 d.wr F args h (fun v h => oFrz v h k') = _
   rw [h2]; exact h5 k'
theorem oLoadD_det {n0 : Nat} {wr : List Nat} {n : Option Nat} {a : A} {k : A → Heap → Option β} (hk : oLoadD n0 wr n a h k = some r) : ∃ v h', (∀ {γ : Type} (k' : A → Heap → Option γ), oLoadD n0 wr n a h k' = k' v h') ∧ k v h' = some r := by
 unfold oLoadD at hk ⊢
 split at hk <;> try (cases hk; done)
 · split at hk <;> try (cases hk; done)
   rename_i hc
   simp only [if_pos hc]
   obtain ⟨v, h1, h2⟩ := qhK hk
   exact ⟨v, h, fun k' => h1 _, h2⟩
 · obtain ⟨v, h1, h2⟩ := qhK hk
   exact ⟨v, h, fun k' => h1 _, h2⟩
theorem qd5 {x : A} {k : A → Option β} (hk : qbL x h k = some r) : ∃ v, (∀ {γ : Type} (k' : A → Option γ), qbL x h k' = k' v) ∧ k v = some r := by
 unfold qbL at hk ⊢
 split at hk <;> try (cases hk; done)
 split at hk <;> try (cases hk; done)
 exact ⟨_, fun _ => rfl, hk⟩
theorem qk1 {n0 : Nat} {wr : List Nat} {a : A} {k : A → Heap → Option β} (hk : qc3 n0 wr a h k = some r) : ∃ v h', (∀ {γ : Type} (k' : A → Heap → Option γ), qc3 n0 wr a h k' = k' v h') ∧ k v h' = some r := by
 unfold qc3 at hk ⊢
 split at hk <;> try (cases hk; done)
 · split at hk <;> try (cases hk; done)
   rename_i hc
   simp only [if_pos hc]
   obtain ⟨v, h1, h2⟩ := qd5 hk
   exact ⟨v, h, fun k' => h1 _, h2⟩
 · obtain ⟨v, h1, h2⟩ := qd5 hk
   exact ⟨v, h, fun k' => h1 _, h2⟩
 · obtain ⟨v, h1, h2⟩ := qd5 hk
   exact ⟨v, h, fun k' => h1 _, h2⟩
theorem qlR {n0 slot sz b : Nat} {wr : List Nat} {x y : A} {k : A → Heap → Option β} (hk : qb2 n0 wr slot sz b x y h k = some r) : ∃ v h', (∀ {γ : Type} (k' : A → Heap → Option γ), qb2 n0 wr slot sz b x y h k' = k' v h') ∧ k v h' = some r := by
 unfold qb2 at hk ⊢
 split at hk <;> try (cases hk; done)
 · split at hk <;> try (cases hk; done)
   rename_i hc
   simp only [if_pos hc]
   exact qgY hk
 · exact qgY hk
theorem qld {En : String → CallFn} {d : DM} {raw bor : Bool} {f : A} {args : List A} {k kp : A → Heap → Option β} (hk : qbr En (some d) raw bor f args h k kp = some r) :
 ∃ v h', (∀ {γ : Type} (k' kp' : A → Heap → Option γ), qbr En (some d) raw bor f args h k' kp' = k' v h') ∧ k v h' = some r := by
 obtain ⟨name, caps, hf, hk2⟩ := qgp hk
 subst hf
 obtain ⟨v, h', h1, h2⟩ := qiG hk2
 refine ⟨v, h', fun k' kp' => ?_, h2⟩
 rw [← h1 k' kp']
 cases bor with
 | false =>
   cases raw with
   | false => rfl
   | true =>
     cases hst : d.st with
     | true => simp only [qbr, hst] at hk; cases hk
     | false => simp only [qbr, qaX, oCallVF, hst]
 | true =>
   cases hst : d.st with
   | true => cases raw <;> simp only [qbr, hst] at hk <;> cases hk
   | false => cases raw <;> simp only [qbr, qaX, oCallV, hst]
theorem evalH_det {E : FuncId → CallFn} {En : String → CallFn} {raw bor : Bool} {d : DM} {ρ : Operand → A} {op : Op} {k kp : A → Heap → Option β} (hk : evalH P E En raw bor (some d) op ρ h k kp = some r) :
 ∃ v h', (∀ {γ : Type} (k' kp' : A → Heap → Option γ), evalH P E En raw bor (some d) op ρ h k' kp' = k' v h') ∧ k v h' = some r := by
 cases op <;> simp only [evalH] at hk ⊢ <;> try (cases hk; done)
 case load t a =>
  split at hk <;> try (cases hk; done)
  rename_i sh hsh
  obtain ⟨v, h', h1, h2⟩ := oLoadD_det hk
  exact ⟨v, h', fun k' _ => h1 k', h2⟩
 case convert src dst x =>
  split at hk <;> try (cases hk; done)
  · obtain ⟨v, h1, h2⟩ := qlO hk
    exact ⟨v, h, fun k' _ => h1 _, h2⟩
  · split at hk <;> try (cases hk; done)
    obtain ⟨v, h', h1, h2⟩ := qk1 hk
    exact ⟨v, h', fun k' _ => h1 k', h2⟩
 case store t a x =>
  split at hk <;> try (cases hk; done)
  rename_i sh hsh
  cases hst : d.st with
  | true =>
    simp only [hst] at hk
    unfold oStoreD at hk
    split at hk <;> try (cases hk; done)
    rename_i hpa
    split at hk
    · rename_i hc
      obtain ⟨h', h1, h2⟩ := qii hk
      refine ⟨_, h', fun k' _ => ?_, h2⟩
      unfold oStoreD
      rw [hpa]
      simp only
      rw [if_pos hc]; exact h1 _
    · rename_i hc
      split at hk <;> try (cases hk; done)
      rename_i hc2
      obtain ⟨h', h1, h2⟩ := qii hk
      refine ⟨_, h', fun k' _ => ?_, h2⟩
      unfold oStoreD
      rw [hpa]
      simp only
      rw [if_neg hc, if_pos hc2]; exact h1 _
  | false =>
    simp only [hst] at hk
    obtain ⟨h', h1, h2⟩ := qii hk
    exact ⟨_, h', fun k' _ => h1 _, h2⟩
 case alloc t =>
  split at hk <;> try (cases hk; done)
  · rename_i z hz hsh
    split at hk <;> try (cases hk; done)
    obtain ⟨v, h', h1, h2⟩ := ql0 hk
    exact ⟨v, h', fun k' _ => h1 k', h2⟩
  · rename_i z n hz hsh
    obtain ⟨v, h', h1, h2⟩ := ql0 hk
    exact ⟨v, h', fun k' _ => h1 k', h2⟩
 case box t x =>
  split at hk <;> try (cases hk; done)
  rename_i sh hsh
  obtain ⟨v, h', h1, h2⟩ := ql0 hk
  exact ⟨v, h', fun k' _ => h1 k', h2⟩
 case buildSlice t n parts =>
  split at hk <;> try (cases hk; done)
  rename_i e he
  split at hk <;> try (cases hk; done)
  rename_i sz sh hsz hsh
  split at hk <;> try (cases hk; done)
  rename_i hc
  split at hk
  · obtain ⟨v, h', h1, h2⟩ := oNewFz_det hk
    refine ⟨v, h', fun k' _ => ?_, h2⟩
    rw [if_pos hc]; exact h1 k'
  · obtain ⟨v, h', h1, h2⟩ := qfB hk
    refine ⟨v, h', fun k' _ => ?_, h2⟩
    rw [if_pos hc]; exact h1 k'
 case makeSlice t l c =>
  split at hk <;> try (cases hk; done)
  rename_i e he
  split at hk <;> try (cases hk; done)
  rename_i sz z hsz hz
  obtain ⟨v, h', h1, h2⟩ := oMake_det hk
  exact ⟨v, h', fun k' _ => h1 k', h2⟩
 case call c =>
  obtain ⟨callee, args, ts⟩ := c
  cases callee with
  | builtin b =>
    cases b <;> simp only at hk ⊢ <;> try (cases hk; done)
    · split at hk <;> try (cases hk; done)
      rename_i t u x y h1 h2
      split at hk <;> try (cases hk; done)
      rename_i e e2 he he2
      split at hk <;> try (cases hk; done)
      rename_i sz hsz
      split at hk <;> try (cases hk; done)
      rename_i hc
      simp only [if_pos hc]
      cases hst : d.st with
      | true =>
        simp only [hst] at hk
        obtain ⟨v, h', h3, h4⟩ := qgY hk
        exact ⟨v, h', fun k' _ => h3 k', h4⟩
      | false =>
        simp only [hst] at hk
        obtain ⟨v, h', h3, h4⟩ := qlR hk
        exact ⟨v, h', fun k' _ => h3 k', h4⟩
    · split at hk <;> try (cases hk; done)
      rename_i t u x y h1 h2
      split at hk <;> try (cases hk; done)
      rename_i e e2 he he2
      split at hk <;> try (cases hk; done)
      rename_i sz hsz
      obtain ⟨v, h', h3, h4⟩ := oCopy_det hk
      refine ⟨v, h', fun k' _ => ?_, h4⟩
      exact h3 k'
  | invoke _ _ => simp only at hk; cases hk
  | value f =>
    cases f <;> simp only at hk ⊢
    case func g => exact qiG hk
    all_goals exact qld hk
theorem qmi {E : FuncId → CallFn} {En : String → CallFn} {an : FAnn} {d : DM} {o : Oper} {regs : List A} {k kp : A → Heap → Option β} (hk : qbF P E En an (some d) o regs h k kp = some r) :
 ∃ v h', (∀ {γ : Type} (k' kp' : A → Heap → Option γ), qbF P E En an (some d) o regs h k' kp' = k' v h') ∧ k v h' = some r := by
 unfold qbF at hk ⊢
 split at hk
 · obtain ⟨v, h1, h2⟩ := qmj hk
   exact ⟨v, h, fun k' _ => h1 _, h2⟩
 · exact evalH_det hk
end
end Go.Ab
