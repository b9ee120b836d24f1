/-
 OPERATIONS AS STEPS: each hands on one value.
-/
import Derived.Test.YtocnjegcmmfpfaaAbsDrawA
set_option linter.unusedSimpArgs false
set_option linter.unusedVariables false
namespace Go.Ab
open Go
section
variable {P : Program} {β : Type} {r : β}
theorem oPick_det {c : A} {a : A} {b : A} {k : A → Option β} (h : oPick c a b k = some r) : ∃ v, (∀ {γ : Type} (k' : A → Option γ), oPick c a b k' = k' v) ∧ k v = some r := by
 unfold oPick at h ⊢
 (repeat' split at h) <;> first | (cases h; done) | exact ⟨_, fun _ => rfl, h⟩ | (refine ⟨_, fun _ => ?_, h⟩; simp_all; done)
theorem qmJ {off : Nat} {a : A} {k : A → Option β} (h : oFieldA off a k = some r) : ∃ v, (∀ {γ : Type} (k' : A → Option γ), oFieldA off a k' = k' v) ∧ k v = some r := by
 unfold oFieldA at h ⊢
 (repeat' split at h) <;> first | (cases h; done) | exact ⟨_, fun _ => rfl, h⟩ | (refine ⟨_, fun _ => ?_, h⟩; simp_all; done)
theorem oIdxA_det {sz : Nat} {x : A} {i : A} {k : A → Option β} (h : oIdxA sz x i k = some r) : ∃ v, (∀ {γ : Type} (k' : A → Option γ), oIdxA sz x i k' = k' v) ∧ k v = some r := by
 unfold oIdxA at h ⊢
 (repeat' split at h) <;> first | (cases h; done) | exact ⟨_, fun _ => rfl, h⟩ | (refine ⟨_, fun _ => ?_, h⟩; simp_all; done)
theorem qmI {len : Nat} {sz : Nat} {x : A} {i : A} {k : A → Option β} (h : oIdxArr len sz x i k = some r) : ∃ v, (∀ {γ : Type} (k' : A → Option γ), oIdxArr len sz x i k' = k' v) ∧ k v = some r := by
 unfold oIdxArr at h ⊢
 (repeat' split at h) <;> first | (cases h; done) | exact ⟨_, fun _ => rfl, h⟩ | (refine ⟨_, fun _ => ?_, h⟩; simp_all; done)
theorem oField_det {off : Nat} {n : Option Nat} {x : A} {k : A → Option β} (h : oField off n x k = some r) : ∃ v, (∀ {γ : Type} (k' : A → Option γ), oField off n x k' = k' v) ∧ k v = some r := by
 unfold oField at h ⊢
 (repeat' split at h) <;> first | (cases h; done) | exact ⟨_, fun _ => rfl, h⟩ | (refine ⟨_, fun _ => ?_, h⟩; simp_all; done)
theorem oIndex_det {len : Nat} {sz : Nat} {n : Option Nat} {x : A} {i : A} {k : A → Option β} (h : oIndex len sz n x i k = some r) : ∃ v, (∀ {γ : Type} (k' : A → Option γ), oIndex len sz n x i k' = k' v) ∧ k v = some r := by
 unfold oIndex at h ⊢
 (repeat' split at h) <;> first | (cases h; done) | exact ⟨_, fun _ => rfl, h⟩ | (refine ⟨_, fun _ => ?_, h⟩; simp_all; done)
theorem ql1 {x : A} {i : A} {k : A → Option β} (h : qfo x i k = some r) : ∃ v, (∀ {γ : Type} (k' : A → Option γ), qfo x i k' = k' v) ∧ k v = some r := by
 unfold qfo at h ⊢
 (repeat' split at h) <;> first | (cases h; done) | exact ⟨_, fun _ => rfl, h⟩ | (refine ⟨_, fun _ => ?_, h⟩; simp_all; done)
theorem oLen_det {x : A} {k : A → Option β} (h : oLen x k = some r) : ∃ v, (∀ {γ : Type} (k' : A → Option γ), oLen x k' = k' v) ∧ k v = some r := by
 unfold oLen at h ⊢
 (repeat' split at h) <;> first | (cases h; done) | exact ⟨_, fun _ => rfl, h⟩ | (refine ⟨_, fun _ => ?_, h⟩; simp_all; done)
theorem oCap_det {x : A} {k : A → Option β} (h : oCap x k = some r) : ∃ v, (∀ {γ : Type} (k' : A → Option γ), oCap x k' = k' v) ∧ k v = some r := by
 unfold oCap at h ⊢
 (repeat' split at h) <;> first | (cases h; done) | exact ⟨_, fun _ => rfl, h⟩ | (refine ⟨_, fun _ => ?_, h⟩; simp_all; done)
theorem qmH {x : A} {k : A → Option β} (h : oLenStr x k = some r) : ∃ v, (∀ {γ : Type} (k' : A → Option γ), oLenStr x k' = k' v) ∧ k v = some r := by
 unfold oLenStr at h ⊢
 (repeat' split at h) <;> first | (cases h; done) | exact ⟨_, fun _ => rfl, h⟩ | (refine ⟨_, fun _ => ?_, h⟩; simp_all; done)
theorem oSlice_det {sz : Nat} {x : A} {lo : Option A} {hi : Option A} {k : A → Option β} (h : oSlice sz x lo hi k = some r) : ∃ v, (∀ {γ : Type} (k' : A → Option γ), oSlice sz x lo hi k' = k' v) ∧ k v = some r := by
 unfold oSlice at h ⊢
 (repeat' split at h) <;> first | (cases h; done) | exact ⟨_, fun _ => rfl, h⟩ | (refine ⟨_, fun _ => ?_, h⟩; simp_all; done)
theorem qlN {i : Nat} {x : A} {k : A → Option β} (h : qae i x k = some r) : ∃ v, (∀ {γ : Type} (k' : A → Option γ), qae i x k' = k' v) ∧ k v = some r := by
 unfold qae at h ⊢
 (repeat' split at h) <;> first | (cases h; done) | exact ⟨_, fun _ => rfl, h⟩ | (refine ⟨_, fun _ => ?_, h⟩; simp_all; done)
theorem oCmp_det {op : BinOp} {x : A} {y : A} {k : A → Option β} (h : oCmp op x y k = some r) : ∃ v, (∀ {γ : Type} (k' : A → Option γ), oCmp op x y k' = k' v) ∧ k v = some r := by
 unfold oCmp at h ⊢
 (repeat' split at h) <;> first | (cases h; done) | exact ⟨_, fun _ => rfl, h⟩ | (refine ⟨_, fun _ => ?_, h⟩; simp_all; done)
theorem oAr_det {op : BinOp} {x : A} {y : A} {k : A → Option β} (h : oAr op x y k = some r) : ∃ v, (∀ {γ : Type} (k' : A → Option γ), oAr op x y k' = k' v) ∧ k v = some r := by
 unfold oAr at h ⊢
 (repeat' split at h) <;> first | (cases h; done) | exact ⟨_, fun _ => rfl, h⟩ | (refine ⟨_, fun _ => ?_, h⟩; simp_all; done)
theorem oShift_det {op : BinOp} {x : A} {y : A} {k : A → Option β} (h : oShift op x y k = some r) : ∃ v, (∀ {γ : Type} (k' : A → Option γ), oShift op x y k' = k' v) ∧ k v = some r := by
 unfold oShift at h ⊢
 (repeat' split at h) <;> first | (cases h; done) | exact ⟨_, fun _ => rfl, h⟩ | (refine ⟨_, fun _ => ?_, h⟩; simp_all; done)
theorem qmK {n : Bool} {x : A} {y : A} {k : A → Option β} (h : oEqBool n x y k = some r) : ∃ v, (∀ {γ : Type} (k' : A → Option γ), oEqBool n x y k' = k' v) ∧ k v = some r := by
 unfold oEqBool at h ⊢
 (repeat' split at h) <;> first | (cases h; done) | exact ⟨_, fun _ => rfl, h⟩ | (refine ⟨_, fun _ => ?_, h⟩; simp_all; done)
theorem oEqStr_det {n : Bool} {x : A} {y : A} {k : A → Option β} (h : oEqStr n x y k = some r) : ∃ v, (∀ {γ : Type} (k' : A → Option γ), oEqStr n x y k' = k' v) ∧ k v = some r := by
 unfold oEqStr at h ⊢
 (repeat' split at h) <;> first | (cases h; done) | exact ⟨_, fun _ => rfl, h⟩ | (refine ⟨_, fun _ => ?_, h⟩; simp_all; done)
theorem oEqNil_det {n : Bool} {x : A} {y : A} {k : A → Option β} (h : oEqNil n x y k = some r) : ∃ v, (∀ {γ : Type} (k' : A → Option γ), oEqNil n x y k' = k' v) ∧ k v = some r := by
 unfold oEqNil at h ⊢
 (repeat' split at h) <;> first | (cases h; done) | exact ⟨_, fun _ => rfl, h⟩ | (refine ⟨_, fun _ => ?_, h⟩; simp_all; done)
theorem oEqAgg_det {ks : List Bool} {n : Bool} {x : A} {y : A} {k : A → Option β} (h : oEqAgg ks n x y k = some r) : ∃ v, (∀ {γ : Type} (k' : A → Option γ), oEqAgg ks n x y k' = k' v) ∧ k v = some r := by
 unfold oEqAgg at h ⊢
 (repeat' split at h) <;> first | (cases h; done) | exact ⟨_, fun _ => rfl, h⟩ | (refine ⟨_, fun _ => ?_, h⟩; simp_all; done)
theorem oBound_det {n : String} {x : A} {k : A → Option β} (h : oBound n x k = some r) : ∃ v, (∀ {γ : Type} (k' : A → Option γ), oBound n x k' = k' v) ∧ k v = some r := by
 unfold oBound at h ⊢
 split at h <;> first | (rename_i h1; exact ⟨_, fun k' => by rw [if_pos h1], h⟩) | cases h
theorem oNot_det {x : A} {k : A → Option β} (h : oNot x k = some r) : ∃ v, (∀ {γ : Type} (k' : A → Option γ), oNot x k' = k' v) ∧ k v = some r := by
 unfold oNot at h ⊢
 (repeat' split at h) <;> first | (cases h; done) | exact ⟨_, fun _ => rfl, h⟩ | (refine ⟨_, fun _ => ?_, h⟩; simp_all; done)
theorem oNeg_det {x : A} {k : A → Option β} (h : oNeg x k = some r) : ∃ v, (∀ {γ : Type} (k' : A → Option γ), oNeg x k' = k' v) ∧ k v = some r := by
 unfold oNeg at h ⊢
 (repeat' split at h) <;> first | (cases h; done) | exact ⟨_, fun _ => rfl, h⟩ | (refine ⟨_, fun _ => ?_, h⟩; simp_all; done)
theorem qlO {kd : IntKind} {x : A} {k : A → Option β} (h : oConv kd x k = some r) : ∃ v, (∀ {γ : Type} (k' : A → Option γ), oConv kd x k' = k' v) ∧ k v = some r := by
 unfold oConv at h ⊢
 (repeat' split at h) <;> first | (cases h; done) | exact ⟨_, fun _ => rfl, h⟩ | (refine ⟨_, fun _ => ?_, h⟩; simp_all; done)
theorem qkY {x : A} {k : A → Option β} (h : qa0 x k = some r) : ∃ v, (∀ {γ : Type} (k' : A → Option γ), qa0 x k' = k' v) ∧ k v = some r := by
 unfold qa0 at h ⊢
 (repeat' split at h) <;> first | (cases h; done) | exact ⟨_, fun _ => rfl, h⟩ | (refine ⟨_, fun _ => ?_, h⟩; simp_all; done)
theorem oMin_det {x : A} {y : A} {k : A → Option β} (h : oMin x y k = some r) : ∃ v, (∀ {γ : Type} (k' : A → Option γ), oMin x y k' = k' v) ∧ k v = some r := by
 unfold oMin at h ⊢
 split at h <;> try (cases h; done)
 split at h <;> try (cases h; done)
 rename_i hk
 subst hk
 exact ⟨_, fun _ => if_pos rfl, h⟩
theorem oMax_det {x : A} {y : A} {k : A → Option β} (h : oMax x y k = some r) : ∃ v, (∀ {γ : Type} (k' : A → Option γ), oMax x y k' = k' v) ∧ k v = some r := by
 unfold oMax at h ⊢
 split at h <;> try (cases h; done)
 split at h <;> try (cases h; done)
 rename_i hk
 subst hk
 exact ⟨_, fun _ => if_pos rfl, h⟩
theorem qmM {z : List A} {ps : List (Nat × Option Nat × A)} {k : A → Option β} (h : oBuildP z ps k = some r) : ∃ v, (∀ {γ : Type} (k' : A → Option γ), oBuildP z ps k' = k' v) ∧ k v = some r := by
 unfold oBuildP at h ⊢
 (repeat' split at h) <;> first | (cases h; done) | exact ⟨_, fun _ => rfl, h⟩ | (refine ⟨_, fun _ => ?_, h⟩; simp_all; done)
theorem qmU {op : BinOp} {x y : A} {k : A → Option β} (h : evalInt op x y k = some r) : ∃ v, (∀ {γ : Type} (k' : A → Option γ), evalInt op x y k' = k' v) ∧ k v = some r := by
 cases op <;> simp only [evalInt] at h ⊢ <;> first | exact oCmp_det h | exact oAr_det h | exact oShift_det h
theorem qmj {ρ : Operand → A} {op : Op} {k : A → Option β} (h : evalP P op ρ k = some r) : ∃ v, (∀ {γ : Type} (k' : A → Option γ), evalP P op ρ k' = k' v) ∧ k v = some r := by
 cases op <;> simp only [evalP] at h ⊢ <;> try (cases h; done)
 all_goals (repeat' split at h)
 all_goals (try (cases h; done))
 all_goals (try simp only [*, if_true, if_false])
 all_goals first
  | exact ⟨_, fun _ => rfl, h⟩
  | exact oPick_det h
  | exact qmJ h
  | exact oIdxA_det h
  | exact qmI h
  | exact oField_det h
  | exact oIndex_det h
  | exact ql1 h
  | exact oLen_det h
  | exact qmH h
  | exact oCap_det h
  | exact oSlice_det h
  | exact qlN h
  | exact qmU h
  | exact qmK h
  | exact oEqStr_det h
  | exact oEqNil_det h
  | exact oEqAgg_det h
  | exact oNot_det h
  | exact oBound_det h
  | exact oNeg_det h
  | exact qkY h
  | exact oMin_det h
  | exact oMax_det h
  | exact qmM h
end
end Go.Ab
