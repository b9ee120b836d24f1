/-
 OPERATIONS AS STEPS FROM ONE HEAP TO THE NEXT: what they look at.
-/
import Derived.Test.YtocnjegcmmfpfaaAbsFn
set_option linter.unusedSimpArgs false
set_option linter.unusedVariables false
namespace Go.Ab
open Go
section
variable {P : Program} {β : Type} {r : β}
theorem qfz {place : Nat → Option (Nat × Option Nat × Nat)} {ρ ρ' : Operand → A} : ∀ (l : List (Nat × Operand)), (∀ p ∈ l, ρ p.2 = ρ' p.2) → partsAt place ρ l = partsAt place ρ' l
 | [], _ => rfl
 | (i, x) :: l, h => by
   simp only [partsAt]
   rw [qfz l fun p hp => h p (by simp [hp]), h (i, x) (by simp)]
theorem qmT {ρ ρ' : Operand → A} (op : Op) (h : ∀ x ∈ op.operands, ρ x = ρ' x) (k : A → Option β) : evalP P op ρ k = evalP P op ρ' k := by
 cases op <;> simp only [Op.operands] at h <;> simp only [evalP]
 case build t ps =>
  have hp : ∀ p ∈ ps.toList, ρ p.2 = ρ' p.2 := fun p hp => h _ (by simp; exact ⟨p.1, by simpa using hp⟩)
  split
  · rw [qfz _ hp]
  · split <;> try rfl
    split <;> try rfl
    rw [qfz _ hp]
  · rfl
 case makeFunc fn first captured =>
  cases fn <;> simp only
  have : captured.toList.map ρ = captured.toList.map ρ' := List.map_congr_left fun x hx => h x (by simp; exact .inr (by simpa using hx))
  rw [this]
  split
  · rfl
  · rename_i fnn x hf hx
    have : ρ x = ρ' x := h x (by simp [← Array.mem_toList_iff, hx])
    rw [this]
  · rfl
 case call c =>
  obtain ⟨callee, args, ts⟩ := c
  have ha : ∀ x ∈ args, ρ x = ρ' x := fun x hx => h x (by simp [Call.operands, hx])
  cases callee with
  | builtin b =>
    cases b <;> simp only
    · split
      · rename_i t x h1 h2
        rw [ha x (by exact Array.mem_of_getElem? h2)]
      · rfl
    · split
      · rename_i t x h1 h2
        rw [ha x (by exact Array.mem_of_getElem? h2)]
      · rfl
    · split
      · rename_i x y h1
        rw [ha x (by simp [← Array.mem_toList_iff, h1]), ha y (by simp [← Array.mem_toList_iff, h1])]
      · rfl
    · split
      · rename_i x y h1
        rw [ha x (by simp [← Array.mem_toList_iff, h1]), ha y (by simp [← Array.mem_toList_iff, h1])]
      · rfl
  | invoke _ _ => simp only
  | value _ => simp only
 case slice t x lo hi mx =>
  cases mx with
  | some m => simp only
  | none =>
    have e1 : lo.map ρ = lo.map ρ' := by cases lo <;> simp_all
    have e2 : hi.map ρ = hi.map ρ' := by cases hi <;> simp_all
    simp only [e1, e2, h x (by simp)]
 case unOp u t x => cases u <;> simp only [h x (by simp)]
 all_goals (first | rfl | (simp_all; done))
theorem qmW {E : FuncId → CallFn} {En : String → CallFn} {raw bor : Bool} {dm : Option DM} {ρ ρ' : Operand → A} (op : Op) (h : ∀ x ∈ op.operands, ρ x = ρ' x) (hp : Heap) (k kp : A → Heap → Option β) :
 evalH P E En raw bor dm op ρ hp k kp = evalH P E En raw bor dm op ρ' hp k kp := by
 cases op <;> simp only [Op.operands] at h <;> simp only [evalH]
 case buildSlice t n ps =>
  have hp : ∀ p ∈ ps.toList, ρ p.2 = ρ' p.2 := fun p hp => h _ (by simp; exact ⟨p.1, by simpa using hp⟩)
  have e1 : (ps.toList.map fun (i, x) => (i, ρ x)) = (ps.toList.map fun (i, x) => (i, ρ' x)) := List.map_congr_left fun p hm => by obtain ⟨i, x⟩ := p; simp only [hp (i, x) hm]
  have e2 : (ps.toList.map fun (_, x) => ρ x) = (ps.toList.map fun (_, x) => ρ' x) := List.map_congr_left fun p hm => by obtain ⟨i, x⟩ := p; simp only [hp (i, x) hm]
  simp only [e1, e2]
 case call c =>
  obtain ⟨callee, args, ts⟩ := c
  have ha : ∀ x ∈ args, ρ x = ρ' x := fun x hx => h x (by simp [Call.operands, hx])
  have hm : args.toList.map ρ = args.toList.map ρ' := List.map_congr_left fun x hx => ha x (by simpa using hx)
  cases callee with
  | builtin b =>
    cases b <;> simp only
    · split
      · rename_i t u x y h1 h2
        rw [ha x (by simp [← Array.mem_toList_iff, h2]), ha y (by simp [← Array.mem_toList_iff, h2])]
      · rfl
    · split
      · rename_i t u x y h1 h2
        rw [ha x (by simp [← Array.mem_toList_iff, h2]), ha y (by simp [← Array.mem_toList_iff, h2])]
      · rfl
  | invoke _ _ => simp only
  | value f =>
    have hf : ρ f = ρ' f := h f (by simp [Call.operands])
    cases f <;> simp only [hm, hf]
 all_goals (first | rfl | (simp_all; done))
end
end Go.Ab
