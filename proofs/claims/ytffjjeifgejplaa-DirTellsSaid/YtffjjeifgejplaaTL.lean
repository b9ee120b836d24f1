/-
  LOOPS BY INVARIANTS.
-/
import Derived.Test.YtffjjeifgejplaaTBase
set_option linter.unusedSimpArgs false
set_option linter.unusedVariables false
namespace Go.Ab
open Go

theorem iter_inv {τ ρ : Type} {step : τ → Option (τ ⊕ ρ)} {I : Nat → τ → Prop} {Q : ρ → Prop} (n : Nat)
    (hin : ∀ i s, i < n → I i s → (∃ s', step s = some (.inl s') ∧ I (i + 1) s') ∨ (∃ q, step s = some (.inr q) ∧ Q q))
    (hout : ∀ s, I n s → ∃ q, step s = some (.inr q) ∧ Q q) :
    ∀ (d i m : Nat) (s : τ), i + d = n → d < m → I i s → ∃ q, iterN step m s = some q ∧ Q q := by
  intro d
  induction d with
  | zero =>
    intro i m s hi hm hI
    obtain ⟨m, rfl⟩ : ∃ k, m = k + 1 := ⟨m - 1, by omega⟩
    obtain rfl : i = n := by omega
    obtain ⟨q, hq, h⟩ := hout s hI
    exact ⟨q, by simp [iterN, hq], h⟩
  | succ d ih =>
    intro i m s hi hm hI
    obtain ⟨m, rfl⟩ : ∃ k, m = k + 1 := ⟨m - 1, by omega⟩
    rcases hin i s (by omega) hI with ⟨s', h1, h2⟩ | ⟨q, h1, h2⟩
    · obtain ⟨q, hq, h⟩ := ih (i + 1) m s' (by omega) (by omega) h2
      exact ⟨q, by simp [iterN, h1, hq], h⟩
    · exact ⟨q, by simp [iterN, h1], h2⟩

/-- The law of a loop of at most n rounds, by an invariant. -/
theorem oLoop_inv {β : Type} {step : List A × Heap → Option ((List A × Heap) ⊕ (Ex × List A × Heap))} {s0 : List A × Heap} {k : Ex → List A → Heap → Option β}
    (I : Nat → List A × Heap → Prop) (Q : Ex × List A × Heap → Prop) (n : Nat) (h0 : I 0 s0) (hn : n < 2 ^ 63)
    (hin : ∀ i s, i < n → I i s → (∃ s', step s = some (.inl s') ∧ I (i + 1) s') ∨ (∃ q, step s = some (.inr q) ∧ Q q))
    (hout : ∀ s, I n s → ∃ q, step s = some (.inr q) ∧ Q q) :
    ∃ q, Q q ∧ oLoop step s0 k = k q.1 q.2.1 q.2.2 := by
  obtain ⟨q, hq, h⟩ := iter_inv n hin hout n 0 big s0 (by omega) (by rw [big_eq]; omega) h0
  exact ⟨q, h, by unfold oLoop; rw [hq]⟩
theorem oLoop_inv' {step : List A × Heap → Option ((List A × Heap) ⊕ (Ex × List A × Heap))} {s0 : List A × Heap}
    (I : Nat → List A × Heap → Prop) (Q : Ex × List A × Heap → Prop) (n : Nat) (h0 : I 0 s0) (hn : n < 2 ^ 63)
    (hin : ∀ i s, i < n → I i s → (∃ s', step s = some (.inl s') ∧ I (i + 1) s') ∨ (∃ q, step s = some (.inr q) ∧ Q q))
    (hout : ∀ s, I n s → ∃ q, step s = some (.inr q) ∧ Q q) :
    ∃ q, Q q ∧ ∀ {β : Type} (k : Ex → List A → Heap → Option β), oLoop step s0 k = k q.1 q.2.1 q.2.2 := by
  obtain ⟨q, hq, h⟩ := iter_inv n hin hout n 0 big s0 (by omega) (by rw [big_eq]; omega) h0
  exact ⟨q, h, fun k => by unfold oLoop; rw [hq]⟩

theorem wrap_u64 {n : Int} (h0 : 0 ≤ n) (h1 : n < 18446744073709551616) : IntKind.u64.wrap n = n := by
  have key : IntKind.u64.wrap n = n % 18446744073709551616 := by
    simp [IntKind.wrap, IntKind.bits, IntKind.signed]
  rw [key]; omega
/-- A join of two bare truths. -/
@[simp] theorem ite_normal (c : Prop) [Decidable c] (x y : Bool) (h : Heap) :
    (if c then some (Ex.normal, [A.s (.bool x)], h) else some (Ex.normal, [A.s (.bool y)], h)) = some (Ex.normal, [A.s (.bool (if c then x else y))], h) := by split <;> rfl
@[simp] theorem notSlice_int (kd : IntKind) (n : Int) : notSlice (.int kd n) = true := _root_.id rfl
@[simp] theorem notSlice_bool (b : Bool) : notSlice (.bool b) = true := _root_.id rfl
@[simp] theorem notSlice_string (b : ByteArray) : notSlice (.string b) = true := _root_.id rfl
@[simp] theorem notSlice_ptr : notSlice (.pointer none) = true := _root_.id rfl
@[simp] theorem pureA_s (v : Value) : pureA (.s v) = notSlice v := _root_.id rfl
@[simp] theorem oFrz_pure' (a : A) (h : Heap) {β : Type} (k : A → Heap → Option β) (hp : pureA a = true) : oFrz a h k = k a h := oFrz_pure a h k hp
end Go.Ab
