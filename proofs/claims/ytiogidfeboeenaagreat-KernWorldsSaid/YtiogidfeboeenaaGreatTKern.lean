/-
  KERN: all things in the beginning, of any quota.
-/
import Derived.Test.YtiogidfeboeenaaGreatFnF
import Derived.Test.YtiogidfeboeenaaGreatAbsSimp
import Derived.KernelRfl
set_option linter.unusedSimpArgs false
set_option linter.unusedVariables false
namespace Go.Ab.T
open Go Go.Ab Go.Ab.F

def tru : Option (Out × Heap) → Bool
  | some (.ok (.s (.bool true)), []) => true
  | _ => false
theorem tru_eq {x : Option (Out × Heap)} (h : tru x = true) : x = some (.ok (.s (.bool true)), []) := by
  unfold tru at h
  split at h
  · rfl
  · cases h

set_option maxRecDepth 100000 in
theorem worlds_all : ((List.range 49).all fun n => tru (law20_KernWorlds [.s (.int .i64 (n : Nat))] [])) = true := by kernel_rfl
theorem worlds_nat (n : Nat) (h : n < 49) : law20_KernWorlds [.s (.int .i64 n)] [] = some (.ok (.s (.bool true)), []) :=
  tru_eq (List.all_eq_true.1 worlds_all n (List.mem_range.2 h))

theorem lend_congr {F : CallFn} {a b : Value} (h : F [.s a] [] = F [.s b] []) (ha : pureA (.s a) = true) (hb : pureA (.s b) = true) {β : Type} (H : Heap) (kp k : A → Heap → Option β) : oLend F [.s a] H kp k = oLend F [.s b] H kp k := by
  have hl : ∀ v : Value, pureA (.s v) = true → lendL lendFuel [A.s v] (if (idsL [A.s v]).isEmpty = true then [] else H) = some [.s v] := fun v hv => lendL_pure 999 _ _ (by simp [pureL, hv])
  unfold oLend
  rw [hl a ha, hl b hb]
  simp only [h]
  rfl

theorem kern_World_out (q : Int) (h : q < 4 ∨ 48 < q) : kern_World [.s (.int .i64 q)] [] = kern_World [.s (.int .i64 3)] [] := by
  have h3 : kern_World [.s (.int .i64 3)] [] = some (.ok (.tup [.s (.slice none 0 0), .s (.int .i64 205)]), []) := by kernel_rfl
  rw [h3]
  by_cases h1 : q < 4
  · simp [kern_World, kern_World_k1, h1, trim, allBelow, finish_val]
  · have h2 : 48 < q := by omega
    simp [kern_World, kern_World_k1, h1, h2, trim, allBelow, finish_val]
theorem ref20_World_out (q : Int) (h : q < 4 ∨ 48 < q) : ref20_World [.s (.int .i64 q)] [] = ref20_World [.s (.int .i64 3)] [] := by
  have h3 : ref20_World [.s (.int .i64 3)] [] = some (.ok (.tup [.s (.slice none 0 0), .s (.int .i64 205)]), []) := by kernel_rfl
  rw [h3]
  by_cases h1 : q < 4
  · simp [ref20_World, ref20_World_k1, h1, trim, allBelow, finish_val]
  · have h2 : 48 < q := by omega
    simp [ref20_World, ref20_World_k1, h1, h2, trim, allBelow, finish_val]

theorem KernWorlds_v (q : Int) {P : Prop} (_w : P) : law20_KernWorlds [.s (.int .i64 q)] [] = some (.ok (.s (.bool true)), []) := by
  by_cases h : 0 ≤ q ∧ q < 49
  · obtain ⟨n, rfl⟩ : ∃ n : Nat, q = n := ⟨q.toNat, by omega⟩
    exact worlds_nat n (by omega)
  · have ho : q < 4 ∨ 48 < q := by omega
    have e1 := fun {β : Type} (H : Heap) (kp k : A → Heap → Option β) => lend_congr (kern_World_out q ho) rfl rfl H kp k
    have e2 := fun {β : Type} (H : Heap) (kp k : A → Heap → Option β) => lend_congr (ref20_World_out q ho) rfl rfl H kp k
    have : law20_KernWorlds [.s (.int .i64 q)] [] = law20_KernWorlds [.s (.int .i64 3)] [] := by
      simp only [law20_KernWorlds, e1, e2]
    rw [this]
    exact worlds_nat 3 (by omega)
end Go.Ab.T
