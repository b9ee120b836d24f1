/-
 slices.Grow OF A NIL SLICE: an empty slice with room.
-/
import Derived.Test.YtocnjegcmmfpfaaAbsDel
set_option linter.unusedSimpArgs false
set_option linter.unusedVariables false
namespace Go.Ab
open Go
section
variable {P : Program} {w w' : World} {F F' : Cells} {ρ ρ' : Nat → Reg} {h h' : Heap}
theorem arr2 {vs : Array Value} (h : vs.size = 2) : ∃ v0 v1, vs = #[v0, v1] := by
 obtain ⟨l⟩ := vs
 match l, h with
 | [a, b], _ => exact ⟨a, b, rfl⟩
theorem qnx {Q : Exit → Act → World → Prop} {a : Act} {d : Option Tmp} {ty : TypeId} {pos : String} {af : Array Edge} {l : List Oper} {t t2 : TypeId} {x y : Operand} {m n : Int} (hx : a.eval x = .int .i64 m) (hy : a.eval y = .int .i64 n) (h : wpL P Q l (a.put d (.bool (decide (m < n)))) w) :
 wpL P Q (⟨d, .binOp .lss t x y t2, ty, pos, af, none⟩ :: l) a w := by
 have e2 : (binOp .lss t (.int .i64 m) (.int .i64 n)).run P w = .ok (.bool (decide (m < n))) w := by simp [binOp, Op.intCmp]
 have e1 : eqGuard .lss t x y (.int .i64 m) (.int .i64 n) = pure () := rfl
 simp only [wpL, Oper.wp, execOp, hx, hy, e1, e2, Sem.run_bind, Sem.run_pure, Result.andThen_ok]
 exact h
theorem qho {t e : TypeId} {ie : TypeInfo} (hu : P.underlying t = some (.slice e)) (hie : P.info? e = some ie) :
 (Instr.sliceAt t (.slice none 0 0) none (some (.int .i64 0)) none).run P w = .ok (.slice none 0 0) w := by
 have hb := qit (w := w) (P := P) (k := .i64) (x := 0) (n := 0) (c := 0) (by omega) (by omega)
 simp [Instr.sliceAt, Instr.slice, run_underlying hu, hb, qac hie]
theorem Inv.room (i : Inv P w F ρ h) {sz nc : Nat} {e : TypeId} {vs : Array Value} (hs : 0 < sz) (hn : vs.size = nc * sz) :
 ∃ ρ', Inv P { w with drawn := w.drawn + 1, heap := w.heap.push (.cells vs e) } F ρ' (h ++ [.live ⟨0, sz, []⟩]) ∧
   Tr w F ρ h { w with drawn := w.drawn + 1, heap := w.heap.push (.cells vs e) } F ρ' (h ++ [.live ⟨0, sz, []⟩]) ∧
   Rel P { w with drawn := w.drawn + 1, heap := w.heap.push (.cells vs e) } F ρ' (h ++ [.live ⟨0, sz, []⟩]) (.slice (some ⟨w.heap.size, 0, none⟩) 0 nc) (.osl h.length 0 sz 0 0) := by
 have hp : place none h ⟨0, sz, []⟩ = some (h.length, h ++ [.live ⟨0, sz, []⟩]) := rfl
 obtain ⟨q1, q2⟩ := i.fresh (w' := { w with drawn := w.drawn + 1 }) hp (fun _ _ => rfl) (qbV _ _) rfl (e := e) (vs := []) (rest := vs) (cap := nc) (by simpa using hn) hs (by simp) (by simp) ⟨rfl, fun j v c hv => by simp at hv⟩
 simp only [List.nil_append] at q1 q2
 have hv : (#[] : Array Value) ++ vs = vs := by simp
 rw [hv] at q1 q2
 obtain ⟨l1, l2⟩ := qeI hp
 refine ⟨_, q1, q2, .osl _ _ _ h.length 0 sz 0 l2 (fun s hs he => ?_) (by simp) (fun _ => ⟨_, rfl⟩) fun ob hob => ?_⟩
 · rw [l1] at hs; cases hs; cases he
 · rw [l1] at hob; cases hob
   refine ⟨Nat.le_refl _, fun _ => ⟨by simp, fun _ => by simp⟩⟩
end
end Go.Ab
