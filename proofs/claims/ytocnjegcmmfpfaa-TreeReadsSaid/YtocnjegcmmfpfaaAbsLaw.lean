/-
 A STATEMENT'S CALL: what its function comes to where nothing is handed over that may turn.
-/
import Derived.Test.YtocnjegcmmfpfaaAbsTab
set_option linter.unusedSimpArgs false
set_option linter.unusedVariables false
namespace Go.Ab
open Go Go.RowKit
section
variable {P : Program} {w : World}
theorem law_walk {f : FuncId} {D : CallFn} {args : List A} {vs : Array Value} {objs' : Heap} (hD : SoundFn P f D) (hr : D args [] = some (.ok (.s (.bool true)), objs')) (F : Cells) (hF : ∀ b o, F b o → b < w.heap.size)
 (hs : vs.size = args.length) (ha : ∀ i (hi : i < args.length), Fz P w F (vs.getD i undef) args[i]) : Calls P f vs w fun e w' => e = .returned (.bool true) ∧ Below w.heap.size w w' := by
 refine (hD args [] _ objs' hr w F (fun _ => ⟨0, 0, 0, 0⟩) vs (.nil0 hF _) ⟨hs, fun i hi => .pure _ _ (ha i hi)⟩).mono fun e w' he => ?_
 obtain ⟨F', ρ', h', i, t, he⟩ := he
 have hb : Below w.heap.size w w' := t.upd.below fun b o _ hm => by
  obtain ⟨id, ob, h1, _⟩ | ⟨id, kd, es, h1, _⟩ := hm <;> simp at h1
 cases e with
 | returned v =>
   obtain ⟨a, hr, he, _⟩ := he
   cases he
   exact ⟨by rw [hr.s_inv], hb⟩
 | panicked c => obtain ⟨v, a, _, _, he, _⟩ := he; cases he
 | outgrown => exact he.elim
end
end Go.Ab
