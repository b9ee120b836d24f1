/-
 A FUNCTION.
-/
import Derived.Test.YtocnjegcmmfpfaaAbsCode
set_option linter.unusedSimpArgs false
set_option linter.unusedVariables false
namespace Go.Ab
open Go
section
variable {P : Program} {w w' : World} {F F' : Cells} {ρ ρ' ρ2 : Nat → Reg} {h h' h2 : Heap} {β : Type} {r : β}
def resOne (tmps : Array Value) : ResultVar → Sem Value
 | .tmp t => pure (tmps.getD t undef)
 | .cell a t => do loadVar t (← asAddr (tmps.getD a undef))
theorem qfb {tmps : Array Value} {regs : List A} (i : Inv P w F ρ h) (q : RegsRel P w F ρ h tmps regs) : ∀ (rs : List ResultVar) (k : List A → Option β), qdS P regs h rs k = some r →
 ∃ vs as, (rs.mapM (resOne tmps)).run P w = .ok vs w ∧ vs.length = as.length ∧ (∀ (j : Nat) v x, vs[j]? = some v → as[j]? = some x → Rel P w F ρ h v x) ∧ k as = some r
 | [], k, hk => ⟨[], [], by simp, rfl, fun j v x hv => by simp at hv, hk⟩
 | .tmp t :: rs, k, hk => by
   simp only [qdS] at hk
   obtain ⟨vs, as, h1, h2, h3, h4⟩ := qfb i q rs _ hk
   refine ⟨tmps.getD t undef :: vs, regs.getD t .any :: as, by simp [List.mapM_cons, resOne, h1], by simp [h2], fun j v x hv hx => ?_, h4⟩
   cases j with
   | zero => simp only [List.getElem?_cons_zero, Option.some.injEq] at hv hx; subst hv; subst hx; exact q.rel t
   | succ j => exact h3 j v x (by simpa using hv) (by simpa using hx)
 | .cell a t :: rs, k, hk => by
   simp only [qdS] at hk
   split at hk <;> try (cases hk; done)
   rename_i sh hsh
   obtain ⟨x, v, b, hva, h1, h2, h3⟩ := qhk i hsh (q.rel a) hk
   obtain ⟨vs, as, g1, g2, g3, g4⟩ := qfb i q rs _ h3
   refine ⟨v :: vs, b :: as, by simp [List.mapM_cons, resOne, hva, asAddr, h1, g1], by simp [g2], fun j v' x' hv hx => ?_, g4⟩
   cases j with
   | zero => simp at hv hx; subst hv; subst hx; exact h2
   | succ j => exact g3 j v' x' (by simpa using hv) (by simpa using hx)
theorem qkH {fn : Func} {tmps : Array Value} {regs : List A} {k : List A → Option β} (i : Inv P w F ρ h) (q : RegsRel P w F ρ h tmps regs) (hk : qdS P regs h fn.results.toList k = some r) :
 ∃ v as, (results fn tmps).run P w = .ok v w ∧ Rel P w F ρ h v (qj2 as) ∧ k as = some r := by
 obtain ⟨vs, as, h1, h2, h3, h4⟩ := qfb i q _ _ hk
 have hm : (fn.results.mapM (resOne tmps)).run P w = .ok vs.toArray w := by
  rw [Array.mapM_eq_mapM_toList]; simp [h1]
 have hres : (results fn tmps).run P w = .ok (if h : vs.toArray.size = 1 then vs.toArray[0] else .tuple vs.toArray) w := by
  show Sem.run P (do let vs ← fn.results.mapM (resOne tmps); pure (if h : vs.size = 1 then vs[0] else .tuple vs)) w = _
  rw [Sem.run_bind, hm]
  rfl
 refine ⟨_, as, hres, ?_, h4⟩
 match vs, as, h2, h3 with
 | [], [], _, _ => exact .s_mk _
 | [v], [x], _, h3 => exact h3 0 v x rfl rfl
 | v :: v2 :: vs, x :: x2 :: as, h2, h3 =>
   simp only [List.size_toArray, List.length_cons]
   rw [dif_neg (by omega)]
   refine .tup _ _ (by simpa using h2) fun j hj => ?_
   have hj' : j < (v :: v2 :: vs).length := by rw [h2]; exact hj
   have := h3 j _ _ (List.getElem?_eq_getElem hj') (List.getElem?_eq_getElem hj)
   simpa [Array.getD_eq_getD_getElem?, List.getElem?_eq_getElem hj'] using this
theorem qmX {E : FuncId → CallFn} {En : String → CallFn} {an : FAnn} {f : FuncId} {fn : Func} (hE : SoundE P E En) (hD : qjU P E En) (hf : P.funcs[f]? = some fn) : SoundFn P f (evalF P E En an fn) := by
 intro args objs R objs' hk w F ρ vs i ha
 unfold evalF at hk
 split at hk <;> try (cases hk; done)
 rename_i body hb
 refine calls_of_wp hf hb (qmY hE hD body 0 _ objs _ (R, objs') _ w F ρ _ i ⟨by simp [ha.1], fun t => ?_⟩ hk fun e regs' X a' w' F' ρ' h' i2 t2 s2 e2 k2 => ?_)
 · by_cases ht : t < args.length
   · have := ha.2 t ht
     have ht' : t < vs.size := by rw [ha.1]; exact ht
     rw [List.getD_eq_getElem?_getD, List.getElem?_append_left ht, List.getElem?_eq_getElem ht]
     rw [Array.getD_eq_getD_getElem?, Array.getElem?_append_left ht', ← Array.getD_eq_getD_getElem?]
     exact this
   · rw [List.getD_eq_getElem?_getD, List.getElem?_append_right (by omega)]
     rw [List.getElem?_replicate]
     split <;> exact .any _
 · have hd : a'.defers = [] := s2.defers
   have ret : RegsRel P w' F' ρ' h' a'.tmps regs' → (qdS P regs' h' fn.results.toList fun vs => finish objs.length (.ok (qj2 vs)) h') = some (R, objs') →
    ∃ v, (results fn a'.tmps).run P w' = .ok v w' ∧ CEnd P w F ρ objs (fun a h' => R = .ok a ∧ h' = objs') (fun a h' => R = .pan a ∧ h' = objs') (.returned v) w' := by
    intro q2 k2
    obtain ⟨v, as, h1, h2, h3⟩ := qkH i2 q2 k2
    obtain ⟨ids, ρ3, i3, t3, n3, r3⟩ := qiD i2 t2 h3
    simp only [renOut, Option.map_eq_some_iff] at r3
    obtain ⟨x, r3, rfl⟩ := r3
    exact ⟨v, h1, F', ρ3, objs', i3, t3, x, h2.ren n3 r3, rfl, rfl⟩
   cases e with
   | normal => obtain ⟨rfl, q2⟩ := e2; exact ⟨hd, ret q2 k2⟩
   | ret => obtain ⟨rfl, q2⟩ := e2; exact ⟨hd, ret q2 k2⟩
   | exit id => simp [endK] at k2
   | panic x =>
     obtain ⟨v, rfl, r2⟩ := e2
     simp only [endK] at k2
     obtain ⟨ids, ρ3, i3, t3, n3, r3⟩ := qiD i2 t2 k2
     simp only [renOut, Option.map_eq_some_iff] at r3
     obtain ⟨y, r3, rfl⟩ := r3
     exact ⟨hd, F', ρ3, objs', i3, t3, v, y, rfl, r2.ren n3 r3, rfl, rfl⟩
end
end Go.Ab
