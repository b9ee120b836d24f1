/-
 TABLES: which function stands under which number, and under which name.
-/
import Derived.Test.YtocnjegcmmfpfaaAbsDrawG
set_option linter.unusedSimpArgs false
set_option linter.unusedVariables false
namespace Go.Ab
open Go
section
variable {P : Program}
structure SoundTab (P : Program) (E : FuncId → CallFn) : Prop where
 callable : ∀ f args objs r, E f args objs = some r → qab P f
 sound : ∀ f, SoundFn P f (E f)
structure SoundNames (P : Program) (En : String → CallFn) : Prop where
 callable : ∀ f fn args objs r, P.funcs[f]? = some fn → En fn.name args objs = some r → qab P f
 sound : ∀ f fn, P.funcs[f]? = some fn → SoundFn P f (En fn.name)
theorem SoundFn.none (f : FuncId) : SoundFn P f (fun _ _ => none) := fun _ _ _ _ h => by cases h
theorem SoundTab.nil : SoundTab P (fun _ => fun _ _ => none) := ⟨fun _ _ _ _ h => (by cases h), fun f => SoundFn.none f⟩
theorem SoundTab.cons {n : Nat} {d : CallFn} {E : FuncId → CallFn} (hc : qab P n) (hd : SoundFn P n d) (h : SoundTab P E) : SoundTab P (fun g => if g = n then d else E g) := by
 refine ⟨fun f args objs r hr => ?_, fun f => ?_⟩
 · by_cases hf : f = n
   · subst hf; exact hc
   · rw [if_neg hf] at hr; exact h.callable f args objs r hr
 · by_cases hf : f = n
   · subst hf; rw [if_pos rfl]; exact hd
   · rw [if_neg hf]; exact h.sound f
theorem SoundNames.nil : SoundNames P (fun _ => fun _ _ => none) := ⟨fun _ _ _ _ _ _ h => (by cases h), fun f _ _ => SoundFn.none f⟩
theorem SoundNames.nil' : SoundNames P (fun _ _ _ => none) := SoundNames.nil
def qkX (P : Program) (n : Nat) (s : String) : Bool := P.funcs.toList.zipIdx.all fun x => !(x.1.name == s) || x.2 == n
theorem qhG {n : Nat} {s : String} (h : qkX P n s = true) {f : FuncId} {fn : Func} (hf : P.funcs[f]? = some fn) (hs : fn.name = s) : f = n := by
 unfold qkX at h
 rw [List.all_eq_true] at h
 have := h (fn, f) (by rw [List.mem_zipIdx_iff_getElem?]; simpa using hf)
 simp [hs] at this
 exact this
theorem SoundNames.cons {n : Nat} {s : String} {d : CallFn} {En : String → CallFn} (ho : qkX P n s = true) (hc : qab P n) (hd : SoundFn P n d) (h : SoundNames P En) : SoundNames P (fun m => if m = s then d else En m) := by
 refine ⟨fun f fn args objs r hf hr => ?_, fun f fn hf => ?_⟩
 · by_cases hs : fn.name = s
   · obtain rfl := qhG ho hf hs; exact hc
   · rw [if_neg hs] at hr; exact h.callable f fn args objs r hf hr
 · by_cases hs : fn.name = s
   · obtain rfl := qhG ho hf hs; simp only [hs, if_true]; exact hd
   · simp only [if_neg hs]; exact h.sound f fn hf
theorem fn_ok {E : FuncId → CallFn} {En : String → CallFn} {an : FAnn} {n : Nat} {fn : Func} {X : CallFn} (k : Nat) (hmix : P.follows .mixedOrders = true) (hf : P.funcs[n]? = some fn) (hE : SoundTab P E) (hN : SoundNames P En)
 (h : ∀ args objs, args.length = k → evalF P E En an fn args objs = X args objs) (h0 : ∀ args objs, args.length ≠ k → X args objs = none) : SoundFn P n X := by
 have hs : SoundE P E En := ⟨hE.callable, hE.sound, hN.callable, hN.sound⟩
 intro args objs R objs' hX
 by_cases hk : args.length = k
 · rw [← h args objs hk] at hX
   exact qmX hs (drawSound hmix hs) hf args objs R objs' hX
 · rw [h0 args objs hk] at hX; cases hX
theorem qa7 {n : Nat} {fn : Func} (hf : P.funcs[n]? = some fn) (hb : fn.body.isNone = false) (hn : (fn.name == "runtime.NumGoroutine") = false) : qab P n := ⟨fn, hf, hb, hn⟩
end
end Go.Ab
