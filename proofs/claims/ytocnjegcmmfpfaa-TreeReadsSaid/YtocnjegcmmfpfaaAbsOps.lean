/-
 A REGION IN ITS TEXT'S ORDER.
-/
import Derived.Test.YtocnjegcmmfpfaaAbsStep
set_option linter.unusedSimpArgs false
set_option linter.unusedVariables false
namespace Go.Ab
open Go
section
variable {P : Program} {w w' : World} {F F' : Cells} {ρ ρ' ρ2 : Nat → Reg} {h h' h2 : Heap} {β : Type} {r : β}
structure Same (l : List Nat) (a a' : Act) : Prop where
 size : a'.tmps.size = a.tmps.size
 get : ∀ t, t ∉ l → a'.tmps.getD t undef = a.tmps.getD t undef
 defers : a'.defers = a.defers
theorem Same.refl (l : List Nat) (a : Act) : Same l a a := ⟨rfl, fun _ _ => rfl, rfl⟩
theorem Same.trans {l : List Nat} {a b c : Act} (h : Same l a b) (h' : Same l b c) : Same l a c := ⟨h'.size.trans h.size, fun t ht => (h'.get t ht).trans (h.get t ht), h'.defers.trans h.defers⟩
theorem Same.mono {l l' : List Nat} {a b : Act} (h : Same l a b) (hl : ∀ t ∈ l, t ∈ l') : Same l' a b := ⟨h.size, fun t ht => h.get t fun h => ht (hl t h), h.defers⟩
theorem Same.put (a : Act) (dst : Option Nat) (v : Value) {l : List Nat} (hl : ∀ d, dst = some d → d ∈ l) : Same l a (a.put dst v) := by
 cases dst with
 | none => exact .refl _ _
 | some d =>
   refine ⟨by simp [Act.put], fun t ht => ?_, rfl⟩
   have : d ≠ t := by rintro rfl; exact ht (hl d rfl)
   simp only [Act.put, Array.getD_eq_getD_getElem?]
   rw [Array.getElem?_setIfInBounds_ne this]
theorem qf7 {regs : List A} {dst : Option Nat} {v : A} {t : Nat} (h : ∀ d, dst = some d → d ≠ t) : (putR regs dst v).getD t .any = regs.getD t .any := by
 cases dst with
 | none => rfl
 | some d => simp only [putR, List.getD_eq_getElem?_getD]; rw [List.getElem?_set_ne (h d rfl)]
def KnOk (regs : List A) (kn : List Nat) : Prop := ∀ t ∈ kn, regs.getD t .any = .s undef
theorem KnOk.off {regs : List A} {kn : List Nat} (hk : KnOk regs kn) (dst : Option Nat) (v : A) : KnOk (putR regs dst v) (knOff kn dst) := by
 intro t ht
 cases dst with
 | none => exact hk t ht
 | some d =>
   simp only [knOff, List.mem_filter, Bool.not_eq_true', beq_eq_false_iff_ne, ne_eq] at ht
   rw [qf7 (fun d' h => by cases h; exact fun h => ht.2 h.symm)]
   exact hk t ht.1
theorem KnOk.on {regs : List A} {kn : List Nat} (hk : KnOk regs kn) (dst : Option Nat) : KnOk (putR regs dst (.s undef)) (knOn kn dst regs.length) := by
 have key : ∀ d, ∀ t ∈ kn, (putR regs (some d) (.s undef)).getD t .any = .s undef := by
  intro d t ht
  by_cases htd : d = t
  · subst htd
    by_cases hl : d < regs.length
    · simp [putR, hl]
    · have := hk d ht
      simp only [putR, List.set_eq_of_length_le (Nat.le_of_not_lt hl)]
      exact this
  · rw [qf7 (fun d' h => by cases h; exact htd)]; exact hk t ht
 cases dst with
 | none => exact hk
 | some d =>
   unfold knOn
   intro t ht
   simp only at ht
   split at ht
   · rename_i hl
     simp only [List.mem_cons] at ht
     rcases ht with rfl | ht
     · simp [putR, hl]
     · exact key d t ht
   · exact key d t ht
theorem qiW {regs : List A} {t : Nat} {x : A} (h : regs.getD t .any = x) (hx : x ≠ .any) : regs.set t x = regs := by
 apply List.ext_getElem?
 intro j
 by_cases hj : t = j
 · subst hj
   rw [List.getD_eq_getElem?_getD] at h
   cases hh : regs[t]? with
   | none => rw [hh] at h; simp at h; exact absurd h.symm hx
   | some y =>
     rw [hh] at h; simp at h; subst h
     rw [List.getElem?_set]; simp [(List.getElem?_eq_some_iff.1 hh).1]
 · rw [List.getElem?_set_ne hj]
theorem qjG {c : A} {want : Bool} {yes no : Unit → Option β} (hk : oGuard c want yes no = some r) : (c = .bool want ∧ yes () = some r) ∨ (c = .bool (!want) ∧ no () = some r) := by
 unfold oGuard at hk
 split at hk <;> try (cases hk; done)
 rename_i b
 split at hk
 · rename_i hb; subst hb; exact .inl ⟨rfl, hk⟩
 · rename_i hb
   have : b = !want := by cases b <;> cases want <;> simp_all
   subst this; exact .inr ⟨rfl, hk⟩
theorem qlp {ops : Array Oper} {o : Oper} {j : Nat} {want : Bool} {t : Nat} {tmps : Array Value} (hg : o.guard = some (j, want)) (ht : (ops[j]?).bind (·.dst) = some t) :
 Region.wanted o (yielded ops tmps) = match tmps.getD t undef with | .bool b => b == want | _ => false := by
 simp only [Region.wanted, hg, yielded, ht, Option.bind_some]
 rw [Array.getD_eq_getD_getElem?]
 cases hh : tmps[t]? with
 | none => simp [undef]
 | some v =>
   simp only [Option.getD_some]
   cases v <;> simp
theorem qfE {E : FuncId → CallFn} {En : String → CallFn} {an : FAnn} {ops : Array Oper} {kp : A → Heap → Option β} {Q : Exit → Act → World → Prop} (hE : SoundE P E En) :
 ∀ (is : List Nat) (l : List (Oper × Option DM)) (kn : List Nat) (regs : List A) (h : Heap) (k : List A → Heap → Option β) (a : Act) (w : World) (F : Cells) (ρ : Nat → Reg),
   is.map (ops[·]?) = l.map (fun x => some x.1) → KnOk regs kn → Inv P w F ρ h → RegsRel P w F ρ h a.tmps regs → evalOps P E En an ops kp l kn regs h k = some r →
   (∀ a' w' F' ρ' h' regs', Inv P w' F' ρ' h' → Tr w F ρ h w' F' ρ' h' → RegsRel P w' F' ρ' h' a'.tmps regs' → Same (asgOps (l.map (·.1))) a a' → k regs' h' = some r → Q .normal a' w') →
   (∀ a' w' F' ρ' h' v x, Inv P w' F' ρ' h' → Tr w F ρ h w' F' ρ' h' → Same (asgOps (l.map (·.1))) a a' → Rel P w' F' ρ' h' v x → kp x h' = some r → Q (.panic [{ v, recovered := false }]) a' w') →
   wpOps P ops Q is a w
 | [], l, kn, regs, h, k, a, w, F, ρ, hl, hkn, i, q, hk, hN, hP => by
   cases l with
   | nil => exact hN a w F ρ h regs i (.refl _ _ _ _) q (.refl _ _) hk
   | cons x l => simp at hl
 | j :: is, [], kn, regs, h, k, a, w, F, ρ, hl, hkn, i, q, hk, hN, hP => by simp at hl
 | j :: is, (o, dm) :: l, kn, regs, h, k, a, w, F, ρ, hl, hkn, i, q, hk, hN, hP => by
   simp only [List.map_cons, List.cons.injEq] at hl
   obtain ⟨ho, hl⟩ := hl
   simp only [evalOps] at hk
   have hsub : ∀ d, o.dst = some d → d ∈ asgOps (((o, dm) :: l).map (·.1)) := fun d hd => by simp [asgOps, hd]
   have hsub2 : ∀ t ∈ asgOps (l.map (·.1)), t ∈ asgOps (((o, dm) :: l).map (·.1)) := fun t ht => by
    simp only [asgOps, List.mem_filterMap, List.map_cons, List.mem_cons] at ht ⊢
    obtain ⟨x, hx, hd⟩ := ht
    exact ⟨x, .inr hx, hd⟩
   have act : ∀ (kk : A → Heap → Option β), qbF P E En an dm o regs h kk kp = some r → Region.wanted o (yielded ops a.tmps) = true →
    (∀ v h', kk v h' = evalOps P E En an ops kp l (knOff kn o.dst) (putR regs o.dst v) h' k) → wpOps P ops Q (j :: is) a w := by
    intro kk hs hw hkk
    simp only [wpOps, ho, hw, if_true]
    refine .inl ((qfa hE i q o hs).wp (fun v w' F' ρ' h' x i' t' hr hk' => ?_) fun v w' F' ρ' h' x i' t' hr hk' => hP a w' F' ρ' h' v x i' t' (.refl _ _) hr hk')
    rw [hkk] at hk'
    exact qfE hE is l _ _ h' k (a.put o.dst v) w' F' ρ' hl (hkn.off _ _) i' ((q.step i t').put hr _) hk'
     (fun a' w'' F'' ρ'' h'' regs' i2 t2 q2 s2 hk2 => hN a' w'' F'' ρ'' h'' regs' i2 (t'.trans t2) q2 ((Same.put a o.dst v hsub).trans (s2.mono hsub2)) hk2)
     (fun a' w'' F'' ρ'' h'' v' x' i2 t2 s2 hr2 hk2 => hP a' w'' F'' ρ'' h'' v' x' i2 (t'.trans t2) ((Same.put a o.dst v hsub).trans (s2.mono hsub2)) hr2 hk2)
   have pass : evalOps P E En an ops kp l (knOn kn o.dst regs.length) (putR regs o.dst (.s undef)) h k = some r → Region.wanted o (yielded ops a.tmps) = false → wpOps P ops Q (j :: is) a w := by
    intro hk' hw
    simp only [wpOps, ho, hw, Bool.false_eq_true, if_false]
    exact qfE hE is l _ _ h k (a.put o.dst undef) w F ρ hl (hkn.on _) i (q.put (.s_mk _) _) hk'
     (fun a' w'' F'' ρ'' h'' regs' i2 t2 q2 s2 hk2 => hN a' w'' F'' ρ'' h'' regs' i2 t2 q2 ((Same.put a o.dst undef hsub).trans (s2.mono hsub2)) hk2)
     (fun a' w'' F'' ρ'' h'' v' x' i2 t2 s2 hr2 hk2 => hP a' w'' F'' ρ'' h'' v' x' i2 t2 ((Same.put a o.dst undef hsub).trans (s2.mono hsub2)) hr2 hk2)
   split at hk
   · rename_i hg
     exact act _ hk (by simp [Region.wanted, hg]) fun _ _ => rfl
   · rename_i g want hg
     split at hk <;> try (cases hk; done)
     rename_i t ht
     have hwt := qlp (tmps := a.tmps) hg ht
     have hrt := q.rel t
     split at hk
     · rename_i hc
       rw [hkn t (by simpa using hc)] at hrt
       rw [hrt.s_inv] at hwt
       exact pass hk (by rw [hwt]; rfl)
     · rcases qjG hk with ⟨hb, hk⟩ | ⟨hb, hk⟩
       · rw [hb] at hrt
         rw [hrt.s_inv] at hwt
         have hset := qiW hb (by simp)
         rw [hset] at hk
         exact act _ hk (by rw [hwt]; simp) fun v h' => rfl
       · rw [hb] at hrt
         rw [hrt.s_inv] at hwt
         have hset := qiW hb (by simp)
         rw [hset] at hk
         exact pass hk (by rw [hwt]; cases want <;> rfl)
theorem qlD {E : FuncId → CallFn} {En : String → CallFn} {an : FAnn} {id : Nat} {ops : Array Oper} {kp : A → Heap → Option β} {Q : Exit → Act → World → Prop} (hE : SoundE P E En)
 {regs : List A} {k : List A → Heap → Option β} {a : Act} (i : Inv P w F ρ h) (q : RegsRel P w F ρ h a.tmps regs) (hk : evalOps P E En an ops kp (ops.toList.map fun o => (o, none)) [] regs h k = some r)
 (hN : ∀ a' w' F' ρ' h' regs', Inv P w' F' ρ' h' → Tr w F ρ h w' F' ρ' h' → RegsRel P w' F' ρ' h' a'.tmps regs' → Same (asgOps ops.toList) a a' → k regs' h' = some r → Q .normal a' w')
 (hP : ∀ a' w' F' ρ' h' v x, Inv P w' F' ρ' h' → Tr w F ρ h w' F' ρ' h' → Same (asgOps ops.toList) a a' → Rel P w' F' ρ' h' v x → kp x h' = some r → Q (.panic [{ v, recovered := false }]) a' w') :
 (Code.region id ops false).wp P Q a w := by
 have hm : (ops.toList.map fun o => ((o, none) : Oper × Option DM)).map (·.1) = ops.toList := by simp [Function.comp_def]
 refine wp_region (qfE hE (List.range ops.size) _ [] regs h k a w F ρ ?_ (fun t ht => by simp at ht) i q hk ?_ ?_)
 · apply List.ext_getElem?
   intro j
   simp only [List.getElem?_map, List.getElem?_range']
   by_cases hj : j < ops.size
   · simp [hj]
   · simp [hj]
 · rw [hm]; exact hN
 · rw [hm]; exact hP
end
end Go.Ab
