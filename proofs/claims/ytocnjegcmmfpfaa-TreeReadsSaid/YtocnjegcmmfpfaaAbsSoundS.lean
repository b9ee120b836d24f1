/-
 WHATEVER LOOKS AT VALUES ALONE: what the abstract machine makes of it the machine makes of it.
-/
import Derived.Test.YtocnjegcmmfpfaaAbsSoundR
set_option linter.unusedSimpArgs false
set_option linter.unusedVariables false
namespace Go.Ab
open Go
section
variable {P : Program} {w : World} {F : Cells} {ρ : Nat → Reg} {hp : Heap} {β : Type} {r : β} {k : A → Option β}
theorem sound_len {t : TypeId} {x : A} {vx : Value} {d : TypeDesc} (hu : P.underlying t = some d) (hd : ∃ e, d = .slice e) (hx : Rel P w F ρ hp vx x) (h : oLen x k = some r) (ts : Array TypeId) (ty : TypeId) (hts : ts[0]? = some t) (args : Array Value) (ha : args[0]? = some vx) :
 Yld P w F ρ hp (Builtin.len_ ts ty args) k r := by
 obtain ⟨e, rfl⟩ := hd
 unfold oLen at h
 split at h <;> try (cases h; done)
 · obtain ⟨a, c, rfl, _⟩ := hx.osl_inv
   exact ⟨_, _, by simp [Builtin.len_, hts, ha, run_underlying hu, goInt], .s_mk _, h⟩
 · obtain ⟨a, c, b, o, vs, rfl, _⟩ := hx.fsl_inv
   exact ⟨_, _, by simp [Builtin.len_, hts, ha, run_underlying hu, goInt], .s_mk _, h⟩
 · obtain rfl := hx.s_inv
   exact ⟨_, _, by simp [Builtin.len_, hts, ha, run_underlying hu, goInt], .s_mk _, h⟩
theorem qlt {t : TypeId} {x : A} {vx : Value} (hu : P.underlying t = some .string) (hx : Rel P w F ρ hp vx x) (h : oLenStr x k = some r) (ts : Array TypeId) (ty : TypeId) (hts : ts[0]? = some t) (args : Array Value) (ha : args[0]? = some vx) :
 Yld P w F ρ hp (Builtin.len_ ts ty args) k r := by
 unfold oLenStr at h
 split at h <;> try (cases h; done)
 obtain rfl := hx.s_inv
 exact ⟨_, _, by simp [Builtin.len_, hts, ha, run_underlying hu, goInt], .s_mk _, h⟩
theorem sound_cap {t : TypeId} {x : A} {vx : Value} {d : TypeDesc} (hu : P.underlying t = some d) (hd : ∃ e, d = .slice e) (hx : Rel P w F ρ hp vx x) (h : oCap x k = some r) (ts : Array TypeId) (ty : TypeId) (hts : ts[0]? = some t) (args : Array Value) (ha : args[0]? = some vx) :
 Yld P w F ρ hp (Builtin.cap_ ts ty args) k r := by
 obtain ⟨e, rfl⟩ := hd
 unfold oCap at h
 split at h <;> try (cases h; done)
 obtain rfl := hx.s_inv
 exact ⟨_, _, by simp [Builtin.cap_, hts, ha, run_underlying hu, goInt], .s_mk _, h⟩
theorem Yld.next {s : Sem Value} (y : Yld P w F ρ hp s k r) : ∃ v a, ((do pure (Next.value (← s)) : Sem Next)).run P w = .ok (.value v) w ∧ Rel P w F ρ hp v a ∧ k a = some r := by
 obtain ⟨v, a, h1, h2, h3⟩ := y
 exact ⟨v, a, by simp [h1], h2, h3⟩
theorem qmS {ρA : Operand → A} {ρC : Operand → Value} (hρ : ∀ x, Rel P w F ρ hp (ρC x) (ρA x)) (o : Oper) (h : evalP P o.op ρA k = some r) :
 ∃ v a, (execOp ρC o).run P w = .ok (.value v) w ∧ Rel P w F ρ hp v a ∧ k a = some r := by
 obtain ⟨dst, op, type, pos, after, guard⟩ := o
 simp only at h
 cases op <;> simp only [evalP] at h <;> try (cases h; done)
 case move x => exact ⟨_, _, rfl, hρ x, h⟩
 case assign x => exact ⟨_, _, rfl, hρ x, h⟩
 case pick c a b =>
  obtain ⟨v, a', h1, h2, h3⟩ := sound_pick (hρ c) (hρ a) (hρ b) h
  refine ⟨v, a', ?_, h2, h3⟩
  simp only [execOp]
  cases hc : ρC c <;> simp [asBool, hc] at h1 ⊢
  exact h1
 case fieldAddr s x f =>
  split at h <;> try (cases h; done)
  rename_i off sh n hf
  exact (qlv hf (hρ x) h).next
 case field s x f =>
  split at h <;> try (cases h; done)
  rename_i off sh n hf
  exact (qmz hf (hρ x) h).next
 case indexAddr t x i =>
  split at h <;> try (cases h; done)
  · rename_i e hu
    split at h <;> try (cases h; done)
    rename_i sz he
    exact (sound_idxA hu he (hρ x) (hρ i) h).next
  · rename_i n e hu
    split at h <;> try (cases h; done)
    rename_i sz he
    exact (qlu hu he (hρ x) (hρ i) h).next
 case index t x i =>
  split at h <;> try (cases h; done)
  · rename_i n e hu
    split at h <;> try (cases h; done)
    rename_i sz sh he hsh
    exact (qmy hu he hsh (hρ x) (hρ i) h).next
  · rename_i hu
    exact (qjV hu (hρ x) (hρ i) h).next
 case extract x i => exact (qkD (hρ x) h).next
 case slice t x lo hi mx =>
  cases mx with
  | some m => simp at h
  | none =>
    simp only at h
    split at h <;> try (cases h; done)
    rename_i e hu
    split at h <;> try (cases h; done)
    rename_i sz he
    exact (qmx hu he (hρ x) (fun y hy => by
     cases lo with
     | none => simp at hy
     | some l => simp at hy; subst hy; exact ⟨_, rfl, hρ l⟩) (fun hn => by cases lo <;> simp_all)
     (fun y hy => by
      cases hi with
      | none => simp at hy
      | some l => simp at hy; subst hy; exact ⟨_, rfl, hρ l⟩) (fun hn => by cases hi <;> simp_all) h).next
 case binOp op t x y ty =>
  have hb : ∀ {s : Sem Value}, s = (do eqGuard op t x y (ρC x) (ρC y); binOp op t (ρC x) (ρC y)) → Yld P w F ρ hp s k r → ∃ v a, (execOp ρC ⟨dst, .binOp op t x y ty, type, pos, after, guard⟩).run P w = .ok (.value v) w ∧ Rel P w F ρ hp v a ∧ k a = some r := by
   intro s hs y
   subst hs
   exact y.next
  split at h <;> try (cases h; done)
  · cases op <;> simp only [evalInt] at h
    case shl => exact hb rfl (qjc (.inl rfl) (hρ x) (hρ y) h x y)
    case shr => exact hb rfl (qjc (.inr rfl) (hρ x) (hρ y) h x y)
    case eql => exact hb rfl (qfh (by simp) (hρ x) (hρ y) h x y)
    case neq => exact hb rfl (qfh (by simp) (hρ x) (hρ y) h x y)
    case lss => exact hb rfl (qfh (by simp) (hρ x) (hρ y) h x y)
    case leq => exact hb rfl (qfh (by simp) (hρ x) (hρ y) h x y)
    case gtr => exact hb rfl (qfh (by simp) (hρ x) (hρ y) h x y)
    case geq => exact hb rfl (qfh (by simp) (hρ x) (hρ y) h x y)
    all_goals exact hb rfl (sound_ar (hρ x) (hρ y) h x y)
  · rename_i hu
    cases op <;> simp only at h <;> try (cases h; done)
    · exact hb rfl (qir (neq := false) hu (hρ x) (hρ y) h x y)
    · exact hb rfl (qir (neq := true) hu (hρ x) (hρ y) h x y)
  · rename_i hu
    cases op <;> simp only at h <;> try (cases h; done)
    · exact hb rfl (qje (neq := false) (hρ x) (hρ y) h x y)
    · exact hb rfl (qje (neq := true) (hρ x) (hρ y) h x y)
  · rename_i hu
    cases op <;> simp only at h <;> try (cases h; done)
    · exact hb rfl (qjf (neq := false) hu (hρ x) (hρ y) h x y)
    · exact hb rfl (qjf (neq := true) hu (hρ x) (hρ y) h x y)
  · rename_i fs hu
    split at h <;> try (cases h; done)
    rename_i ks hks
    split at h <;> try (cases h; done)
    rename_i hg
    cases op <;> simp only at h <;> try (cases h; done)
    · exact hb rfl (qfs (neq := false) hks (by simpa using hg) (.inl ⟨_, hu⟩) (hρ x) (hρ y) h x y)
    · exact hb rfl (qfs (neq := true) hks (by simpa using hg) (.inl ⟨_, hu⟩) (hρ x) (hρ y) h x y)
  · rename_i n e hu
    split at h <;> try (cases h; done)
    rename_i ks hks
    split at h <;> try (cases h; done)
    rename_i hg
    cases op <;> simp only at h <;> try (cases h; done)
    · exact hb rfl (qfs (neq := false) hks (by simpa using hg) (.inr ⟨_, _, hu⟩) (hρ x) (hρ y) h x y)
    · exact hb rfl (qfs (neq := true) hks (by simpa using hg) (.inr ⟨_, _, hu⟩) (hρ x) (hρ y) h x y)
 case unOp op t x =>
  cases op <;> simp only at h <;> try (cases h; done)
  · unfold oNeg at h
    split at h <;> try (cases h; done)
    rename_i kx n hx
    have := hρ x
    rw [hx] at this
    exact ⟨_, _, by simp [execOp, this.s_inv, Op.unary, Op.intArith], .s_mk _, h⟩
  · unfold oNot at h
    split at h <;> try (cases h; done)
    rename_i b hx
    have := hρ x
    rw [hx] at this
    exact ⟨_, _, by simp [execOp, this.s_inv, Op.unary], .s_mk _, h⟩
 case nilCheck x =>
  have hx := hρ x
  unfold qa0 at h
  split at h <;> try (cases h; done)
  · rename_i id v rr o hA
    rw [hA] at hx
    obtain ⟨y, hy, _⟩ := hx.ptr_inv
    exact ⟨ρC x, _, by simp [execOp, hy], hx, h⟩
  · rename_i cs hA
    rw [hA] at hx
    obtain ⟨b, o, vs, hy, _⟩ := hx.cptr_inv
    exact ⟨ρC x, _, by simp [execOp, hy], hx, h⟩
 case makeFunc fn first caps =>
  cases fn <;> simp only at h <;> try (cases h; done)
  rename_i f
  split at h <;> try (cases h; done)
  · rename_i fnn hf hfirst
    have hfe : first = #[] := by simpa using hfirst
    subst hfe
    refine ⟨.func (.func f) #[] (caps.map ρC), _, by simp [execOp, Instr.makeFunc], .fn f fnn (caps.map ρC) (caps.toList.map ρA) hf (by simp) (fun i hi => ?_), h⟩
    simp at hi
    simp [Array.getD, hi]
    exact hρ _
  · rename_i fnn x hf hfirst
    split at h <;> try (cases h; done)
    rename_i hce
    unfold oBound at h
    split at h <;> try (cases h; done)
    rename_i hpu
    have hfe : first = #[x] := by
     apply Array.toList_inj.1; simpa using hfirst
    have hce : caps = #[] := by simpa using hce
    subst hfe hce
    exact ⟨.func (.func f) #[ρC x] #[], _, by simp [execOp, Instr.makeFunc], .pure _ _ (.bound f fnn (ρC x) (ρA x) hf hpu ((hρ _).fz hpu)), h⟩
 case build t parts =>
  split at h <;> try (cases h; done)
  · rename_i fs z hu hz
    split at h <;> try (cases h; done)
    rename_i hall
    split at h <;> try (cases h; done)
    rename_i ps hps
    exact (qhl hρ hu hz hall hps h).next
  · rename_i n e z hu hz
    split at h <;> try (cases h; done)
    rename_i sz sh he hsh
    split at h <;> try (cases h; done)
    split at h <;> try (cases h; done)
    rename_i ps hps
    exact (qi8 hρ hu hz he hsh hps h).next
 case call c =>
  obtain ⟨callee, args, argTypes⟩ := c
  cases callee <;> (try simp only at h) <;> try (cases h; done)
  rename_i b
  have hres : ∀ (s : Sem Value), (∀ cs, builtin b argTypes type cs (args.map ρC) = (do pure (Next.value (← s)) : Sem Next)) → Yld P w F ρ hp s k r →
   ∃ v a, (execOp ρC ⟨dst, .call ⟨.builtin b, args, argTypes⟩, type, pos, after, guard⟩).run P w = .ok (.value v) w ∧ Rel P w F ρ hp v a ∧ k a = some r := by
   intro s hs y
   obtain ⟨v, a, h1, h2, h3⟩ := y.next
   refine ⟨v, a, ?_, h2, h3⟩
   simp only [execOp, resolve, Sem.run_bind, Sem.run_pure, Result.andThen_ok, invoke, hs]
   simpa using h1
  cases b <;> (try simp only at h) <;> try (cases h; done)
  · split at h <;> try (cases h; done)
    rename_i t x ht hx
    split at h <;> try (cases h; done)
    rename_i e hu
    exact hres (Builtin.cap_ argTypes type (args.map ρC)) (fun _ => rfl) (sound_cap hu ⟨e, rfl⟩ (hρ x) h argTypes type ht _ (by simp [hx]))
  · split at h <;> try (cases h; done)
    rename_i t x ht hx
    split at h <;> try (cases h; done)
    · rename_i e hu
      exact hres (Builtin.len_ argTypes type (args.map ρC)) (fun _ => rfl) (sound_len hu ⟨e, rfl⟩ (hρ x) h argTypes type ht _ (by simp [hx]))
    · rename_i hu
      exact hres (Builtin.len_ argTypes type (args.map ρC)) (fun _ => rfl) (qlt hu (hρ x) h argTypes type ht _ (by simp [hx]))
    · rename_i n e hu
      exact hres (Builtin.len_ argTypes type (args.map ρC)) (fun _ => rfl) ⟨_, _, by simp [Builtin.len_, ht, hx, run_underlying hu, goInt], .s_mk _, h⟩
  · split at h <;> try (cases h; done)
    rename_i x y hxy
    unfold oMax at h
    split at h <;> try (cases h; done)
    rename_i kx a ky b hx hy
    have h1 := hρ x
    have h2 := hρ y
    rw [hx] at h1
    rw [hy] at h2
    split at h <;> try (cases h; done)
    have ha : args = #[x, y] := by apply Array.ext'; simpa using hxy
    subst ha
    exact hres (Builtin.max_ argTypes type (#[x, y].map ρC)) (fun _ => rfl) ⟨_, _, by simp [h1.s_inv, h2.s_inv]; exact run_max_int2 w _ _ _ _ _ _, .s_mk _, h⟩
  · split at h <;> try (cases h; done)
    rename_i x y hxy
    unfold oMin at h
    split at h <;> try (cases h; done)
    rename_i kx a ky b hx hy
    have h1 := hρ x
    have h2 := hρ y
    rw [hx] at h1
    rw [hy] at h2
    split at h <;> try (cases h; done)
    have ha : args = #[x, y] := by apply Array.ext'; simpa using hxy
    subst ha
    exact hres (Builtin.min_ argTypes type (#[x, y].map ρC)) (fun _ => rfl) ⟨_, _, by simp [h1.s_inv, h2.s_inv]; exact run_min_int2 w _ _ _ _ _ _, .s_mk _, h⟩
end
end Go.Ab
