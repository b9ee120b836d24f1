/-
 ONE OPERATION OF A REGION.
-/
import Derived.Test.YtocnjegcmmfpfaaAbsMap
set_option linter.unusedSimpArgs false
set_option linter.unusedVariables false
namespace Go.Ab
open Go
section
variable {P : Program} {w w' : World} {F F' : Cells} {ρ ρ' ρ2 : Nat → Reg} {h h' h2 : Heap} {β : Type} {r : β}
structure RegsRel (P : Program) (w : World) (F : Cells) (ρ : Nat → Reg) (h : Heap) (tmps : Array Value) (regs : List A) : Prop where
 len : regs.length = tmps.size
 rel : ∀ t, Rel P w F ρ h (tmps.getD t undef) (regs.getD t .any)
theorem RegsRel.step {tmps : Array Value} {regs : List A} (i : Inv P w F ρ h) (t : Tr w F ρ h w' F' ρ' h') (q : RegsRel P w F ρ h tmps regs) : RegsRel P w' F' ρ' h' tmps regs :=
 ⟨q.len, fun t' => (q.rel t').step i t⟩
theorem RegsRel.set {tmps : Array Value} {regs : List A} {v : Value} {x : A} (q : RegsRel P w F ρ h tmps regs) (hv : Rel P w F ρ h v x) (d : Nat) : RegsRel P w F ρ h (tmps.setIfInBounds d v) (regs.set d x) := by
 refine ⟨by simp [q.len], fun t => ?_⟩
 have hl := q.len
 by_cases htd : t = d
 · subst htd
   by_cases hlt : t < regs.length
   · have hlt' : t < tmps.size := by omega
     simp [hlt, hlt', hv]
   · have : (regs.set t x).getD t .any = .any := by simp [List.getD_eq_getElem?_getD, List.getElem?_eq_none (show (regs.set t x).length ≤ t by simp; omega)]
     rw [this]; exact .any _
 · have := q.rel t
   simp only [Array.getD_eq_getD_getElem?, List.getD_eq_getElem?_getD] at this ⊢
   rw [Array.getElem?_setIfInBounds_ne (Ne.symm htd), List.getElem?_set_ne (Ne.symm htd)]
   exact this
theorem RegsRel.put {a : Act} {regs : List A} {v : Value} {x : A} (q : RegsRel P w F ρ h a.tmps regs) (hv : Rel P w F ρ h v x) (dst : Option Nat) : RegsRel P w F ρ h (a.put dst v).tmps (putR regs dst x) := by
 cases dst with
 | none => exact q
 | some d => exact q.set hv d
theorem RegsRel.opnd {a : Act} {regs : List A} (q : RegsRel P w F ρ h a.tmps regs) (x : Operand) : Rel P w F ρ h (a.eval x) (opnd P regs x) := by
 cases x with
 | tmp t => exact q.rel t
 | const v => exact .s_mk v
 | global g => exact .s_mk _
 | func f =>
   simp only [Act.eval, Go.Ab.opnd]
   split
   · rename_i fn hf
     exact .fn f fn #[] [] hf rfl fun i hi => by simp at hi
   · exact .any _
def qab (P : Program) (f : FuncId) : Prop := ∃ fn, P.funcs[f]? = some fn ∧ fn.body.isNone = false ∧ (fn.name == "runtime.NumGoroutine") = false
structure SoundE (P : Program) (E : FuncId → CallFn) (En : String → CallFn) : Prop where
 callable : ∀ f args objs r, E f args objs = some r → qab P f
 sound : ∀ f, SoundFn P f (E f)
 callableN : ∀ f fn args objs r, P.funcs[f]? = some fn → En fn.name args objs = some r → qab P f
 soundN : ∀ f fn, P.funcs[f]? = some fn → SoundFn P f (En fn.name)
theorem qis {f : FuncId} (hc : qab P f) (args : Array Value) : (callFunc f args).run P w = .ok (.enter f args) w := by
 obtain ⟨fn, h1, h2, h3⟩ := hc
 simp only [callFunc, Sem.run_bind, run_program, Result.andThen_ok, h1, h3, h2, Bool.false_eq_true, if_false, Sem.run_pure]
def OYld (P : Program) (w : World) (F : Cells) (ρ : Nat → Reg) (h : Heap) (s : Sem Next) (k kp : A → Heap → Option β) (r : β) : Prop :=
 HYld P w F ρ h s k r ∨ ∃ f args, s.run P w = .ok (.enter f args) w ∧ Calls P f args w (CEnd P w F ρ h (fun a h' => k a h' = some r) (fun a h' => kp a h' = some r))
theorem CEnd.frz {k : A → Heap → Option β} {pan : A → Heap → Prop} {e : Ending} {w' : World} (he : CEnd P w F ρ h (fun a h' => oFrz a h' k = some r) pan e w') : CEnd P w F ρ h (fun a h' => k a h' = some r) pan e w' := by
 obtain ⟨F', ρ', h', i, t, he⟩ := he
 cases e with
 | returned v =>
   obtain ⟨a, hr, hk⟩ := he
   obtain ⟨F2, a2, h2, i2, t2, hr2, hk2⟩ := qkd i hr hk
   exact ⟨F2, ρ', h2, i2, t.trans t2, a2, hr2, hk2⟩
 | panicked c => exact ⟨F', ρ', h', i, t, he⟩
 | outgrown => exact he.elim
theorem CEnd.weak {ok pan pan' : A → Heap → Prop} {e : Ending} {w' : World} (hp : ∀ a h, pan a h → pan' a h) (he : CEnd P w F ρ h ok pan e w') : CEnd P w F ρ h ok pan' e w' := by
 obtain ⟨F', ρ', h', i, t, he⟩ := he
 cases e with
 | returned v => exact ⟨F', ρ', h', i, t, he⟩
 | panicked c => obtain ⟨v, a, h1, h2, h3⟩ := he; exact ⟨F', ρ', h', i, t, v, a, h1, h2, hp _ _ h3⟩
 | outgrown => exact he.elim
theorem ArgsRel.of {args : Array Operand} {ρA : Operand → A} {ρC : Operand → Value} (hρ : ∀ x, Rel P w F ρ h (ρC x) (ρA x)) : ArgsRel P w F ρ h (args.map ρC) (args.toList.map ρA) := by
 refine ⟨by simp, fun i hi => ?_⟩
 simp at hi
 simp [hi]
 exact hρ _
mutual
theorem qic (n : Nat) : ∀ a : A, qa2 n (idsA a) = true → renA (fun id => if id < n then some id else none) a = some a
 | .s v, _ => rfl
 | .any, _ => rfl
 | .cptr _, _ => rfl
 | .fsl _ _, _ => rfl
 | .ptr .., h => by simp [idsA, qa2] at h; simp [renA, h]
 | .osl .., h => by simp [idsA, qa2] at h; simp [renA, h]
 | .mref _, h => by simp [idsA, qa2] at h; simp [renA, h]
 | .agg cs, h => by simp only [renA]; rw [qfl n cs h]; rfl
 | .tup cs, h => by simp only [renA]; rw [qfl n cs h]; rfl
 | .fn _ cs, h => by simp only [renA]; rw [qfl n cs h]; rfl
 | .iface t a, h => by simp only [renA]; rw [qic n a h]; rfl
theorem qfl (n : Nat) : ∀ l : List A, qa2 n (idsL l) = true → renL (fun id => if id < n then some id else none) l = some l
 | [], _ => rfl
 | a :: r, h => by
   simp only [idsL, qa2, List.all_append, Bool.and_eq_true] at h
   simp only [renL]; rw [qic n a h.1, qfl n r h.2]; rfl
end
theorem qht (n : Nat) : ∀ l : List (List A), qa2 n (idsRows l) = true → renRows (fun id => if id < n then some id else none) l = some l
 | [], _ => rfl
 | a :: r, h => by
   simp only [idsRows, qa2, List.all_append, Bool.and_eq_true] at h
   simp only [renRows]; rw [qfl n a h.1, qht n r h.2]; rfl
theorem ren_take (n : Nat) (hn : n ≤ h.length) : Ren (fun id => if id < n then some id else none) ρ h ρ (h.take n) := by
 have get : ∀ id id', (if id < n then some id else none) = some id' → id' = id ∧ id < n := fun id id' he => by split at he <;> simp at he; exact ⟨he.symm, by assumption⟩
 refine ⟨fun id id' hf hl => ?_, fun id id' hf hl hr => ?_, fun id id' ob' hf hl hob => ?_, fun id id' kd es hf hl hes => ?_⟩ <;> obtain ⟨rfl, hlt⟩ := get _ _ hf
 · simp; omega
 · rw [List.getElem?_take, if_pos hlt] at hr; exact hr
 · rw [List.getElem?_take, if_pos hlt] at hob; exact ⟨ob', hob, rfl, rfl⟩
 · rw [List.getElem?_take, if_pos hlt] at hes; exact ⟨hes, rfl⟩
theorem qgt {w0 : World} {F0 : Cells} {ρ0 : Nat → Reg} {h0 : Heap} {gc : Bool} {vs vs' : List A} {h' : Heap} (i : Inv P w F ρ h) (t : Tr w0 F0 ρ0 h0 w F ρ h) (hk : trim gc h0.length vs h = some (vs', h')) :
 vs' = vs ∧ Inv P w F ρ h' ∧ Tr w0 F0 ρ0 h0 w F ρ h' ∧ ∀ j v, Rel P w F ρ h v (vs.getD j .any) → Rel P w F ρ h' v (vs.getD j .any) := by
 unfold trim at hk
 split at hk
 · rename_i hc
   simp only [Option.some.injEq, Prod.mk.injEq] at hk
   obtain ⟨rfl, rfl⟩ := hk
   simp only [Bool.and_eq_true] at hc
   replace hc := hc.2
   have hlen := t.evo.len
   have n := ren_take (ρ := ρ) (h := h) h0.length hlen
   have rows : ∀ id ob, (h.take h0.length)[id]? = some (.live ob) → h[id]? = some (.live ob) ∧ id < h0.length ∧ qa2 h0.length (idsRows ob.rows) = true := by
    intro id ob hob
    have hl := (List.getElem?_eq_some_iff.1 hob).1
    have := List.all_eq_true.1 hc.2 _ (List.mem_of_getElem? hob)
    rw [List.getElem?_take] at hob
    split at hob <;> try (cases hob; done)
    rename_i hlt
    exact ⟨hob, hlt, this⟩
   have mps : ∀ (id : Nat) kd es, (h.take h0.length)[id]? = some (.mp kd es) → h[id]? = some (.mp kd es) := by
    intro id kd es hob
    rw [List.getElem?_take] at hob
    split at hob <;> try (cases hob; done)
    exact hob
   refine ⟨rfl, ⟨fun id ob hob => ?_, fun a b oa ob hab hoa hob => i.disj a b oa ob hab (rows _ _ hoa).1 (rows _ _ hob).1, i.fin, fun id kd es hes => i.mp id kd es (mps _ _ _ hes), fun a b ka ea kb eb hab ha hb => i.mpd a b _ _ _ _ hab (mps _ _ _ ha) (mps _ _ _ hb)⟩, ⟨t.upd, t.sub, t.new, fun b o hm => ?_, ?_⟩, fun j v hr => ?_⟩
   · obtain ⟨h1, h2, h3⟩ := rows id ob hob
     exact (i.obj id ob h1).ren n rfl rfl (qht _ _ h3)
   · obtain ⟨id, ob, hob, hr⟩ | ⟨id, kd, es, hes, hb⟩ := hm
     · exact t.reg b o (.of (rows _ _ hob).1 hr)
     · rw [hb]; exact t.reg _ o (.mp (mps _ _ _ hes) o)
   · refine ⟨by simp; omega, fun id hl hr => ?_, fun id ob hl hob => ?_, fun id kd es hl hes => t.evo.mp id kd es hl (mps _ _ _ hes)⟩
     · rw [List.getElem?_take, if_pos hl] at hr; exact t.evo.res id hl hr
     · exact t.evo.live id ob hl (rows _ _ hob).1
   · refine hr.ren n ?_
     rw [List.getD_eq_getElem?_getD] at hr ⊢
     cases hh : vs[j]? with
     | none => rfl
     | some x =>
       refine qic _ _ ?_
       have : ∀ y ∈ idsA x, y ∈ idsL vs := fun y hy => qe3.2 ⟨j, (List.getElem?_eq_some_iff.1 hh).1, by rw [(List.getElem?_eq_some_iff.1 hh).2]; exact hy⟩
       have h1 := hc.1
       unfold qa2 at h1 ⊢
       rw [List.all_eq_true] at h1 ⊢
       intro y hy; exact h1 y (this y hy)
 · simp at hk
   obtain ⟨rfl, rfl⟩ := hk
   exact ⟨rfl, i, t, fun _ _ h => h⟩
theorem qmQ {f : FuncId} {D : CallFn} (hD : SoundFn P f D) : SoundFn P f (froze D) := by
 intro args objs R objs' hk w F ρ vs i ha
 unfold froze at hk
 split at hk <;> try (cases hk; done)
 rename_i a h1 hD1
 refine (hD _ _ _ _ hD1 w F ρ vs i ha).mono fun e w' he => ?_
 have he2 : CEnd P w F ρ objs (fun a h' => oFrz a h' (fun a h2 => (trim true objs.length [a] h2).map fun p => (Out.ok a, p.2)) = some (R, objs')) (fun _ _ => False) e w' := by
  obtain ⟨F', ρ', h', i', t', he⟩ := he
  cases e with
  | returned v =>
    obtain ⟨b, hr, e1, rfl⟩ := he
    cases e1
    exact ⟨F', ρ', h', i', t', a, hr, hk⟩
  | panicked c => obtain ⟨v, b, h1, h2, h3, h4⟩ := he; cases h3
  | outgrown => exact he.elim
 obtain ⟨F', ρ', h', i', t', he⟩ := he2.frz
 cases e with
 | returned v =>
   obtain ⟨b, hr, e1⟩ := he
   simp only [Option.map_eq_some_iff] at e1
   obtain ⟨⟨us, h3⟩, e1, e2⟩ := e1
   cases e2
   obtain ⟨rfl, i3, t3, r3⟩ := qgt i' t' e1
   exact ⟨F', ρ', h3, i3, t3, b, r3 0 v hr, rfl, rfl⟩
 | panicked c => obtain ⟨v, b, h1, h2, h3⟩ := he; exact h3.elim
 | outgrown => exact he.elim
theorem qgO {dm : Option DM} {raw bor : Bool} {f : FuncId} {D : CallFn} {args : List A} {vs : Array Value} {kp k : A → Heap → Option β} (hD : SoundFn P f D) (hC : ∀ args objs r, D args objs = some r → qab P f) (i : Inv P w F ρ h) (ha : ArgsRel P w F ρ h vs args)
 (hk : qaX dm raw bor D args h k kp = some r) : qab P f ∧ Calls P f vs w (CEnd P w F ρ h (fun a h' => k a h' = some r) (fun a h' => kp a h' = some r)) := by
 have c1 : ∀ (k' kp' : A → Heap → Option β), oCall D args h kp' k' = some r → qab P f := by
  intro k' kp' hk
  unfold oCall at hk
  split at hk <;> try (cases hk; done)
  split at hk <;> try (cases hk; done)
  rename_i hd
  exact hC _ _ _ hd
 have c3 : ∀ (k' kp' : A → Heap → Option β), oLend D args h kp' k' = some r → qab P f := by
  intro k' kp' hk
  unfold oLend at hk
  split at hk <;> try (cases hk; done)
  split at hk <;> try (cases hk; done)
  rename_i hd
  exact hC _ _ _ hd
 have c2 : ∀ (n0 : Nat) (wr : List Nat) (k' : A → Heap → Option β), oCallF n0 wr D args h k' = some r → qab P f := fun n0 wr k' hk => c3 _ _ (qjH hk)
 unfold qaX at hk
 split at hk
 · exact ⟨c1 _ _ hk, qdr hD i ha hk⟩
 · exact ⟨c1 _ _ hk, (qdr hD i ha hk).mono fun e w' he => he.frz⟩
 · exact ⟨c3 _ _ hk, qgW hD i ha hk⟩
 · exact ⟨c3 _ _ hk, (qgW hD i ha hk).mono fun e w' he => he.frz⟩
 · split at hk
   · have hk := qiB hk
     exact ⟨c1 _ _ hk, (qdr hD i ha hk).mono fun e w' he => he.weak fun _ _ h => (by cases h)⟩
   · exact ⟨c1 _ _ hk, (qdr hD i ha hk).mono fun e w' he => he.weak fun _ _ h => (by cases h)⟩
 · split at hk
   · have hk := qiB hk
     refine ⟨?_, (qdr (qmQ hD) i ha hk).mono fun e w' he => he.weak fun _ _ h => (by cases h)⟩
     unfold oCall at hk
     split at hk <;> try (cases hk; done)
     split at hk <;> try (cases hk; done)
     rename_i hd
     unfold froze at hd
     split at hd <;> try (cases hd; done)
     rename_i hd2
     exact hC _ _ _ hd2
   · exact ⟨c1 _ _ hk, (qdr hD i ha hk).mono fun e w' he => (CEnd.frz he).weak fun _ _ h => (by cases h)⟩
 · split at hk
   · have hk := qlP hk
     exact ⟨c1 _ _ hk, (qdr hD i ha hk).mono fun e w' he => he.weak fun _ _ h => (by cases h)⟩
   · exact ⟨c2 _ _ _ hk, (qiC hD i ha hk).mono fun e w' he => he.weak fun _ _ h => (by cases h)⟩
 · exact ⟨c2 _ _ _ hk, (qiC hD i ha hk).mono fun e w' he => (CEnd.frz he).weak fun _ _ h => (by cases h)⟩
theorem qgp {En : String → CallFn} {dm : Option DM} {raw bor : Bool} {f : A} {args : List A} {kp k : A → Heap → Option β} (hk : qbr En dm raw bor f args h k kp = some r) :
 ∃ name caps, f = .fn name caps ∧ qaX dm raw bor (En name) (argsV caps args) h k kp = some r := by
 unfold qbr oCallV oCallVF oLendV at hk
 split at hk <;> (split at hk <;> try (cases hk; done)) <;> first
  | exact ⟨_, _, rfl, hk⟩
  | (rename_i hst; split at hk <;> try (cases hk; done)
     exact ⟨_, _, rfl, by simp only [qaX, hst]; exact hk⟩)
theorem ArgsRel.append {vs us : Array Value} {as bs : List A} (h1 : ArgsRel P w F ρ h vs as) (h2 : ArgsRel P w F ρ h us bs) : ArgsRel P w F ρ h (vs ++ us) (as ++ bs) := by
 refine ⟨by simp [h1.1, h2.1], fun i hi => ?_⟩
 rw [List.getElem_append]
 split
 · rename_i hl
   have := h1.2 i hl
   have hl' : i < vs.size := by rw [h1.1]; exact hl
   rwa [Array.getD_eq_getD_getElem?, Array.getElem?_append_left hl', ← Array.getD_eq_getD_getElem?]
 · rename_i hl
   have := h2.2 (i - as.length) (by simp at hi; omega)
   rwa [Array.getD_eq_getD_getElem?, Array.getElem?_append_right (by rw [h1.1]; omega), h1.1, ← Array.getD_eq_getD_getElem?]
theorem argsV_eq {cs : List A} (args : List A) (h : ∀ r, cs ≠ bndM :: r) : argsV cs args = args ++ cs := by
 unfold argsV
 split
 · exact absurd rfl (h _)
 · rfl
theorem Rel.fn_call {name : String} {cs : List A} {v : Value} (r : Rel P w F ρ h v (.fn name cs)) : ∃ f fn first caps, v = .func (.func f) first caps ∧ P.funcs[f]? = some fn ∧ fn.name = name ∧
 ∀ {vs : Array Value} {args : List A}, ArgsRel P w F ρ h vs args → ArgsRel P w F ρ h (first ++ vs ++ caps) (argsV cs args) := by
 rcases r.fn_inv with ⟨f, fn, caps, rfl, hf, hn, hs, hr⟩ | ⟨f, fn, u, a, rfl, hf, hn, rfl, hp, hz⟩
 · refine ⟨f, fn, #[], caps, rfl, hf, hn, fun {vs args} ha => ?_⟩
   rw [argsV_eq]
   · have : (#[] : Array Value) ++ vs ++ caps = vs ++ caps := by simp
     rw [this]; exact ha.append ⟨hs, hr⟩
   · rintro r rfl
     exact (hr 0 (by simp)).not_bnd
 · refine ⟨f, fn, #[u], #[], rfl, hf, hn, fun {vs args} ha => ?_⟩
   have e : (#[u] : Array Value) ++ vs ++ #[] = #[u] ++ vs := by simp
   rw [e]
   show ArgsRel P w F ρ h (#[u] ++ vs) ([a] ++ args)
   refine ArgsRel.append ⟨rfl, fun i hi => ?_⟩ ha
   have : i = 0 := by simp at hi; omega
   subst this
   exact .pure _ _ hz
theorem HYld.congr {s s' : Sem Next} {k : A → Heap → Option β} (hs : s'.run P w = s.run P w) (hy : HYld P w F ρ h s k r) : HYld P w F ρ h s' k r := by
 obtain ⟨n, v, w', F', ρ', h', a', h1, h2⟩ := hy
 exact ⟨n, v, w', F', ρ', h', a', by rw [hs]; exact h1, h2⟩
theorem qjW {x : A} {v : Value} {k : A → Heap → Option β} (i : Inv P w F ρ h) (hr : Rel P w F ρ h v x) (hk : qbL x h (fun v => k v h) = some r) :
 HYld P w F ρ h (do pure (.value (← Conv.bytesToString v))) k r := by
 unfold qbL at hk
 split at hk <;> try (cases hk; done)
 rename_i rows hrows
 split at hk <;> try (cases hk; done)
 rename_i s hs
 obtain ⟨a, c, vs, rfl, hw, hrel, hrun, -⟩ := qce i hr hrows
 have hfl := qb4 rows hw
 have hvl : vs.length = rows.length := by rw [hrel.1, hfl]; omega
 refine .value (w' := w) ?_ (.s_mk _) i (.refl _ _ _ _) hk
 cases a with
 | none =>
   have h1 := hrun w (fun _ _ => rfl) rows.length (Nat.le_refl _)
   simp only [Builtin.firstCells, Sem.run_pure, Result.ok.injEq, and_true] at h1
   have hvs : vs = [] := by
    have h2 := congrArg Array.toList h1
    rw [Nat.mul_one, List.take_of_length_le (by omega)] at h2
    exact h2.symm
   have : rows.flatten = [] := by rw [← List.length_eq_zero_iff, ← hrel.1, hvs]; rfl
   rw [this] at hs
   simp only [strOf, Option.some.injEq] at hs
   subst hs
   simp [Conv.bytesToString]
 | some b =>
   have h1 := hrun w (fun _ _ => rfl) rows.length (Nat.le_refl _)
   simp only [Builtin.firstCells] at h1
   rw [Nat.mul_one, List.take_of_length_le (by omega)] at h1
   have key : ∀ (f : Value → ByteArray → Sem (ForInStep ByteArray)), (∀ n s, (f (.int .u8 n) s).run P w = .ok (.yield (s.push (UInt8.ofNat n.toNat))) w) →
    ∀ (vs : List Value) (cs : List A) (s0 s : ByteArray), RelC P w F ρ h vs cs → strOf s0 cs = some s → (forIn vs s0 f).run P w = .ok s w := by
    intro f hf vs
    induction vs with
    | nil =>
      intro cs s0 s hrc hs
      have : cs = [] := List.length_eq_zero_iff.1 hrc.1.symm
      subst this
      simp only [strOf, Option.some.injEq] at hs
      subst hs
      simp
    | cons v vs ih =>
      intro cs s0 s hrc hs
      cases cs with
      | nil => have := hrc.1; simp at this
      | cons c cs =>
        unfold strOf at hs
        split at hs
        · rename_i heq; cases heq
        · rename_i n r' heq
          simp only [List.cons.injEq] at heq
          obtain ⟨rfl, rfl⟩ := heq
          have h0 := (hrc.2 0 v _ rfl rfl).2.s_inv
          subst h0
          have hrest : RelC P w F ρ h vs cs := ⟨by have := hrc.1; simpa using this, fun j v c hv hc => hrc.2 (j + 1) v c (by simpa using hv) (by simpa using hc)⟩
          have := ih cs _ s hrest hs
          rw [List.forIn_cons, Sem.run_bind, hf]
          exact this
        · cases hs
   simp only [Conv.bytesToString, Sem.run_bind, h1, Result.andThen_ok, List.forIn_toArray]
   rw [key _ (fun n s => by simp) vs rows.flatten .empty s hrel hs]
   rfl
theorem HYld.frz {s : Sem Next} {k : A → Heap → Option β} (hy : HYld P w F ρ h s (fun v h => oFrz v h k) r) : HYld P w F ρ h s k r := by
 obtain ⟨n, v, w1, F1, ρ1, h1, a1, e1, e2, e3, e4, e5, e6⟩ := hy
 obtain ⟨F2, a2, h2, i2, t2, r2, k2⟩ := qkd e4 e3 e6
 exact ⟨n, v, w1, F2, ρ1, h2, a2, e1, e2, r2, i2, e5.trans t2, k2⟩
theorem qmV {E : FuncId → CallFn} {En : String → CallFn} {raw bor : Bool} {dm : Option DM} {ρA : Operand → A} {ρC : Operand → Value} {k kp : A → Heap → Option β} (hE : SoundE P E En) (i : Inv P w F ρ h) (hρ : ∀ x, Rel P w F ρ h (ρC x) (ρA x))
 (hfn : ∀ f, ρC (.func f) = .func (.func f) #[] #[]) (o : Oper) (hk : evalH P E En raw bor dm o.op ρA h k kp = some r) : OYld P w F ρ h (execOp ρC o) k kp r := by
 obtain ⟨dst, op, type, pos, after, guard⟩ := o
 simp only at hk
 cases op <;> simp only [evalH] at hk <;> try (cases hk; done)
 case load t a =>
  split at hk <;> try (cases hk; done)
  rename_i sh hsh
  refine .inl ?_
  split at hk
  · exact qi7 i hsh (hρ a) hk
  · unfold oLoadD at hk
    split at hk <;> try (cases hk; done)
    · rename_i he
      split at hk <;> try (cases hk; done)
      exact qi7 i hsh (he ▸ hρ a) hk
    · rename_i he
      exact qi7 i hsh (he ▸ hρ a) hk
 case convert src dst' x =>
  refine .inl ?_
  split at hk <;> try (cases hk; done)
  · rename_i k1 kd hs hd
    unfold oConv at hk
    split at hk <;> try (cases hk; done)
    rename_i kx n hx
    have := hρ x
    rw [hx] at this
    exact .value (w' := w) (by simp [convert, run_underlying hs, run_underlying hd, this.s_inv, Conv.intToInt]) (.s_mk _) i (.refl _ _ _ _) hk
  · rename_i e hs hd
    split at hk <;> try (cases hk; done)
    rename_i he hsz
    have hk : qbL (ρA x) h (fun v => k v h) = some r := by
     split at hk
     · exact hk
     · unfold qc3 at hk
       split at hk <;> try (cases hk; done)
       · rename_i hh
         split at hk <;> try (cases hk; done)
         rw [hh]; exact hk
       · rename_i hh; rw [hh]; exact hk
       · rename_i hh; rw [hh]; exact hk
    have hs1 : ∃ a l c, ρC x = .slice a l c := by
     have hk' := hk
     unfold qbL at hk'
     split at hk' <;> try (cases hk'; done)
     rename_i rows hrows
     obtain ⟨a, c, vs, hv, _⟩ := qce i (hρ x) hrows
     exact ⟨_, _, _, hv⟩
    obtain ⟨a, l, c, hv⟩ := hs1
    have hy := qjW i (hρ x) hk
    rw [hv] at hy
    refine hy.congr ?_
    simp only [execOp, convert, hv, Sem.run_bind, run_underlying hs, run_underlying hd, run_underlying he, Result.andThen_ok]
 case store t a v =>
  split at hk <;> try (cases hk; done)
  rename_i sh hsh
  have hk : oStore sh (ρA a) (ρA v) h (fun h => k (.s undef) h) = some r := by
   split at hk
   · split at hk
     · unfold oStoreD at hk
       split at hk <;> try (cases hk; done)
       rename_i he
       split at hk
       · exact he ▸ hk
       · split at hk <;> try (cases hk; done)
         exact he ▸ hk
     · exact hk
   · exact hk
  exact .inl (qmw i hsh (hρ a) (hρ v) hk)
 case alloc t =>
  refine .inl ?_
  split at hk <;> try (cases hk; done)
  · rename_i z hz hsh
    split at hk <;> try (cases hk; done)
    rename_i c
    obtain ⟨zv, hzv, hzr, hze⟩ := qbH hz w F ρ h
    have hc : ∃ v, zv.cells = #[v] ∧ c = .s v ∧ v.oneCell = true := by
     have hl : zv.cells.toList.length = 1 := by have := congrArg List.length hze; simpa using this.symm
     obtain ⟨v, hv⟩ := List.length_eq_one_iff.1 hl
     refine ⟨v, by apply Array.ext'; simpa using hv, by rw [hv] at hze; simpa using hze, ?_⟩
     have := (hzr.get 0 (by simp [hv]) (by simp)).1
     simpa [hv] using this
    obtain ⟨v, hv, rfl, h1⟩ := hc
    refine (qjd t i (.s_mk v) hk).congr ?_
    simp only [execOp, Instr.alloc, Sem.run_bind, hzv, Result.andThen_ok, newVar, qhH h1, hv]
  · rename_i z n hz hsh
    obtain ⟨zv, hzv, hzr, hze⟩ := qbH hz w F ρ h
    have hrel : Rel P w F ρ h (.agg zv.cells) (.agg z) := hzr.agg
    refine (qjd t i hrel hk).congr ?_
    simp only [execOp, Instr.alloc, Sem.run_bind, hzv, Result.andThen_ok, newVar, Value.cells]
 case box t x =>
  split at hk <;> try (cases hk; done)
  rename_i sh hsh
  exact .inl (qjd t i (hρ x) hk)
 case buildSlice t n parts =>
  refine .inl ?_
  unfold elemT at hk
  split at hk <;> try (cases hk; done)
  rename_i e he
  split at he <;> simp at he
  rename_i e' hu
  subst he
  split at hk <;> try (cases hk; done)
  rename_i sz sh hsz hsh
  split at hk <;> try (cases hk; done)
  rename_i hcond
  simp only [Bool.and_eq_true, beq_iff_eq, decide_eq_true_eq] at hcond
  split at hk
  · split at hk
    · exact (qdn i hρ hu hsz hsh hcond.1.1.1 hcond.1.1.2 hcond.1.2 hcond.2 hk).frz
    · exact qdn i hρ hu hsz hsh hcond.1.1.1 hcond.1.1.2 hcond.1.2 hcond.2 hk
  · split at hk
    · unfold oNewFz at hk
      split at hk <;> try (cases hk; done)
      rename_i rs hrs
      split at hk <;> try (cases hk; done)
      rw [← hrs] at hk
      exact (qdn i hρ hu hsz hsh hcond.1.1.1 hcond.1.1.2 hcond.1.2 hcond.2 hk).frz
    · exact qdn i hρ hu hsz hsh hcond.1.1.1 hcond.1.1.2 hcond.1.2 hcond.2 hk
 case makeSlice t l c =>
  refine .inl ?_
  unfold elemT at hk
  split at hk <;> try (cases hk; done)
  rename_i e he
  split at he <;> simp at he
  rename_i e' hu
  subst he
  split at hk <;> try (cases hk; done)
  rename_i sz z hsz hz
  exact sound_make i (hρ l) (hρ c) hu hsz hz hk
 case call c =>
  obtain ⟨callee, args, argTypes⟩ := c
  cases callee with
  | builtin b =>
    cases b <;> simp only at hk <;> try (cases hk; done)
    ·
     refine .inl ?_
     split at hk <;> try (cases hk; done)
     rename_i t u x y h1 h2
     have h1 : argTypes = #[t, u] := by apply Array.ext'; simpa using h1
     have h2 : args = #[x, y] := by apply Array.ext'; simpa using h2
     subst h1; subst h2
     split at hk <;> try (cases hk; done)
     rename_i e e2 he he2
     unfold elemT at he he2
     split at he <;> simp at he
     rename_i e' hu
     subst he
     split at he2 <;> simp at he2
     rename_i e2' hu2
     subst he2
     split at hk <;> try (cases hk; done)
     rename_i sz hsz
     split at hk <;> try (cases hk; done)
     rename_i hcond
     have hfz : ∀ {at_ : Option Nat}, oAppend at_ sz (P.bytesOf e') (ρA x) (ρA y) h (fun v h => oFrz v h k) = some r → HYld P w F ρ h (do pure (.value (← Builtin.append_ #[t, u] type #[ρC x, ρC y]))) k r := fun hk =>
      (qdt (ty := type) i (hρ x) (hρ y) hu hu2 hsz hcond.1 hcond.2 hk).frz
     obtain ⟨at_, hk⟩ : ∃ at_, oAppend at_ sz (P.bytesOf e') (ρA x) (ρA y) h k = some r ∨ oAppend at_ sz (P.bytesOf e') (ρA x) (ρA y) h (fun v h => oFrz v h k) = some r := by
      split at hk
      · split at hk
        · exact ⟨none, .inr hk⟩
        · exact ⟨none, .inl hk⟩
      · split at hk
        · exact ⟨_, .inl hk⟩
        unfold qb2 at hk
        split at hk <;> try (cases hk; done)
        · rename_i he
          split at hk <;> try (cases hk; done)
          exact ⟨_, .inl (he ▸ hk)⟩
        · rename_i he
          exact ⟨_, .inl (he ▸ hk)⟩
     rcases hk with hk | hk
     rotate_left
     · exact (hfz hk).congr (by simp [execOp, resolve, invoke, builtin])
     exact (qdt (ty := type) i (hρ x) (hρ y) hu hu2 hsz hcond.1 hcond.2 hk).congr (by simp [execOp, resolve, invoke, builtin])
    ·
     refine .inl ?_
     split at hk <;> try (cases hk; done)
     rename_i t u x y h1 h2
     have h1 : argTypes = #[t, u] := by apply Array.ext'; simpa using h1
     have h2 : args = #[x, y] := by apply Array.ext'; simpa using h2
     subst h1; subst h2
     split at hk <;> try (cases hk; done)
     rename_i e e2 he he2
     unfold elemT at he
     split at he <;> simp at he
     rename_i hu
     subst he
     split at hk <;> try (cases hk; done)
     rename_i sz hsz
     exact (sound_copy (ty := type) (u := u) i (hρ x) (hρ y) hu hsz hk).congr (by simp [execOp, resolve, invoke, builtin])
  | invoke recv name => simp only at hk; cases hk
  | value f =>
    refine .inr ?_
    have viaV : qbr En dm raw bor (ρA f) (args.toList.map ρA) h k kp = some r → ∃ g as, (execOp ρC { dst, op := .call { callee := .value f, args, argTypes }, type, pos, after, guard }).run P w = .ok (.enter g as) w ∧ Calls P g as w (CEnd P w F ρ h (fun a h' => k a h' = some r) (fun a h' => kp a h' = some r)) := by
     intro hk
     obtain ⟨name, caps, hf, hk⟩ := qgp hk
     have hr := hρ f
     rw [hf] at hr
     obtain ⟨g, fn, fi, cv, hv, hg, hnm, hargs⟩ := hr.fn_call
     subst hnm
     obtain ⟨hc, hcalls⟩ := qgO (hE.soundN g fn hg) (fun a o r h => hE.callableN g fn a o r hg h) i (hargs (ArgsRel.of (args := args) hρ)) hk
     refine ⟨g, fi ++ args.map ρC ++ cv, ?_, hcalls⟩
     simp only [execOp, resolve, hv, Deferred.ofValue, Sem.run_bind, Sem.run_pure, Result.andThen_ok, invoke]
     rw [qis hc]
    cases f with
    | func g =>
      obtain ⟨hc, hcalls⟩ := qgO (hE.sound g) (hE.callable g) i (ArgsRel.of (args := args) hρ) hk
      refine ⟨g, args.map ρC, ?_, hcalls⟩
      simp only [execOp, resolve, hfn, Deferred.ofValue, Sem.run_bind, Sem.run_pure, Result.andThen_ok, invoke]
      have : (#[] : Array Value) ++ args.map ρC ++ #[] = args.map ρC := by simp
      rw [this, qis hc]
    | tmp t => exact viaV hk
    | const v => exact viaV hk
    | global g => exact viaV hk
theorem qfa {E : FuncId → CallFn} {En : String → CallFn} {an : FAnn} {dm : Option DM} {a : Act} {regs : List A} {k kp : A → Heap → Option β} (hE : SoundE P E En) (i : Inv P w F ρ h) (q : RegsRel P w F ρ h a.tmps regs)
 (o : Oper) (hk : qbF P E En an dm o regs h k kp = some r) : OYld P w F ρ h (execOp a.eval o) k kp r := by
 unfold qbF at hk
 split at hk
 · obtain ⟨v, x, h1, h2, h3⟩ := qmS (fun x => q.opnd x) o hk
   exact .inl ⟨.value v, v, w, F, ρ, h, x, h1, .inl rfl, h2, i, .refl _ _ _ _, h3⟩
 · exact qmV hE i (fun x => q.opnd x) (fun f => rfl) o hk
theorem OYld.wp {o : Oper} {a : Act} {k kp : A → Heap → Option β} {next : Act → World → Prop} {Q : Exit → Act → World → Prop} (y : OYld P w F ρ h (execOp a.eval o) k kp r)
 (hn : ∀ v w' F' ρ' h' x, Inv P w' F' ρ' h' → Tr w F ρ h w' F' ρ' h' → Rel P w' F' ρ' h' v x → k x h' = some r → next (a.put o.dst v) w')
 (hp : ∀ v w' F' ρ' h' x, Inv P w' F' ρ' h' → Tr w F ρ h w' F' ρ' h' → Rel P w' F' ρ' h' v x → kp x h' = some r → Q (.panic [{ v, recovered := false }]) a w') : o.wp P a w next Q := by
 unfold Oper.wp
 rcases y with ⟨n, v, w', F', ρ', h', x, h1, h2, h3, h4, h5, h6⟩ | ⟨f, args, h1, h2⟩
 · rw [h1]
   rcases h2 with rfl | ⟨rfl, rfl⟩
   · exact hn _ _ _ _ _ _ h4 h5 h3 h6
   · exact hn _ _ _ _ _ _ h4 h5 h3 h6
 · rw [h1]
   refine h2.mono fun e w' he => ?_
   obtain ⟨F', ρ', h', i, t, he⟩ := he
   cases e with
   | returned v =>
     obtain ⟨x, h3, h4⟩ := he
     exact hn _ _ _ _ _ _ i t h3 h4
   | panicked c =>
     obtain ⟨v, x, rfl, h3, h4⟩ := he
     exact hp _ _ _ _ _ _ i t h3 h4
   | outgrown => exact he.elim
end
end Go.Ab
