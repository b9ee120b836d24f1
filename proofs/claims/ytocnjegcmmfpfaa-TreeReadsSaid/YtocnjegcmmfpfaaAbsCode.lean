/-
 CODE: what the abstract run says is what the machine does.
-/
import Derived.Test.YtocnjegcmmfpfaaAbsOps
import Derived.Scope
set_option linter.unusedSimpArgs false
set_option linter.unusedVariables false
namespace Go.Ab
open Go
section
variable {P : Program} {w w' : World} {F F' : Cells} {ρ ρ' ρ2 : Nat → Reg} {h h' h2 : Heap} {β : Type} {r : β}
theorem RegsRel.over {tmps : Array Value} {regs : List A} {x : A} {t : Nat} (q : RegsRel P w F ρ h tmps regs) (hv : Rel P w F ρ h (tmps.getD t undef) x) : RegsRel P w F ρ h tmps (regs.set t x) := by
 refine ⟨by simp [q.len], fun u => ?_⟩
 by_cases hut : t = u
 · subst hut
   by_cases hl : t < regs.length
   · simpa [hl] using hv
   · rw [List.set_eq_of_length_le (Nat.le_of_not_lt hl)]; exact q.rel t
 · have := q.rel u
   simp only [List.getD_eq_getElem?_getD] at this ⊢
   rw [List.getElem?_set_ne hut]; exact this
theorem RegsRel.restoreFrom {tmps : Array Value} {vs : List A} : ∀ (ts : List Nat) (i : Nat) (base : List A), RegsRel P w F ρ h tmps base → (∀ j t, ts[j]? = some t → Rel P w F ρ h (tmps.getD t undef) (vs.getD (i + j) .any)) →
 RegsRel P w F ρ h tmps (Go.Ab.restoreFrom vs i base ts)
 | [], i, base, q, _ => by simpa only [Go.Ab.restoreFrom] using q
 | t :: ts, i, base, q, hv => by
   simp only [Go.Ab.restoreFrom]
   exact RegsRel.restoreFrom ts (i + 1) _ (q.over (hv 0 t rfl)) fun j u hu => by
    have := hv (j + 1) u (by simpa using hu)
    rwa [show i + 1 + j = i + (j + 1) by omega]
theorem qhD {ts : List Nat} {regs : List A} {j t : Nat} (h : ts[j]? = some t) : (pickR ts regs).getD j .any = regs.getD t .any := by
 simp [pickR, List.getD_eq_getElem?_getD, h]
theorem qlS : ∀ (l : List Nat) (regs : List A), (maskR regs l).length = regs.length
 | [], regs => by simp [maskR]
 | t :: ts, regs => by simp [maskR, qlS ts]
theorem qlT : ∀ (l : List Nat) (regs : List A) (u : Nat), (maskR regs l).getD u .any = .any ∨ (u ∉ l ∧ (maskR regs l).getD u .any = regs.getD u .any)
 | [], regs, u => by simp [maskR]
 | t :: ts, regs, u => by
   simp only [maskR]
   rcases qlT ts (regs.set t .any) u with h | ⟨h1, h2⟩
   · exact .inl h
   · rw [h2]
     by_cases hut : t = u
     · subst hut
       left
       by_cases hl : t < regs.length
       · simp [hl]
       · simp [List.getD_eq_getElem?_getD, List.getElem?_eq_none (show (regs.set t .any).length ≤ t by simp; omega)]
     · right
       refine ⟨by simp; exact ⟨fun h => hut h.symm, h1⟩, ?_⟩
       simp only [List.getD_eq_getElem?_getD]; rw [List.getElem?_set_ne hut]
theorem RegsRel.mask {a a' : Act} {regs : List A} {l : List Nat} (i : Inv P w F ρ h) (t : Tr w F ρ h w' F' ρ' h') (q : RegsRel P w F ρ h a.tmps regs) (s : Same l a a') : RegsRel P w' F' ρ' h' a'.tmps (maskR regs l) := by
 refine ⟨by rw [qlS, q.len, s.size], fun u => ?_⟩
 rcases qlT l regs u with h | ⟨h1, h2⟩
 · rw [h]; exact .any _
 · rw [h2, s.get u h1]; exact (q.rel u).step i t
def EOk (P : Program) (w : World) (F : Cells) (ρ : Nat → Reg) (h : Heap) (a : Act) (e : Ex) (regs : List A) (X : Exit) : Prop :=
 match e with
 | .normal => X = .normal ∧ RegsRel P w F ρ h a.tmps regs
 | .exit id => X = .exit id ∧ RegsRel P w F ρ h a.tmps regs
 | .ret => X = .ret ∧ RegsRel P w F ρ h a.tmps regs
 | .panic x => ∃ v, X = .panic [{ v, recovered := false }] ∧ Rel P w F ρ h v x
def Post (P : Program) (w : World) (F : Cells) (ρ : Nat → Reg) (h : Heap) (l : List Nat) (a : Act) (k : Ex → List A → Heap → Option β) (r : β) (Q : Exit → Act → World → Prop) : Prop :=
 ∀ e regs' X a' w' F' ρ' h', Inv P w' F' ρ' h' → Tr w F ρ h w' F' ρ' h' → Same l a a' → EOk P w' F' ρ' h' a' e regs' X → k e regs' h' = some r → Q X a' w'
theorem Post.weak {l l' : List Nat} {a a1 : Act} {k : Ex → List A → Heap → Option β} {Q : Exit → Act → World → Prop} (p : Post P w F ρ h l a k r Q) (t : Tr w F ρ h w' F' ρ' h') (s : Same l a a1) (hl : ∀ x ∈ l', x ∈ l) : Post P w' F' ρ' h' l' a1 k r Q :=
 fun e regs' X a' w' F' ρ' h' i2 t2 s2 e2 k2 => p e regs' X a' w' F' ρ' h' i2 (t.trans t2) (s.trans (s2.mono hl)) e2 k2
theorem Inv.resv (n : Nat) (i : Inv P w F ρ h) : Inv P w F ρ (resv n h) ∧ Tr w F ρ h w F ρ (resv n h) := by
 cases n with
 | zero => exact ⟨i, .refl _ _ _ _⟩
 | succ n =>
   have live : ∀ (id : Nat) (ob : Obj), (Go.Ab.resv (n + 1) h)[id]? = some (Slot.live ob) → h[id]? = some (Slot.live ob) := by
    intro id ob hob
    simp only [Go.Ab.resv, List.getElem?_append] at hob
    split at hob
    · exact hob
    · rw [List.getElem?_replicate] at hob; split at hob <;> cases hob
   have old : ∀ id, id < h.length → (Go.Ab.resv (n + 1) h)[id]? = h[id]? := fun id hl => by
    simp only [Go.Ab.resv]; rw [List.getElem?_append_left hl]
   have mps : ∀ (id : Nat) kd es, (Go.Ab.resv (n + 1) h)[id]? = some (Slot.mp kd es) → h[id]? = some (Slot.mp kd es) := by
    intro id kd es hob
    simp only [Go.Ab.resv, List.getElem?_append] at hob
    split at hob
    · exact hob
    · rw [List.getElem?_replicate] at hob; split at hob <;> cases hob
   have evo : Evo ρ h ρ (Go.Ab.resv (n + 1) h) := ⟨by simp [Go.Ab.resv], fun id hl hr => by rw [old id hl] at hr; exact hr, fun id ob hl hob => .inr ⟨ob, live id ob hob, Nat.le_refl _, fun _ => rfl⟩, fun id kd es hl hes => .inr ⟨es, mps id kd es hes, rfl⟩⟩
   have tr : Tr w F ρ h w F ρ (Go.Ab.resv (n + 1) h) := ⟨.refl _ _, fun _ _ h => h, fun _ _ h => .inl h, fun b o hm => by
    obtain ⟨id, ob, hob, hr⟩ | ⟨id, kd, es, hes, hb⟩ := hm
    · exact .inl (.of (live id ob hob) hr)
    · rw [hb]; exact .inl (.mp (mps id kd es hes) o), evo⟩
   refine ⟨⟨fun id ob hob => ?_, fun a b oa ob hab hoa hob => i.disj a b oa ob hab (live a oa hoa) (live b ob hob), i.fin, fun id kd es hes => i.mp id kd es (mps _ _ _ hes), fun a b ka ea kb eb hab ha hb => i.mpd a b _ _ _ _ hab (mps _ _ _ ha) (mps _ _ _ hb)⟩, tr⟩
   have k := i.obj id ob (live _ _ hob)
   exact ⟨k.sz, k.pos, k.len, k.width, k.cell, fun a b ha hb => let ⟨v, h1, h2, h3⟩ := k.rel a b ha hb; ⟨v, h1, h2, h3.step i tr⟩⟩
def qjU (P : Program) (E : FuncId → CallFn) (En : String → CallFn) : Prop :=
 ∀ {β : Type} (an : FAnn) (id : Nat) (ops : Array Oper) (Q : Exit → Act → World → Prop) (regs : List A) (k : List A → Heap → Option β) (r : β) (a : Act) (w : World) (F : Cells) (ρ : Nat → Reg) (h : Heap) (wr : List Nat) (st : Bool),
   turnsOk an st ops = true → edgesOk ops = true → Inv P w F ρ h → RegsRel P w F ρ h a.tmps regs →
   evalOps P E En an ops (fun _ _ => none) (qfc an h.length wr st h.length ops.toList) [] regs (resv (makers ops.toList) h) k = some r →
   (∀ a' w' F' ρ' h' regs', Inv P w' F' ρ' h' → Tr w F ρ h w' F' ρ' h' → RegsRel P w' F' ρ' h' a'.tmps regs' → Same (asgOps ops.toList) a a' → k regs' h' = some r → Q .normal a' w') →
   (Code.region id ops true).wp P Q a w
theorem qmG {sz : Nat} {x : A} {v : Value} {k : A → Heap → Option β} (hsz : sz ≠ 0) (i : Inv P w F ρ h) (hr : Rel P w F ρ h v x) (hk : oProm sz x h k = some r) :
 ∃ ρ' h' x', Inv P w F ρ' h' ∧ Tr w F ρ h w F ρ' h' ∧ Rel P w F ρ' h' v x' ∧ k x' h' = some r := by
 unfold oProm at hk
 split at hk
 · obtain rfl := hr.s_inv
   have hp : place none h ⟨0, sz, []⟩ = some (h.length, h ++ [.live ⟨0, sz, []⟩]) := rfl
   obtain ⟨q1, q2⟩ := i.add (w' := w) (ρ' := fun j => if j = h.length then ⟨0, 0, sz, 0⟩ else ρ j) hp (.refl _ _) (fun j hj => by simp [hj]) (fun b o hb => by simp [Reg.has] at hb) (fun t =>
    .of_flat (by simp) (by show 0 < sz; omega) (by simp) (by simp) (fun j hj => by simp at hj) [] (fun j v hv => by simp at hv) ⟨rfl, fun j v c hv => by simp at hv⟩)
   obtain ⟨l1, l2⟩ := qeI hp
   refine ⟨_, _, _, q1, q2, .osl _ _ _ h.length 0 sz 0 l2 (fun s hs he => ?_) (Nat.le_refl _) (fun hc => by omega) fun ob hob => ?_, hk⟩
   · rw [l1] at hs; cases hs; cases he
   · rw [l1] at hob; cases hob
     exact ⟨Nat.le_refl _, fun _ => ⟨by simp, fun hc => by omega⟩⟩
 · exact ⟨ρ, h, x, i, .refl _ _ _ _, hr, hk⟩
theorem qhB {tmps : Array Value} {k : List A → Heap → Option β} : ∀ (l : List (Nat × Nat)) (regs : List A) (ρ : Nat → Reg) (h : Heap), Inv P w F ρ h → RegsRel P w F ρ h tmps regs → promAll l regs h k = some r →
 ∃ ρ' h' regs', Inv P w F ρ' h' ∧ Tr w F ρ h w F ρ' h' ∧ RegsRel P w F ρ' h' tmps regs' ∧ k regs' h' = some r
 | [], regs, ρ, h, i, q, hk => ⟨ρ, h, regs, i, .refl _ _ _ _, q, hk⟩
 | (t, sz) :: l, regs, ρ, h, i, q, hk => by
   simp only [promAll] at hk
   split at hk <;> try (cases hk; done)
   rename_i hsz
   obtain ⟨ρ1, h1, x, i1, t1, r1, k1⟩ := qmG hsz i (q.rel t) hk
   obtain ⟨ρ2, h2, regs2, i2, t2, q2, k2⟩ := qhB l _ ρ1 h1 i1 ((q.step i t1).over r1) k1
   exact ⟨ρ2, h2, regs2, i2, t1.trans t2, q2, k2⟩
theorem qgT {a a' : Act} {regs : List A} {l outs : List Nat} {vs : List A} (i : Inv P w F ρ h) (t : Tr w F ρ h w' F' ρ' h') (q : RegsRel P w F ρ h a.tmps regs) (s : Same l a a')
 (hv : ∀ j u, outs[j]? = some u → Rel P w' F' ρ' h' (a'.tmps.getD u undef) (vs.getD j .any)) : RegsRel P w' F' ρ' h' a'.tmps (restore (maskR regs l) outs vs) :=
 RegsRel.restoreFrom outs 0 _ (q.mask i t s) fun j u hu => by rw [Nat.zero_add]; exact hv j u hu
theorem qmY {E : FuncId → CallFn} {En : String → CallFn} {an : FAnn} (hE : SoundE P E En) (hD : qjU P E En) :
 ∀ (c : Code) (lk : Nat) {β : Type} (regs : List A) (h : Heap) (k : Ex → List A → Heap → Option β) (r : β) (a : Act) (w : World) (F : Cells) (ρ : Nat → Reg) (Q : Exit → Act → World → Prop),
   Inv P w F ρ h → RegsRel P w F ρ h a.tmps regs → evalC P E En an c lk regs h k = some r → Post P w F ρ h (asg c) a k r Q → c.wp P Q a w := by
 intro c
 induction c with
 | skip =>
   intro lk β regs h k r a w F ρ Q i q hk p
   exact wp_skip (p .normal regs .normal a w F ρ h i (.refl _ _ _ _) (.refl _ _) ⟨rfl, q⟩ (by simpa only [evalC] using hk))
 | label l =>
   intro lk β regs h k r a w F ρ Q i q hk p
   exact wp_label (p .normal regs .normal a w F ρ h i (.refl _ _ _ _) (.refl _ _) ⟨rfl, q⟩ (by simpa only [evalC] using hk))
 | scope c ih =>
   intro lk β regs h k r a w F ρ Q i q hk p
   simp only [evalC] at hk
   refine wp_scope_straight (ih lk regs h k r a w F ρ _ i q hk fun e regs' X a' w' F' ρ' h' i2 t2 s2 e2 k2 => ?_)
   have hq := p e regs' X a' w' F' ρ' h' i2 t2 s2 e2 k2
   cases e with
   | normal => obtain ⟨rfl, _⟩ := e2; exact hq
   | ret => obtain ⟨rfl, _⟩ := e2; exact hq
   | exit id' => obtain ⟨rfl, _⟩ := e2; exact hq
   | panic x => obtain ⟨v, rfl, _⟩ := e2; exact hq
 | exit id =>
   intro lk β regs h k r a w F ρ Q i q hk p
   exact wp_exit (p (.exit id) regs _ a w F ρ h i (.refl _ _ _ _) (.refl _ _) ⟨rfl, q⟩ (by simpa only [evalC] using hk))
 | ret =>
   intro lk β regs h k r a w F ρ Q i q hk p
   exact wp_ret (p .ret regs _ a w F ρ h i (.refl _ _ _ _) (.refl _ _) ⟨rfl, q⟩ (by simpa only [evalC] using hk))
 | region id ops draw =>
   intro lk β regs h k r a w F ρ Q i q hk p
   simp only [evalC] at hk
   have hsub : ∀ t ∈ asgOps ops.toList, t ∈ asg (.region id ops draw) := fun t ht => by simp only [asg, List.mem_append]; exact .inl ht
   cases draw with
   | true =>
     simp only [if_true] at hk
     split at hk <;> try (cases hk; done)
     rename_i hc
     simp only [Bool.and_eq_true] at hc
     exact hD an id ops Q regs _ r a w F ρ h _ _ hc.1 hc.2 i q hk fun a' w' F' ρ' h' regs' i2 t2 q2 s2 k2 => p .normal regs' .normal a' w' F' ρ' h' i2 t2 (s2.mono hsub) ⟨rfl, q2⟩ k2
   | false =>
     simp only [Bool.false_eq_true, if_false] at hk
     exact qlD hE i q hk (fun a' w' F' ρ' h' regs' i2 t2 q2 s2 k2 => p .normal regs' .normal a' w' F' ρ' h' i2 t2 (s2.mono hsub) ⟨rfl, q2⟩ k2)
      (fun a' w' F' ρ' h' v x i2 t2 s2 r2 k2 => p (.panic x) [] _ a' w' F' ρ' h' i2 t2 (s2.mono hsub) ⟨v, rfl, r2⟩ k2)
 | cond c x y ihx ihy =>
   intro lk β regs h k r a w F ρ Q i q hk p
   simp only [evalC] at hk
   unfold oCond at hk
   split at hk <;> try (cases hk; done)
   rename_i b hb
   have hr := q.opnd c
   rw [hb] at hr
   cases b with
   | true =>
     simp only [if_true] at hk
     exact wp_cond_true hr.s_inv (ihx lk regs h k r a w F ρ Q i q hk (p.weak (.refl _ _ _ _) (.refl _ _) fun t ht => by simp only [asg, List.mem_append]; exact .inl ht))
   | false =>
     simp only [Bool.false_eq_true, if_false] at hk
     exact wp_cond_false hr.s_inv (ihy lk regs h k r a w F ρ Q i q hk (p.weak (.refl _ _ _ _) (.refl _ _) fun t ht => by simp only [asg, List.mem_append]; exact .inr ht))
 | block id c ih =>
   intro lk β regs h k r a w F ρ Q i q hk p
   simp only [evalC] at hk
   refine wp_block (ih id regs h _ r a w F ρ _ i q hk fun e regs' X a' w' F' ρ' h' i2 t2 s2 e2 k2 => ?_)
   cases e with
   | normal => obtain ⟨rfl, q2⟩ := e2; exact p .normal regs' .normal a' w' F' ρ' h' i2 t2 s2 ⟨rfl, q2⟩ k2
   | ret => obtain ⟨rfl, q2⟩ := e2; exact p .ret regs' .ret a' w' F' ρ' h' i2 t2 s2 ⟨rfl, q2⟩ k2
   | exit id' =>
     obtain ⟨rfl, q2⟩ := e2
     simp only at k2
     simp only [Exit.inBlock]
     split at k2
     · rename_i hid; rw [if_pos hid]; exact p .normal regs' .normal a' w' F' ρ' h' i2 t2 s2 ⟨rfl, q2⟩ k2
     · rename_i hid; rw [if_neg hid]; exact p (.exit id') regs' _ a' w' F' ρ' h' i2 t2 s2 ⟨rfl, q2⟩ k2
   | panic x => obtain ⟨v, rfl, r2⟩ := e2; exact p (.panic x) [] _ a' w' F' ρ' h' i2 t2 s2 ⟨v, rfl, r2⟩ k2
 | seq x y ihx ihy =>
   intro lk β regs h k r a w F ρ Q i q hk p
   simp only [evalC] at hk
   have hx : ∀ t ∈ asg x, t ∈ asg (.seq x y) := fun t ht => by simp only [asg, List.mem_append]; exact .inl ht
   have hy : ∀ t ∈ asg y, t ∈ asg (.seq x y) := fun t ht => by simp only [asg, List.mem_append]; exact .inr ht
   split at hk
   · refine wp_seq (ihx lk regs h _ r a w F ρ _ i q hk fun e regs' X a' w' F' ρ' h' i2 t2 s2 e2 k2 => ?_)
     cases e with
     | normal => obtain ⟨rfl, q2⟩ := e2; exact ihy lk regs' h' k r a' w' F' ρ' Q i2 q2 k2 (p.weak t2 (s2.mono hx) hy)
     | exit id => obtain ⟨rfl, q2⟩ := e2; exact p (.exit id) regs' _ a' w' F' ρ' h' i2 t2 (s2.mono hx) ⟨rfl, q2⟩ k2
     | ret => obtain ⟨rfl, q2⟩ := e2; exact p .ret regs' _ a' w' F' ρ' h' i2 t2 (s2.mono hx) ⟨rfl, q2⟩ k2
     | panic z => obtain ⟨v, rfl, r2⟩ := e2; exact p (.panic z) [] _ a' w' F' ρ' h' i2 t2 (s2.mono hx) ⟨v, rfl, r2⟩ k2
   · rename_i outs gc _
     unfold oJoin at hk
     split at hk <;> try (cases hk; done)
     rename_i e0 vs0 h0 hj
     refine wp_seq (ihx lk regs h _ (e0, vs0, h0) a w F ρ _ i q hj fun e regs' X a' w' F' ρ' h' i2 t2 s2 e2 k2 => ?_)
     rw [Option.map_eq_some_iff] at k2
     obtain ⟨⟨vs, h1⟩, ht, heq⟩ := k2
     simp only [Prod.mk.injEq] at heq
     obtain ⟨rfl, rfl, rfl⟩ := heq
     have back : trim gc h.length (pickR outs regs') h' = some (vs, h1) → RegsRel P w' F' ρ' h' a'.tmps regs' → Inv P w' F' ρ' h1 ∧ Tr w F ρ h w' F' ρ' h1 ∧ RegsRel P w' F' ρ' h1 a'.tmps (restore (maskR regs (asg x)) outs vs) := fun ht q2 => by
      obtain ⟨rfl, i3, t3, r3⟩ := qgt i2 t2 ht
      exact ⟨i3, t3, qgT i t3 q s2 fun j u hu => r3 j _ (by rw [qhD hu]; exact q2.rel u)⟩
     cases e with
     | normal => obtain ⟨rfl, q2⟩ := e2; obtain ⟨i3, t3, q3⟩ := back ht q2; exact ihy lk _ h1 k r a' w' F' ρ' Q i3 q3 hk (p.weak t3 (s2.mono hx) hy)
     | exit id => obtain ⟨rfl, q2⟩ := e2; obtain ⟨i3, t3, q3⟩ := back ht q2; exact p (.exit id) _ _ a' w' F' ρ' h1 i3 t3 (s2.mono hx) ⟨rfl, q3⟩ hk
     | ret => obtain ⟨rfl, q2⟩ := e2; obtain ⟨i3, t3, q3⟩ := back ht q2; exact p .ret _ _ a' w' F' ρ' h1 i3 t3 (s2.mono hx) ⟨rfl, q3⟩ hk
     | panic z =>
       obtain ⟨v, rfl, r2⟩ := e2
       simp only [trimE, Option.some.injEq, Prod.mk.injEq] at ht
       obtain ⟨rfl, rfl⟩ := ht
       exact p (.panic z) [] _ a' w' F' ρ' h' i2 t2 (s2.mono hx) ⟨v, rfl, r2⟩ hk
 | loop c ih =>
   intro lk β regs h k r a w F ρ Q i q hk p
   simp only [evalC] at hk
   split at hk <;> try (cases hk; done)
   rename_i la hla
   obtain ⟨ρ1, h1, regs1, i1, t1, q1, k1⟩ := qhB la.prom regs ρ h i q hk
   unfold oLoop at k1
   split at k1 <;> try (cases k1; done)
   rename_i e0 vs0 h0 hit
   generalize hst : (fun s : List A × Heap => evalC P E En an c lk (restore (maskR regs1 (asg c)) la.keep s.1) s.2 fun e regs' h' =>
    match e with
    | .normal => (trim la.gc h1.length (pickR la.keep regs') h').map (Sum.inl (β := Ex × List A × Heap))
    | .exit i => (trim la.gc h1.length (pickR la.outs regs') h').map fun p => .inr (.exit i, p.1, p.2)
    | .ret => (trim la.gc h1.length (pickR la.outs regs') h').map fun p => .inr (.ret, p.1, p.2)
    | .panic v => some (.inr (.panic v, pickR la.outs regs', h'))) = step at hit
   have key : ∀ n vs hh a' w' F' ρ', iterN step n (vs, hh) = some (e0, vs0, h0) → Inv P w' F' ρ' hh → Tr w F ρ1 h1 w' F' ρ' hh → Same (asg c) a a' →
    (∀ j u, la.keep[j]? = some u → Rel P w' F' ρ' hh (a'.tmps.getD u undef) (vs.getD j .any)) → Code.rounds P c Q n a' w' := by
    intro n
    induction n with
    | zero => intro vs hh a' w' F' ρ' hi; simp [iterN] at hi
    | succ n ihn =>
      intro vs hh a' w' F' ρ' hi i2 t2 s2 hv
      have q2 := qgT i1 t2 q1 s2 hv
      simp only [iterN] at hi
      split at hi
      · cases hi
      · rename_i s' hs
        obtain ⟨vs', hh'⟩ := s'
        rw [← hst] at hs
        rw [rounds_succ]
        refine ih lk _ hh _ _ a' w' F' ρ' _ i2 q2 hs fun e regs3 X a3 w3 F3 ρ3 h3 i3 t3 s3 e3 k3 => ?_
        cases e with
        | normal =>
          obtain ⟨rfl, q3⟩ := e3
          simp only [Option.map_eq_some_iff, Sum.inl.injEq] at k3
          obtain ⟨⟨vs4, h4⟩, ht, heq⟩ := k3
          cases heq
          obtain ⟨rfl, i5, t5, r5⟩ := qgt i3 (t2.trans t3) ht
          exact ihn _ _ a3 w3 F3 ρ3 hi i5 t5 (s2.trans s3) fun j u hu => r5 j _ (by rw [qhD hu]; exact q3.rel u)
        | exit id => simp at k3
        | ret => simp at k3
        | panic v => simp at k3
      · rename_i r' hs
        simp only [Option.some.injEq] at hi
        subst hi
        rw [← hst] at hs
        rw [rounds_succ]
        refine ih lk _ hh _ _ a' w' F' ρ' _ i2 q2 hs fun e regs3 X a3 w3 F3 ρ3 h3 i3 t3 s3 e3 k3 => ?_
        have back : ∀ vs4 h4, trim la.gc h1.length (pickR la.outs regs3) h3 = some (vs4, h4) → RegsRel P w3 F3 ρ3 h3 a3.tmps regs3 → Inv P w3 F3 ρ3 h4 ∧ Tr w F ρ h w3 F3 ρ3 h4 ∧ RegsRel P w3 F3 ρ3 h4 a3.tmps (restore (maskR regs1 (asg c)) la.outs vs4) := fun vs4 h4 ht q3 => by
         obtain ⟨rfl, i5, t5, r5⟩ := qgt i3 (t2.trans t3) ht
         exact ⟨i5, t1.trans t5, qgT i1 t5 q1 (s2.trans s3) fun j u hu => r5 j _ (by rw [qhD hu]; exact q3.rel u)⟩
        cases e with
        | normal => simp at k3
        | exit id =>
          obtain ⟨rfl, q3⟩ := e3
          simp only [Option.map_eq_some_iff, Sum.inr.injEq, Prod.mk.injEq] at k3
          obtain ⟨⟨vs4, h4⟩, ht, rfl, rfl, rfl⟩ := k3
          obtain ⟨b1, b2, b3⟩ := back _ _ ht q3
          exact p (.exit id) _ _ a3 w3 F3 ρ3 h4 b1 b2 (s2.trans s3) ⟨rfl, b3⟩ k1
        | ret =>
          obtain ⟨rfl, q3⟩ := e3
          simp only [Option.map_eq_some_iff, Sum.inr.injEq, Prod.mk.injEq] at k3
          obtain ⟨⟨vs4, h4⟩, ht, rfl, rfl, rfl⟩ := k3
          obtain ⟨b1, b2, b3⟩ := back _ _ ht q3
          exact p .ret _ _ a3 w3 F3 ρ3 h4 b1 b2 (s2.trans s3) ⟨rfl, b3⟩ k1
        | panic v =>
          obtain ⟨u, rfl, r3⟩ := e3
          simp only [Option.some.injEq, Sum.inr.injEq, Prod.mk.injEq] at k3
          obtain ⟨rfl, rfl, rfl⟩ := k3
          exact p (.panic v) [] _ a3 w3 F3 ρ3 h3 i3 (t1.trans (t2.trans t3)) (s2.trans s3) ⟨u, rfl, r3⟩ k1
   exact wp_loop_rounds big (key big _ _ a w F ρ1 hit i1 (.refl _ _ _ _) (.refl _ _) fun j u hu => by rw [qhD hu]; exact q1.rel u)
 | _ =>
   intro lk β regs h k r a w F ρ Q i q hk p
   simp only [evalC] at hk
   cases hk
end
end Go.Ab
