/-
 A REGION WHOSE ORDER IS OPEN does what its text's order says.
-/
import Derived.Test.YtocnjegcmmfpfaaAbsDrawF
set_option linter.unusedSimpArgs false
set_option linter.unusedVariables false
namespace Go.Ab
open Go
section
variable {P : Program} {β : Type} {r : β} {h h' h1 h2 : Heap} {v : A} {w w' : World} {F F' : Cells} {ρ ρ' : Nat → Reg}
theorem qjN {ops : Array Oper} {o : Oper} {regs : List A} {tmps : Array Value} {b : Bool} (q : RegsRel P w F ρ h tmps regs) (hg : gate ops o regs = some b) : Region.wanted o (yielded ops tmps) = b := by
 unfold gate at hg
 split at hg
 · rename_i h; simp at hg; subst hg; simp [Region.wanted, h]
 · rename_i j want hj
   split at hg <;> try (cases hg; done)
   rename_i t ht
   rw [qlp hj ht]
   have hr := q.rel t
   split at hg <;> try (cases hg; done)
   · rename_i b' hb
     rw [hb] at hr
     rw [hr.s_inv]
     simpa using hg
   · rename_i a ha
     rw [ha] at hr
     rw [hr.s_inv]
     split at hg <;> simp at hg
     exact hg.symm ▸ rfl
theorem dOp_sound {E : FuncId → CallFn} {En : String → CallFn} {an : FAnn} {ops : Array Oper} {Q : Exit → Act → World → Prop} {K : Act → World → Prop} {idx : Nat} {o : Oper} {d : DM} {s s1 : List A × Heap} {a : Act} (hE : SoundE P E En)
 (hi : ops[idx]? = some o) (i : Inv P w F ρ s.2) (q : RegsRel P w F ρ s.2 a.tmps s.1) (hk : dOp P E En an ops o d s = some s1)
 (hK : ∀ v w' F' ρ', Inv P w' F' ρ' s1.2 → Tr w F ρ s.2 w' F' ρ' s1.2 → RegsRel P w' F' ρ' s1.2 (a.put o.dst v).tmps s1.1 → K (a.put o.dst v) w') : wpOp P ops Q idx K a w := by
 simp only [dOp, Option.map_eq_some_iff] at hk
 obtain ⟨⟨x, h1⟩, hk, rfl⟩ := hk
 unfold dVal at hk
 unfold wpOp
 simp only [hi]
 split at hk
 · rename_i hg
   rw [qjN q hg]
   simp only [if_true]
   refine .inl ((qfa hE i q o hk).wp (fun v w' F' ρ' h' y i' t' hr hk' => ?_) fun v w' F' ρ' h' y i' t' hr hk' => by cases hk')
   simp only [kSome, Option.some.injEq, Prod.mk.injEq] at hk'
   obtain ⟨rfl, rfl⟩ := hk'
   exact hK v w' F' ρ' i' t' ((q.step i t').put hr _)
 · rename_i hg
   rw [qjN q hg]
   simp only [Option.some.injEq, Prod.mk.injEq] at hk
   obtain ⟨rfl, rfl⟩ := hk
   simp only [Bool.false_eq_true, if_false]
   exact hK undef w F ρ i (.refl _ _ _ _) (q.put (.s_mk _) _)
 · cases hk
theorem Good.step {E : FuncId → CallFn} {En : String → CallFn} {an : FAnn} {ops : Array Oper} {o : Oper} {d : DM} {s s1 : List A × Heap} (hE : SoundE P E En) (g : Good P s) (hk : dOp P E En an ops o d s = some s1) : Good P s1 := by
 obtain ⟨a, w, F, ρ, i, q⟩ := g
 simp only [dOp, Option.map_eq_some_iff] at hk
 obtain ⟨⟨x, h1⟩, hk, rfl⟩ := hk
 unfold dVal at hk
 split at hk
 · rcases qfa hE i q o hk with ⟨n, v, w', F', ρ', h', y, e1, e2, e3, e4, e5, e6⟩ | ⟨f, args, e1, e2⟩
   · simp only [kSome, Option.some.injEq, Prod.mk.injEq] at e6
     obtain ⟨rfl, rfl⟩ := e6
     exact ⟨a.put o.dst v, w', F', ρ', e4, (q.step i e5).put e3 _⟩
   · obtain ⟨e, w', fr, ⟨F', ρ', h', i', t', he⟩, _⟩ := e2 []
     cases e with
     | returned v =>
       obtain ⟨y, hr, e6⟩ := he
       simp only [kSome, Option.some.injEq, Prod.mk.injEq] at e6
       obtain ⟨rfl, rfl⟩ := e6
       exact ⟨a.put o.dst v, w', F', ρ', i', (q.step i t').put hr _⟩
     | panicked c => obtain ⟨_, _, _, _, hh⟩ := he; cases hh
     | outgrown => exact he.elim
 · simp only [Option.some.injEq, Prod.mk.injEq] at hk
   obtain ⟨rfl, rfl⟩ := hk
   exact ⟨a.put o.dst undef, w, F, ρ, i, q.put (.s_mk _) _⟩
 · cases hk
def Turns (an : FAnn) (ops : Array Oper) (n0 : Nat) (wr : List Nat) (x y : Oper × DM) : Prop := (x.2.n0 = n0 ∧ x.2.wr = wr) ∧ (y.2.n0 = n0 ∧ y.2.wr = wr) ∧ n0 ≤ x.2.slot ∧ n0 ≤ y.2.slot ∧ mayTurn (clsA an x.2.st x.1) (clsA an y.2.st y.1) = true ∧ x.1.apart ops y.1 = true
theorem qkt {E : FuncId → CallFn} {En : String → CallFn} {an : FAnn} {ops : Array Oper} {n0 : Nat} {wr : List Nat} (hE : SoundE P E En) (y : Oper × DM) (l2 : List (Oper × DM)) :
 ∀ (l1 : List (Oper × DM)) (s sf : List A × Heap), Good P s → (∀ x ∈ l1, Turns an ops n0 wr x y) → dOps P E En an ops (l1 ++ y :: l2) s = some sf →
   ∃ s1, dOp P E En an ops y.1 y.2 s = some s1 ∧ dOps P E En an ops (l1 ++ l2) s1 = some sf
 | [], s, sf, g, _, hk => by
   obtain ⟨o, d⟩ := y
   simp only [List.nil_append, dOps, Option.bind_eq_some_iff] at hk
   exact hk
 | (ox, dx) :: l1, s, sf, g, ht, hk => by
   simp only [List.cons_append, dOps, Option.bind_eq_some_iff] at hk
   obtain ⟨s1, hx, hk⟩ := hk
   obtain ⟨s2, hy, hk⟩ := qkt hE y l2 l1 s1 sf (g.step hE hx) (fun x hx => ht x (by simp [hx])) hk
   obtain ⟨t1, t2, t3, t4, t5, t6⟩ := ht (ox, dx) (by simp)
   obtain ⟨s1', e1, e2⟩ := dOp_swap g (by rw [t1.1]; exact t3) (by rw [t2.1]; exact t4) (t1.1.trans t2.1.symm) (t1.2.trans t2.2.symm) t5 t6 hx hy
   refine ⟨s1', e1, ?_⟩
   simp only [List.cons_append, dOps, e2, Option.bind_some]
   exact hk
theorem qjQ (f : Array Nat → Oper → Nat) : ∀ (l : List Oper) (acc : Array Nat), ∃ m : List Nat, (l.foldl (fun acc o => acc.push (f acc o)) acc).toList = acc.toList ++ m ∧ m.length = l.length ∧
 ∀ (i : Nat) o, l[i]? = some o → m[i]? = some (f ((acc.toList ++ m.take i).toArray) o)
 | [], acc => ⟨[], by simp, rfl, fun i o h => by simp at h⟩
 | x :: l, acc => by
   obtain ⟨m, h1, h2, h3⟩ := qjQ f l (acc.push (f acc x))
   refine ⟨f acc x :: m, by simp [h1], by simp [h2], fun i o ho => ?_⟩
   cases i with
   | zero => simp at ho; subst ho; simp
   | succ i =>
     simp at ho
     have := h3 i o ho
     simp only [List.getElem?_cons_succ, List.take_succ_cons]
     rw [this]
     simp
theorem qkx {ops : Array Oper} {i : Nat} {o : Oper} (ho : ops[i]? = some o) : (Region.before ops).getD i 0 =
 o.after.foldl (fun s e => if Region.binds .any e then s ||| 2 ^ e.on ||| (((Region.before ops).toList.take i).toArray).getD e.on 0 else s) 0 := by
 unfold Region.before
 rw [← Array.foldl_toList]
 obtain ⟨m, h1, h2, h3⟩ := qjQ (fun acc o => o.after.foldl (fun s e => if Region.binds .any e then s ||| 2 ^ e.on ||| acc.getD e.on 0 else s) 0) ops.toList #[]
 have := h3 i o (by simpa using ho)
 simp only [List.nil_append] at h1 this
 rw [h1]
 rw [Array.getD_eq_getD_getElem?, ← Array.getElem?_toList, h1, this]
 rfl
theorem qfV (P : Nat → Prop) (f : Edge → Nat) : ∀ (l : List Edge) (s : Nat), (∀ p, s.testBit p = true → P p) → (∀ e ∈ l, Region.binds .any e = true → P e.on ∧ ∀ p, (f e).testBit p = true → P p) →
 ∀ p, (l.foldl (fun s e => if Region.binds .any e then s ||| 2 ^ e.on ||| f e else s) s).testBit p = true → P p
 | [], s, hs, _ => by simpa using hs
 | e :: l, s, hs, hl => by
   simp only [List.foldl_cons]
   refine qfV P f l _ (fun p hp => ?_) fun e he => hl e (by simp [he])
   split at hp
   · rename_i hb
     obtain ⟨h1, h2⟩ := hl e (by simp) hb
     simp only [Nat.testBit_or, Bool.or_eq_true] at hp
     rcases hp with (hp | hp) | hp
     · exact hs p hp
     · rw [Nat.testBit_two_pow] at hp
       simp at hp; subst hp; exact h1
     · exact h2 p hp
   · exact hs p hp
theorem qja {ops : Array Oper} (he : edgesOk ops = true) {i : Nat} {o : Oper} (ho : ops[i]? = some o) : ∀ e ∈ o.after, Region.binds .any e = true → e.on < i := by
 intro e hm hb
 unfold edgesOk at he
 rw [List.all_eq_true] at he
 have hmem : (o, i) ∈ ops.toList.zipIdx := by
  rw [List.mem_zipIdx_iff_getElem?]; simpa using ho
 have := he (o, i) hmem
 simp only [List.all_eq_true] at this
 have := this e (by simpa using hm)
 simpa [hb] using this
theorem before_in {ops : Array Oper} (he : edgesOk ops = true) {S : Nat → Prop} (hS : ∀ m o, S m → ops[m]? = some o → ∀ e ∈ o.after, Region.binds .any e = true → S e.on) :
 ∀ (m : Nat) o, ops[m]? = some o → (∀ e ∈ o.after, Region.binds .any e = true → S e.on) → ∀ p, ((Region.before ops).getD m 0).testBit p = true → S p := by
 intro m
 induction m using Nat.strongRecOn with
 | _ m ih =>
   intro o ho hd p hp
   rw [qkx ho, ← Array.foldl_toList] at hp
   refine qfV S _ _ 0 (by simp) (fun e hm hb => ⟨hd e (by simpa using hm) hb, fun p hp => ?_⟩) p hp
   have hlt := qja he ho e (by simpa using hm) hb
   have hSe := hd e (by simpa using hm) hb
   have hget : (((Region.before ops).toList.take m).toArray).getD e.on 0 = (Region.before ops).getD e.on 0 := by
    simp only [Array.getD_eq_getD_getElem?, List.getElem?_toArray, List.getElem?_take, if_pos hlt, Array.getElem?_toList]
   rw [hget] at hp
   have hlt' : m < ops.size := (Array.getElem?_eq_some_iff.1 ho).1
   have ho' : ops[e.on]? = some (ops[e.on]'(by omega)) := Array.getElem?_eq_getElem _
   exact ih e.on hlt _ ho' (hS e.on _ hSe ho') p hp
theorem before_lt {ops : Array Oper} (he : edgesOk ops = true) : ∀ (m : Nat) o, ops[m]? = some o → ∀ p, ((Region.before ops).getD m 0).testBit p = true → p < m := by
 intro m
 induction m using Nat.strongRecOn with
 | _ m ih =>
   intro o ho p hp
   rw [qkx ho, ← Array.foldl_toList] at hp
   refine qfV (· < m) _ _ 0 (by simp) (fun e hm hb => ⟨qja he ho e (by simpa using hm) hb, fun p hp => ?_⟩) p hp
   have hlt := qja he ho e (by simpa using hm) hb
   have hget : (((Region.before ops).toList.take m).toArray).getD e.on 0 = (Region.before ops).getD e.on 0 := by
    simp only [Array.getD_eq_getD_getElem?, List.getElem?_toArray, List.getElem?_take, if_pos hlt, Array.getElem?_toList]
   rw [hget] at hp
   have hlt' : m < ops.size := (Array.getElem?_eq_some_iff.1 ho).1
   have ho' : ops[e.on]? = some (ops[e.on]'(by omega)) := Array.getElem?_eq_getElem _
   have := ih e.on hlt _ ho' p hp
   omega
theorem turns_spec {an : FAnn} {st : Bool} {ops : Array Oper} (ht : turnsOk an st ops = true) {i j : Nat} {x y : Oper} (hx : ops[i]? = some x) (hy : ops[j]? = some y) (hij : i < j) (h1 : ((Region.before ops).getD j 0).testBit i = false) (h2 : ((Region.before ops).getD i 0).testBit j = false) :
 mayTurn (clsA an (stOf an st x) x) (clsA an (stOf an st y) y) = true ∧ x.apart ops y = true := by
 unfold turnsOk at ht
 simp only [List.all_eq_true, List.mem_range] at ht
 have hj := (Array.getElem?_eq_some_iff.1 hy).1
 have := ht j hj i hij
 simp only [unordered, h1, h2, Bool.not_false, Bool.and_self, Bool.not_true, Bool.false_or, hx, hy, Bool.and_eq_true] at this
 exact this
abbrev Item3 := (Oper × DM) × Nat
def left (all : List Item3) (listed : Array Bool) : List Item3 := all.filter fun x => !listed.getD x.2 true
theorem qmf {all : List Item3} (hs : all.Pairwise (fun a b => a.2 < b.2)) {x : Item3} (hx : x ∈ all) {p : Item3 → Bool} (hp : p x = true) :
 ∃ l1 l2, all.filter p = l1 ++ x :: l2 ∧ (all.filter fun y => p y && !(y.2 == x.2)) = l1 ++ l2 ∧ (∀ y ∈ l1, y ∈ all ∧ p y = true ∧ y.2 < x.2) := by
 induction all with
 | nil => cases hx
 | cons a r ih =>
   rw [List.pairwise_cons] at hs
   obtain ⟨ha, hr⟩ := hs
   by_cases hax : a = x
   · subst hax
     refine ⟨[], r.filter p, by simp [hp], ?_, by simp⟩
     simp only [List.filter_cons, hp, beq_self_eq_true, Bool.not_true, Bool.and_false, Bool.false_eq_true, if_false, List.nil_append]
     refine List.filter_congr fun y hy => ?_
     have := ha y hy
     have hne : (y.2 == a.2) = false := by simp; omega
     simp [hne]
   · have hxr : x ∈ r := by
      simp only [List.mem_cons] at hx
      rcases hx with h | h
      · exact absurd h.symm hax
      · exact h
     obtain ⟨l1, l2, h1, h2, h3⟩ := ih hr hxr
     have hlt := ha x hxr
     have hne : (a.2 == x.2) = false := by simp; omega
     by_cases hpa : p a = true
     · refine ⟨a :: l1, l2, by simp [hpa, h1], ?_, fun y hy => ?_⟩
       · simp only [List.filter_cons, hpa, hne, Bool.not_false, Bool.and_self, if_true, h2, List.cons_append]
       · simp at hy; rcases hy with rfl | hy
         · exact ⟨by simp, hpa, hlt⟩
         · obtain ⟨e1, e2, e3⟩ := h3 y hy; exact ⟨by simp [e1], e2, e3⟩
     · have hpa' : p a = false := by simpa using hpa
       refine ⟨l1, l2, by simp [hpa', h1], ?_, fun y hy => ?_⟩
       · simp only [List.filter_cons, hpa', Bool.false_and, Bool.false_eq_true, if_false, h2]
       · obtain ⟨e1, e2, e3⟩ := h3 y hy; exact ⟨by simp [e1], e2, e3⟩
theorem left_set {all : List Item3} {listed : Array Bool} {i : Nat} (hi : i < listed.size) : left all (listed.setIfInBounds i true) = all.filter fun y => (!listed.getD y.2 true) && !(y.2 == i) := by
 unfold left
 refine List.filter_congr fun y _ => ?_
 by_cases hy : y.2 = i
 · rw [hy]
   simp [hi]
 · have hne : (y.2 == i) = false := by simpa using hy
   rw [getD_set_ne true (Ne.symm hy), hne]; simp
theorem qmp {E : FuncId → CallFn} {En : String → CallFn} {an : FAnn} {ops : Array Oper} {Q : Exit → Act → World → Prop} {n0 : Nat} {wr : List Nat} {all : List Item3} {sf : List A × Heap} {st : Bool} (hE : SoundE P E En) (ht : turnsOk an st ops = true) (he : edgesOk ops = true)
 (hs : all.Pairwise (fun a b => a.2 < b.2)) (hall : ∀ x ∈ all, ops[x.2]? = some x.1.1 ∧ (x.1.2.n0 = n0 ∧ x.1.2.wr = wr ∧ x.1.2.st = stOf an st x.1.1) ∧ n0 ≤ x.1.2.slot) (hcov : ∀ (i : Nat) o, ops[i]? = some o → ∃ x ∈ all, x.2 = i) :
 ∀ (fuel : Nat) (listed : Array Bool) (s : List A × Heap) (a : Act) (w : World) (F : Cells) (ρ : Nat → Reg), listed.size = ops.size → (left all listed).length ≤ fuel →
   (∀ m o, listed.getD m false = true → ops[m]? = some o → ∀ e ∈ o.after, Region.binds .any e = true → listed.getD e.on false = true) →
   Inv P w F ρ s.2 → RegsRel P w F ρ s.2 a.tmps s.1 → dOps P E En an ops ((left all listed).map (·.1)) s = some sf →
   (∀ a' w' F' ρ', Inv P w' F' ρ' sf.2 → Tr w F ρ s.2 w' F' ρ' sf.2 → RegsRel P w' F' ρ' sf.2 a'.tmps sf.1 → Same (asgOps ops.toList) a a' → Q .normal a' w') →
   wpAny P .any ops Q fuel listed a w := by
 have nothing : ∀ (listed : Array Bool), listed.size = ops.size → Region.ready .any ops listed = [] → left all listed = [] := by
  intro listed hsz hr
  apply Classical.byContradiction
  intro hne
  have key : ∀ n, ∀ x ∈ left all listed, x.2 = n → False := by
   intro n
   induction n using Nat.strongRecOn with
   | _ n ih =>
     intro x hx hxn
     unfold left at hx
     rw [List.mem_filter] at hx
     obtain ⟨hx1, hx2⟩ := hx
     obtain ⟨ho, _⟩ := hall x hx1
     have : n ∈ Region.ready .any ops listed := by
      rw [mem_ready]
      refine ⟨by rw [← hxn]; simpa using hx2, x.1.1, by rw [← hxn]; exact ho, fun e hm hb => ?_⟩
      have hlt := qja he ho e hm hb
      have hlt' := (Array.getElem?_eq_some_iff.1 ho).1
      apply Classical.byContradiction
      intro hnl
      obtain ⟨y, hy1, hy2⟩ := hcov e.on _ (Array.getElem?_eq_getElem (show e.on < ops.size by omega))
      refine ih e.on (by omega) y ?_ hy2
      unfold left
      rw [List.mem_filter]
      refine ⟨hy1, ?_⟩
      rw [hy2]
      have hin : e.on < listed.size := by omega
      simp [hin] at hnl ⊢
      exact hnl
     rw [hr] at this; cases this
  cases hl : left all listed with
  | nil => exact hne hl
  | cons x r => exact key x.2 x (by rw [hl]; simp) rfl
 intro fuel
 induction fuel with
 | zero =>
   intro listed s a w F ρ hsz hlen hdown i q hk hQ
   have hl : left all listed = [] := List.length_eq_zero_iff.1 (by omega)
   rw [hl] at hk
   simp only [List.map_nil, dOps, Option.some.injEq] at hk
   subst hk
   refine ⟨?_, hQ a w F ρ i (.refl _ _ _ _) q (.refl _ _)⟩
   apply List.eq_nil_iff_forall_not_mem.2
   intro j hj
   obtain ⟨h0, o, ho, _⟩ := mem_ready.1 hj
   obtain ⟨x, hx1, hx2⟩ := hcov j o ho
   have : x ∈ left all listed := by unfold left; rw [List.mem_filter]; exact ⟨hx1, by rw [hx2, h0]; rfl⟩
   rw [hl] at this; cases this
 | succ fuel ih =>
   intro listed s a w F ρ hsz hlen hdown i q hk hQ
   refine ⟨fun hr => ?_, fun j hj => ?_⟩
   · rw [nothing listed hsz hr] at hk
     simp only [List.map_nil, dOps, Option.some.injEq] at hk
     subst hk
     exact hQ a w F ρ i (.refl _ _ _ _) q (.refl _ _)
   · obtain ⟨h0, o, ho, hall'⟩ := mem_ready.1 hj
     have hjl : j < ops.size := (Array.getElem?_eq_some_iff.1 ho).1
     obtain ⟨x, hx1, hx2⟩ := hcov j o ho
     obtain ⟨hxo, hxn, hxs⟩ := hall x hx1
     rw [hx2, ho] at hxo
     cases hxo
     obtain ⟨l1, l2, g1, g2, g3⟩ := qmf hs hx1 (p := fun y => !listed.getD y.2 true) (by rw [hx2, h0]; rfl)
     have hleft : left all listed = l1 ++ x :: l2 := g1
     have hleft' : left all (listed.setIfInBounds j true) = l1 ++ l2 := by rw [left_set (by omega), ← hx2]; exact g2
     rw [hleft] at hk
     simp only [List.map_append, List.map_cons] at hk
     have turns : ∀ y ∈ l1.map (·.1), Turns an ops n0 wr y x.1 := by
      intro y hy
      rw [List.mem_map] at hy
      obtain ⟨y, hy, rfl⟩ := hy
      obtain ⟨y1, y2, y3⟩ := g3 y hy
      obtain ⟨hyo, hyn, hys⟩ := hall y y1
      have hylt := (Array.getElem?_eq_some_iff.1 hyo).1
      have nb1 : ((Region.before ops).getD j 0).testBit y.2 = false := by
       cases hb : ((Region.before ops).getD j 0).testBit y.2 with
       | false => rfl
       | true =>
         have := before_in he (S := fun m => listed.getD m false = true) hdown j x.1.1 ho hall' y.2 hb
         have hin : y.2 < listed.size := by omega
         simp [hin] at this y2
         rw [this] at y2; cases y2
      have nb2 : ((Region.before ops).getD y.2 0).testBit j = false := by
       cases hb : ((Region.before ops).getD y.2 0).testBit j with
       | false => rfl
       | true => have := before_lt he y.2 _ hyo j hb; omega
      obtain ⟨m1, m2⟩ := turns_spec ht hyo ho (by omega) nb1 nb2
      exact ⟨⟨hyn.1, hyn.2.1⟩, ⟨hxn.1, hxn.2.1⟩, hys, hxs, by rw [hyn.2.2, hxn.2.2]; exact m1, m2⟩
     obtain ⟨s1, e1, e2⟩ := qkt hE x.1 (l2.map (·.1)) (l1.map (·.1)) s sf ⟨a, w, F, ρ, i, q⟩ turns hk
     refine dOp_sound hE ho i q e1 fun v w' F' ρ' i' t' q' => ?_
     have hsub : ∀ d, x.1.1.dst = some d → d ∈ asgOps ops.toList := fun d hd => by
      simp only [asgOps, List.mem_filterMap]
      exact ⟨x.1.1, by simpa using Array.mem_of_getElem? ho, hd⟩
     refine ih _ s1 _ w' F' ρ' (by simpa using hsz) ?_ (fun m om hm hom e hem hb => ?_) i' q' (by rw [hleft', List.map_append]; exact e2)
      (fun a' w2 F2 ρ2 i2 t2 q2 s2 => hQ a' w2 F2 ρ2 i2 (t'.trans t2) q2 ((Same.put a x.1.1.dst v hsub).trans s2))
     · rw [hleft']; rw [hleft] at hlen; simp at hlen ⊢; omega
     · by_cases hmj : j = m
       · subst hmj
         rw [ho] at hom; cases hom
         exact getD_set_true (hall' e hem hb)
       · rw [getD_set_ne false hmj] at hm
         exact getD_set_true (hdown m om hm hom e hem hb)
def qbP (an : FAnn) (n0 : Nat) (wr : List Nat) (st : Bool) : Nat → List Oper → List (Oper × DM)
 | _, [] => []
 | s, o :: r => (o, ⟨n0, wr, s, stOf an st o⟩) :: qbP an n0 wr st (if isMaker o then s + 1 else s) r
theorem qip (an : FAnn) (n0 : Nat) (wr : List Nat) (st : Bool) : ∀ (l : List Oper) (s : Nat), qfc an n0 wr st s l = (qbP an n0 wr st s l).map fun x => (x.1, some x.2)
 | [], s => rfl
 | o :: l, s => by simp only [qfc, qbP, List.map_cons, qip an n0 wr st l]
theorem qer (an : FAnn) (n0 : Nat) (wr : List Nat) (st : Bool) : ∀ (l : List Oper) (s : Nat) (i : Nat), (qbP an n0 wr st s l)[i]?.map (·.1) = l[i]? ∧ ∀ x, (qbP an n0 wr st s l)[i]? = some x → (x.2.n0 = n0 ∧ x.2.wr = wr ∧ x.2.st = stOf an st x.1) ∧ s ≤ x.2.slot
 | [], s, i => by simp [qbP]
 | o :: l, s, i => by
   cases i with
   | zero => simp [qbP]
   | succ i =>
     obtain ⟨h1, h2⟩ := qer an n0 wr st l (if isMaker o then s + 1 else s) i
     refine ⟨by simpa [qbP] using h1, fun x hx => ?_⟩
     have := h2 x (by simpa [qbP] using hx)
     refine ⟨this.1, ?_⟩
     have := this.2
     split at this <;> omega
theorem drawSound {E : FuncId → CallFn} {En : String → CallFn} (hmix : P.follows .mixedOrders = true) (hE : SoundE P E En) : qjU P E En := by
 intro β an id ops Q regs k r a w F ρ h wr st ht he i q hk hN
 rw [qip] at hk
 obtain ⟨s, h1, h2⟩ := qfD _ [] _ _ k (fun t ht => by simp at ht) hk
 obtain ⟨i1, t1⟩ := i.resv (makers ops.toList)
 have t0 : Tr w F ρ h { w with drawn := w.drawn + 1 } F ρ h := ⟨qbV _ w, fun _ _ h => h, fun _ _ h => .inl h, fun _ _ h => .inl h, .refl _ _⟩
 have i0 : Inv P { w with drawn := w.drawn + 1 } F ρ h := ⟨fun id ob hob => by
  have k := i.obj id ob hob
  exact ⟨k.sz, k.pos, k.len, k.width, k.cell, fun a b ha hb => let ⟨v, h1, h2, h3⟩ := k.rel a b ha hb; ⟨v, h1, h2, h3.step i t0⟩⟩, i.disj, i.fin, fun id kd es hes => (i.mp id kd es hes).keep (fun _ _ h => h) (fun _ _ _ => rfl) rfl, i.mpd⟩
 obtain ⟨i2, t2⟩ := i0.resv (makers ops.toList)
 have t3 := t0.trans t2
 refine wp_region_any hmix ?_
 let all : List Item3 := (qbP an h.length wr st h.length ops.toList).zipIdx
 have hmem : ∀ x, x ∈ all ↔ (qbP an h.length wr st h.length ops.toList)[x.2]? = some x.1 := fun x => by
  obtain ⟨y, j⟩ := x; exact List.mem_zipIdx_iff_getElem?
 have hleft : left all (Array.replicate ops.size false) = all := by
  unfold left
  rw [List.filter_eq_self]
  intro x hx
  have := (qer an h.length wr st ops.toList h.length x.2).1
  rw [(hmem x).1 hx] at this
  simp only [Option.map_some] at this
  have hl := (List.getElem?_eq_some_iff.1 this.symm).1
  simp at hl
  simp [hl]
 refine qmp (n0 := h.length) (wr := wr) (all := all) (sf := s) (an := an) hE ht he ?_ (fun x hx => ?_) (fun j o ho => ?_) ops.size _ (regs, resv (makers ops.toList) h) a _ F ρ (by simp) ?_ (fun m o hm ho e hem hb => ?_) i2 (q.step i t3) ?_ ?_
 · rw [List.pairwise_iff_getElem]
   intro a b ha hb hab
   simp only [all, List.getElem_zipIdx]
   omega
 · obtain ⟨g1, g2⟩ := qer an h.length wr st ops.toList h.length x.2
   have hx' := (hmem x).1 hx
   rw [hx'] at g1
   simp only [Option.map_some] at g1
   exact ⟨by simpa using g1.symm, (g2 _ hx').1, (g2 _ hx').2⟩
 · obtain ⟨g1, g2⟩ := qer an h.length wr st ops.toList h.length j
   have ho' : ops.toList[j]? = some o := by simpa using ho
   rw [ho', Option.map_eq_some_iff] at g1
   obtain ⟨y, hy, _⟩ := g1
   exact ⟨(y, j), (hmem _).2 hy, rfl⟩
 · rw [hleft]
   simp only [all, List.length_zipIdx]
   have : ∀ (l : List Oper) s, (qbP an h.length wr st s l).length = l.length := by
    intro l
    induction l with
    | nil => intro s; rfl
    | cons o l ih => intro s; simp [qbP, ih]
   rw [this]; simp
 · by_cases hm' : m < ops.size
   · simp [hm'] at hm
   · have := (Array.getElem?_eq_some_iff.1 ho).1; omega
 · rw [hleft]
   have : all.map (·.1) = qbP an h.length wr st h.length ops.toList := by
    simp only [all]; exact List.zipIdx_map_fst _ _
   rw [this]; exact h1
 · intro a' w' F' ρ' i' t' q' s'
   exact hN a' w' F' ρ' s.2 s.1 i' (t3.trans t') q' s' h2
end
end Go.Ab
