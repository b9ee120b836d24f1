/-
 THE SAME RUN, its slots held as a function: what the kernel reckons quickly.
-/
import Derived.Test.YtocnjegcmmfpfaaAbsEval
set_option linter.unusedSimpArgs false
set_option linter.unusedVariables false
namespace Go.Ab
open Go
abbrev Slots := Nat → A
def updF (f : Slots) (d : Nat) (v : A) : Slots := fun t => cond (Nat.beq t d) v (f t)
def putF (n : Nat) (f : Slots) (dst : Option Nat) (v : A) : Slots :=
 match dst with
 | some d => cond (Nat.blt d n) (updF f d v) f
 | none => f
def pickF (l : List Nat) (f : Slots) : List A := l.map f
def qiv (n : Nat) (vs : List A) : Nat → Slots → List Nat → Slots
 | i, f, t :: ts => qiv n vs (i + 1) (putF n f (some t) (vs.getD i .any)) ts
 | _, f, [] => f
def qf3 (n : Nat) (f : Slots) (ts : List Nat) (vs : List A) : Slots := qiv n vs 0 f ts
def maskF : Slots → List Nat → Slots
 | f, t :: ts => maskF (updF f t .any) ts
 | f, [] => f
def opndF (P : Program) (f : Slots) : Operand → A
 | .tmp t => f t
 | .const v => .s v
 | .global g => .s (.pointer (some ⟨g, 0, none⟩))
 | .func f => match P.funcs[f]? with
   | some fn => .fn fn.name []
   | none => .any
section
variable {β : Type}
def qgo (P : Program) (E : FuncId → CallFn) (En : String → CallFn) (an : FAnn) (dm : Option DM) (o : Oper) (f : Slots) (h : Heap) (k kp : A → Heap → Option β) : Option β :=
 match cls o.op with
 | .p => evalP P o.op (opndF P f) (fun v => k v h)
 | _ => evalH P E En (match o.dst with | some d => an.raw.contains d | none => false) (match o.dst with | some d => an.bor.contains d | none => dm.isNone) dm o.op (opndF P f) h k kp
def qeD (P : Program) (E : FuncId → CallFn) (En : String → CallFn) (an : FAnn) (ops0 : Array Oper) (n : Nat) (kp : A → Heap → Option β) :
    List (Oper × Option DM) → List Nat → Slots → Heap → (Slots → Heap → Option β) → Option β
 | [], _, f, h, k => k f h
 | (o, dm) :: rest, kn, f, h, k =>
   match o.guard with
   | none => qgo P E En an dm o f h (fun v h => qeD P E En an ops0 n kp rest (knOff kn o.dst) (putF n f o.dst v) h k) kp
   | some (j, want) =>
     match (ops0[j]?).bind (·.dst) with
     | none => none
     | some t =>
       if kn.contains t then qeD P E En an ops0 n kp rest (knOn kn o.dst n) (putF n f o.dst (.s undef)) h k
       else
        oGuard (f t) want
         (fun _ => qgo P E En an dm o (putF n f (some t) (.bool want)) h (fun v h => qeD P E En an ops0 n kp rest (knOff kn o.dst) (putF n (putF n f (some t) (.bool want)) o.dst v) h k) kp)
         (fun _ => qeD P E En an ops0 n kp rest (knOn kn o.dst n) (putF n (putF n f (some t) (.bool !want)) o.dst (.s undef)) h k)
end
def anyF : Slots := fun _ => .any
def evalCF (P : Program) (E : FuncId → CallFn) (En : String → CallFn) (an : FAnn) (n : Nat) :
    Code → (lk : Nat) → {β : Type} → Slots → Heap → (Ex → Slots → Heap → Option β) → Option β
 | .skip, _, _, f, h, k => k .normal f h
 | .region rid ops draw, _, _, f, h, k =>
   if draw then
    if turnsOk an (an.sts.contains rid) ops && edgesOk ops then
     qeD P E En an ops n (fun _ _ => none) (qfc an h.length (wrL h ((wrsAt an rid).map fun p => (f p.1, p.2))) (an.sts.contains rid) h.length ops.toList) [] f (resv (makers ops.toList) h) (fun f h => k .normal f h)
    else none
   else qeD P E En an ops n (fun v h => k (.panic v) anyF h) (ops.toList.map fun o => (o, none)) [] f h (fun f h => k .normal f h)
 | .seq a b, lk, _, f, h, k =>
   match joinAt an a with
   | none => evalCF P E En an n a lk f h fun e f h =>
     match e with
     | .normal => evalCF P E En an n b lk f h k
     | .exit i => k (.exit i) f h
     | .ret => k .ret f h
     | .panic v => k (.panic v) anyF h
   | some (outs, gc) =>
     oJoin (evalCF P E En an n a lk f h fun e f' h' => (trimE e gc h.length (pickF outs f') h').map fun (vs, h') => (e, vs, h')) fun e vs h =>
      match e with
      | .normal => evalCF P E En an n b lk (qf3 n (maskF f (asg a)) outs vs) h k
      | .exit i => k (.exit i) (qf3 n (maskF f (asg a)) outs vs) h
      | .ret => k .ret (qf3 n (maskF f (asg a)) outs vs) h
      | .panic v => k (.panic v) anyF h
 | .cond c a b, lk, _, f, h, k => oCond (opndF P f c) (evalCF P E En an n a lk f h k) (evalCF P E En an n b lk f h k)
 | .block id c, _, _, f, h, k => evalCF P E En an n c id f h fun e f h =>
   match e with
   | .exit i => if i = id then k .normal f h else k (.exit i) f h
   | .normal => k .normal f h
   | .ret => k .ret f h
   | .panic v => k (.panic v) anyF h
 | .loop c, lk, _, f, h, k =>
   match an.loops.lookup lk with
   | none => none
   | some la => promAllF n la.prom f h fun f h =>
     oLoop (fun s => evalCF P E En an n c lk (qf3 n (maskF f (asg c)) la.keep s.1) s.2 fun e f' h' =>
      match e with
      | .normal => (trim la.gc h.length (pickF la.keep f') h').map .inl
      | .exit i => (trim la.gc h.length (pickF la.outs f') h').map fun p => .inr (.exit i, p.1, p.2)
      | .ret => (trim la.gc h.length (pickF la.outs f') h').map fun p => .inr (.ret, p.1, p.2)
      | .panic v => some (.inr (.panic v, pickF la.outs f', h'))) (pickF la.keep f, h) fun e vs h =>
      match e with
      | .normal => none
      | .exit i => k (.exit i) (qf3 n (maskF f (asg c)) la.outs vs) h
      | .ret => k .ret (qf3 n (maskF f (asg c)) la.outs vs) h
      | .panic v => k (.panic v) anyF h
 | .exit id, _, _, f, h, k => k (.exit id) f h
 | .ret, _, _, f, h, k => k .ret f h
 | .scope c, lk, _, f, h, k => evalCF P E En an n c lk f h k
 | .label _, _, _, f, h, k => k .normal f h
 | _, _, _, _, _, _ => none
where
 promAllF {β : Type} (n : Nat) : List (Nat × Nat) → Slots → Heap → (Slots → Heap → Option β) → Option β
  | [], f, h, k => k f h
  | (t, sz) :: r, f, h, k => if sz = 0 then none else oProm sz (f t) h fun v h => promAllF n r (putF n f (some t) v) h k
def qfp {β : Type} (P : Program) (f : Slots) (h : Heap) : List ResultVar → (List A → Option β) → Option β
 | [], k => k []
 | .tmp t :: rs, k => qfp P f h rs fun as => k (f t :: as)
 | .cell a t :: rs, k =>
   match shapeT P t with
   | some sh => oLoad sh (f a) h fun v => qfp P f h rs fun as => k (v :: as)
   | none => none
def endKF (P : Program) (rs : List ResultVar) (nb : Nat) (e : Ex) (f : Slots) (h : Heap) : Option (Out × Heap) :=
 match e with
 | .normal | .ret => qfp P f h rs fun vs => finish nb (.ok (qj2 vs)) h
 | .panic v => finish nb (.pan v) h
 | .exit _ => none
def argF : List A → Slots
 | [] => anyF
 | a :: r => fun t => match t with
   | 0 => a
   | t + 1 => argF r t
def evalFF (P : Program) (E : FuncId → CallFn) (En : String → CallFn) (an : FAnn) (fn : Func) (args : List A) (objs : Heap) : Option (Out × Heap) :=
 match fn.body with
 | none => none
 | some body => evalCF P E En an (args.length + (fn.ntmps - args.length)) body 0 (argF args) objs (endKF P fn.results.toList objs.length)
section
variable {P : Program} {E : FuncId → CallFn} {En : String → CallFn} {an : FAnn} {n : Nat}
def RelF (n : Nat) (regs : List A) (f : Slots) : Prop := regs.length = n ∧ ∀ t, regs.getD t .any = f t
theorem RelF.set {regs : List A} {f : Slots} (r : RelF n regs f) (d : Nat) (v : A) : RelF n (regs.set d v) (putF n f (some d) v) := by
 obtain ⟨hl, hr⟩ := r
 refine ⟨by simp [hl], fun t => ?_⟩
 simp only [putF]
 by_cases hd : d < n
 · have h1 : Nat.blt d n = true := by simpa [Nat.blt_eq] using hd
   simp only [h1, cond_true, updF]
   by_cases ht : t = d
   · subst ht
     simp [List.getD_eq_getElem?_getD, hl, hd]
   · have h2 : Nat.beq t d = false := by
      cases hh : Nat.beq t d with
      | false => rfl
      | true => exact absurd (Nat.eq_of_beq_eq_true hh) ht
     simp only [h2, cond_false, ← hr]
     simp only [List.getD_eq_getElem?_getD]
     rw [List.getElem?_set_ne (Ne.symm ht)]
 · have h1 : Nat.blt d n = false := by
    cases hh : Nat.blt d n with
    | false => rfl
    | true => exact absurd (by simpa [Nat.blt_eq] using hh) hd
   simp only [h1, cond_false]
   rw [List.set_eq_of_length_le (by omega)]
   exact hr t
theorem RelF.put {regs : List A} {f : Slots} (r : RelF n regs f) (dst : Option Nat) (v : A) : RelF n (putR regs dst v) (putF n f dst v) := by
 cases dst with
 | none => exact r
 | some d => exact r.set d v
theorem RelF.mask {regs : List A} {f : Slots} (ts : List Nat) (r : RelF n regs f) : RelF n (maskR regs ts) (maskF f ts) := by
 induction ts generalizing regs f with
 | nil => exact r
 | cons t ts ih =>
   refine ih ?_
   have h1 := r.set t .any
   refine ⟨h1.1, fun s => ?_⟩
   rw [h1.2 s]
   simp only [putF]
   cases hb : Nat.blt t n with
   | true => rfl
   | false =>
     simp only [cond_false, updF]
     cases hs : Nat.beq s t with
     | false => rfl
     | true =>
       have he := Nat.eq_of_beq_eq_true hs
       subst he
       have hn : ¬ s < n := fun hlt => by
        have : Nat.blt s n = true := by simpa [Nat.blt_eq] using hlt
        rw [hb] at this; cases this
       rw [cond_true, ← r.2 s, List.getD_eq_getElem?_getD, List.getElem?_eq_none (by rw [r.1]; omega)]
       rfl
theorem RelF.restore {regs : List A} {f : Slots} (ts : List Nat) (vs : List A) (r : RelF n regs f) : RelF n (restore regs ts vs) (qf3 n f ts vs) := by
 unfold Go.Ab.restore qf3
 generalize 0 = i
 induction ts generalizing i regs f with
 | nil => exact r
 | cons t ts ih => exact ih (r.set t _) (i + 1)
theorem RelF.pick {regs : List A} {f : Slots} (r : RelF n regs f) (l : List Nat) : pickR l regs = pickF l f := by
 unfold pickR pickF
 exact List.map_congr_left fun t _ => r.2 t
theorem RelF.opnd {regs : List A} {f : Slots} (r : RelF n regs f) : opnd P regs = opndF P f := by
 funext x
 cases x with
 | tmp t => exact r.2 t
 | _ => rfl
theorem qlr {β : Type} {dm : Option DM} {o : Oper} {regs : List A} {f : Slots} (r : RelF n regs f) (h : Heap) (k kp : A → Heap → Option β) : qbF P E En an dm o regs h k kp = qgo P E En an dm o f h k kp := by
 unfold qbF qgo
 rw [r.opnd (P := P)]
 cases cls o.op <;> rfl
theorem qgv {β : Type} {ops0 : Array Oper} {kp : A → Heap → Option β} : ∀ (l : List (Oper × Option DM)) (kn : List Nat) (regs : List A) (f : Slots) (h : Heap) (k : List A → Heap → Option β) (k' : Slots → Heap → Option β), RelF n regs f →
 (∀ regs f h, RelF n regs f → k regs h = k' f h) → evalOps P E En an ops0 kp l kn regs h k = qeD P E En an ops0 n kp l kn f h k'
 | [], kn, regs, f, h, k, k', r, hk => hk regs f h r
 | (o, dm) :: rest, kn, regs, f, h, k, k', r, hk => by
   unfold evalOps qeD
   cases hg : o.guard with
   | none =>
     show qbF P E En an dm o regs h (fun v h => evalOps P E En an ops0 kp rest (knOff kn o.dst) (putR regs o.dst v) h k) kp = qgo P E En an dm o f h (fun v h => qeD P E En an ops0 n kp rest (knOff kn o.dst) (putF n f o.dst v) h k') kp
     rw [qlr r]
     congr 1
     funext v h
     exact qgv rest _ _ _ h k k' (r.put o.dst v) hk
   | some jw =>
     obtain ⟨j, want⟩ := jw
     cases ht : (ops0[j]?).bind (·.dst) with
     | none => simp only [ht]
     | some t =>
       simp only [ht, r.1]
       by_cases hc : kn.contains t = true
       · simp only [hc, if_true]
         exact qgv rest _ _ _ h k k' (r.put o.dst _) hk
       · rw [if_neg hc, if_neg hc, r.2 t]
         congr 1
         · funext _
           rw [qlr (r.set t _)]
           congr 1
           funext v h
           exact qgv rest _ _ _ h k k' ((r.set t _).put o.dst v) hk
         · funext _
           exact qgv rest _ _ _ h k k' ((r.set t _).put o.dst _) hk
def RelE (n : Nat) (e : Ex) (regs : List A) (f : Slots) : Prop := RelF n regs f ∨ ∃ v, e = .panic v ∧ regs = [] ∧ f = anyF
theorem pick_any (l : List Nat) : pickR l [] = pickF l anyF := by
 unfold pickR pickF anyF
 exact List.map_congr_left fun t _ => by simp
theorem RelE.pick {e : Ex} {regs : List A} {f : Slots} (r : RelE n e regs f) (l : List Nat) : pickR l regs = pickF l f := by
 rcases r with r | ⟨v, _, rfl, rfl⟩
 · exact r.pick l
 · exact pick_any l
theorem qlM {β : Type} : ∀ (l : List (Nat × Nat)) (regs : List A) (f : Slots) (h : Heap) (k : List A → Heap → Option β) (k' : Slots → Heap → Option β), RelF n regs f → (∀ regs f h, RelF n regs f → k regs h = k' f h) → promAll l regs h k = evalCF.promAllF n l f h k'
 | [], regs, f, h, k, k', r, hk => hk regs f h r
 | (t, sz) :: l, regs, f, h, k, k', r, hk => by
   unfold promAll evalCF.promAllF
   split
   · rfl
   · rw [r.2 t]
     congr 1
     funext v h
     exact qlM l _ _ h k k' (r.set t v) hk
theorem code_same : ∀ (c : Code) (lk : Nat) {β : Type} (regs : List A) (f : Slots) (h : Heap) (k : Ex → List A → Heap → Option β) (k' : Ex → Slots → Heap → Option β), RelF n regs f → (∀ e regs f h, RelE n e regs f → k e regs h = k' e f h) →
 evalC P E En an c lk regs h k = evalCF P E En an n c lk f h k' := by
 intro c
 induction c with
 | skip => intro lk β regs f h k k' r hk; simp only [evalC, evalCF]; exact hk _ _ _ _ (.inl r)
 | region id ops draw =>
   intro lk β regs f h k k' r hk
   have hn : ∀ regs f h, RelF n regs f → k .normal regs h = k' .normal f h := fun regs f h r => hk _ _ _ _ (.inl r)
   have hp : (fun v h => k (.panic v) [] h) = (fun v h => k' (.panic v) anyF h) := by funext v h; exact hk _ _ _ _ (.inr ⟨v, rfl, rfl, rfl⟩)
   have hw : ((wrsAt an id).map fun p => (regs.getD p.1 .any, p.2)) = ((wrsAt an id).map fun p => (f p.1, p.2)) := List.map_congr_left fun p _ => by rw [r.2 p.1]
   simp only [evalC, evalCF, hw]
   split
   · split
     · exact qgv _ _ _ _ _ _ _ r hn
     · rfl
   · rw [hp]
     exact qgv _ _ _ _ _ _ _ r hn
 | seq a b iha ihb =>
   intro lk β regs f h k k' r hk
   simp only [evalC, evalCF]
   cases hj : joinAt an a with
   | none =>
     refine iha lk _ _ _ _ _ r fun e regs f h re => ?_
     rcases re with r | ⟨v, rfl, rfl, rfl⟩
     · cases e with
       | normal => exact ihb lk _ _ _ _ _ r hk
       | exit i => exact hk _ _ _ _ (.inl r)
       | ret => exact hk _ _ _ _ (.inl r)
       | panic v => exact hk _ _ _ _ (.inr ⟨v, rfl, rfl, rfl⟩)
     · exact hk _ _ _ _ (.inr ⟨v, rfl, rfl, rfl⟩)
   | some p =>
     obtain ⟨outs, gc⟩ := p
     simp only
     rw [iha lk _ f h _ (fun e f' h' => (trimE e gc h.length (pickF outs f') h').map fun (vs, h') => (e, vs, h')) r fun e regs f h re => by simp only [re.pick outs]]
     congr 1
     funext e vs h
     have r2 := (r.mask (asg a)).restore outs vs
     cases e with
     | normal => exact ihb lk _ _ _ _ _ r2 hk
     | exit i => exact hk _ _ _ _ (.inl r2)
     | ret => exact hk _ _ _ _ (.inl r2)
     | panic v => exact hk _ _ _ _ (.inr ⟨v, rfl, rfl, rfl⟩)
 | cond c a b iha ihb =>
   intro lk β regs f h k k' r hk
   simp only [evalC, evalCF]
   rw [r.opnd (P := P), iha lk _ f h _ _ r hk, ihb lk _ f h _ _ r hk]
 | block id c ih =>
   intro lk β regs f h k k' r hk
   simp only [evalC, evalCF]
   refine ih id _ _ _ _ _ r fun e regs f h re => ?_
   rcases re with r | ⟨v, rfl, rfl, rfl⟩
   · cases e with
     | normal => exact hk _ _ _ _ (.inl r)
     | exit i =>
       by_cases hi : i = id
       · simp only [hi, if_true]; exact hk _ _ _ _ (.inl r)
       · simp only [hi, if_false]; exact hk _ _ _ _ (.inl r)
     | ret => exact hk _ _ _ _ (.inl r)
     | panic v => exact hk _ _ _ _ (.inr ⟨v, rfl, rfl, rfl⟩)
   · exact hk _ _ _ _ (.inr ⟨v, rfl, rfl, rfl⟩)
 | loop c ih =>
   intro lk β regs f h k k' r hk
   simp only [evalC, evalCF]
   cases hla : an.loops.lookup lk with
   | none => rfl
   | some la =>
     refine qlM _ _ _ _ _ _ r fun regs f h r => ?_
     rw [r.pick]
     congr 1
     · funext s
       refine ih lk _ _ _ _ _ ((r.mask (asg c)).restore la.keep s.1) fun e regs f h re => ?_
       cases e <;> simp only [re.pick]
     funext e vs h
     have r2 := (r.mask (asg c)).restore la.outs vs
     cases e with
     | normal => rfl
     | exit i => exact hk _ _ _ _ (.inl r2)
     | ret => exact hk _ _ _ _ (.inl r2)
     | panic v => exact hk _ _ _ _ (.inr ⟨v, rfl, rfl, rfl⟩)
 | exit id => intro lk β regs f h k k' r hk; simp only [evalC, evalCF]; exact hk _ _ _ _ (.inl r)
 | ret => intro lk β regs f h k k' r hk; simp only [evalC, evalCF]; exact hk _ _ _ _ (.inl r)
 | label l => intro lk β regs f h k k' r hk; simp only [evalC, evalCF]; exact hk _ _ _ _ (.inl r)
 | scope c ih => intro lk β regs f h k k' r hk; simp only [evalC, evalCF]; exact ih lk _ _ _ _ _ r hk
 | _ => intros; simp only [evalC, evalCF]
theorem qhr {β : Type} {regs : List A} {f : Slots} (r : RelF n regs f) (h : Heap) : ∀ (rs : List ResultVar) (k : List A → Option β), qdS P regs h rs k = qfp P f h rs k
 | [], k => rfl
 | .tmp t :: rs, k => by simp only [qdS, qfp]; rw [qhr r h rs, r.2 t]
 | .cell a t :: rs, k => by
   simp only [qdS, qfp]
   cases shapeT P t with
   | some sh =>
     simp only
     rw [r.2 a]
     congr 1
     funext v
     exact qhr r h rs _
   | none => rfl
theorem arg_rel : ∀ (args : List A) (m t : Nat), (args ++ List.replicate m A.any).getD t .any = argF args t
 | [], m, t => by
   simp only [argF, anyF, List.nil_append, List.getD_eq_getElem?_getD, List.getElem?_replicate]
   split <;> rfl
 | a :: r, m, 0 => rfl
 | a :: r, m, t + 1 => by
   have := arg_rel r m t
   simp only [List.getD_eq_getElem?_getD] at this
   simpa [argF, List.getD_eq_getElem?_getD] using this
theorem qaf (fn : Func) (args : List A) (objs : Heap) : evalF P E En an fn args objs = evalFF P E En an fn args objs := by
 unfold evalF evalFF
 cases hb : fn.body with
 | none => rfl
 | some body =>
   simp only
   refine code_same body 0 _ _ _ _ _ ⟨by simp, fun t => arg_rel args _ t⟩ fun e regs f h re => ?_
   rcases re with r | ⟨v, rfl, rfl, rfl⟩
   · unfold endK endKF
     cases e with
     | normal => exact qhr r h _ _
     | ret => exact qhr r h _ _
     | panic v => rfl
     | exit i => rfl
   · rfl
end
end Go.Ab
