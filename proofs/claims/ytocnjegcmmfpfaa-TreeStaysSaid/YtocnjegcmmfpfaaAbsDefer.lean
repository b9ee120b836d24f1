/-
  FUNCTIONS WITH ONE DEFERRED CALL that does nothing where no panic is under way (it recovers): their run, if it ends without a panic.
-/
import Derived.Test.YtocnjegcmmfpfaaAbsTab
import Derived.Test.YtocnjegcmmfpfaaAbsFast
import Derived.Defers
import Derived.Recover
set_option linter.unusedSimpArgs false
set_option linter.unusedVariables false
namespace Go.Ab
open Go

/-- A function that, deferred, does nothing behind a return. -/
def QuietF (P : Program) (f : FuncId) : Prop := ∀ (args : Array Value) (w : World), CallsD P f args .returning w fun e u' w' => (∃ v, e = .returned v) ∧ u' = .returning ∧ w' = w

def QuietD (P : Program) (d : Deferred) : Prop := ∃ fv cap, d.target = .fn fv cap ∧ ∀ w, ∃ f args, (invoke d.target d.args).run P w = .ok (.enter f args) w ∧ QuietF P f

section
variable {P : Program} {w : World}

theorem leaves_quiet {fn : Func} {tmps : Array Value} {R : Ending → World → Prop} : ∀ (ds : List Deferred), (∀ d ∈ ds, QuietD P d) → (∃ v, (results fn tmps).run P w = .ok v w ∧ R (.returned v) w) → Leaves P fn tmps R ds .returning w
  | [], _, h => h
  | d :: ds, hq, h => by
    obtain ⟨fv, cap, ht, hi⟩ := hq d (by simp)
    obtain ⟨f, args, hi, hf⟩ := hi w
    refine ⟨by simp, fv, cap, f, args, ht, hi, (hf args w).mono fun e u' w' ⟨⟨v, he⟩, hu, hw⟩ => ?_⟩
    subst he
    rw [hu, hw]
    exact leaves_quiet ds (fun d hd => hq d (by simp [hd])) h

/-- What is recovered where nothing panics. -/
theorem quiet_of_shape {f : FuncId} {fn : Func} {i0 i1 : Nat} {t6 t3 t7 t8 : Nat} {A : Code}
    (hf : P.funcs[f]? = some fn) {o6 o3 o7 o8 : Oper} (hb : fn.body = some (.seq (.region i0 #[o6, o3] false) (.seq (.region i1 #[o7, o8] false) (.cond (.tmp t8) A .skip))))
    (g6 : o6.guard = none) (g3 : o3.guard = none) (g7 : o7.guard = none) (g8 : o8.guard = none)
    (d6 : o6.dst = some t6) (d3 : o3.dst = some t3) (d7 : o7.dst = some t7) (d8 : o8.dst = some t8)
    (e6 : ∀ (a : Act) (w : World), (execOp a.eval o6).run P w = .ok .recover w)
    (e3 : o3.op = .assign (.tmp t6)) (e7 : o7.op = .move (.tmp t3))
    (e8 : ∀ (a : Act) (w : World), a.eval (.tmp t7) = .nilIface → (execOp a.eval o8).run P w = .ok (.value (.bool false)) w)
    (hr : fn.results = #[]) (hn : (decide (t6 < fn.ntmps) && decide (t3 < fn.ntmps) && decide (t7 < fn.ntmps) && decide (t8 < fn.ntmps)) = true) : QuietF P f := by
  simp only [Bool.and_eq_true, decide_eq_true_eq] at hn
  intro args w
  refine callsD_of_wpS hf hb fun c₀ cs hu => ?_
  have put_get : ∀ (a : Act) (d : Nat) (v : Value), d < a.tmps.size → (a.put (some d) v).eval (.tmp d) = v := fun a d v hd => by
    simp [Act.put, Act.eval, Array.getD_eq_getD_getElem?, hd]
  have hrec : recoverD (c₀ :: cs) = none := by simp [recoverD, hu]
  have w6 : ∀ (ops : Array Oper) (a : Act), Region.wanted o6 (yielded ops a.tmps) = true := fun ops a => by simp [Region.wanted, g6]
  have w3 : ∀ (ops : Array Oper) (a : Act), Region.wanted o3 (yielded ops a.tmps) = true := fun ops a => by simp [Region.wanted, g3]
  have w7 : ∀ (ops : Array Oper) (a : Act), Region.wanted o7 (yielded ops a.tmps) = true := fun ops a => by simp [Region.wanted, g7]
  have w8 : ∀ (ops : Array Oper) (a : Act), Region.wanted o8 (yielded ops a.tmps) = true := fun ops a => by simp [Region.wanted, g8]
  have x3 : ∀ (a : Act) (w : World), (execOp a.eval o3).run P w = .ok (.value (a.eval (.tmp t6))) w := fun a w => by simp [execOp, e3]
  have x7 : ∀ (a : Act) (w : World), (execOp a.eval o7).run P w = .ok (.value (a.eval (.tmp t3))) w := fun a w => by simp [execOp, e7]
  generalize ha : ({ tmps := args ++ Array.replicate (fn.ntmps - args.size) undef, defers := [] } : Act) = a0
  have hs : fn.ntmps ≤ a0.tmps.size := by rw [← ha]; simp; omega
  have hd0 : a0.defers = [] := by rw [← ha]
  refine wpS_seq (wpS_region ?_)
  show wpOpsS P #[o6, o3] _ [0, 1] a0 (c₀ :: cs) w
  simp only [wpOpsS, List.getElem?_toArray, List.getElem?_cons_zero, List.getElem?_cons_succ, w6, w3, if_true, e6, hrec, x3, Oper.upon, d6, d3]
  rw [put_get a0 t6 .nilIface (by omega)]
  simp only [Exit.thenS]
  refine wpS_seq (wpS_region ?_)
  show wpOpsS P #[o7, o8] _ [0, 1] _ (c₀ :: cs) w
  generalize ha1 : ((a0.put (some t6) .nilIface).put (some t3) .nilIface) = a1
  have s1 : a1.tmps.size = a0.tmps.size := by rw [← ha1]; simp [Act.put]
  have v1 : a1.eval (.tmp t3) = .nilIface := by rw [← ha1]; exact put_get _ t3 _ (by simp [Act.put]; omega)
  have dd1 : a1.defers = [] := by rw [← ha1]; simp [Act.put, hd0]
  simp only [wpOpsS, List.getElem?_toArray, List.getElem?_cons_zero, List.getElem?_cons_succ, w7, w8, if_true, x7, Oper.upon, d7, d8, v1]
  rw [e8 _ w (put_get a1 t7 .nilIface (by omega))]
  simp only [Exit.thenS]
  refine wpS_cond (t := false) (put_get _ t8 _ (by simp [Act.put]; omega)) ?_
  refine wpS_of_wp (wp_skip ?_)
  refine ⟨by simp [Act.put, dd1], .returning, by rw [← hu], .tuple #[], ?_, ⟨_, rfl⟩, rfl, rfl⟩
  simp [results, hr]

theorem wpOps_append {ops : Array Oper} {Q : Exit → Act → World → Prop} (js : List Nat) : ∀ (is : List Nat) (a : Act) (w : World),
    wpOps P ops (fun e a w => match e with | .normal => wpOps P ops Q js a w | e => Q e a w) is a w → wpOps P ops Q (is ++ js) a w
  | [], a, w, h => h
  | i :: is, a, w, h => by
    simp only [List.cons_append, wpOps] at h ⊢
    cases ho : ops[i]? with
    | none => simp only [ho] at h ⊢; exact wpOps_append js is a w h
    | some o =>
      simp only [ho] at h ⊢
      split
      · rename_i hw
        rw [if_pos hw] at h
        rcases h with h | ⟨h1, h2⟩
        · left
          unfold Oper.wp at h ⊢
          generalize (execOp a.eval o).run P w = r at h ⊢
          cases r with
          | ok n w' =>
            cases n with
            | value v => exact wpOps_append js is _ _ h
            | skip => exact wpOps_append js is _ _ h
            | defer d => exact wpOps_append js is _ _ h
            | enter f args =>
              refine Calls.mono h fun e w' he => ?_
              cases e with
              | returned v => exact wpOps_append js is _ _ he
              | panicked c => exact he
              | outgrown => exact he
            | row row args =>
              exact Rows.mono h fun v w' he => wpOps_append js is _ _ he
            | _ => exact h
          | halt s w' =>
            cases s with
            | panic v => exact h
            | _ => exact h
        · exact .inr ⟨h1, h2⟩
      · rename_i hw
        rw [if_neg hw] at h
        exact wpOps_append js is _ _ h
end

/-- The run: no panic is let out. -/
def endN (P : Program) (rs : List ResultVar) (nb : Nat) (e : Ex) (regs : List A) (h : Heap) : Option (Out × Heap) :=
  match e with
  | .normal | .ret => evalRess P regs h rs fun vs => finish nb (.ok (oneOrTup vs)) h
  | _ => none
def endNF (P : Program) (rs : List ResultVar) (nb : Nat) (e : Ex) (f : Slots) (h : Heap) : Option (Out × Heap) :=
  match e with
  | .normal | .ret => evalRessF P f h rs fun vs => finish nb (.ok (oneOrTup vs)) h
  | _ => none

/-- The deferred call is of a function of this name. -/
def dfr (q : String) (ρ : Operand → A) (o : Option Oper) : Bool :=
  match o with
  | some { dst := none, guard := none, op := .defer { callee := .value f, .. }, .. } => match ρ f with
    | .fn n _ => n == q
    | _ => false
  | _ => false

def evalFD (P : Program) (E : FuncId → CallFn) (En : String → CallFn) (an : FAnn) (q : String) (fn : Func) (args : List A) (objs : Heap) : Option (Out × Heap) :=
  match fn.body with
  | some (.seq (.region i0 ops0 false) (.seq (.region i1 ops1 false) rest)) =>
    evalC P E En an (.region i0 ops0 false) 0 (args ++ List.replicate (fn.ntmps - args.length) .any) objs fun e regs h =>
      match e with
      | .normal => evalOps P E En an ops1 (fun _ _ => none) (ops1.toList.dropLast.map fun o => (o, none)) [] regs h fun regs h =>
          if dfr q (opnd P regs) ops1.toList.getLast? = true then evalC P E En an rest 0 regs h (endN P fn.results.toList objs.length) else none
      | _ => none
  | _ => none
def evalFDF (P : Program) (E : FuncId → CallFn) (En : String → CallFn) (an : FAnn) (q : String) (fn : Func) (args : List A) (objs : Heap) : Option (Out × Heap) :=
  match fn.body with
  | some (.seq (.region i0 ops0 false) (.seq (.region i1 ops1 false) rest)) =>
    evalCF P E En an (args.length + (fn.ntmps - args.length)) (.region i0 ops0 false) 0 (argF args) objs fun e regs h =>
      match e with
      | .normal => evalOpsF P E En an ops1 (args.length + (fn.ntmps - args.length)) (fun _ _ => none) (ops1.toList.dropLast.map fun o => (o, none)) [] regs h fun regs h =>
          if dfr q (opndF P regs) ops1.toList.getLast? = true then evalCF P E En an (args.length + (fn.ntmps - args.length)) rest 0 regs h (endNF P fn.results.toList objs.length) else none
      | _ => none
  | _ => none

section
variable {P : Program} {E : FuncId → CallFn} {En : String → CallFn} {an : FAnn}
theorem evalFD_same (q : String) (fn : Func) (args : List A) (objs : Heap) : evalFD P E En an q fn args objs = evalFDF P E En an q fn args objs := by
  unfold evalFD evalFDF
  split
  · rename_i i0 ops0 i1 ops1 rest hb
    refine code_same _ 0 _ _ _ _ _ ⟨by simp, fun t => arg_rel args _ t⟩ fun e regs f h re => ?_
    rcases re with r | ⟨v, rfl, rfl, rfl⟩
    · cases e with
      | normal =>
        refine ops_same _ _ _ _ _ _ _ r fun regs f h r => ?_
        rw [r.opnd (P := P)]
        split
        · refine code_same _ 0 _ _ _ _ _ r fun e regs f h re => ?_
          rcases re with r | ⟨v, rfl, rfl, rfl⟩
          · cases e with
            | normal => exact ress_same r h _ _
            | ret => exact ress_same r h _ _
            | panic v => rfl
            | exit i => rfl
          · rfl
        · rfl
      | _ => rfl
    · rfl
  · rename_i hb
    rfl
end

section
variable {P : Program} {w w' : World} {F F' : Cells} {ρ ρ' : Nat → Reg} {h h' : Heap} {β : Type} {r : β}
theorem evalFD_sound {E : FuncId → CallFn} {En : String → CallFn} {an : FAnn} {f : FuncId} {fn : Func} {q : String} (hE : SoundE P E En) (hD : DrawSound P E En) (hf : P.funcs[f]? = some fn)
    (hq : ∀ (g : FuncId) (gn : Func), P.funcs[g]? = some gn → gn.name = q → Callable P g ∧ QuietF P g) : SoundFn P f (evalFD P E En an q fn) := by
  intro args objs R objs' hk w F ρ vs i ha
  unfold evalFD at hk
  split at hk <;> try (cases hk; done)
  rename_i i0 ops0 i1 ops1 rest hb
  refine calls_of_wp_defers hf hb (wp_seq (evalC_sound hE hD (.region i0 ops0 false) 0 _ objs _ (R, objs') _ w F ρ _ i ⟨by simp [ha.1], fun t => ?_⟩ hk fun e regs1 X a1 w1 F1 ρ1 h1 i1' t1 s1 e1 k1 => ?_))
  · by_cases ht : t < args.length
    · have := ha.2 t ht
      have ht' : t < vs.size := by rw [ha.1]; exact ht
      rw [List.getD_eq_getElem?_getD, List.getElem?_append_left ht, List.getElem?_eq_getElem ht]
      rw [Array.getD_eq_getD_getElem?, Array.getElem?_append_left ht', ← Array.getD_eq_getD_getElem?]
      exact this
    · rw [List.getD_eq_getElem?_getD, List.getElem?_append_right (by omega)]
      rw [List.getElem?_replicate]
      split <;> exact .any _
  · cases e with
    | exit id => simp at k1
    | ret => simp at k1
    | panic x => simp at k1
    | normal =>
      obtain ⟨rfl, q1⟩ := e1
      simp only at k1
      have hd1 : a1.defers = [] := s1.defers
      show (Code.seq (.region i1 ops1 false) rest).wp P _ a1 w1
      -- the last of the operations
      cases hl : ops1.toList.getLast? with
      | none =>
        have : ops1.toList = [] := List.getLast?_eq_none_iff.1 hl
        rw [this] at k1
        simp [evalOps, dfr] at k1
      | some o =>
        obtain ⟨pre, hpre⟩ := List.getLast?_eq_some_iff.1 hl
        have hdl : ops1.toList.dropLast = pre := by rw [hpre]; simp
        have hsz : ops1.size = pre.length + 1 := by rw [← Array.length_toList, hpre]; simp
        rw [hl, hdl] at k1
        refine wp_seq (wp_region ?_)
        rw [hsz, List.range_succ]
        refine wpOps_append [pre.length] _ _ _ (evalOps_sound hE (List.range pre.length) (pre.map fun o => (o, none)) [] regs1 h1 _ a1 w1 F1 ρ1 ?_ (fun t ht => by simp at ht) i1' q1 k1 ?_ ?_)
        · apply List.ext_getElem?
          intro j
          by_cases hj : j < pre.length
          · have : ops1[j]? = some pre[j] := by
              rw [← Array.getElem?_toList, hpre, List.getElem?_append_left hj]; simp [hj]
            simp [hj, this]
          · simp [hj]
        · intro a2 w2 F2 ρ2 h2 regs2 i2 t2 q2 s2 k2
          split at k2 <;> try (cases k2; done)
          rename_i hdfr
          have hd2 : a2.defers = [] := by rw [s2.defers, hd1]
          have ho : ops1[pre.length]? = some o := by rw [← Array.getElem?_toList, hpre]; simp
          show wpOps P ops1 _ [pre.length] a2 w2
          -- what is deferred
          unfold dfr at hdfr
          split at hdfr <;> try (cases hdfr; done)
          rename_i fo _ _ _ _ _ heq
          cases heq
          split at hdfr <;> try (cases hdfr; done)
          rename_i n caps hfn
          have hrel := q2.opnd fo
          rw [hfn] at hrel
          obtain ⟨g, gn, cs, hv, hg, hgn, _, _⟩ := hrel.fn_inv
          obtain ⟨hcall, hqf⟩ := hq g gn hg (by rw [hgn]; simpa using hdfr)
          simp only [wpOps, ho, Region.wanted, if_true]
          left
          simp only [Oper.wp, execOp, resolve, hv, Deferred.ofValue, Sem.run_bind, Sem.run_pure, Result.andThen_ok, Oper.upon]
          refine evalC_sound hE hD rest 0 regs2 h2 _ (R, objs') _ w2 F2 ρ2 _ i2 ?_ k2 fun e regs3 X a3 w3 F3 ρ3 h3 i3 t3 s3 e3 k3 => ?_
          · exact q2
          · have hd3 : ∃ d, a3.defers = [d] ∧ QuietD P d := by
              refine ⟨_, s3.defers.trans (congrArg (List.cons _) hd2), ?_⟩
              exact ⟨_, _, rfl, fun w => ⟨g, (#[] ++ Array.map a2.eval _) ++ cs, run_callFunc (w := w) hcall ((#[] ++ Array.map a2.eval _) ++ cs), hqf⟩⟩
            obtain ⟨d, hd3, hqd⟩ := hd3
            have tt := (t1.trans t2).trans t3
            have ret : RegsRel P w3 F3 ρ3 h3 a3.tmps regs3 → (evalRess P regs3 h3 fn.results.toList fun vs => finish objs.length (.ok (oneOrTup vs)) h3) = some (R, objs') →
                ∃ v, (results fn a3.tmps).run P w3 = .ok v w3 ∧ CEnd P w F ρ objs (fun a h' => R = .ok a ∧ h' = objs') (fun a h' => R = .pan a ∧ h' = objs') (.returned v) w3 := by
              intro q3 k3
              obtain ⟨v, as, h1, h2, h3⟩ := results_sound i3 q3 k3
              obtain ⟨ids, ρ4, i4, t4, n4, r4⟩ := finish_sound i3 tt h3
              simp only [renOut, Option.map_eq_some_iff] at r4
              obtain ⟨x, r4, rfl⟩ := r4
              exact ⟨v, h1, _, ρ4, objs', i4, t4, x, h2.ren n4 r4, rfl, rfl⟩
            cases e with
            | normal => obtain ⟨rfl, q3⟩ := e3; exact leaves_quiet (fn := fn) _ (by rw [hd3]; simpa using hqd) (ret q3 k3)
            | ret => obtain ⟨rfl, q3⟩ := e3; exact leaves_quiet (fn := fn) _ (by rw [hd3]; simpa using hqd) (ret q3 k3)
            | exit id => simp [endN] at k3
            | panic x => simp [endN] at k3
        · intro a2 w2 F2 ρ2 h2 v x i2 t2 s2 r2 k2
          cases k2

theorem fnD_ok {E : FuncId → CallFn} {En : String → CallFn} {an : FAnn} {n m : Nat} {fn : Func} {X : CallFn} {q : String} (k : Nat) (hmix : P.follows .mixedOrders = true) (hf : P.funcs[n]? = some fn) (hE : SoundTab P E) (hN : SoundNames P En)
    (ho : oneNamed P m q = true) (hc : Callable P m) (hqf : QuietF P m)
    (h : ∀ args objs, args.length = k → evalFD P E En an q fn args objs = X args objs) (h0 : ∀ args objs, args.length ≠ k → X args objs = none) : SoundFn P n X := by
  have hs : SoundE P E En := ⟨hE.callable, hE.sound, hN.callable, hN.sound⟩
  intro args objs R objs' hX
  by_cases hk : args.length = k
  · rw [← h args objs hk] at hX
    exact evalFD_sound hs (drawSound hmix hs) hf (fun g gn hg hn => by obtain rfl := oneNamed_spec ho hg hn; exact ⟨hc, hqf⟩) args objs R objs' hX
  · rw [h0 args objs hk] at hX; cases hX
end
end Go.Ab
