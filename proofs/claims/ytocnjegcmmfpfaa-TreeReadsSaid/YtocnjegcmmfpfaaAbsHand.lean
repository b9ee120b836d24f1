/-
 WALKS BY HAND through functions of Go's library that go on from a slice's capacity.
-/
import Derived.Test.YtocnjegcmmfpfaaAbsTab
set_option linter.unusedSimpArgs false
set_option linter.unusedVariables false
namespace Go.Ab
open Go
section
variable {P : Program} {ops : Array Oper} {Q : Exit → Act → World → Prop} {a : Act} {w w' : World} {v : Value}
theorem qaw {d : Nat} (h : d < a.tmps.size) : (a.put (some d) v).eval (.tmp d) = v := by
 simp [Act.eval, Act.put, h]
theorem qbU {d t : Nat} (h : d ≠ t) : (a.put (some d) v).eval (.tmp t) = a.eval (.tmp t) := by
 simp [Act.eval, Act.put, Array.getElem?_setIfInBounds_ne h]
theorem qlc {x : Operand} : (a.put none v).eval x = a.eval x := rfl
theorem qaA (d : Option Nat) : (a.put d v).tmps.size = a.tmps.size := by cases d <;> simp [Act.put]
theorem qaP (d : Option Nat) : (a.put d v).defers = a.defers := by cases d <;> rfl
theorem qmA {fn : Func} {t : Nat} {tmps : Array Value} (hr : fn.results = #[.tmp t]) : (results fn tmps).run P w = .ok (tmps.getD t undef) w := by
 simp [results, hr]
theorem ret_one {fn : Func} {t : Nat} {R : Ending → World → Prop} (hr : fn.results = #[.tmp t]) (hd : a.defers = []) (hv : a.eval (.tmp t) = v) (hR : R (.returned v) w) : bodyPost P fn R .ret a w :=
 ⟨hd, v, by rw [qmA hr]; exact congrArg (Result.ok · w) hv, hR⟩
theorem qbp {f : FuncId} {fn : Func} {c : Code} {args : Array Value} {R : Ending → World → Prop} (hf : P.funcs[f]? = some fn) (hb : fn.body = some c) (n : Nat) (hn : args.size + (fn.ntmps - args.size) = n)
 (h : ∀ a : Act, a.tmps.size = n → a.defers = [] → (∀ t, t < args.size → a.eval (.tmp t) = args.getD t undef) → c.wp P (bodyPost P fn R) a w) : Calls P f args w R := by
 refine calls_of_wp hf hb (h _ (by simpa using hn) rfl fun t ht => ?_)
 simp only [Act.eval, Array.getD_eq_getD_getElem?]
 rw [Array.getElem?_append_left ht]
theorem qeO {k : IntKind} {x : Int} {y : Nat} {code : BoundsCode} (h0 : 0 ≤ x) (h1 : x ≤ y) : (Instr.sliceBound (.int k x) y code).run P w = .ok x.toNat w := by
 simp [Instr.sliceBound, asIntOf, h0, h1]
theorem qkG {k k' : IntKind} {x y : Int} {n c : Nat} (h0 : 0 ≤ x) (h1 : x ≤ y) (h2 : y ≤ c) : (Instr.sliceBounds true n c (some (.int k x)) (some (.int k' y)) none).run P w = .ok (x.toNat, y.toNat, c) w := by
 have e1 := qeO (P := P) (w := w) (k := k') (code := .sliceAcap) (show 0 ≤ y by omega) h2
 have e2 := qeO (P := P) (w := w) (k := k) (y := y.toNat) (code := .sliceB) h0 (by omega)
 simp [Instr.sliceBounds, e1, e2]
theorem qg3 {k : IntKind} {x : Int} {n c : Nat} (h0 : 0 ≤ x) (h1 : x ≤ n) : (Instr.sliceBounds true n c (some (.int k x)) none none).run P w = .ok (x.toNat, n, c) w := by
 have e2 := qeO (P := P) (w := w) (k := k) (y := n) (code := .sliceB) h0 h1
 simp [Instr.sliceBounds, e2]
theorem qit {k : IntKind} {x : Int} {n c : Nat} (h0 : 0 ≤ x) (h1 : x ≤ c) : (Instr.sliceBounds true n c none (some (.int k x)) none).run P w = .ok (0, x.toNat, c) w := by
 have e1 := qeO (P := P) (w := w) (k := k) (code := .sliceAcap) h0 h1
 simp [Instr.sliceBounds, e1]
theorem qji {t e : TypeId} {ie : TypeInfo} {b o n c : Nat} {lo hi mx : Option Value} {l hh m : Nat} (hu : P.underlying t = some (.slice e)) (hie : P.info? e = some ie)
 (hb : (Instr.sliceBounds true n c lo hi mx).run P w = .ok (l, hh, m) w) (hm : m ≠ l) :
 (Instr.sliceAt t (.slice (some ⟨b, o, none⟩) n c) lo hi mx).run P w = .ok (.slice (some ⟨b, o + l * ie.size, none⟩) (hh - l) (m - l)) w := by
 simp [Instr.sliceAt, Instr.slice, run_underlying hu, hb, qac hie, hm, qcg]
theorem qib (d : Nat) {t e : TypeId} {b : Option Addr} {n c : Nat} (hu : P.underlying t = some (.slice e)) : (Op.equalIn (d + 1) t (.slice b n c) (.slice none 0 0)).run P w = .ok b.isNone w := by
 cases b <;> simp [Op.equalIn, run_underlying hu]
theorem qlB {t e : TypeId} {b : Option Addr} {n c : Nat} {x y : Operand} (hu : P.underlying t = some (.slice e)) :
 (do eqGuard .eql t x y (.slice b n c) (.slice none 0 0); binOp .eql t (.slice b n c) (.slice none 0 0) : Sem Value).run P w = .ok (.bool b.isNone) w := by
 have he : (Op.equal t (.slice b n c) (.slice none 0 0)).run P w = .ok b.isNone w := qib 9999 hu
 simp only [eqGuard, binOp]
 simp [he]
theorem qlC {t e : TypeId} {ie : TypeInfo} (hu : P.underlying t = some (.slice e)) (hie : P.info? e = some ie) :
 (Instr.buildSlice t 0 #[]).run P w = .ok (.slice (some ⟨w.heap.size, 0, none⟩) 0 0) { w with heap := w.heap.push (.cells #[] e) } := by
 simp [Instr.buildSlice, run_underlying hu, qac hie, Instr.fill, newRow, run_newObj]
 congr 2
 apply Array.ext'
 simp
def wpL (P : Program) (Q : Exit → Act → World → Prop) : List Oper → Act → World → Prop
 | [], a, w => Q .normal a w
 | o :: l, a, w => o.wp P a w (wpL P Q l) Q
theorem wpL_ops (hg : ∀ o ∈ ops, o.guard = none) : ∀ (n : Nat) (is : List Nat) (l : List Oper) (a : Act) (w : World), is.length = n → is.map (ops[·]?) = l.map some → wpL P Q l a w → wpOps P ops Q is a w
 | 0, is, l, a, w, hn, hl, h => by
   have : is = [] := List.length_eq_zero_iff.1 hn
   subst this
   cases l with
   | nil => exact h
   | cons o l => simp at hl
 | n + 1, is, l, a, w, hn, hl, h => by
   cases is with
   | nil => simp at hn
   | cons i is =>
     cases l with
     | nil => simp at hl
     | cons o l =>
       simp only [List.map_cons, List.cons.injEq] at hl
       obtain ⟨ho, hl⟩ := hl
       simp only [wpOps, ho, Region.wanted, hg o (Array.mem_of_getElem? ho), if_true]
       exact .inl (Oper.wp_mono (fun a w h => wpL_ops hg n is l a w (by simpa using hn) hl h) h)
theorem qa1 {id : Nat} {l : List Oper} (hg : (l.all fun o => o.guard.isNone) = true) (h : wpL P Q l a w) : (Code.region id l.toArray false).wp P Q a w := by
 refine wp_region (wpL_ops (fun o ho => ?_) _ _ l a w rfl ?_ h)
 · rw [List.all_eq_true] at hg
   have := hg o (by simpa using ho)
   cases hgo : o.guard with
   | none => rfl
   | some x => rw [hgo] at this; cases this
 · apply List.ext_getElem?
   intro j
   simp only [List.getElem?_map]
   by_cases hj : j < l.length
   · simp [hj]
   · simp [hj]
section
variable {d : Option Tmp} {ty : TypeId} {pos : String} {af : Array Edge} {l : List Oper}
theorem L_move {x : Operand} (hx : a.eval x = v) (h : wpL P Q l (a.put d v) w) : wpL P Q (⟨d, .move x, ty, pos, af, none⟩ :: l) a w := by
 subst hx; exact h
theorem qag {x : Operand} (hx : a.eval x = v) (h : wpL P Q l (a.put d v) w) : wpL P Q (⟨d, .assign x, ty, pos, af, none⟩ :: l) a w := by
 subst hx; exact h
theorem L_nil {t e : TypeId} {x : Operand} {b : Option Addr} {n c : Nat} {t2 : TypeId} (hu : P.underlying t = some (.slice e)) (hx : a.eval x = .slice b n c) (h : wpL P Q l (a.put d (.bool b.isNone)) w) :
 wpL P Q (⟨d, .binOp .eql t x (.const (.slice none 0 0)) t2, ty, pos, af, none⟩ :: l) a w := by
 have hy : a.eval (.const (.slice none 0 0)) = .slice none 0 0 := rfl
 simp only [wpL, Oper.wp, execOp, hx, hy, Sem.run_bind]
 have := qlB (w := w) (x := x) (y := .const (.slice none 0 0)) (b := b) (n := n) (c := c) hu
 rw [Sem.run_bind] at this
 rw [this]
 exact h
theorem L_lit {t : TypeId} {v : Value} (hv : (Instr.buildSlice t 0 #[]).run P w = .ok v w') (h : wpL P Q l (a.put d v) w') : wpL P Q (⟨d, .buildSlice t 0 #[], ty, pos, af, none⟩ :: l) a w := by
 simp only [wpL, Oper.wp, execOp, Sem.run_bind]
 simp only [Array.map_empty, hv, Result.andThen_ok, Sem.run_pure]
 exact h
theorem qdU {t u : TypeId} {x y : Operand} {vx vy v : Value} (hx : a.eval x = vx) (hy : a.eval y = vy) (hv : (Builtin.append_ #[t, u] ty #[vx, vy]).run P w = .ok v w') (h : wpL P Q l (a.put d v) w') :
 wpL P Q (⟨d, .call { callee := .builtin .append, args := #[x, y], argTypes := #[t, u] }, ty, pos, af, none⟩ :: l) a w := by
 subst hx; subst hy
 have e : (#[x, y] : Array Operand).map a.eval = #[a.eval x, a.eval y] := by simp
 simp only [wpL, Oper.wp, execOp, resolve, invoke, builtin, e, Sem.run_bind, Sem.run_pure, Result.andThen_ok, hv]
 exact h
theorem L_len {t e : TypeId} {x : Operand} {b : Option Addr} {n c : Nat} (hu : P.underlying t = some (.slice e)) (hx : a.eval x = .slice b n c) (h : wpL P Q l (a.put d (.int .i64 n)) w) :
 wpL P Q (⟨d, .call { callee := .builtin .len, args := #[x], argTypes := #[t] }, ty, pos, af, none⟩ :: l) a w := by
 have e1 : (#[x] : Array Operand).map a.eval = #[.slice b n c] := by simp [hx]
 have e2 : (Builtin.len_ #[t] ty #[.slice b n c]).run P w = .ok (.int .i64 n) w := by simp [Builtin.len_, run_underlying hu, goInt]
 simp only [wpL, Oper.wp, execOp, resolve, invoke, builtin, e1, e2, Sem.run_bind, Sem.run_pure, Result.andThen_ok]
 exact h
theorem L_cap {t e : TypeId} {x : Operand} {b : Option Addr} {n c : Nat} (hu : P.underlying t = some (.slice e)) (hx : a.eval x = .slice b n c) (h : wpL P Q l (a.put d (.int .i64 c)) w) :
 wpL P Q (⟨d, .call { callee := .builtin .cap, args := #[x], argTypes := #[t] }, ty, pos, af, none⟩ :: l) a w := by
 have e1 : (#[x] : Array Operand).map a.eval = #[.slice b n c] := by simp [hx]
 have e2 : (Builtin.cap_ #[t] ty #[.slice b n c]).run P w = .ok (.int .i64 c) w := by simp [Builtin.cap_, run_underlying hu, goInt]
 simp only [wpL, Oper.wp, execOp, resolve, invoke, builtin, e1, e2, Sem.run_bind, Sem.run_pure, Result.andThen_ok]
 exact h
theorem L_eqInt {t t2 : TypeId} {x y : Operand} {m n : Int} (hx : a.eval x = .int .i64 m) (hy : a.eval y = .int .i64 n) (h : wpL P Q l (a.put d (.bool (m == n))) w) :
 wpL P Q (⟨d, .binOp .eql t x y t2, ty, pos, af, none⟩ :: l) a w := by
 have e2 : (binOp .eql t (.int .i64 m) (.int .i64 n)).run P w = .ok (.bool (m == n)) w := by simp [binOp, Op.intCmp]
 have e1 : eqGuard .eql t x y (.int .i64 m) (.int .i64 n) = pure () := rfl
 simp only [wpL, Oper.wp, execOp, hx, hy, e1, e2, Sem.run_bind, Sem.run_pure, Result.andThen_ok]
 exact h
theorem L_gtInt {t t2 : TypeId} {x y : Operand} {m n : Int} (hx : a.eval x = .int .i64 m) (hy : a.eval y = .int .i64 n) (h : wpL P Q l (a.put d (.bool (decide (n < m)))) w) :
 wpL P Q (⟨d, .binOp .gtr t x y t2, ty, pos, af, none⟩ :: l) a w := by
 have e2 : (binOp .gtr t (.int .i64 m) (.int .i64 n)).run P w = .ok (.bool (decide (n < m))) w := by simp [binOp, Op.intCmp]
 have e1 : eqGuard .gtr t x y (.int .i64 m) (.int .i64 n) = pure () := rfl
 simp only [wpL, Oper.wp, execOp, hx, hy, e1, e2, Sem.run_bind, Sem.run_pure, Result.andThen_ok]
 exact h
theorem L_add {t t2 : TypeId} {x y : Operand} {m n : Int} (hx : a.eval x = .int .i64 m) (hy : a.eval y = .int .i64 n) (hw : IntKind.i64.wrap (m + n) = m + n) (h : wpL P Q l (a.put d (.int .i64 (m + n))) w) :
 wpL P Q (⟨d, .binOp .add t x y t2, ty, pos, af, none⟩ :: l) a w := by
 have e2 : (binOp .add t (.int .i64 m) (.int .i64 n)).run P w = .ok (.int .i64 (m + n)) w := by simp [binOp, Op.intArith, hw]
 have e1 : eqGuard .add t x y (.int .i64 m) (.int .i64 n) = pure () := rfl
 simp only [wpL, Oper.wp, execOp, hx, hy, e1, e2, Sem.run_bind, Sem.run_pure, Result.andThen_ok]
 exact h
theorem L_sub {t t2 : TypeId} {x y : Operand} {m n : Int} (hx : a.eval x = .int .i64 m) (hy : a.eval y = .int .i64 n) (hw : IntKind.i64.wrap (m - n) = m - n) (h : wpL P Q l (a.put d (.int .i64 (m - n))) w) :
 wpL P Q (⟨d, .binOp .sub t x y t2, ty, pos, af, none⟩ :: l) a w := by
 have e2 : (binOp .sub t (.int .i64 m) (.int .i64 n)).run P w = .ok (.int .i64 (m - n)) w := by simp [binOp, Op.intArith, hw]
 have e1 : eqGuard .sub t x y (.int .i64 m) (.int .i64 n) = pure () := rfl
 simp only [wpL, Oper.wp, execOp, hx, hy, e1, e2, Sem.run_bind, Sem.run_pure, Result.andThen_ok]
 exact h
theorem L_slice {t : TypeId} {x : Operand} {lo hi mx : Option Operand} {vx : Value} {vlo vhi vmx : Option Value} {v : Value} (hx : a.eval x = vx) (hlo : lo.map a.eval = vlo) (hhi : hi.map a.eval = vhi) (hmx : mx.map a.eval = vmx)
 (hv : (Instr.sliceAt t vx vlo vhi vmx).run P w = .ok v w) (h : wpL P Q l (a.put d v) w) : wpL P Q (⟨d, .slice t x lo hi mx, ty, pos, af, none⟩ :: l) a w := by
 subst hx; subst hlo; subst hhi; subst hmx
 simp only [wpL, Oper.wp, execOp, hv, Sem.run_bind, Sem.run_pure, Result.andThen_ok]
 exact h
theorem L_clear {t : TypeId} {x : Operand} {vx v : Value} (hx : a.eval x = vx) (hv : (Builtin.clear_ #[t] ty #[vx]).run P w = .ok v w') (h : wpL P Q l (a.put d v) w') :
 wpL P Q (⟨d, .call { callee := .builtin .clear, args := #[x], argTypes := #[t] }, ty, pos, af, none⟩ :: l) a w := by
 have e1 : (#[x] : Array Operand).map a.eval = #[vx] := by simp [hx]
 simp only [wpL, Oper.wp, execOp, resolve, invoke, builtin, e1, hv, Sem.run_bind, Sem.run_pure, Result.andThen_ok]
 exact h
theorem L_copy {t u : TypeId} {x y : Operand} {vx vy v : Value} (hx : a.eval x = vx) (hy : a.eval y = vy) (hv : (Builtin.copy_ #[t, u] ty #[vx, vy]).run P w = .ok v w') (h : wpL P Q l (a.put d v) w') :
 wpL P Q (⟨d, .call { callee := .builtin .copy, args := #[x, y], argTypes := #[t, u] }, ty, pos, af, none⟩ :: l) a w := by
 have e1 : (#[x, y] : Array Operand).map a.eval = #[vx, vy] := by simp [hx, hy]
 simp only [wpL, Oper.wp, execOp, resolve, invoke, builtin, e1, hv, Sem.run_bind, Sem.run_pure, Result.andThen_ok]
 exact h
end
theorem L_op {o : Oper} {l : List Oper} (hv : (execOp a.eval o).run P w = .ok (.value v) w') (h : wpL P Q l (a.put o.dst v) w') : wpL P Q (o :: l) a w := by
 simp only [wpL, Oper.wp, hv]
 exact h
theorem L_end (h : Q .normal a w) : wpL P Q [] a w := h
attribute [irreducible] wpL
def PanicSafe (Q : Exit → Act → World → Prop) : Prop := ∀ d v c a w, Q (.panic c) (Act.put a d v) w → Q (.panic c) a w
theorem PanicSafe.body {fn : Func} {R : Ending → World → Prop} : PanicSafe (bodyPost P fn R) := fun d v c a w h => ⟨by have := h.1; rwa [qaP] at this, h.2⟩
theorem PanicSafe.then {K : Act → World → Prop} (h : PanicSafe Q) : PanicSafe (Exit.then K Q) := fun d v c a w hh => h d v c a w hh
theorem A_take {fuel : Nat} {listed : Array Bool} {i : Nat} {o : Oper} (hp : PanicSafe Q) (hi : ops[i]? = some o) (hs : Region.noSelect ops = true) (hf : Region.free .any ops listed i = true) (hr : (Region.ready .any ops listed).contains i = true)
 (hg : o.guard = none) (hv : ∀ w, (execOp a.eval o).run P w = .ok (.value v) w) (h : wpAny P .any ops Q fuel (listed.setIfInBounds i true) (a.put o.dst v) w) : wpAny P .any ops Q (fuel + 1) listed a w :=
 wpAny_take hi hs hf hr (fun c a w h => hp _ _ c a w h) (.inl ⟨by simp [Region.wanted, hg], hv⟩) h
theorem A_only {fuel : Nat} {listed : Array Bool} {i : Nat} {o : Oper} (hi : ops[i]? = some o) (hr : Region.ready .any ops listed = [i]) (hg : o.guard = none)
 (hv : (execOp a.eval o).run P w = .ok (.value v) w') (h : wpAny P .any ops Q fuel (listed.setIfInBounds i true) (a.put o.dst v) w') : wpAny P .any ops Q (fuel + 1) listed a w := by
 refine wpAny_all hr (by simp) fun j hj => ?_
 simp at hj
 subst hj
 unfold wpOp
 simp only [hi, Region.wanted, hg, if_true]
 refine .inl ?_
 unfold Oper.wp
 rw [hv]
 exact h
section
variable {F F' : Cells} {ρ ρ' : Nat → Reg} {h h' : Heap}
theorem Inv.grow (i : Inv P w F ρ h) (u : Upd (fun _ _ => False) w w') : Inv P w' F ρ h ∧ Tr w F ρ h w' F ρ h := by
 have t : Tr w F ρ h w' F ρ h := ⟨u.mono fun _ _ _ h => h.elim, fun _ _ h => h, fun _ _ h => .inl h, fun _ _ h => .inl h, .refl _ _⟩
 refine ⟨⟨fun id ob hob => ?_, i.disj, fun b o hf => Nat.lt_of_lt_of_le (i.fin b o hf) u.size, fun id kd es hes => i.mpKeep u (u.mono fun _ _ _ h => h.elim) hes (fun h => h) (fun _ _ h => h), i.mpd⟩, t⟩
 have k := i.obj id ob hob
 refine ⟨k.sz, k.pos, k.len, k.width, fun m hm => ?_, fun a b ha hb => ?_⟩
 · obtain ⟨⟨v, h1⟩, h2, h3⟩ := k.cell m hm
   exact ⟨⟨v, by rw [u.cell (qd6 h1) fun hh => hh]; exact h1⟩, u.thaw (qd6 h1) h2, h3⟩
 · obtain ⟨v, h1, h2, h3⟩ := k.rel a b ha hb
   exact ⟨v, by rw [u.cell (qd6 h1) fun hh => hh]; exact h1, h2, h3.step i t⟩
theorem Inv.addEmpty (i : Inv P w F ρ h) (ver : Nat) {sz : Nat} (hs : 0 < sz) (a : Option Addr) : ∃ ρ', Inv P w F ρ' (h ++ [.live ⟨ver, sz, []⟩]) ∧ Tr w F ρ h w F ρ' (h ++ [.live ⟨ver, sz, []⟩]) ∧
 Rel P w F ρ' (h ++ [.live ⟨ver, sz, []⟩]) (.slice a 0 0) (.osl h.length ver sz 0 0) := by
 have hp : place none h ⟨ver, sz, []⟩ = some (h.length, h ++ [.live ⟨ver, sz, []⟩]) := rfl
 obtain ⟨q1, q2⟩ := i.add (w' := w) (ρ' := fun j => if j = h.length then ⟨0, 0, sz, 0⟩ else ρ j) hp (.refl _ _) (fun j hj => by simp [hj]) (fun b o hb => by simp [Reg.has] at hb) (fun t =>
  .of_flat (by simp) hs (by simp) (by simp) (fun j hj => by simp at hj) [] (fun j v hv => by simp at hv) ⟨rfl, fun j v c hv => by simp at hv⟩)
 obtain ⟨l1, l2⟩ := qeI hp
 refine ⟨_, q1, q2, .osl _ _ _ h.length ver sz 0 l2 (fun s hs he => ?_) (Nat.le_refl _) (fun hc => by omega) fun ob hob => ?_⟩
 · rw [l1] at hs; cases hs; cases he
 · rw [l1] at hob; cases hob
   exact ⟨Nat.le_refl _, fun _ => ⟨by simp, fun hc => by omega⟩⟩
theorem qim {t e : TypeId} {ie : TypeInfo} {ty : TypeId} {x : A} {xv : Value} {rows : List (List A)} {sz : Nat} (i : Inv P w F ρ h) (hr : Rel P w F ρ h xv x) (hu : P.underlying t = some (.slice e)) (hie : P.info? e = some ie)
 (hsz : ie.size = sz) (hpos : 0 < sz) (hb : 0 < ie.bytes) (hz : (zeroT P e).map List.length = some sz) (hrows : rowsOf sz x h = some rows) (hok : qa4 rows.length ie.bytes) :
 ∃ w1 v w2, (Instr.buildSlice t 0 #[]).run P w = .ok (.slice (some ⟨w.heap.size, 0, none⟩) 0 0) w1 ∧ (Builtin.append_ #[t, t] ty #[.slice (some ⟨w.heap.size, 0, none⟩) 0 0, xv]).run P w1 = .ok v w2 ∧
   ∃ F' ρ', Inv P w2 F' ρ' (h ++ [.live ⟨1, sz, rows⟩]) ∧ Tr w F ρ h w2 F' ρ' (h ++ [.live ⟨1, sz, rows⟩]) ∧ Rel P w2 F' ρ' (h ++ [.live ⟨1, sz, rows⟩]) v (.osl h.length 1 sz 0 rows.length) := by
 subst hsz
 refine ⟨{ w with heap := w.heap.push (.cells #[] e) }, ?_⟩
 obtain ⟨i1, t1⟩ := i.grow (qfd _ w (.cells #[] e))
 obtain ⟨ρ2, i2, t2, r2⟩ := i1.addEmpty 0 hpos (some ⟨w.heap.size, 0, none⟩)
 have hrows2 : rowsOf ie.size x (h ++ [.live ⟨0, ie.size, []⟩]) = some rows := by
  rw [qe7 fun id hid => List.getElem?_append_left (qfu hrows id hid)]; exact hrows
 have hbe : P.bytesOf e = ie.bytes := by simp [Program.bytesOf, hie]
 have hy := qdt (ty := ty) (at_ := none) (k := fun a h => some (a, h)) (r := (A.osl h.length 1 ie.size 0 (0 + rows.length), (h ++ [Slot.live ⟨0, ie.size, []⟩]).set h.length (.live ⟨1, ie.size, [] ++ rows⟩))) i2 r2 ((hr.step i t1).step i1 t2) hu hu
  (by simp [sizeT, hie]) (by rw [hbe]; exact hb) hz (by
   unfold oAppend
   rw [hrows2]
   simp [hbe, hok])
 obtain ⟨n, v, w2, F', ρ', h', a', e1, e2, e3, e4, e5, e6⟩ := hy
 simp only [Option.some.injEq, Prod.mk.injEq] at e6
 obtain ⟨rfl, rfl⟩ := e6
 rw [Sem.run_bind] at e1
 cases hap : (Builtin.append_ #[t, t] ty #[.slice (some ⟨w.heap.size, 0, none⟩) 0 0, xv]).run P { w with heap := w.heap.push (.cells #[] e) } with
 | halt x y => rw [hap] at e1; cases e1
 | ok u w3 =>
   rw [hap] at e1
   simp only [Result.andThen_ok, Sem.run_pure, Result.ok.injEq] at e1
   obtain ⟨rfl, rfl⟩ := e1
   have huv : u = v := by rcases e2 with h | ⟨h, _⟩ <;> cases h; rfl
   subst huv
   have hset : (h ++ [Slot.live ⟨0, ie.size, []⟩]).set h.length (.live ⟨1, ie.size, [] ++ rows⟩) = h ++ [.live ⟨1, ie.size, rows⟩] := by simp
   rw [hset] at e3 e4 e5
   rw [Nat.zero_add] at e3
   exact ⟨u, w3, qlC hu hie, rfl, F', ρ', e4, t1.trans (t2.trans e5), e3⟩
end
end
end Go.Ab
