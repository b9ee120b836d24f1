/-
 THE REST OF THE OPERATIONS ON VALUES ALONE; and all of them together.
-/
import Derived.Test.YtocnjegcmmfpfaaAbsSoundP
set_option linter.unusedSimpArgs false
set_option linter.unusedVariables false
namespace Go.Ab
open Go
section
variable {P : Program} {w : World} {F : Cells} {ρ : Nat → Reg} {hp : Heap} {β : Type} {r : β} {k : A → Option β}
theorem qh3 (op : BinOp) (t : TypeId) (x y : Operand) (k k' : IntKind) (a b : Int) : eqGuard op t x y (.int k a) (.int k' b) = pure () := by cases op <;> rfl
theorem qmZ (op : BinOp) (t : TypeId) (x y : Operand) (a b : ByteArray) : eqGuard op t x y (.string a) (.string b) = pure () := by cases op <;> rfl
theorem qn0 (op : BinOp) (t : TypeId) (x y : Operand) (a b : Option Addr) : eqGuard op t x y (.pointer a) (.pointer b) = pure () := by cases op <;> rfl
theorem qfh {op : BinOp} {t : TypeId} {x y : A} {vx vy : Value} (hop : op = .eql ∨ op = .neq ∨ op = .lss ∨ op = .leq ∨ op = .gtr ∨ op = .geq) (hx : Rel P w F ρ hp vx x) (hy : Rel P w F ρ hp vy y)
 (h : oCmp op x y k = some r) (ox oy : Operand) : Yld P w F ρ hp (do eqGuard op t ox oy vx vy; binOp op t vx vy) k r := by
 unfold oCmp at h
 split at h <;> try (simp at h; done)
 rename_i kx a ky b
 obtain rfl := hx.s_inv
 obtain rfl := hy.s_inv
 split at h <;> try (simp at h; done)
 rename_i hk
 subst hk
 split at h <;> try (simp at h; done)
 rename_i c hc
 refine ⟨.bool c, _, ?_, .s_mk _, h⟩
 rw [qh3]
 rcases hop with rfl | rfl | rfl | rfl | rfl | rfl <;> simp only [cmpInt, Option.some.injEq] at hc <;> rw [← hc] <;> simp only [binOp] <;> simp [Op.intCmp] <;> (try rfl)
theorem sound_ar {op : BinOp} {t : TypeId} {x y : A} {vx vy : Value} (hx : Rel P w F ρ hp vx x) (hy : Rel P w F ρ hp vy y)
 (h : oAr op x y k = some r) (ox oy : Operand) : Yld P w F ρ hp (do eqGuard op t ox oy vx vy; binOp op t vx vy) k r := by
 unfold oAr at h
 split at h <;> try (simp at h; done)
 rename_i kx a ky b
 obtain rfl := hx.s_inv
 obtain rfl := hy.s_inv
 split at h <;> try (simp at h; done)
 rename_i hk
 subst hk
 split at h <;> try (simp at h; done)
 rename_i c hc
 refine ⟨.int kx c, _, ?_, .s_mk _, h⟩
 rw [qh3]
 cases op
 case add => simp only [arInt, Option.some.injEq] at hc; rw [← hc]; simp only [binOp]; simp [Op.intArith]
 case sub => simp only [arInt, Option.some.injEq] at hc; rw [← hc]; simp only [binOp]; simp [Op.intArith]
 case mul => simp only [arInt, Option.some.injEq] at hc; rw [← hc]; simp only [binOp]; simp [Op.intArith]
 case quo =>
  simp only [arInt] at hc
  split at hc <;> try (cases hc; done)
  rename_i h0
  simp only [Option.some.injEq] at hc; rw [← hc]; simp only [binOp]; simp [Op.intDiv, h0]
 case rem =>
  simp only [arInt] at hc
  split at hc <;> try (cases hc; done)
  rename_i h0
  simp only [Option.some.injEq] at hc; rw [← hc]; simp only [binOp]; simp [Op.intDiv, h0]
 case and => simp only [arInt, Option.some.injEq] at hc; rw [← hc]; simp only [binOp]; simp [Op.intBits]
 case or => simp only [arInt, Option.some.injEq] at hc; rw [← hc]; simp only [binOp]; simp [Op.intBits]
 case xor => simp only [arInt, Option.some.injEq] at hc; rw [← hc]; simp only [binOp]; simp [Op.intBits]
 case andNot => simp only [arInt, Option.some.injEq] at hc; rw [← hc]; simp only [binOp]; simp [Op.intBits]
 all_goals simp [arInt] at hc
theorem qjc {op : BinOp} {t : TypeId} {x y : A} {vx vy : Value} (hop : op = .shl ∨ op = .shr) (hx : Rel P w F ρ hp vx x) (hy : Rel P w F ρ hp vy y)
 (h : oShift op x y k = some r) (ox oy : Operand) : Yld P w F ρ hp (do eqGuard op t ox oy vx vy; binOp op t vx vy) k r := by
 unfold oShift at h
 split at h <;> try (simp at h; done)
 rename_i kx a ky b
 obtain rfl := hx.s_inv
 obtain rfl := hy.s_inv
 split at h <;> try (simp at h; done)
 rename_i h0
 have h0' : ¬ b < 0 := by omega
 rw [qh3]
 rcases hop with rfl | rfl
 · exact ⟨.int kx (kx.wrap (a * 2 ^ min b.toNat kx.bits)), _, by simp only [binOp]; simp [Op.shift, h0'], .s_mk _, h⟩
 · exact ⟨.int kx (a.fdiv (2 ^ min b.toNat kx.bits)), _, by simp only [binOp]; simp [Op.shift, h0'], .s_mk _, h⟩
theorem qir {t : TypeId} {neq : Bool} {x y : A} {vx vy : Value} (hu : P.underlying t = some .bool) (hx : Rel P w F ρ hp vx x) (hy : Rel P w F ρ hp vy y) (h : oEqBool neq x y k = some r) (ox oy : Operand) :
 Yld P w F ρ hp (do eqGuard (if neq then .neq else .eql) t ox oy vx vy; binOp (if neq then .neq else .eql) t vx vy) k r := by
 unfold oEqBool at h
 split at h <;> try (simp at h; done)
 rename_i a b
 obtain rfl := hx.s_inv
 obtain rfl := hy.s_inv
 refine ⟨_, _, ?_, .s_mk _, h⟩
 have hg : ∀ op, eqGuard op t ox oy (.bool a) (.bool b) = pure () := fun op => by cases op <;> rfl
 rw [hg]
 cases neq
 · simp [run_eql_bool w t a b hu]
 · simp [run_neq_bool w t a b hu]
theorem qje {t : TypeId} {neq : Bool} {x y : A} {vx vy : Value} (hx : Rel P w F ρ hp vx x) (hy : Rel P w F ρ hp vy y) (h : oEqStr neq x y k = some r) (ox oy : Operand) :
 Yld P w F ρ hp (do eqGuard (if neq then .neq else .eql) t ox oy vx vy; binOp (if neq then .neq else .eql) t vx vy) k r := by
 unfold oEqStr at h
 split at h <;> try (simp at h; done)
 rename_i a b
 obtain rfl := hx.s_inv
 obtain rfl := hy.s_inv
 refine ⟨_, _, ?_, .s_mk _, h⟩
 rw [qmZ]
 cases neq
 · simp only [Bool.false_eq_true, if_false]; simp only [binOp]; simp [Op.stringOp]
 · simp only [if_true]; simp only [binOp]; simp [Op.stringOp]
theorem qjj {t e : TypeId} (d : Nat) {vx vy : Value} (b : Bool) (hu : P.underlying t = some (.pointer e)) (hxy : (vx = .pointer none ∧ vy = .pointer none ∧ b = true) ∨ ((∃ x, vx = .pointer (some x)) ∧ vy = .pointer none ∧ b = false) ∨ (vx = .pointer none ∧ (∃ y, vy = .pointer (some y)) ∧ b = false)) :
 (Op.equalIn (d + 1) t vx vy).run P w = .ok b w := by
 rcases hxy with ⟨rfl, rfl, rfl⟩ | ⟨⟨x, rfl⟩, rfl, rfl⟩ | ⟨rfl, ⟨x, rfl⟩, rfl⟩ <;> simp only [Op.equalIn, Sem.run_bind, run_underlying hu, Result.andThen_ok] <;> rfl
theorem qg1 {t e : TypeId} (neq b : Bool) {vx vy : Value} (hu : P.underlying t = some (.pointer e)) (hxy : (vx = .pointer none ∧ vy = .pointer none ∧ b = true) ∨ ((∃ x, vx = .pointer (some x)) ∧ vy = .pointer none ∧ b = false) ∨ (vx = .pointer none ∧ (∃ y, vy = .pointer (some y)) ∧ b = false)) (ox oy : Operand) :
 (do eqGuard (if neq then .neq else .eql) t ox oy vx vy; binOp (if neq then .neq else .eql) t vx vy : Sem Value).run P w = .ok (.bool (b != neq)) w := by
 have he : (Op.equal t vx vy).run P w = .ok b w := qjj 9999 b hu hxy
 have hp : ∃ a b, vx = .pointer a ∧ vy = .pointer b := by
  rcases hxy with ⟨rfl, rfl, rfl⟩ | ⟨⟨x, rfl⟩, rfl, rfl⟩ | ⟨rfl, ⟨x, rfl⟩, rfl⟩ <;> exact ⟨_, _, rfl, rfl⟩
 clear hxy
 obtain ⟨p, q, rfl, rfl⟩ := hp
 rw [qn0]
 cases neq
 · simp only [Bool.false_eq_true, if_false]; simp only [binOp]; simp [he]
 · simp only [if_true]; simp only [binOp]; simp [he]
theorem qjf {t e : TypeId} {neq : Bool} {x y : A} {vx vy : Value} (hu : P.underlying t = some (.pointer e)) (hx : Rel P w F ρ hp vx x) (hy : Rel P w F ρ hp vy y) (h : oEqNil neq x y k = some r) (ox oy : Operand) :
 Yld P w F ρ hp (do eqGuard (if neq then .neq else .eql) t ox oy vx vy; binOp (if neq then .neq else .eql) t vx vy) k r := by
 unfold oEqNil at h
 split at h <;> try (simp at h; done)
 · obtain rfl := hx.s_inv
   obtain rfl := hy.s_inv
   exact ⟨_, _, qg1 neq true hu (.inl ⟨rfl, rfl, rfl⟩) ox oy, .s_mk _, h⟩
 · obtain ⟨u, rfl, _⟩ := hx.ptr_inv
   obtain rfl := hy.s_inv
   exact ⟨_, _, qg1 neq false hu (.inr (.inl ⟨⟨_, rfl⟩, rfl, rfl⟩)) ox oy, .s_mk _, h⟩
 · obtain ⟨b, o, vs, rfl, _⟩ := hx.cptr_inv
   obtain rfl := hy.s_inv
   exact ⟨_, _, qg1 neq false hu (.inr (.inl ⟨⟨_, rfl⟩, rfl, rfl⟩)) ox oy, .s_mk _, h⟩
 · obtain rfl := hx.s_inv
   obtain ⟨u, rfl, _⟩ := hy.ptr_inv
   exact ⟨_, _, qg1 neq false hu (.inr (.inr ⟨rfl, ⟨_, rfl⟩, rfl⟩)) ox oy, .s_mk _, h⟩
 · obtain rfl := hx.s_inv
   obtain ⟨b, o, vs, rfl, _⟩ := hy.cptr_inv
   exact ⟨_, _, qg1 neq false hu (.inr (.inr ⟨rfl, ⟨_, rfl⟩, rfl⟩)) ox oy, .s_mk _, h⟩
def eqVals : List Bool → List Value → List Value → Option Bool
 | [], [], [] => some true
 | true :: ks, .int k a :: r, .int k' b :: r' => if k = k' then (eqVals ks r r').map fun e => decide (a = b) && e else none
 | false :: ks, .bool a :: r, .bool b :: r' => (eqVals ks r r').map fun e => (a == b) && e
 | _, _, _ => none
theorem qe0 : ∀ (ks : List Bool) (X Y : List Value) (r : Bool), eqVals ks X Y = some r → X.length = ks.length ∧ Y.length = ks.length
 | [], [], [], _, _ => ⟨rfl, rfl⟩
 | true :: ks, .int k a :: X, .int k' b :: Y, r, h => by
   simp only [eqVals] at h
   split at h <;> try (cases h; done)
   rw [Option.map_eq_some_iff] at h
   obtain ⟨e, he, _⟩ := h
   have := qe0 ks X Y e he
   simp [this.1, this.2]
 | false :: ks, .bool a :: X, .bool b :: Y, r, h => by
   simp only [eqVals] at h
   rw [Option.map_eq_some_iff] at h
   obtain ⟨e, he, _⟩ := h
   have := qe0 ks X Y e he
   simp [this.1, this.2]
 | [], _ :: _, _, _, h => by simp [eqVals] at h
 | [], [], _ :: _, _, h => by simp [eqVals] at h
 | true :: _, [], _, _, h => by simp [eqVals] at h
 | false :: _, [], _, _, h => by simp [eqVals] at h
 | true :: _, x :: _, [], _, h => by cases x <;> simp [eqVals] at h
 | false :: _, x :: _, [], _, h => by cases x <;> simp [eqVals] at h
theorem qeE : ∀ (k1 k2 : List Bool) (X Y : List Value) (r : Bool), eqVals (k1 ++ k2) X Y = some r →
 ∃ a b, eqVals k1 (X.take k1.length) (Y.take k1.length) = some a ∧ eqVals k2 (X.drop k1.length) (Y.drop k1.length) = some b ∧ r = (a && b)
 | [], k2, X, Y, r, h => ⟨true, r, by simp [eqVals], by simpa using h, by simp⟩
 | true :: k1, k2, X, Y, r, h => by
   cases X with
   | nil => simp [eqVals] at h
   | cons x X =>
     cases Y with
     | nil => cases x <;> simp [eqVals] at h
     | cons y Y =>
       cases x <;> cases y <;> simp only [List.cons_append, eqVals] at h <;> try (cases h; done)
       rename_i k n1 k' n2
       split at h <;> try (cases h; done)
       rename_i hk
       rw [Option.map_eq_some_iff] at h
       obtain ⟨e, he, rfl⟩ := h
       obtain ⟨a, b, h1, h2, rfl⟩ := qeE k1 k2 X Y e he
       exact ⟨decide (n1 = n2) && a, b, by simp [eqVals, hk, h1], by simpa using h2, by simp [Bool.and_assoc]⟩
 | false :: k1, k2, X, Y, r, h => by
   cases X with
   | nil => simp [eqVals] at h
   | cons x X =>
     cases Y with
     | nil => cases x <;> simp [eqVals] at h
     | cons y Y =>
       cases x <;> cases y <;> simp only [List.cons_append, eqVals] at h <;> try (cases h; done)
       rename_i b1 b2
       rw [Option.map_eq_some_iff] at h
       obtain ⟨e, he, rfl⟩ := h
       obtain ⟨a, b, h1, h2, rfl⟩ := qeE k1 k2 X Y e he
       exact ⟨(b1 == b2) && a, b, by simp [eqVals, h1], by simpa using h2, by simp [Bool.and_assoc]⟩
theorem qle : ∀ (ks : List Bool) (cs ds : List A) (X Y : List Value) (r : Bool), eqCells ks cs ds = some r → X.length = cs.length → Y.length = ds.length →
 (∀ i (h : i < cs.length) (h' : i < X.length), Rel P w F ρ hp X[i] cs[i]) → (∀ i (h : i < ds.length) (h' : i < Y.length), Rel P w F ρ hp Y[i] ds[i]) → eqVals ks X Y = some r := by
 intro ks
 induction ks with
 | nil =>
   intro cs ds X Y r h hX hY rX rY
   cases cs with
   | nil =>
     cases ds with
     | nil => cases X <;> cases Y <;> simp at hX hY; simpa [eqVals, eqCells] using h
     | cons d ds => simp [eqCells] at h
   | cons c cs => cases ds <;> simp [eqCells] at h
 | cons kd ks ih =>
   intro cs ds X Y r h hX hY rX rY
   unfold eqCells at h
   split at h
   · rename_i heq; cases heq
   · rename_i ks' k a cs k' b ds e
     cases e
     cases X with
     | nil => simp at hX
     | cons x X =>
       cases Y with
       | nil => simp at hY
       | cons y Y =>
         have r0 := rX 0 (by simp) (by simp)
         have s0 := rY 0 (by simp) (by simp)
         simp only [List.getElem_cons_zero] at r0 s0
         obtain rfl := r0.s_inv
         obtain rfl := s0.s_inv
         split at h <;> try (cases h; done)
         rename_i hk
         rw [Option.map_eq_some_iff] at h
         obtain ⟨e, he, rfl⟩ := h
         have := ih cs ds X Y e he (by simpa using hX) (by simpa using hY)
          (fun i hi hi' => by have := rX (i + 1) (by simp; omega) (by simp; omega); simpa using this)
          (fun i hi hi' => by have := rY (i + 1) (by simp; omega) (by simp; omega); simpa using this)
         simp [eqVals, hk, this]
   · rename_i ks' a cs b ds e
     cases e
     cases X with
     | nil => simp at hX
     | cons x X =>
       cases Y with
       | nil => simp at hY
       | cons y Y =>
         have r0 := rX 0 (by simp) (by simp)
         have s0 := rY 0 (by simp) (by simp)
         simp only [List.getElem_cons_zero] at r0 s0
         obtain rfl := r0.s_inv
         obtain rfl := s0.s_inv
         rw [Option.map_eq_some_iff] at h
         obtain ⟨e, he, rfl⟩ := h
         have := ih cs ds X Y e he (by simpa using hX) (by simpa using hY)
          (fun i hi hi' => by have := rX (i + 1) (by simp; omega) (by simp; omega); simpa using this)
          (fun i hi hi' => by have := rY (i + 1) (by simp; omega) (by simp; omega); simpa using this)
         simp [eqVals, this]
   · cases h
theorem qka (ks : List Bool) (n : Nat) : (plainI ks n).length = ks.length * n := by
 induction n with
 | zero => simp [plainI]
 | succ n ih => simp only [plainI, List.length_append, ih]; rw [Nat.mul_succ]; omega
def mkV (P : Program) (t : TypeId) (X : List Value) : Value :=
 match P.underlying t with
 | some (.struct _) => .agg X.toArray
 | some (.array _ _) => .agg X.toArray
 | _ => X.headD undef
theorem qdI {d : Nat} {t : TypeId} {ks : List Bool} (hk : plainK P d t = some ks) (xs : Array Value) (off : Nat) (h : off + ks.length ≤ xs.size) :
 (part t xs off).run P w = .ok (mkV P t ((xs.toList.drop off).take ks.length)) w := by
 cases d with
 | zero => simp [plainK] at hk
 | succ d =>
   simp only [plainK] at hk
   split at hk <;> try (cases hk; done)
   all_goals (rename_i i hu hi)
   · split at hk <;> simp at hk
     subst hk
     have h1 : off < xs.size := by simp at h; omega
     simp [part, isAgg, run_underlying hu, mkV, hu, Array.getElem?_eq_getElem h1, List.head?_take, List.getElem?_eq_getElem (show off < xs.toList.length by simpa using h1)]
   · split at hk <;> simp at hk
     subst hk
     have h1 : off < xs.size := by simp at h; omega
     simp [part, isAgg, run_underlying hu, mkV, hu, Array.getElem?_eq_getElem h1, List.head?_take, List.getElem?_eq_getElem (show off < xs.toList.length by simpa using h1)]
   · split at hk <;> try (cases hk; done)
     split at hk <;> try (cases hk; done)
     split at hk <;> simp at hk
     rename_i hl
     subst hk
     have he : (xs.extract off (off + i.size)) = ((xs.toList.drop off).take i.size).toArray := by
      apply Array.ext'; simp [List.take_drop]
     simp [part, isAgg, run_underlying hu, mkV, hu, qac hi, he, hl]
   · split at hk <;> try (cases hk; done)
     split at hk <;> try (cases hk; done)
     split at hk <;> simp at hk
     rename_i ks' hks _ hl
     have hlen : ks.length = i.size := by rw [← hk, ← hl, qka]
     have he : (xs.extract off (off + i.size)) = ((xs.toList.drop off).take i.size).toArray := by
      apply Array.ext'; simp [List.take_drop]
     simp [part, isAgg, run_underlying hu, mkV, hu, qac hi, he, hlen]
theorem qhp : ∀ (d : Nat) (t : TypeId) (ks : List Bool), plainK P d t = some ks → ∀ (e : Nat) (X Y : List Value) (r : Bool), eqVals ks X Y = some r →
 (Op.equalIn (d + e) t (mkV P t X) (mkV P t Y)).run P w = .ok r w := by
 intro d
 induction d with
 | zero => intro t ks hk; simp [plainK] at hk
 | succ d ih =>
   intro t ks hk e X Y r hr
   rw [show d + 1 + e = (d + e) + 1 by omega]
   obtain ⟨lX, lY⟩ := qe0 ks X Y r hr
   simp only [plainK] at hk
   split at hk <;> try (cases hk; done)
   all_goals (rename_i i hu hi)
   · split at hk <;> simp at hk
     subst hk
     cases X with
     | nil => simp at lX
     | cons x X =>
       cases Y with
       | nil => simp at lY
       | cons y Y =>
         cases X <;> simp at lX
         cases Y <;> simp at lY
         cases x <;> cases y <;> simp only [eqVals] at hr <;> try (cases hr; done)
         simp at hr
         simp only [mkV, hu, List.headD_cons]
         rw [run_equalIn_bool' w _ _ _ _ hu, hr]
   · split at hk <;> simp at hk
     subst hk
     cases X with
     | nil => simp at lX
     | cons x X =>
       cases Y with
       | nil => simp at lY
       | cons y Y =>
         cases X <;> simp at lX
         cases Y <;> simp at lY
         cases x <;> cases y <;> simp only [eqVals] at hr <;> try (cases hr; done)
         split at hr <;> simp at hr
         rename_i hkk
         subst hkk
         simp only [mkV, hu, List.headD_cons]
         rw [run_equalIn_int w _ _ _ _ _ _ hu]
         subst hr; rfl
   · rename_i fs
     split at hk <;> try (cases hk; done)
     rename_i hst
     split at hk <;> try (cases hk; done)
     rename_i ks' hks
     split at hk <;> simp at hk
     subst hk
     have hf : P.fieldsOf t = fs := by simp [Program.fieldsOf, hu]
     simp only [mkV, hu]
     rw [run_equalIn_struct w (d + e) t _ _ (by rw [hf]; exact hu) (by simpa using hst), hf]
     generalize fs.toList = l at hks
     have key : ∀ (l : List Field) (off : Nat) (ks' : List Bool) (r : Bool), plainF (plainK P d) l off = some ks' → eqVals ks' (X.drop off) (Y.drop off) = some r →
      (Op.eqFields (d + e) X.toArray Y.toArray l).run P w = .ok r w := by
      intro l
      induction l with
      | nil => intro off ks' r h1 h2; simp [plainF] at h1; subst h1; have := qe0 _ _ _ _ h2; simp at this; rw [List.drop_eq_nil_of_le (by omega), List.drop_eq_nil_of_le (by omega)] at h2; simp [eqVals] at h2; simp [Op.eqFields, h2]
      | cons fd l ihl =>
        intro off ks' r h1 h2
        simp only [plainF] at h1
        split at h1 <;> try (cases h1; done)
        rename_i hc
        simp only [not_or, Decidable.not_not] at hc
        split at h1 <;> try (cases h1; done)
        rename_i k1 hk1
        split at h1 <;> try (cases h1; done)
        rename_i hk0
        rw [Option.map_eq_some_iff] at h1
        obtain ⟨k2, hk2, rfl⟩ := h1
        obtain ⟨a, b, g1, g2, rfl⟩ := qeE _ _ _ _ _ h2
        have l1 := qe0 _ _ _ _ g1
        simp only [List.length_take, List.length_drop] at l1
        have p1 := qdI (w := w) hk1 X.toArray fd.offset (by simp; omega)
        have p2 := qdI (w := w) hk1 Y.toArray fd.offset (by simp; omega)
        simp only [hc.2] at p1 p2
        have q := ih fd.type k1 hk1 e _ _ a g1
        simp only [Op.eqFields, hc.1, ne_eq, not_false_eq_true, if_true, hc.2, Sem.run_bind, p1, p2, Result.andThen_ok]
        rw [q]
        cases a
        · simp
        · simp only [List.drop_drop] at g2
          have := ihl (off + k1.length) k2 b hk2 g2
          simpa using this
     exact key l 0 ks' r hks (by simpa using hr)
   · rename_i n el
     split at hk <;> try (cases hk; done)
     rename_i k1 hk1
     split at hk <;> try (cases hk; done)
     rename_i hk0
     split at hk <;> simp at hk
     rename_i hl
     subst hk
     obtain ⟨ie, hie, hsz⟩ : ∃ ie, P.info? el = some ie ∧ ie.size = k1.length := by
      cases d with
      | zero => simp [plainK] at hk1
      | succ d =>
        simp only [plainK] at hk1
        split at hk1 <;> try (cases hk1; done)
        all_goals (rename_i i' hu' hi'; refine ⟨i', hi', ?_⟩)
        · split at hk1 <;> simp at hk1; subst hk1; simpa
        · split at hk1 <;> simp at hk1; subst hk1; simpa
        · split at hk1 <;> try (cases hk1; done)
          split at hk1 <;> try (cases hk1; done)
          split at hk1 <;> simp at hk1
          subst hk1; omega
        · rename_i n' e'
          split at hk1 <;> try (cases hk1; done)
          split at hk1 <;> try (cases hk1; done)
          split at hk1 <;> simp at hk1
          rename_i k3 _ _ hl3
          rw [← hk1, ← hl3, qka]
     simp only [mkV, hu]
     rw [run_equalIn_array w (d + e) _ _ hu hie]
     have hcell : P.cellsOf el = k1.length := by simp [Program.cellsOf, hie, hsz]
     rw [hcell]
     have key : ∀ (m j : Nat) (r : Bool), eqVals (plainI k1 m) (X.drop (j * k1.length)) (Y.drop (j * k1.length)) = some r →
      (Op.eqItems (d + e) el k1.length X.toArray Y.toArray ((List.range m).map (j + ·))).run P w = .ok r w := by
      intro m
      induction m with
      | zero =>
        intro j r h2
        have := qe0 _ _ _ _ h2
        simp [plainI] at this
        rw [List.drop_eq_nil_of_le (by omega), List.drop_eq_nil_of_le (by omega)] at h2; simp [eqVals, plainI] at h2; simp [Op.eqItems, h2]
      | succ m ihm =>
        intro j r h2
        simp only [plainI] at h2
        obtain ⟨a, b, g1, g2, rfl⟩ := qeE _ _ _ _ _ h2
        have l1 := qe0 _ _ _ _ g1
        simp only [List.length_take, List.length_drop] at l1
        have hj : k1.length = 0 ∨ j * k1.length + k1.length ≤ X.length := by omega
        have hj' : k1.length = 0 ∨ j * k1.length + k1.length ≤ Y.length := by omega
        have hrange : (List.range (m + 1)).map (j + ·) = j :: (List.range m).map (j + 1 + ·) := by
         rw [List.range_succ_eq_map]; simp; intro x _; omega
        rw [hrange]
        · have p1 := qdI (w := w) hk1 X.toArray (j * k1.length) (by simp; omega)
          have p2 := qdI (w := w) hk1 Y.toArray (j * k1.length) (by simp; omega)
          have q := ih el k1 hk1 e _ _ a g1
          simp only [Op.eqItems, Sem.run_bind, p1, p2, Result.andThen_ok]
          rw [q]
          cases a
          · simp
          · simp only [List.drop_drop] at g2
            have := ihm (j + 1) b (by rw [Nat.succ_mul]; exact g2)
            simpa using this
     have := key n 0 r (by simpa using hr)
     simpa using this
end
end Go.Ab
