/-
 WHAT A VALUE WITHOUT ADDRESSES STANDS FOR in a world of the machine; how that outlasts what a call does.
-/
import Derived.Test.YtocnjegcmmfpfaaAbsEval
import Derived.Below
import Derived.Wp
set_option linter.unusedSimpArgs false
set_option linter.unusedVariables false
namespace Go.Ab
open Go
abbrev Cells := Nat → Nat → Prop
def BlkUpd (T : Nat → Prop) (x y : Option _root_.Go.Obj) : Prop :=
 x = y ∨ (∃ c c' t fr, x = some (.cells c t fr) ∧ y = some (.cells c' t fr) ∧ c'.size = c.size ∧ ∀ j : Nat, ¬ T j → c'[j]? = c[j]?) ∨ (T 0 ∧ ∃ es k es' k', x = some (.map es k) ∧ y = some (.map es' k'))
structure Upd (T : Cells) (w w' : World) : Prop where
 os : w'.os = w.os
 tape : w'.tape = w.tape
 output : w'.output = w.output
 size : w.heap.size ≤ w'.heap.size
 blk : ∀ k, k < w.heap.size → BlkUpd (T k) w.heap[k]? w'.heap[k]?
theorem Upd.refl (T : Cells) (w : World) : Upd T w w := ⟨rfl, rfl, rfl, Nat.le_refl _, fun _ _ => .inl rfl⟩
theorem BlkUpd.mono {T T' : Nat → Prop} {x y} (h : BlkUpd T x y) (ht : ∀ j, T j → T' j) : BlkUpd T' x y := by
 rcases h with h | ⟨c, c', t, fr, h1, h2, h3, h4⟩ | ⟨h0, h1⟩
 · exact .inl h
 · exact .inr (.inl ⟨c, c', t, fr, h1, h2, h3, fun j hj => h4 j fun h => hj (ht j h)⟩)
 · exact .inr (.inr ⟨ht 0 h0, h1⟩)
theorem BlkUpd.trans {T : Nat → Prop} {x y z} (h : BlkUpd T x y) (h' : BlkUpd T y z) : BlkUpd T x z := by
 rcases h with rfl | ⟨c, c', t, fr, h1, h2, h3, h4⟩ | ⟨h0, es, k, es', k', h1, h2⟩
 · exact h'
 · rcases h' with rfl | ⟨d, d', t', fr', g1, g2, g3, g4⟩ | ⟨g0, es, k, es', k', g1, g2⟩
   · exact .inr (.inl ⟨c, c', t, fr, h1, h2, h3, h4⟩)
   · rw [h2] at g1
     simp only [Option.some.injEq, _root_.Go.Obj.cells.injEq] at g1
     obtain ⟨rfl, rfl, rfl⟩ := g1
     exact .inr (.inl ⟨c, d', t, fr, h1, g2, g3.trans h3, fun j hj => (g4 j hj).trans (h4 j hj)⟩)
   · rw [h2] at g1; cases g1
 · rcases h' with rfl | ⟨d, d', t', fr', g1, g2, g3, g4⟩ | ⟨g0, fs, l, fs', l', g1, g2⟩
   · exact .inr (.inr ⟨h0, es, k, es', k', h1, h2⟩)
   · rw [h2] at g1; cases g1
   · exact .inr (.inr ⟨h0, es, k, fs', l', h1, g2⟩)
theorem Upd.trans {T T' : Cells} {a b c : World} (h : Upd T a b) (h' : Upd T' b c) (ht : ∀ k o, k < a.heap.size → T' k o → T k o) : Upd T a c :=
 ⟨h'.os.trans h.os, h'.tape.trans h.tape, h'.output.trans h.output, Nat.le_trans h.size h'.size, fun k hk =>
  (h.blk k hk).trans ((h'.blk k (Nat.lt_of_lt_of_le hk h.size)).mono (ht k · hk))⟩
theorem Upd.mono {T T' : Cells} {a b : World} (h : Upd T a b) (ht : ∀ k o, k < a.heap.size → T k o → T' k o) : Upd T' a b :=
 ⟨h.os, h.tape, h.output, h.size, fun k hk => (h.blk k hk).mono (ht k · hk)⟩
theorem Upd.cell {T : Cells} {w w' : World} (h : Upd T w w') {b o : Nat} (hb : b < w.heap.size) (ht : ¬ T b o) : w'.cell? ⟨b, o, none⟩ = w.cell? ⟨b, o, none⟩ := by
 unfold World.cell?
 rcases h.blk b hb with e | ⟨c, c', t, fr, h1, h2, h3, h4⟩ | ⟨_, es, k, es', k', h1, h2⟩
 · rw [← e]
 · rw [h1, h2]; simpa using h4 o ht
 · rw [h1, h2]
theorem Upd.isSome {T : Cells} {w w' : World} (h : Upd T w w') {b o : Nat} (hb : b < w.heap.size) : (w'.cell? ⟨b, o, none⟩).isSome = (w.cell? ⟨b, o, none⟩).isSome := by
 unfold World.cell?
 rcases h.blk b hb with e | ⟨c, c', t, fr, h1, h2, h3, h4⟩ | ⟨_, es, k, es', k', h1, h2⟩
 · rw [← e]
 · rw [h1, h2]
   simp only [Option.isSome_none, Bool.false_eq_true, if_false]
   by_cases ho : o < c.size
   · rw [Array.getElem?_eq_getElem (by omega), Array.getElem?_eq_getElem ho]; rfl
   · rw [Array.getElem?_eq_none (by omega), Array.getElem?_eq_none (by omega)]
 · rw [h1, h2]
theorem Upd.frozen {T : Cells} {w w' : World} (h : Upd T w w') {b o : Nat} (hb : b < w.heap.size) : w'.frozen? ⟨b, o, none⟩ = w.frozen? ⟨b, o, none⟩ := by
 unfold World.frozen?
 rcases h.blk b hb with e | ⟨c, c', t, fr, h1, h2, h3, h4⟩ | ⟨_, es, k, es', k', h1, h2⟩
 · rw [← e]
 · rw [h1, h2]
 · rw [h1, h2]
theorem Upd.below {T : Cells} {w w' : World} (h : Upd T w w') (ht : ∀ b o, b < w.heap.size → ¬ T b o) : Go.RowKit.Below w.heap.size w w' := by
 refine ⟨h.os, h.tape, h.output, h.size, fun k hk => ?_⟩
 rcases h.blk k hk with e | ⟨c, c', t, fr, h1, h2, h3, h4⟩ | ⟨h0, _⟩
 · exact e.symm
 rotate_left
 · exact absurd h0 (ht k 0 hk)
 · rw [h1, h2]
   have : c' = c := by
    apply Array.ext h3
    intro i hi hi'
    have := h4 i (ht k i hk)
    rw [Array.getElem?_eq_getElem hi, Array.getElem?_eq_getElem hi'] at this
    exact Option.some.inj this
   rw [this]
theorem qd6 {w : World} {b o : Nat} {v : Value} (h : w.cell? ⟨b, o, none⟩ = some v) : b < w.heap.size := by
 unfold World.cell? at h
 cases hb : w.heap[b]? with
 | none => simp [hb] at h
 | some x => exact (Array.getElem?_eq_some_iff.1 hb).1
def World.put (w : World) (o : _root_.Go.Obj) : World := { w with heap := w.heap.push o }
theorem qfd (T : Cells) (w : World) (o : _root_.Go.Obj) : Upd T w { w with heap := w.heap.push o } :=
 ⟨rfl, rfl, rfl, by simp, fun k hk => .inl (by show _ = (w.heap.push o)[k]?; rw [Array.getElem?_push, if_neg (by omega)])⟩
theorem qbV (T : Cells) (w : World) : Upd T w { w with drawn := w.drawn + 1 } := ⟨rfl, rfl, rfl, Nat.le_refl _, fun _ _ => .inl rfl⟩
theorem qdh (w : World) (c : Array Value) (t : TypeId) (i : Nat) :
 World.cell? { w with heap := w.heap.push (.cells c t) } ⟨w.heap.size, i, none⟩ = c[i]? := by
 simp [World.cell?]
theorem qcl (w : World) (c : Array Value) (t : TypeId) (i : Nat) :
 World.frozen? { w with heap := w.heap.push (.cells c t) } ⟨w.heap.size, i, none⟩ = false := by
 simp [World.frozen?]
theorem qmr {T : Cells} {w : World} {b o : Nat} {v : Value} (ht : T b o) : Upd T w (w.setCell ⟨b, o, none⟩ v) := by
 refine ⟨rfl, rfl, rfl, by simp [World.setCell], fun k hk => ?_⟩
 simp only [World.setCell, Array.getElem?_modify]
 by_cases hkb : b = k
 · subst hkb
   simp only [if_true]
   cases hx : w.heap[b]? with
   | none => exact .inl rfl
   | some x =>
     cases x with
     | cells c t fr =>
       refine .inr (.inl ⟨c, c.setIfInBounds o v, t, fr, rfl, by simp, by simp, fun j hj => ?_⟩)
       rw [Array.getElem?_setIfInBounds_ne]
       rintro rfl; exact hj ht
     | _ => exact .inl rfl
 · simp only [hkb, if_false]; exact .inl rfl
theorem qin {w : World} {b o : Nat} {v u : Value} (h : w.cell? ⟨b, o, none⟩ = some u) : (w.setCell ⟨b, o, none⟩ v).cell? ⟨b, o, none⟩ = some v := by
 unfold World.cell? at h ⊢
 simp only [World.setCell, Array.getElem?_modify, if_true]
 cases hx : w.heap[b]? with
 | none => simp [hx] at h
 | some x =>
   cases x with
   | cells c t fr =>
     simp [hx] at h
     simp
     have := (Array.getElem?_eq_some_iff.1 h).1
     simp [this]
   | _ => simp [hx] at h
theorem qdT {w : World} {b o b' o' : Nat} {v : Value} (h : ¬ (b' = b ∧ o' = o)) : (w.setCell ⟨b, o, none⟩ v).cell? ⟨b', o', none⟩ = w.cell? ⟨b', o', none⟩ := by
 unfold World.cell?
 simp only [World.setCell, Array.getElem?_modify]
 by_cases hb : b = b'
 · subst hb
   simp only [if_true]
   cases hx : w.heap[b]? with
   | none => rfl
   | some x =>
     cases x with
     | cells c t fr =>
       simp
       rw [Array.getElem?_setIfInBounds_ne]
       intro e; exact h ⟨rfl, e.symm⟩
     | _ => rfl
 · simp only [hb, if_false]
def Thaw (w : World) (b : Nat) : Prop := ∀ n : Nat, w.frozen? ⟨b, n, none⟩ = false
theorem Upd.thaw {T : Cells} {w w' : World} (h : Upd T w w') {b : Nat} (hb : b < w.heap.size) (ht : Thaw w b) : Thaw w' b := fun n => by rw [h.frozen hb]; exact ht n
structure Reg where
 b : Nat
 o : Nat
 sz : Nat
 cap : Nat
instance : Inhabited Reg := ⟨⟨0, 0, 0, 0⟩⟩
def Reg.has (r : Reg) (b o : Nat) : Prop := b = r.b ∧ r.o ≤ o ∧ o < r.o + r.cap * r.sz
theorem Reg.has_cell (r : Reg) (j : Nat) (h : j < r.cap * r.sz) : r.has r.b (r.o + j) := ⟨rfl, by omega, by omega⟩
inductive Fz (P : Program) (w : World) (F : Cells) : Value → A → Prop where
 | s (v : Value) : Fz P w F v (.s v)
 | cptr (b o : Nat) (cs : List A) (vs : Nat → Value) (hc : ∀ i, i < cs.length → F b (o + i) ∧ w.cell? ⟨b, o + i, none⟩ = some (vs i) ∧ (vs i).oneCell = true)
  (hr : ∀ i (h : i < cs.length), Fz P w F (vs i) cs[i]) : Fz P w F (.pointer (some ⟨b, o, none⟩)) (.cptr cs)
 | fsl (a : Option Addr) (c sz : Nat) (rows : List (List A)) (b o : Nat) (vs : Nat → Nat → Value) (hlc : rows.length ≤ c) (ha : 0 < rows.length → a = some ⟨b, o, none⟩)
  (hw : ∀ row ∈ rows, row.length = sz)
  (hc : ∀ i j, i < rows.length → j < sz → F b (o + i * sz + j) ∧ w.cell? ⟨b, o + i * sz + j, none⟩ = some (vs i j) ∧ (vs i j).oneCell = true)
  (hr : ∀ i j (hi : i < rows.length) (hj : j < rows[i].length), Fz P w F (vs i j) rows[i][j]) : Fz P w F (.slice a rows.length c) (.fsl sz rows)
 | agg (vs : Array Value) (cs : List A) (hs : vs.size = cs.length) (h1 : ∀ i, i < cs.length → (vs.getD i undef).oneCell = true)
  (hr : ∀ i (h : i < cs.length), Fz P w F (vs.getD i undef) cs[i]) : Fz P w F (.agg vs) (.agg cs)
 | tup (vs : Array Value) (cs : List A) (hs : vs.size = cs.length) (hr : ∀ i (h : i < cs.length), Fz P w F (vs.getD i undef) cs[i]) : Fz P w F (.tuple vs) (.tup cs)
 | fn (f : FuncId) (fn : Func) (caps : Array Value) (cs : List A) (hf : P.funcs[f]? = some fn) (hs : caps.size = cs.length)
  (hr : ∀ i (h : i < cs.length), Fz P w F (caps.getD i undef) cs[i]) : Fz P w F (.func (.func f) #[] caps) (.fn fn.name cs)
 | bound (f : FuncId) (fn : Func) (v : Value) (a : A) (hf : P.funcs[f]? = some fn) (hp : pureA a = true) (hr : Fz P w F v a) : Fz P w F (.func (.func f) #[v] #[]) (.fn fn.name [bndM, a])
 | iface (t : TypeId) (ty : String) (v : Value) (a : A) (ht : (P.info? t).map (·.str) = some ty) (hr : Fz P w F v a) : Fz P w F (.iface t v) (.iface ty a)
inductive Rel (P : Program) (w : World) (F : Cells) (ρ : Nat → Reg) (h : Heap) : Value → A → Prop where
 | pure (v : Value) (a : A) (hz : Fz P w F v a) : Rel P w F ρ h v a
 | any (v : Value) : Rel P w F ρ h v .any
 | ptr (x : Addr) (id ver row off : Nat) (hl : id < h.length) (hn : ∀ s, h[id]? = some s → s ≠ .res)
  (hx : ∀ ob, h[id]? = some (.live ob) → ver ≤ ob.ver ∧ (ver = ob.ver → x = ⟨(ρ id).b, (ρ id).o + row * (ρ id).sz + off, none⟩)) : Rel P w F ρ h (.pointer (some x)) (.ptr id ver row off)
 | osl (a : Option Addr) (len c id ver sz lo : Nat) (hl : id < h.length) (hn : ∀ s, h[id]? = some s → s ≠ .res) (hc : len ≤ c) (ha : 0 < c → ∃ x, a = some x)
  (hx : ∀ ob, h[id]? = some (.live ob) → ver ≤ ob.ver ∧ (ver = ob.ver → sz = (ρ id).sz ∧ (0 < c → a = some ⟨(ρ id).b, (ρ id).o + lo * sz, none⟩ ∧ lo + c ≤ (ρ id).cap))) :
  Rel P w F ρ h (.slice a len c) (.osl id ver sz lo len)
 | agg (vs : Array Value) (cs : List A) (hs : vs.size = cs.length) (h1 : ∀ i, i < cs.length → (vs.getD i undef).oneCell = true)
  (hr : ∀ i (h' : i < cs.length), Rel P w F ρ h (vs.getD i undef) cs[i]) : Rel P w F ρ h (.agg vs) (.agg cs)
 | tup (vs : Array Value) (cs : List A) (hs : vs.size = cs.length) (hr : ∀ i (h' : i < cs.length), Rel P w F ρ h (vs.getD i undef) cs[i]) : Rel P w F ρ h (.tuple vs) (.tup cs)
 | fn (f : FuncId) (fn : Func) (caps : Array Value) (cs : List A) (hf : P.funcs[f]? = some fn) (hs : caps.size = cs.length)
  (hr : ∀ i (h' : i < cs.length), Rel P w F ρ h (caps.getD i undef) cs[i]) : Rel P w F ρ h (.func (.func f) #[] caps) (.fn fn.name cs)
 | iface (t : TypeId) (ty : String) (v : Value) (a : A) (ht : (P.info? t).map (·.str) = some ty) (hr : Rel P w F ρ h v a) : Rel P w F ρ h (.iface t v) (.iface ty a)
 | mref (b id : Nat) (hl : id < h.length) (hn : ∀ s, h[id]? = some s → s ≠ .res) (hx : ∀ kd es, h[id]? = some (.mp kd es) → b = (ρ id).b) : Rel P w F ρ h (.map (some b)) (.mref id)
structure ObjOk (P : Program) (w : World) (F : Cells) (ρ : Nat → Reg) (h : Heap) (id : Nat) (ob : Obj) : Prop where
 sz : (ρ id).sz = ob.sz
 pos : 0 < ob.sz
 len : ob.rows.length ≤ (ρ id).cap
 width : ∀ row ∈ ob.rows, row.length = ob.sz
 cell : ∀ j, j < (ρ id).cap * (ρ id).sz → (∃ v, w.cell? ⟨(ρ id).b, (ρ id).o + j, none⟩ = some v) ∧ Thaw w (ρ id).b ∧ ¬ F (ρ id).b ((ρ id).o + j)
 rel : ∀ i j (hi : i < ob.rows.length) (hj : j < ob.rows[i].length),
  ∃ v, w.cell? ⟨(ρ id).b, (ρ id).o + i * (ρ id).sz + j, none⟩ = some v ∧ v.oneCell = true ∧ Rel P w F ρ h v ob.rows[i][j]
def MpOk (P : Program) (w : World) (F : Cells) (b : Nat) (kd : IntKind) (es : List (Int × A)) : Prop :=
 ∃ (ces : Array MapEntry) (clock : Nat), w.heap[b]? = some (.map ces clock) ∧ ces.size = es.length ∧ ∀ (i : Nat) (k : Int) (a : A), es[i]? = some (k, a) → ∃ e, ces[i]? = some e ∧ e.key = .int kd k ∧ Fz P w F e.val a
structure Inv (P : Program) (w : World) (F : Cells) (ρ : Nat → Reg) (h : Heap) : Prop where
 obj : ∀ (id : Nat) ob, h[id]? = some (.live ob) → ObjOk P w F ρ h id ob
 disj : ∀ (i j : Nat) oi oj, i ≠ j → h[i]? = some (.live oi) → h[j]? = some (.live oj) → ∀ b o, (ρ i).has b o → ¬ (ρ j).has b o
 fin : ∀ b o, F b o → b < w.heap.size
 mp : ∀ (id : Nat) kd es, h[id]? = some (.mp kd es) → MpOk P w F (ρ id).b kd es
 mpd : ∀ (i j : Nat) ki ei kj ej, i ≠ j → h[i]? = some (.mp ki ei) → h[j]? = some (.mp kj ej) → (ρ i).b ≠ (ρ j).b
def Mem (ρ : Nat → Reg) (h : Heap) : Cells := fun b o => (∃ (id : Nat) (ob : Obj), h[id]? = some (.live ob) ∧ (ρ id).has b o) ∨ ∃ (id : Nat) (kd : IntKind) (es : List (Int × A)), h[id]? = some (.mp kd es) ∧ b = (ρ id).b
structure Evo (ρ : Nat → Reg) (h : Heap) (ρ' : Nat → Reg) (h' : Heap) : Prop where
 len : h.length ≤ h'.length
 res : ∀ id, id < h.length → h'[id]? = some .res → h[id]? = some .res
 live : ∀ id ob', id < h.length → h'[id]? = some (.live ob') → h[id]? = some .res ∨ ∃ ob, h[id]? = some (.live ob) ∧ ob.ver ≤ ob'.ver ∧ (ob.ver = ob'.ver → ρ' id = ρ id)
 mp : ∀ id kd es', id < h.length → h'[id]? = some (.mp kd es') → h[id]? = some .res ∨ ∃ es, h[id]? = some (.mp kd es) ∧ ρ' id = ρ id
theorem Evo.refl (ρ : Nat → Reg) (h : Heap) : Evo ρ h ρ h := ⟨Nat.le_refl _, fun _ _ h => h, fun _ ob _ h => .inr ⟨ob, h, Nat.le_refl _, fun _ => rfl⟩, fun _ _ es _ h => .inr ⟨es, h, rfl⟩⟩
theorem Evo.trans {ρ ρ' ρ'' : Nat → Reg} {h h' h'' : Heap} (e : Evo ρ h ρ' h') (e' : Evo ρ' h' ρ'' h'') : Evo ρ h ρ'' h'' := by
 refine ⟨Nat.le_trans e.len e'.len, fun id hl hr => e.res id hl (e'.res id (Nat.lt_of_lt_of_le hl e.len) hr), fun id ob'' hl hv => ?_, fun id kd es'' hl hv => ?_⟩
 rotate_left
 · rcases e'.mp id kd es'' (Nat.lt_of_lt_of_le hl e.len) hv with hr | ⟨es', h1, h2⟩
   · exact .inl (e.res id hl hr)
   · rcases e.mp id kd es' hl h1 with hr | ⟨es, g1, g2⟩
     · exact .inl hr
     · exact .inr ⟨es, g1, h2.trans g2⟩
 rcases e'.live id ob'' (Nat.lt_of_lt_of_le hl e.len) hv with hr | ⟨ob', h1, h2, h3⟩
 · exact .inl (e.res id hl hr)
 · rcases e.live id ob' hl h1 with hr | ⟨ob, g1, g2, g3⟩
   · exact .inl hr
   · exact .inr ⟨ob, g1, Nat.le_trans g2 h2, fun he => (h3 (by omega)).trans (g3 (by omega))⟩
structure Tr (w : World) (F : Cells) (ρ : Nat → Reg) (h : Heap) (w' : World) (F' : Cells) (ρ' : Nat → Reg) (h' : Heap) : Prop where
 upd : Upd (Mem ρ h) w w'
 sub : ∀ b o, F b o → F' b o
 new : ∀ b o, F' b o → F b o ∨ Mem ρ h b o ∨ w.heap.size ≤ b
 reg : ∀ b o, Mem ρ' h' b o → Mem ρ h b o ∨ w.heap.size ≤ b
 evo : Evo ρ h ρ' h'
theorem Tr.refl (w : World) (F : Cells) (ρ : Nat → Reg) (h : Heap) : Tr w F ρ h w F ρ h :=
 ⟨.refl _ _, fun _ _ h => h, fun _ _ h => .inl h, fun _ _ h => .inl h, .refl _ _⟩
theorem Tr.trans {w w' w'' : World} {F F' F'' : Cells} {ρ ρ' ρ'' : Nat → Reg} {h h' h'' : Heap} (t : Tr w F ρ h w' F' ρ' h') (t' : Tr w' F' ρ' h' w'' F'' ρ'' h'') :
 Tr w F ρ h w'' F'' ρ'' h'' := by
 refine ⟨t.upd.trans t'.upd fun k o hk hm => (t.reg k o hm).resolve_right (by omega), fun b o hf => t'.sub b o (t.sub b o hf), fun b o hf => ?_, fun b o hm => ?_, t.evo.trans t'.evo⟩
 · rcases t'.new b o hf with h1 | h1 | h1
   · exact t.new b o h1
   · rcases t.reg b o h1 with h2 | h2
     · exact .inr (.inl h2)
     · exact .inr (.inr h2)
   · exact .inr (.inr (Nat.le_trans t.upd.size h1))
 · rcases t'.reg b o hm with h1 | h1
   · exact t.reg b o h1
   · exact .inr (Nat.le_trans t.upd.size h1)
theorem Fz.mono {P : Program} {w w' : World} {F F' : Cells} (hs : ∀ b o, F b o → F' b o) (hk : ∀ b o, F b o → w'.cell? ⟨b, o, none⟩ = w.cell? ⟨b, o, none⟩) {v : Value} {a : A} (h : Fz P w F v a) :
 Fz P w' F' v a := by
 induction h with
 | s v => exact .s v
 | cptr b o cs vs hc hr ih => exact .cptr b o cs vs (fun i hi => let ⟨h1, h2, h3⟩ := hc i hi; ⟨hs _ _ h1, (hk _ _ h1).trans h2, h3⟩) ih
 | fsl a c sz rows b o vs hlc ha hw hc hr ih =>
   exact .fsl a c sz rows b o vs hlc ha hw (fun i j hi hj => let ⟨h1, h2, h3⟩ := hc i j hi hj; ⟨hs _ _ h1, (hk _ _ h1).trans h2, h3⟩) ih
 | agg vs cs hs h1 hr ih => exact .agg vs cs hs h1 ih
 | tup vs cs hs hr ih => exact .tup vs cs hs ih
 | fn f fn caps cs hf hs hr ih => exact .fn f fn caps cs hf hs ih
 | bound f fn v a hf hp hr ih => exact .bound f fn v a hf hp ih
 | iface t ty v a ht hr ih => exact .iface t ty v a ht ih
theorem Rel.mono {P : Program} {w w' : World} {F F' : Cells} {ρ ρ' : Nat → Reg} {h h' : Heap} (hs : ∀ b o, F b o → F' b o)
 (hk : ∀ b o, F b o → w'.cell? ⟨b, o, none⟩ = w.cell? ⟨b, o, none⟩) (e : Evo ρ h ρ' h') {v : Value} {a : A} (hr : Rel P w F ρ h v a) : Rel P w' F' ρ' h' v a := by
 induction hr with
 | pure v a hz => exact .pure v a (hz.mono hs hk)
 | any v => exact .any v
 | ptr x id ver row off hl hn hx =>
   refine .ptr x id ver row off (Nat.lt_of_lt_of_le hl e.len) (fun s hs he => ?_) (fun ob' hob => ?_)
   · subst he; exact hn _ (e.res id hl hs) rfl
   · rcases e.live id ob' hl hob with h1 | ⟨ob, h1, h2, h3⟩
     · exact absurd rfl (hn _ h1)
     · obtain ⟨g1, g2⟩ := hx ob h1
       refine ⟨Nat.le_trans g1 h2, fun hv => ?_⟩
       rw [h3 (by omega)]; exact g2 (by omega)
 | osl a len c id ver sz lo hl hn hc ha hx =>
   refine .osl a len c id ver sz lo (Nat.lt_of_lt_of_le hl e.len) (fun s hs he => ?_) hc ha (fun ob' hob => ?_)
   · subst he; exact hn _ (e.res id hl hs) rfl
   · rcases e.live id ob' hl hob with h1 | ⟨ob, h1, h2, h3⟩
     · exact absurd rfl (hn _ h1)
     · obtain ⟨g1, g2⟩ := hx ob h1
       refine ⟨Nat.le_trans g1 h2, fun hv => ?_⟩
       rw [h3 (by omega)]; exact g2 (by omega)
 | agg vs cs hs h1 hr ih => exact .agg vs cs hs h1 ih
 | tup vs cs hs hr ih => exact .tup vs cs hs ih
 | fn f fn caps cs hf hs hr ih => exact .fn f fn caps cs hf hs ih
 | iface t ty v a ht hr ih => exact .iface t ty v a ht ih
 | mref b id hl hn hx =>
   refine .mref b id (Nat.lt_of_lt_of_le hl e.len) (fun s hs he => ?_) (fun kd es' hes => ?_)
   · subst he; exact hn _ (e.res id hl hs) rfl
   · rcases e.mp id kd es' hl hes with h1 | ⟨es, h1, h2⟩
     · exact absurd rfl (hn _ h1)
     · rw [h2]; exact hx kd es h1
theorem Inv.kept {P : Program} {w w' : World} {F : Cells} {ρ : Nat → Reg} {h : Heap} (i : Inv P w F ρ h) (u : Upd (Mem ρ h) w w') (b o : Nat) (hf : F b o) :
 w'.cell? ⟨b, o, none⟩ = w.cell? ⟨b, o, none⟩ := by
 by_cases hm : ∃ (id : Nat) (kd : IntKind) (es : List (Int × A)), h[id]? = some (.mp kd es) ∧ b = (ρ id).b
 · obtain ⟨id, kd, es, hes, rfl⟩ := hm
   obtain ⟨ces, clock, hb, _⟩ := i.mp id kd es hes
   unfold World.cell?
   rcases u.blk _ (i.fin _ o hf) with e | ⟨c, c', t, fr, h1, h2, h3, h4⟩ | ⟨_, es, k, es', k', h1, h2⟩
   · rw [← e]
   · rw [hb] at h1; cases h1
   · rw [h1, h2]
 refine u.cell (i.fin b o hf) ?_
 rintro (⟨id, ob, hob, rfl, h1, h2⟩ | hm')
 rotate_left
 · exact hm hm'
 obtain ⟨j, rfl⟩ : ∃ j, o = (ρ id).o + j := ⟨o - (ρ id).o, by omega⟩
 exact ((i.obj id ob hob).cell j (by omega)).2.2 hf
theorem Rel.step {P : Program} {w w' : World} {F F' : Cells} {ρ ρ' : Nat → Reg} {h h' : Heap} (i : Inv P w F ρ h) (t : Tr w F ρ h w' F' ρ' h') {v : Value} {a : A} (hr : Rel P w F ρ h v a) :
 Rel P w' F' ρ' h' v a := hr.mono t.sub (i.kept t.upd) t.evo
theorem qe3 {l : List A} {id : Nat} : id ∈ idsL l ↔ ∃ i, ∃ h : i < l.length, id ∈ idsA l[i] := by
 induction l with
 | nil => simp [idsL]
 | cons a r ih =>
   simp only [idsL, List.mem_append, ih]
   constructor
   · rintro (h | ⟨i, hi, h⟩)
     · exact ⟨0, by simp, h⟩
     · exact ⟨i + 1, by simp; omega, h⟩
   · rintro ⟨i, hi, h⟩
     cases i with
     | zero => exact .inl h
     | succ i => exact .inr ⟨i, by simp at hi; omega, h⟩
theorem Fz.ids {P : Program} {w : World} {F : Cells} {v : Value} {a : A} (hz : Fz P w F v a) : idsA a = [] := by
 have key : ∀ {cs : List A}, (∀ i (h : i < cs.length), idsA cs[i] = []) → idsL cs = [] := by
  intro cs
  induction cs with
  | nil => intro _; rfl
  | cons c r ih =>
    intro h
    simp only [idsL, List.append_eq_nil_iff]
    exact ⟨h 0 (by simp), ih fun i hi => h (i + 1) (by simp; omega)⟩
 induction hz with
 | agg vs cs hs h1 hr ih => exact key ih
 | tup vs cs hs hr ih => exact key ih
 | fn f fn caps cs hf hs hr ih => exact key ih
 | bound f fn v a hf hp hr ih => simp [idsA, idsL, ih]
 | iface t ty v a ht hr ih => exact ih
 | _ => rfl
theorem Rel.ids {P : Program} {w : World} {F : Cells} {ρ : Nat → Reg} {h : Heap} {v : Value} {a : A} (hr : Rel P w F ρ h v a) : ∀ id ∈ idsA a, id < h.length := by
 induction hr with
 | pure v a hz => rw [hz.ids]; intro id hid; cases hid
 | any v => intro id hid; simp [idsA] at hid
 | ptr x id ver row off hl hn hx => intro i hi; simp [idsA] at hi; omega
 | osl a len c id ver sz lo hl hn hc ha hx => intro i hi; simp [idsA] at hi; omega
 | agg vs cs hs h1 hr ih => intro id hid; obtain ⟨i, hi, h⟩ := qe3.1 hid; exact ih i hi id h
 | tup vs cs hs hr ih => intro id hid; obtain ⟨i, hi, h⟩ := qe3.1 hid; exact ih i hi id h
 | fn f fn caps cs hf hs hr ih => intro id hid; obtain ⟨i, hi, h⟩ := qe3.1 hid; exact ih i hi id h
 | iface t ty v a ht hr ih => exact ih
 | mref b id hl hn hx => intro i hi; simp [idsA] at hi; omega
end Go.Ab
