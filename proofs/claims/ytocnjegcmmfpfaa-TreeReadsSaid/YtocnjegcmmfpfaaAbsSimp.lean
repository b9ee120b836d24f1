/-
 HOW THE ABSTRACT MACHINE'S OPERATIONS REDUCE on values that are known: rules for simp. And the law of a loop over a list.
-/
import Derived.Test.YtocnjegcmmfpfaaAbsPrim
set_option linter.unusedSimpArgs false
set_option linter.unusedVariables false
namespace Go.Ab
open Go
section
variable {β : Type}
@[simp] theorem oCond_s (c : Bool) (x y : Option β) : oCond (.s (.bool c)) x y = if c then x else y := _root_.id rfl
@[simp] theorem oGuard_s (c want : Bool) (yes no : Unit → Option β) : oGuard (.s (.bool c)) want yes no = if c = want then yes () else no () := _root_.id rfl
@[simp] theorem qgX (off id v r o : Nat) (k : A → Option β) : oFieldA off (.ptr id v r o) k = k (.ptr id v r (o + off)) := _root_.id rfl
@[simp] theorem qee (off : Nat) (cs : List A) (k : A → Option β) : oFieldA off (.cptr cs) k = k (.cptr (cs.drop off)) := _root_.id rfl
@[simp] theorem qge (sz id ver sz' lo len : Nat) (kd : IntKind) (n : Int) (k : A → Option β) :
 oIdxA sz (.osl id ver sz' lo len) (.s (.int kd n)) k = if sz' = sz ∧ 0 ≤ n ∧ n < (len : Int) then k (.ptr id ver (lo + n.toNat) 0) else none := _root_.id rfl
theorem oIdxA_fsl (sz sz' : Nat) (rows : List (List A)) (kd : IntKind) (n : Int) (k : A → Option β) :
 oIdxA sz (.fsl sz' rows) (.s (.int kd n)) k = if sz' = sz ∧ 0 ≤ n then (match rows[n.toNat]? with | some row => k (.cptr row) | none => none) else none := _root_.id rfl
@[simp] theorem qc9 (cs : List A) (off : Nat) : cellsAt none cs off = cs[off]? := _root_.id rfl
theorem oField_agg (off : Nat) (n : Option Nat) (cs : List A) (k : A → Option β) : oField off n (.agg cs) k = (match cellsAt n cs off with | some a => k a | none => none) := rfl
@[simp] theorem oLen_fsl (sz : Nat) (rows : List (List A)) (k : A → Option β) : oLen (.fsl sz rows) k = k (.int .i64 rows.length) := _root_.id rfl
@[simp] theorem oLen_osl (id v sz lo len : Nat) (k : A → Option β) : oLen (.osl id v sz lo len) k = k (.int .i64 len) := _root_.id rfl
@[simp] theorem oLen_nil (k : A → Option β) : oLen (.s (.slice none 0 0)) k = k (.int .i64 0) := _root_.id rfl
@[simp] theorem qef (i : Nat) (vs : List A) (k : A → Option β) : qae i (.tup vs) k = (match vs[i]? with | some a => k a | none => none) := _root_.id rfl
@[simp] theorem oCmp_s (op : BinOp) (kx ky : IntKind) (a b : Int) (k : A → Option β) :
 oCmp op (.s (.int kx a)) (.s (.int ky b)) k = if kx = ky then (match cmpInt op a b with | some r => k (.bool r) | none => none) else none := _root_.id rfl
@[simp] theorem cmpInt_eql (a b : Int) : cmpInt .eql a b = some (decide (a = b)) := _root_.id rfl
@[simp] theorem cmpInt_neq (a b : Int) : cmpInt .neq a b = some (!decide (a = b)) := _root_.id rfl
@[simp] theorem cmpInt_lss (a b : Int) : cmpInt .lss a b = some (decide (a < b)) := _root_.id rfl
@[simp] theorem cmpInt_leq (a b : Int) : cmpInt .leq a b = some (decide (a ≤ b)) := _root_.id rfl
@[simp] theorem cmpInt_gtr (a b : Int) : cmpInt .gtr a b = some (decide (b < a)) := _root_.id rfl
@[simp] theorem cmpInt_geq (a b : Int) : cmpInt .geq a b = some (decide (b ≤ a)) := _root_.id rfl
@[simp] theorem oAr_s (op : BinOp) (kx ky : IntKind) (a b : Int) (k : A → Option β) :
 oAr op (.s (.int kx a)) (.s (.int ky b)) k = if kx = ky then (match arInt op kx a b with | some r => k (.int kx r) | none => none) else none := _root_.id rfl
@[simp] theorem qjS (k : IntKind) (a b : Int) : arInt .add k a b = some (k.wrap (a + b)) := _root_.id rfl
@[simp] theorem arInt_sub (k : IntKind) (a b : Int) : arInt .sub k a b = some (k.wrap (a - b)) := _root_.id rfl
@[simp] theorem arInt_quo (k : IntKind) (a b : Int) : arInt .quo k a b = if b = 0 then none else some (k.wrap (a.tdiv b)) := _root_.id rfl
@[simp] theorem oEqNil_nn (neq : Bool) (k : A → Option β) : oEqNil neq (.s (.pointer none)) (.s (.pointer none)) k = k (.bool (true != neq)) := _root_.id rfl
@[simp] theorem oEqNil_cn (neq : Bool) (cs : List A) (k : A → Option β) : oEqNil neq (.cptr cs) (.s (.pointer none)) k = k (.bool (false != neq)) := _root_.id rfl
@[simp] theorem oEqAgg_agg (ks : List Bool) (neq : Bool) (a b : List A) (k : A → Option β) : oEqAgg ks neq (.agg a) (.agg b) k = (match eqCells ks a b with | some r => k (.bool (r != neq)) | none => none) := _root_.id rfl
@[simp] theorem oNot_s (b : Bool) (k : A → Option β) : oNot (.s (.bool b)) k = k (.bool !b) := _root_.id rfl
@[simp] theorem oConv_s (kd kx : IntKind) (n : Int) (k : A → Option β) : oConv kd (.s (.int kx n)) k = k (.int kd (kd.wrap n)) := _root_.id rfl
@[simp] theorem qfA (id v r o : Nat) (k : A → Option β) : qa0 (.ptr id v r o) k = k (.ptr id v r o) := _root_.id rfl
@[simp] theorem qde (cs : List A) (k : A → Option β) : qa0 (.cptr cs) k = k (.cptr cs) := _root_.id rfl
@[simp] theorem oMax_s (kx ky : IntKind) (a b : Int) (k : A → Option β) : oMax (.s (.int kx a)) (.s (.int ky b)) k = if kx = ky then k (.int kx (if b > a then b else a)) else none := _root_.id rfl
@[simp] theorem oBuildP_eq (z : List A) (ps : List (Nat × Option Nat × A)) (k : A → Option β) : oBuildP z ps k = (match fillA z ps with | some cs => k (.agg cs) | none => none) := _root_.id rfl
@[simp] theorem fillA_nil (cs : List A) : fillA cs [] = some cs := _root_.id rfl
@[simp] theorem fillA_cons (cs : List A) (off : Nat) (sh : Option Nat) (v : A) (r : List (Nat × Option Nat × A)) :
 fillA cs ((off, sh, v) :: r) = (match asCells sh v with | none => none | some c => if off + c.length ≤ cs.length then fillA (qa5 cs off c) r else none) := _root_.id rfl
@[simp] theorem putCells_zero (row cs : List A) : qa5 row 0 cs = cs ++ row.drop cs.length := by simp [qa5]
@[simp] theorem bnd_none (d : Nat) : bnd none d = some d := _root_.id rfl
@[simp] theorem bnd_some (kd : IntKind) (n : Int) (d : Nat) : bnd (some (.s (.int kd n))) d = if 0 ≤ n then some n.toNat else none := _root_.id rfl
@[simp] theorem isCell_s (v : Value) : isCell (.s v) = (match v with | .agg _ => false | .tuple _ => false | _ => true) := by cases v <;> rfl
@[simp] theorem isCell_ptr (id v r o : Nat) : isCell (.ptr id v r o) = true := _root_.id rfl
@[simp] theorem qmN (cs : List A) : isCell (.cptr cs) = true := _root_.id rfl
@[simp] theorem isCell_osl (id v sz lo len : Nat) : isCell (.osl id v sz lo len) = true := _root_.id rfl
@[simp] theorem qiJ (a : A) : asCells none a = if isCell a then some [a] else none := _root_.id rfl
@[simp] theorem asCells_some (n : Nat) (cs : List A) : asCells (some n) (.agg cs) = if cs.length = n then some cs else none := _root_.id rfl
@[simp] theorem qgd (n : Option Nat) (id ver r o : Nat) (h : Heap) (k : A → Option β) :
 oLoad n (.ptr id ver r o) h k = (match h[id]? with
  | some (.live ob) => if ob.ver = ver then (match ob.rows[r]? with | some row => (match cellsAt n row o with | some v => k v | none => none) | none => none) else none
  | _ => none) := _root_.id rfl
@[simp] theorem qeJ (n : Option Nat) (cs : List A) (h : Heap) (k : A → Option β) : oLoad n (.cptr cs) h k = (match cellsAt n cs 0 with | some v => k v | none => none) := _root_.id rfl
@[simp] theorem oStore_ptr (n : Option Nat) (id ver r o : Nat) (v : A) (h : Heap) (k : Heap → Option β) :
 oStore n (.ptr id ver r o) v h k = (match h[id]? with
  | some (.live ob) =>
    if ob.ver = ver then
     (match ob.rows[r]?, asCells n v with
     | some row, some cs => if o + cs.length ≤ row.length then k (h.set id (.live { ob with rows := ob.rows.set r (qa5 row o cs) })) else none
     | _, _ => none)
    else none
  | _ => none) := _root_.id rfl
@[simp] theorem place_none (h : Heap) (ob : Obj) : place none h ob = some (h.length, h ++ [.live ob]) := _root_.id rfl
@[simp] theorem oNew_agg (at_ : Option Nat) (n : Nat) (cs : List A) (h : Heap) (k : A → Heap → Option β) :
 oNew at_ (some n) (.agg cs) h k = if cs.length = n then (if cs.isEmpty then none else match place at_ h ⟨0, cs.length, [cs]⟩ with | some (id, h) => k (.ptr id 0 0 0) h | none => none) else none := by
  simp only [oNew, asCells]; by_cases h : cs.length = n <;> simp only [h, if_true, if_false] <;> rfl
@[simp] theorem qiA (at_ : Option Nat) (sz : Nat) (rows : Option (List (List A))) (h : Heap) (k : A → Heap → Option β) :
 qah at_ sz rows h k = (match rows with
  | some rows => if sz = 0 then none else (match place at_ h ⟨0, sz, rows⟩ with | some (id, h) => k (.osl id 0 sz 0 rows.length) h | none => none)
  | none => none) := _root_.id rfl
@[simp] theorem asRows_nil (n : Option Nat) : asRows n [] = some [] := _root_.id rfl
@[simp] theorem qn2 (n : Option Nat) (a : A) (r : List A) : asRows n (a :: r) = (asCells n a).bind fun c => (asRows n r).map fun r => c :: r := _root_.id rfl
theorem qeQ (at_ : Option Nat) (sz bytes : Nat) (src : A) (h : Heap) (k : A → Heap → Option β) :
 oAppend at_ sz bytes (.s (.slice none 0 0)) src h k = (match rowsOf sz src h with
  | none => none
  | some new => if qa4 new.length bytes ∧ sz ≠ 0 then (match place at_ h ⟨0, sz, new⟩ with | some (id, h) => k (.osl id 0 sz 0 new.length) h | none => none) else none) := _root_.id rfl
theorem qb1 (at_ : Option Nat) (sz bytes id ver sz' lo len : Nat) (src : A) (h : Heap) (k : A → Heap → Option β) :
 oAppend at_ sz bytes (.osl id ver sz' lo len) src h k = (match rowsOf sz src h with
  | none => none
  | some new => (match h[id]? with
    | some (.live ob) =>
      if ob.ver = ver ∧ sz' = sz ∧ lo + len ≤ ob.rows.length ∧ qa4 (len + new.length) bytes then
       k (.osl id (ver + 1) sz 0 (len + new.length)) (h.set id (.live ⟨ver + 1, ob.sz, (ob.rows.drop lo).take len ++ new⟩))
      else none
    | _ => none)) := _root_.id rfl
@[simp] theorem rowsOf_fsl (sz sz' : Nat) (rows : List (List A)) (h : Heap) : rowsOf sz (.fsl sz' rows) h = if sz' = sz ∨ rows.isEmpty = true then some rows else none := _root_.id rfl
@[simp] theorem mkF_nil (sz : Nat) : mkF sz [] = .fsl 0 [] := _root_.id rfl
@[simp] theorem rowsOf_mkF (sz : Nat) (rows : List (List A)) (h : Heap) : rowsOf sz (mkF sz rows) h = some rows := by
  cases rows <;> simp [mkF]
@[simp] theorem qnd (sz : Nat) (rows : List (List A)) (k : A → Option β) : oLen (mkF sz rows) k = k (.int .i64 rows.length) := _root_.id rfl
theorem qbE {α : Type} (sz : Nat) (enc : α → List A) (xs : List α) (kd : IntKind) (i : Nat) (x : α) (k : A → Option β) (h : xs[i]? = some x) :
 oIdxA sz (mkF sz (xs.map enc)) (.s (.int kd i)) k = k (.cptr (enc x)) := by
 have hne : (xs.map enc).isEmpty = false := by cases xs <;> simp_all
 simp [oIdxA, mkF, hne, h]
@[simp] theorem isCell_mkF (sz : Nat) (rows : List (List A)) : isCell (mkF sz rows) = true := _root_.id rfl
@[simp] theorem idsA_mkF (sz : Nat) (rows : List (List A)) : idsA (mkF sz rows) = [] := _root_.id rfl
@[simp] theorem pureA_mkF (sz : Nat) (rows : List (List A)) : pureA (mkF sz rows) = true := by
  cases rows <;> simp [pureA, mkF]
theorem oSlice_mkF (sz : Nat) (rows : List (List A)) (lo hi : Option A) (a b : Nat) (k : A → Option β) (ha : bnd lo 0 = some a) (hb : bnd hi rows.length = some b) (h1 : a ≤ b) (h2 : b ≤ rows.length) :
 oSlice sz (mkF sz rows) lo hi k = k (mkF sz ((rows.take b).drop a)) := by
 have : ((if rows.isEmpty then 0 else sz) = sz ∨ rows.isEmpty = true) := by cases rows <;> simp
 simp only [oSlice, mkF, ha, hb]
 rw [if_pos ⟨this, h1, h2⟩]
@[simp] theorem rowsOf_osl (sz id ver sz' lo len : Nat) (h : Heap) : rowsOf sz (.osl id ver sz' lo len) h = (match h[id]? with
 | some (.live ob) => if ob.ver = ver ∧ sz' = sz ∧ lo + len ≤ ob.rows.length then some ((ob.rows.drop lo).take len) else none
 | _ => none) := _root_.id rfl
theorem qgf (a : A) (h : Heap) (k : A → Heap → Option β) (hp : pureA a = true) : oFrz a h k = k a h := by simp [oFrz, hp]
@[simp] theorem oFrz_bool (b : Bool) (h : Heap) (k : A → Heap → Option β) : oFrz (.s (.bool b)) h k = k (.s (.bool b)) h := _root_.id rfl
@[simp] theorem idsA_s (v : Value) : idsA (.s v) = [] := _root_.id rfl
@[simp] theorem idsA_any : idsA .any = [] := _root_.id rfl
@[simp] theorem idsA_cptr (cs : List A) : idsA (.cptr cs) = [] := _root_.id rfl
@[simp] theorem idsA_fsl (sz : Nat) (rows : List (List A)) : idsA (.fsl sz rows) = [] := _root_.id rfl
@[simp] theorem qj6 (id v r o : Nat) : idsA (.ptr id v r o) = [id] := _root_.id rfl
@[simp] theorem qj7 (id v sz lo len : Nat) : idsA (.osl id v sz lo len) = [id] := _root_.id rfl
@[simp] theorem idsA_agg (cs : List A) : idsA (.agg cs) = idsL cs := _root_.id rfl
@[simp] theorem idsA_tup (cs : List A) : idsA (.tup cs) = idsL cs := _root_.id rfl
@[simp] theorem idsA_fn (n : String) (cs : List A) : idsA (.fn n cs) = idsL cs := _root_.id rfl
@[simp] theorem qnl : idsL [] = [] := _root_.id rfl
@[simp] theorem qhW (a : A) (r : List A) : idsL (a :: r) = idsA a ++ idsL r := _root_.id rfl
@[simp] theorem qmP : idsRows [] = [] := _root_.id rfl
@[simp] theorem qb7 (a : List A) (r : List (List A)) : idsRows (a :: r) = idsL a ++ idsRows r := _root_.id rfl
theorem qas (a b : List (List A)) : idsRows (a ++ b) = idsRows a ++ idsRows b := by induction a <;> simp_all
theorem qdZ {α : Type} (enc : α → List A) (h : ∀ x, idsL (enc x) = []) (xs : List α) : idsRows (xs.map enc) = [] := by induction xs <;> simp_all
@[simp] theorem Slot.ids_live (ob : Obj) : Slot.ids (.live ob) = idsRows ob.rows := _root_.id rfl
@[simp] theorem Slot.ids_dead : Slot.ids .dead = [] := _root_.id rfl
@[simp] theorem renA_s (f : Nat → Option Nat) (v : Value) : renA f (.s v) = some (.s v) := _root_.id rfl
@[simp] theorem renA_cptr (f : Nat → Option Nat) (cs : List A) : renA f (.cptr cs) = some (.cptr cs) := _root_.id rfl
@[simp] theorem renA_ptr (f : Nat → Option Nat) (id v r o : Nat) : renA f (.ptr id v r o) = (f id).map fun id => .ptr id v r o := _root_.id rfl
@[simp] theorem qet (f : Nat → Option Nat) (id v sz lo len : Nat) : renA f (.osl id v sz lo len) = (f id).map fun id => .osl id v sz lo len := _root_.id rfl
@[simp] theorem renA_agg (f : Nat → Option Nat) (cs : List A) : renA f (.agg cs) = (renL f cs).map .agg := _root_.id rfl
@[simp] theorem renA_tup (f : Nat → Option Nat) (cs : List A) : renA f (.tup cs) = (renL f cs).map .tup := _root_.id rfl
@[simp] theorem renA_fn (f : Nat → Option Nat) (n : String) (cs : List A) : renA f (.fn n cs) = (renL f cs).map (.fn n) := _root_.id rfl
@[simp] theorem qiZ (f : Nat → Option Nat) : renL f [] = some [] := _root_.id rfl
@[simp] theorem qg6 (f : Nat → Option Nat) (a : A) (r : List A) : renL f (a :: r) = (renA f a).bind fun a => (renL f r).map fun r => a :: r := _root_.id rfl
@[simp] theorem renRows_nil (f : Nat → Option Nat) : renRows f [] = some [] := _root_.id rfl
@[simp] theorem qdv (f : Nat → Option Nat) (a : List A) (r : List (List A)) : renRows f (a :: r) = (renL f a).bind fun a => (renRows f r).map fun r => a :: r := _root_.id rfl
theorem qgN (f : Nat → Option Nat) (a b : List (List A)) : renRows f (a ++ b) = (renRows f a).bind fun a => (renRows f b).map fun b => a ++ b := by
 induction a with
 | nil => simp
 | cons x r ih =>
   simp only [List.cons_append, qdv, ih]
   cases renL f x <;> simp
   cases renRows f r <;> simp
   cases renRows f b <;> simp
@[simp] theorem renSlot_live' (f : Nat → Option Nat) (ob : Obj) : renSlot f (.live ob) = (renRows f ob.rows).map fun rows => .live { ob with rows } := _root_.id rfl
@[simp] theorem qmC (f : Nat → Option Nat) : renHeap f [] = some [] := _root_.id rfl
@[simp] theorem qf5 (f : Nat → Option Nat) (x : Slot) (r : Heap) : renHeap f (x :: r) = (renSlot f x).bind fun x => (renHeap f r).map fun r => x :: r := _root_.id rfl
@[simp] theorem qhu (f : Nat → Option Nat) (a : A) : renOut f (.ok a) = (renA f a).map .ok := _root_.id rfl
theorem qcf : ∀ (l : List A) (f : Nat → Option Nat), idsL l = [] → renL f l = some l := by
 have key : ∀ n : Nat, (∀ a : A, SizeOf.sizeOf a < n → ∀ f, idsA a = [] → renA f a = some a) ∧ (∀ l : List A, SizeOf.sizeOf l < n → ∀ f, idsL l = [] → renL f l = some l) := by
  intro n
  induction n with
  | zero => exact ⟨fun _ h => absurd h (Nat.not_lt_zero _), fun _ h => absurd h (Nat.not_lt_zero _)⟩
  | succ n ih =>
    refine ⟨fun a ha f hi => ?_, fun l hl f hi => ?_⟩
    · cases a <;> simp only [idsA] at hi <;> simp only [renA]
      case ptr => simp at hi
      case osl => simp at hi
      case mref => simp at hi
      case agg cs => rw [ih.2 cs (by simp at ha; omega) f hi]; rfl
      case tup cs => rw [ih.2 cs (by simp at ha; omega) f hi]; rfl
      case fn nm cs => rw [ih.2 cs (by simp at ha; omega) f hi]; rfl
      case iface t a => rw [ih.1 a (by simp at ha; omega) f hi]; rfl
    · cases l with
      | nil => rfl
      | cons a r =>
        simp only [qhW, List.append_eq_nil_iff] at hi
        simp only [qg6]
        rw [ih.1 a (by simp at hl; omega) f hi.1, ih.2 r (by simp at hl; omega) f hi.2]; rfl
 exact fun l f h => (key (SizeOf.sizeOf l + 1)).2 l (Nat.lt_succ_self _) f h
theorem qcL (a : A) (f : Nat → Option Nat) (h : idsA a = []) : renA f a = some a := by
 have := qcf [a] f (by simp [h])
 simp only [qg6, qiZ] at this
 cases hr : renA f a with
 | none => rw [hr] at this; simp at this
 | some b => rw [hr] at this; simp at this; rw [this]
theorem qb9 (f : Nat → Option Nat) (rows : List (List A)) (h : idsRows rows = []) : renRows f rows = some rows := by
 induction rows with
 | nil => rfl
 | cons r rs ih =>
   simp only [qb7, List.append_eq_nil_iff] at h
   simp only [qdv]
   rw [qcf r f h.1, ih h.2]; rfl
@[simp] theorem reach_nil (h : Heap) (n : Nat) (seen : List Nat) : reach h n seen [] = seen := by cases n <;> rfl
@[simp] theorem pureA_int (k : IntKind) (n : Int) : pureA (.s (.int k n)) = true := _root_.id rfl
@[simp] theorem pureA_cptr (cs : List A) : pureA (.cptr cs) = true := _root_.id rfl
@[simp] theorem pureA_agg (cs : List A) : pureA (.agg cs) = pureL cs := _root_.id rfl
@[simp] theorem pureA_tup (cs : List A) : pureA (.tup cs) = pureL cs := _root_.id rfl
@[simp] theorem pureA_fn (n : String) (cs : List A) : pureA (.fn n cs) = pureL cs := _root_.id rfl
@[simp] theorem pureA_ptr (id v r o : Nat) : pureA (.ptr id v r o) = false := _root_.id rfl
@[simp] theorem pureA_osl (id v sz lo len : Nat) : pureA (.osl id v sz lo len) = false := _root_.id rfl
@[simp] theorem pureL_nil : pureL [] = true := _root_.id rfl
@[simp] theorem qif (a : A) (r : List A) : pureL (a :: r) = (pureA a && pureL r) := _root_.id rfl
mutual
theorem qlL : ∀ a : A, pureA a = true → idsA a = []
 | .s v, _ => rfl
 | .any, h => by simp [pureA] at h
 | .cptr _, _ => rfl
 | .fsl _ _, _ => rfl
 | .ptr .., h => by simp [pureA] at h
 | .osl .., h => by simp [pureA] at h
 | .agg cs, h => qdd cs h
 | .tup cs, h => qdd cs h
 | .fn n cs, h => qdd cs h
 | .iface t a, h => qlL a h
theorem qdd : ∀ l : List A, pureL l = true → idsL l = []
 | [], _ => rfl
 | a :: r, h => by
   simp only [qif, Bool.and_eq_true] at h
   simp only [qhW, qlL a h.1, qdd r h.2, List.append_nil]
end
theorem qco (n : Nat) (args : List A) (h : Heap) (ha : pureL args = true) : lendL (n + 1) args h = some args := by simp only [lendL, ha, if_true]
theorem qbi (F : CallFn) (args : List A) (h : Heap) (kp k : A → Heap → Option β) (a : A) (ha : pureL args = true) (hr : idsA a = []) (hF : F args [] = some (.ok a, [])) :
 oLend F args h kp k = k a h := by
 have hi : (idsL args).isEmpty = true := by rw [qdd args ha]; rfl
 have hl : lendL qbB args (if (idsL args).isEmpty = true then [] else h) = some args := qco 999 _ _ ha
 unfold oLend
 rw [hl]
 simp only [hF, hi, Bool.true_or, if_true, qaa, qhu, qcL a _ hr]
 simp [setAll]
theorem oLend_lent (F : CallFn) (args args' : List A) (h : Heap) (kp k : A → Heap → Option β) (a : A) (hl : lendL qbB args (if (idsL args).isEmpty then [] else h) = some args') (hr : idsA a = []) (ho : ownA a = true) (hF : F args' [] = some (.ok a, [])) :
 oLend F args h kp k = k a h := by
 simp only [oLend, hl, hF, ownO, ho, ownH, List.all_nil, Bool.and_self, Bool.or_true, if_true, qaa, qhu, qcL a _ hr]
 simp [setAll]
theorem oCallF_val (n0 : Nat) (wr : List Nat) (F : CallFn) (args : List A) (h : Heap) (k : A → Heap → Option β) (a : A) (ha : pureL args = true) (hr : idsA a = []) (hF : F args [] = some (.ok a, [])) :
 oCallF n0 wr F args h k = k a h := by
 have hi : (idsL args).isEmpty = true := by rw [qdd args ha]; rfl
 have hl : lendL qbB args [] = some args := qco 999 _ _ ha
 simp only [oCallF, hi, if_true, hl, hF, qaa, qhu, qcL a _ hr]
 simp [setAll]
theorem oCall_val (F : CallFn) (args : List A) (h : Heap) (kp k : A → Heap → Option β) (a : A) (ha : idsL args = []) (hr : idsA a = []) (hF : F args [] = some (.ok a, [])) :
 oCall F args h kp k = k a h := by
 simp only [oCall, borrow, ha, reach_nil, List.map_nil, qmC, qcf args _ ha, Option.bind_some, Option.map_some, hF, qaa, qhu, qcL a _ hr]
 simp [setAll]
theorem oBound_of {n : String} {x : A} (k : A → Option β) (h : pureA x = true) : oBound n x k = k (.fn n [bndM, x]) := by unfold oBound; rw [if_pos h]
@[simp] theorem argsV_bnd (r args : List A) : argsV (.fsl 0 [[.any]] :: r) args = r ++ args := _root_.id rfl
@[simp] theorem argsV_ptr (id v o c : Nat) (r args : List A) : argsV (.ptr id v o c :: r) args = args ++ .ptr id v o c :: r := _root_.id rfl
@[simp] theorem oLendV_fn (En : String → CallFn) (name : String) (caps args : List A) (h : Heap) (kp k : A → Heap → Option β) : oLendV En (.fn name caps) args h kp k = oLend (En name) (argsV caps args) h kp k := _root_.id rfl
@[simp] theorem oCallV_fn (En : String → CallFn) (name : String) (caps args : List A) (h : Heap) (kp k : A → Heap → Option β) : oCallV En (.fn name caps) args h kp k = oCall (En name) (argsV caps args) h kp k := _root_.id rfl
theorem qa9 (a : A) (h : Heap) (ha : idsA a = []) : finish 0 (.ok a) h = some (.ok a, []) := by
 simp [finish, ha, qcL a _ ha]
@[simp] theorem qgx (e : Ex) (vs : List A) (h : Heap) (k : Ex → List A → Heap → Option β) : oJoin (some (e, vs, h)) k = k e vs h := _root_.id rfl
end
inductive Stp (σ ρ : Type) where
 | more (s : σ)
 | done (r : ρ)
def Stp.to {σ ρ τ : Type} (f : σ → τ) : Stp σ ρ → Option (τ ⊕ ρ)
 | .more s => some (.inl (f s))
 | .done r => some (.inr r)
theorem big_eq : big = 18446744073709551616 := by decide
theorem qad {n : Int} (h0 : -9223372036854775808 ≤ n) (h1 : n < 9223372036854775808) : IntKind.i64.wrap n = n := by
 have key : IntKind.i64.wrap n = (let m := n % 18446744073709551616; if m ≥ 9223372036854775808 then m - 18446744073709551616 else m) := by
  simp [IntKind.wrap, IntKind.bits, IntKind.signed]
 rw [key]
 by_cases h : 0 ≤ n
 · have : n % 18446744073709551616 = n := by omega
   simp only [this]; rw [if_neg (by omega)]
 · have : n % 18446744073709551616 = n + 18446744073709551616 := by omega
   simp only [this]; rw [if_pos (by omega)]; omega
theorem wrap_succ {α : Type} {xs : List α} {i : Nat} (hi : i < xs.length) (hl : xs.length < 2 ^ 63) : IntKind.i64.wrap ((i : Int) + 1) = ((i + 1 : Nat) : Int) := by
 rw [qad (by omega) (by omega)]; simp
end Go.Ab
