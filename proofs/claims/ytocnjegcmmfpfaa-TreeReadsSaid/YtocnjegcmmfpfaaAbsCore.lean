/-
 AN ABSTRACT MACHINE FOR THE LOADED PROGRAM: values without addresses (slices as lists of rows), objects in a small list, no capacities, no draws.
 Definitions alone. That what it computes is what the machine does stands in the texts behind it.
-/
import Derived.Calls
import Derived.Orders
import Derived.LoopN
import Derived.Wp
set_option linter.unusedSimpArgs false
set_option linter.unusedVariables false
namespace Go.Ab
open Go
inductive A where
 | s (v : Value)
 | any
 | ptr (id ver row off : Nat)
 | cptr (cs : List A)
 | fsl (sz : Nat) (rows : List (List A))
 | osl (id ver sz lo len : Nat)
 | agg (cs : List A)
 | tup (vs : List A)
 | fn (name : String) (caps : List A)
 | iface (ty : String) (v : A)
 | mref (id : Nat)
instance : Inhabited A := ⟨.any⟩
abbrev A.int (k : IntKind) (n : Int) : A := .s (.int k n)
abbrev A.bool (b : Bool) : A := .s (.bool b)
def mkF (sz : Nat) (rows : List (List A)) : A := .fsl (if rows.isEmpty then 0 else sz) rows
abbrev bndM : A := .fsl 0 [[.any]]
abbrev A.nilSlice : A := .s (.slice none 0 0)
structure Obj where
 ver : Nat
 sz : Nat
 rows : List (List A)
inductive Slot where
 | dead
 | res
 | live (ob : Obj)
 | mp (kd : IntKind) (es : List (Int × A))
instance : Inhabited Slot := ⟨.dead⟩
abbrev Heap := List Slot
inductive Out where
 | ok (a : A)
 | pan (a : A)
abbrev CallFn := List A → Heap → Option (Out × Heap)
mutual
def idsA : A → List Nat
 | .ptr id _ _ _ => [id]
 | .osl id _ _ _ _ => [id]
 | .agg cs => idsL cs
 | .tup cs => idsL cs
 | .fn _ cs => idsL cs
 | .iface _ a => idsA a
 | .mref id => [id]
 | _ => []
def idsL : List A → List Nat
 | [] => []
 | a :: r => idsA a ++ idsL r
end
def idsRows : List (List A) → List Nat
 | [] => []
 | r :: rs => idsL r ++ idsRows rs
mutual
def renA (f : Nat → Option Nat) : A → Option A
 | .ptr id v r o => (f id).map fun id => .ptr id v r o
 | .osl id v sz lo len => (f id).map fun id => .osl id v sz lo len
 | .agg cs => (renL f cs).map .agg
 | .tup cs => (renL f cs).map .tup
 | .fn n cs => (renL f cs).map (.fn n)
 | .iface t a => (renA f a).map (.iface t)
 | .mref id => (f id).map .mref
 | a => some a
def renL (f : Nat → Option Nat) : List A → Option (List A)
 | [] => some []
 | a :: r => (renA f a).bind fun a => (renL f r).map fun r => a :: r
end
def renRows (f : Nat → Option Nat) : List (List A) → Option (List (List A))
 | [] => some []
 | r :: rs => (renL f r).bind fun r => (renRows f rs).map fun rs => r :: rs
def renSlot (f : Nat → Option Nat) : Slot → Option Slot
 | .dead => some .dead
 | .res => none
 | .live ob => (renRows f ob.rows).map fun rows => .live { ob with rows }
 | .mp kd es => some (.mp kd es)
def renHeap (f : Nat → Option Nat) : Heap → Option Heap
 | [] => some []
 | x :: r => (renSlot f x).bind fun x => (renHeap f r).map fun r => x :: r
def renOut (f : Nat → Option Nat) : Out → Option Out
 | .ok a => (renA f a).map .ok
 | .pan a => (renA f a).map .pan
def Slot.ids : Slot → List Nat
 | .live ob => idsRows ob.rows
 | _ => []
def reach (h : Heap) : Nat → List Nat → List Nat → List Nat
 | 0, seen, _ => seen
 | _ + 1, seen, [] => seen
 | n + 1, seen, id :: todo => if seen.contains id then reach h n seen todo else reach h n (seen ++ [id]) ((h.getD id .dead).ids ++ todo)
def qa3 : Nat := 100000
def idx (ids : List Nat) (id : Nat) : Option Nat := ids.idxOf? id
def borrow (args : List A) (h : Heap) : Option (List Nat × List A × Heap) :=
 let ids := reach h qa3 [] (idsL args)
 (renL (idx ids) args).bind fun args => (renHeap (idx ids) (ids.map (h.getD · .dead))).map fun objs => (ids, args, objs)
def setAll : Heap → List Nat → Heap → Heap
 | h, id :: ids, x :: xs => setAll (h.set id x) ids xs
 | h, _, _ => h
def backIdx (ids : List Nat) (n : Nat) (j : Nat) : Option Nat := if j < ids.length then ids[j]? else some (n + (j - ids.length))
def qaa (ids : List Nat) (h : Heap) (r : Out) (objs : Heap) : Option (Out × Heap) :=
 (renOut (backIdx ids h.length) r).bind fun r => (renHeap (backIdx ids h.length) objs).map fun objs => (r, setAll h ids (objs.take ids.length) ++ objs.drop ids.length)
def oCall {β : Type} (F : CallFn) (args : List A) (h : Heap) (kp k : A → Heap → Option β) : Option β :=
 match borrow args h with
 | none => none
 | some (ids, args, objs) =>
   match F args objs with
   | none => none
   | some (r, objs') =>
     match qaa ids h r objs' with
     | none => none
     | some (.ok a, h') => k a h'
     | some (.pan a, h') => kp a h'
def qbX : Value → Bool
 | .slice _ _ _ => false
 | _ => true
def nilS (v : Value) : A :=
 match v with
 | .slice none 0 0 => .fsl 0 []
 | v => .s v
mutual
def pureA : A → Bool
 | .s v => qbX v
 | .cptr _ => true
 | .fsl sz rows => !rows.isEmpty || sz == 0
 | .agg cs => pureL cs
 | .tup cs => pureL cs
 | .fn _ cs => pureL cs
 | .iface _ a => pureA a
 | _ => false
def pureL : List A → Bool
 | [] => true
 | a :: r => pureA a && pureL r
end
def qay (rows : List (List A)) : Bool := rows.all pureL
mutual
def frzA : Nat → A → Heap → Option (A × Heap)
 | 0, _, _ => none
 | n + 1, a, h =>
   match a with
   | .s v => some (nilS v, h)
   | .cptr cs => some (.cptr cs, h)
   | .fsl sz rows => some (mkF sz rows, h)
   | .any => none
   | .ptr id ver row off =>
     match h[id]? with
     | some (.live ob) =>
       if ob.ver = ver then
        match row, off, ob.rows with
        | 0, 0, [r] => (frzL n r (h.set id .dead)).map fun (r, h) => (.cptr r, h)
        | _, _, _ => none
       else none
     | _ => none
   | .osl id ver _ lo len =>
     match h[id]? with
     | some (.live ob) =>
       if ob.ver = ver ∧ lo + len ≤ ob.rows.length then (frzRows n ((ob.rows.drop lo).take len) (h.set id .dead)).map fun (rows, h) => (mkF ob.sz rows, h)
       else none
     | _ => none
   | .agg cs => (frzL n cs h).map fun (cs, h) => (.agg cs, h)
   | .tup cs => (frzL n cs h).map fun (cs, h) => (.tup cs, h)
   | .fn nm cs => (frzL n cs h).map fun (cs, h) => (.fn nm cs, h)
   | .iface t a => (frzA n a h).map fun (a, h) => (.iface t a, h)
   | .mref _ => none
def frzL : Nat → List A → Heap → Option (List A × Heap)
 | 0, _, _ => none
 | n + 1, l, h =>
   if pureL l then some (l, h) else
   match l with
   | [] => some ([], h)
   | a :: r => (frzA n a h).bind fun (a, h) => (frzL n r h).map fun (r, h) => (a :: r, h)
def frzRows : Nat → List (List A) → Heap → Option (List (List A) × Heap)
 | 0, _, _ => none
 | n + 1, rows, h =>
   if qay rows then some (rows, h) else
   match rows with
   | [] => some ([], h)
   | r :: rs => (frzL n r h).bind fun (r, h) => (frzRows n rs h).map fun (rs, h) => (r :: rs, h)
end
mutual
def lendA : Nat → A → Heap → Option A
 | 0, _, _ => none
 | n + 1, a, h =>
   match a with
   | .s v => some (nilS v)
   | .cptr cs => some (.cptr cs)
   | .fsl sz rows => some (mkF sz rows)
   | .any => none
   | .ptr id ver row off =>
     match h[id]? with
     | some (.live ob) =>
       if ob.ver = ver then
        match row, off, ob.rows with
        | 0, 0, [r] => (lendL n r h).map .cptr
        | _, _, _ => none
       else none
     | _ => none
   | .osl id ver _ lo len =>
     match h[id]? with
     | some (.live ob) =>
       if ob.ver = ver ∧ lo + len ≤ ob.rows.length then (qdP n ((ob.rows.drop lo).take len) h).map (mkF ob.sz)
       else none
     | _ => none
   | .agg cs => (lendL n cs h).map .agg
   | .tup cs => (lendL n cs h).map .tup
   | .fn nm cs => (lendL n cs h).map (.fn nm)
   | .iface t a => (lendA n a h).map (.iface t)
   | .mref _ => none
def lendL : Nat → List A → Heap → Option (List A)
 | 0, _, _ => none
 | n + 1, l, h =>
   if pureL l then some l else
   match l with
   | [] => some []
   | a :: r => (lendA n a h).bind fun a => (lendL n r h).map fun r => a :: r
def qdP : Nat → List (List A) → Heap → Option (List (List A))
 | 0, _, _ => none
 | n + 1, rows, h =>
   if qay rows then some rows else
   match rows with
   | [] => some []
   | r :: rs => (lendL n r h).bind fun r => (qdP n rs h).map fun rs => r :: rs
end
mutual
def ownA : A → Bool
 | .s _ => true
 | .any => true
 | .ptr .. => true
 | .osl .. => true
 | .cptr _ => false
 | .fsl _ rows => rows.isEmpty
 | .agg cs => ownL cs
 | .tup cs => ownL cs
 | .fn _ cs => ownL cs
 | .iface _ a => ownA a
 | .mref _ => false
def ownL : List A → Bool
 | [] => true
 | a :: r => ownA a && ownL r
end
def ownRows (rows : List (List A)) : Bool := rows.all ownL
def ownH (h : Heap) : Bool := h.all fun s => match s with
 | .live ob => ownRows ob.rows
 | .mp _ _ => false
 | _ => true
def ownO : Out → Bool
 | .ok a => ownA a
 | .pan a => ownA a
def qbB : Nat := 1000
def oLend {β : Type} (F : CallFn) (args : List A) (h : Heap) (kp k : A → Heap → Option β) : Option β :=
 match lendL qbB args (if (idsL args).isEmpty then [] else h) with
 | none => none
 | some args' =>
   match F args' [] with
   | none => none
   | some (r, objs') =>
     if (idsL args).isEmpty || (ownO r && ownH objs') then
      match qaa [] h r objs' with
      | some (.ok a, h') => k a h'
      | some (.pan a, h') => kp a h'
      | none => none
     else none
def idTop : A → List Nat
 | .ptr id _ _ _ => [id]
 | .osl id _ _ _ _ => [id]
 | _ => []
def killAll : List Nat → Heap → Heap
 | [], h => h
 | id :: r, h => killAll r (h.set id .dead)
def maskH (n0 : Nat) (wr : List Nat) (h : Heap) : Heap := killAll wr (h.take n0)
def oCallF {β : Type} (n0 : Nat) (wr : List Nat) (F : CallFn) (args : List A) (h : Heap) (k : A → Heap → Option β) : Option β :=
 match lendL qbB args (if (idsL args).isEmpty then [] else maskH n0 wr h) with
 | none => none
 | some args' =>
   match F args' [] with
   | some (.ok a, objs') =>
     if (idsL args).isEmpty || (ownA a && ownH objs') then
      match qaa [] h (.ok a) objs' with
      | some (.ok a, h') => k a h'
      | _ => none
     else none
   | _ => none
def oFrz {β : Type} (a : A) (h : Heap) (k : A → Heap → Option β) : Option β :=
 if pureA a then k a h else
 match frzA 1000 a h with
 | some (a, h) => k a h
 | none => none
def finish (nb : Nat) (r : Out) (h : Heap) : Option (Out × Heap) :=
 let first := match r with | .ok a => idsA a | .pan a => idsA a
 let ids := reach h qa3 (List.range nb) (first ++ (h.take nb).flatMap Slot.ids)
 (renOut (idx ids) r).bind fun r => (renHeap (idx ids) (ids.map (h.getD · .dead))).map fun objs => (r, objs)
section
variable {β : Type}
def oPick (c a b : A) (k : A → Option β) : Option β :=
 match c with
 | .s (.bool c) => k (if c then a else b)
 | _ => none
def oCond (c : A) (x y : Option β) : Option β :=
 match c with
 | .s (.bool c) => if c then x else y
 | _ => none
def oGuard (c : A) (want : Bool) (yes no : Unit → Option β) : Option β :=
 match c with
 | .s (.bool c) => if c = want then yes () else no ()
 | _ => none
def oFieldA (off : Nat) (a : A) (k : A → Option β) : Option β :=
 match a with
 | .ptr id ver r o => k (.ptr id ver r (o + off))
 | .cptr cs => k (.cptr (cs.drop off))
 | _ => none
def oIdxA (sz : Nat) (x i : A) (k : A → Option β) : Option β :=
 match x, i with
 | .osl id ver sz' lo len, .s (.int _ n) => if sz' = sz ∧ 0 ≤ n ∧ n < (len : Int) then k (.ptr id ver (lo + n.toNat) 0) else none
 | .fsl sz' rows, .s (.int _ n) =>
   if sz' = sz ∧ 0 ≤ n then
    match rows[n.toNat]? with
    | some row => k (.cptr row)
    | none => none
   else none
 | _, _ => none
def oIdxArr (len sz : Nat) (x i : A) (k : A → Option β) : Option β :=
 match x, i with
 | .ptr id ver r o, .s (.int _ n) => if 0 ≤ n ∧ n < (len : Int) then k (.ptr id ver r (o + n.toNat * sz)) else none
 | .cptr cs, .s (.int _ n) => if 0 ≤ n ∧ n < (len : Int) then k (.cptr (cs.drop (n.toNat * sz))) else none
 | _, _ => none
def cellsAt (n : Option Nat) (cs : List A) (off : Nat) : Option A :=
 match n with
 | none => cs[off]?
 | some n => if off + n ≤ cs.length then some (.agg ((cs.drop off).take n)) else none
def oField (off : Nat) (n : Option Nat) (x : A) (k : A → Option β) : Option β :=
 match x with
 | .agg cs =>
   match cellsAt n cs off with
   | some a => k a
   | none => none
 | _ => none
def oIndex (len sz : Nat) (n : Option Nat) (x i : A) (k : A → Option β) : Option β :=
 match x, i with
 | .agg cs, .s (.int _ i) =>
   if 0 ≤ i ∧ i < (len : Int) then
    match cellsAt n cs (i.toNat * sz) with
    | some a => k a
    | none => none
   else none
 | _, _ => none
def qfo (x i : A) (k : A → Option β) : Option β :=
 match x, i with
 | .s (.string s), .s (.int _ i) =>
   if 0 ≤ i then
    match s[i.toNat]? with
    | some b => k (.int .u8 b.toNat)
    | none => none
   else none
 | _, _ => none
def oLen (x : A) (k : A → Option β) : Option β :=
 match x with
 | .osl _ _ _ _ len => k (.int .i64 len)
 | .fsl _ rows => k (.int .i64 rows.length)
 | .s (.slice none 0 0) => k (.int .i64 0)
 | _ => none
def oCap (x : A) (k : A → Option β) : Option β :=
 match x with
 | .s (.slice none 0 0) => k (.int .i64 0)
 | _ => none
def oLenStr (x : A) (k : A → Option β) : Option β :=
 match x with
 | .s (.string s) => k (.int .i64 s.size)
 | _ => none
def bnd (x : Option A) (dflt : Nat) : Option Nat :=
 match x with
 | none => some dflt
 | some (.s (.int _ n)) => if 0 ≤ n then some n.toNat else none
 | _ => none
def oSlice (sz : Nat) (x : A) (lo hi : Option A) (k : A → Option β) : Option β :=
 match x with
 | .osl id ver sz' l len =>
   match bnd lo 0, bnd hi len with
   | some a, some b => if sz' = sz ∧ a ≤ b ∧ b ≤ len then k (.osl id ver sz' (l + a) (b - a)) else none
   | _, _ => none
 | .fsl sz' rows =>
   match bnd lo 0, bnd hi rows.length with
   | some a, some b => if (sz' = sz ∨ rows.isEmpty = true) ∧ a ≤ b ∧ b ≤ rows.length then k (mkF sz ((rows.take b).drop a)) else none
   | _, _ => none
 | _ => none
def qae (i : Nat) (x : A) (k : A → Option β) : Option β :=
 match x with
 | .tup vs =>
   match vs[i]? with
   | some a => k a
   | none => none
 | _ => none
def eqCells : List Bool → List A → List A → Option Bool
 | [], [], [] => some true
 | true :: ks, .s (.int k a) :: r, .s (.int k' b) :: r' => if k = k' then (eqCells ks r r').map fun e => decide (a = b) && e else none
 | false :: ks, .s (.bool a) :: r, .s (.bool b) :: r' => (eqCells ks r r').map fun e => (a == b) && e
 | _, _, _ => none
def cmpInt (op : BinOp) (x y : Int) : Option Bool :=
 match op with
 | .eql => some (decide (x = y))
 | .neq => some (!decide (x = y))
 | .lss => some (decide (x < y))
 | .leq => some (decide (x ≤ y))
 | .gtr => some (decide (y < x))
 | .geq => some (decide (y ≤ x))
 | _ => none
def arInt (op : BinOp) (k : IntKind) (x y : Int) : Option Int :=
 match op with
 | .add => some (k.wrap (x + y))
 | .sub => some (k.wrap (x - y))
 | .mul => some (k.wrap (x * y))
 | .quo => if y = 0 then none else some (k.wrap (x.tdiv y))
 | .rem => if y = 0 then none else some (x.tmod y)
 | .and => some (k.wrap (BitVec.ofInt k.bits x &&& BitVec.ofInt k.bits y).toNat)
 | .or => some (k.wrap (BitVec.ofInt k.bits x ||| BitVec.ofInt k.bits y).toNat)
 | .xor => some (k.wrap (BitVec.ofInt k.bits x ^^^ BitVec.ofInt k.bits y).toNat)
 | .andNot => some (k.wrap (BitVec.ofInt k.bits x &&& ~~~BitVec.ofInt k.bits y).toNat)
 | _ => none
def oCmp (op : BinOp) (x y : A) (k : A → Option β) : Option β :=
 match x, y with
 | .s (.int kx a), .s (.int ky b) =>
   if kx = ky then
    match cmpInt op a b with
    | some r => k (.bool r)
    | none => none
   else none
 | _, _ => none
def oAr (op : BinOp) (x y : A) (k : A → Option β) : Option β :=
 match x, y with
 | .s (.int kx a), .s (.int ky b) =>
   if kx = ky then
    match arInt op kx a b with
    | some r => k (.int kx r)
    | none => none
   else none
 | _, _ => none
def oShift (op : BinOp) (x y : A) (k : A → Option β) : Option β :=
 match x, y with
 | .s (.int kx a), .s (.int _ b) =>
   if 0 ≤ b then
    match op with
    | .shl => k (.int kx (kx.wrap (a * 2 ^ min b.toNat kx.bits)))
    | .shr => k (.int kx (a.fdiv (2 ^ min b.toNat kx.bits)))
    | _ => none
   else none
 | _, _ => none
def oEqBool (neq : Bool) (x y : A) (k : A → Option β) : Option β :=
 match x, y with
 | .s (.bool a), .s (.bool b) => k (.bool ((a == b) != neq))
 | _, _ => none
def oEqStr (neq : Bool) (x y : A) (k : A → Option β) : Option β :=
 match x, y with
 | .s (.string a), .s (.string b) => k (.bool ((a.toList == b.toList) != neq))
 | _, _ => none
def oEqNil (neq : Bool) (x y : A) (k : A → Option β) : Option β :=
 match x, y with
 | .s (.pointer none), .s (.pointer none) => k (.bool (true != neq))
 | .ptr .., .s (.pointer none) => k (.bool (false != neq))
 | .cptr _, .s (.pointer none) => k (.bool (false != neq))
 | .s (.pointer none), .ptr .. => k (.bool (false != neq))
 | .s (.pointer none), .cptr _ => k (.bool (false != neq))
 | _, _ => none
def oEqAgg (ks : List Bool) (neq : Bool) (x y : A) (k : A → Option β) : Option β :=
 match x, y with
 | .agg a, .agg b =>
   match eqCells ks a b with
   | some r => k (.bool (r != neq))
   | none => none
 | _, _ => none
def oBound (n : String) (x : A) (k : A → Option β) : Option β := if pureA x then k (.fn n [bndM, x]) else none
def oNot (x : A) (k : A → Option β) : Option β :=
 match x with
 | .s (.bool b) => k (.bool !b)
 | _ => none
def oNeg (x : A) (k : A → Option β) : Option β :=
 match x with
 | .s (.int kx n) => k (.int kx (kx.wrap (0 - n)))
 | _ => none
def oConv (kd : IntKind) (x : A) (k : A → Option β) : Option β :=
 match x with
 | .s (.int _ n) => k (.int kd (kd.wrap n))
 | _ => none
def qa0 (x : A) (k : A → Option β) : Option β :=
 match x with
 | .ptr id v r o => k (.ptr id v r o)
 | .cptr cs => k (.cptr cs)
 | _ => none
def oMin (x y : A) (k : A → Option β) : Option β :=
 match x, y with
 | .s (.int kx a), .s (.int ky b) => if kx = ky then k (.int kx (if b < a then b else a)) else none
 | _, _ => none
def oMax (x y : A) (k : A → Option β) : Option β :=
 match x, y with
 | .s (.int kx a), .s (.int ky b) => if kx = ky then k (.int kx (if b > a then b else a)) else none
 | _, _ => none
def isCell : A → Bool
 | .s (.agg _) => false
 | .s (.tuple _) => false
 | .any => false
 | .agg _ => false
 | .tup _ => false
 | _ => true
def asCells (n : Option Nat) (a : A) : Option (List A) :=
 match n with
 | none => if isCell a then some [a] else none
 | some n =>
   match a with
   | .agg cs => if cs.length = n then some cs else none
   | _ => none
def oLoad (n : Option Nat) (a : A) (h : Heap) (k : A → Option β) : Option β :=
 match a with
 | .ptr id ver r o =>
   match h[id]? with
   | some (.live ob) =>
     if ob.ver = ver then
      match ob.rows[r]? with
      | some row =>
        match cellsAt n row o with
        | some v => k v
        | none => none
      | none => none
     else none
   | _ => none
 | .cptr cs =>
   match cellsAt n cs 0 with
   | some v => k v
   | none => none
 | _ => none
def qa5 (row : List A) (o : Nat) (cs : List A) : List A := row.take o ++ cs ++ row.drop (o + cs.length)
def oStore (n : Option Nat) (a v : A) (h : Heap) (k : Heap → Option β) : Option β :=
 match a with
 | .ptr id ver r o =>
   match h[id]? with
   | some (.live ob) =>
     if ob.ver = ver then
      match ob.rows[r]?, asCells n v with
      | some row, some cs => if o + cs.length ≤ row.length then k (h.set id (.live { ob with rows := ob.rows.set r (qa5 row o cs) })) else none
      | _, _ => none
     else none
   | _ => none
 | _ => none
def place (at_ : Option Nat) (h : Heap) (ob : Obj) : Option (Nat × Heap) :=
 match at_ with
 | none => some (h.length, h ++ [.live ob])
 | some id =>
   match h[id]? with
   | some .res => some (id, h.set id (.live ob))
   | _ => none
def oNew (at_ : Option Nat) (n : Option Nat) (v : A) (h : Heap) (k : A → Heap → Option β) : Option β :=
 match asCells n v with
 | some cs =>
   if cs.isEmpty then none else
   match place at_ h ⟨0, cs.length, [cs]⟩ with
   | some (id, h) => k (.ptr id 0 0 0) h
   | none => none
 | none => none
def qah (at_ : Option Nat) (sz : Nat) (rows : Option (List (List A))) (h : Heap) (k : A → Heap → Option β) : Option β :=
 match rows with
 | some rows =>
   if sz = 0 then none else
   match place at_ h ⟨0, sz, rows⟩ with
   | some (id, h) => k (.osl id 0 sz 0 rows.length) h
   | none => none
 | none => none
def oNewFz (slot sz : Nat) (rows : Option (List (List A))) (h : Heap) (k : A → Heap → Option β) : Option β :=
 match rows with
 | some rs => if qay rs then qah (some slot) sz (some rs) h (fun v h => oFrz v h k) else none
 | none => none
def asRows (n : Option Nat) : List A → Option (List (List A))
 | [] => some []
 | a :: r => (asCells n a).bind fun c => (asRows n r).map fun r => c :: r
def oMake (at_ : Option Nat) (sz bytes : Nat) (zero : List A) (l c : A) (h : Heap) (k : A → Heap → Option β) : Option β :=
 match l, c with
 | .s (.int .i64 l), .s (.int .i64 c) =>
   if 0 ≤ l ∧ l ≤ c ∧ (bytes : Int) * c ≤ 2 ^ 47 ∧ c < 2 ^ 62 ∧ zero.length = sz then qah at_ sz (some (List.replicate l.toNat zero)) h k else none
 | _, _ => none
def qa4 (need bytes : Nat) : Prop := (2 * need + 192) * bytes ≤ 2 ^ 48 ∧ need < 2 ^ 62
instance (need bytes : Nat) : Decidable (qa4 need bytes) := by unfold qa4; infer_instance
def rowsOf (sz : Nat) (x : A) (h : Heap) : Option (List (List A)) :=
 match x with
 | .fsl sz' rows => if sz' = sz ∨ rows.isEmpty = true then some rows else none
 | .s (.slice none 0 0) => some []
 | .osl id ver sz' lo len =>
   match h[id]? with
   | some (.live ob) => if ob.ver = ver ∧ sz' = sz ∧ lo + len ≤ ob.rows.length then some ((ob.rows.drop lo).take len) else none
   | _ => none
 | _ => none
def strOf : ByteArray → List A → Option ByteArray
 | s, [] => some s
 | s, .s (.int .u8 n) :: r => strOf (s.push (UInt8.ofNat n.toNat)) r
 | _, _ => none
def qbL (x : A) (h : Heap) (k : A → Option β) : Option β :=
 match rowsOf 1 x h with
 | some rows =>
   match strOf .empty rows.flatten with
   | some s => k (.s (.string s))
   | none => none
 | none => none
def oAppend (at_ : Option Nat) (sz bytes : Nat) (dst src : A) (h : Heap) (k : A → Heap → Option β) : Option β :=
 match rowsOf sz src h with
 | none => none
 | some new =>
   match dst with
   | .s (.slice none 0 0) =>
     if qa4 new.length bytes ∧ sz ≠ 0 then
      match place at_ h ⟨0, sz, new⟩ with
      | some (id, h) => k (.osl id 0 sz 0 new.length) h
      | none => none
     else none
   | .osl id ver sz' lo len =>
     match h[id]? with
     | some (.live ob) =>
       if ob.ver = ver ∧ sz' = sz ∧ lo + len ≤ ob.rows.length ∧ qa4 (len + new.length) bytes then
        k (.osl id (ver + 1) sz 0 (len + new.length)) (h.set id (.live ⟨ver + 1, ob.sz, (ob.rows.drop lo).take len ++ new⟩))
       else none
     | _ => none
   | _ => none
def oCopy (sz : Nat) (dst src : A) (h : Heap) (k : A → Heap → Option β) : Option β :=
 match rowsOf sz src h, dst with
 | some new, .osl id ver sz' lo len =>
   match h[id]? with
   | some (.live ob) =>
     if ob.ver = ver ∧ sz' = sz ∧ lo + len ≤ ob.rows.length then
      let n := min new.length len
      k (.int .i64 n) (h.set id (.live { ob with rows := ob.rows.take lo ++ new.take n ++ ob.rows.drop (lo + n) }))
     else none
   | _ => none
 | _, _ => none
end
end Go.Ab
