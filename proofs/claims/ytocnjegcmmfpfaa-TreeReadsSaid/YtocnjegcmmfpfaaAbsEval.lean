/-
 THE ABSTRACT MACHINE'S RUN: a function of the program over values without addresses. Definitions alone.
-/
import Derived.Test.YtocnjegcmmfpfaaAbsCore
set_option linter.unusedSimpArgs false
set_option linter.unusedVariables false
namespace Go.Ab
open Go
inductive Ex where
 | normal
 | exit (id : Nat)
 | ret
 | panic (a : A)
structure LoopAnn where
 keep : List Nat
 outs : List Nat
 prom : List (Nat × Nat)
 gc : Bool
structure FAnn where
 loops : List (Nat × LoopAnn)
 joins : List ((Nat × Nat) × List Nat × Bool)
 raw : List Nat
 bor : List Nat
 wrs : List (Nat × List (Nat × Bool))
 sts : List Nat
def putR (regs : List A) (dst : Option Nat) (v : A) : List A :=
 match dst with
 | some d => regs.set d v
 | none => regs
def pickR (l : List Nat) (regs : List A) : List A := l.map fun t => regs.getD t .any
def restoreFrom (vs : List A) : Nat → List A → List Nat → List A
 | i, base, t :: ts => restoreFrom vs (i + 1) (base.set t (vs.getD i .any)) ts
 | _, base, [] => base
def restore (base : List A) (ts : List Nat) (vs : List A) : List A := restoreFrom vs 0 base ts
def maskR : List A → List Nat → List A
 | regs, t :: ts => maskR (regs.set t .any) ts
 | regs, [] => regs
def asgOps (ops : List Oper) : List Nat := ops.filterMap (·.dst)
def grdOps (ops0 : Array Oper) (ops : List Oper) : List Nat := ops.filterMap fun o => o.guard.bind fun (j, _) => (ops0[j]?).bind (·.dst)
def asg : Code → List Nat
 | .region _ ops _ => asgOps ops.toList ++ grdOps ops ops.toList
 | .seq a b => asg a ++ asg b
 | .cond _ a b => asg a ++ asg b
 | .block _ c => asg c
 | .loop c => asg c
 | .scope c => asg c
 | _ => []
def firstR : Code → Option Nat
 | .region id _ _ => some id
 | .seq a b => (firstR a).or (firstR b)
 | .cond _ a b => (firstR a).or (firstR b)
 | .block _ c => firstR c
 | .loop c => firstR c
 | _ => none
def lastR : Code → Option Nat
 | .region id _ _ => some id
 | .seq a b => (lastR b).or (lastR a)
 | .cond _ a b => (lastR b).or (lastR a)
 | .block _ c => lastR c
 | .loop c => lastR c
 | _ => none
def joinAt (an : FAnn) (c : Code) : Option (List Nat × Bool) :=
 match firstR c, lastR c with
 | some a, some b => an.joins.lookup (a, b)
 | _, _ => none
def opnd (P : Program) (regs : List A) : Operand → A
 | .tmp t => regs.getD t .any
 | .const v => .s v
 | .global g => .s (.pointer (some ⟨g, 0, none⟩))
 | .func f => match P.funcs[f]? with
   | some fn => .fn fn.name []
   | none => .any
def shapeT (P : Program) (t : TypeId) : Option (Option Nat) :=
 match P.info? t, P.underlying t with
 | some i, some (.struct _) => some (some i.size)
 | some i, some (.array _ _) => some (some i.size)
 | some i, some _ => if i.size = 1 then some none else none
 | _, _ => none
def zeroT (P : Program) (t : TypeId) : Option (List A) :=
 match P.info? t with
 | some i =>
   match i.zero with
   | some v => if v.cells.toList.all (·.oneCell) then some (v.cells.toList.map .s) else none
   | none => none
 | none => none
def fieldT (P : Program) (s : TypeId) (f : Nat) : Option (Nat × Option Nat × Nat) :=
 match P.underlying s with
 | some (.struct fs) =>
   match fs[f]? with
   | some fd =>
     match shapeT P fd.type, P.info? fd.type with
     | some sh, some i => if i.size = 0 then none else some (fd.offset, sh, i.size)
     | _, _ => none
   | none => none
 | _ => none
def sizeT (P : Program) (t : TypeId) : Option Nat := (P.info? t).map (·.size)
def elemT (P : Program) (t : TypeId) : Option TypeId :=
 match P.underlying t with
 | some (.slice e) => some e
 | _ => none
def plainF (f : TypeId → Option (List Bool)) : List Field → Nat → Option (List Bool)
 | [], _ => some []
 | fd :: r, off =>
   if fd.name = "_" ∨ fd.offset ≠ off then none else
   match f fd.type with
   | some ks => if ks.length = 0 then none else (plainF f r (off + ks.length)).map fun ks' => ks ++ ks'
   | none => none
def plainI (ks : List Bool) : Nat → List Bool
 | 0 => []
 | n + 1 => ks ++ plainI ks n
def plainK (P : Program) : Nat → TypeId → Option (List Bool)
 | 0, _ => none
 | d + 1, t =>
   match P.underlying t, P.info? t with
   | some .bool, some i => if i.size = 1 then some [false] else none
   | some (.int _), some i => if i.size = 1 then some [true] else none
   | some (.struct fs), some i =>
     if P.stoodInHeld t then none else
     match plainF (plainK P d) fs.toList 0 with
     | some ks => if ks.length = i.size then some ks else none
     | none => none
   | some (.array n e), some i =>
     match plainK P d e with
     | some ks => if ks.length = 0 then none else if ks.length * n = i.size then some (plainI ks n) else none
     | none => none
   | _, _ => none
def fillA : List A → List (Nat × Option Nat × A) → Option (List A)
 | cells, [] => some cells
 | cells, (off, sh, v) :: rest =>
   match asCells sh v with
   | none => none
   | some cs => if off + cs.length ≤ cells.length then fillA (qa5 cells off cs) rest else none
def partsAt (place : Nat → Option (Nat × Option Nat × Nat)) (ρ : Operand → A) : List (Nat × Operand) → Option (List (Nat × Option Nat × A))
 | [] => some []
 | (i, x) :: r =>
   match place i, partsAt place ρ r with
   | some (off, sh, _), some r => some ((off, sh, ρ x) :: r)
   | _, _ => none
section
variable {β : Type}
def oBuildP (zero : List A) (parts : List (Nat × Option Nat × A)) (k : A → Option β) : Option β :=
 match fillA zero parts with
 | some cs => k (.agg cs)
 | none => none
def inOrder : Nat → List (Nat × A) → Bool
 | _, [] => true
 | i, (j, _) :: r => i == j && inOrder (i + 1) r
def evalInt (op : BinOp) (x y : A) (k : A → Option β) : Option β :=
 match op with
 | .eql => oCmp .eql x y k
 | .neq => oCmp .neq x y k
 | .lss => oCmp .lss x y k
 | .leq => oCmp .leq x y k
 | .gtr => oCmp .gtr x y k
 | .geq => oCmp .geq x y k
 | .shl => oShift .shl x y k
 | .shr => oShift .shr x y k
 | .add => oAr .add x y k
 | .sub => oAr .sub x y k
 | .mul => oAr .mul x y k
 | .quo => oAr .quo x y k
 | .rem => oAr .rem x y k
 | .and => oAr .and x y k
 | .or => oAr .or x y k
 | .xor => oAr .xor x y k
 | .andNot => oAr .andNot x y k
def evalP (P : Program) (op : Op) (ρ : Operand → A) (k : A → Option β) : Option β :=
 match op with
 | .move x => k (ρ x)
 | .assign x => k (ρ x)
 | .pick c a b => oPick (ρ c) (ρ a) (ρ b) k
 | .fieldAddr s x f =>
   match fieldT P s f with
   | some (off, _, _) => oFieldA off (ρ x) k
   | none => none
 | .field s x f =>
   match fieldT P s f with
   | some (off, sh, _) => oField off sh (ρ x) k
   | none => none
 | .indexAddr t x i =>
   match P.underlying t with
   | some (.slice e) =>
     match sizeT P e with
     | some sz => oIdxA sz (ρ x) (ρ i) k
     | none => none
   | some (.array n e) =>
     match sizeT P e with
     | some sz => oIdxArr n sz (ρ x) (ρ i) k
     | none => none
   | _ => none
 | .index t x i =>
   match P.underlying t with
   | some (.array n e) =>
     match sizeT P e, shapeT P e with
     | some sz, some sh => oIndex n sz sh (ρ x) (ρ i) k
     | _, _ => none
   | some .string => qfo (ρ x) (ρ i) k
   | _ => none
 | .extract x i => qae i (ρ x) k
 | .slice t x lo hi none =>
   match P.underlying t with
   | some (.slice e) =>
     match sizeT P e with
     | some sz => oSlice sz (ρ x) (lo.map ρ) (hi.map ρ) k
     | none => none
   | _ => none
 | .binOp op t x y _ =>
   match P.underlying t with
   | some (.int _) => evalInt op (ρ x) (ρ y) k
   | some .bool =>
     match op with
     | .eql => oEqBool false (ρ x) (ρ y) k
     | .neq => oEqBool true (ρ x) (ρ y) k
     | _ => none
   | some .string =>
     match op with
     | .eql => oEqStr false (ρ x) (ρ y) k
     | .neq => oEqStr true (ρ x) (ρ y) k
     | _ => none
   | some (.pointer _) =>
     match op with
     | .eql => oEqNil false (ρ x) (ρ y) k
     | .neq => oEqNil true (ρ x) (ρ y) k
     | _ => none
   | some (.struct _) | some (.array _ _) =>
     match plainK P 50 t with
     | some ks =>
       if P.eqGuardType P.depth t then none else
       match op with
       | .eql => oEqAgg ks false (ρ x) (ρ y) k
       | .neq => oEqAgg ks true (ρ x) (ρ y) k
       | _ => none
     | none => none
   | _ => none
 | .unOp .not _ x => oNot (ρ x) k
 | .unOp .neg _ x => oNeg (ρ x) k
 | .nilCheck x => qa0 (ρ x) k
 | .makeFunc (.func f) first caps =>
   match P.funcs[f]?, first.toList with
   | some fn, [] => k (.fn fn.name (caps.toList.map ρ))
   | some fn, [x] => if caps.isEmpty then oBound fn.name (ρ x) k else none
   | _, _ => none
 | .build t parts =>
   match P.underlying t, zeroT P t with
   | some (.struct fs), some z =>
     if fs.toList.all (fun f => (P.info? f.type).isSome) then
      match partsAt (fieldT P t) ρ parts.toList with
      | some ps => oBuildP z ps k
      | none => none
     else none
   | some (.array _ e), some z =>
     match sizeT P e, shapeT P e with
     | some sz, some sh =>
       if sz = 0 then none else
       match partsAt (fun i => some (i * sz, sh, sz)) ρ parts.toList with
       | some ps => oBuildP z ps k
       | none => none
     | _, _ => none
   | _, _ => none
 | .call { callee := .builtin .len, args, argTypes } =>
   match argTypes[0]?, args[0]? with
   | some t, some x =>
     match P.underlying t with
     | some (.slice _) => oLen (ρ x) k
     | some .string => oLenStr (ρ x) k
     | some (.array n _) => k (.int .i64 n)
     | _ => none
   | _, _ => none
 | .call { callee := .builtin .cap, args, argTypes } =>
   match argTypes[0]?, args[0]? with
   | some t, some x =>
     match P.underlying t with
     | some (.slice _) => oCap (ρ x) k
     | _ => none
   | _, _ => none
 | .call { callee := .builtin .min, args, .. } =>
   match args.toList with
   | [x, y] => oMin (ρ x) (ρ y) k
   | _ => none
 | .call { callee := .builtin .max, args, .. } =>
   match args.toList with
   | [x, y] => oMax (ρ x) (ρ y) k
   | _ => none
 | _ => none
structure DM where
 n0 : Nat
 wr : List Nat
 slot : Nat
 st : Bool
def oLoadD (n0 : Nat) (wr : List Nat) (n : Option Nat) (a : A) (h : Heap) (k : A → Heap → Option β) : Option β :=
 match a with
 | .ptr id ver r o => if id < n0 ∧ id ∉ wr then oLoad n (.ptr id ver r o) h (fun v => k v h) else none
 | .cptr cs => oLoad n (.cptr cs) h (fun v => k v h)
 | _ => none
def qc3 (n0 : Nat) (wr : List Nat) (a : A) (h : Heap) (k : A → Heap → Option β) : Option β :=
 match a with
 | .osl id ver sz lo len => if id < n0 ∧ id ∉ wr then qbL (.osl id ver sz lo len) h (fun v => k v h) else none
 | .fsl sz rows => qbL (.fsl sz rows) h (fun v => k v h)
 | .s v => qbL (.s v) h (fun v => k v h)
 | _ => none
def sameA : A → A → Bool
 | .osl a b c d e, .osl a' b' c' d' e' => decide (a = a' ∧ b = b' ∧ c = c' ∧ d = d' ∧ e = e')
 | .s (.slice none 0 0), .s (.slice none 0 0) => true
 | _, _ => false
def qhn (n : Option Nat) (id r o : Nat) (v : A) (h : Heap) : Bool :=
 match n, h[id]? with
 | none, some (.live ob) => match ob.rows[r]? with
   | some row => match row[o]? with
     | some c => sameA c v
     | none => false
   | none => false
 | _, _ => false
def oStoreD (n0 : Nat) (wr : List Nat) (n : Option Nat) (a v : A) (h : Heap) (k : Heap → Option β) : Option β :=
 match a with
 | .ptr id ver r o => if n0 ≤ id ∨ id ∈ wr then oStore n (.ptr id ver r o) v h k else if qhn n id r o v h = true then oStore n (.ptr id ver r o) v h k else none
 | _ => none
def qb2 (n0 : Nat) (wr : List Nat) (slot : Nat) (sz bytes : Nat) (dst src : A) (h : Heap) (k : A → Heap → Option β) : Option β :=
 match dst with
 | .osl id ver sz' lo len => if n0 ≤ id ∨ id ∈ wr then oAppend (some slot) sz bytes (.osl id ver sz' lo len) src h k else none
 | .s (.slice none 0 0) => oAppend (some slot) sz bytes (.s (.slice none 0 0)) src h k
 | _ => none
def nodupB : List Nat → Bool
 | [] => true
 | a :: l => !l.contains a && nodupB l
def flatS (s : Slot) : Bool :=
 match s with
 | .live ob => (idsRows ob.rows).isEmpty
 | .dead => true
 | .res => false
 | .mp _ _ => false
def liveS (s : Slot) : Bool :=
 match s with
 | .live ob => (idsRows ob.rows).isEmpty
 | _ => false
def okW (n0 : Nat) (wr ids : List Nat) (h : Heap) : Bool := nodupB ids && decide (ids.length < 1000) && ids.all fun id => (decide (n0 ≤ id) || wr.contains id) && liveS (h.getD id .dead)
def oCallW (n0 : Nat) (wr : List Nat) (F : CallFn) (args : List A) (h : Heap) (k : A → Heap → Option β) : Option β :=
 if okW n0 wr (idsL args) h = true then
  match renL (idx (idsL args)) args with
  | none => none
  | some args' =>
    match F args' ((idsL args).map (h.getD · .dead)) with
    | some (.ok a, objs') =>
      if (objs'.length == (idsL args).length && objs'.all flatS && (idsA a).all (fun j => decide (j < (idsL args).length))) = true then
       match renA (fun j => (idsL args)[j]?) a with
       | some a' => k a' (setAll h (idsL args) objs')
       | none => none
      else none
    | _ => none
 else none
mutual
def sameW : A → A → Bool
 | .s v, b =>
   match v, b with
   | .int k n, .s (.int k' n') => decide (k = k') && decide (n = n')
   | .bool x, .s (.bool y) => x == y
   | .slice none 0 0, .s (.slice none 0 0) => true
   | .pointer none, .s (.pointer none) => true
   | _, _ => false
 | .any, _ => false
 | .ptr a b c d, .ptr a' b' c' d' => decide (a = a' ∧ b = b' ∧ c = c' ∧ d = d')
 | .ptr .., _ => false
 | .cptr cs, .cptr cs' => sameWL cs cs'
 | .cptr _, _ => false
 | .fsl sz rows, .fsl sz' rows' => decide (sz = sz') && sameWR rows rows'
 | .fsl .., _ => false
 | .osl a b c d e, .osl a' b' c' d' e' => decide (a = a' ∧ b = b' ∧ c = c' ∧ d = d' ∧ e = e')
 | .osl .., _ => false
 | .agg cs, .agg cs' => sameWL cs cs'
 | .agg _, _ => false
 | .tup _, _ => false
 | .fn _ _, _ => false
 | .iface _ _, _ => false
 | .mref _, _ => false
def sameWL : List A → List A → Bool
 | [], [] => true
 | [], _ :: _ => false
 | _ :: _, [] => false
 | a :: r, b :: r' => sameW a b && sameWL r r'
def sameWR : List (List A) → List (List A) → Bool
 | [], [] => true
 | [], _ :: _ => false
 | _ :: _, [] => false
 | a :: r, b :: r' => sameWL a b && sameWR r r'
end
def sameWS (x y : Slot) : Bool :=
 match x, y with
 | .live o, .live o' => decide (o.ver = o'.ver) && decide (o.sz = o'.sz) && sameWR o.rows o'.rows
 | .dead, .dead => true
 | _, _ => false
def sameWH : Heap → Heap → Bool
 | [], [] => true
 | x :: r, y :: r' => sameWS x y && sameWH r r'
 | _, _ => false
def oCallK {β : Type} (n0 : Nat) (wr : List Nat) (F : CallFn) (args : List A) (h : Heap) (k : A → Heap → Option β) : Option β :=
 match borrow args (maskH n0 wr h) with
 | none => none
 | some (ids, args', objs) =>
   if (ids.all fun id => decide (id < n0) && !wr.contains id) = true then
    match F args' objs with
    | some (.ok a, objs') =>
      if sameWH (objs'.take ids.length) objs = true then
       match renA (backIdx ids h.length) a, renHeap (backIdx ids h.length) (objs'.drop ids.length) with
       | some a, some xs => k a (h ++ xs)
       | _, _ => none
      else none
    | _ => none
   else none
def qa2 (n : Nat) (l : List Nat) : Bool := l.all (· < n)
def trim (gc : Bool) (n0 : Nat) (vs : List A) (h : Heap) : Option (List A × Heap) :=
 if gc && (qa2 n0 (idsL vs) && (h.take n0).all (fun s => qa2 n0 s.ids)) then some (vs, h.take n0) else some (vs, h)
def froze (F : CallFn) : CallFn := fun args objs =>
 match F args objs with
 | some (.ok a, h1) => oFrz a h1 fun a h2 => (trim true objs.length [a] h2).map fun p => (.ok a, p.2)
 | _ => none
def qaX (dm : Option DM) (raw bor : Bool) (F : CallFn) (args : List A) (h : Heap) (k kp : A → Heap → Option β) : Option β :=
 match dm, bor, raw with
 | none, true, true => oCall F args h kp k
 | none, true, false => oCall F args h kp (fun v h => oFrz v h k)
 | none, false, true => oLend F args h kp k
 | none, false, false => oLend F args h kp (fun v h => oFrz v h k)
 | some d, true, true => match d.st with
   | true => oCallW d.n0 d.wr F args h k
   | false => oCall F args h (fun _ _ => none) k
 | some d, true, false => match d.st with
   | true => oCallW d.n0 d.wr (froze F) args h k
   | false => oCall F args h (fun _ _ => none) (fun v h => oFrz v h k)
 | some d, false, true => match d.st with
   | true => oCallK d.n0 d.wr F args h k
   | false => oCallF d.n0 d.wr F args h k
 | some d, false, false => oCallF d.n0 d.wr F args h (fun v h => oFrz v h k)
def argsV : List A → List A → List A
 | .fsl 0 [[.any]] :: r, args => r ++ args
 | caps, args => args ++ caps
def oCallV (En : String → CallFn) (f : A) (args : List A) (h : Heap) (kp k : A → Heap → Option β) : Option β :=
 match f with
 | .fn name caps => oCall (En name) (argsV caps args) h kp k
 | _ => none
def oLendV (En : String → CallFn) (f : A) (args : List A) (h : Heap) (kp k : A → Heap → Option β) : Option β :=
 match f with
 | .fn name caps => oLend (En name) (argsV caps args) h kp k
 | _ => none
def oCallVF (n0 : Nat) (wr : List Nat) (En : String → CallFn) (f : A) (args : List A) (h : Heap) (k : A → Heap → Option β) : Option β :=
 match f with
 | .fn name caps => oCallF n0 wr (En name) (argsV caps args) h k
 | _ => none
def qbr (En : String → CallFn) (dm : Option DM) (raw bor : Bool) (f : A) (args : List A) (h : Heap) (k kp : A → Heap → Option β) : Option β :=
 match dm, bor, raw with
 | none, true, true => oCallV En f args h kp k
 | none, true, false => oCallV En f args h kp (fun v h => oFrz v h k)
 | none, false, true => oLendV En f args h kp k
 | none, false, false => oLendV En f args h kp (fun v h => oFrz v h k)
 | some d, true, true => match d.st with
   | true => none
   | false => oCallV En f args h (fun _ _ => none) k
 | some d, true, false => match d.st with
   | true => none
   | false => oCallV En f args h (fun _ _ => none) (fun v h => oFrz v h k)
 | some d, false, true => match d.st with
   | true => none
   | false => oCallVF d.n0 d.wr En f args h k
 | some d, false, false => oCallVF d.n0 d.wr En f args h (fun v h => oFrz v h k)
def mpGet (n : Int) : List (Int × A) → Option A
 | [] => none
 | (m, a) :: r => if n == m then some a else mpGet n r
def mpPut (n : Int) (v : A) : List (Int × A) → List (Int × A)
 | [] => [(n, v)]
 | (m, a) :: r => if n == m then (n, v) :: r else (m, a) :: mpPut n v r
def zeroV (P : Program) (e : TypeId) : Option A :=
 match P.info? e with
 | some i => match i.zero with
   | some (.agg cs) => if cs.toList.all (·.oneCell) then some (.agg (cs.toList.map .s)) else none
   | some (.tuple _) => none
   | some v => some (.s v)
   | none => none
 | none => none
def oMkMap (kd : IntKind) (h : Heap) (k : A → Heap → Option β) : Option β := k (.mref h.length) (h ++ [.mp kd []])
def oLookup (z : A) (ok : Bool) (m key : A) (h : Heap) (k : A → Option β) : Option β :=
 match m, key with
 | .mref id, .s (.int kk n) =>
   match h[id]? with
   | some (.mp kd es) =>
     if kk = kd then
      match mpGet n es with
      | some a => k (if ok then .tup [a, .s (.bool true)] else a)
      | none => k (if ok then .tup [z, .s (.bool false)] else z)
     else none
   | _ => none
 | _, _ => none
def oMapPut (m key v : A) (h : Heap) (k : Heap → Option β) : Option β :=
 match m, key with
 | .mref id, .s (.int kk n) =>
   match h[id]? with
   | some (.mp kd es) => if kk = kd ∧ pureA v = true then k (h.set id (.mp kd (mpPut n v es))) else none
   | _ => none
 | _, _ => none
def mapT (P : Program) (t : TypeId) : Option (IntKind × TypeId) :=
 match P.underlying t with
 | some (.map kt et) => match P.underlying kt with
   | some (.int kd) => some (kd, et)
   | _ => none
 | _ => none
def evalH (P : Program) (E : FuncId → CallFn) (En : String → CallFn) (raw bor : Bool) (dm : Option DM) (op : Op) (ρ : Operand → A) (h : Heap) (k kp : A → Heap → Option β) : Option β :=
 match op with
 | .load t a =>
   match shapeT P t with
   | some sh =>
     match dm with
     | none => oLoad sh (ρ a) h (fun v => k v h)
     | some dm => oLoadD dm.n0 dm.wr sh (ρ a) h k
   | none => none
 | .convert src dst x =>
   match P.underlying src, P.underlying dst with
   | some (.int _), some (.int kd) => oConv kd (ρ x) (fun v => k v h)
   | some (.slice e), some .string =>
     match P.underlying e, sizeT P e with
     | some (.int .u8), some 1 =>
       match dm with
       | none => qbL (ρ x) h (fun v => k v h)
       | some dm => qc3 dm.n0 dm.wr (ρ x) h k
     | _, _ => none
   | _, _ => none
 | .store t a v =>
   match shapeT P t with
   | some sh => match dm with
     | some d => match d.st with
       | true => oStoreD d.n0 d.wr sh (ρ a) (ρ v) h (fun h => k (.s undef) h)
       | false => oStore sh (ρ a) (ρ v) h (fun h => k (.s undef) h)
     | none => oStore sh (ρ a) (ρ v) h (fun h => k (.s undef) h)
   | none => none
 | .alloc t =>
   match zeroT P t, shapeT P t with
   | some z, some none => (match z with | [c] => oNew (dm.map (·.slot)) none c h k | _ => none)
   | some z, some (some n) => oNew (dm.map (·.slot)) (some n) (.agg z) h k
   | _, _ => none
 | .box t x =>
   match shapeT P t with
   | some sh => oNew (dm.map (·.slot)) sh (ρ x) h k
   | none => none
 | .buildSlice t n parts =>
   match elemT P t with
   | some e =>
     match sizeT P e, shapeT P e with
     | some sz, some sh =>
       if inOrder 0 (parts.toList.map fun (i, x) => (i, ρ x)) && parts.size == n && decide (n * sz ≤ 2 ^ 24) && (zeroT P e).map List.length == some sz then
        match dm with
        | none => match bor with
          | true => qah none sz (asRows sh (parts.toList.map fun (_, x) => ρ x)) h (fun v h => oFrz v h k)
          | false => qah none sz (asRows sh (parts.toList.map fun (_, x) => ρ x)) h k
        | some d => match bor with
          | true => oNewFz d.slot sz (asRows sh (parts.toList.map fun (_, x) => ρ x)) h k
          | false => qah (some d.slot) sz (asRows sh (parts.toList.map fun (_, x) => ρ x)) h k
       else none
     | _, _ => none
   | none => none
 | .makeSlice t l c =>
   match elemT P t with
   | some e =>
     match sizeT P e, zeroT P e with
     | some sz, some z => oMake (dm.map (·.slot)) sz (P.bytesOf e) z (ρ l) (ρ c) h k
     | _, _ => none
   | none => none
 | .call { callee := .builtin .append, args, argTypes } =>
   match argTypes.toList, args.toList with
   | [t, u], [x, y] =>
     match elemT P t, elemT P u with
     | some e, some _ =>
       match sizeT P e with
       | some sz =>
         if 0 < P.bytesOf e ∧ (zeroT P e).map List.length = some sz then
          match dm with
          | none => match bor with
            | true => oAppend none sz (P.bytesOf e) (ρ x) (ρ y) h (fun v h => oFrz v h k)
            | false => oAppend none sz (P.bytesOf e) (ρ x) (ρ y) h k
          | some dm => match dm.st with
            | true => oAppend (some dm.slot) sz (P.bytesOf e) (ρ x) (ρ y) h k
            | false => qb2 dm.n0 dm.wr dm.slot sz (P.bytesOf e) (ρ x) (ρ y) h k
         else none
       | none => none
     | _, _ => none
   | _, _ => none
 | .call { callee := .builtin .copy, args, argTypes } =>
   match argTypes.toList, args.toList with
   | [t, u], [x, y] =>
     match elemT P t, elemT P u with
     | some e, some _ =>
       match sizeT P e with
       | some sz => oCopy sz (ρ x) (ρ y) h k
       | none => none
     | _, _ => none
   | _, _ => none
 | .call { callee := .value (.func f), args, .. } => qaX dm raw bor (E f) (args.toList.map ρ) h k kp
 | .call { callee := .value f, args, .. } => qbr En dm raw bor (ρ f) (args.toList.map ρ) h k kp
 | _ => none
inductive Cls where
 | p | l | r | ap | c | w
 deriving DecidableEq
def cls : Op → Cls
 | .move _ | .assign _ | .pick .. | .fieldAddr .. | .field .. | .indexAddr .. | .index .. | .extract .. | .slice .. | .binOp .. | .unOp ..
 | .nilCheck _ | .makeFunc .. | .build .. => .p
 | .call { callee := .builtin .len, .. } | .call { callee := .builtin .cap, .. } | .call { callee := .builtin .min, .. } | .call { callee := .builtin .max, .. } => .p
 | .load .. => .l
 | .convert .. => .l
 | .alloc _ | .box .. | .buildSlice .. | .makeSlice .. => .r
 | .call { callee := .builtin .append, .. } => .ap
 | .call { callee := .value _, .. } => .c
 | _ => .w
def knOff (kn : List Nat) (dst : Option Nat) : List Nat :=
 match dst with
 | some d => kn.filter (fun t => !(t == d))
 | none => kn
def knOn (kn : List Nat) (dst : Option Nat) (n : Nat) : List Nat :=
 match dst with
 | some d => if d < n then d :: kn else kn
 | none => kn
def qbF (P : Program) (E : FuncId → CallFn) (En : String → CallFn) (an : FAnn) (dm : Option DM) (o : Oper) (regs : List A) (h : Heap) (k kp : A → Heap → Option β) : Option β :=
 match cls o.op with
 | .p => evalP P o.op (opnd P regs) (fun v => k v h)
 | _ => evalH P E En (match o.dst with | some d => an.raw.contains d | none => false) (match o.dst with | some d => an.bor.contains d | none => dm.isNone) dm o.op (opnd P regs) h k kp
def evalOps (P : Program) (E : FuncId → CallFn) (En : String → CallFn) (an : FAnn) (ops0 : Array Oper) (kp : A → Heap → Option β) :
    List (Oper × Option DM) → List Nat → List A → Heap → (List A → Heap → Option β) → Option β
 | [], _, regs, h, k => k regs h
 | (o, dm) :: rest, kn, regs, h, k =>
   match o.guard with
   | none => qbF P E En an dm o regs h (fun v h => evalOps P E En an ops0 kp rest (knOff kn o.dst) (putR regs o.dst v) h k) kp
   | some (j, want) =>
     match (ops0[j]?).bind (·.dst) with
     | none => none
     | some t =>
       if kn.contains t then evalOps P E En an ops0 kp rest (knOn kn o.dst regs.length) (putR regs o.dst (.s undef)) h k
       else
        oGuard (regs.getD t .any) want
         (fun _ => qbF P E En an dm o (regs.set t (.bool want)) h (fun v h => evalOps P E En an ops0 kp rest (knOff kn o.dst) (putR (regs.set t (.bool want)) o.dst v) h k) kp)
         (fun _ => evalOps P E En an ops0 kp rest (knOn kn o.dst regs.length) (putR (regs.set t (.bool !want)) o.dst (.s undef)) h k)
end
def mayTurn (x y : Cls) : Bool :=
 match x, y with
 | .p, _ => true
 | _, .p => true
 | .w, _ => false
 | _, .w => false
 | .c, .c => false
 | .ap, .ap => false
 | _, _ => true
def unordered (ops : Array Oper) (b : Array Nat) (i j : Nat) : Bool := !(b.getD j 0).testBit i && !(b.getD i 0).testBit j
def insA (an : FAnn) (o : Oper) : Bool := match o.dst with
 | some d => an.sts.contains (1000000 + d)
 | none => false
def stOf (an : FAnn) (rst : Bool) (o : Oper) : Bool := match o.op with
 | .store .. => rst
 | _ => insA an o
def clsA (an : FAnn) (st : Bool) (o : Oper) : Cls :=
 match o.op with
 | .store .. => if st then .ap else .w
 | op => match cls op with
   | .c => match o.dst with
     | some d => if an.bor.contains d then (if st then .ap else .w) else .c
     | none => .c
   | .ap => if st then .w else .ap
   | cl => cl
def turnsOk (an : FAnn) (st : Bool) (ops : Array Oper) : Bool :=
 let b := Region.before ops
 (List.range ops.size).all fun j => (List.range j).all fun i =>
  !unordered ops b i j || match ops[i]?, ops[j]? with
   | some x, some y => mayTurn (clsA an (stOf an st x) x) (clsA an (stOf an st y) y) && x.apart ops y
   | _, _ => false
def edgesOk (ops : Array Oper) : Bool :=
 ops.toList.zipIdx.all fun (o, i) => o.after.toList.all fun e => !Region.binds .any e || decide (e.on < i)
def isMaker (o : Oper) : Bool :=
 match cls o.op with
 | .r => true
 | .ap => true
 | _ => false
def qfc (an : FAnn) (n0 : Nat) (wr : List Nat) (st : Bool) : Nat → List Oper → List (Oper × Option DM)
 | _, [] => []
 | s, o :: r => (o, some ⟨n0, wr, s, stOf an st o⟩) :: qfc an n0 wr st (if isMaker o then s + 1 else s) r
def makers (ops : List Oper) : Nat := (ops.filter isMaker).length
def resv (n : Nat) (h : Heap) : Heap :=
 match n with
 | 0 => h
 | n + 1 => h ++ List.replicate (n + 1) .res
def wrA (deep : Bool) (a : A) (h : Heap) : List Nat := if deep then (idTop a).flatMap fun id => (h.getD id .dead).ids else idTop a
def wrL (h : Heap) : List (A × Bool) → List Nat
 | [] => []
 | (a, deep) :: r => wrA deep a h ++ wrL h r
def wrsAt (an : FAnn) (id : Nat) : List (Nat × Bool) := match an.wrs.find? fun p => p.1 == id with
 | some p => p.2
 | none => []
def trimE (e : Ex) (gc : Bool) (n0 : Nat) (vs : List A) (h : Heap) : Option (List A × Heap) :=
 match e with
 | .normal => trim gc n0 vs h
 | .exit _ => trim gc n0 vs h
 | .ret => trim gc n0 vs h
 | .panic _ => some ([], h)
def iterN {σ ρ : Type} (step : σ → Option (σ ⊕ ρ)) : Nat → σ → Option ρ
 | 0, _ => none
 | n + 1, s =>
   match step s with
   | none => none
   | some (.inl s) => iterN step n s
   | some (.inr r) => some r
def big : Nat := 2 ^ 64
def oProm {β : Type} (sz : Nat) (x : A) (h : Heap) (k : A → Heap → Option β) : Option β :=
 match x with
 | .s (.slice none 0 0) => k (.osl h.length 0 sz 0 0) (h ++ [.live ⟨0, sz, []⟩])
 | x => k x h
def promAll {β : Type} : List (Nat × Nat) → List A → Heap → (List A → Heap → Option β) → Option β
 | [], regs, h, k => k regs h
 | (t, sz) :: r, regs, h, k => if sz = 0 then none else oProm sz (regs.getD t .any) h fun v h => promAll r (regs.set t v) h k
def oLoop {β : Type} (step : List A × Heap → Option ((List A × Heap) ⊕ (Ex × List A × Heap))) (s : List A × Heap) (k : Ex → List A → Heap → Option β) : Option β :=
 match iterN step big s with
 | none => none
 | some (e, vs, h) => k e vs h
def oJoin {β : Type} (x : Option (Ex × List A × Heap)) (k : Ex → List A → Heap → Option β) : Option β :=
 match x with
 | none => none
 | some (e, vs, h) => k e vs h
def evalC (P : Program) (E : FuncId → CallFn) (En : String → CallFn) (an : FAnn) :
    Code → (lk : Nat) → {β : Type} → List A → Heap → (Ex → List A → Heap → Option β) → Option β
 | .skip, _, _, regs, h, k => k .normal regs h
 | .region rid ops draw, _, _, regs, h, k =>
   if draw then
    if turnsOk an (an.sts.contains rid) ops && edgesOk ops then
     evalOps P E En an ops (fun _ _ => none) (qfc an h.length (wrL h ((wrsAt an rid).map fun p => (regs.getD p.1 .any, p.2))) (an.sts.contains rid) h.length ops.toList) [] regs (resv (makers ops.toList) h) (fun regs h => k .normal regs h)
    else none
   else evalOps P E En an ops (fun v h => k (.panic v) [] h) (ops.toList.map fun o => (o, none)) [] regs h (fun regs h => k .normal regs h)
 | .seq a b, lk, _, regs, h, k =>
   match joinAt an a with
   | none => evalC P E En an a lk regs h fun e regs h =>
     match e with
     | .normal => evalC P E En an b lk regs h k
     | .exit i => k (.exit i) regs h
     | .ret => k .ret regs h
     | .panic v => k (.panic v) [] h
   | some (outs, gc) =>
     oJoin (evalC P E En an a lk regs h fun e regs' h' => (trimE e gc h.length (pickR outs regs') h').map fun (vs, h') => (e, vs, h')) fun e vs h =>
      match e with
      | .normal => evalC P E En an b lk (restore (maskR regs (asg a)) outs vs) h k
      | .exit i => k (.exit i) (restore (maskR regs (asg a)) outs vs) h
      | .ret => k .ret (restore (maskR regs (asg a)) outs vs) h
      | .panic v => k (.panic v) [] h
 | .cond c a b, lk, _, regs, h, k => oCond (opnd P regs c) (evalC P E En an a lk regs h k) (evalC P E En an b lk regs h k)
 | .block id c, _, _, regs, h, k => evalC P E En an c id regs h fun e regs h =>
   match e with
   | .exit i => if i = id then k .normal regs h else k (.exit i) regs h
   | .normal => k .normal regs h
   | .ret => k .ret regs h
   | .panic v => k (.panic v) [] h
 | .loop c, lk, _, regs, h, k =>
   match an.loops.lookup lk with
   | none => none
   | some la => promAll la.prom regs h fun regs h =>
     oLoop (fun s => evalC P E En an c lk (restore (maskR regs (asg c)) la.keep s.1) s.2 fun e regs' h' =>
      match e with
      | .normal => (trim la.gc h.length (pickR la.keep regs') h').map .inl
      | .exit i => (trim la.gc h.length (pickR la.outs regs') h').map fun p => .inr (.exit i, p.1, p.2)
      | .ret => (trim la.gc h.length (pickR la.outs regs') h').map fun p => .inr (.ret, p.1, p.2)
      | .panic v => some (.inr (.panic v, pickR la.outs regs', h'))) (pickR la.keep regs, h) fun e vs h =>
      match e with
      | .normal => none
      | .exit i => k (.exit i) (restore (maskR regs (asg c)) la.outs vs) h
      | .ret => k .ret (restore (maskR regs (asg c)) la.outs vs) h
      | .panic v => k (.panic v) [] h
 | .exit id, _, _, regs, h, k => k (.exit id) regs h
 | .ret, _, _, regs, h, k => k .ret regs h
 | .scope c, lk, _, regs, h, k => evalC P E En an c lk regs h k
 | .label _, _, _, regs, h, k => k .normal regs h
 | _, _, _, _, _, _ => none
def qdS {β : Type} (P : Program) (regs : List A) (h : Heap) : List ResultVar → (List A → Option β) → Option β
 | [], k => k []
 | .tmp t :: rs, k => qdS P regs h rs fun as => k (regs.getD t .any :: as)
 | .cell a t :: rs, k =>
   match shapeT P t with
   | some sh => oLoad sh (regs.getD a .any) h fun v => qdS P regs h rs fun as => k (v :: as)
   | none => none
def qj2 : List A → A
 | [a] => a
 | [] => .s (.tuple #[])
 | l => .tup l
def endK (P : Program) (rs : List ResultVar) (nb : Nat) (e : Ex) (regs : List A) (h : Heap) : Option (Out × Heap) :=
 match e with
 | .normal | .ret => qdS P regs h rs fun vs => finish nb (.ok (qj2 vs)) h
 | .panic v => finish nb (.pan v) h
 | .exit _ => none
def evalF (P : Program) (E : FuncId → CallFn) (En : String → CallFn) (an : FAnn) (fn : Func) (args : List A) (objs : Heap) : Option (Out × Heap) :=
 match fn.body with
 | none => none
 | some body => evalC P E En an body 0 (args ++ List.replicate (fn.ntmps - args.length) .any) objs (endK P fn.results.toList objs.length)
end Go.Ab
