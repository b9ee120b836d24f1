/-
  THE PLAIN LAWS, AND WHAT THEY STAND ON, TOGETHER.
-/
import Derived.Test.YteaffioiejcebaaAbsSimp
import Derived.Test.YteaffioiejcebaaFnF
import Derived.Test.YteaffioiejcebaaAbsRead
import Derived.KernelRfl
import Derived.Test.YteaffioiejcebaaFnE
/-
  THE PROGRAM'S PLAIN TYPES, AND THEIR CELLS. Written by a program (types.py).
-/
set_option linter.unusedSimpArgs false
set_option linter.unusedVariables false
namespace Go.Ab.T
open Go Go.Ab

/-- One whole number. -/
def cellC (k : IntKind) (n : Int) : List A := [.s (.int k n)]
@[simp] theorem cellC_len (k : IntKind) (n : Int) : (cellC k n).length = 1 := _root_.id rfl
@[simp] theorem cellC_0 (k : IntKind) (n : Int) : (cellC k n)[0]? = some (.s (.int k n)) := _root_.id rfl
@[simp] theorem cellC_g0 (k : IntKind) (n : Int) (h : 0 < (cellC k n).length) : (cellC k n)[0] = .s (.int k n) := _root_.id rfl
@[simp] theorem cellC_ids (k : IntKind) (n : Int) : idsL (cellC k n) = [] := _root_.id rfl
@[simp] theorem cellC_pure (k : IntKind) (n : Int) : pureL (cellC k n) = true := _root_.id rfl

structure Cat where
  id : Int
  level : Int
  deriving DecidableEq
def catC (t : Cat) : List A := [.s (.int .u64 t.id), .s (.int .i64 t.level)]
@[simp] theorem catC_len (t : Cat) : (catC t).length = 2 := _root_.id rfl
@[simp] theorem catC_ne (t : Cat) : (catC t = []) = False := by simp [catC]
@[simp] theorem catC_ids (t : Cat) : idsL (catC t) = [] := _root_.id rfl
@[simp] theorem catC_pure (t : Cat) : pureL (catC t) = true := by simp [catC]
@[simp] theorem catC_0 (t : Cat) : (catC t)[0]? = some (.s (.int .u64 t.id)) := _root_.id rfl
@[simp] theorem catC_1 (t : Cat) : (catC t)[1]? = some (.s (.int .i64 t.level)) := _root_.id rfl
@[simp] theorem catC_at (t : Cat) : cellsAt (some 2) (catC t) 0 = some (.agg (catC t)) := _root_.id rfl
@[simp] theorem catC_g0 (t : Cat) (h : 0 < (catC t).length) : (catC t)[0] = .s (.int .u64 t.id) := _root_.id rfl
@[simp] theorem catC_g1 (t : Cat) (h : 1 < (catC t).length) : (catC t)[1] = .s (.int .i64 t.level) := _root_.id rfl
@[simp] theorem catC_d0 (t : Cat) : ((catC t).drop 0)[0]? = some (.s (.int .u64 t.id)) := _root_.id rfl
@[simp] theorem catC_d1 (t : Cat) : ((catC t).drop 1)[0]? = some (.s (.int .i64 t.level)) := _root_.id rfl

structure Label where
  df : Int
  cats : List Cat
  deriving DecidableEq
def labelC (t : Label) : List A := [.s (.int .i64 t.df), mkF 2 (t.cats.map catC)]
@[simp] theorem labelC_len (t : Label) : (labelC t).length = 2 := _root_.id rfl
@[simp] theorem labelC_ne (t : Label) : (labelC t = []) = False := by simp [labelC]
@[simp] theorem labelC_ids (t : Label) : idsL (labelC t) = [] := _root_.id rfl
@[simp] theorem labelC_pure (t : Label) : pureL (labelC t) = true := by simp [labelC]
@[simp] theorem labelC_0 (t : Label) : (labelC t)[0]? = some (.s (.int .i64 t.df)) := _root_.id rfl
@[simp] theorem labelC_1 (t : Label) : (labelC t)[1]? = some (mkF 2 (t.cats.map catC)) := _root_.id rfl
@[simp] theorem labelC_at (t : Label) : cellsAt (some 2) (labelC t) 0 = some (.agg (labelC t)) := _root_.id rfl
@[simp] theorem labelC_g0 (t : Label) (h : 0 < (labelC t).length) : (labelC t)[0] = .s (.int .i64 t.df) := _root_.id rfl
@[simp] theorem labelC_g1 (t : Label) (h : 1 < (labelC t).length) : (labelC t)[1] = mkF 2 (t.cats.map catC) := _root_.id rfl
@[simp] theorem labelC_d0 (t : Label) : ((labelC t).drop 0)[0]? = some (.s (.int .i64 t.df)) := _root_.id rfl
@[simp] theorem labelC_d1 (t : Label) : ((labelC t).drop 1)[0]? = some (mkF 2 (t.cats.map catC)) := _root_.id rfl

structure Link where
  id : Int
  quota : Int
  deriving DecidableEq
def linkC (t : Link) : List A := [.s (.int .u64 t.id), .s (.int .i64 t.quota)]
@[simp] theorem linkC_len (t : Link) : (linkC t).length = 2 := _root_.id rfl
@[simp] theorem linkC_ne (t : Link) : (linkC t = []) = False := by simp [linkC]
@[simp] theorem linkC_ids (t : Link) : idsL (linkC t) = [] := _root_.id rfl
@[simp] theorem linkC_pure (t : Link) : pureL (linkC t) = true := by simp [linkC]
@[simp] theorem linkC_0 (t : Link) : (linkC t)[0]? = some (.s (.int .u64 t.id)) := _root_.id rfl
@[simp] theorem linkC_1 (t : Link) : (linkC t)[1]? = some (.s (.int .i64 t.quota)) := _root_.id rfl
@[simp] theorem linkC_at (t : Link) : cellsAt (some 2) (linkC t) 0 = some (.agg (linkC t)) := _root_.id rfl
@[simp] theorem linkC_g0 (t : Link) (h : 0 < (linkC t).length) : (linkC t)[0] = .s (.int .u64 t.id) := _root_.id rfl
@[simp] theorem linkC_g1 (t : Link) (h : 1 < (linkC t).length) : (linkC t)[1] = .s (.int .i64 t.quota) := _root_.id rfl
@[simp] theorem linkC_d0 (t : Link) : ((linkC t).drop 0)[0]? = some (.s (.int .u64 t.id)) := _root_.id rfl
@[simp] theorem linkC_d1 (t : Link) : ((linkC t).drop 1)[0]? = some (.s (.int .i64 t.quota)) := _root_.id rfl

structure Slot where
  dir : Int
  seg : Int
  deriving DecidableEq
def slotC (t : Slot) : List A := [.s (.int .u64 t.dir), .s (.int .u64 t.seg)]
@[simp] theorem slotC_len (t : Slot) : (slotC t).length = 2 := _root_.id rfl
@[simp] theorem slotC_ne (t : Slot) : (slotC t = []) = False := by simp [slotC]
@[simp] theorem slotC_ids (t : Slot) : idsL (slotC t) = [] := _root_.id rfl
@[simp] theorem slotC_pure (t : Slot) : pureL (slotC t) = true := by simp [slotC]
@[simp] theorem slotC_0 (t : Slot) : (slotC t)[0]? = some (.s (.int .u64 t.dir)) := _root_.id rfl
@[simp] theorem slotC_1 (t : Slot) : (slotC t)[1]? = some (.s (.int .u64 t.seg)) := _root_.id rfl
@[simp] theorem slotC_at (t : Slot) : cellsAt (some 2) (slotC t) 0 = some (.agg (slotC t)) := _root_.id rfl
@[simp] theorem slotC_g0 (t : Slot) (h : 0 < (slotC t).length) : (slotC t)[0] = .s (.int .u64 t.dir) := _root_.id rfl
@[simp] theorem slotC_g1 (t : Slot) (h : 1 < (slotC t).length) : (slotC t)[1] = .s (.int .u64 t.seg) := _root_.id rfl
@[simp] theorem slotC_d0 (t : Slot) : ((slotC t).drop 0)[0]? = some (.s (.int .u64 t.dir)) := _root_.id rfl
@[simp] theorem slotC_d1 (t : Slot) : ((slotC t).drop 1)[0]? = some (.s (.int .u64 t.seg)) := _root_.id rfl

structure Extent where
  start : Int
  len : Int
  deriving DecidableEq
def extentC (t : Extent) : List A := [.s (.int .i64 t.start), .s (.int .i64 t.len)]
@[simp] theorem extentC_len (t : Extent) : (extentC t).length = 2 := _root_.id rfl
@[simp] theorem extentC_ne (t : Extent) : (extentC t = []) = False := by simp [extentC]
@[simp] theorem extentC_ids (t : Extent) : idsL (extentC t) = [] := _root_.id rfl
@[simp] theorem extentC_pure (t : Extent) : pureL (extentC t) = true := by simp [extentC]
@[simp] theorem extentC_0 (t : Extent) : (extentC t)[0]? = some (.s (.int .i64 t.start)) := _root_.id rfl
@[simp] theorem extentC_1 (t : Extent) : (extentC t)[1]? = some (.s (.int .i64 t.len)) := _root_.id rfl
@[simp] theorem extentC_at (t : Extent) : cellsAt (some 2) (extentC t) 0 = some (.agg (extentC t)) := _root_.id rfl
@[simp] theorem extentC_g0 (t : Extent) (h : 0 < (extentC t).length) : (extentC t)[0] = .s (.int .i64 t.start) := _root_.id rfl
@[simp] theorem extentC_g1 (t : Extent) (h : 1 < (extentC t).length) : (extentC t)[1] = .s (.int .i64 t.len) := _root_.id rfl
@[simp] theorem extentC_d0 (t : Extent) : ((extentC t).drop 0)[0]? = some (.s (.int .i64 t.start)) := _root_.id rfl
@[simp] theorem extentC_d1 (t : Extent) : ((extentC t).drop 1)[0]? = some (.s (.int .i64 t.len)) := _root_.id rfl

structure Thing where
  id : Int
  kind : Int
  label : Label
  clear : Label
  quota : Int
  next : Int
  links : List Link
  data : List Int
  r0 : Int
  r1 : Int
  r2 : Int
  r3 : Int
  minted : Int
  boot : Int
  halted : Bool
  value : Int
  s0 : Slot
  s1 : Slot
  s2 : Slot
  s3 : Slot
  deriving DecidableEq
def thingC (t : Thing) : List A := [.s (.int .u64 t.id), .s (.int .i64 t.kind), .s (.int .i64 t.label.df), mkF 2 (t.label.cats.map catC), .s (.int .i64 t.clear.df), mkF 2 (t.clear.cats.map catC), .s (.int .i64 t.quota), .s (.int .i64 t.next), mkF 2 (t.links.map linkC), mkF 1 (t.data.map (cellC .u8)), .s (.int .u64 t.r0), .s (.int .u64 t.r1), .s (.int .u64 t.r2), .s (.int .u64 t.r3), .s (.int .i64 t.minted), .s (.int .i64 t.boot), .s (.bool t.halted), .s (.int .u64 t.value), .s (.int .u64 t.s0.dir), .s (.int .u64 t.s0.seg), .s (.int .u64 t.s1.dir), .s (.int .u64 t.s1.seg), .s (.int .u64 t.s2.dir), .s (.int .u64 t.s2.seg), .s (.int .u64 t.s3.dir), .s (.int .u64 t.s3.seg)]
@[simp] theorem thingC_len (t : Thing) : (thingC t).length = 26 := _root_.id rfl
@[simp] theorem thingC_ne (t : Thing) : (thingC t = []) = False := by simp [thingC]
@[simp] theorem thingC_ids (t : Thing) : idsL (thingC t) = [] := _root_.id rfl
@[simp] theorem thingC_pure (t : Thing) : pureL (thingC t) = true := by simp [thingC]
@[simp] theorem thingC_0 (t : Thing) : (thingC t)[0]? = some (.s (.int .u64 t.id)) := _root_.id rfl
@[simp] theorem thingC_1 (t : Thing) : (thingC t)[1]? = some (.s (.int .i64 t.kind)) := _root_.id rfl
@[simp] theorem thingC_2 (t : Thing) : (thingC t)[2]? = some (.s (.int .i64 t.label.df)) := _root_.id rfl
@[simp] theorem thingC_3 (t : Thing) : (thingC t)[3]? = some (mkF 2 (t.label.cats.map catC)) := _root_.id rfl
@[simp] theorem thingC_4 (t : Thing) : (thingC t)[4]? = some (.s (.int .i64 t.clear.df)) := _root_.id rfl
@[simp] theorem thingC_5 (t : Thing) : (thingC t)[5]? = some (mkF 2 (t.clear.cats.map catC)) := _root_.id rfl
@[simp] theorem thingC_6 (t : Thing) : (thingC t)[6]? = some (.s (.int .i64 t.quota)) := _root_.id rfl
@[simp] theorem thingC_7 (t : Thing) : (thingC t)[7]? = some (.s (.int .i64 t.next)) := _root_.id rfl
@[simp] theorem thingC_8 (t : Thing) : (thingC t)[8]? = some (mkF 2 (t.links.map linkC)) := _root_.id rfl
@[simp] theorem thingC_9 (t : Thing) : (thingC t)[9]? = some (mkF 1 (t.data.map (cellC .u8))) := _root_.id rfl
@[simp] theorem thingC_10 (t : Thing) : (thingC t)[10]? = some (.s (.int .u64 t.r0)) := _root_.id rfl
@[simp] theorem thingC_11 (t : Thing) : (thingC t)[11]? = some (.s (.int .u64 t.r1)) := _root_.id rfl
@[simp] theorem thingC_12 (t : Thing) : (thingC t)[12]? = some (.s (.int .u64 t.r2)) := _root_.id rfl
@[simp] theorem thingC_13 (t : Thing) : (thingC t)[13]? = some (.s (.int .u64 t.r3)) := _root_.id rfl
@[simp] theorem thingC_14 (t : Thing) : (thingC t)[14]? = some (.s (.int .i64 t.minted)) := _root_.id rfl
@[simp] theorem thingC_15 (t : Thing) : (thingC t)[15]? = some (.s (.int .i64 t.boot)) := _root_.id rfl
@[simp] theorem thingC_16 (t : Thing) : (thingC t)[16]? = some (.s (.bool t.halted)) := _root_.id rfl
@[simp] theorem thingC_17 (t : Thing) : (thingC t)[17]? = some (.s (.int .u64 t.value)) := _root_.id rfl
@[simp] theorem thingC_18 (t : Thing) : (thingC t)[18]? = some (.s (.int .u64 t.s0.dir)) := _root_.id rfl
@[simp] theorem thingC_19 (t : Thing) : (thingC t)[19]? = some (.s (.int .u64 t.s0.seg)) := _root_.id rfl
@[simp] theorem thingC_20 (t : Thing) : (thingC t)[20]? = some (.s (.int .u64 t.s1.dir)) := _root_.id rfl
@[simp] theorem thingC_21 (t : Thing) : (thingC t)[21]? = some (.s (.int .u64 t.s1.seg)) := _root_.id rfl
@[simp] theorem thingC_22 (t : Thing) : (thingC t)[22]? = some (.s (.int .u64 t.s2.dir)) := _root_.id rfl
@[simp] theorem thingC_23 (t : Thing) : (thingC t)[23]? = some (.s (.int .u64 t.s2.seg)) := _root_.id rfl
@[simp] theorem thingC_24 (t : Thing) : (thingC t)[24]? = some (.s (.int .u64 t.s3.dir)) := _root_.id rfl
@[simp] theorem thingC_25 (t : Thing) : (thingC t)[25]? = some (.s (.int .u64 t.s3.seg)) := _root_.id rfl
@[simp] theorem thingC_at (t : Thing) : cellsAt (some 26) (thingC t) 0 = some (.agg (thingC t)) := _root_.id rfl
@[simp] theorem thingC_label (t : Thing) : cellsAt (some 2) (thingC t) 2 = some (.agg (labelC t.label)) := _root_.id rfl
@[simp] theorem thingC_label_d (t : Thing) : cellsAt (some 2) ((thingC t).drop 2) 0 = some (.agg (labelC t.label)) := _root_.id rfl
@[simp] theorem thingC_clear (t : Thing) : cellsAt (some 2) (thingC t) 4 = some (.agg (labelC t.clear)) := _root_.id rfl
@[simp] theorem thingC_clear_d (t : Thing) : cellsAt (some 2) ((thingC t).drop 4) 0 = some (.agg (labelC t.clear)) := _root_.id rfl
@[simp] theorem thingC_s0 (t : Thing) : cellsAt (some 2) (thingC t) 18 = some (.agg (slotC t.s0)) := _root_.id rfl
@[simp] theorem thingC_s0_d (t : Thing) : cellsAt (some 2) ((thingC t).drop 18) 0 = some (.agg (slotC t.s0)) := _root_.id rfl
@[simp] theorem thingC_s1 (t : Thing) : cellsAt (some 2) (thingC t) 20 = some (.agg (slotC t.s1)) := _root_.id rfl
@[simp] theorem thingC_s1_d (t : Thing) : cellsAt (some 2) ((thingC t).drop 20) 0 = some (.agg (slotC t.s1)) := _root_.id rfl
@[simp] theorem thingC_s2 (t : Thing) : cellsAt (some 2) (thingC t) 22 = some (.agg (slotC t.s2)) := _root_.id rfl
@[simp] theorem thingC_s2_d (t : Thing) : cellsAt (some 2) ((thingC t).drop 22) 0 = some (.agg (slotC t.s2)) := _root_.id rfl
@[simp] theorem thingC_s3 (t : Thing) : cellsAt (some 2) (thingC t) 24 = some (.agg (slotC t.s3)) := _root_.id rfl
@[simp] theorem thingC_s3_d (t : Thing) : cellsAt (some 2) ((thingC t).drop 24) 0 = some (.agg (slotC t.s3)) := _root_.id rfl
def thingC_regsC (t : Thing) : List A := [.s (.int .u64 t.r0), .s (.int .u64 t.r1), .s (.int .u64 t.r2), .s (.int .u64 t.r3)]
@[simp] theorem thingC_regs (t : Thing) : cellsAt (some 4) (thingC t) 10 = some (.agg (thingC_regsC t)) := _root_.id rfl
def thingC_slotsC (t : Thing) : List A := slotC t.s0 ++ slotC t.s1 ++ slotC t.s2 ++ slotC t.s3
@[simp] theorem thingC_slots (t : Thing) : cellsAt (some 8) (thingC t) 18 = some (.agg (thingC_slotsC t)) := _root_.id rfl
@[simp] theorem thingC_g0 (t : Thing) (h : 0 < (thingC t).length) : (thingC t)[0] = .s (.int .u64 t.id) := _root_.id rfl
@[simp] theorem thingC_g1 (t : Thing) (h : 1 < (thingC t).length) : (thingC t)[1] = .s (.int .i64 t.kind) := _root_.id rfl
@[simp] theorem thingC_g2 (t : Thing) (h : 2 < (thingC t).length) : (thingC t)[2] = .s (.int .i64 t.label.df) := _root_.id rfl
@[simp] theorem thingC_g3 (t : Thing) (h : 3 < (thingC t).length) : (thingC t)[3] = mkF 2 (t.label.cats.map catC) := _root_.id rfl
@[simp] theorem thingC_g4 (t : Thing) (h : 4 < (thingC t).length) : (thingC t)[4] = .s (.int .i64 t.clear.df) := _root_.id rfl
@[simp] theorem thingC_g5 (t : Thing) (h : 5 < (thingC t).length) : (thingC t)[5] = mkF 2 (t.clear.cats.map catC) := _root_.id rfl
@[simp] theorem thingC_g6 (t : Thing) (h : 6 < (thingC t).length) : (thingC t)[6] = .s (.int .i64 t.quota) := _root_.id rfl
@[simp] theorem thingC_g7 (t : Thing) (h : 7 < (thingC t).length) : (thingC t)[7] = .s (.int .i64 t.next) := _root_.id rfl
@[simp] theorem thingC_g8 (t : Thing) (h : 8 < (thingC t).length) : (thingC t)[8] = mkF 2 (t.links.map linkC) := _root_.id rfl
@[simp] theorem thingC_g9 (t : Thing) (h : 9 < (thingC t).length) : (thingC t)[9] = mkF 1 (t.data.map (cellC .u8)) := _root_.id rfl
@[simp] theorem thingC_g10 (t : Thing) (h : 10 < (thingC t).length) : (thingC t)[10] = .s (.int .u64 t.r0) := _root_.id rfl
@[simp] theorem thingC_g11 (t : Thing) (h : 11 < (thingC t).length) : (thingC t)[11] = .s (.int .u64 t.r1) := _root_.id rfl
@[simp] theorem thingC_g12 (t : Thing) (h : 12 < (thingC t).length) : (thingC t)[12] = .s (.int .u64 t.r2) := _root_.id rfl
@[simp] theorem thingC_g13 (t : Thing) (h : 13 < (thingC t).length) : (thingC t)[13] = .s (.int .u64 t.r3) := _root_.id rfl
@[simp] theorem thingC_g14 (t : Thing) (h : 14 < (thingC t).length) : (thingC t)[14] = .s (.int .i64 t.minted) := _root_.id rfl
@[simp] theorem thingC_g15 (t : Thing) (h : 15 < (thingC t).length) : (thingC t)[15] = .s (.int .i64 t.boot) := _root_.id rfl
@[simp] theorem thingC_g16 (t : Thing) (h : 16 < (thingC t).length) : (thingC t)[16] = .s (.bool t.halted) := _root_.id rfl
@[simp] theorem thingC_g17 (t : Thing) (h : 17 < (thingC t).length) : (thingC t)[17] = .s (.int .u64 t.value) := _root_.id rfl
@[simp] theorem thingC_g18 (t : Thing) (h : 18 < (thingC t).length) : (thingC t)[18] = .s (.int .u64 t.s0.dir) := _root_.id rfl
@[simp] theorem thingC_g19 (t : Thing) (h : 19 < (thingC t).length) : (thingC t)[19] = .s (.int .u64 t.s0.seg) := _root_.id rfl
@[simp] theorem thingC_g20 (t : Thing) (h : 20 < (thingC t).length) : (thingC t)[20] = .s (.int .u64 t.s1.dir) := _root_.id rfl
@[simp] theorem thingC_g21 (t : Thing) (h : 21 < (thingC t).length) : (thingC t)[21] = .s (.int .u64 t.s1.seg) := _root_.id rfl
@[simp] theorem thingC_g22 (t : Thing) (h : 22 < (thingC t).length) : (thingC t)[22] = .s (.int .u64 t.s2.dir) := _root_.id rfl
@[simp] theorem thingC_g23 (t : Thing) (h : 23 < (thingC t).length) : (thingC t)[23] = .s (.int .u64 t.s2.seg) := _root_.id rfl
@[simp] theorem thingC_g24 (t : Thing) (h : 24 < (thingC t).length) : (thingC t)[24] = .s (.int .u64 t.s3.dir) := _root_.id rfl
@[simp] theorem thingC_g25 (t : Thing) (h : 25 < (thingC t).length) : (thingC t)[25] = .s (.int .u64 t.s3.seg) := _root_.id rfl
@[simp] theorem thingC_d0 (t : Thing) : ((thingC t).drop 0)[0]? = some (.s (.int .u64 t.id)) := _root_.id rfl
@[simp] theorem thingC_d1 (t : Thing) : ((thingC t).drop 1)[0]? = some (.s (.int .i64 t.kind)) := _root_.id rfl
@[simp] theorem thingC_d2 (t : Thing) : ((thingC t).drop 2)[0]? = some (.s (.int .i64 t.label.df)) := _root_.id rfl
@[simp] theorem thingC_d3 (t : Thing) : ((thingC t).drop 3)[0]? = some (mkF 2 (t.label.cats.map catC)) := _root_.id rfl
@[simp] theorem thingC_d4 (t : Thing) : ((thingC t).drop 4)[0]? = some (.s (.int .i64 t.clear.df)) := _root_.id rfl
@[simp] theorem thingC_d5 (t : Thing) : ((thingC t).drop 5)[0]? = some (mkF 2 (t.clear.cats.map catC)) := _root_.id rfl
@[simp] theorem thingC_d6 (t : Thing) : ((thingC t).drop 6)[0]? = some (.s (.int .i64 t.quota)) := _root_.id rfl
@[simp] theorem thingC_d7 (t : Thing) : ((thingC t).drop 7)[0]? = some (.s (.int .i64 t.next)) := _root_.id rfl
@[simp] theorem thingC_d8 (t : Thing) : ((thingC t).drop 8)[0]? = some (mkF 2 (t.links.map linkC)) := _root_.id rfl
@[simp] theorem thingC_d9 (t : Thing) : ((thingC t).drop 9)[0]? = some (mkF 1 (t.data.map (cellC .u8))) := _root_.id rfl
@[simp] theorem thingC_d10 (t : Thing) : ((thingC t).drop 10)[0]? = some (.s (.int .u64 t.r0)) := _root_.id rfl
@[simp] theorem thingC_d11 (t : Thing) : ((thingC t).drop 11)[0]? = some (.s (.int .u64 t.r1)) := _root_.id rfl
@[simp] theorem thingC_d12 (t : Thing) : ((thingC t).drop 12)[0]? = some (.s (.int .u64 t.r2)) := _root_.id rfl
@[simp] theorem thingC_d13 (t : Thing) : ((thingC t).drop 13)[0]? = some (.s (.int .u64 t.r3)) := _root_.id rfl
@[simp] theorem thingC_d14 (t : Thing) : ((thingC t).drop 14)[0]? = some (.s (.int .i64 t.minted)) := _root_.id rfl
@[simp] theorem thingC_d15 (t : Thing) : ((thingC t).drop 15)[0]? = some (.s (.int .i64 t.boot)) := _root_.id rfl
@[simp] theorem thingC_d16 (t : Thing) : ((thingC t).drop 16)[0]? = some (.s (.bool t.halted)) := _root_.id rfl
@[simp] theorem thingC_d17 (t : Thing) : ((thingC t).drop 17)[0]? = some (.s (.int .u64 t.value)) := _root_.id rfl
@[simp] theorem thingC_d18 (t : Thing) : ((thingC t).drop 18)[0]? = some (.s (.int .u64 t.s0.dir)) := _root_.id rfl
@[simp] theorem thingC_d19 (t : Thing) : ((thingC t).drop 19)[0]? = some (.s (.int .u64 t.s0.seg)) := _root_.id rfl
@[simp] theorem thingC_d20 (t : Thing) : ((thingC t).drop 20)[0]? = some (.s (.int .u64 t.s1.dir)) := _root_.id rfl
@[simp] theorem thingC_d21 (t : Thing) : ((thingC t).drop 21)[0]? = some (.s (.int .u64 t.s1.seg)) := _root_.id rfl
@[simp] theorem thingC_d22 (t : Thing) : ((thingC t).drop 22)[0]? = some (.s (.int .u64 t.s2.dir)) := _root_.id rfl
@[simp] theorem thingC_d23 (t : Thing) : ((thingC t).drop 23)[0]? = some (.s (.int .u64 t.s2.seg)) := _root_.id rfl
@[simp] theorem thingC_d24 (t : Thing) : ((thingC t).drop 24)[0]? = some (.s (.int .u64 t.s3.dir)) := _root_.id rfl
@[simp] theorem thingC_d25 (t : Thing) : ((thingC t).drop 25)[0]? = some (.s (.int .u64 t.s3.seg)) := _root_.id rfl

end Go.Ab.T

/-
  LOOPS BY INVARIANTS.
-/
set_option linter.unusedSimpArgs false
set_option linter.unusedVariables false
namespace Go.Ab
open Go

theorem iter_inv {τ ρ : Type} {step : τ → Option (τ ⊕ ρ)} {I : Nat → τ → Prop} {Q : ρ → Prop} (n : Nat)
    (hin : ∀ i s, i < n → I i s → (∃ s', step s = some (.inl s') ∧ I (i + 1) s') ∨ (∃ q, step s = some (.inr q) ∧ Q q))
    (hout : ∀ s, I n s → ∃ q, step s = some (.inr q) ∧ Q q) :
    ∀ (d i m : Nat) (s : τ), i + d = n → d < m → I i s → ∃ q, iterN step m s = some q ∧ Q q := by
  intro d
  induction d with
  | zero =>
    intro i m s hi hm hI
    obtain ⟨m, rfl⟩ : ∃ k, m = k + 1 := ⟨m - 1, by omega⟩
    obtain rfl : i = n := by omega
    obtain ⟨q, hq, h⟩ := hout s hI
    exact ⟨q, by simp [iterN, hq], h⟩
  | succ d ih =>
    intro i m s hi hm hI
    obtain ⟨m, rfl⟩ : ∃ k, m = k + 1 := ⟨m - 1, by omega⟩
    rcases hin i s (by omega) hI with ⟨s', h1, h2⟩ | ⟨q, h1, h2⟩
    · obtain ⟨q, hq, h⟩ := ih (i + 1) m s' (by omega) (by omega) h2
      exact ⟨q, by simp [iterN, h1, hq], h⟩
    · exact ⟨q, by simp [iterN, h1], h2⟩

/-- The law of a loop of at most n rounds, by an invariant. -/
theorem oLoop_inv {β : Type} {step : List A × Heap → Option ((List A × Heap) ⊕ (Ex × List A × Heap))} {s0 : List A × Heap} {k : Ex → List A → Heap → Option β}
    (I : Nat → List A × Heap → Prop) (Q : Ex × List A × Heap → Prop) (n : Nat) (h0 : I 0 s0) (hn : n < 2 ^ 63)
    (hin : ∀ i s, i < n → I i s → (∃ s', step s = some (.inl s') ∧ I (i + 1) s') ∨ (∃ q, step s = some (.inr q) ∧ Q q))
    (hout : ∀ s, I n s → ∃ q, step s = some (.inr q) ∧ Q q) :
    ∃ q, Q q ∧ oLoop step s0 k = k q.1 q.2.1 q.2.2 := by
  obtain ⟨q, hq, h⟩ := iter_inv n hin hout n 0 big s0 (by omega) (by rw [big_eq]; omega) h0
  exact ⟨q, h, by unfold oLoop; rw [hq]⟩
theorem oLoop_inv' {step : List A × Heap → Option ((List A × Heap) ⊕ (Ex × List A × Heap))} {s0 : List A × Heap}
    (I : Nat → List A × Heap → Prop) (Q : Ex × List A × Heap → Prop) (n : Nat) (h0 : I 0 s0) (hn : n < 2 ^ 63)
    (hin : ∀ i s, i < n → I i s → (∃ s', step s = some (.inl s') ∧ I (i + 1) s') ∨ (∃ q, step s = some (.inr q) ∧ Q q))
    (hout : ∀ s, I n s → ∃ q, step s = some (.inr q) ∧ Q q) :
    ∃ q, Q q ∧ ∀ {β : Type} (k : Ex → List A → Heap → Option β), oLoop step s0 k = k q.1 q.2.1 q.2.2 := by
  obtain ⟨q, hq, h⟩ := iter_inv n hin hout n 0 big s0 (by omega) (by rw [big_eq]; omega) h0
  exact ⟨q, h, fun k => by unfold oLoop; rw [hq]⟩

theorem wrap_u64 {n : Int} (h0 : 0 ≤ n) (h1 : n < 18446744073709551616) : IntKind.u64.wrap n = n := by
  have key : IntKind.u64.wrap n = n % 18446744073709551616 := by
    simp [IntKind.wrap, IntKind.bits, IntKind.signed]
  rw [key]; omega
/-- A join of two bare truths. -/
@[simp] theorem ite_normal (c : Prop) [Decidable c] (x y : Bool) (h : Heap) :
    (if c then some (Ex.normal, [A.s (.bool x)], h) else some (Ex.normal, [A.s (.bool y)], h)) = some (Ex.normal, [A.s (.bool (if c then x else y))], h) := by split <;> rfl
@[simp] theorem notSlice_int (kd : IntKind) (n : Int) : notSlice (.int kd n) = true := _root_.id rfl
@[simp] theorem notSlice_bool (b : Bool) : notSlice (.bool b) = true := _root_.id rfl
@[simp] theorem notSlice_string (b : ByteArray) : notSlice (.string b) = true := _root_.id rfl
@[simp] theorem notSlice_ptr : notSlice (.pointer none) = true := _root_.id rfl
@[simp] theorem pureA_s (v : Value) : pureA (.s v) = notSlice v := _root_.id rfl
@[simp] theorem oFrz_pure' (a : A) (h : Heap) {β : Type} (k : A → Heap → Option β) (hp : pureA a = true) : oFrz a h k = k a h := oFrz_pure a h k hp
end Go.Ab

/-
  SEARCHING: the generic functions of slices.
-/
set_option linter.unusedSimpArgs false
set_option linter.unusedVariables false
namespace Go.Ab
open Go

@[simp] theorem oShift_shr (kx ky : IntKind) (a b : Int) {β : Type} (k : A → Option β) : oShift .shr (.s (.int kx a)) (.s (.int ky b)) k = if 0 ≤ b then k (.int kx (a.fdiv (2 ^ min b.toNat kx.bits))) else none := _root_.id rfl
@[simp] theorem oShift_shl (kx ky : IntKind) (a b : Int) {β : Type} (k : A → Option β) : oShift .shl (.s (.int kx a)) (.s (.int ky b)) k = if 0 ≤ b then k (.int kx (kx.wrap (a * 2 ^ min b.toNat kx.bits))) else none := _root_.id rfl

/-- A slice's elements, as what is loaded of one. -/
structure Elems (α : Type) where
  sz : Nat
  ld : Option Nat
  enc : α → List A
  val : α → A
  at0 : ∀ x, cellsAt ld (enc x) 0 = some (val x)
  pure : ∀ x, pureA (val x) = true
  ids : ∀ x, idsA (val x) = []

def gSearch (sz : Nat) (ld : Option Nat) (En : String → CallFn) : CallFn := fun args objs =>
  match args with
  | [a0, a1, a2] =>
    oLen a0 fun x1 =>
      oLoop (fun s2 =>
      oCmp .lss (s2.1.getD 0 .any) (s2.1.getD 1 .any) fun x3 =>
      oCond x3 (oAr .add (s2.1.getD 0 .any) (s2.1.getD 1 .any) fun x4 =>
      oConv .u64 x4 fun x5 =>
      oShift .shr x5 (.s (.int .u64 1)) fun x6 =>
      oConv .i64 x6 fun x7 =>
      oIdxA sz a0 x7 fun x8 =>
      oLoad ld x8 s2.2 fun x9 =>
      oLendV En a2 [x9, a1] s2.2 (fun v12 h13 => some (.inr (Ex.panic v12, [.any], h13))) fun w16 h17 => oFrz w16 h17 fun x10 h11 =>
      oCmp .lss x10 (.s (.int .i64 0)) fun x14 =>
      oCond x14 (oAr .add x7 (.s (.int .i64 1)) fun x15 =>
      (trim true objs.length [x15, (s2.1.getD 1 .any)] h11).map .inl)
      ((trim true objs.length [(s2.1.getD 0 .any), x7] h11).map .inl))
      ((trim true objs.length [(s2.1.getD 0 .any)] s2.2).map fun p => .inr (Ex.exit 0, p.1, p.2))) ([(.s (.int .i64 0)), x1], objs) fun e18 vs19 h20 =>
      (match e18 with
    | .normal => none
    | .exit i21 => if i21 = 0 then oCmp .lss (vs19.getD 0 .any) x1 fun x23 =>
      oGuard x23 true (fun _ => oIdxA sz a0 (vs19.getD 0 .any) fun x24 =>
      oLoad ld x24 h20 fun x25 =>
      oLendV En a2 [x25, a1] h20 (fun v28 h29 => finish objs.length (.pan v28) h29) fun w31 h32 => oFrz w31 h32 fun x26 h27 =>
      oCmp .eql x26 (.s (.int .i64 0)) fun x30 =>
      finish objs.length (.ok (.tup [(vs19.getD 0 .any), x30])) h27)
      (fun _ => finish objs.length (.ok (.tup [(vs19.getD 0 .any), (.s (.bool false))])) h20) else none
    | .ret => finish objs.length (.ok (.tup [(.s (.int .i64 0)), (.s (.bool false))])) h20
    | .panic v22 => finish objs.length (.pan v22) h20)
  | _ => none

theorem mid_eq {lo hi : Nat} (h : lo < hi) (hn : hi < 2 ^ 63) :
    IntKind.i64.wrap ((IntKind.u64.wrap (IntKind.i64.wrap ((lo : Int) + hi))).fdiv (2 ^ min (1 : Int).toNat IntKind.u64.bits)) = (((lo + hi) / 2 : Nat) : Int) := by
  have e1 : (2 ^ min (1 : Int).toNat IntKind.u64.bits : Int) = 2 := by decide
  rw [e1]
  have key : IntKind.u64.wrap (IntKind.i64.wrap ((lo : Int) + hi)) = (lo : Int) + hi := by
    have a : ∀ n : Int, IntKind.u64.wrap n = n % 18446744073709551616 := fun n => by simp [IntKind.wrap, IntKind.bits, IntKind.signed]
    have b : ∀ n : Int, IntKind.i64.wrap n = (let m := n % 18446744073709551616; if m ≥ 9223372036854775808 then m - 18446744073709551616 else m) := fun n => by
      simp [IntKind.wrap, IntKind.bits, IntKind.signed]
    rw [a, b]
    dsimp only
    split <;> omega
  rw [key, Int.fdiv_eq_ediv_of_nonneg _ (by omega), wrap64_id (by omega) (by omega)]
  omega

/-- The binary search finds the place. -/
theorem gSearch_v {α : Type} (E : Elems α) (En : String → CallFn) (name : String) (caps : List A) (tgt : A) (c : α → Int) (xs : List α) (p : Nat)
    (hp : pureL caps = true) (hpi : idsL caps = []) (ht : pureA tgt = true) (hti : idsA tgt = [])
    (hc : ∀ x, x ∈ xs → En name ([E.val x, tgt] ++ caps) [] = some (.ok (.s (.int .i64 (c x))), []))
    (hlen : xs.length < 2 ^ 63) (hpn : p ≤ xs.length)
    (hlt : ∀ i x, xs[i]? = some x → (c x < 0 ↔ i < p)) :
    gSearch E.sz E.ld En [mkF E.sz (xs.map E.enc), tgt, .fn name caps] [] =
      some (.ok (.tup [.s (.int .i64 p), .s (.bool (xs[p]?.any fun x => decide (c x = 0)))]), []) := by
  have hcall : ∀ (β : Type) x (h : Heap) (kp k : A → Heap → Option β), x ∈ xs → oLend (En name) ([E.val x, tgt] ++ caps) h kp k = k (.s (.int .i64 (c x))) h := fun β x h kp k hx =>
    oLend_val _ _ _ _ _ _ (by simp [pureL, E.pure, ht, hp]) (by simp) (hc x hx)
  simp only [gSearch, oLen_mkF, List.length_map, List.length_nil]
  obtain ⟨q, hQ, hq⟩ := oLoop_inv (β := Out × Heap)
    (step := fun s2 =>
      oCmp .lss (s2.1.getD 0 .any) (s2.1.getD 1 .any) fun x3 =>
      oCond x3 (oAr .add (s2.1.getD 0 .any) (s2.1.getD 1 .any) fun x4 =>
      oConv .u64 x4 fun x5 =>
      oShift .shr x5 (.s (.int .u64 1)) fun x6 =>
      oConv .i64 x6 fun x7 =>
      oIdxA E.sz (mkF E.sz (xs.map E.enc)) x7 fun x8 =>
      oLoad E.ld x8 s2.2 fun x9 =>
      oLendV En (.fn name caps) [x9, tgt] s2.2 (fun v12 h13 => some (.inr (Ex.panic v12, [.any], h13))) fun w16 h17 => oFrz w16 h17 fun x10 h11 =>
      oCmp .lss x10 (.s (.int .i64 0)) fun x14 =>
      oCond x14 (oAr .add x7 (.s (.int .i64 1)) fun x15 =>
      (trim true 0 [x15, (s2.1.getD 1 .any)] h11).map .inl)
      ((trim true 0 [(s2.1.getD 0 .any), x7] h11).map .inl))
      ((trim true 0 [(s2.1.getD 0 .any)] s2.2).map fun p => .inr (Ex.exit 0, p.1, p.2)))
    (s0 := ([(.s (.int .i64 0)), .s (.int .i64 xs.length)], []))
    (k := fun e18 vs19 h20 =>
      (match e18 with
    | .normal => none
    | .exit i21 => if i21 = 0 then oCmp .lss (vs19.getD 0 .any) (.s (.int .i64 xs.length)) fun x23 =>
      oGuard x23 true (fun _ => oIdxA E.sz (mkF E.sz (xs.map E.enc)) (vs19.getD 0 .any) fun x24 =>
      oLoad E.ld x24 h20 fun x25 =>
      oLendV En (.fn name caps) [x25, tgt] h20 (fun v28 h29 => finish 0 (.pan v28) h29) fun w31 h32 => oFrz w31 h32 fun x26 h27 =>
      oCmp .eql x26 (.s (.int .i64 0)) fun x30 =>
      finish 0 (.ok (.tup [(vs19.getD 0 .any), x30])) h27)
      (fun _ => finish 0 (.ok (.tup [(vs19.getD 0 .any), (.s (.bool false))])) h20) else none
    | .ret => finish 0 (.ok (.tup [(.s (.int .i64 0)), (.s (.bool false))])) h20
    | .panic v22 => finish 0 (.pan v22) h20))
    (fun i s => ∃ lo hi : Nat, s = ([.s (.int .i64 lo), .s (.int .i64 hi)], []) ∧ lo ≤ p ∧ p ≤ hi ∧ hi ≤ xs.length ∧ hi - lo ≤ xs.length - i)
    (fun q => q = (Ex.exit 0, [.s (.int .i64 p)], [])) xs.length
    ⟨0, xs.length, rfl, by omega, hpn, by omega, by omega⟩ hlen
    (by
      rintro i s hi ⟨lo, hi', rfl, h1, h2, h3, h4⟩
      by_cases hlh : lo < hi'
      · left
        have hm := mid_eq hlh (by omega)
        have hx : (lo + hi') / 2 < xs.length := by omega
        have hxs : xs[(lo + hi') / 2]? = some xs[(lo + hi') / 2] := by simp [hx]
        have hmem : xs[(lo + hi') / 2] ∈ xs := List.getElem_mem hx
        have hl := hlt _ _ hxs
        have hw : IntKind.i64.wrap ((((lo + hi') / 2 : Nat) : Int) + 1) = (((lo + hi') / 2 + 1 : Nat) : Int) := wrap_succ hx hlen
        have hcc : ∀ (β : Type) (h : Heap) (kp k : A → Heap → Option β), oLend (En name) (E.val xs[(lo + hi') / 2] :: tgt :: caps) h kp k = k (.s (.int .i64 (c xs[(lo + hi') / 2]))) h := fun β h kp k => hcall β _ h kp k hmem
        simp only [List.getD_cons_zero, List.getD_cons_succ, oCmp_s, cmpInt_lss, if_true, oCond_s, Int.ofNat_lt, hlh, decide_true, oAr_s, arInt_add, oConv_s, oShift_shr, Int.zero_le_ofNat, hm,
          show (0 : Int) ≤ 1 from by decide, oIdxA_mkF E.sz E.enc xs _ _ _ _ hxs, oLoad_cptr, E.at0, oLendV_fn, List.cons_append, List.nil_append, hcc, oFrz_int, hw]
        by_cases hneg : c xs[(lo + hi') / 2] < 0
        · refine ⟨([.s (.int .i64 ((lo + hi') / 2 + 1 : Nat)), .s (.int .i64 hi')], []), ?_, (lo + hi') / 2 + 1, hi', rfl, ?_, h2, h3, ?_⟩
          · simp [hneg, trim, allBelow]
          · have := hl.1 hneg; omega
          · omega
        · refine ⟨([.s (.int .i64 lo), .s (.int .i64 ((lo + hi') / 2 : Nat))], []), ?_, lo, (lo + hi') / 2, rfl, h1, ?_, ?_, ?_⟩
          · simp [hneg, trim, allBelow]
          · have := mt hl.2 hneg; omega
          · omega
          · omega
      · right
        refine ⟨_, ?_, rfl⟩
        have : lo = p := by omega
        subst this
        simp [hlh, trim, allBelow])
    (by
      rintro s ⟨lo, hi', rfl, h1, h2, h3, h4⟩
      have hlh : ¬ lo < hi' := by omega
      refine ⟨_, ?_, rfl⟩
      have : lo = p := by omega
      subst this
      simp [hlh, trim, allBelow])
  refine hq.trans ?_
  subst hQ
  simp only [if_true, List.getD_cons_zero, oCmp_s, cmpInt_lss, oGuard_s, Int.ofNat_lt]
  by_cases hpl : p < xs.length
  · have hxs : xs[p]? = some xs[p] := by simp [hpl]
    have hmem : xs[p] ∈ xs := List.getElem_mem hpl
    have hcc : ∀ (β : Type) (h : Heap) (kp k : A → Heap → Option β), oLend (En name) (E.val xs[p] :: tgt :: caps) h kp k = k (.s (.int .i64 (c xs[p]))) h := fun β h kp k => hcall β _ h kp k hmem
    simp only [hpl, decide_true, if_true, oIdxA_mkF E.sz E.enc xs _ _ _ _ hxs, oLoad_cptr, E.at0, oLendV_fn, List.cons_append, List.nil_append, hcc, oFrz_int, oCmp_s, cmpInt_eql, hxs, Option.any_some]
    exact finish_val _ _ (by simp)
  · have hxs : xs[p]? = none := by simp; omega
    simp only [hpl, decide_false, Bool.false_eq_true, if_false, hxs, Option.any_none]
    exact finish_val _ _ (by simp)

def linkE : Elems T.Link := ⟨2, some 2, T.linkC, fun x => .agg (T.linkC x), T.linkC_at, fun x => by simp [pureA], fun x => by simp⟩
def thingE : Elems T.Thing := ⟨26, some 26, T.thingC, fun x => .agg (T.thingC x), T.thingC_at, fun x => by simp [pureA], fun x => by simp⟩
def idE : Elems Int := ⟨1, none, T.cellC .u64, fun x => .s (.int .u64 x), fun x => rfl, fun x => rfl, fun x => rfl⟩
def catE : Elems T.Cat := ⟨2, some 2, T.catC, fun x => .agg (T.catC x), T.catC_at, fun x => by simp [pureA], fun x => by simp⟩
end Go.Ab

/-
  OWNED SLICES THAT GROW.
-/
set_option linter.unusedSimpArgs false
set_option linter.unusedVariables false
namespace Go.Ab
open Go

/-- What H' keeps of H: all but one object. -/
def KeepBut (id : Nat) (H H' : Heap) : Prop := ∀ (i : Nat) (o : Slot), i ≠ id → H[i]? = some o → H'[i]? = some o
/-- What H' keeps of H: all. -/
def KeepAll (H H' : Heap) : Prop := ∀ (i : Nat) (o : Slot), H[i]? = some o → H'[i]? = some o
theorem KeepAll.append (H r : Heap) : KeepAll H (H ++ r) := fun i o h => by
  have hi : i < H.length := by
    rcases Nat.lt_or_ge i H.length with h' | h'
    · exact h'
    · rw [List.getElem?_eq_none h'] at h; exact absurd h (by simp)
  rw [List.getElem?_append_left hi]; exact h
theorem at_end (H : Heap) (s : Slot) : (H ++ [s])[H.length]? = some s := by simp
theorem lt_of_some {H : Heap} {i : Nat} {o : Slot} (h : H[i]? = some o) : i < H.length := by
  rcases Nat.lt_or_ge i H.length with h' | h'
  · exact h'
  · rw [List.getElem?_eq_none h'] at h; exact absurd h (by simp)

/-- One more element. -/
theorem app1 {α : Type} (enc : α → List A) (H : Heap) (kn ver sz bytes n : Nat) (xs : List α) (x : α) (ld : Option Nat) (v : A) (hn : n = xs.length)
    (hk : H[kn]? = some (.live ⟨ver, sz, xs.map enc⟩)) (hc : asCells ld v = some (enc x)) (hz : sz ≠ 0) (ok : appendOk (xs.length + 1) bytes) :
    ∃ H', (∀ {β : Type} (k : A → Heap → Option β), (oNewSlice none sz (asRows ld [v]) H fun x h => oAppend none sz bytes (.osl kn ver sz 0 n) x h k) = k (.osl kn (ver + 1) sz 0 (n + 1)) H') ∧
      H'[kn]? = some (.live ⟨ver + 1, sz, (xs ++ [x]).map enc⟩) ∧ KeepBut kn H H' := by
  subst hn
  have hlt := lt_of_some hk
  refine ⟨(H ++ [Slot.live ⟨0, sz, [enc x]⟩]).set kn (Slot.live ⟨ver + 1, sz, (xs ++ [x]).map enc⟩), fun k => ?_, ?_, ?_⟩
  · have h1 : (H ++ [Slot.live ⟨0, sz, [enc x]⟩])[kn]? = some (.live ⟨ver, sz, xs.map enc⟩) := by rw [List.getElem?_append_left hlt]; exact hk
    simp only [oNewSlice_eq, asRows_cons, asRows_nil, hc, Option.bind_some, Option.map_some, if_neg hz, place_none, oAppend_osl, rowsOf_osl, at_end, List.length_cons, List.length_nil, h1]
    simp [ok, hlt, List.take_of_length_le]
  · rw [List.getElem?_set_self (by simp; omega)]
  · intro i o hi ho
    rw [List.getElem?_set_ne (by omega)]
    exact KeepAll.append H _ i o ho
/-- A new object. -/
theorem KeepAll.trans {H H1 H2 : Heap} (h1 : KeepAll H H1) (h2 : KeepAll H1 H2) : KeepAll H H2 := fun i o h => h2 i o (h1 i o h)
theorem KeepBut.trans {k : Nat} {H H1 H2 : Heap} (h1 : KeepBut k H H1) (h2 : KeepBut k H1 H2) : KeepBut k H H2 := fun i o hi h => h2 i o hi (h1 i o hi h)
theorem KeepBut.refl (k : Nat) (H : Heap) : KeepBut k H H := fun _ _ _ h => h
theorem set_end (H : Heap) (a b : Slot) : (H ++ [a]).set H.length b = H ++ [b] := by simp
theorem app_some {H : Heap} {i : Nat} {o : Slot} (h : H[i]? = some o) (r : Heap) : (H ++ r)[i]? = some o := KeepAll.append H r i o h
theorem app_set' {H : Heap} {i : Nat} {o : Slot} (h : H[i]? = some o) (r : Heap) (x : Slot) : (H ++ r).set i x = H.set i x ++ r := by
  rw [List.set_append_left _ _ (lt_of_some h)]
theorem at_get {H : Heap} {i : Nat} {o : Slot} (h : H[i]? = some o) (p : i < H.length) : H[i] = o := by
  rw [List.getElem?_eq_getElem p] at h; simpa using h
theorem app_get' {H : Heap} {i : Nat} {o : Slot} (h : H[i]? = some o) (r : Heap) (p : i < (H ++ r).length) : (H ++ r)[i] = o := at_get (app_some h r) p
theorem app_len0 (H : Heap) (a : Slot) (r : Heap) : (H ++ a :: r)[H.length]? = some a := by simp
theorem app_len1 (H : Heap) (a b : Slot) (r : Heap) : (H ++ a :: b :: r)[H.length + 1]? = some b := by simp
theorem set_len0 (H : Heap) (a x : Slot) (r : Heap) : (H ++ a :: r).set H.length x = H ++ x :: r := by simp
theorem set_len1 (H : Heap) (a b x : Slot) (r : Heap) : (H ++ a :: b :: r).set (H.length + 1) x = H ++ a :: x :: r := by
  rw [List.set_append_right _ _ (by omega)]; simp
/-- The last act of a function that comes to an owned slice. -/
theorem finish_own (id ver sz n : Nat) (rows : List (List A)) (H : Heap) (hk : H[id]? = some (.live ⟨ver, sz, rows⟩)) (hp : idsRows rows = []) (hr : ∀ f, renRows f rows = some rows) :
    finish 0 (.ok (.osl id ver sz 0 n)) H = some (.ok (.osl 0 ver sz 0 n), [.live ⟨ver, sz, rows⟩]) := by
  have h1 : reach H reachFuel [] [id] = [id] := by
    rw [show reachFuel = 99999 + 1 from rfl, reach]
    simp [hk, hp]
  have h2 : idx [id] id = some 0 := by simp [idx]
  simp [finish, hk, hp, hr, h1, h2]
/-- The last act of a function whose value leads to one object, of pure rows. -/
theorem finish_one (a a' : A) (id : Nat) (ob : Obj) (H : Heap) (ha : idsA a = [id]) (hr : renA (fun j => if j = id then some 0 else none) a = some a') (hk : H[id]? = some (.live ob)) (hp : idsRows ob.rows = []) (hrr : ∀ f, renRows f ob.rows = some ob.rows) :
    finish 0 (.ok a) H = some (.ok a', [.live ob]) := by
  have h1 : reach H reachFuel [] [id] = [id] := by
    rw [show reachFuel = 99999 + 1 from rfl, reach]
    simp [hk, hp]
  have h2 : idx [id] = fun j => if j = id then some 0 else none := by
    funext j
    by_cases hj : j = id
    · subst hj; simp [idx]
    · simp [idx, hj, Ne.symm hj]
  simp [finish, ha, hk, hp, hrr, h1, h2, hr]
@[simp] theorem idsL_append (a b : List A) : idsL (a ++ b) = idsL a ++ idsL b := by induction a <;> simp_all
/-- What is lent of a cell that leads to no object. -/
def normA : A → A
  | .s v => nilS v
  | .fsl sz rows => mkF sz rows
  | a => a
def flatA : A → Bool
  | .s _ => true
  | .fsl _ _ => true
  | .cptr _ => true
  | _ => false
@[simp] theorem flatA_s (v : Value) : flatA (.s v) = true := _root_.id rfl
@[simp] theorem flatA_mkF (sz : Nat) (rows : List (List A)) : flatA (mkF sz rows) = true := _root_.id rfl
@[simp] theorem normA_mkF (sz : Nat) (rows : List (List A)) : normA (mkF sz rows) = mkF sz rows := by cases rows <;> simp [normA, mkF]
@[simp] theorem normA_int (kd : IntKind) (n : Int) : normA (.s (.int kd n)) = .s (.int kd n) := _root_.id rfl
@[simp] theorem normA_bool (b : Bool) : normA (.s (.bool b)) = .s (.bool b) := _root_.id rfl
@[simp] theorem normA_nil : normA (.s (.slice none 0 0)) = .fsl 0 [] := _root_.id rfl
theorem normA_pure {a : A} (h : pureA a = true) (hf : flatA a = true) : normA a = a := by
  cases a <;> simp [flatA] at hf <;> try rfl
  · rename_i v; simp only [pureA_s] at h; cases v <;> simp [notSlice] at h <;> rfl
  · rename_i sz rows
    cases rows with
    | nil => simp [pureA] at h; simp [normA, mkF, h]
    | cons r rs => simp [normA, mkF]
theorem lendA_flat (n : Nat) (a : A) (h : Heap) (hf : flatA a = true) : lendA (n + 1) a h = some (normA a) := by
  cases a <;> simp [flatA] at hf <;> simp [lendA, normA]
theorem pureL_mem : ∀ (l : List A), pureL l = true → ∀ x ∈ l, pureA x = true
  | [], _, x, hx => by cases hx
  | y :: ys, hp, x, hx => by
    simp only [pureL_cons, Bool.and_eq_true] at hp
    rcases List.mem_cons.1 hx with h | h
    · exact h ▸ hp.1
    · exact pureL_mem ys hp.2 x h
theorem norm_pure {l : List A} (hp : pureL l = true) (hf : ∀ a ∈ l, flatA a = true) : l.map normA = l := by
  have h : l.map normA = l.map fun x => x := List.map_congr_left fun x hx => normA_pure (pureL_mem l hp x hx) (hf x hx)
  rw [h]; simp
theorem lendL_flat (h : Heap) : ∀ (l : List A) (n : Nat), (∀ a ∈ l, flatA a = true) → lendL (n + l.length + 2) l h = some (l.map normA)
  | [], n, _ => by simp [lendL]
  | a :: r, n, hf => by
    rw [show n + (a :: r).length + 2 = (n + r.length + 2) + 1 by simp; omega, lendL]
    split
    · rename_i hp
      rw [norm_pure hp hf]
    · have e1 : lendA (n + r.length + 2) a h = some (normA a) := lendA_flat (n + r.length + 1) a h (hf a (by simp))
      rw [e1, lendL_flat h r n fun x hx => hf x (by simp [hx])]
      simp
/-- One bundle of cells is lent. -/
theorem lend_agg (cs cs' : List A) (h : Heap) (hf : ∀ a ∈ cs, flatA a = true) (hn : cs.length < 900) (hc : cs.map normA = cs') : lendL lendFuel [.agg cs] h = some [.agg cs'] := by
  subst hc
  rw [show lendFuel = 999 + 1 from rfl, lendL]
  split
  · rename_i hp
    simp only [pureL_cons, pureA_agg, pureL_nil, Bool.and_true] at hp
    rw [norm_pure hp hf]
  · have e := lendL_flat h cs (998 - cs.length - 2) hf
    rw [show 998 - cs.length - 2 + cs.length + 2 = 998 by omega] at e
    simp only [lendA, e, Option.map_some, Option.bind_some]
    simp [lendL]
theorem lend_agg2 (cs cs' ds ds' : List A) (h : Heap) (hf : ∀ a ∈ cs, flatA a = true) (hn : cs.length < 900) (hc : cs.map normA = cs') (hf2 : ∀ a ∈ ds, flatA a = true) (hn2 : ds.length < 900) (hc2 : ds.map normA = ds') :
    lendL lendFuel [.agg cs, .agg ds] h = some [.agg cs', .agg ds'] := by
  subst hc; subst hc2
  rw [show lendFuel = 999 + 1 from rfl, lendL]
  split
  · rename_i hp
    simp only [pureL_cons, pureA_agg, pureL_nil, Bool.and_true, Bool.and_eq_true] at hp
    rw [norm_pure hp.1 hf, norm_pure hp.2 hf2]
  · have e := lendL_flat h cs (998 - cs.length - 2) hf
    rw [show 998 - cs.length - 2 + cs.length + 2 = 998 by omega] at e
    have e1 : lendA 999 (.agg cs) h = some (.agg (cs.map normA)) := by
      rw [show (999 : Nat) = 998 + 1 from rfl]
      simp only [lendA, e, Option.map_some]
    have e2 : lendL 999 [.agg ds] h = some [.agg (ds.map normA)] := by
      rw [show (999 : Nat) = 998 + 1 from rfl, lendL]
      split
      · rename_i hp
        simp only [pureL_cons, pureA_agg, pureL_nil, Bool.and_true] at hp
        rw [norm_pure hp hf2]
      · have e := lendL_flat h ds (997 - ds.length - 2) hf2
        rw [show 997 - ds.length - 2 + ds.length + 2 = 997 by omega] at e
        have e3 : lendA 998 (.agg ds) h = some (.agg (ds.map normA)) := by
          rw [show (998 : Nat) = 997 + 1 from rfl]
          simp only [lendA, e, Option.map_some]
        rw [e3]
        simp [lendL]
    rw [e1, Option.bind_some, e2]
    rfl
/-- A call whose arguments lead to no object, which comes to an owned slice of pure rows. -/
theorem oLend_own (F : CallFn) (args args' : List A) (h : Heap) {β : Type} (kp k : A → Heap → Option β) (ver sz n : Nat) (rows : List (List A)) (ha : idsL args = []) (hl : lendL lendFuel args [] = some args') (hp : ∀ f, renRows f rows = some rows)
    (hF : F args' [] = some (.ok (.osl 0 ver sz 0 n), [.live ⟨ver, sz, rows⟩])) :
    oLend F args h kp k = k (.osl h.length ver sz 0 n) (h ++ [.live ⟨ver, sz, rows⟩]) := by
  have hi : (idsL args).isEmpty = true := by rw [ha]; rfl
  unfold oLend
  rw [if_pos hi, hl]
  simp only [hF]
  simp [hi, giveBack, backIdx, hp, setAll]
/-- The same, of a value that leads to no object. -/
theorem oLend_val' (F : CallFn) (args args' : List A) (h : Heap) {β : Type} (kp k : A → Heap → Option β) (a : A) (ha : idsL args = []) (hl : lendL lendFuel args [] = some args') (hr : idsA a = [])
    (hF : F args' [] = some (.ok a, [])) : oLend F args h kp k = k a h := by
  have hi : (idsL args).isEmpty = true := by rw [ha]; rfl
  unfold oLend
  rw [if_pos hi, hl]
  simp only [hF]
  simp [hi, giveBack, renA_of_ids a _ hr, setAll]
/-- What is frozen of an owned slice of pure rows. -/
theorem oFrz_own (H : Heap) (id ver sz n : Nat) (rows : List (List A)) {β : Type} (k : A → Heap → Option β) (hk : H[id]? = some (.live ⟨ver, sz, rows⟩)) (hn : n = rows.length) (hp : pureRows rows = true) :
    oFrz (.osl id ver sz 0 n) H k = k (mkF sz rows) (H.set id .dead) := by
  subst hn
  simp [oFrz, pureA, frzA, hk, frzRows, hp]
theorem pureRows_map {α : Type} (enc : α → List A) (h : ∀ x, pureL (enc x) = true) (xs : List α) : pureRows (xs.map enc) = true := by
  simp [pureRows, h]
theorem frz_cell2 (C C' : A) (d : A) (h h' : Heap) {β : Type} (k : A → Heap → Option β) (hd : pureA d = true) (hdn : ∀ n h, frzA (n + 1) d h = some (d, h)) (hp : pureA C = false) (hc : ∀ n, frzA (n + 2) C h = some (C', h')) :
    oFrz (.agg [d, C]) h k = k (.agg [d, C']) h' := by
  have e3 : frzL 998 [C] h = some ([C'], h') := by
    rw [show (998 : Nat) = 997 + 1 from rfl]
    simp only [frzL, pureL_cons, hp, Bool.false_and, Bool.false_eq_true, if_false, hc 995, Option.bind_some]
    simp [frzL]
  have e2 : frzL 999 [d, C] h = some ([d, C'], h') := by
    rw [show (999 : Nat) = 998 + 1 from rfl]
    rw [frzL, if_neg (by simp [hp]), hdn 997, Option.bind_some]
    simp only [e3, Option.map_some]
  have e1 : frzA 1000 (.agg [d, C]) h = some (.agg [d, C'], h') := by
    rw [show (1000 : Nat) = 999 + 1 from rfl]
    simp only [frzA, e2, Option.map_some]
  simp only [oFrz, pureA_agg, pureL_cons, hp, Bool.false_and, Bool.and_false, Bool.false_eq_true, if_false, e1]
theorem frz_own (n id ver sz m : Nat) (rows : List (List A)) (h : Heap) (hk : h[id]? = some (.live ⟨ver, sz, rows⟩)) (hm : m = rows.length) (hp : pureRows rows = true) : frzA (n + 2) (.osl id ver sz 0 m) h = some (mkF sz rows, h.set id .dead) := by
  subst hm
  simp [frzA, hk, frzRows, hp]
/-- An element of an owned slice. -/
theorem idx_own {α : Type} (enc : α → List A) (H : Heap) (id ver sz n : Nat) (xs : List α) (ld : Option Nat) (val : A) (j : Nat) (x : α) (kd : IntKind) (hn : n = xs.length)
    (hk : H[id]? = some (.live ⟨ver, sz, xs.map enc⟩)) (hj : xs[j]? = some x) (hv : cellsAt ld (enc x) 0 = some val) {β : Type} (k : A → Option β) :
    (oIdxA sz (.osl id ver sz 0 n) (.s (.int kd j)) fun p => oLoad ld p H k) = k val := by
  have hl : j < xs.length := by
    rcases Nat.lt_or_ge j xs.length with h | h
    · exact h
    · rw [List.getElem?_eq_none h] at hj; exact absurd hj (by simp)
  subst hn
  have hx : xs[j] = x := by rw [List.getElem?_eq_getElem hl] at hj; simpa using hj
  subst hx
  simp [hl, hk, hv]
end Go.Ab

/-
  CALLS OF THE LIBRARY's FUNCTIONS on owned slices of pure rows.
-/
set_option linter.unusedSimpArgs false
set_option linter.unusedVariables false
namespace Go.Ab
open Go

/-- What is reached from ids whose objects lead to nothing. -/
theorem reach_flat (H : Heap) : ∀ (l seen : List Nat) (n : Nat), (∀ id ∈ l, (H.getD id .dead).ids = []) → (seen ++ l).Nodup → l.length < n → reach H n seen l = seen ++ l
  | [], seen, n, _, _, _ => by simp
  | id :: l, seen, n, h, hn, hl => by
    obtain ⟨n, rfl⟩ : ∃ m, n = m + 1 := ⟨n - 1, by simp at hl; omega⟩
    have hni : id ∉ seen := fun hm => by
      rw [List.nodup_append] at hn
      exact hn.2.2 id hm id (by simp) rfl
    rw [reach, if_neg (by simpa using hni), h id (by simp), List.nil_append]
    rw [reach_flat H l (seen ++ [id]) n (fun x hx => h x (by simp [hx])) (by simpa using hn) (by simp at hl; omega)]
    simp

theorem set_same_slot {H : Heap} {i : Nat} {o : Slot} (h : H[i]? = some o) : H.set i o = H := by
  apply List.ext_getElem?
  intro j
  rw [List.getElem?_set]
  split
  · rename_i hij; subst hij; rw [h]; simp [lt_of_some h]
  · rfl

/-- One more row at a place. -/
theorem oCall_insert {β : Type} (sz bytes : Nat) (H : Heap) (id ver n i vid : Nat) (rows : List (List A)) (c : List A) (kp k : A → Heap → Option β)
    (h1 : H[id]? = some (.live ⟨ver, sz, rows⟩)) (h2 : H[vid]? = some (.live ⟨0, sz, [c]⟩)) (hn : n = rows.length) (hne : id ≠ vid) (hi : i ≤ n) (ok : appendOk (2 * (n + 1)) bytes)
    (p1 : idsRows rows = []) (p2 : idsL c = []) (r1 : ∀ f, renRows f rows = some rows) (r2 : ∀ f, renL f c = some c) :
    oCall (primInsert sz bytes) [.osl id ver sz 0 n, .s (.int .i64 i), .osl vid 0 sz 0 1] H kp k = k (.osl id (ver + 1) sz 0 (n + 1)) (H.set id (.live ⟨ver + 1, sz, rows.take i ++ c :: rows.drop i⟩)) := by
  subst hn
  have hr : reach H reachFuel [] [id, vid] = [id, vid] := reach_flat H _ _ _ (by simp [h1, h2, p1, p2]) (by simp [hne]) (by simp [reachFuel])
  have x1 : idx [id, vid] id = some 0 := by simp [idx, List.idxOf?_cons]
  have x2 : idx [id, vid] vid = some 1 := by
    have : (id == vid) = false := by simpa using hne
    simp [idx, List.idxOf?_cons, this]
  have hl1 := lt_of_some h1
  have hl2 := lt_of_some h2
  have hb : borrow [.osl id ver sz 0 rows.length, .s (.int .i64 i), .osl vid 0 sz 0 1] H = some ([id, vid], [.osl 0 ver sz 0 rows.length, .s (.int .i64 i), .osl 1 0 sz 0 1], [.live ⟨ver, sz, rows⟩, .live ⟨0, sz, [c]⟩]) := by
    unfold borrow
    simp [hr, x1, x2, h1, h2, r1, r2]
  have hp : primInsert sz bytes [.osl 0 ver sz 0 rows.length, .s (.int .i64 i), .osl 1 0 sz 0 1] [.live ⟨ver, sz, rows⟩, .live ⟨0, sz, [c]⟩] =
      some (.ok (.osl 0 (ver + 1) sz 0 (rows.length + 1)), [.live ⟨ver + 1, sz, rows.take i ++ c :: rows.drop i⟩, .live ⟨0, sz, [c]⟩]) := by
    have : ((i : Int) ≤ (rows.length : Int)) := by omega
    simp [primInsert, ok, this, List.take_of_length_le]
  have hren : ∀ f, renRows f (rows.take i ++ c :: rows.drop i) = some (rows.take i ++ c :: rows.drop i) := by
    intro f
    have key : ∀ (l : List (List A)), (∀ f, renRows f l = some l) → ∀ row ∈ l, ∀ f, renL f row = some row := by
      intro l
      induction l with
      | nil => simp
      | cons a r ih =>
        intro hl row hrow f
        have := hl f
        simp only [renRows_cons, Option.bind_eq_some_iff, Option.map_eq_some_iff, List.cons.injEq] at this
        obtain ⟨a', ha, r', hr', rfl, rfl⟩ := this
        rcases List.mem_cons.1 hrow with rfl | hrow
        · exact ha
        · exact ih (fun g => by
            have := hl g
            simp only [renRows_cons, Option.bind_eq_some_iff, Option.map_eq_some_iff, List.cons.injEq] at this
            obtain ⟨_, _, r'', hr'', _, h⟩ := this
            rw [h] at hr''; exact hr'') row hrow f
    have all : ∀ (l : List (List A)), (∀ row ∈ l, renL f row = some row) → renRows f l = some l := by
      intro l
      induction l with
      | nil => simp
      | cons a r ih => intro h; simp [h a (by simp), ih fun x hx => h x (by simp [hx])]
    refine all _ fun row hrow => ?_
    rcases List.mem_append.1 hrow with h | h
    · exact key rows r1 row (List.mem_of_mem_take h) f
    · rcases List.mem_cons.1 h with rfl | h
      · exact r2 f
      · exact key rows r1 row (List.mem_of_mem_drop h) f
  unfold oCall
  rw [hb]
  simp only [hp]
  have hs : (H.set id (.live ⟨ver + 1, sz, rows.take i ++ c :: rows.drop i⟩)).set vid (.live ⟨0, sz, [c]⟩) = H.set id (.live ⟨ver + 1, sz, rows.take i ++ c :: rows.drop i⟩) :=
    set_same_slot (by rw [List.getElem?_set_ne hne]; exact h2)
  simp [giveBack, backIdx, hren, r2, setAll, hs]

/-- One row less. -/
theorem oCall_delete {β : Type} (sz bytes : Nat) (H : Heap) (id ver n i : Nat) (rows : List (List A)) (kp k : A → Heap → Option β)
    (h1 : H[id]? = some (.live ⟨ver, sz, rows⟩)) (hn : n = rows.length) (hi : i < n)
    (p1 : idsRows rows = []) (r1 : ∀ f (l : List (List A)), (∀ x ∈ l, x ∈ rows) → renRows f l = some l) :
    oCall (primDelete sz bytes) [.osl id ver sz 0 n, .s (.int .i64 i), .s (.int .i64 (i + 1 : Nat))] H kp k = k (.osl id (ver + 1) sz 0 (n - 1)) (H.set id (.live ⟨ver + 1, sz, rows.take i ++ rows.drop (i + 1)⟩)) := by
  subst hn
  have hr : reach H reachFuel [] [id] = [id] := reach_flat H _ _ _ (by simp [h1, p1]) (by simp) (by simp [reachFuel])
  have x1 : idx [id] id = some 0 := by simp [idx]
  have hb : borrow [.osl id ver sz 0 rows.length, .s (.int .i64 i), .s (.int .i64 (i + 1 : Nat))] H = some ([id], [.osl 0 ver sz 0 rows.length, .s (.int .i64 i), .s (.int .i64 (i + 1 : Nat))], [.live ⟨ver, sz, rows⟩]) := by
    unfold borrow
    have := r1 (idx [id]) rows (fun x hx => hx)
    simp [hr, x1, h1, this]
  have hp : primDelete sz bytes [.osl 0 ver sz 0 rows.length, .s (.int .i64 i), .s (.int .i64 (i + 1 : Nat))] [.live ⟨ver, sz, rows⟩] =
      some (.ok (.osl 0 (ver + 1) sz 0 (rows.length - 1)), [.live ⟨ver + 1, sz, rows.take i ++ rows.drop (i + 1)⟩]) := by
    have a1 : ((i : Int) ≤ (i + 1 : Nat)) := by omega
    have a2 : (((i + 1 : Nat) : Int) ≤ (rows.length : Int)) := by omega
    have a3 : (((i + 1 : Nat) : Int) - (i : Int)).toNat = 1 := by omega
    have a4 : (((i + 1 : Nat) : Int)).toNat = i + 1 := by omega
    have a0 : (0 : Int) ≤ (i : Int) := by omega
    simp only [primDelete, List.getElem?_cons_zero, List.drop_zero, List.take_of_length_le (Nat.le_refl _), a3, a4, Int.toNat_natCast, List.set_cons_zero]
    rw [if_pos (by simp; omega)]
  have hren : ∀ f, renRows f (rows.take i ++ rows.drop (i + 1)) = some (rows.take i ++ rows.drop (i + 1)) := fun f => r1 f _ fun x hx => by
    rcases List.mem_append.1 hx with h | h
    · exact List.mem_of_mem_take h
    · exact List.mem_of_mem_drop h
  unfold oCall
  rw [hb]
  simp only [hp]
  simp [giveBack, backIdx, hren, setAll]
end Go.Ab

/-
  ARGUMENTS THAT ARE LENT: captured pointers.
-/
set_option linter.unusedSimpArgs false
set_option linter.unusedVariables false
namespace Go.Ab.T
open Go Go.Ab
theorem lendL_cons' (n : Nat) (a : A) (r : List A) (H : Heap) (hp : pureL (a :: r) = false) : lendL (n + 1) (a :: r) H = (lendA n a H).bind fun a => (lendL n r H).map fun r => a :: r := by
  rw [lendL, if_neg (by simp [hp])]
theorem lendL_nil' (n : Nat) (H : Heap) : lendL (n + 1) [] H = some [] := by rw [lendL]; split <;> rfl
theorem lendA_fn' (n : Nat) (nm : String) (cs : List A) (H : Heap) : lendA (n + 1) (.fn nm cs) H = (lendL n cs H).map (.fn nm) := by rw [lendA]
theorem lendA_ptr' (n id sz : Nat) (row : List A) (H : Heap) (hk : H[id]? = some (.live ⟨0, sz, [row]⟩)) (hp : pureL row = true) : lendA (n + 2) (.ptr id 0 0 0) H = some (.cptr row) := by
  rw [lendA, hk]
  simp [lendL_pure n row H hp]
theorem lend_cap1 (a : A) (nm : String) (id sz : Nat) (row : List A) (H : Heap) (hf : flatA a = true) (hn : normA a = a) (hk : H[id]? = some (.live ⟨0, sz, [row]⟩)) (hp : pureL row = true) :
    lendL lendFuel [a, .fn nm [.ptr id 0 0 0]] H = some [a, .fn nm [.cptr row]] := by
  rw [show lendFuel = 999 + 1 from rfl, lendL_cons' _ _ _ _ (by simp [pureA]), show (999 : Nat) = 998 + 1 from rfl, lendA_flat _ _ _ hf, hn, Option.bind_some, lendL_cons' _ _ _ _ (by simp [pureA]),
    show (998 : Nat) = 997 + 1 from rfl, lendA_fn', show (997 : Nat) = 996 + 1 from rfl, lendL_cons' _ _ _ _ (by simp [pureA]), show (996 : Nat) = 994 + 2 from rfl, lendA_ptr' _ _ _ _ _ hk hp, lendL_nil', lendL_nil']
  rfl
theorem lend_cap2 (a : A) (nm : String) (id1 id2 sz1 sz2 : Nat) (row1 row2 : List A) (H : Heap) (hf : flatA a = true) (hn : normA a = a) (hk1 : H[id1]? = some (.live ⟨0, sz1, [row1]⟩)) (hp1 : pureL row1 = true) (hk2 : H[id2]? = some (.live ⟨0, sz2, [row2]⟩)) (hp2 : pureL row2 = true) :
    lendL lendFuel [a, .fn nm [.ptr id1 0 0 0, .ptr id2 0 0 0]] H = some [a, .fn nm [.cptr row1, .cptr row2]] := by
  rw [show lendFuel = 999 + 1 from rfl, lendL_cons' _ _ _ _ (by simp [pureA]), show (999 : Nat) = 998 + 1 from rfl, lendA_flat _ _ _ hf, hn, Option.bind_some, lendL_cons' _ _ _ _ (by simp [pureA]),
    show (998 : Nat) = 997 + 1 from rfl, lendA_fn', show (997 : Nat) = 996 + 1 from rfl, lendL_cons' _ _ _ _ (by simp [pureA]), show (996 : Nat) = 994 + 2 from rfl, lendA_ptr' _ _ _ _ _ hk1 hp1, lendL_cons' _ _ _ _ (by simp [pureA]),
    show (994 + 1 : Nat) = 993 + 2 from rfl, lendA_ptr' _ _ _ _ _ hk2 hp2, lendL_nil', lendL_nil']
  rfl

end Go.Ab.T

/-
  THE DOCUMENT'S LABELS: what they come to.
-/
set_option linter.unusedSimpArgs false
set_option linter.unusedVariables false
namespace Go.Ab.T
open Go Go.Ab Go.Ab.F

theorem ok8 {n : Nat} (h : n < 1000000000) : appendOk n 8 := by constructor <;> omega
theorem ok16 {n : Nat} (h : n < 1000000000) : appendOk n 16 := by constructor <;> omega

abbrev u64C := cellC .u64


/-- The level of a category. -/
def rlevel (l : Label) (id : Int) : Int :=
  match l.cats.find? (fun c => c.id == id) with
  | some c => c.level
  | none => l.df

/-- A slice that is nil as long as it is empty. -/
def ownNil (H : Heap) (a : A) (sz : Nat) (rows : List (List A)) (bad : List Nat) : Prop :=
  (a = .s (.slice none 0 0) ∧ rows = []) ∨ ∃ id ver, a = .osl id ver sz 0 rows.length ∧ H[id]? = some (.live ⟨ver, sz, rows⟩) ∧ id ∉ bad

end Go.Ab.T

/-
  THE DOCUMENT'S LABELS AND THINGS: what they come to.
-/
set_option linter.unusedSimpArgs false
set_option linter.unusedVariables false
namespace Go.Ab.T
open Go Go.Ab Go.Ab.F

@[simp] theorem eqCells_cat (a b : Cat) : eqCells [true, true] (catC a) (catC b) = some (decide (a = b)) := by
  obtain ⟨a1, a2⟩ := a; obtain ⟨b1, b2⟩ := b
  by_cases h1 : a1 = b1 <;> by_cases h2 : a2 = b2 <;> simp [catC, eqCells, h1, h2]
@[simp] theorem eqCells_link (a b : Link) : eqCells [true, true] (linkC a) (linkC b) = some (decide (a = b)) := by
  obtain ⟨a1, a2⟩ := a; obtain ⟨b1, b2⟩ := b
  by_cases h1 : a1 = b1 <;> by_cases h2 : a2 = b2 <;> simp [linkC, eqCells, h1, h2]
@[simp] theorem eqCells_slot (a b : T.Slot) : eqCells [true, true] (slotC a) (slotC b) = some (decide (a = b)) := by
  obtain ⟨a1, a2⟩ := a; obtain ⟨b1, b2⟩ := b
  by_cases h1 : a1 = b1 <;> by_cases h2 : a2 = b2 <;> simp [slotC, eqCells, h1, h2]

/-- Two lists of one length, place by place. -/
theorem zip_find {α : Type} [DecidableEq α] : ∀ (a b : List α), a.length = b.length → ((a.zip b).find? (fun p => !decide (p.1 = p.2)) = none ↔ a = b)
  | [], [], _ => by simp
  | x :: a, y :: b, h => by
    simp only [List.length_cons, Nat.add_right_cancel_iff] at h
    have ih := zip_find a b h
    by_cases hxy : x = y
    · simp only [List.zip_cons_cons, List.find?_cons, hxy, decide_true, Bool.not_true, ih, List.cons.injEq, true_and]
    · simp [hxy]

theorem zip_get {α : Type} {a b : List α} {i : Nat} {p : α × α} (h : (a.zip b)[i]? = some p) : a[i]? = some p.1 ∧ b[i]? = some p.2 := by
  rw [List.getElem?_zip_eq_some] at h; exact h

theorem ref09_Exact_v (a b : Label) (ha : a.cats.length < 2 ^ 63) : ref09_Exact [.agg (labelC a), .agg (labelC b)] [] = some (.ok (.s (.bool (decide (a = b)))), []) := by
  have hab : decide (a = b) = (decide (a.df = b.df) && decide (a.cats = b.cats)) := by
    obtain ⟨a1, a2⟩ := a; obtain ⟨b1, b2⟩ := b
    by_cases h1 : a1 = b1 <;> by_cases h2 : a2 = b2 <;> simp [h1, h2]
  by_cases hd : a.df = b.df
  · by_cases hl : a.cats.length = b.cats.length
    · have hzl : (a.cats.zip b.cats).length = a.cats.length := by simp [hl]
      simp [ref09_Exact, hd, hl, trim, allBelow, ref09_Exact_k3]
      refine Eq.trans (oLoop_find (enc := fun i => ([.s (.int .i64 i)], [Slot.live ⟨0, 2, [labelC a]⟩, Slot.live ⟨0, 2, [labelC b]⟩])) (fun (p : Cat × Cat) => !decide (p.1 = p.2))
        (fun p => (Ex.ret, [.s (.bool false)], [Slot.live ⟨0, 2, [labelC a]⟩, Slot.live ⟨0, 2, [labelC b]⟩])) (Ex.exit 0, [.any], [Slot.live ⟨0, 2, [labelC a]⟩, Slot.live ⟨0, 2, [labelC b]⟩]) (a.cats.zip b.cats) (by simp) (by omega) ?_ ?_) ?_
      · intro i p hp hi
        obtain ⟨h1, h2⟩ := zip_get hp
        rw [hzl] at hi
        have hi2 : i < b.cats.length := by omega
        by_cases he : p.1 = p.2
        · simp [ref09_Exact_l1, oLoadD, hi, hi2, oIdxA_mkF _ _ _ _ _ _ _ h1, oIdxA_mkF _ _ _ _ _ _ _ h2, trim, allBelow, he, wrap_succ hi ha]
        · simp [ref09_Exact_l1, oLoadD, hi, hi2, oIdxA_mkF _ _ _ _ _ _ _ h1, oIdxA_mkF _ _ _ _ _ _ _ h2, trim, allBelow, he, wrap_succ hi ha]
      · simp [ref09_Exact_l1, trim, allBelow, hl]
      · have hz := zip_find a.cats b.cats hl
        rw [hab]
        cases hf : (a.cats.zip b.cats).find? (fun p => !decide (p.1 = p.2)) with
        | none => simp [ref09_Exact_k2, finish_val, hz.1 hf, hd]
        | some p =>
          have : ¬ a.cats = b.cats := fun h => by rw [hz.2 h] at hf; cases hf
          simp [ref09_Exact_k2, finish_val, this, hd]
    · have : ¬ a.cats = b.cats := fun h => hl (by rw [h])
      have hl' : ¬ ((a.cats.length : Int) = b.cats.length) := by omega
      simp [ref09_Exact, hd, hl, hl', trim, allBelow, ref09_Exact_k3, hab, this, finish_val]
  · simp [ref09_Exact, hd, trim, allBelow, ref09_Exact_k3, hab, finish_val]

/-- Is no level in it Star? -/
def pure (l : Label) : Bool := !decide (l.df = 0) && (l.cats.find? (fun c => c.level == 0)).isNone
/-- Can a category stand in a label? -/
def badCat (c : Cat) : Bool := decide (c.id < 1) || decide (2305843009213693951 < c.id) || decide (c.level < 0) || decide (4 < c.level)

end Go.Ab.T

/-
  THE DOCUMENT'S THINGS: are two the same?
-/
set_option linter.unusedSimpArgs false
set_option linter.unusedVariables false
namespace Go.Ab.T
open Go Go.Ab Go.Ab.F

theorem byte_loop (bs : ByteArray) : ∀ (d i : Nat) (r : List UInt8), i + d = bs.size → ByteArray.toList.loop bs i r = r.reverse ++ bs.data.toList.drop i := by
  intro d
  induction d with
  | zero =>
    intro i r h
    rw [ByteArray.toList.loop, if_neg (by omega), List.drop_of_length_le (by simp; show bs.size ≤ i; omega)]; simp
  | succ d ih =>
    intro i r h
    have hlt : i < bs.size := by omega
    have hl : i < bs.data.toList.length := by simpa using hlt
    rw [ByteArray.toList.loop, if_pos hlt, ih (i + 1) _ (by omega), List.drop_eq_getElem_cons hl]
    have : bs.get! i = bs.data.toList[i] := by
      show bs.data[i]! = _
      rw [Array.getElem!_eq_getD, Array.getD_eq_getD_getElem?, Array.getElem?_eq_getElem (by simpa using hl)]
      simp
    simp [this]
theorem bytes_toList (bs : ByteArray) : bs.toList = bs.data.toList := by
  show ByteArray.toList.loop bs 0 [] = _
  rw [byte_loop bs bs.size 0 [] (by omega)]; simp

def byte (n : Int) : UInt8 := UInt8.ofNat n.toNat
def pushAll : ByteArray → List Int → ByteArray
  | s, [] => s
  | s, n :: r => pushAll (s.push (byte n)) r
theorem strOf_data : ∀ (d : List Int) (s : ByteArray), strOf s (d.map (cellC .u8)).flatten = some (pushAll s d)
  | [], s => rfl
  | n :: d, s => by simpa [cellC, strOf, pushAll, byte] using strOf_data d _
theorem pushAll_data : ∀ (d : List Int) (s : ByteArray), (pushAll s d).data.toList = s.data.toList ++ d.map byte
  | [], s => by simp [pushAll]
  | n :: d, s => by
    rw [pushAll, pushAll_data d]
    simp [ByteArray.push]
def bs (d : List Int) : ByteArray := pushAll .empty d
theorem bs_toList (d : List Int) : (bs d).toList = d.map byte := by
  rw [bytes_toList, bs, pushAll_data]; simp
@[simp] theorem oBytesStr_data {β : Type} (d : List Int) (h : Heap) (k : A → Option β) : oBytesStr (mkF 1 (d.map (cellC .u8))) h k = k (.s (.string (bs d))) := by
  simp only [oBytesStr, rowsOf_mkF, strOf_data, bs]
@[simp] theorem oBytesStr_nil {β : Type} (h : Heap) (k : A → Option β) : oBytesStr (.fsl 0 []) h k = k (.s (.string (bs []))) := oBytesStr_data [] h k
def okBytes (d : List Int) : Prop := ∀ n ∈ d, 0 ≤ n ∧ n < 256
theorem byte_inj {a b : Int} (ha : 0 ≤ a ∧ a < 256) (hb : 0 ≤ b ∧ b < 256) (h : byte a = byte b) : a = b := by
  have h := congrArg UInt8.toNat h
  simp only [byte, UInt8.toNat_ofNat'] at h
  omega
theorem bs_eq {a b : List Int} (ha : okBytes a) (hb : okBytes b) : ((bs a).toList == (bs b).toList) = decide (a = b) := by
  rw [bs_toList, bs_toList]
  by_cases h : a = b
  · simp [h]
  · have : ¬ a.map byte = b.map byte := fun he => h (by
      clear h
      induction a generalizing b with
      | nil => cases b <;> simp at he ⊢
      | cons x a ih =>
        cases b with
        | nil => simp at he
        | cons y b =>
          simp only [List.map_cons, List.cons.injEq] at he
          rw [byte_inj (ha x (by simp)) (hb y (by simp)) he.1, ih (fun n hn => ha n (by simp [hn])) (fun n hn => hb n (by simp [hn])) he.2])
    simp [h, this]

theorem slot_eq (x y : T.Slot) : decide (x = y) = (decide (x.dir = y.dir) && decide (x.seg = y.seg)) := by
  obtain ⟨a, b⟩ := x; obtain ⟨c, d⟩ := y
  by_cases h1 : a = c <;> by_cases h2 : b = d <;> simp [h1, h2]
@[simp] theorem eqCells_regs (a b : Thing) : eqCells [true, true, true, true] (thingC_regsC a) (thingC_regsC b) = some (decide (a.r0 = b.r0) && (decide (a.r1 = b.r1) && (decide (a.r2 = b.r2) && decide (a.r3 = b.r3)))) := by
  simp [thingC_regsC, eqCells]
@[simp] theorem eqCells_slots (a b : Thing) : eqCells [true, true, true, true, true, true, true, true] (thingC_slotsC a) (thingC_slotsC b) =
    some (decide (a.s0 = b.s0) && (decide (a.s1 = b.s1) && (decide (a.s2 = b.s2) && decide (a.s3 = b.s3)))) := by
  simp [thingC_slotsC, slotC, eqCells, slot_eq, Bool.and_assoc]

/-- All but the lists' contents. -/
def flat (a b : Thing) : Bool := decide (a.id = b.id) && decide (a.kind = b.kind) && decide (a.quota = b.quota) && decide (a.next = b.next) && (decide (a.r0 = b.r0) && (decide (a.r1 = b.r1) && (decide (a.r2 = b.r2) && decide (a.r3 = b.r3)))) &&
  decide (a.minted = b.minted) && decide (a.boot = b.boot) && decide (a.halted = b.halted) && decide (a.value = b.value) && (decide (a.s0 = b.s0) && (decide (a.s1 = b.s1) && (decide (a.s2 = b.s2) && decide (a.s3 = b.s3))))

theorem Same_flat (a b : Thing) : ref11_Same [.agg (thingC a), .agg (thingC b)] [] = ref11_Same_k4 [] (.ptr 0 0 0 0) (.ptr 1 0 0 0) .normal [.s (.bool (!flat a b))] [.live ⟨0, 26, [thingC a]⟩, .live ⟨0, 26, [thingC b]⟩] := by
  simp [ref11_Same, trim, allBelow, flat, Bool.or_assoc]

theorem flat_eq (a b : Thing) : decide (a = b) = (flat a b && (decide (a.label = b.label) && (decide (a.clear = b.clear) && (decide (a.data = b.data) && decide (a.links = b.links))))) := by
  rw [Bool.eq_iff_iff]
  simp only [decide_eq_true_eq, flat, Bool.and_eq_true]
  constructor
  · rintro rfl; simp
  · intro h
    obtain ⟨a1, a2, a3, a4, a5, a6, a7, a8, a9, a10, a11, a12, a13, a14, a15, a16, a17, a18, a19, a20⟩ := a
    simp only at h
    simp [h]

/-- What a thing must be for its bytes to be told apart. -/
structure okT1 (t : Thing) : Prop where
  label : t.label.cats.length < 2 ^ 63
  clear : t.clear.cats.length < 2 ^ 63
  links : t.links.length < 2 ^ 63
  data : okBytes t.data

theorem ref11_Same_v (a b : Thing) (ha : okT1 a) (hb : okT1 b) : ref11_Same [.agg (thingC a), .agg (thingC b)] [] = some (.ok (.s (.bool (decide (a = b)))), []) := by
  have hE : ∀ (β : Type) (x y : Label) (h : Heap) (kp k : A → Heap → Option β), x.cats.length < 2 ^ 63 → oLend ref09_Exact [.agg (labelC x), .agg (labelC y)] h kp k = k (.s (.bool (decide (x = y)))) h := fun β x y h kp k hx =>
    oLend_val _ _ _ _ _ _ (by simp) (by simp) (ref09_Exact_v x y hx)
  rw [Same_flat, flat_eq]
  by_cases h1 : flat a b = true
  · have hd := bs_eq ha.data hb.data
    have e1 : ref11_Same_k4 [] (.ptr 0 0 0 0) (.ptr 1 0 0 0) .normal [.s (.bool (!flat a b))] [.live ⟨0, 26, [thingC a]⟩, .live ⟨0, 26, [thingC b]⟩] =
        ref11_Same_k3 [] (.ptr 0 0 0 0) (.ptr 1 0 0 0) .normal [.s (.bool (!decide (a.label = b.label) || (!decide (a.clear = b.clear) || (!decide (a.data = b.data) || !decide ((a.links.length : Int) = b.links.length)))))] [.live ⟨0, 26, [thingC a]⟩, .live ⟨0, 26, [thingC b]⟩] := by
      simp [ref11_Same_k4, h1, hE _ _ _ _ _ _ ha.label, hE _ _ _ _ _ _ ha.clear, trim, allBelow, hd]
    rw [e1, h1]
    by_cases h2 : a.label = b.label
    · by_cases h3 : a.clear = b.clear
      · by_cases h4 : a.data = b.data
        · by_cases hl : a.links.length = b.links.length
          · have hzl : (a.links.zip b.links).length = a.links.length := by simp [hl]
            have hal := ha.links
            simp [ref11_Same_k3, h2, h3, h4, hl]
            refine Eq.trans (oLoop_find (enc := fun i => ([.s (.int .i64 i)], [Go.Ab.Slot.live ⟨0, 26, [thingC a]⟩, Go.Ab.Slot.live ⟨0, 26, [thingC b]⟩])) (fun (p : Link × Link) => !decide (p.1 = p.2))
              (fun p => (Ex.ret, [.s (.bool false)], [Go.Ab.Slot.live ⟨0, 26, [thingC a]⟩, Go.Ab.Slot.live ⟨0, 26, [thingC b]⟩])) (Ex.exit 0, [.any], [Go.Ab.Slot.live ⟨0, 26, [thingC a]⟩, Go.Ab.Slot.live ⟨0, 26, [thingC b]⟩]) (a.links.zip b.links) (by simp) (by omega) ?_ ?_) ?_
            · intro i p hp hi
              obtain ⟨e1, e2⟩ := zip_get hp
              rw [hzl] at hi
              have hi2 : i < b.links.length := by omega
              by_cases he : p.1 = p.2
              · simp [ref11_Same_l1, oLoadD, hi, hi2, oIdxA_mkF _ _ _ _ _ _ _ e1, oIdxA_mkF _ _ _ _ _ _ _ e2, trim, allBelow, he, wrap_succ hi hal]
              · simp [ref11_Same_l1, oLoadD, hi, hi2, oIdxA_mkF _ _ _ _ _ _ _ e1, oIdxA_mkF _ _ _ _ _ _ _ e2, trim, allBelow, he, wrap_succ hi hal]
            · simp [ref11_Same_l1, trim, allBelow, hl]
            · have hz := zip_find a.links b.links hl
              cases hf : (a.links.zip b.links).find? (fun p => !decide (p.1 = p.2)) with
              | none => simp [ref11_Same_k2, finish_val, hz.1 hf]
              | some p =>
                have : ¬ a.links = b.links := fun h => by rw [hz.2 h] at hf; cases hf
                simp [ref11_Same_k2, finish_val, this]
          · have : ¬ a.links = b.links := fun h => hl (by rw [h])
            have hl' : ¬ ((a.links.length : Int) = b.links.length) := by omega
            simp [ref11_Same_k3, h2, h3, h4, hl', this, finish_val]
        · simp [ref11_Same_k3, h2, h3, h4, finish_val]
      · simp [ref11_Same_k3, h2, h3, finish_val]
    · simp [ref11_Same_k3, h2, finish_val]
  · simp [h1, ref11_Same_k4, finish_val]
end Go.Ab.T

/-
  THE FORM OF VALUES THAT ARE READ, by type.
-/
set_option linter.unusedSimpArgs false
set_option linter.unusedVariables false
namespace Go.Ab.T
open Go Go.Ab

def Form {α : Type} (P : Program) (d : Nat) (t : TypeId) (C : α → List A) (ok : α → Prop) : Prop := ∀ cs, Gd P d t cs → ∃ x, cs = C x ∧ ok x
def wfI (k : IntKind) (n : Int) : Prop := (Lit.int k n).wf = true

variable {P : Program} {d : Nat} {t e : TypeId}
theorem gd_struct {fs : Array Field} {cs : List A} (hu : P.underlying t = some (.struct fs)) (h : Gd P (d + 1) t cs) : GdF (Gd P d) fs.toList cs := by
  simpa only [Gd, hu] using h
theorem form_int {k : IntKind} (hu : P.underlying t = some (.int k)) : Form P (d + 1) t (cellC k) (wfI k) := by
  intro cs h
  simp only [Gd, hu] at h
  obtain ⟨n, rfl, hw⟩ := h
  exact ⟨n, rfl, hw⟩
theorem form_bool' (hu : P.underlying t = some .bool) : Form P (d + 1) t (fun b : Bool => [.s (.bool b)]) (fun _ => True) := by
  intro cs h
  simp only [Gd, hu] at h
  obtain ⟨b, rfl⟩ := h
  exact ⟨b, rfl, trivial⟩
theorem form_rows {α : Type} {C : α → List A} {ok : α → Prop} (h : Form P d e C ok) : ∀ (rows : List (List A)), (∀ row ∈ rows, Gd P d e row) → ∃ xs : List α, rows = xs.map C ∧ ∀ x ∈ xs, ok x
  | [], _ => ⟨[], rfl, by simp⟩
  | row :: rows, hr => by
    obtain ⟨x, h1, h2⟩ := h row (hr row (by simp))
    obtain ⟨xs, h3, h4⟩ := form_rows h rows fun r hm => hr r (by simp [hm])
    refine ⟨x :: xs, by simp [h1, h3], fun y hy => ?_⟩
    rcases List.mem_cons.1 hy with rfl | hy
    · exact h2
    · exact h4 y hy
/-- Weighs no more than a process's memory. -/
def fitsM (n b : Nat) : Prop := n ≤ maxLen ∧ n * b ≤ 140737488351232
theorem form_slice {α : Type} {C : α → List A} {ok : α → Prop} {sz b : Nat} (hu : P.underlying t = some (.slice e)) (hs : P.cellsOf e = sz) (hb : P.bytesOf e = b) (h : Form P d e C ok) :
    Form P (d + 1) t (fun xs : List α => [mkF sz (xs.map C)]) (fun xs => fitsM xs.length b ∧ ∀ x ∈ xs, ok x) := by
  intro cs hg
  simp only [Gd, hu] at hg
  obtain ⟨rows, rfl, hl, hm, hr⟩ := hg
  obtain ⟨xs, rfl, hx⟩ := form_rows h rows hr
  rw [hb] at hm
  exact ⟨xs, by rw [hs], ⟨by simpa using hl, by simpa [reachBytes] using hm⟩, hx⟩
theorem form_four {α : Type} {C : α → List A} {ok : α → Prop} (hu : P.underlying t = some (.array 4 e)) (h : Form P d e C ok) :
    Form P (d + 1) t (fun r : α × α × α × α => C r.1 ++ (C r.2.1 ++ (C r.2.2.1 ++ C r.2.2.2))) (fun r => ok r.1 ∧ ok r.2.1 ∧ ok r.2.2.1 ∧ ok r.2.2.2) := by
  intro cs hg
  simp only [Gd, hu] at hg
  obtain ⟨rows, rfl, hl, hr⟩ := hg
  obtain ⟨xs, rfl, hx⟩ := form_rows h rows hr
  match xs, hl, hx with
  | [a, b, c, d], _, hx => exact ⟨(a, b, c, d), by simp, hx a (by simp), hx b (by simp), hx c (by simp), hx d (by simp)⟩
end Go.Ab.T

/-
  THE FORM OF VALUES THAT ARE READ, by type: things.
-/
set_option linter.unusedSimpArgs false
set_option linter.unusedVariables false
namespace Go.Ab.T
open Go Go.Ab
variable {P : Program} {d : Nat} {t e : TypeId}

def okCat (c : Cat) : Prop := wfI .u64 c.id ∧ wfI .i64 c.level
def okLink (c : Link) : Prop := wfI .u64 c.id ∧ wfI .i64 c.quota
def okSlot (c : Slot) : Prop := wfI .u64 c.dir ∧ wfI .u64 c.seg
def okLabel (l : Label) : Prop := wfI .i64 l.df ∧ fitsM l.cats.length 16 ∧ ∀ x ∈ l.cats, okCat x
structure okThing (t : Thing) : Prop where
  id : wfI .u64 t.id
  kind : wfI .i64 t.kind
  label : okLabel t.label
  clear : okLabel t.clear
  quota : wfI .i64 t.quota
  next : wfI .i64 t.next
  links : fitsM t.links.length 16 ∧ ∀ x ∈ t.links, okLink x
  data : fitsM t.data.length 1 ∧ ∀ x ∈ t.data, wfI .u8 x
  regs : wfI .u64 t.r0 ∧ wfI .u64 t.r1 ∧ wfI .u64 t.r2 ∧ wfI .u64 t.r3
  minted : wfI .i64 t.minted
  boot : wfI .i64 t.boot
  value : wfI .u64 t.value
  slots : okSlot t.s0 ∧ okSlot t.s1 ∧ okSlot t.s2 ∧ okSlot t.s3
theorem wf_u8 {n : Int} (h : wfI .u8 n) : 0 ≤ n ∧ n < 256 := by
  simp [wfI, Lit.wf, IntKind.min, IntKind.max, IntKind.bits, IntKind.signed] at h; omega
theorem wf_u64 {n : Int} (h : wfI .u64 n) : 0 ≤ n ∧ n < 18446744073709551616 := by
  simp [wfI, Lit.wf, IntKind.min, IntKind.max, IntKind.bits, IntKind.signed] at h; omega
theorem wf_i64 {n : Int} (h : wfI .i64 n) : -9223372036854775808 ≤ n ∧ n < 9223372036854775808 := by
  simp [wfI, Lit.wf, IntKind.min, IntKind.max, IntKind.bits, IntKind.signed] at h; omega
theorem maxLen_lt {n : Nat} (h : n ≤ maxLen) : n < 2 ^ 63 := by unfold maxLen at h; omega
theorem fits_lt {n b : Nat} (h : fitsM n b) : n < 2 ^ 63 := maxLen_lt h.1
theorem okThing.t1 {t : Thing} (h : okThing t) : okT1 t := ⟨fits_lt h.label.2.1, fits_lt h.clear.2.1, fits_lt h.links.1, fun n hn => wf_u8 (h.data.2 n hn)⟩

/-- A value of one cell, or of several: what stands for it. -/
theorem fz_agg {w : World} {F : Cells} {vs : Array Value} {bs : List A} (hl : bs.length = vs.toList.length) (h1 : ∀ v ∈ vs.toList, v.oneCell = true) (hz : ∀ (j : Nat) v a, vs.toList[j]? = some v → bs[j]? = some a → Fz P w F v a) : Fz P w F (.agg vs) (.agg bs) := by
  refine .agg vs bs (by simpa using hl.symm) (fun i hi => ?_) fun i hi => ?_
  · have hi' : i < vs.size := by simp at hl; omega
    have : vs.getD i undef = vs[i] := by simp [Array.getD, hi']
    rw [this]; exact h1 _ (by simp)
  · have hi' : i < vs.size := by simp at hl; omega
    have : vs.getD i undef = vs[i] := by simp [Array.getD, hi']
    rw [this]
    exact hz i _ _ (by simp [hi']) (List.getElem?_eq_getElem hi)
end Go.Ab.T

/-
  DIRECTORIES: what small functions come to.
-/
set_option linter.unusedSimpArgs false
set_option linter.unusedVariables false
namespace Go.Ab.T
open Go Go.Ab Go.Ab.F

/-- How much a directory uses. -/
def used (t : Thing) : Int := t.links.foldl (fun n l => IntKind.i64.wrap (n + l.quota)) 1

/-- The next name. -/
def fresh (t : Thing) : Int × Int :=
  if t.next < 63 ∧ t.id < 4398046511104 then (IntKind.u64.wrap (IntKind.u64.wrap (IntKind.u64.wrap (t.id * 64) + IntKind.u64.wrap t.next) + 1), 0) else (0, 125)
def rfresh (t : Thing) : Int × Int :=
  if t.next ≠ 63 ∧ ¬ 4398046511103 < t.id then (IntKind.u64.wrap (IntKind.u64.wrap (64 * t.id) + IntKind.u64.wrap (IntKind.i64.wrap (t.next + 1))), 0) else (0, 125)

/-- Compared numbers. -/
def cmpI (a b : Int) : Int := if a < b then -1 else if b < a then 1 else 0
theorem cmp_isNaN_v (a : Int) : cmp_isNaN_uint64 [.s (.int .u64 a)] [] = some (.ok (.s (.bool false)), []) := by
  simp [cmp_isNaN_uint64, finish_val]
theorem cmp_Compare_v (a b : Int) : cmp_Compare_uint64 [.s (.int .u64 a), .s (.int .u64 b)] [] = some (.ok (.s (.int .i64 (cmpI a b))), []) := by
  have h : ∀ (β : Type) (x : Int) (h : Heap) (kp k : A → Heap → Option β), oLend cmp_isNaN_uint64 [.s (.int .u64 x)] h kp k = k (.s (.bool false)) h := fun β x h kp k =>
    oLend_val _ _ _ _ _ _ (by simp [pureL, pureA]) (by simp) (cmp_isNaN_v x)
  simp only [cmp_Compare_uint64, h, oFrz_bool, oCond_s, oCmp_s, if_true, cmpInt_lss, cmpInt_gtr, cmpI]
  by_cases h1 : a < b <;> by_cases h2 : b < a <;> simp [h1, h2, finish_val]

theorem dir_place_c1_v (l : Link) (id : Int) : dir_place_c1 [.agg (linkC l), .s (.int .u64 id)] [] = some (.ok (.s (.int .i64 (cmpI l.id id))), []) := by
  have h : ∀ (β : Type) (x y : Int) (h : Heap) (kp k : A → Heap → Option β), oLend cmp_Compare_uint64 [.s (.int .u64 x), .s (.int .u64 y)] h kp k = k (.s (.int .i64 (cmpI x y))) h := fun β x y h kp k =>
    oLend_val _ _ _ _ _ _ (by simp [pureL, pureA]) (by simp) (cmp_Compare_v x y)
  simp [dir_place_c1, h, finish_val]

/-- Links in order. -/
def sortedL (ls : List Link) : Prop := ∀ (i : Nat) a b, ls[i]? = some a → ls[i + 1]? = some b → a.id < b.id
/-- Where a link is, or would be. -/
def place (ls : List Link) (id : Int) : Nat := (ls.takeWhile (fun l => decide (l.id < id))).length
def has (ls : List Link) (id : Int) : Bool := (ls.find? (fun l => l.id == id)).isSome

theorem sortedL_tail {a : Link} {ls : List Link} (h : sortedL (a :: ls)) : sortedL ls := fun i x y hx hy => h (i + 1) x y (by simpa using hx) (by simpa using hy)
theorem sortedL_lt {a : Link} {ls : List Link} (h : sortedL (a :: ls)) : ∀ x ∈ ls, a.id < x.id := by
  induction ls generalizing a with
  | nil => simp
  | cons b ls ih =>
    have hab : a.id < b.id := h 0 a b (by simp) (by simp)
    intro x hx
    rcases List.mem_cons.1 hx with rfl | hx
    · exact hab
    · exact Int.lt_trans hab (ih (sortedL_tail h) x hx)
theorem place_le (ls : List Link) (id : Int) : place ls id ≤ ls.length := (List.takeWhile_sublist _).length_le
theorem place_lt {ls : List Link} (h : sortedL ls) (id : Int) : ∀ i l, ls[i]? = some l → (l.id < id ↔ i < place ls id) := by
  induction ls with
  | nil => simp
  | cons a ls ih =>
    have ih := ih (sortedL_tail h)
    intro i l hl
    by_cases ha : a.id < id
    · cases i with
      | zero => simp at hl; subst hl; simp [place, ha]
      | succ i =>
        simp only [List.getElem?_cons_succ] at hl
        rw [ih i l hl]; simp [place, ha]
    · have hp : place (a :: ls) id = 0 := by simp [place, ha]
      rw [hp]
      constructor
      · intro hli
        cases i with
        | zero => simp at hl; subst hl; exact absurd hli ha
        | succ i =>
          simp only [List.getElem?_cons_succ] at hl
          have := sortedL_lt h l (List.mem_of_getElem? hl)
          omega
      · intro hi; omega
theorem place_has {ls : List Link} (h : sortedL ls) (id : Int) : (ls[place ls id]?.any fun x => decide (cmpI x.id id = 0)) = has ls id := by
  have hz : ∀ a b : Int, decide (cmpI a b = 0) = decide (a = b) := fun a b => by
    unfold cmpI; by_cases h1 : a < b <;> by_cases h2 : b < a <;> simp [h1, h2] <;> omega
  induction ls with
  | nil => simp [has, place]
  | cons a ls ih =>
    have ih := ih (sortedL_tail h)
    by_cases ha : a.id < id
    · have hp : place (a :: ls) id = place ls id + 1 := by simp [place, ha]
      rw [hp]
      simp only [List.getElem?_cons_succ]
      rw [ih]
      have : (a.id == id) = false := by simp; omega
      simp [has, this]
    · have hp : place (a :: ls) id = 0 := by simp [place, ha]
      rw [hp]
      simp only [List.getElem?_cons_zero, hz]
      by_cases he : a.id = id
      · simp [has, he]
      · have h1 : (a.id == id) = false := by simpa using he
        have h2 : ls.find? (fun l => l.id == id) = none := by
          rw [List.find?_eq_none]
          intro x hx
          have := sortedL_lt h x hx
          simp; omega
        simp [has, h1, h2, he]

theorem search_link (En : String → CallFn) : slices_BinarySearchFunc_Sapi_Link_api_Link_uint64 En = gSearch 2 (some 2) En := by
  funext args objs; rcases args with _ | ⟨a0, _ | ⟨a1, _ | ⟨a2, _ | ⟨a3, r⟩⟩⟩⟩ <;> rfl
theorem dir_place_v (t : Thing) (id : Int) (hl : t.links.length < 2 ^ 63) (hs : sortedL t.links) :
    dir_place [.agg (thingC t), .s (.int .u64 id)] [] = some (.ok (.tup [.s (.int .i64 (place t.links id)), .s (.bool (has t.links id))]), []) := by
  have h1 := gSearch_v linkE En_dir_place "bailey/dir.place$1" [] (.s (.int .u64 id)) (fun l => cmpI l.id id) t.links (place t.links id) (by simp [pureL]) rfl rfl rfl
    (fun x _ => by simpa [En_dir_place, linkE] using dir_place_c1_v x id) hl (place_le _ _)
    (fun i l hl => by
      rw [← place_lt hs id i l hl]
      unfold cmpI; by_cases h1 : l.id < id <;> by_cases h2 : id < l.id <;> simp [h1, h2])
  rw [place_has hs] at h1
  have h : ∀ (β : Type) (h : Heap) (kp k : A → Heap → Option β), oLend (gSearch 2 (some 2) En_dir_place) [mkF 2 (t.links.map linkC), .s (.int .u64 id), .fn "bailey/dir.place$1" []] h kp k = k (.tup [.s (.int .i64 (place t.links id)), .s (.bool (has t.links id))]) h := fun β h kp k =>
    oLend_val _ _ _ _ _ _ (by simp [pureL, pureA]) (by simp) h1
  simp only [dir_place, search_link]
  simp [h, finish_val, oFrz_pure, pureA, pureL]
theorem dir_Has_v (t : Thing) (id : Int) (hl : t.links.length < 2 ^ 63) (hs : sortedL t.links) :
    dir_Has [.agg (thingC t), .s (.int .u64 id)] [] = some (.ok (.s (.bool (has t.links id))), []) := by
  have h : ∀ (β : Type) (h : Heap) (kp k : A → Heap → Option β), oLend dir_place [.agg (thingC t), .s (.int .u64 id)] h kp k = k (.tup [.s (.int .i64 (place t.links id)), .s (.bool (has t.links id))]) h := fun β h kp k =>
    oLend_val _ _ _ _ _ _ (by simp [pureL, pureA]) (by simp) (dir_place_v t id hl hs)
  simp [dir_Has, h, finish_val, oFrz_pure, pureA, pureL]
end Go.Ab.T

/-
  THE DOCUMENT'S THINGS: which directories can be?
-/
set_option linter.unusedSimpArgs false
set_option linter.unusedVariables false
namespace Go.Ab.T
open Go Go.Ab Go.Ab.F

/-- A link that can stand at a place. -/
def goodAt (ls : List Link) (j : Nat) (l : Link) : Prop := 1 ≤ l.id ∧ l.id < 281474976710656 ∧ 1 ≤ l.quota ∧ l.quota ≤ 48 ∧ (0 < j → ∀ p, ls[j - 1]? = some p → p.id < l.id) ∧ j < 16
def goodL (ls : List Link) : Prop := ∀ (j : Nat) (l : Link), ls[j]? = some l → goodAt ls j l

/-- A bare thing. -/
def bareT (id kind : Int) (label : Label) (quota : Int) : Thing := ⟨id, kind, label, ⟨0, []⟩, quota, 0, [], [], 0, 0, 0, 0, 0, 0, false, 0, ⟨0, 0⟩, ⟨0, 0⟩, ⟨0, 0⟩, ⟨0, 0⟩⟩

def sumTo (ls : List Link) (i : Nat) : Int := (ls.take i).foldl (fun n l => IntKind.i64.wrap (n + l.quota)) 1
theorem sumTo_succ (ls : List Link) (i : Nat) (l : Link) (h : ls[i]? = some l) : sumTo ls (i + 1) = IntKind.i64.wrap (sumTo ls i + l.quota) := by
  have hi : i < ls.length := by
    rcases Nat.lt_or_ge i ls.length with h' | h'
    · exact h'
    · rw [List.getElem?_eq_none h'] at h; exact absurd h (by simp)
  have : ls[i] = l := by rw [List.getElem?_eq_getElem hi] at h; simpa using h
  simp [sumTo, List.take_add_one, h]

end Go.Ab.T

/-
  THE DOCUMENT'S THINGS: which directories can be?
-/
set_option linter.unusedSimpArgs false
set_option linter.unusedVariables false
namespace Go.Ab.T
open Go Go.Ab Go.Ab.F

def bareOf (t : Thing) : Thing := { t with next := 0, links := [] }
def rowB (t : Thing) : List A := [.s (.int .u64 t.id), .s (.int .i64 t.kind), .s (.int .i64 t.label.df), mkF 2 (t.label.cats.map catC), .s (.int .i64 t.clear.df), mkF 2 (t.clear.cats.map catC), .s (.int .i64 t.quota), .s (.int .i64 0), .s (.slice none 0 0), mkF 1 (t.data.map (cellC .u8)), .s (.int .u64 t.r0), .s (.int .u64 t.r1), .s (.int .u64 t.r2), .s (.int .u64 t.r3), .s (.int .i64 t.minted), .s (.int .i64 t.boot), .s (.bool t.halted), .s (.int .u64 t.value), .s (.int .u64 t.s0.dir), .s (.int .u64 t.s0.seg), .s (.int .u64 t.s1.dir), .s (.int .u64 t.s1.seg), .s (.int .u64 t.s2.dir), .s (.int .u64 t.s2.seg), .s (.int .u64 t.s3.dir), .s (.int .u64 t.s3.seg)]
theorem rowB_ids (t : Thing) : idsL (rowB t) = [] := rfl
def rowL (t : Thing) : List A := [.s (.int .u64 t.id), .s (.int .i64 t.kind), .s (.int .i64 t.label.df), mkF 2 (t.label.cats.map catC), .s (.int .i64 0), .s (.slice none 0 0), .s (.int .i64 t.quota), .s (.int .i64 0), .s (.slice none 0 0), .s (.slice none 0 0), .s (.int .u64 0), .s (.int .u64 0), .s (.int .u64 0), .s (.int .u64 0), .s (.int .i64 0), .s (.int .i64 0), .s (.bool false), .s (.int .u64 0), .s (.int .u64 0), .s (.int .u64 0), .s (.int .u64 0), .s (.int .u64 0), .s (.int .u64 0), .s (.int .u64 0), .s (.int .u64 0), .s (.int .u64 0)]

theorem put_next (t : Thing) : putCells (putCells (thingC t) 7 [.s (.int .i64 0)]) 8 [.s (.slice none 0 0)] = rowB t := rfl
end Go.Ab.T

/-
  COPIES OF THINGS.
-/
set_option linter.unusedSimpArgs false
set_option linter.unusedVariables false
namespace Go.Ab
open Go

theorem oCallF_own {β : Type} (n0 : Nat) (wr : List Nat) (F : CallFn) (args : List A) (h : Heap) (k : A → Heap → Option β) (ver sz n : Nat) (rows : List (List A)) (ha : pureL args = true) (hp : ∀ f, renRows f rows = some rows)
    (hF : F args [] = some (.ok (.osl 0 ver sz 0 n), [.live ⟨ver, sz, rows⟩])) :
    oCallF n0 wr F args h k = k (.osl h.length ver sz 0 n) (h ++ [.live ⟨ver, sz, rows⟩]) := by
  have hi : (idsL args).isEmpty = true := by rw [pureL_ids args ha]; rfl
  have hl : lendL lendFuel args [] = some args := lendL_pure 999 _ _ ha
  unfold oCallF
  rw [if_pos hi, hl]
  simp only [hF]
  simp [hi, giveBack, backIdx, hp, setAll]

theorem renHeap_flat (f : Nat → Option Nat) : ∀ (l : Heap), (∀ s ∈ l, renSlot f s = some s) → renHeap f l = some l
  | [], _ => rfl
  | s :: l, h => by simp [renHeap_cons, h s (by simp), renHeap_flat f l fun x hx => h x (by simp [hx])]

/-- The last act of a function whose value leads to some objects, of pure rows. -/
theorem finish_flat (a a' : A) (l : List Nat) (H : Heap) (ha : idsA a = l) (hnd : l.Nodup) (hl : l.length < 1000) (hs : ∀ id ∈ l, (H.getD id .dead).ids = [] ∧ ∀ f, renSlot f (H.getD id .dead) = some (H.getD id .dead)) (hr : renA (idx l) a = some a') :
    finish 0 (.ok a) H = some (.ok a', l.map fun id => H.getD id .dead) := by
  have h1 : reach H reachFuel [] l = l := by
    rw [reach_flat H l [] reachFuel (fun id hid => (hs id hid).1) (by simpa using hnd) (by simp [reachFuel]; omega)]; simp
  have h2 : renHeap (idx l) (l.map fun id => H.getD id .dead) = some (l.map fun id => H.getD id .dead) := renHeap_flat _ _ fun s hm => by
    obtain ⟨id, hid, rfl⟩ := List.mem_map.1 hm
    exact (hs id hid).2 _
  simp only [finish, ha, List.range_zero, List.take_zero, List.flatMap_nil, List.append_nil, h1, renOut_ok, hr, Option.map_some, Option.bind_some, h2]

namespace T
open Go.Ab.F

theorem clone_v (sz bytes : Nat) (rows : List (List A)) (ok : appendOk rows.length bytes) (hz : sz ≠ 0) : primClone sz bytes [mkF sz rows] [] = some (.ok (.osl 0 1 sz 0 rows.length), [.live ⟨1, sz, rows⟩]) := by
  simp [primClone, ok, hz]

/-- A copy's cells, its lists in objects of its own. -/
def copyRow (t : Thing) (a b c d : Nat) : List A := [.s (.int .u64 t.id), .s (.int .i64 t.kind), .s (.int .i64 t.label.df), .osl a 1 2 0 t.label.cats.length, .s (.int .i64 t.clear.df), .osl b 1 2 0 t.clear.cats.length, .s (.int .i64 t.quota), .s (.int .i64 t.next), .osl c 1 2 0 t.links.length, .osl d 1 1 0 t.data.length, .s (.int .u64 t.r0), .s (.int .u64 t.r1), .s (.int .u64 t.r2), .s (.int .u64 t.r3), .s (.int .i64 t.minted), .s (.int .i64 t.boot), .s (.bool t.halted), .s (.int .u64 t.value), .s (.int .u64 t.s0.dir), .s (.int .u64 t.s0.seg), .s (.int .u64 t.s1.dir), .s (.int .u64 t.s1.seg), .s (.int .u64 t.s2.dir), .s (.int .u64 t.s2.seg), .s (.int .u64 t.s3.dir), .s (.int .u64 t.s3.seg)]
@[simp] theorem copyRow_ids (t : Thing) (a b c d : Nat) : idsL (copyRow t a b c d) = [a, b, c, d] := rfl
@[simp] theorem copyRow_len (t : Thing) (a b c d : Nat) : (copyRow t a b c d).length = 26 := rfl

/-- What a thing must be to be copied. -/
structure small (t : Thing) : Prop where
  label : t.label.cats.length < 8796093021953
  clear : t.clear.cats.length < 8796093021953
  links : t.links.length < 8796093021953
  data : t.data.length < 140737488351233

theorem thing_Copy_v (t : Thing) (sm : small t) : thing_Copy [.agg (thingC t)] [] =
    some (.ok (.agg (copyRow t 0 1 2 3)), [.live ⟨1, 2, t.label.cats.map catC⟩, .live ⟨1, 2, t.clear.cats.map catC⟩, .live ⟨1, 2, t.links.map linkC⟩, .live ⟨1, 1, t.data.map (cellC .u8)⟩]) := by
  have s1 := sm.label; have s2 := sm.clear; have s3 := sm.links; have s4 := sm.data
  have ok16 : ∀ n, n < 8796093021953 → appendOk n 16 := fun n h => by constructor <;> omega
  have ok1 : ∀ n, n < 140737488351233 → appendOk n 1 := fun n h => by constructor <;> omega
  have hc : ∀ (n0 : Nat) (wr : List Nat) (cs : List Cat) (h : Heap) (k : A → Heap → Option (Out × Heap)), cs.length < 8796093021953 → oCallF n0 wr (primClone 2 16) [mkF 2 (cs.map catC)] h k = k (.osl h.length 1 2 0 cs.length) (h ++ [.live ⟨1, 2, cs.map catC⟩]) := fun n0 wr cs h k hl => by
    have := clone_v 2 16 (cs.map catC) (by simpa using ok16 _ hl) (by decide)
    simp only [List.length_map] at this
    exact oCallF_own n0 wr _ _ h k 1 2 _ _ (by simp) (fun f => renRows_map f _ (fun x => by simp [catC]) _) this
  have hl : ∀ (n0 : Nat) (wr : List Nat) (cs : List Link) (h : Heap) (k : A → Heap → Option (Out × Heap)), cs.length < 8796093021953 → oCallF n0 wr (primClone 2 16) [mkF 2 (cs.map linkC)] h k = k (.osl h.length 1 2 0 cs.length) (h ++ [.live ⟨1, 2, cs.map linkC⟩]) := fun n0 wr cs h k hl => by
    have := clone_v 2 16 (cs.map linkC) (by simpa using ok16 _ hl) (by decide)
    simp only [List.length_map] at this
    exact oCallF_own n0 wr _ _ h k 1 2 _ _ (by simp) (fun f => renRows_map f _ (fun x => by simp [linkC]) _) this
  have hd : ∀ (n0 : Nat) (wr : List Nat) (cs : List Int) (h : Heap) (k : A → Heap → Option (Out × Heap)), cs.length < 140737488351233 → oCallF n0 wr (primClone 1 1) [mkF 1 (cs.map (cellC .u8))] h k = k (.osl h.length 1 1 0 cs.length) (h ++ [.live ⟨1, 1, cs.map (cellC .u8)⟩]) := fun n0 wr cs h k hl => by
    have := clone_v 1 1 (cs.map (cellC .u8)) (by simpa using ok1 _ hl) (by decide)
    simp only [List.length_map] at this
    exact oCallF_own n0 wr _ _ h k 1 1 _ _ (by simp) (fun f => renRows_map f _ (fun x => by simp [cellC]) _) this
  have hrow : putCells (putCells (putCells (putCells (thingC t) 3 [.osl 2 1 2 0 t.label.cats.length]) 5 [.osl 3 1 2 0 t.clear.cats.length]) 8 [.osl 4 1 2 0 t.links.length]) 9 [.osl 5 1 1 0 t.data.length] = copyRow t 2 3 4 5 := rfl
  simp [thing_Copy, oLoadD, hc _ _ _ _ _ s1, hc _ _ _ _ _ s2, hl _ _ _ _ _ s3, hd _ _ _ _ _ s4, putCells, thingC, cellsAt]
  refine (finish_flat _ (.agg (copyRow t 0 1 2 3)) [2, 3, 4, 5] _ (by simp) (by decide) (by decide) (by
    intro id hid
    simp only [List.mem_cons, List.not_mem_nil, or_false] at hid
    rcases hid with rfl | rfl | rfl | rfl <;> refine ⟨by simp [idsRows_map _ catC_ids, idsRows_map _ linkC_ids, idsRows_map _ (cellC_ids .u8)], fun f => ?_⟩
    · simp [renRows_map f catC (fun x => by simp [catC])]
    · simp [renRows_map f catC (fun x => by simp [catC])]
    · simp [renRows_map f linkC (fun x => by simp [linkC])]
    · simp [renRows_map f (cellC .u8) (fun x => by simp [cellC])]) (by simp [copyRow, idx, List.idxOf?_cons])).trans ?_
  simp
end T
end Go.Ab

/-
  WHAT IS FROZEN OF CELLS THAT OWN THEIR LISTS.
-/
set_option linter.unusedSimpArgs false
set_option linter.unusedVariables false
namespace Go.Ab
open Go

inductive FrzCells : List A → Heap → List A → Heap → Prop where
  | nil (H : Heap) : FrzCells [] H [] H
  | flat (a : A) (r r' : List A) (H H' : Heap) (hf : flatA a = true) (h : FrzCells r H r' H') : FrzCells (a :: r) H (normA a :: r') H'
  | own (id ver sz m : Nat) (rows : List (List A)) (r r' : List A) (H H' : Heap) (hk : H[id]? = some (.live ⟨ver, sz, rows⟩)) (hm : m = rows.length) (hp : pureRows rows = true)
      (h : FrzCells r (H.set id .dead) r' H') : FrzCells (.osl id ver sz 0 m :: r) H (mkF sz rows :: r') H'

theorem FrzCells.pure {l l' : List A} {H H' : Heap} (h : FrzCells l H l' H') (hp : pureL l = true) : l' = l ∧ H' = H := by
  induction h with
  | nil H => exact ⟨rfl, rfl⟩
  | flat a r r' H H' hf h ih =>
    simp only [pureL_cons, Bool.and_eq_true] at hp
    obtain ⟨rfl, rfl⟩ := ih hp.2
    rw [normA_pure hp.1 hf]
    exact ⟨rfl, rfl⟩
  | own => simp [pureA] at hp

theorem frzL_cells {l l' : List A} {H H' : Heap} (h : FrzCells l H l' H') : ∀ n, l.length + 3 ≤ n → frzL n l H = some (l', H') := by
  induction h with
  | nil H => intro n hn; obtain ⟨n, rfl⟩ : ∃ m, n = m + 1 := ⟨n - 1, by omega⟩; simp [frzL]
  | flat a r r' H H' hf h ih =>
    intro n hn
    obtain ⟨n, rfl⟩ : ∃ m, n = m + 1 := ⟨n - 1, by omega⟩
    rw [frzL]
    split
    · rename_i hp
      obtain ⟨e1, e2⟩ := (FrzCells.flat a r r' H H' hf h).pure hp
      rw [e1, e2]
    · obtain ⟨n, rfl⟩ : ∃ m, n = m + 1 := ⟨n - 1, by simp at hn; omega⟩
      have e : frzA (n + 1) a H = some (normA a, H) := by cases a <;> simp [flatA] at hf <;> simp [frzA, normA]
      rw [e, Option.bind_some]
      simp only
      rw [ih (n + 1) (by simp at hn; omega)]
      rfl
  | own id ver sz m rows r r' H H' hk hm hp h ih =>
    intro n hn
    obtain ⟨n, rfl⟩ : ∃ m, n = m + 1 := ⟨n - 1, by omega⟩
    rw [frzL, if_neg (by simp [pureA])]
    obtain ⟨n, rfl⟩ : ∃ m, n = m + 2 := ⟨n - 2, by simp at hn; omega⟩
    rw [frz_own n id ver sz m rows H hk hm hp, Option.bind_some]
    simp only
    rw [ih (n + 2) (by simp at hn; omega)]
    rfl

/-- A bundle of cells, and another result. -/
theorem oFrz_tup {β : Type} {l l' : List A} {H H' : Heap} (h : FrzCells l H l' H') (hn : pureL l = false) (hl : l.length < 900) (es : List A) (he : pureL es = true) (k : A → Heap → Option β) : oFrz (.tup (.agg l :: es)) H k = k (.tup (.agg l' :: es)) H' := by
  have e1 : frzA 998 (.agg l) H = some (.agg l', H') := by
    rw [show (998 : Nat) = 997 + 1 from rfl]
    simp only [frzA, frzL_cells h 997 (by omega), Option.map_some]
  have e2 : frzL 998 es H' = some (es, H') := by
    rw [show (998 : Nat) = 997 + 1 from rfl]
    cases es with
    | nil => simp [frzL]
    | cons a r => rw [frzL, if_pos he]
  have e3 : frzL 999 (.agg l :: es) H = some (.agg l' :: es, H') := by
    rw [show (999 : Nat) = 998 + 1 from rfl, frzL, if_neg (by simp [hn]), e1, Option.bind_some]
    simp only [e2, Option.map_some]
  have e4 : frzA 1000 (.tup (.agg l :: es)) H = some (.tup (.agg l' :: es), H') := by
    rw [show (1000 : Nat) = 999 + 1 from rfl]
    simp only [frzA, e3, Option.map_some]
  simp only [oFrz, pureA_tup, pureL_cons, pureA_agg, hn, Bool.false_and, Bool.false_eq_true, if_false, e4]
/-- A bundle of cells alone. -/
theorem oFrz_agg {β : Type} {l l' : List A} {H H' : Heap} (h : FrzCells l H l' H') (hn : pureL l = false) (hl : l.length < 900) (k : A → Heap → Option β) : oFrz (.agg l) H k = k (.agg l') H' := by
  have e1 : frzA 1000 (.agg l) H = some (.agg l', H') := by
    rw [show (1000 : Nat) = 999 + 1 from rfl]
    simp only [frzA, frzL_cells h 999 (by omega), Option.map_some]
  simp only [oFrz, pureA_agg, hn, Bool.false_eq_true, if_false, e1]
end Go.Ab

/-
  DIRECTORIES THAT CHANGE: dir.Add, dir.Drop, dir.Born.
-/
set_option linter.unusedSimpArgs false
set_option linter.unusedVariables false
namespace Go.Ab.T
open Go Go.Ab Go.Ab.F

/-- A thing's cells, its lists in objects of its own. -/
def ownRow (t : Thing) (a b c d vc nl : Nat) : List A := [.s (.int .u64 t.id), .s (.int .i64 t.kind), .s (.int .i64 t.label.df), .osl a 1 2 0 t.label.cats.length, .s (.int .i64 t.clear.df), .osl b 1 2 0 t.clear.cats.length, .s (.int .i64 t.quota), .s (.int .i64 t.next), .osl c vc 2 0 nl, .osl d 1 1 0 t.data.length, .s (.int .u64 t.r0), .s (.int .u64 t.r1), .s (.int .u64 t.r2), .s (.int .u64 t.r3), .s (.int .i64 t.minted), .s (.int .i64 t.boot), .s (.bool t.halted), .s (.int .u64 t.value), .s (.int .u64 t.s0.dir), .s (.int .u64 t.s0.seg), .s (.int .u64 t.s1.dir), .s (.int .u64 t.s1.seg), .s (.int .u64 t.s2.dir), .s (.int .u64 t.s2.seg), .s (.int .u64 t.s3.dir), .s (.int .u64 t.s3.seg)]
@[simp] theorem ownRow_ids (t : Thing) (a b c d vc nl : Nat) : idsL (ownRow t a b c d vc nl) = [a, b, c, d] := rfl
@[simp] theorem ownRow_len (t : Thing) (a b c d vc nl : Nat) : (ownRow t a b c d vc nl).length = 26 := rfl
@[simp] theorem ownRow_pure (t : Thing) (a b c d vc nl : Nat) : pureL (ownRow t a b c d vc nl) = false := by simp [ownRow, pureA]

/-- A thing's lists as objects. -/
def own4 (t : Thing) (vc : Nat) (ls : List Link) : Heap := [.live ⟨1, 2, t.label.cats.map catC⟩, .live ⟨1, 2, t.clear.cats.map catC⟩, .live ⟨vc, 2, ls.map linkC⟩, .live ⟨1, 1, t.data.map (cellC .u8)⟩]
def dead4 : Heap := [.dead, .dead, .dead, .dead]

theorem renRow_links (f : Nat → Option Nat) (ls : List Link) : renRows f (ls.map linkC) = some (ls.map linkC) := renRows_map f linkC (fun x => by simp [linkC]) ls
theorem renRow_cats (f : Nat → Option Nat) (ls : List Cat) : renRows f (ls.map catC) = some (ls.map catC) := renRows_map f catC (fun x => by simp [catC]) ls
theorem renRow_data (f : Nat → Option Nat) (ls : List Int) : renRows f (ls.map (cellC .u8)) = some (ls.map (cellC .u8)) := renRows_map f _ (fun x => by simp [cellC]) ls

theorem own4_finish (t : Thing) (a b c d vc : Nat) (ls : List Link) (es : List A) (H : Heap) (he : idsL es = []) (hd : [a, b, c, d].Nodup)
    (ha : H[a]? = some (.live ⟨1, 2, t.label.cats.map catC⟩)) (hb : H[b]? = some (.live ⟨1, 2, t.clear.cats.map catC⟩)) (hc : H[c]? = some (.live ⟨vc, 2, ls.map linkC⟩)) (hdd : H[d]? = some (.live ⟨1, 1, t.data.map (cellC .u8)⟩)) :
    finish 0 (.ok (.tup (.agg (ownRow t a b c d vc ls.length) :: es))) H = some (.ok (.tup (.agg (ownRow t 0 1 2 3 vc ls.length) :: es)), own4 t vc ls) := by
  have hd' := hd
  simp only [List.nodup_cons, List.mem_cons, List.not_mem_nil, or_false, not_or, List.nodup_nil, and_true, not_false_eq_true] at hd'
  obtain ⟨⟨n1, n2, n3⟩, ⟨n4, n5⟩, n6⟩ := hd'
  refine (finish_flat _ (.tup (.agg (ownRow t 0 1 2 3 vc ls.length) :: es)) [a, b, c, d] H (by simp [he]) hd (by simp) (by
    intro id hid
    simp only [List.mem_cons, List.not_mem_nil, or_false] at hid
    rcases hid with rfl | rfl | rfl | rfl
    · refine ⟨by simp [ha, idsRows_map _ catC_ids], fun f => by simp [ha, renRow_cats]⟩
    · refine ⟨by simp [hb, idsRows_map _ catC_ids], fun f => by simp [hb, renRow_cats]⟩
    · refine ⟨by simp [hc, idsRows_map _ linkC_ids], fun f => by simp [hc, renRow_links]⟩
    · refine ⟨by simp [hdd, idsRows_map _ (cellC_ids .u8)], fun f => by simp [hdd, renRow_data]⟩) (by
    have e := renL_of_ids es (idx [a, b, c, d]) he
    have b1 : (a == b) = false := by simpa using n1
    have b2 : (a == c) = false := by simpa using n2
    have b3 : (a == d) = false := by simpa using n3
    have b4 : (b == c) = false := by simpa using n4
    have b5 : (b == d) = false := by simpa using n5
    have b6 : (c == d) = false := by simpa using n6
    simp [ownRow, idx, List.idxOf?_cons, e, b1, b2, b3, b4, b5, b6])).trans ?_
  simp [own4, ha, hb, hc, hdd]

theorem Copy_call {β : Type} (t : Thing) (sm : small t) (h : Heap) (kp k : A → Heap → Option β) :
    oLend thing_Copy [.agg (thingC t)] h kp k = k (.agg (ownRow t h.length (h.length + 1) (h.length + 2) (h.length + 3) 1 t.links.length)) (h ++ own4 t 1 t.links) := by
  have hF := thing_Copy_v t sm
  have hi : (idsL [A.agg (thingC t)]).isEmpty = true := by simp
  have hl : lendL lendFuel [.agg (thingC t)] (if (idsL [A.agg (thingC t)]).isEmpty = true then [] else h) = some [.agg (thingC t)] := lendL_pure 999 _ _ (by simp)
  unfold oLend
  rw [hl]
  simp only [hF]
  simp [copyRow, ownRow, own4, giveBack, backIdx, renRow_cats, renRow_links, renRow_data, setAll]

/-- What a caller gets of a thing whose lists are its own. -/
theorem own4_call {β : Type} (F : CallFn) (args : List A) (t : Thing) (vc : Nat) (ls : List Link) (es : List A) (h : Heap) (kp k : A → Heap → Option β) (ha : pureL args = true) (he : idsL es = []) (hep : pureL es = true)
    (hF : F args [] = some (.ok (.tup (.agg (ownRow t 0 1 2 3 vc ls.length) :: es)), own4 t vc ls)) :
    (oLend F args h kp fun w h' => oFrz w h' k) = k (.tup (.agg (thingC { t with links := ls }) :: es)) (h ++ dead4) := by
  have hi : (idsL args).isEmpty = true := by rw [pureL_ids args ha]; rfl
  have hl : lendL lendFuel args (if (idsL args).isEmpty = true then [] else h) = some args := lendL_pure 999 _ _ ha
  have e1 : (oLend F args h kp fun w h' => oFrz w h' k) = oFrz (.tup (.agg (ownRow t h.length (h.length + 1) (h.length + 2) (h.length + 3) vc ls.length) :: es)) (h ++ own4 t vc ls) k := by
    unfold oLend
    rw [hl]
    simp only [hF]
    have e := renL_of_ids es (backIdx [] h.length) he
    simp [hi, ownRow, own4, giveBack, backIdx, renRow_cats, renRow_links, renRow_data, setAll, renL_of_ids es _ he]
  rw [e1]
  refine oFrz_tup (l' := thingC { t with links := ls }) (H' := h ++ dead4) ?_ (by simp) (by simp) es hep k
  have g0 : (h ++ own4 t vc ls)[h.length]? = some (.live ⟨1, 2, t.label.cats.map catC⟩) := by simp [own4]
  have hcells : FrzCells (ownRow t h.length (h.length + 1) (h.length + 2) (h.length + 3) vc ls.length) (h ++ own4 t vc ls)
      (List.map normA [.s (.int .u64 t.id), .s (.int .i64 t.kind), .s (.int .i64 t.label.df)] ++ (mkF 2 (t.label.cats.map catC) :: normA (.s (.int .i64 t.clear.df)) :: mkF 2 (t.clear.cats.map catC) :: normA (.s (.int .i64 t.quota)) :: normA (.s (.int .i64 t.next)) :: mkF 2 (ls.map linkC) :: mkF 1 (t.data.map (cellC .u8)) ::
        List.map normA [.s (.int .u64 t.r0), .s (.int .u64 t.r1), .s (.int .u64 t.r2), .s (.int .u64 t.r3), .s (.int .i64 t.minted), .s (.int .i64 t.boot), .s (.bool t.halted), .s (.int .u64 t.value), .s (.int .u64 t.s0.dir), .s (.int .u64 t.s0.seg), .s (.int .u64 t.s1.dir), .s (.int .u64 t.s1.seg), .s (.int .u64 t.s2.dir), .s (.int .u64 t.s2.seg), .s (.int .u64 t.s3.dir), .s (.int .u64 t.s3.seg)]))
      ((((((h ++ own4 t vc ls).set h.length .dead).set (h.length + 1) .dead).set (h.length + 2) .dead).set (h.length + 3) .dead)) := by
    refine .flat _ _ _ _ _ rfl (.flat _ _ _ _ _ rfl (.flat _ _ _ _ _ rfl (.own _ 1 2 _ (t.label.cats.map catC) _ _ _ _ (by simp [own4]) (by simp) (pureRows_map _ (fun x => by simp) _)
      (.flat _ _ _ _ _ rfl (.own _ 1 2 _ (t.clear.cats.map catC) _ _ _ _ (by rw [List.getElem?_set_ne (by omega), List.getElem?_append_right (by omega)]; simp [own4]) (by simp) (pureRows_map _ (fun x => by simp) _)
      (.flat _ _ _ _ _ rfl (.flat _ _ _ _ _ rfl (.own _ vc 2 _ (ls.map linkC) _ _ _ _ (by rw [List.getElem?_set_ne (by omega), List.getElem?_set_ne (by omega), List.getElem?_append_right (by omega)]; simp [own4]) (by simp) (pureRows_map _ (fun x => by simp) _)
      (.own _ 1 1 _ (t.data.map (cellC .u8)) _ _ _ _ (by rw [List.getElem?_set_ne (by omega), List.getElem?_set_ne (by omega), List.getElem?_set_ne (by omega), List.getElem?_append_right (by omega)]; simp [own4]) (by simp) (pureRows_map _ (fun x => by simp) _) ?_)))))))))
    repeat (first | exact .nil _ | refine .flat _ _ _ _ _ rfl ?_)
  have hH : ((((h ++ own4 t vc ls).set h.length .dead).set (h.length + 1) .dead).set (h.length + 2) .dead).set (h.length + 3) .dead = h ++ dead4 := by
    rw [List.set_append_right _ _ (by omega), List.set_append_right _ _ (by omega), List.set_append_right _ _ (by omega), List.set_append_right _ _ (by omega)]
    simp [own4, dead4]
  rw [hH] at hcells
  exact hcells
end Go.Ab.T

/-
  DIRECTORIES THAT CHANGE: dir.Add, dir.Drop, dir.Born.
-/
set_option linter.unusedSimpArgs false
set_option linter.unusedVariables false
namespace Go.Ab.T
open Go Go.Ab Go.Ab.F

def addLinks (ls : List Link) (id q : Int) : List Link := ls.take (place ls id) ++ ⟨id, q⟩ :: ls.drop (place ls id)
def dropLinks (ls : List Link) (id : Int) : List Link := ls.take (place ls id) ++ ls.drop (place ls id + 1)
/-- May it not be added? -/
def addErr (t : Thing) (id q : Int) : Int :=
  if has t.links id then 123 else if 16 ≤ t.links.length then 122 else if q < 1 ∨ IntKind.i64.wrap (t.quota - used t) < q then 121 else 0
def withLinks (t : Thing) (ls : List Link) : Thing := { t with links := ls }
/-- One more link. -/
def add (t : Thing) (id q : Int) : Thing := if addErr t id q = 0 then withLinks t (addLinks t.links id q) else t
def drop (t : Thing) (id : Int) : Thing := if has t.links id then withLinks t (dropLinks t.links id) else t

theorem zero_row (t : Thing) : cellsAt (some 26) (thingC t) 0 = some (.agg (thingC t)) := rfl

theorem place_lt_len {ls : List Link} {id : Int} (hs : sortedL ls) (h : has ls id = true) : place ls id < ls.length := by
  rw [← place_has hs] at h
  cases hx : ls[place ls id]? with
  | none => simp [hx] at h
  | some x => exact (List.getElem?_eq_some_iff.1 hx).1

theorem addLinks_len (ls : List Link) (id q : Int) : (addLinks ls id q).length = ls.length + 1 := by
  have := place_le ls id
  simp [addLinks]; omega
theorem dropLinks_len {ls : List Link} {id : Int} (h : place ls id < ls.length) : (dropLinks ls id).length = ls.length - 1 := by
  simp [dropLinks]; omega

end Go.Ab.T

/-
  DIRECTORIES THAT CHANGE: dir.Drop, dir.Born, and what their callers get.
-/
set_option linter.unusedSimpArgs false
set_option linter.unusedVariables false
namespace Go.Ab.T
open Go Go.Ab Go.Ab.F

theorem val_call {β : Type} (F : CallFn) (args : List A) (a : A) (h : Heap) (kp k : A → Heap → Option β) (ha : pureL args = true) (hp : pureA a = true) (hr : idsA a = []) (hF : F args [] = some (.ok a, [])) :
    (oLend F args h kp fun w h' => oFrz w h' k) = k a h := by
  rw [oLend_val _ _ _ _ _ _ ha hr hF, oFrz_pure _ _ _ hp]

def dropErr (t : Thing) (id : Int) : Int := if has t.links id then 0 else 124
theorem dir_Drop_run (t : Thing) (id : Int) (sm : small t) (hs : sortedL t.links) :
    (has t.links id = false ∧ dir_Drop [.agg (thingC t), .s (.int .u64 id)] [] = some (.ok (.tup [.agg (thingC t), .s (.int .i64 124)]), [])) ∨
    (has t.links id = true ∧ dir_Drop [.agg (thingC t), .s (.int .u64 id)] [] = some (.ok (.tup [.agg (ownRow t 0 1 2 3 2 (dropLinks t.links id).length), .s (.int .i64 0)]), own4 t 2 (dropLinks t.links id))) := by
  have s3 := sm.links
  have hp : ∀ (β : Type) (h : Heap) (kp k : A → Heap → Option β), oLend dir_place [.agg (thingC t), .s (.int .u64 id)] h kp k = k (.tup [.s (.int .i64 (place t.links id)), .s (.bool (has t.links id))]) h := fun β h kp k =>
    oLend_val _ _ _ _ _ _ (by simp) (by simp) (dir_place_v t id (by omega) hs)
  cases c1 : has t.links id with
  | false =>
    left
    refine ⟨rfl, ?_⟩
    simp [dir_Drop, hp, c1, zero_row, finish_val]
  | true =>
    right
    refine ⟨rfl, ?_⟩
    have hlt := place_lt_len hs c1
    have hcp := fun (h : Heap) (kp k : A → Heap → Option (Out × Heap)) => Copy_call t sm h kp k
    have hw : IntKind.i64.wrap ((place t.links id : Int) + 1) = ((place t.links id + 1 : Nat) : Int) := by rw [wrap64_id (by omega) (by omega)]; simp
    have hdel : ∀ (H : Heap) (kp k : A → Heap → Option (Out × Heap)), H[4]? = some (.live ⟨1, 2, t.links.map linkC⟩) →
        oCall (primDelete 2 16) [.osl 4 1 2 0 t.links.length, .s (.int .i64 (place t.links id)), .s (.int .i64 ((place t.links id : Int) + 1))] H kp k = k (.osl 4 2 2 0 (t.links.length - 1)) (H.set 4 (.live ⟨2, 2, (dropLinks t.links id).map linkC⟩)) := fun H kp k h4 => by
      rw [show ((place t.links id : Int) + 1) = ((place t.links id + 1 : Nat) : Int) by omega]
      refine (oCall_delete 2 16 H 4 1 t.links.length (place t.links id) (t.links.map linkC) kp k h4 (by simp) hlt (idsRows_map _ linkC_ids _) (fun f l hl => ?_)).trans ?_
      · clear h4
        induction l with
        | nil => rfl
        | cons a r ih =>
          obtain ⟨x, _, rfl⟩ := List.mem_map.1 (hl a (by simp))
          simp [ih fun y hy => hl y (by simp [hy]), linkC]
      · simp [dropLinks, List.map_take, List.map_drop]
    simp [dir_Drop, hp, c1, zero_row, hcp, own4, hw]
    simp [putCells, thingC, ownRow, hdel, cellsAt]
    rw [← dropLinks_len hlt]
    exact own4_finish t 2 3 4 5 2 (dropLinks t.links id) [.s (.int .i64 0)] _ (by simp) (by decide) rfl rfl rfl rfl
theorem Drop_call (t : Thing) (id : Int) (sm : small t) (hs : sortedL t.links) : ∃ ex : Heap, (ex = [] ∨ ex = dead4) ∧ ∀ {β : Type} (h : Heap) (kp k : A → Heap → Option β),
    (oLend dir_Drop [.agg (thingC t), .s (.int .u64 id)] h kp fun w h' => oFrz w h' k) = k (.tup [.agg (thingC (drop t id)), .s (.int .i64 (dropErr t id))]) (h ++ ex) := by
  rcases dir_Drop_run t id sm hs with ⟨he, hF⟩ | ⟨he, hF⟩
  · refine ⟨[], .inl rfl, fun h kp k => ?_⟩
    rw [val_call _ _ _ h kp k (by simp) (by simp) (by simp) hF]
    simp [drop, dropErr, he]
  · refine ⟨dead4, .inr rfl, fun h kp k => ?_⟩
    rw [own4_call _ _ t 2 _ [.s (.int .i64 0)] h kp k (by simp) (by simp) (by simp) hF]
    simp [drop, dropErr, he, withLinks]

/-- One more link, under a name of its own. -/
def born (t : Thing) (q : Int) : Thing × Int × Int :=
  if (fresh t).2 ≠ 0 then (t, 0, (fresh t).2)
  else if addErr t (fresh t).1 q ≠ 0 then (t, 0, addErr t (fresh t).1 q)
  else ({ add t (fresh t).1 q with next := IntKind.i64.wrap (t.next + 1) }, (fresh t).1, 0)
theorem add_next (t : Thing) (id q : Int) : (add t id q).next = t.next := by unfold add; split <;> rfl
end Go.Ab.T

/-
  DirTells: plain.
-/
set_option linter.unusedSimpArgs false
set_option linter.unusedVariables false
namespace Go.Ab.T
open Go Go.Ab Go.Ab.F

theorem goodL_sorted {ls : List Link} (h : goodL ls) : sortedL ls := fun i a b ha hb => (h (i + 1) b hb).2.2.2.2.1 (by omega) a (by simpa using ha)

end Go.Ab.T

/-
  DirBack: plain.
-/
set_option linter.unusedSimpArgs false
set_option linter.unusedVariables false
namespace Go.Ab.T
open Go Go.Ab Go.Ab.F

theorem pairwise_of {ls : List Link} (h : sortedL ls) : ls.Pairwise (fun a b => a.id < b.id) := by
  induction ls with
  | nil => exact .nil
  | cons a ls ih => exact .cons (sortedL_lt h) (ih (sortedL_tail h))
theorem sorted_of {ls : List Link} (h : ls.Pairwise (fun a b => a.id < b.id)) : sortedL ls := by
  intro i a b ha hb
  have hi := (List.getElem?_eq_some_iff.1 ha)
  have hj := (List.getElem?_eq_some_iff.1 hb)
  obtain ⟨h1, rfl⟩ := hi
  obtain ⟨h2, rfl⟩ := hj
  exact List.pairwise_iff_getElem.1 h i (i + 1) h1 h2 (by omega)
theorem take_lt {ls : List Link} (hs : sortedL ls) (id : Int) : ∀ l ∈ ls.take (place ls id), l.id < id := by
  intro l hl
  obtain ⟨i, hi, rfl⟩ := List.mem_iff_getElem.1 hl
  rw [List.length_take] at hi
  rw [List.getElem_take]
  exact (place_lt hs id i _ (List.getElem?_eq_getElem (by omega))).2 (by omega)
theorem drop_ge {ls : List Link} (hs : sortedL ls) (id : Int) : ∀ l ∈ ls.drop (place ls id), ¬ l.id < id := by
  intro l hl hlt
  obtain ⟨i, hi, rfl⟩ := List.mem_iff_getElem.1 hl
  rw [List.length_drop] at hi
  rw [List.getElem_drop] at hlt
  have := (place_lt hs id (place ls id + i) _ (List.getElem?_eq_getElem (by omega))).1 hlt
  omega
theorem no_has {ls : List Link} {id : Int} (h : has ls id = false) : ∀ l ∈ ls, l.id ≠ id := by
  intro l hl he
  have : (ls.find? (fun l => l.id == id)).isSome = true := by
    rw [List.find?_isSome]; exact ⟨l, hl, by simpa using he⟩
  rw [has, this] at h; cases h
theorem addLinks_sorted {ls : List Link} (hs : sortedL ls) {id : Int} (q : Int) (h : has ls id = false) : sortedL (addLinks ls id q) := by
  refine sorted_of ?_
  have hp := pairwise_of hs
  have hno := no_has h
  have hge : ∀ l ∈ ls.drop (place ls id), id < l.id := fun l hl => by
    have h1 := drop_ge hs id l hl
    have h2 := hno l (List.mem_of_mem_drop hl)
    omega
  rw [addLinks, List.pairwise_append]
  refine ⟨hp.sublist (List.take_sublist _ _), .cons hge (hp.sublist (List.drop_sublist _ _)), fun a ha b hb => ?_⟩
  have h1 := take_lt hs id a ha
  rcases List.mem_cons.1 hb with rfl | hb
  · exact h1
  · have := hge b hb; omega
theorem addLinks_place {ls : List Link} (hs : sortedL ls) (id q : Int) : place (addLinks ls id q) id = place ls id := by
  have hle := place_le ls id
  unfold place at *
  rw [addLinks, List.takeWhile_append_of_pos (by
    intro a ha
    simpa using take_lt hs id a ha)]
  simp [place] at hle ⊢
  omega
theorem addLinks_has (ls : List Link) (id q : Int) : has (addLinks ls id q) id = true := by
  rw [has, List.find?_isSome]
  exact ⟨⟨id, q⟩, by simp [addLinks], by simp⟩
theorem drop_addLinks {ls : List Link} (hs : sortedL ls) (id q : Int) : dropLinks (addLinks ls id q) id = ls := by
  have hle := place_le ls id
  rw [dropLinks, addLinks_place hs]
  have hl : (ls.take (place ls id)).length = place ls id := by simp; omega
  rw [addLinks, List.take_append_of_le_length (by omega), List.drop_append]
  have hz : (ls.take (place ls id)).drop (place ls id + 1) = [] := List.drop_eq_nil_of_le (by omega)
  simp [hl, List.take_take, hz]

theorem small_links {t : Thing} (sm : small t) {ls : List Link} (h : ls.length < 8796093021953) : small (withLinks t ls) := ⟨sm.label, sm.clear, h, sm.data⟩
theorem small_next {t : Thing} (sm : small t) (n : Int) : small { t with next := n } := ⟨sm.label, sm.clear, sm.links, sm.data⟩

end Go.Ab.T

/-
  DirHolds: plain.
-/
set_option linter.unusedSimpArgs false
set_option linter.unusedVariables false
namespace Go.Ab.T
open Go Go.Ab Go.Ab.F

structure Act where
  kind : Int
  quota : Int
  id : Int
def actC (t : Act) : List A := [.s (.int .i64 t.kind), .s (.int .i64 t.quota), .s (.int .u64 t.id)]
@[simp] theorem actC_len (t : Act) : (actC t).length = 3 := _root_.id rfl
@[simp] theorem actC_ids (t : Act) : idsL (actC t) = [] := _root_.id rfl
@[simp] theorem actC_pure (t : Act) : pureL (actC t) = true := by simp [actC]
@[simp] theorem actC_at (t : Act) : cellsAt (some 3) (actC t) 0 = some (.agg (actC t)) := _root_.id rfl
@[simp] theorem actC_0 (t : Act) : (actC t)[0]? = some (.s (.int .i64 t.kind)) := _root_.id rfl
@[simp] theorem actC_1 (t : Act) : (actC t)[1]? = some (.s (.int .i64 t.quota)) := _root_.id rfl
@[simp] theorem actC_2 (t : Act) : (actC t)[2]? = some (.s (.int .u64 t.id)) := _root_.id rfl
@[simp] theorem actC_g0 (t : Act) (h : 0 < (actC t).length) : (actC t)[0] = .s (.int .i64 t.kind) := _root_.id rfl
@[simp] theorem actC_g1 (t : Act) (h : 1 < (actC t).length) : (actC t)[1] = .s (.int .i64 t.quota) := _root_.id rfl
@[simp] theorem actC_g2 (t : Act) (h : 2 < (actC t).length) : (actC t)[2] = .s (.int .u64 t.id) := _root_.id rfl

/-! what the links use -/
def sumQ (ls : List Link) : Int := (ls.map Link.quota).sum
theorem fold_sum : ∀ (ls : List Link) (n : Int), (∀ l ∈ ls, 0 ≤ l.quota ∧ l.quota ≤ 48) → 0 ≤ n → n + 48 * ls.length < 1000000 → ls.foldl (fun n l => IntKind.i64.wrap (n + l.quota)) n = n + sumQ ls ∧ 0 ≤ sumQ ls ∧ sumQ ls ≤ 48 * ls.length
  | [], n, _, _, _ => by simp [sumQ]
  | l :: ls, n, h, h0, h1 => by
    have hl := h l (by simp)
    simp only [List.length_cons] at h1
    have hw : IntKind.i64.wrap (n + l.quota) = n + l.quota := wrap64_id (by omega) (by omega)
    obtain ⟨e1, e2, e3⟩ := fold_sum ls (n + l.quota) (fun x hx => h x (by simp [hx])) (by omega) (by omega)
    simp only [List.foldl_cons, hw, e1, sumQ, List.map_cons, List.sum_cons, List.length_cons] at *
    omega
theorem goodL.mem {ls : List Link} (h : goodL ls) : ∀ l ∈ ls, 1 ≤ l.id ∧ l.id < 281474976710656 ∧ 1 ≤ l.quota ∧ l.quota ≤ 48 := by
  intro l hl
  obtain ⟨i, hi, rfl⟩ := List.mem_iff_getElem.1 hl
  have := h i _ (List.getElem?_eq_getElem hi)
  exact ⟨this.1, this.2.1, this.2.2.1, this.2.2.2.1⟩
theorem goodL.len {ls : List Link} (h : goodL ls) : ls.length ≤ 16 := by
  apply Classical.byContradiction
  intro hc
  have := (h 16 (ls[16]'(by omega)) (List.getElem?_eq_getElem (by omega))).2.2.2.2.2
  omega
theorem goodL.mk {ls : List Link} (h : ∀ l ∈ ls, 1 ≤ l.id ∧ l.id < 281474976710656 ∧ 1 ≤ l.quota ∧ l.quota ≤ 48) (hs : sortedL ls) (hl : ls.length ≤ 16) : goodL ls := by
  intro j l hj
  obtain ⟨hlt, rfl⟩ := List.getElem?_eq_some_iff.1 hj
  have := h _ (List.getElem_mem hlt)
  refine ⟨this.1, this.2.1, this.2.2.1, this.2.2.2, fun h0 p hp => ?_, by omega⟩
  exact hs (j - 1) p _ hp (by rw [Nat.sub_add_cancel h0]; exact hj)
theorem used_sum {t : Thing} (h : goodL t.links) : used t = 1 + sumQ t.links ∧ 0 ≤ sumQ t.links ∧ sumQ t.links ≤ 768 := by
  have hl := h.len
  obtain ⟨e1, e2, e3⟩ := fold_sum t.links 1 (fun l hl => by have := h.mem l hl; omega) (by omega) (by omega)
  exact ⟨e1, e2, by omega⟩
theorem sumQ_append (a b : List Link) : sumQ (a ++ b) = sumQ a + sumQ b := by simp [sumQ]
theorem sumQ_add (ls : List Link) (id q : Int) : sumQ (addLinks ls id q) = sumQ ls + q := by
  have h : sumQ ls = sumQ (ls.take (place ls id)) + sumQ (ls.drop (place ls id)) := by rw [← sumQ_append, List.take_append_drop]
  rw [addLinks, sumQ_append, h]
  simp [sumQ]; omega
theorem dropLinks_sub (ls : List Link) (id : Int) : (dropLinks ls id).Sublist ls := by
  have h : (ls.drop (place ls id + 1)).Sublist (ls.drop (place ls id)) := by
    rw [← List.drop_drop]; exact List.drop_sublist _ _
  have := List.Sublist.append (List.Sublist.refl (ls.take (place ls id))) h
  rwa [List.take_append_drop] at this
theorem sumQ_sub {a b : List Link} (h : a.Sublist b) : (∀ l ∈ b, 0 ≤ l.quota) → sumQ a ≤ sumQ b := by
  induction h with
  | slnil => intro _; simp
  | cons x _ ih => intro hb; have := hb x (by simp); have := ih fun l hl => hb l (by simp [hl]); simp only [sumQ, List.map_cons, List.sum_cons] at *; omega
  | cons_cons x _ ih => intro hb; have := ih fun l hl => hb l (by simp [hl]); simp only [sumQ, List.map_cons, List.sum_cons] at *; omega
theorem addLinks_good {ls : List Link} (h : goodL ls) (hl : ls.length < 16) {id q : Int} (hn : has ls id = false) (i1 : 1 ≤ id) (i2 : id < 281474976710656) (q1 : 1 ≤ q) (q2 : q ≤ 48) : goodL (addLinks ls id q) := by
  refine .mk (fun l hm => ?_) (addLinks_sorted (goodL_sorted h) q hn) (by rw [addLinks_len]; omega)
  rw [addLinks, List.mem_append, List.mem_cons] at hm
  rcases hm with hm | rfl | hm
  · exact h.mem l (List.mem_of_mem_take hm)
  · exact ⟨i1, i2, q1, q2⟩
  · exact h.mem l (List.mem_of_mem_drop hm)
theorem dropLinks_good {ls : List Link} (h : goodL ls) (id : Int) : goodL (dropLinks ls id) :=
  .mk (fun l hm => h.mem l ((dropLinks_sub ls id).subset hm)) (sorted_of ((pairwise_of (goodL_sorted h)).sublist (dropLinks_sub ls id))) (Nat.le_trans (dropLinks_sub ls id).length_le h.len)
theorem dropLinks_has {ls : List Link} (hs : sortedL ls) (id : Int) : has (dropLinks ls id) id = false := by
  rw [has, Option.isSome_eq_false_iff, Option.isNone_iff_eq_none, List.find?_eq_none]
  intro l hl
  rw [dropLinks, List.mem_append] at hl
  rcases hl with hl | hl
  · have := take_lt hs id l hl; simp; omega
  · have hp := pairwise_of hs
    obtain ⟨j, hj, rfl⟩ := List.mem_iff_getElem.1 hl
    rw [List.length_drop] at hj
    have hpl : place ls id < ls.length := by omega
    have h1 := List.pairwise_iff_getElem.1 hp (place ls id) (place ls id + 1 + j) hpl (by omega) (by omega)
    have h2 : ¬ ls[place ls id].id < id := fun hlt => by
      have := (place_lt hs id _ _ (List.getElem?_eq_getElem hpl)).1 hlt
      omega
    rw [List.getElem_drop]
    simp; omega

/-! what stays right -/
/-! the walk -/
def hp2 (d : Thing) (bs : List Int) (ver : Nat) : Heap := [.live ⟨0, 26, [thingC d]⟩, .live ⟨ver, 1, bs.map (cellC .u64)⟩]

theorem put_thing (row : List A) (t : Thing) (h : row.length = 26) : putCells row 0 (thingC t) = thingC t := by
  simp [putCells, List.drop_eq_nil_of_le, h]
theorem put_act (row : List A) (t : Act) (h : row.length = 3) : putCells row 0 (actC t) = actC t := by
  simp [putCells, List.drop_eq_nil_of_le, h]

theorem drop_thing (t : Thing) : List.drop 26 (thingC t) = [] := rfl
theorem drop_act (t : Act) : List.drop 3 (actC t) = [] := rfl
theorem app_name (n : Int) (bs : List Int) (ver : Nat) (s0 s2 s3 : Go.Ab.Slot) (hap : appendOk (bs.length + 1) 8) {β : Type} (k : A → Heap → Option β) :
    oAppend none 1 8 (.osl 1 ver 1 0 bs.length) (.osl 4 0 1 0 1) [s0, .live ⟨ver, 1, bs.map (cellC .u64)⟩, s2, s3, .live ⟨0, 1, [[.s (.int .u64 n)]]⟩] k =
      k (.osl 1 (ver + 1) 1 0 (bs.length + 1)) [s0, .live ⟨ver + 1, 1, (bs ++ [n]).map (cellC .u64)⟩, s2, s3, .live ⟨0, 1, [[.s (.int .u64 n)]]⟩] := by
  simp [oAppend_osl, rowsOf_osl, hap, List.take_of_length_le, cellC]

def hst (d : Thing) (bs : List Int) (ver i : Nat) : List A × Heap := ([.osl 1 ver 1 0 bs.length, .s (.int .i64 i)], hp2 d bs ver)
def okAct (a : Act) : Prop := (Lit.int .i64 a.kind).wf = true ∧ (Lit.int .i64 a.quota).wf = true ∧ (Lit.int .u64 a.id).wf = true
def smallT (id q : Int) : Thing := bareT id 1 ⟨2, []⟩ q
def smallRow (id q : Int) : List A := [.s (.int .u64 id), .s (.int .i64 1), .s (.int .i64 2), .s (.slice none 0 0), .s (.int .i64 0), .s (.slice none 0 0), .s (.int .i64 q), .s (.int .i64 0), .s (.slice none 0 0), .s (.slice none 0 0), .s (.int .u64 0), .s (.int .u64 0), .s (.int .u64 0), .s (.int .u64 0), .s (.int .i64 0), .s (.int .i64 0), .s (.bool false), .s (.int .u64 0), .s (.int .u64 0), .s (.int .u64 0), .s (.int .u64 0), .s (.int .u64 0), .s (.int .u64 0), .s (.int .u64 0), .s (.int .u64 0), .s (.int .u64 0)]
end Go.Ab.T

/-
  WHICH THINGS CAN BE: ref11.Right, of every kind.
-/
set_option linter.unusedSimpArgs false
set_option linter.unusedVariables false
namespace Go.Ab.T
open Go Go.Ab Go.Ab.F

theorem putCells_len (row : List A) (off : Nat) (cs : List A) (h : off + cs.length ≤ row.length) : (putCells row off cs).length = row.length := by
  simp [putCells]; omega
abbrev hp (t : Thing) (row : List A) : Heap := [Go.Ab.Slot.live ⟨0, 26, [thingC t]⟩, Go.Ab.Slot.live ⟨0, 26, [row]⟩]

def bareThr (t : Thing) : Thing := { t with clear := ⟨0, []⟩, r0 := 0, r1 := 0, r2 := 0, r3 := 0, minted := 0, boot := 0, halted := false }
def rowThr (t : Thing) : List A := [.s (.int .u64 t.id), .s (.int .i64 t.kind), .s (.int .i64 t.label.df), mkF 2 (t.label.cats.map catC), .s (.int .i64 0), .s (.slice none 0 0), .s (.int .i64 t.quota), .s (.int .i64 t.next), mkF 2 (t.links.map linkC), mkF 1 (t.data.map (cellC .u8)), .s (.int .u64 0), .s (.int .u64 0), .s (.int .u64 0), .s (.int .u64 0), .s (.int .i64 0), .s (.int .i64 0), .s (.bool false), .s (.int .u64 t.value), .s (.int .u64 t.s0.dir), .s (.int .u64 t.s0.seg), .s (.int .u64 t.s1.dir), .s (.int .u64 t.s1.seg), .s (.int .u64 t.s2.dir), .s (.int .u64 t.s2.seg), .s (.int .u64 t.s3.dir), .s (.int .u64 t.s3.seg)]
def bareGate (t : Thing) : Thing := { t with clear := ⟨0, []⟩, value := 0 }
def rowGate (t : Thing) : List A := [.s (.int .u64 t.id), .s (.int .i64 t.kind), .s (.int .i64 t.label.df), mkF 2 (t.label.cats.map catC), .s (.int .i64 0), .s (.slice none 0 0), .s (.int .i64 t.quota), .s (.int .i64 t.next), mkF 2 (t.links.map linkC), mkF 1 (t.data.map (cellC .u8)), .s (.int .u64 t.r0), .s (.int .u64 t.r1), .s (.int .u64 t.r2), .s (.int .u64 t.r3), .s (.int .i64 t.minted), .s (.int .i64 t.boot), .s (.bool t.halted), .s (.int .u64 0), .s (.int .u64 t.s0.dir), .s (.int .u64 t.s0.seg), .s (.int .u64 t.s1.dir), .s (.int .u64 t.s1.seg), .s (.int .u64 t.s2.dir), .s (.int .u64 t.s2.seg), .s (.int .u64 t.s3.dir), .s (.int .u64 t.s3.seg)]
def bareSeg (t : Thing) : Thing := { t with data := [] }
def rowSeg (t : Thing) : List A := [.s (.int .u64 t.id), .s (.int .i64 t.kind), .s (.int .i64 t.label.df), mkF 2 (t.label.cats.map catC), .s (.int .i64 t.clear.df), mkF 2 (t.clear.cats.map catC), .s (.int .i64 t.quota), .s (.int .i64 t.next), mkF 2 (t.links.map linkC), .s (.slice none 0 0), .s (.int .u64 t.r0), .s (.int .u64 t.r1), .s (.int .u64 t.r2), .s (.int .u64 t.r3), .s (.int .i64 t.minted), .s (.int .i64 t.boot), .s (.bool t.halted), .s (.int .u64 t.value), .s (.int .u64 t.s0.dir), .s (.int .u64 t.s0.seg), .s (.int .u64 t.s1.dir), .s (.int .u64 t.s1.seg), .s (.int .u64 t.s2.dir), .s (.int .u64 t.s2.seg), .s (.int .u64 t.s3.dir), .s (.int .u64 t.s3.seg)]
def bareSpace (t : Thing) : Thing := { t with s0 := ⟨0, 0⟩, s1 := ⟨0, 0⟩, s2 := ⟨0, 0⟩, s3 := ⟨0, 0⟩ }
def rowSpace (t : Thing) : List A := [.s (.int .u64 t.id), .s (.int .i64 t.kind), .s (.int .i64 t.label.df), mkF 2 (t.label.cats.map catC), .s (.int .i64 t.clear.df), mkF 2 (t.clear.cats.map catC), .s (.int .i64 t.quota), .s (.int .i64 t.next), mkF 2 (t.links.map linkC), mkF 1 (t.data.map (cellC .u8)), .s (.int .u64 t.r0), .s (.int .u64 t.r1), .s (.int .u64 t.r2), .s (.int .u64 t.r3), .s (.int .i64 t.minted), .s (.int .i64 t.boot), .s (.bool t.halted), .s (.int .u64 t.value), .s (.int .u64 0), .s (.int .u64 0), .s (.int .u64 0), .s (.int .u64 0), .s (.int .u64 0), .s (.int .u64 0), .s (.int .u64 0), .s (.int .u64 0)]

theorem okBare {t u : Thing} (ok : okT1 t) (h1 : u.label = t.label) (h2 : u.clear = t.clear ∨ u.clear = ⟨0, []⟩) (h3 : u.links = t.links) (h4 : u.data = t.data ∨ u.data = []) : okT1 u := by
  refine ⟨by rw [h1]; exact ok.label, ?_, by rw [h3]; exact ok.links, ?_⟩
  · rcases h2 with h | h
    · rw [h]; exact ok.clear
    · rw [h]; decide
  · rcases h4 with h | h
    · rw [h]; exact ok.data
    · rw [h]; intro n hn; cases hn

end Go.Ab.T

/-
  AMONG THINGS: finding, and which graphs are sound.
-/
set_option linter.unusedSimpArgs false
set_option linter.unusedVariables false
namespace Go.Ab.T
open Go Go.Ab Go.Ab.F

def zeroT : Thing := bareT 0 0 ⟨0, []⟩ 0
def zeroRow : List A := [.s (.int .u64 0), .s (.int .i64 0), .s (.int .i64 0), .s (.slice none 0 0), .s (.int .i64 0), .s (.slice none 0 0), .s (.int .i64 0), .s (.int .i64 0), .s (.slice none 0 0), .s (.slice none 0 0), .s (.int .u64 0), .s (.int .u64 0), .s (.int .u64 0), .s (.int .u64 0), .s (.int .i64 0), .s (.int .i64 0), .s (.bool false), .s (.int .u64 0), .s (.int .u64 0), .s (.int .u64 0), .s (.int .u64 0), .s (.int .u64 0), .s (.int .u64 0), .s (.int .u64 0), .s (.int .u64 0), .s (.int .u64 0)]
theorem zeroRow_len : zeroRow.length = 26 := rfl
theorem zeroRow_drop : List.drop 26 zeroRow = [] := rfl
theorem zeroRow_ids : idsL zeroRow = [] := rfl
theorem zeroRow_at : cellsAt (some 26) zeroRow 0 = some (.agg zeroRow) := rfl
theorem zeroRow_frz (h : Heap) : FrzCells zeroRow h (thingC zeroT) h := by
  have : FrzCells zeroRow h (zeroRow.map normA) h := by
    unfold zeroRow
    repeat (first | exact .nil _ | refine .flat _ _ _ _ _ rfl ?_)
  exact this

def findT (g : List Thing) (id : Int) : Option Thing := g.find? (fun t => t.id == id)

/-- The names, as keys. -/
def keyL (g : List Thing) : List Link := g.map fun t => ⟨t.id, 0⟩
theorem keyL_get (g : List Thing) (i : Nat) : (keyL g)[i]? = (g[i]?).map fun t => ⟨t.id, 0⟩ := by simp [keyL]

theorem ref13_Graph_iff (g : List Thing) (hg : g.length < 2 ^ 62) : ∃ b : Bool, ref13_Graph [mkF 26 (g.map thingC)] [] = some (.ok (.s (.bool b)), []) ∧ (b = true ↔ sortedL (keyL g)) := by
  simp only [ref13_Graph]
  obtain ⟨q, hQ, hq⟩ := oLoop_inv' (step := ref13_Graph_l1 (mkF 26 (g.map thingC)) []) (s0 := ([.s (.int .i64 1)], []))
    (fun i s => s = ([.s (.int .i64 (i + 1 : Nat))], []) ∧ ∀ (m : Nat) a b, m < i → g[m]? = some a → g[m + 1]? = some b → a.id < b.id)
    (fun q => q = (.ret, [.s (.bool false)], []) ∧ ¬ sortedL (keyL g) ∨ q = (.exit 0, [.any], []) ∧ sortedL (keyL g)) (g.length - 1) ⟨rfl, fun m a b hm => by omega⟩ (by omega)
    (by
      rintro i s hi ⟨rfl, hs⟩
      have hx : g[i]? = some g[i] := List.getElem?_eq_getElem (by omega)
      have hy : g[i + 1]? = some g[i + 1] := List.getElem?_eq_getElem (by omega)
      generalize g[i] = x at hx
      generalize g[i + 1] = y at hy
      have hw : IntKind.i64.wrap (((i + 1 : Nat) : Int) + 1) = ((i + 1 + 1 : Nat) : Int) := by rw [wrap64_id (by omega) (by omega)]; simp
      have hw2 : IntKind.i64.wrap (((i + 1 : Nat) : Int) - 1) = ((i : Nat) : Int) := by rw [wrap64_id (by omega) (by omega)]; simp
      have hlt : ((i + 1 : Nat) : Int) < (g.length : Int) := by omega
      have i1 : ∀ (β : Type) (k : A → Option β), oIdxA 26 (mkF 26 (g.map thingC)) (.s (.int .i64 ((i + 1 : Nat) : Int))) k = k (.cptr (thingC y)) := fun β k => oIdxA_mkF 26 thingC g .i64 (i + 1) y k hy
      have i2 : ∀ (β : Type) (k : A → Option β), oIdxA 26 (mkF 26 (g.map thingC)) (.s (.int .i64 ((i : Nat) : Int))) k = k (.cptr (thingC x)) := fun β k => oIdxA_mkF 26 thingC g .i64 i x k hx
      generalize ((i + 1 : Nat) : Int) = j at hw hw2 hlt i1
      by_cases hc : y.id ≤ x.id
      · right
        exact ⟨_, by simp [ref13_Graph_l1, hlt, i1, i2, hw, hw2, hc, trim, allBelow, oLoadD], .inl ⟨rfl, fun hso => by
          have := hso i _ _ (by rw [keyL_get, hx]; rfl) (by rw [keyL_get, hy]; rfl)
          simp at this; omega⟩⟩
      · left
        refine ⟨([.s (.int .i64 (i + 1 + 1 : Nat))], []), by simp only [ref13_Graph_l1, oLen_mkF, List.length_map, List.getD_cons_zero, oCmp_s, cmpInt_lss, if_true, oCond_s, hlt, decide_true]; simp [i1, i2, hw, hw2, hc, trim, allBelow, oLoadD], rfl, fun m a b hm ha hb => ?_⟩
        rcases Nat.lt_or_ge m i with h | h
        · exact hs m a b h ha hb
        · obtain rfl : m = i := by omega
          rw [hx] at ha; rw [hy] at hb; cases ha; cases hb; omega)
    (by
      rintro s ⟨rfl, hs⟩
      have hge : ¬ (((g.length - 1 + 1 : Nat) : Int) < (g.length : Int)) := by omega
      refine ⟨(.exit 0, [.any], []), ?_, .inr ⟨rfl, fun i a b ha hb => ?_⟩⟩
      · simp only [ref13_Graph_l1, oLen_mkF, List.length_map, List.getD_cons_zero, oCmp_s, cmpInt_lss, if_true, oCond_s, hge, decide_false]
        simp [trim, allBelow]
      · rw [keyL_get] at ha hb
        simp only [Option.map_eq_some_iff] at ha hb
        obtain ⟨a', ha, rfl⟩ := ha
        obtain ⟨b', hb, rfl⟩ := hb
        exact hs i a' b' (by have := (List.getElem?_eq_some_iff.1 hb).1; omega) ha hb)
  rw [hq]
  rcases hQ with ⟨rfl, hs⟩ | ⟨rfl, hs⟩
  · exact ⟨false, by simp [ref13_Graph_k2, finish_val], by simp [hs]⟩
  · exact ⟨true, by simp [ref13_Graph_k2, finish_val], by simp [hs]⟩
theorem ref13_Graph_v (g : List Thing) (hg : g.length < 2 ^ 62) : ∃ b : Bool, ref13_Graph [mkF 26 (g.map thingC)] [] = some (.ok (.s (.bool b)), []) ∧ (b = true → sortedL (keyL g)) := by
  obtain ⟨b, h1, h2⟩ := ref13_Graph_iff g hg
  exact ⟨b, h1, h2.1⟩

/-- Things whose lists are not too long. -/
def okG (g : List Thing) : Prop := g.length < 2 ^ 62 ∧ ∀ t ∈ g, okT1 t ∧ t.data.length < 2 ^ 63 ∧ 0 ≤ t.id ∧ t.id < 18446744073709551616

theorem renRow_ids (f : Nat → Option Nat) (l : List Int) : renRows f (l.map (cellC .u64)) = some (l.map (cellC .u64)) := renRows_map f _ (fun x => by simp [cellC]) l
theorem ids_rows (l : List Int) : idsRows (l.map (cellC .u64)) = [] := idsRows_map _ (cellC_ids .u64) l
theorem ids_pure (l : List Int) : pureRows (l.map (cellC .u64)) = true := pureRows_map _ (fun x => by simp) l

end Go.Ab.T

/-
  WHAT SMALL FUNCTIONS COME TO, over the program's plain types.
-/
set_option linter.unusedSimpArgs false
set_option linter.unusedVariables false
namespace Go.Ab.T
open Go Go.Ab Go.Ab.F

/-- The level of a category. -/
def level (l : Label) (id : Int) : Int :=
  match l.cats.find? (fun c => c.id == id) with
  | some c => c.level
  | none => l.df

end Go.Ab.T

/-
  WHAT IS HIDDEN, OWNED, NESTED.
-/
set_option linter.unusedSimpArgs false
set_option linter.unusedVariables false
namespace Go.Ab.T
open Go Go.Ab Go.Ab.F

/-- The first of a list that has a mark. -/
theorem IndexU_v (En : String → CallFn) (nm : String) (caps : List A) (p : Int → Bool) (xs : List Int) (hp : pureL caps = true) (hc : ∀ x ∈ xs, En nm (.s (.int .u64 x) :: caps) [] = some (.ok (.s (.bool (p x))), [])) (hl : xs.length < 2 ^ 63) :
    ∃ n : Int, slices_IndexFunc_Suint64_uint64 En [mkF 1 (xs.map (cellC .u64)), .fn nm caps] [] = some (.ok (.s (.int .i64 n)), []) ∧ decide (0 ≤ n) = xs.any p := by
  simp only [slices_IndexFunc_Suint64_uint64, oLen_mkF, List.length_map]
  obtain ⟨q, hQ, hq⟩ := oLoop_inv' (step := slices_IndexFunc_Suint64_uint64_l1 En (.s (.int .i64 xs.length)) (mkF 1 (xs.map (cellC .u64))) (.fn nm caps) []) (s0 := ([.s (.int .i64 0)], []))
    (fun i s => s = ([.s (.int .i64 i)], []) ∧ ∀ (j : Nat) x, j < i → xs[j]? = some x → p x = false) (fun q => (∃ n : Nat, q = (.ret, [.s (.int .i64 n)], []) ∧ xs.any p = true) ∨ q = (.exit 0, [.any], []) ∧ xs.any p = false) xs.length ⟨rfl, fun j x hj => by omega⟩ hl
    (by
      rintro i s hi ⟨rfl, hT⟩
      have hx : xs[i]? = some xs[i] := List.getElem?_eq_getElem hi
      have hm := List.mem_of_getElem? hx
      generalize xs[i] = x at hx hm
      have hw := wrap_succ hi hl
      have hC : ∀ (β : Type) (h : Heap) (kp k : A → Heap → Option β), oLend (En nm) (.s (.int .u64 x) :: caps) h kp k = k (.s (.bool (p x))) h := fun β h kp k => oLend_val _ _ _ _ _ _ (by simp [hp]) (by simp) (hc x hm)
      cases hpx : p x with
      | true => exact .inr ⟨_, by simp [slices_IndexFunc_Suint64_uint64_l1, hi, oIdxA_mkF _ _ _ _ _ _ _ hx, hC, hpx, trim, allBelow], .inl ⟨i, rfl, List.any_eq_true.2 ⟨x, hm, hpx⟩⟩⟩
      | false =>
        refine .inl ⟨([.s (.int .i64 (i + 1 : Nat))], []), by simp [slices_IndexFunc_Suint64_uint64_l1, hi, oIdxA_mkF _ _ _ _ _ _ _ hx, hC, hpx, hw, trim, allBelow], rfl, fun j y hj hy => ?_⟩
        rcases Nat.lt_or_ge j i with h | h
        · exact hT j y h hy
        · obtain rfl : j = i := by omega
          rw [hx] at hy; cases hy; exact hpx)
    (by
      rintro s ⟨rfl, hT⟩
      refine ⟨(.exit 0, [.any], []), by simp [slices_IndexFunc_Suint64_uint64_l1, trim, allBelow], .inr ⟨rfl, ?_⟩⟩
      rw [List.any_eq_false]
      intro x hx
      obtain ⟨j, hj, rfl⟩ := List.mem_iff_getElem.1 hx
      simpa using hT j _ hj (List.getElem?_eq_getElem hj))
  have hq' := fun (k : Ex → List A → Heap → Option (Out × Heap)) => hq k
  rcases hQ with ⟨n, rfl, h⟩ | ⟨rfl, h⟩
  · exact ⟨n, by rw [hq']; simp [slices_IndexFunc_Suint64_uint64_k2, finish_val], by rw [h]; simp⟩
  · exact ⟨-1, by rw [hq']; simp [slices_IndexFunc_Suint64_uint64_k2, finish_val], by rw [h]; simp⟩
theorem ContainsU_v (En : String → CallFn) (nm : String) (caps : List A) (p : Int → Bool) (xs : List Int) (hp : pureL caps = true) (hc : ∀ x ∈ xs, En nm (.s (.int .u64 x) :: caps) [] = some (.ok (.s (.bool (p x))), [])) (hl : xs.length < 2 ^ 63) :
    slices_ContainsFunc_Suint64_uint64 En [mkF 1 (xs.map (cellC .u64)), .fn nm caps] [] = some (.ok (.s (.bool (xs.any p))), []) := by
  obtain ⟨n, h1, h2⟩ := IndexU_v En nm caps p xs hp hc hl
  have hC : ∀ (β : Type) (h : Heap) (kp k : A → Heap → Option β), oLend (slices_IndexFunc_Suint64_uint64 En) [mkF 1 (xs.map (cellC .u64)), .fn nm caps] h kp k = k (.s (.int .i64 n)) h := fun β h kp k => oLend_val _ _ _ _ _ _ (by simp [pureA, hp]) (by simp) h1
  simp [slices_ContainsFunc_Suint64_uint64, hC, finish_val, ← h2]
/-! hidden -/
def hidden (t : Thing) (cats : List Int) : Bool := cats.any fun c => decide (4 ≤ level t.label c)
/-! owned -/
def owners (g : List Thing) (c : Int) : List Int := (g.filter fun t => decide (level t.label c = 0)).map Thing.id
theorem owners_succ (g : List Thing) (c : Int) (i : Nat) (t : Thing) (h : g[i]? = some t) : owners (g.take (i + 1)) c = owners (g.take i) c ++ if level t.label c = 0 then [t.id] else [] := by
  rw [List.take_add_one, h]
  by_cases hz : level t.label c = 0 <;> simp [owners, List.filter_append, hz]
theorem owners_le (g : List Thing) (c : Int) : (owners g c).length ≤ g.length := by simp [owners]; exact List.length_filter_le _ _

def owned (g : List Thing) (cats : List Int) : Bool := cats.any fun c => decide (0 < (owners g c).length)
theorem owned_eq (g : List Thing) (cats : List Int) : owned g cats = g.any fun t => cats.any fun c => decide (level t.label c = 0) := by
  rw [Bool.eq_iff_iff]
  simp only [owned, List.any_eq_true, decide_eq_true_eq, owners, List.length_map, List.length_pos_iff_exists_mem, List.mem_filter]
  exact ⟨fun ⟨c, h1, t, h2, h3⟩ => ⟨t, h2, c, h1, h3⟩, fun ⟨t, h2, c, h1, h3⟩ => ⟨c, h1, t, h2, h3⟩⟩
end Go.Ab.T

/-
  NESTED, AND FINDING IN ORDER.
-/
set_option linter.unusedSimpArgs false
set_option linter.unusedVariables false
namespace Go.Ab.T
open Go Go.Ab Go.Ab.F

/-! finding by halves -/
theorem keyL_has (g : List Thing) (id : Int) : has (keyL g) id = (findT g id).isSome := by
  rw [has, findT, Bool.eq_iff_iff, List.find?_isSome, List.find?_isSome]
  constructor
  · rintro ⟨l, hl, h⟩
    obtain ⟨t, ht, rfl⟩ := List.mem_map.1 hl
    exact ⟨t, ht, h⟩
  · rintro ⟨t, ht, h⟩
    exact ⟨⟨t.id, 0⟩, List.mem_map.2 ⟨t, ht, rfl⟩, h⟩
theorem find_place : ∀ (g : List Thing) (hs : sortedL (keyL g)) (id : Int), findT g id = if has (keyL g) id = true then g[place (keyL g) id]? else none
  | [], _, id => by simp [findT, has, keyL]
  | a :: g, hs, id => by
    have ih := find_place g (sortedL_tail hs) id
    have hk : keyL (a :: g) = ⟨a.id, 0⟩ :: keyL g := rfl
    by_cases h1 : a.id < id
    · have hp : place (keyL (a :: g)) id = place (keyL g) id + 1 := by simp [hk, place, h1]
      have hne : (a.id == id) = false := by simp; omega
      have hh : has (keyL (a :: g)) id = has (keyL g) id := by simp [hk, has, List.find?_cons, hne]
      have hf : findT (a :: g) id = findT g id := by simp [findT, List.find?_cons, hne]
      rw [hp, hh, hf, ih]
      simp
    · have hp : place (keyL (a :: g)) id = 0 := by simp [hk, place, h1]
      by_cases h2 : a.id = id
      · have hb : (a.id == id) = true := by simpa using h2
        have hh : has (keyL (a :: g)) id = true := by simp [hk, has, List.find?_cons, hb]
        rw [hp, hh]
        simp [findT, List.find?_cons, hb]
      · have hnone : findT (a :: g) id = none := by
          rw [findT, List.find?_eq_none]
          intro t ht
          rcases List.mem_cons.1 ht with rfl | ht
          · simpa using h2
          · have := sortedL_lt (hk ▸ hs) ⟨t.id, 0⟩ (List.mem_map.2 ⟨t, ht, rfl⟩)
            simp at this ⊢; omega
        have hh : has (keyL (a :: g)) id = false := by rw [keyL_has, hnone]; rfl
        rw [hh, hnone]; simp

theorem search_thing (En : String → CallFn) : slices_BinarySearchFunc_Sapi_Thing_api_Thing_uint64 En = gSearch 26 (some 26) En := by
  funext args objs; rcases args with _ | ⟨a0, _ | ⟨a1, _ | ⟨a2, _ | ⟨a3, r⟩⟩⟩⟩ <;> rfl
theorem graph_place_c1_v (t : Thing) (id : Int) : graph_place_c1 [.agg (thingC t), .s (.int .u64 id)] [] = some (.ok (.s (.int .i64 (cmpI t.id id))), []) := by
  have h : ∀ (β : Type) (x y : Int) (h : Heap) (kp k : A → Heap → Option β), oLend cmp_Compare_uint64 [.s (.int .u64 x), .s (.int .u64 y)] h kp k = k (.s (.int .i64 (cmpI x y))) h := fun β x y h kp k =>
    oLend_val _ _ _ _ _ _ (by simp [pureL, pureA]) (by simp) (cmp_Compare_v x y)
  simp [graph_place_c1, h, finish_val]
theorem graph_place_v (g : List Thing) (id : Int) (hg : g.length < 2 ^ 63) (hs : sortedL (keyL g)) :
    graph_place [mkF 26 (g.map thingC), .s (.int .u64 id)] [] = some (.ok (.tup [.s (.int .i64 (place (keyL g) id)), .s (.bool (has (keyL g) id))]), []) := by
  have h1 := gSearch_v thingE En_graph_place "bailey/graph.place$1" [] (.s (.int .u64 id)) (fun t => cmpI t.id id) g (place (keyL g) id) (by simp [pureL]) rfl rfl rfl
    (fun x _ => by simpa [En_graph_place, thingE] using graph_place_c1_v x id) hg (by have := place_le (keyL g) id; simpa [keyL] using this)
    (fun i t ht => by
      rw [← place_lt hs id i ⟨t.id, 0⟩ (by rw [keyL_get, ht]; rfl)]
      unfold cmpI; by_cases h1 : t.id < id <;> by_cases h2 : id < t.id <;> simp [h1, h2])
  have e : (g[place (keyL g) id]?.any fun x => decide (cmpI x.id id = 0)) = has (keyL g) id := by
    rw [← place_has hs, keyL_get]
    cases g[place (keyL g) id]? <;> rfl
  rw [e] at h1
  have h : ∀ (β : Type) (h : Heap) (kp k : A → Heap → Option β), oLend (gSearch 26 (some 26) En_graph_place) [mkF 26 (g.map thingC), .s (.int .u64 id), .fn "bailey/graph.place$1" []] h kp k = k (.tup [.s (.int .i64 (place (keyL g) id)), .s (.bool (has (keyL g) id))]) h := fun β h kp k =>
    oLend_val _ _ _ _ _ _ (by simp [pureL, pureA]) (by simp) h1
  simp only [graph_place, search_thing]
  simp [h, finish_val, oFrz_pure, pureA, pureL]

/-- A copy that is lent. -/
theorem Copy_frz (t : Thing) (sm : small t) {β : Type} (h : Heap) (kp k : A → Heap → Option β) :
    (oLend thing_Copy [.agg (thingC t)] h kp fun w h' => oFrz w h' k) = k (.agg (thingC t)) (h ++ dead4) := by
  rw [Copy_call t sm]
  refine oFrz_agg (l' := thingC t) (H' := h ++ dead4) ?_ (by simp) (by simp) k
  have hcells : FrzCells (ownRow t h.length (h.length + 1) (h.length + 2) (h.length + 3) 1 t.links.length) (h ++ own4 t 1 t.links)
      (List.map normA [.s (.int .u64 t.id), .s (.int .i64 t.kind), .s (.int .i64 t.label.df)] ++ (mkF 2 (t.label.cats.map catC) :: normA (.s (.int .i64 t.clear.df)) :: mkF 2 (t.clear.cats.map catC) :: normA (.s (.int .i64 t.quota)) :: normA (.s (.int .i64 t.next)) :: mkF 2 (t.links.map linkC) :: mkF 1 (t.data.map (cellC .u8)) ::
        List.map normA [.s (.int .u64 t.r0), .s (.int .u64 t.r1), .s (.int .u64 t.r2), .s (.int .u64 t.r3), .s (.int .i64 t.minted), .s (.int .i64 t.boot), .s (.bool t.halted), .s (.int .u64 t.value), .s (.int .u64 t.s0.dir), .s (.int .u64 t.s0.seg), .s (.int .u64 t.s1.dir), .s (.int .u64 t.s1.seg), .s (.int .u64 t.s2.dir), .s (.int .u64 t.s2.seg), .s (.int .u64 t.s3.dir), .s (.int .u64 t.s3.seg)]))
      ((((((h ++ own4 t 1 t.links).set h.length .dead).set (h.length + 1) .dead).set (h.length + 2) .dead).set (h.length + 3) .dead)) := by
    refine .flat _ _ _ _ _ rfl (.flat _ _ _ _ _ rfl (.flat _ _ _ _ _ rfl (.own _ 1 2 _ (t.label.cats.map catC) _ _ _ _ (by simp [own4]) (by simp) (pureRows_map _ (fun x => by simp) _)
      (.flat _ _ _ _ _ rfl (.own _ 1 2 _ (t.clear.cats.map catC) _ _ _ _ (by rw [List.getElem?_set_ne (by omega), List.getElem?_append_right (by omega)]; simp [own4]) (by simp) (pureRows_map _ (fun x => by simp) _)
      (.flat _ _ _ _ _ rfl (.flat _ _ _ _ _ rfl (.own _ 1 2 _ (t.links.map linkC) _ _ _ _ (by rw [List.getElem?_set_ne (by omega), List.getElem?_set_ne (by omega), List.getElem?_append_right (by omega)]; simp [own4]) (by simp) (pureRows_map _ (fun x => by simp) _)
      (.own _ 1 1 _ (t.data.map (cellC .u8)) _ _ _ _ (by rw [List.getElem?_set_ne (by omega), List.getElem?_set_ne (by omega), List.getElem?_set_ne (by omega), List.getElem?_append_right (by omega)]; simp [own4]) (by simp) (pureRows_map _ (fun x => by simp) _) ?_)))))))))
    repeat (first | exact .nil _ | refine .flat _ _ _ _ _ rfl ?_)
  have hH : ((((h ++ own4 t 1 t.links).set h.length .dead).set (h.length + 1) .dead).set (h.length + 2) .dead).set (h.length + 3) .dead = h ++ dead4 := by
    rw [List.set_append_right _ _ (by omega), List.set_append_right _ _ (by omega), List.set_append_right _ _ (by omega), List.set_append_right _ _ (by omega)]
    simp [own4, dead4]
  rw [hH] at hcells
  exact hcells

theorem graph_Find_v (g : List Thing) (id : Int) (hg : g.length < 2 ^ 63) (hs : sortedL (keyL g)) (hsm : ∀ t ∈ g, small t) : graph_Find [mkF 26 (g.map thingC), .s (.int .u64 id)] [] =
    some (.ok (match findT g id with | some t => .tup [.agg (thingC t), .s (.bool true)] | none => .tup [.agg zeroRow, .s (.bool false)]), []) := by
  have hP : ∀ (β : Type) (h : Heap) (kp k : A → Heap → Option β), oLend graph_place [mkF 26 (g.map thingC), .s (.int .u64 id)] h kp k = k (.tup [.s (.int .i64 (place (keyL g) id)), .s (.bool (has (keyL g) id))]) h := fun β h kp k =>
    oLend_val _ _ _ _ _ _ (by simp) (by simp) (graph_place_v g id hg hs)
  have hfp := find_place g hs id
  simp only [graph_Find]
  rw [show ([A.s (.int .u64 0), .s (.int .i64 0), .s (.int .i64 0), .s (.slice none 0 0), .s (.int .i64 0), .s (.slice none 0 0), .s (.int .i64 0), .s (.int .i64 0), .s (.slice none 0 0), .s (.slice none 0 0), .s (.int .u64 0), .s (.int .u64 0), .s (.int .u64 0), .s (.int .u64 0), .s (.int .i64 0), .s (.int .i64 0), .s (.bool false), .s (.int .u64 0), .s (.int .u64 0), .s (.int .u64 0), .s (.int .u64 0), .s (.int .u64 0), .s (.int .u64 0), .s (.int .u64 0), .s (.int .u64 0), .s (.int .u64 0)]) = zeroRow from rfl]
  have hzne : ¬ zeroRow = [] := by simp [zeroRow]
  cases hh : has (keyL g) id with
  | false =>
    rw [hh] at hfp
    have hf : fillA zeroRow [] = some zeroRow := rfl
    simp [hP, hh, hf, hfp, hzne, zeroRow_len, zeroRow_at, zeroRow_ids, zeroRow_drop, finish_val]
  | true =>
    rw [hh] at hfp
    simp only [if_true] at hfp
    have hsome : (findT g id).isSome = true := by rw [← keyL_has, hh]
    obtain ⟨t, ht⟩ := Option.isSome_iff_exists.1 hsome
    rw [ht] at hfp
    have hi : ∀ (β : Type) (k : A → Option β), oIdxA 26 (mkF 26 (g.map thingC)) (.s (.int .i64 (place (keyL g) id))) k = k (.cptr (thingC t)) := fun β k => oIdxA_mkF 26 thingC g .i64 _ t k hfp.symm
    have hcp := fun (h : Heap) (kp k : A → Heap → Option (Out × Heap)) => Copy_frz t (hsm t (List.mem_of_getElem? hfp.symm)) h kp k
    simp [hP, hh, hi, hcp, ht, hzne, zeroRow_len, zeroRow_at, zeroRow_ids, zeroRow_drop, dead4, put_thing, drop_thing, finish_val]
theorem graph_Find_call (g : List Thing) (id : Int) (hg : g.length < 2 ^ 63) (hs : sortedL (keyL g)) (hsm : ∀ t ∈ g, small t) {β : Type} (h : Heap) (kp k : A → Heap → Option β) :
    (oLend graph_Find [mkF 26 (g.map thingC), .s (.int .u64 id)] h kp fun w h' => oFrz w h' k) = k (.tup [.agg (thingC ((findT g id).getD zeroT)), .s (.bool (findT g id).isSome)]) h := by
  have hv := graph_Find_v g id hg hs hsm
  cases hf : findT g id with
  | some t =>
    rw [hf] at hv
    rw [oLend_val _ _ _ _ _ _ (by simp) (by simp) hv]
    simp
  | none =>
    rw [hf] at hv
    rw [oLend_val _ _ _ _ _ _ (by simp) (by simp [zeroRow_ids]) hv]
    exact oFrz_tup (zeroRow_frz h) (by simp [zeroRow, notSlice]) (by simp [zeroRow]) [.s (.bool false)] (by simp) k
end Go.Ab.T

/-
  NESTED, AND THE VIEW.
-/
set_option linter.unusedSimpArgs false
set_option linter.unusedVariables false
namespace Go.Ab.T
open Go Go.Ab Go.Ab.F

theorem find_self {g : List Thing} (hs : sortedL (keyL g)) {t : Thing} (ht : t ∈ g) : findT g t.id = some t := by
  induction g with
  | nil => cases ht
  | cons a g ih =>
    have hk : keyL (a :: g) = ⟨a.id, 0⟩ :: keyL g := rfl
    rw [hk] at hs
    by_cases he : a = t
    · subst he
      have hb : (a.id == a.id) = true := by simp
      rw [findT, List.find?_cons, hb]
    · have ht' : t ∈ g := by
        rcases List.mem_cons.1 ht with h | h
        · exact absurd h.symm he
        · exact h
      have h1 := sortedL_lt hs ⟨t.id, 0⟩ (List.mem_map.2 ⟨t, ht', rfl⟩)
      have hne : (a.id == t.id) = false := by simp at h1 ⊢; omega
      have h2 := ih (sortedL_tail hs) ht'
      rw [findT, List.find?_cons, hne]
      exact h2
theorem find_mem {g : List Thing} {id : Int} {t : Thing} (h : findT g id = some t) : t ∈ g ∧ t.id = id := ⟨List.mem_of_find?_eq_some h, by have := List.find?_some h; simpa using this⟩
/-! nested -/
def badL (g : List Thing) (cats : List Int) (d : Thing) (l : Link) : Bool := (findT g l.id).isSome && (hidden d cats && !hidden ((findT g l.id).getD zeroT) cats)
def badR (cats : List Int) (d t : Thing) : Bool := hidden d cats && (has d.links t.id && !hidden t cats)
theorem any_find {α : Type} (p : α → Bool) (xs : List α) : xs.any p = (xs.find? p).isSome := by
  rw [Bool.eq_iff_iff, List.any_eq_true, List.find?_isSome]

theorem has_iff (ls : List Link) (id : Int) : has ls id = true ↔ ∃ l ∈ ls, l.id = id := by
  rw [has, List.find?_isSome]; simp
/-! the view -/
def held (g : List Thing) (cats : List Int) (t : Thing) : Bool := g.any fun d => has d.links t.id && !hidden d cats
/-- One thing of the view: whole, or bare. -/
abbrev VR := Thing × Bool
def bareV (t : Thing) : Thing := bareT t.id t.kind ⟨0, []⟩ t.quota
def bareVRow (t : Thing) : List A := [.s (.int .u64 t.id), .s (.int .i64 t.kind), .s (.int .i64 0), .s (.slice none 0 0), .s (.int .i64 0), .s (.slice none 0 0), .s (.int .i64 t.quota), .s (.int .i64 0), .s (.slice none 0 0), .s (.slice none 0 0), .s (.int .u64 0), .s (.int .u64 0), .s (.int .u64 0), .s (.int .u64 0), .s (.int .i64 0), .s (.int .i64 0), .s (.bool false), .s (.int .u64 0), .s (.int .u64 0), .s (.int .u64 0), .s (.int .u64 0), .s (.int .u64 0), .s (.int .u64 0), .s (.int .u64 0), .s (.int .u64 0), .s (.int .u64 0)]
def vrC (v : VR) : List A := if v.2 then bareVRow v.1 else thingC v.1
def vrT (v : VR) : Thing := if v.2 then bareV v.1 else v.1
def viewOne (g : List Thing) (cats : List Int) (t : Thing) : Option VR :=
  if (!hidden t cats || (held g cats t && decide (t.kind = 3))) = true then some (t, false) else if held g cats t = true then some (t, true) else none
def viewR (g : List Thing) (cats : List Int) (ts : List Thing) : List VR := ts.filterMap (viewOne g cats)
def view (g : List Thing) (cats : List Int) : List Thing := (viewR g cats g).map vrT
theorem viewR_succ (g : List Thing) (cats : List Int) (ts : List Thing) (i : Nat) (t : Thing) (h : ts[i]? = some t) : viewR g cats (ts.take (i + 1)) = viewR g cats (ts.take i) ++ (viewOne g cats t).toList := by
  rw [List.take_add_one, h]
  cases hv : viewOne g cats t <;> simp [viewR, List.filterMap_append, hv]
theorem viewR_le (g : List Thing) (cats : List Int) (ts : List Thing) : (viewR g cats ts).length ≤ ts.length := List.length_filterMap_le _ _
theorem vrC_len (v : VR) : (vrC v).length = 26 := by unfold vrC; split <;> rfl
theorem vrC_ids (v : VR) : idsL (vrC v) = [] := by unfold vrC; split <;> rfl
theorem vrC_flat (v : VR) : ∀ a ∈ vrC v, flatA a = true := by unfold vrC; split <;> simp [bareVRow, thingC]
theorem vrC_norm (v : VR) : (vrC v).map normA = thingC (vrT v) := by
  unfold vrC vrT; split
  · rfl
  · simp [thingC]
theorem vr_ids (l : List VR) : idsRows (l.map vrC) = [] := idsRows_map _ vrC_ids l
theorem vr_ren (f : Nat → Option Nat) (l : List VR) : renRows f (l.map vrC) = some (l.map vrC) := renRows_map f vrC (fun v => by
  unfold vrC; split
  · simp [bareVRow]
  · simp [thingC]) l

/-- What is frozen of rows of flat cells. -/
theorem frzL_flat (h : Heap) : ∀ (l : List A) (n : Nat), (∀ a ∈ l, flatA a = true) → frzL (n + l.length + 2) l h = some (l.map normA, h)
  | [], n, _ => by simp [frzL]
  | a :: r, n, hf => by
    rw [show n + (a :: r).length + 2 = (n + r.length + 2) + 1 by simp; omega, frzL]
    split
    · rename_i hp
      rw [norm_pure hp hf]
    · have e1 : frzA (n + r.length + 2) a h = some (normA a, h) := by
        have hfa := hf a (by simp)
        cases a <;> simp [flatA] at hfa <;> simp [frzA, normA]
      rw [e1, Option.bind_some]
      simp only
      rw [frzL_flat h r n fun x hx => hf x (by simp [hx])]
      simp
theorem frzRows_flat (h : Heap) : ∀ (rows : List (List A)) (n : Nat), (∀ r ∈ rows, (∀ a ∈ r, flatA a = true) ∧ r.length ≤ 30) → frzRows (n + rows.length + 40) rows h = some (rows.map (List.map normA), h)
  | [], n, _ => by simp [frzRows, pureRows]
  | r :: rs, n, hf => by
    have hr := hf r (by simp)
    rw [show n + (r :: rs).length + 40 = (n + rs.length + 40) + 1 by simp; omega, frzRows]
    split
    · rename_i hp
      have hall : ∀ x ∈ r :: rs, x.map normA = x := fun x hx => norm_pure (by simp only [pureRows, List.all_eq_true] at hp; exact hp x hx) (hf x hx).1
      have : (r :: rs).map (List.map normA) = (r :: rs).map fun x => x := List.map_congr_left hall
      rw [this]; simp
    · have e1 : frzL (n + rs.length + 40) r h = some (r.map normA, h) := by
        have := frzL_flat h r (n + rs.length + 38 - r.length) hr.1
        rwa [show n + rs.length + 38 - r.length + r.length + 2 = n + rs.length + 40 by omega] at this
      rw [e1, Option.bind_some]
      simp only
      rw [frzRows_flat h rs n fun x hx => hf x (by simp [hx])]
      simp
theorem oFrz_vr (H : Heap) (id ver : Nat) (l : List VR) (hl : l.length < 900) {β : Type} (k : A → Heap → Option β) (hk : H[id]? = some (.live ⟨ver, 26, l.map vrC⟩)) :
    oFrz (.osl id ver 26 0 l.length) H k = k (mkF 26 ((l.map vrT).map thingC)) (H.set id .dead) := by
  have e : frzRows 999 (l.map vrC) (H.set id .dead) = some ((l.map vrC).map (List.map normA), H.set id .dead) := by
    have := frzRows_flat (H.set id .dead) (l.map vrC) (959 - l.length) (fun r hr => by
      obtain ⟨v, _, rfl⟩ := List.mem_map.1 hr
      exact ⟨vrC_flat v, by rw [vrC_len]; decide⟩)
    rwa [show 959 - l.length + (l.map vrC).length + 40 = 999 by simp; omega] at this
  have e2 : (l.map vrC).map (List.map normA) = (l.map vrT).map thingC := by
    simp [vrC_norm]
  have e3 : frzA 1000 (.osl id ver 26 0 l.length) H = some (mkF 26 ((l.map vrT).map thingC), H.set id .dead) := by
    rw [show (1000 : Nat) = 999 + 1 from rfl, frzA, hk]
    simp only [List.length_map, List.drop_zero]
    rw [if_pos ⟨trivial, by omega⟩, List.take_of_length_le (by simp), e, e2]
    rfl
  simp only [oFrz, pureA, Bool.false_eq_true, if_false, e3]
end Go.Ab.T

/-
  THE VIEW.
-/
set_option linter.unusedSimpArgs false
set_option linter.unusedVariables false
namespace Go.Ab.T
open Go Go.Ab Go.Ab.F

theorem app_whole (ver n : Nat) (rows : List (List A)) (row : List A) (o0 o2 : Go.Ab.Slot) (hn : n = rows.length) (hap : appendOk (n + 1) 272) {β : Type} (k : A → Heap → Option β) :
    oAppend none 26 272 (.osl 1 ver 26 0 n) (.osl 7 0 26 0 1) [o0, .live ⟨ver, 26, rows⟩, o2, .dead, .dead, .dead, .dead, .live ⟨0, 26, [row]⟩] k =
      k (.osl 1 (ver + 1) 26 0 (n + 1)) [o0, .live ⟨ver + 1, 26, rows ++ [row]⟩, o2, .dead, .dead, .dead, .dead, .live ⟨0, 26, [row]⟩] := by
  subst hn
  simp [oAppend_osl, rowsOf_osl, hap, List.take_of_length_le]
theorem app_bare (ver n : Nat) (rows : List (List A)) (row : List A) (o0 o2 : Go.Ab.Slot) (hn : n = rows.length) (hap : appendOk (n + 1) 272) {β : Type} (k : A → Heap → Option β) :
    oAppend none 26 272 (.osl 1 ver 26 0 n) (.osl 3 0 26 0 1) [o0, .live ⟨ver, 26, rows⟩, o2, .live ⟨0, 26, [row]⟩] k =
      k (.osl 1 (ver + 1) 26 0 (n + 1)) [o0, .live ⟨ver + 1, 26, rows ++ [row]⟩, o2, .live ⟨0, 26, [row]⟩] := by
  subst hn
  simp [oAppend_osl, rowsOf_osl, hap, List.take_of_length_le]
theorem app_view (ver n : Nat) (rows : List (List A)) (row : List A) (o1 : Go.Ab.Slot) (hn : n = rows.length) (hap : appendOk (n + 1) 272) {β : Type} (k : A → Heap → Option β) :
    oAppend none 26 272 (.osl 0 ver 26 0 n) (.osl 2 0 26 0 1) [.live ⟨ver, 26, rows⟩, o1, .live ⟨0, 26, [row]⟩] k =
      k (.osl 0 (ver + 1) 26 0 (n + 1)) [.live ⟨ver + 1, 26, rows ++ [row]⟩, o1, .live ⟨0, 26, [row]⟩] := by
  subst hn
  simp [oAppend_osl, rowsOf_osl, hap, List.take_of_length_le]
theorem rows_one (rows : List VR) (v : VR) : idsRows (rows.map vrC ++ [vrC v]) = [] := by have := vr_ids (rows ++ [v]); rwa [List.map_append] at this
theorem rows_whole (rows : List VR) (t : Thing) : idsRows (rows.map vrC ++ [thingC t]) = [] := rows_one rows (t, false)
theorem rows_bare (rows : List VR) (t : Thing) : idsRows (rows.map vrC ++ [bareVRow t]) = [] := rows_one rows (t, true)

def vHeap (cats : List Int) (rows : List VR) (ver : Nat) : Heap := [.live ⟨0, 1, [[mkF 1 (cats.map (cellC .u64))]]⟩, .live ⟨ver, 26, rows.map vrC⟩]
def vSt (cats : List Int) (rows : List VR) (ver i : Nat) : List A × Heap := ([.osl 1 ver 26 0 rows.length, .s (.int .i64 i)], vHeap cats rows ver)

/-! the document's view -/
theorem held_take (g : List Thing) (cats : List Int) (t : Thing) (i : Nat) (d : Thing) (h : g[i]? = some d) : held (g.take (i + 1)) cats t = (held (g.take i) cats t || (has d.links t.id && !hidden d cats)) := by
  rw [List.take_add_one, h]
  simp [held]
def rSt (rows : List VR) (ver i : Nat) : List A × Heap := ([.osl 0 ver 26 0 rows.length, .s (.int .i64 i)], [.live ⟨ver, 26, rows.map vrC⟩])
end Go.Ab.T

/-
  GRAPHS: a thing put among others.
-/
set_option linter.unusedSimpArgs false
set_option linter.unusedVariables false
namespace Go.Ab.T
open Go Go.Ab Go.Ab.F

def putT (g : List Thing) (t : Thing) : List Thing :=
  if has (keyL g) t.id then g.set (place (keyL g) t.id) t else g.take (place (keyL g) t.id) ++ t :: g.drop (place (keyL g) t.id)

theorem thing_ids (g : List Thing) : idsRows (g.map thingC) = [] := idsRows_map thingC (fun t => by simp) g
theorem thing_ren (f : Nat → Option Nat) (g : List Thing) : renRows f (g.map thingC) = some (g.map thingC) := renRows_map f thingC (fun t => renL_of_ids _ _ (by simp)) g
theorem thing_pure (g : List Thing) : pureRows (g.map thingC) = true := pureRows_map thingC (fun t => by simp) g

theorem copyAll_v (g : List Thing) (hl : g.length ≤ 1000) (hsm : ∀ t ∈ g, small t) : graph_copyAll [mkF 26 (g.map thingC)] [] = some (.ok (.osl 0 g.length 26 0 g.length), [.live ⟨g.length, 26, g.map thingC⟩]) := by
  obtain ⟨q, rfl, hq⟩ := oLoop_inv' (step := graph_copyAll_l1 (.s (.int .i64 g.length)) (mkF 26 (g.map thingC)) [.live ⟨0, 26, []⟩]) (s0 := ([.osl 0 0 26 0 0, .s (.int .i64 0)], [.live ⟨0, 26, []⟩]))
    (fun i s => s = ([.osl 0 i 26 0 i, .s (.int .i64 i)], [.live ⟨i, 26, (g.take i).map thingC⟩]))
    (fun q => q = (.exit 0, [.osl 0 g.length 26 0 g.length], [.live ⟨g.length, 26, g.map thingC⟩])) g.length (by simp) (by omega)
    (by
      rintro i s hi rfl
      left
      have hx : g[i]? = some g[i] := List.getElem?_eq_getElem hi
      have hm : g[i] ∈ g := List.getElem_mem hi
      generalize g[i] = t at hx hm
      have hw := wrap_succ hi (by omega)
      have hlen : (g.take i).length = i := by simp; omega
      have hz : [A.s (.int .u64 0), .s (.int .i64 0), .s (.int .i64 0), .s (.slice none 0 0), .s (.int .i64 0), .s (.slice none 0 0), .s (.int .i64 0), .s (.int .i64 0), .s (.slice none 0 0), .s (.slice none 0 0), .s (.int .u64 0), .s (.int .u64 0), .s (.int .u64 0), .s (.int .u64 0), .s (.int .i64 0), .s (.int .i64 0), .s (.bool false), .s (.int .u64 0), .s (.int .u64 0), .s (.int .u64 0), .s (.int .u64 0), .s (.int .u64 0), .s (.int .u64 0), .s (.int .u64 0), .s (.int .u64 0), .s (.int .u64 0)] = zeroRow := rfl
      have hzne : ¬ zeroRow = [] := by simp [zeroRow]
      have hcp := fun (h : Heap) (kp k : A → Heap → Option ((List A × Heap) ⊕ (Ex × List A × Heap))) => Copy_frz t (hsm t hm) h kp k
      have hap : appendOk (i + 1) 272 := by constructor <;> omega
      have htk : (g.take (i + 1)).map thingC = (g.take i).map thingC ++ [thingC t] := by rw [List.take_add_one, hx]; simp
      refine ⟨_, ?_, rfl⟩
      rw [htk]
      unfold graph_copyAll_l1
      rw [hz]
      clear htk
      generalize g.take i = L at hlen ⊢
      have hids : idsRows (L.map thingC ++ [thingC t]) = [] := by have := thing_ids (L ++ [t]); rwa [List.map_append] at this
      simp [hi, oIdxA_mkF _ _ _ _ _ _ _ hx, hzne, zeroRow_len, zeroRow_drop, put_thing, drop_thing, hcp, dead4, asRows, oAppend_osl, hap, List.take_of_length_le, hlen, hw, trim, allBelow, hids])
    (by
      rintro s rfl
      refine ⟨_, ?_, rfl⟩
      simp [graph_copyAll_l1, trim, allBelow, thing_ids])
  have hp : ∀ (k : A → Heap → Option (Out × Heap)), oProm 26 (.s (.slice none 0 0)) [] k = k (.osl 0 0 26 0 0) [.live ⟨0, 26, []⟩] := fun k => rfl
  simp only [graph_copyAll, oLen_mkF, List.length_map, hp]
  rw [hq]
  simp only [graph_copyAll_k2]
  exact finish_own 0 g.length 26 _ _ _ rfl (thing_ids g) (fun f => thing_ren f g)

theorem copyAll_call (g : List Thing) (hl : g.length ≤ 1000) (hsm : ∀ t ∈ g, small t) {β : Type} (h : Heap) (kp k : A → Heap → Option β) : oLend graph_copyAll [mkF 26 (g.map thingC)] h kp k = k (.osl h.length g.length 26 0 g.length) (h ++ [.live ⟨g.length, 26, g.map thingC⟩]) :=
  oLend_own graph_copyAll _ _ h kp k g.length 26 g.length (g.map thingC) (by simp) (lendL_pure 999 _ _ (by simp)) (fun f => thing_ren f g) (copyAll_v g hl hsm)

/-- The place, of a list that one owns. -/
theorem place_own {H : Heap} {id v : Nat} {g : List Thing} (hk : H[id]? = some (.live ⟨v, 26, g.map thingC⟩)) (i : Int) (hg : g.length < 2 ^ 63) (hs : sortedL (keyL g)) {β : Type} (kp k : A → Heap → Option β) :
    oLend graph_place [.osl id v 26 0 g.length, .s (.int .u64 i)] H kp k = k (.tup [.s (.int .i64 (place (keyL g) i)), .s (.bool (has (keyL g) i))]) H := by
  have hr : ∀ n, lendRows (n + 1) (g.map thingC) H = some (g.map thingC) := fun n => by
    rw [lendRows.eq_def]; simp [thing_pure g]
  have hl : lendL lendFuel [.osl id v 26 0 g.length, .s (.int .u64 i)] (if (idsL [A.osl id v 26 0 g.length, A.s (.int .u64 i)]).isEmpty = true then [] else H) = some [mkF 26 (g.map thingC), .s (.int .u64 i)] := by
    rw [if_neg (by simp), show lendFuel = 997 + 1 + 1 + 1 from rfl, lendL_cons' _ _ _ _ (by simp [pureL, pureA])]
    rw [lendA, hk]
    simp only [Nat.zero_add, List.length_map, Nat.le_refl, and_self, if_true, List.drop_zero, true_and]
    rw [List.take_of_length_le (by simp), hr]
    simp [lendL]
  unfold oLend
  rw [hl]
  simp only [graph_place_v g i hg hs]
  simp [ownO, ownH, ownA, ownL, giveBack, setAll]

theorem Put_run (g : List Thing) (t : Thing) (hl : g.length ≤ 100) (hs : sortedL (keyL g)) (hsm : ∀ t ∈ g, small t) (sm : small t) : ∃ ver, graph_Put [mkF 26 (g.map thingC), .agg (thingC t)] [] = some (.ok (.osl 0 ver 26 0 (putT g t).length), [.live ⟨ver, 26, (putT g t).map thingC⟩]) := by
  have hca := fun (h : Heap) (kp k : A → Heap → Option (Out × Heap)) => copyAll_call g (by omega) hsm h kp k
  have hpl := fun (kp k : A → Heap → Option (Out × Heap)) => place_own (H := [.live ⟨0, 26, [thingC t]⟩, .live ⟨g.length, 26, g.map thingC⟩]) (id := 1) (v := g.length) (g := g) rfl t.id (by omega) hs kp k
  have hcp := fun (h : Heap) (kp k : A → Heap → Option (Out × Heap)) => Copy_frz t sm h kp k
  have hple := place_le (keyL g) t.id
  have hkl : (keyL g).length = g.length := by simp [keyL]
  cases hh : has (keyL g) t.id with
  | true =>
    have hpt : putT g t = g.set (place (keyL g) t.id) t := by simp [putT, hh]
    have hlt := place_lt_len hs hh
    rw [hh] at hpl
    refine ⟨g.length, ?_⟩
    have hlt' : place (keyL g) t.id < g.length := by omega
    have hrow : (g.map thingC).set (place (keyL g) t.id) (thingC t) = (g.set (place (keyL g) t.id) t).map thingC := by rw [List.map_set]
    have hx : (g.map thingC)[place (keyL g) t.id]? = some (thingC (g[place (keyL g) t.id]'hlt')) := by simp [hlt']
    generalize g[place (keyL g) t.id]'hlt' = y at hx
    have hput : ∀ y : Thing, putCells (thingC y) 0 (thingC t) = thingC t := fun y => put_thing (thingC y) t rfl
    have hst : ∀ (k : Heap → Option (Out × Heap)), oStore (some 26) (.ptr 1 g.length (place (keyL g) t.id) 0) (.agg (thingC t)) (.live ⟨0, 26, [thingC t]⟩ :: .live ⟨g.length, 26, g.map thingC⟩ :: dead4) k = k (.live ⟨0, 26, [thingC t]⟩ :: .live ⟨g.length, 26, (g.set (place (keyL g) t.id) t).map thingC⟩ :: dead4) := fun k => by
      have hl26 : (thingC t).length = 26 := rfl
      simp only [oStore, List.getElem?_cons_succ, List.getElem?_cons_zero, hx, asCells, hl26, if_true, hput, List.set_cons_succ, List.set_cons_zero, hrow, thingC_len, Nat.zero_add, Nat.le_refl, true_and, and_self]
    have hid : ∀ (k : A → Option (Out × Heap)), oLoad none (.ptr 0 0 0 0) [.live ⟨0, 26, [thingC t]⟩, .live ⟨g.length, 26, g.map thingC⟩] k = k (.s (.int .u64 t.id)) := fun k => by simp [thingC]
    have hfin := finish_own 1 g.length 26 (putT g t).length ((putT g t).map thingC) (.live ⟨0, 26, [thingC t]⟩ :: .live ⟨g.length, 26, (g.set (place (keyL g) t.id) t).map thingC⟩ :: dead4) (by rw [hpt]; rfl) (thing_ids _) (fun f => thing_ren f _)
    have hlen : (putT g t).length = g.length := by rw [hpt]; simp
    rw [hlen] at hfin ⊢
    simp [-oLoad_ptr, -oStore_ptr, graph_Put, hca, hid, hpl]
    simp [-oStore_ptr, hcp, hlt', hst]
    try rw [hrow]
    exact hfin
  | false =>
    have hpt : putT g t = g.take (place (keyL g) t.id) ++ t :: g.drop (place (keyL g) t.id) := by simp [putT, hh]
    rw [hh] at hpl
    have hlen : (putT g t).length = g.length + 1 := by rw [hpt]; simp; omega
    have hrow : (putT g t).map thingC = (g.map thingC).take (place (keyL g) t.id) ++ thingC t :: (g.map thingC).drop (place (keyL g) t.id) := by rw [hpt]; simp
    have hid : ∀ (k : A → Option (Out × Heap)), oLoad none (.ptr 0 0 0 0) [.live ⟨0, 26, [thingC t]⟩, .live ⟨g.length, 26, g.map thingC⟩] k = k (.s (.int .u64 t.id)) := fun k => by simp [thingC]
    have hins := fun (kp k : A → Heap → Option (Out × Heap)) => oCall_insert 26 272 ([Go.Ab.Slot.live ⟨0, 26, [thingC t]⟩, Go.Ab.Slot.live ⟨g.length, 26, g.map thingC⟩] ++ dead4 ++ [Go.Ab.Slot.live ⟨0, 26, [thingC t]⟩]) 1 g.length g.length (place (keyL g) t.id) 6 (g.map thingC) (thingC t) kp k rfl rfl (by simp) (by decide) (by omega) (by constructor <;> omega) (thing_ids g) (by simp) (fun f => thing_ren f g) (fun f => renL_of_ids _ _ (by simp))
    rw [← hrow] at hins
    refine ⟨g.length + 1, ?_⟩
    have hfin := finish_own 1 (g.length + 1) 26 (g.length + 1) ((putT g t).map thingC) (([Go.Ab.Slot.live ⟨0, 26, [thingC t]⟩, Go.Ab.Slot.live ⟨g.length, 26, g.map thingC⟩] ++ dead4 ++ [Go.Ab.Slot.live ⟨0, 26, [thingC t]⟩]).set 1 (.live ⟨g.length + 1, 26, (putT g t).map thingC⟩)) rfl (thing_ids _) (fun f => thing_ren f _)
    rw [hlen]
    have hns : ∀ (k : A → Heap → Option (Out × Heap)), oNewSlice none 26 ((asCells (some 26) (.agg (thingC t))).bind fun c => some [c]) ([.live ⟨0, 26, [thingC t]⟩, .live ⟨g.length, 26, g.map thingC⟩] ++ dead4) k = k (.osl 6 0 26 0 1) ([.live ⟨0, 26, [thingC t]⟩, .live ⟨g.length, 26, g.map thingC⟩] ++ dead4 ++ [.live ⟨0, 26, [thingC t]⟩]) := fun k => by
      simp [asCells, dead4]
    simp [-oLoad_ptr, -oStore_ptr, -oNewSlice_eq, graph_Put, hca, hid, hpl, asRows]
    simp only [oLoad_ptr, List.getElem?_cons_zero, if_true, thingC_at]
    simp only [hcp, hns, hins, hfin]

theorem Put_call (g : List Thing) (t : Thing) (hl : g.length ≤ 100) (hs : sortedL (keyL g)) (hsm : ∀ t ∈ g, small t) (sm : small t) {β : Type} (h : Heap) (kp k : A → Heap → Option β) :
    (oLend graph_Put [mkF 26 (g.map thingC), .agg (thingC t)] h kp fun w h' => oFrz w h' k) = k (mkF 26 ((putT g t).map thingC)) (h ++ [.dead]) := by
  obtain ⟨ver, hv⟩ := Put_run g t hl hs hsm sm
  rw [oLend_own graph_Put _ _ h kp _ ver 26 _ ((putT g t).map thingC) (by simp) (lendL_pure 999 _ _ (by simp)) (fun f => thing_ren f _) hv]
  rw [oFrz_own _ h.length ver 26 _ ((putT g t).map thingC) k (by simp) (by simp) (thing_pure _)]
  simp

/-! what is put is found -/
theorem keyL_put_new {g : List Thing} {t : Thing} (h : has (keyL g) t.id = false) : keyL (putT g t) = addLinks (keyL g) t.id 0 := by
  have e : putT g t = g.take (place (keyL g) t.id) ++ t :: g.drop (place (keyL g) t.id) := by simp [putT, h]
  rw [e, addLinks]
  generalize place (keyL g) t.id = p
  simp [keyL]
theorem find_id {g : List Thing} {t : Thing} (hs : sortedL (keyL g)) (h : has (keyL g) t.id = true) : ∃ y, g[place (keyL g) t.id]? = some y ∧ y.id = t.id := by
  have hf := find_place g hs t.id
  rw [h, if_pos rfl] at hf
  rw [keyL_has] at h
  obtain ⟨y, hy⟩ := Option.isSome_iff_exists.1 h
  exact ⟨y, by rw [← hf]; exact hy, by have := List.find?_some hy; simpa using this⟩
theorem keyL_put_old {g : List Thing} {t : Thing} (hs : sortedL (keyL g)) (h : has (keyL g) t.id = true) : keyL (putT g t) = keyL g := by
  obtain ⟨y, hy, hi⟩ := find_id hs h
  have e : putT g t = g.set (place (keyL g) t.id) t := by simp [putT, h]
  rw [e]
  generalize place (keyL g) t.id = p at hy
  apply List.ext_getElem?
  intro j
  rw [keyL_get, keyL_get, List.getElem?_set]
  split
  · rename_i hj
    subst hj
    have : p < g.length := (List.getElem?_eq_some_iff.1 hy).1
    simp [this, hy, hi]
    have h2 := (List.getElem?_eq_some_iff.1 hy).2
    rw [h2, hi]
  · rfl
theorem put_sorted {g : List Thing} (hs : sortedL (keyL g)) (t : Thing) : sortedL (keyL (putT g t)) := by
  cases h : has (keyL g) t.id with
  | true => rw [keyL_put_old hs h]; exact hs
  | false => rw [keyL_put_new h]; exact addLinks_sorted hs 0 h
theorem mem_put {g : List Thing} (t : Thing) : t ∈ putT g t ∨ place (keyL g) t.id ≥ g.length := by
  unfold putT
  split
  · rcases Nat.lt_or_ge (place (keyL g) t.id) g.length with h | h
    · exact .inl (List.mem_set h t)
    · exact .inr h
  · left; simp
theorem put_find_self {g : List Thing} (hs : sortedL (keyL g)) (t : Thing) : findT (putT g t) t.id = some t := by
  refine find_self (put_sorted hs t) ?_
  cases h : has (keyL g) t.id with
  | true =>
    have := place_lt_len hs h
    have hkl : (keyL g).length = g.length := by simp [keyL]
    rcases mem_put (g := g) t with h | h
    · exact h
    · omega
  | false => simp [putT, h]
theorem put_find_ne {g : List Thing} (hs : sortedL (keyL g)) (t : Thing) {id : Int} (hne : id ≠ t.id) : findT (putT g t) id = findT g id := by
  have hne' : (t.id == id) = false := by simp; omega
  cases h : has (keyL g) t.id with
  | true =>
    obtain ⟨y, hy, hi⟩ := find_id hs h
    have hlt := (List.getElem?_eq_some_iff.1 hy).1
    have hy' : g[place (keyL g) t.id] = y := (List.getElem?_eq_some_iff.1 hy).2
    have hp : putT g t = g.take (place (keyL g) t.id) ++ t :: g.drop (place (keyL g) t.id + 1) := by
      simp only [putT, h, if_true]
      rw [List.set_eq_take_append_cons_drop, if_pos hlt]
    have hg : g = g.take (place (keyL g) t.id) ++ y :: g.drop (place (keyL g) t.id + 1) := by
      conv => lhs; rw [← List.take_append_drop (place (keyL g) t.id) g, List.drop_eq_getElem_cons hlt, hy']
    have hyne : (y.id == id) = false := by simp; omega
    have e2 : findT g id = findT (g.take (place (keyL g) t.id) ++ y :: g.drop (place (keyL g) t.id + 1)) id := congrArg (findT · id) hg
    rw [hp, e2]
    simp [findT, List.find?_append, List.find?_cons, hne', hyne]
  | false =>
    have hp : putT g t = g.take (place (keyL g) t.id) ++ t :: g.drop (place (keyL g) t.id) := by simp [putT, h]
    have e2 : findT g id = findT (g.take (place (keyL g) t.id) ++ g.drop (place (keyL g) t.id)) id := by rw [List.take_append_drop]
    rw [hp, e2]
    generalize g.take (place (keyL g) t.id) = a1
    generalize g.drop (place (keyL g) t.id) = a2
    simp [findT, List.find?_append, List.find?_cons, hne']
theorem put_mem {g : List Thing} {t x : Thing} (h : x ∈ putT g t) : x ∈ g ∨ x = t := by
  unfold putT at h
  split at h
  · rcases List.mem_or_eq_of_mem_set h with h | h
    · exact .inl h
    · exact .inr h
  · rw [List.mem_append, List.mem_cons] at h
    rcases h with h | h | h
    · exact .inl (List.mem_of_mem_take h)
    · exact .inr h
    · exact .inl (List.mem_of_mem_drop h)
theorem put_len (g : List Thing) (t : Thing) : (putT g t).length ≤ g.length + 1 := by
  unfold putT
  split
  · simp
  · simp; omega
end Go.Ab.T

/-
  GRAPHS: what is put is found.
-/
set_option linter.unusedSimpArgs false
set_option linter.unusedVariables false
namespace Go.Ab.T
open Go Go.Ab Go.Ab.F

theorem okThing.small {t : Thing} (h : okThing t) : small t := by
  have h1 := h.label.2.1.2
  have h2 := h.clear.2.1.2
  have h3 := h.links.1.2
  have h4 := h.data.1.2
  exact ⟨by omega, by omega, by omega, by omega⟩
theorem zeroT_t1 : okT1 zeroT := ⟨by simp [zeroT, bareT], by simp [zeroT, bareT], by simp [zeroT, bareT], fun n hn => by simp [zeroT, bareT] at hn⟩
theorem found_t1 {g : List Thing} (h : ∀ t ∈ g, okT1 t) (id : Int) : okT1 ((findT g id).getD zeroT) := by
  cases hf : findT g id with
  | none => exact zeroT_t1
  | some t => exact h t (find_mem hf).1

theorem alive13_v : law13_graphAlive [] [] = some (.ok (.s (.bool true)), []) := by kernel_rfl
theorem alive13_call {β : Type} (h : Heap) (kp k : A → Heap → Option β) : (oLend law13_graphAlive [] h kp fun w h' => oFrz w h' k) = k (.s (.bool true)) h := by
  rw [oLend_val _ _ _ _ _ _ (by simp) (by simp) alive13_v]
  rfl

/-- A thing of its own. -/
theorem new_row (r : List A) (hl : r.length = 26) (h : Heap) {β : Type} (k : A → Heap → Option β) : oNew none (some 26) (.agg r) h k = k (.ptr h.length 0 0 0) (h ++ [.live ⟨0, 26, [r]⟩]) := by
  have hne : r ≠ [] := by intro h; subst h; simp at hl
  simp [hl, hne]
theorem st_row (r : List A) (hl : r.length = 26) (t : Thing) (h : Heap) {β : Type} (k : Heap → Option β) : oStore (some 26) (.ptr h.length 0 0 0) (.agg (thingC t)) (h ++ [.live ⟨0, 26, [r]⟩]) k = k (h ++ [.live ⟨0, 26, [thingC t]⟩]) := by
  have hp := put_thing r t hl
  simp [hp, hl]
theorem ld_row {h : Heap} {id : Nat} {t : Thing} (hg : h[id]? = some (.live ⟨0, 26, [thingC t]⟩)) {β : Type} (k : A → Option β) : oLoad (some 26) (.ptr id 0 0 0) h k = k (.agg (thingC t)) := by
  simp [hg]
theorem ld_id {h : Heap} {id : Nat} {t : Thing} (hg : h[id]? = some (.live ⟨0, 26, [thingC t]⟩)) {β : Type} (k : A → Option β) : oLoad none (.ptr id 0 0 0) h k = k (.s (.int .u64 t.id)) := by
  simp [hg, thingC]

theorem Same_call {x y : Thing} (hx : okT1 x) (hy : okT1 y) {β : Type} (h : Heap) (kp k : A → Heap → Option β) : (oLend ref11_Same [.agg (thingC x), .agg (thingC y)] h kp fun w h' => oFrz w h' k) = k (.s (.bool (decide (x = y)))) h := by
  rw [oLend_val _ _ _ _ _ _ (by simp) (by simp) (ref11_Same_v x y hx hy)]
  rfl
theorem Graph_call {g : List Thing} {b : Bool} (hb : ref13_Graph [mkF 26 (g.map thingC)] [] = some (.ok (.s (.bool b)), [])) {β : Type} (h : Heap) (kp k : A → Heap → Option β) : (oLend ref13_Graph [mkF 26 (g.map thingC)] h kp fun w h' => oFrz w h' k) = k (.s (.bool b)) h := by
  rw [oLend_val _ _ _ _ _ _ (by simp) (by simp) hb]
  rfl

set_option maxHeartbeats 1000000 in
theorem GraphPuts_v (g : List Thing) (t : Thing) (id : Int) (w1 : fitsM g.length 272 ∧ ∀ x ∈ g, okThing x) (w2 : okThing t) (w3 : (Lit.int .u64 id).wf = true) :
    law13_GraphPuts [mkF 26 (g.map thingC), .agg (thingC t), .s (.int .u64 id)] [] = some (.ok (.s (.bool true)), []) := by
  have hA := fun (h : Heap) (kp k : A → Heap → Option (Out × Heap)) => alive13_call h kp k
  have hz : [A.s (.int .u64 0), .s (.int .i64 0), .s (.int .i64 0), .s (.slice none 0 0), .s (.int .i64 0), .s (.slice none 0 0), .s (.int .i64 0), .s (.int .i64 0), .s (.slice none 0 0), .s (.slice none 0 0), .s (.int .u64 0), .s (.int .u64 0), .s (.int .u64 0), .s (.int .u64 0), .s (.int .i64 0), .s (.int .i64 0), .s (.bool false), .s (.int .u64 0), .s (.int .u64 0), .s (.int .u64 0), .s (.int .u64 0), .s (.int .u64 0), .s (.int .u64 0), .s (.int .u64 0), .s (.int .u64 0), .s (.int .u64 0)] = zeroRow := rfl
  have hN0 : ∀ (k : A → Heap → Option (Out × Heap)), oNew none (some 26) (.agg (thingC t)) [] k = k (.ptr 0 0 0 0) [.live ⟨0, 26, [thingC t]⟩] := fun k => new_row (thingC t) rfl [] k
  have hTs : ∀ (H : Heap) (vs : List A) (n : Nat), n = H.length → trim true n vs H = some (vs, H) := fun H vs n hn => by subst hn; simp [trim]
  by_cases c0 : 60 < g.length
  · have c0' : (60 : Int) < (g.length : Int) := by omega
    simp [-oLoad_ptr, -oStore_ptr, -oNew_agg, law13_GraphPuts, law13_GraphPuts_k2, hN0, hA, c0, c0', hTs, finish_val]
  · have c0' : ¬ (60 : Int) < (g.length : Int) := by omega
    obtain ⟨b, hb, hbs⟩ := ref13_Graph_iff g (by omega)
    have hG := fun (h : Heap) (kp k : A → Heap → Option (Ex × List A × Heap)) => Graph_call hb h kp k
    cases b with
    | false => simp [-oLoad_ptr, -oStore_ptr, -oNew_agg, law13_GraphPuts, law13_GraphPuts_k2, hN0, hA, c0, c0', hG, hTs, finish_val]
    | true =>
      have hs : sortedL (keyL g) := hbs.1 rfl
      have hsm : ∀ x ∈ g, small x := fun x hx => (w1.2 x hx).small
      have hsm2 : ∀ x ∈ putT g t, small x := fun x hx => by
        rcases put_mem hx with h | h
        · exact hsm x h
        · subst h; exact w2.small
      have ht1 : ∀ x ∈ g, okT1 x := fun x hx => (w1.2 x hx).t1
      have hlen := put_len g t
      have hs2 := put_sorted hs t
      obtain ⟨b2, hb2, hbs2⟩ := ref13_Graph_iff (putT g t) (by omega)
      obtain rfl : b2 = true := hbs2.2 hs2
      have hG2 := fun (h : Heap) (kp k : A → Heap → Option (Ex × List A × Heap)) => Graph_call hb2 h kp k
      have hP := fun (h : Heap) (kp k : A → Heap → Option (Out × Heap)) => Put_call g t (by omega) hs hsm w2.small h kp k
      have hF1 := fun (h : Heap) (kp k : A → Heap → Option (Out × Heap)) => graph_Find_call (putT g t) t.id (by omega) hs2 hsm2 h kp k
      rw [put_find_self hs t] at hF1
      have hF2 := fun (h : Heap) (kp k : A → Heap → Option (Out × Heap)) => graph_Find_call (putT g t) id (by omega) hs2 hsm2 h kp k
      have hF3 := fun (h : Heap) (kp k : A → Heap → Option (Out × Heap)) => graph_Find_call g id (by omega) hs hsm h kp k
      have hS1 := fun (h : Heap) (kp k : A → Heap → Option (Ex × List A × Heap)) => Same_call w2.t1 w2.t1 h kp k
      have hL0 := fun (r : Heap) (k : A → Option (Out × Heap)) => ld_row (h := .live ⟨0, 26, [thingC t]⟩ :: r) (id := 0) (t := t) rfl k
      have hI0 := fun (r : Heap) (k : A → Option (Out × Heap)) => ld_id (h := .live ⟨0, 26, [thingC t]⟩ :: r) (id := 0) (t := t) rfl k
      have hL0' := fun (r : Heap) (k : A → Option (Ex × List A × Heap)) => ld_row (h := .live ⟨0, 26, [thingC t]⟩ :: r) (id := 0) (t := t) rfl k
      -- the first found
      have hN1 := fun (k : A → Heap → Option (Out × Heap)) => new_row zeroRow zeroRow_len [.live ⟨0, 26, [thingC t]⟩, .dead] k
      have hS2 := fun (k : Heap → Option (Out × Heap)) => st_row zeroRow zeroRow_len t [.live ⟨0, 26, [thingC t]⟩, .dead] k
      have hL2 := fun (r : Heap) (k : A → Option (Ex × List A × Heap)) => ld_row (h := .live ⟨0, 26, [thingC t]⟩ :: .dead :: .live ⟨0, 26, [thingC t]⟩ :: r) (id := 2) (t := t) rfl k
      simp only [List.length_cons, List.length_nil, Nat.zero_add, List.cons_append, List.nil_append] at hN1 hS2
      have main : law13_GraphPuts_k1 [] (mkF 26 ((putT g t).map thingC)) (.s (.int .u64 id)) (mkF 26 (g.map thingC)) (.ptr 0 0 0 0) .normal [.s (.bool false)] [.live ⟨0, 26, [thingC t]⟩, .dead, .live ⟨0, 26, [thingC t]⟩] = some (.ok (.s (.bool true)), []) := by
        generalize hy : (findT (putT g t) id).getD zeroT = y at hF2
        generalize hyz : (findT g id).getD zeroT = z at hF3
        have hz1 : okT1 z := by rw [← hyz]; exact found_t1 ht1 id
        have hN3 := fun (k : A → Heap → Option (Out × Heap)) => new_row zeroRow zeroRow_len [.live ⟨0, 26, [thingC t]⟩, .dead, .live ⟨0, 26, [thingC t]⟩] k
        have hS3 := fun (k : Heap → Option (Out × Heap)) => st_row zeroRow zeroRow_len y [.live ⟨0, 26, [thingC t]⟩, .dead, .live ⟨0, 26, [thingC t]⟩] k
        have hN4 := fun (k : A → Heap → Option (Out × Heap)) => new_row zeroRow zeroRow_len [.live ⟨0, 26, [thingC t]⟩, .dead, .live ⟨0, 26, [thingC t]⟩, .live ⟨0, 26, [thingC y]⟩] k
        have hS4 := fun (k : Heap → Option (Out × Heap)) => st_row zeroRow zeroRow_len z [.live ⟨0, 26, [thingC t]⟩, .dead, .live ⟨0, 26, [thingC t]⟩, .live ⟨0, 26, [thingC y]⟩] k
        have hL3 := fun (k : A → Option (Out × Heap)) => ld_row (h := [.live ⟨0, 26, [thingC t]⟩, .dead, .live ⟨0, 26, [thingC t]⟩, .live ⟨0, 26, [thingC y]⟩, .live ⟨0, 26, [thingC z]⟩]) (id := 3) (t := y) rfl k
        have hL4 := fun (k : A → Option (Out × Heap)) => ld_row (h := [.live ⟨0, 26, [thingC t]⟩, .dead, .live ⟨0, 26, [thingC t]⟩, .live ⟨0, 26, [thingC y]⟩, .live ⟨0, 26, [thingC z]⟩]) (id := 4) (t := z) rfl k
        simp only [List.length_cons, List.length_nil, Nat.zero_add, List.cons_append, List.nil_append] at hN3 hS3 hN4 hS4
        unfold law13_GraphPuts_k1
        rw [hz]
        by_cases he : id = t.id
        · subst he
          simp [-oLoad_ptr, -oStore_ptr, -oNew_agg, hF2, hF3, hN3, hS3, hN4, hS4, hI0, finish_val]
        · have hyeq : y = z := by rw [← hy, ← hyz, put_find_ne hs t he]
          have hsome : (findT (putT g t) id).isSome = (findT g id).isSome := by rw [put_find_ne hs t he]
          subst hyeq
          have hS5 := fun (h : Heap) (kp k : A → Heap → Option (Out × Heap)) => Same_call hz1 hz1 h kp k
          simp [-oLoad_ptr, -oStore_ptr, -oNew_agg, hF2, hF3, hN3, hS3, hN4, hS4, hI0, he, hsome, hL3, hL4, hS5, finish_val]
      have k2 : law13_GraphPuts_k2 [] (.ptr 0 0 0 0) (mkF 26 (g.map thingC)) (.s (.int .u64 id)) .normal [.s (.bool false)] [.live ⟨0, 26, [thingC t]⟩] = some (.ok (.s (.bool true)), []) := by
        unfold law13_GraphPuts_k2
        rw [hz]
        simp [-oLoad_ptr, -oStore_ptr, -oNew_agg, hL0, hP, hI0, hF1, hN1, hS2, hL2, hL0', hS1, hG2, hTs, main]
      simp [-oLoad_ptr, -oStore_ptr, -oNew_agg, law13_GraphPuts, hN0, hA, c0, c0', hG, hTs, k2]
end Go.Ab.T

/-
  WHAT IS READ OF A VALUE OF THE PROGRAM'S TYPES. Written by a program (tread.py).
-/
set_option linter.unusedSimpArgs false
set_option linter.unusedVariables false
set_option maxRecDepth 10000
namespace Go.Ab.T
open Go Go.Ab Go.Ab.F Go.Proofs

theorem form_u64 (d : Nat) : Form PP (d + 1) 23 (cellC .u64) (wfI .u64) := form_int Try.underlying23
theorem form_i64 (d : Nat) : Form PP (d + 1) 3 (cellC .i64) (wfI .i64) := form_int Try.underlying3
theorem form_u8 (d : Nat) : Form PP (d + 1) 5 (cellC .u8) (wfI .u8) := form_int Try.underlying5
theorem form_bool (d : Nat) : Form PP (d + 1) 4 (fun b : Bool => [.s (.bool b)]) (fun _ => True) := form_bool' Try.underlying4
theorem form_cat (d : Nat) : Form PP (d + 2) 81 catC okCat := by
  intro cs h
  obtain ⟨a, b, rfl, h1, a', b', rfl, h2, rfl⟩ := gd_struct Try.underlying81 h
  obtain ⟨x, rfl, w1⟩ := form_u64 d _ h1
  obtain ⟨y, rfl, w2⟩ := form_i64 d _ h2
  exact ⟨⟨x, y⟩, rfl, w1, w2⟩
theorem form_link (d : Nat) : Form PP (d + 2) 59 linkC okLink := by
  intro cs h
  obtain ⟨a, b, rfl, h1, a', b', rfl, h2, rfl⟩ := gd_struct Try.underlying59 h
  obtain ⟨x, rfl, w1⟩ := form_u64 d _ h1
  obtain ⟨y, rfl, w2⟩ := form_i64 d _ h2
  exact ⟨⟨x, y⟩, rfl, w1, w2⟩
theorem form_slot (d : Nat) : Form PP (d + 2) 31 slotC okSlot := by
  intro cs h
  obtain ⟨a, b, rfl, h1, a', b', rfl, h2, rfl⟩ := gd_struct Try.underlying31 h
  obtain ⟨x, rfl, w1⟩ := form_u64 d _ h1
  obtain ⟨y, rfl, w2⟩ := form_u64 d _ h2
  exact ⟨⟨x, y⟩, rfl, w1, w2⟩
theorem form_cats (d : Nat) : Form PP (d + 3) 24 (fun xs : List Cat => [mkF 2 (xs.map catC)]) (fun xs => fitsM xs.length 16 ∧ ∀ x ∈ xs, okCat x) := form_slice Try.underlying24 (by kernel_rfl) (by kernel_rfl) (form_cat d)
theorem form_links (d : Nat) : Form PP (d + 3) 27 (fun xs : List Link => [mkF 2 (xs.map linkC)]) (fun xs => fitsM xs.length 16 ∧ ∀ x ∈ xs, okLink x) := form_slice Try.underlying27 (by kernel_rfl) (by kernel_rfl) (form_link d)
theorem form_data (d : Nat) : Form PP (d + 2) 28 (fun xs : List Int => [mkF 1 (xs.map (cellC .u8))]) (fun xs => fitsM xs.length 1 ∧ ∀ x ∈ xs, wfI .u8 x) := form_slice Try.underlying28 (by kernel_rfl) (by kernel_rfl) (form_u8 d)
theorem form_label (d : Nat) : Form PP (d + 4) 26 labelC okLabel := by
  intro cs h
  obtain ⟨a, b, rfl, h1, a', b', rfl, h2, rfl⟩ := gd_struct Try.underlying26 h
  obtain ⟨x, rfl, w1⟩ := form_i64 (d + 2) _ h1
  obtain ⟨y, rfl, w2, w3⟩ := form_cats d _ h2
  exact ⟨⟨x, y⟩, rfl, w1, w2, w3⟩
theorem form_regs (d : Nat) : Form PP (d + 2) 29 (fun r : Int × Int × Int × Int => cellC .u64 r.1 ++ (cellC .u64 r.2.1 ++ (cellC .u64 r.2.2.1 ++ cellC .u64 r.2.2.2))) (fun r => wfI .u64 r.1 ∧ wfI .u64 r.2.1 ∧ wfI .u64 r.2.2.1 ∧ wfI .u64 r.2.2.2) := form_four Try.underlying29 (form_u64 d)
theorem form_slots (d : Nat) : Form PP (d + 3) 32 (fun r : Slot × Slot × Slot × Slot => slotC r.1 ++ (slotC r.2.1 ++ (slotC r.2.2.1 ++ slotC r.2.2.2))) (fun r => okSlot r.1 ∧ okSlot r.2.1 ∧ okSlot r.2.2.1 ∧ okSlot r.2.2.2) := form_four Try.underlying32 (form_slot d)
theorem form_thing (d : Nat) : Form PP (d + 5) 34 thingC okThing := by
  intro cs h
  obtain ⟨_, _, rfl, h1, _, _, rfl, h2, _, _, rfl, h3, _, _, rfl, h4, _, _, rfl, h5, _, _, rfl, h6, _, _, rfl, h7, _, _, rfl, h8, _, _, rfl, h9, _, _, rfl, h10, _, _, rfl, h11, _, _, rfl, h12, _, _, rfl, h13, _, _, rfl, h14, rfl⟩ := gd_struct Try.underlying34 h
  obtain ⟨x1, rfl, w1⟩ := form_u64 (d + 3) _ h1
  obtain ⟨x2, rfl, w2⟩ := form_i64 (d + 3) _ h2
  obtain ⟨x3, rfl, w3⟩ := form_label d _ h3
  obtain ⟨x4, rfl, w4⟩ := form_label d _ h4
  obtain ⟨x5, rfl, w5⟩ := form_i64 (d + 3) _ h5
  obtain ⟨x6, rfl, w6⟩ := form_i64 (d + 3) _ h6
  obtain ⟨x7, rfl, w7⟩ := form_links (d + 1) _ h7
  obtain ⟨x8, rfl, w8⟩ := form_data (d + 2) _ h8
  obtain ⟨⟨r0, r1, r2, r3⟩, rfl, w9⟩ := form_regs (d + 2) _ h9
  obtain ⟨x10, rfl, w10⟩ := form_i64 (d + 3) _ h10
  obtain ⟨x11, rfl, w11⟩ := form_i64 (d + 3) _ h11
  obtain ⟨x12, rfl, w12⟩ := form_bool (d + 3) _ h12
  obtain ⟨x13, rfl, w13⟩ := form_u64 (d + 3) _ h13
  obtain ⟨⟨s0, s1, s2, s3⟩, rfl, w14⟩ := form_slots (d + 1) _ h14
  exact ⟨⟨x1, x2, x3, x4, x5, x6, x7, x8, r0, r1, r2, r3, x10, x11, x12, x13, s0, s1, s2, s3⟩, rfl, ⟨w1, w2, w3, w4, w5, w6, w7, w8, w9, w10, w11, w13, w14⟩⟩
theorem form_things (d : Nat) : Form PP (d + 6) 22 (fun xs : List Thing => [mkF 26 (xs.map thingC)]) (fun xs => fitsM xs.length 272 ∧ ∀ x ∈ xs, okThing x) := form_slice Try.underlying22 (by kernel_rfl) (by kernel_rfl) (form_thing d)
theorem form_ids (d : Nat) : Form PP (d + 2) 43 (fun xs : List Int => [mkF 1 (xs.map (cellC .u64))]) (fun xs => fitsM xs.length 8 ∧ ∀ x ∈ xs, wfI .u64 x) := form_slice Try.underlying43 (by kernel_rfl) (by kernel_rfl) (form_u64 d)
end Go.Ab.T
