/-
  THE PLAIN LAWS, AND WHAT THEY STAND ON, TOGETHER.
-/
import Derived.Test.YtdeecocfcihkjaaAbsSimp
import Derived.Test.YtdeecocfcihkjaaFnF
import Derived.Test.YtdeecocfcihkjaaAbsRead
import Derived.KernelRfl
/-
  THE PROGRAM'S PLAIN TYPES, AND THEIR CELLS. Written by a program (types.py).
-/
set_option linter.unusedSimpArgs false
set_option linter.unusedVariables false
namespace Go.Ab.T
open Go Go.Ab

/-- One whole number. -/
def cellC (k : IntKind) (n : Int) : List A := [.s (.int k n)]
@[simp] theorem cellC_len (k : IntKind) (n : Int) : (cellC k n).length = 1 := _root_.id rfl
@[simp] theorem cellC_0 (k : IntKind) (n : Int) : (cellC k n)[0]? = some (.s (.int k n)) := _root_.id rfl
@[simp] theorem cellC_g0 (k : IntKind) (n : Int) (h : 0 < (cellC k n).length) : (cellC k n)[0] = .s (.int k n) := _root_.id rfl
@[simp] theorem cellC_ids (k : IntKind) (n : Int) : idsL (cellC k n) = [] := _root_.id rfl
@[simp] theorem cellC_pure (k : IntKind) (n : Int) : pureL (cellC k n) = true := _root_.id rfl

structure Cat where
  id : Int
  level : Int
  deriving DecidableEq
def catC (t : Cat) : List A := [.s (.int .u64 t.id), .s (.int .i64 t.level)]
@[simp] theorem catC_len (t : Cat) : (catC t).length = 2 := _root_.id rfl
@[simp] theorem catC_ne (t : Cat) : (catC t = []) = False := by simp [catC]
@[simp] theorem catC_ids (t : Cat) : idsL (catC t) = [] := _root_.id rfl
@[simp] theorem catC_pure (t : Cat) : pureL (catC t) = true := by simp [catC]
@[simp] theorem catC_0 (t : Cat) : (catC t)[0]? = some (.s (.int .u64 t.id)) := _root_.id rfl
@[simp] theorem catC_1 (t : Cat) : (catC t)[1]? = some (.s (.int .i64 t.level)) := _root_.id rfl
@[simp] theorem catC_at (t : Cat) : cellsAt (some 2) (catC t) 0 = some (.agg (catC t)) := _root_.id rfl
@[simp] theorem catC_g0 (t : Cat) (h : 0 < (catC t).length) : (catC t)[0] = .s (.int .u64 t.id) := _root_.id rfl
@[simp] theorem catC_g1 (t : Cat) (h : 1 < (catC t).length) : (catC t)[1] = .s (.int .i64 t.level) := _root_.id rfl
@[simp] theorem catC_d0 (t : Cat) : ((catC t).drop 0)[0]? = some (.s (.int .u64 t.id)) := _root_.id rfl
@[simp] theorem catC_d1 (t : Cat) : ((catC t).drop 1)[0]? = some (.s (.int .i64 t.level)) := _root_.id rfl

structure Label where
  df : Int
  cats : List Cat
  deriving DecidableEq
def labelC (t : Label) : List A := [.s (.int .i64 t.df), mkF 2 (t.cats.map catC)]
@[simp] theorem labelC_len (t : Label) : (labelC t).length = 2 := _root_.id rfl
@[simp] theorem labelC_ne (t : Label) : (labelC t = []) = False := by simp [labelC]
@[simp] theorem labelC_ids (t : Label) : idsL (labelC t) = [] := _root_.id rfl
@[simp] theorem labelC_pure (t : Label) : pureL (labelC t) = true := by simp [labelC]
@[simp] theorem labelC_0 (t : Label) : (labelC t)[0]? = some (.s (.int .i64 t.df)) := _root_.id rfl
@[simp] theorem labelC_1 (t : Label) : (labelC t)[1]? = some (mkF 2 (t.cats.map catC)) := _root_.id rfl
@[simp] theorem labelC_at (t : Label) : cellsAt (some 2) (labelC t) 0 = some (.agg (labelC t)) := _root_.id rfl
@[simp] theorem labelC_g0 (t : Label) (h : 0 < (labelC t).length) : (labelC t)[0] = .s (.int .i64 t.df) := _root_.id rfl
@[simp] theorem labelC_g1 (t : Label) (h : 1 < (labelC t).length) : (labelC t)[1] = mkF 2 (t.cats.map catC) := _root_.id rfl
@[simp] theorem labelC_d0 (t : Label) : ((labelC t).drop 0)[0]? = some (.s (.int .i64 t.df)) := _root_.id rfl
@[simp] theorem labelC_d1 (t : Label) : ((labelC t).drop 1)[0]? = some (mkF 2 (t.cats.map catC)) := _root_.id rfl

structure Link where
  id : Int
  quota : Int
  deriving DecidableEq
def linkC (t : Link) : List A := [.s (.int .u64 t.id), .s (.int .i64 t.quota)]
@[simp] theorem linkC_len (t : Link) : (linkC t).length = 2 := _root_.id rfl
@[simp] theorem linkC_ne (t : Link) : (linkC t = []) = False := by simp [linkC]
@[simp] theorem linkC_ids (t : Link) : idsL (linkC t) = [] := _root_.id rfl
@[simp] theorem linkC_pure (t : Link) : pureL (linkC t) = true := by simp [linkC]
@[simp] theorem linkC_0 (t : Link) : (linkC t)[0]? = some (.s (.int .u64 t.id)) := _root_.id rfl
@[simp] theorem linkC_1 (t : Link) : (linkC t)[1]? = some (.s (.int .i64 t.quota)) := _root_.id rfl
@[simp] theorem linkC_at (t : Link) : cellsAt (some 2) (linkC t) 0 = some (.agg (linkC t)) := _root_.id rfl
@[simp] theorem linkC_g0 (t : Link) (h : 0 < (linkC t).length) : (linkC t)[0] = .s (.int .u64 t.id) := _root_.id rfl
@[simp] theorem linkC_g1 (t : Link) (h : 1 < (linkC t).length) : (linkC t)[1] = .s (.int .i64 t.quota) := _root_.id rfl
@[simp] theorem linkC_d0 (t : Link) : ((linkC t).drop 0)[0]? = some (.s (.int .u64 t.id)) := _root_.id rfl
@[simp] theorem linkC_d1 (t : Link) : ((linkC t).drop 1)[0]? = some (.s (.int .i64 t.quota)) := _root_.id rfl

structure Slot where
  dir : Int
  seg : Int
  deriving DecidableEq
def slotC (t : Slot) : List A := [.s (.int .u64 t.dir), .s (.int .u64 t.seg)]
@[simp] theorem slotC_len (t : Slot) : (slotC t).length = 2 := _root_.id rfl
@[simp] theorem slotC_ne (t : Slot) : (slotC t = []) = False := by simp [slotC]
@[simp] theorem slotC_ids (t : Slot) : idsL (slotC t) = [] := _root_.id rfl
@[simp] theorem slotC_pure (t : Slot) : pureL (slotC t) = true := by simp [slotC]
@[simp] theorem slotC_0 (t : Slot) : (slotC t)[0]? = some (.s (.int .u64 t.dir)) := _root_.id rfl
@[simp] theorem slotC_1 (t : Slot) : (slotC t)[1]? = some (.s (.int .u64 t.seg)) := _root_.id rfl
@[simp] theorem slotC_at (t : Slot) : cellsAt (some 2) (slotC t) 0 = some (.agg (slotC t)) := _root_.id rfl
@[simp] theorem slotC_g0 (t : Slot) (h : 0 < (slotC t).length) : (slotC t)[0] = .s (.int .u64 t.dir) := _root_.id rfl
@[simp] theorem slotC_g1 (t : Slot) (h : 1 < (slotC t).length) : (slotC t)[1] = .s (.int .u64 t.seg) := _root_.id rfl
@[simp] theorem slotC_d0 (t : Slot) : ((slotC t).drop 0)[0]? = some (.s (.int .u64 t.dir)) := _root_.id rfl
@[simp] theorem slotC_d1 (t : Slot) : ((slotC t).drop 1)[0]? = some (.s (.int .u64 t.seg)) := _root_.id rfl

structure Extent where
  start : Int
  len : Int
  deriving DecidableEq
def extentC (t : Extent) : List A := [.s (.int .i64 t.start), .s (.int .i64 t.len)]
@[simp] theorem extentC_len (t : Extent) : (extentC t).length = 2 := _root_.id rfl
@[simp] theorem extentC_ne (t : Extent) : (extentC t = []) = False := by simp [extentC]
@[simp] theorem extentC_ids (t : Extent) : idsL (extentC t) = [] := _root_.id rfl
@[simp] theorem extentC_pure (t : Extent) : pureL (extentC t) = true := by simp [extentC]
@[simp] theorem extentC_0 (t : Extent) : (extentC t)[0]? = some (.s (.int .i64 t.start)) := _root_.id rfl
@[simp] theorem extentC_1 (t : Extent) : (extentC t)[1]? = some (.s (.int .i64 t.len)) := _root_.id rfl
@[simp] theorem extentC_at (t : Extent) : cellsAt (some 2) (extentC t) 0 = some (.agg (extentC t)) := _root_.id rfl
@[simp] theorem extentC_g0 (t : Extent) (h : 0 < (extentC t).length) : (extentC t)[0] = .s (.int .i64 t.start) := _root_.id rfl
@[simp] theorem extentC_g1 (t : Extent) (h : 1 < (extentC t).length) : (extentC t)[1] = .s (.int .i64 t.len) := _root_.id rfl
@[simp] theorem extentC_d0 (t : Extent) : ((extentC t).drop 0)[0]? = some (.s (.int .i64 t.start)) := _root_.id rfl
@[simp] theorem extentC_d1 (t : Extent) : ((extentC t).drop 1)[0]? = some (.s (.int .i64 t.len)) := _root_.id rfl

structure Thing where
  id : Int
  kind : Int
  label : Label
  clear : Label
  quota : Int
  next : Int
  links : List Link
  data : List Int
  r0 : Int
  r1 : Int
  r2 : Int
  r3 : Int
  minted : Int
  boot : Int
  halted : Bool
  value : Int
  s0 : Slot
  s1 : Slot
  s2 : Slot
  s3 : Slot
  deriving DecidableEq
def thingC (t : Thing) : List A := [.s (.int .u64 t.id), .s (.int .i64 t.kind), .s (.int .i64 t.label.df), mkF 2 (t.label.cats.map catC), .s (.int .i64 t.clear.df), mkF 2 (t.clear.cats.map catC), .s (.int .i64 t.quota), .s (.int .i64 t.next), mkF 2 (t.links.map linkC), mkF 1 (t.data.map (cellC .u8)), .s (.int .u64 t.r0), .s (.int .u64 t.r1), .s (.int .u64 t.r2), .s (.int .u64 t.r3), .s (.int .i64 t.minted), .s (.int .i64 t.boot), .s (.bool t.halted), .s (.int .u64 t.value), .s (.int .u64 t.s0.dir), .s (.int .u64 t.s0.seg), .s (.int .u64 t.s1.dir), .s (.int .u64 t.s1.seg), .s (.int .u64 t.s2.dir), .s (.int .u64 t.s2.seg), .s (.int .u64 t.s3.dir), .s (.int .u64 t.s3.seg)]
@[simp] theorem thingC_len (t : Thing) : (thingC t).length = 26 := _root_.id rfl
@[simp] theorem thingC_ne (t : Thing) : (thingC t = []) = False := by simp [thingC]
@[simp] theorem thingC_ids (t : Thing) : idsL (thingC t) = [] := _root_.id rfl
@[simp] theorem thingC_pure (t : Thing) : pureL (thingC t) = true := by simp [thingC]
@[simp] theorem thingC_0 (t : Thing) : (thingC t)[0]? = some (.s (.int .u64 t.id)) := _root_.id rfl
@[simp] theorem thingC_1 (t : Thing) : (thingC t)[1]? = some (.s (.int .i64 t.kind)) := _root_.id rfl
@[simp] theorem thingC_2 (t : Thing) : (thingC t)[2]? = some (.s (.int .i64 t.label.df)) := _root_.id rfl
@[simp] theorem thingC_3 (t : Thing) : (thingC t)[3]? = some (mkF 2 (t.label.cats.map catC)) := _root_.id rfl
@[simp] theorem thingC_4 (t : Thing) : (thingC t)[4]? = some (.s (.int .i64 t.clear.df)) := _root_.id rfl
@[simp] theorem thingC_5 (t : Thing) : (thingC t)[5]? = some (mkF 2 (t.clear.cats.map catC)) := _root_.id rfl
@[simp] theorem thingC_6 (t : Thing) : (thingC t)[6]? = some (.s (.int .i64 t.quota)) := _root_.id rfl
@[simp] theorem thingC_7 (t : Thing) : (thingC t)[7]? = some (.s (.int .i64 t.next)) := _root_.id rfl
@[simp] theorem thingC_8 (t : Thing) : (thingC t)[8]? = some (mkF 2 (t.links.map linkC)) := _root_.id rfl
@[simp] theorem thingC_9 (t : Thing) : (thingC t)[9]? = some (mkF 1 (t.data.map (cellC .u8))) := _root_.id rfl
@[simp] theorem thingC_10 (t : Thing) : (thingC t)[10]? = some (.s (.int .u64 t.r0)) := _root_.id rfl
@[simp] theorem thingC_11 (t : Thing) : (thingC t)[11]? = some (.s (.int .u64 t.r1)) := _root_.id rfl
@[simp] theorem thingC_12 (t : Thing) : (thingC t)[12]? = some (.s (.int .u64 t.r2)) := _root_.id rfl
@[simp] theorem thingC_13 (t : Thing) : (thingC t)[13]? = some (.s (.int .u64 t.r3)) := _root_.id rfl
@[simp] theorem thingC_14 (t : Thing) : (thingC t)[14]? = some (.s (.int .i64 t.minted)) := _root_.id rfl
@[simp] theorem thingC_15 (t : Thing) : (thingC t)[15]? = some (.s (.int .i64 t.boot)) := _root_.id rfl
@[simp] theorem thingC_16 (t : Thing) : (thingC t)[16]? = some (.s (.bool t.halted)) := _root_.id rfl
@[simp] theorem thingC_17 (t : Thing) : (thingC t)[17]? = some (.s (.int .u64 t.value)) := _root_.id rfl
@[simp] theorem thingC_18 (t : Thing) : (thingC t)[18]? = some (.s (.int .u64 t.s0.dir)) := _root_.id rfl
@[simp] theorem thingC_19 (t : Thing) : (thingC t)[19]? = some (.s (.int .u64 t.s0.seg)) := _root_.id rfl
@[simp] theorem thingC_20 (t : Thing) : (thingC t)[20]? = some (.s (.int .u64 t.s1.dir)) := _root_.id rfl
@[simp] theorem thingC_21 (t : Thing) : (thingC t)[21]? = some (.s (.int .u64 t.s1.seg)) := _root_.id rfl
@[simp] theorem thingC_22 (t : Thing) : (thingC t)[22]? = some (.s (.int .u64 t.s2.dir)) := _root_.id rfl
@[simp] theorem thingC_23 (t : Thing) : (thingC t)[23]? = some (.s (.int .u64 t.s2.seg)) := _root_.id rfl
@[simp] theorem thingC_24 (t : Thing) : (thingC t)[24]? = some (.s (.int .u64 t.s3.dir)) := _root_.id rfl
@[simp] theorem thingC_25 (t : Thing) : (thingC t)[25]? = some (.s (.int .u64 t.s3.seg)) := _root_.id rfl
@[simp] theorem thingC_at (t : Thing) : cellsAt (some 26) (thingC t) 0 = some (.agg (thingC t)) := _root_.id rfl
@[simp] theorem thingC_label (t : Thing) : cellsAt (some 2) (thingC t) 2 = some (.agg (labelC t.label)) := _root_.id rfl
@[simp] theorem thingC_label_d (t : Thing) : cellsAt (some 2) ((thingC t).drop 2) 0 = some (.agg (labelC t.label)) := _root_.id rfl
@[simp] theorem thingC_clear (t : Thing) : cellsAt (some 2) (thingC t) 4 = some (.agg (labelC t.clear)) := _root_.id rfl
@[simp] theorem thingC_clear_d (t : Thing) : cellsAt (some 2) ((thingC t).drop 4) 0 = some (.agg (labelC t.clear)) := _root_.id rfl
@[simp] theorem thingC_s0 (t : Thing) : cellsAt (some 2) (thingC t) 18 = some (.agg (slotC t.s0)) := _root_.id rfl
@[simp] theorem thingC_s0_d (t : Thing) : cellsAt (some 2) ((thingC t).drop 18) 0 = some (.agg (slotC t.s0)) := _root_.id rfl
@[simp] theorem thingC_s1 (t : Thing) : cellsAt (some 2) (thingC t) 20 = some (.agg (slotC t.s1)) := _root_.id rfl
@[simp] theorem thingC_s1_d (t : Thing) : cellsAt (some 2) ((thingC t).drop 20) 0 = some (.agg (slotC t.s1)) := _root_.id rfl
@[simp] theorem thingC_s2 (t : Thing) : cellsAt (some 2) (thingC t) 22 = some (.agg (slotC t.s2)) := _root_.id rfl
@[simp] theorem thingC_s2_d (t : Thing) : cellsAt (some 2) ((thingC t).drop 22) 0 = some (.agg (slotC t.s2)) := _root_.id rfl
@[simp] theorem thingC_s3 (t : Thing) : cellsAt (some 2) (thingC t) 24 = some (.agg (slotC t.s3)) := _root_.id rfl
@[simp] theorem thingC_s3_d (t : Thing) : cellsAt (some 2) ((thingC t).drop 24) 0 = some (.agg (slotC t.s3)) := _root_.id rfl
def thingC_regsC (t : Thing) : List A := [.s (.int .u64 t.r0), .s (.int .u64 t.r1), .s (.int .u64 t.r2), .s (.int .u64 t.r3)]
@[simp] theorem thingC_regs (t : Thing) : cellsAt (some 4) (thingC t) 10 = some (.agg (thingC_regsC t)) := _root_.id rfl
def thingC_slotsC (t : Thing) : List A := slotC t.s0 ++ slotC t.s1 ++ slotC t.s2 ++ slotC t.s3
@[simp] theorem thingC_slots (t : Thing) : cellsAt (some 8) (thingC t) 18 = some (.agg (thingC_slotsC t)) := _root_.id rfl
@[simp] theorem thingC_g0 (t : Thing) (h : 0 < (thingC t).length) : (thingC t)[0] = .s (.int .u64 t.id) := _root_.id rfl
@[simp] theorem thingC_g1 (t : Thing) (h : 1 < (thingC t).length) : (thingC t)[1] = .s (.int .i64 t.kind) := _root_.id rfl
@[simp] theorem thingC_g2 (t : Thing) (h : 2 < (thingC t).length) : (thingC t)[2] = .s (.int .i64 t.label.df) := _root_.id rfl
@[simp] theorem thingC_g3 (t : Thing) (h : 3 < (thingC t).length) : (thingC t)[3] = mkF 2 (t.label.cats.map catC) := _root_.id rfl
@[simp] theorem thingC_g4 (t : Thing) (h : 4 < (thingC t).length) : (thingC t)[4] = .s (.int .i64 t.clear.df) := _root_.id rfl
@[simp] theorem thingC_g5 (t : Thing) (h : 5 < (thingC t).length) : (thingC t)[5] = mkF 2 (t.clear.cats.map catC) := _root_.id rfl
@[simp] theorem thingC_g6 (t : Thing) (h : 6 < (thingC t).length) : (thingC t)[6] = .s (.int .i64 t.quota) := _root_.id rfl
@[simp] theorem thingC_g7 (t : Thing) (h : 7 < (thingC t).length) : (thingC t)[7] = .s (.int .i64 t.next) := _root_.id rfl
@[simp] theorem thingC_g8 (t : Thing) (h : 8 < (thingC t).length) : (thingC t)[8] = mkF 2 (t.links.map linkC) := _root_.id rfl
@[simp] theorem thingC_g9 (t : Thing) (h : 9 < (thingC t).length) : (thingC t)[9] = mkF 1 (t.data.map (cellC .u8)) := _root_.id rfl
@[simp] theorem thingC_g10 (t : Thing) (h : 10 < (thingC t).length) : (thingC t)[10] = .s (.int .u64 t.r0) := _root_.id rfl
@[simp] theorem thingC_g11 (t : Thing) (h : 11 < (thingC t).length) : (thingC t)[11] = .s (.int .u64 t.r1) := _root_.id rfl
@[simp] theorem thingC_g12 (t : Thing) (h : 12 < (thingC t).length) : (thingC t)[12] = .s (.int .u64 t.r2) := _root_.id rfl
@[simp] theorem thingC_g13 (t : Thing) (h : 13 < (thingC t).length) : (thingC t)[13] = .s (.int .u64 t.r3) := _root_.id rfl
@[simp] theorem thingC_g14 (t : Thing) (h : 14 < (thingC t).length) : (thingC t)[14] = .s (.int .i64 t.minted) := _root_.id rfl
@[simp] theorem thingC_g15 (t : Thing) (h : 15 < (thingC t).length) : (thingC t)[15] = .s (.int .i64 t.boot) := _root_.id rfl
@[simp] theorem thingC_g16 (t : Thing) (h : 16 < (thingC t).length) : (thingC t)[16] = .s (.bool t.halted) := _root_.id rfl
@[simp] theorem thingC_g17 (t : Thing) (h : 17 < (thingC t).length) : (thingC t)[17] = .s (.int .u64 t.value) := _root_.id rfl
@[simp] theorem thingC_g18 (t : Thing) (h : 18 < (thingC t).length) : (thingC t)[18] = .s (.int .u64 t.s0.dir) := _root_.id rfl
@[simp] theorem thingC_g19 (t : Thing) (h : 19 < (thingC t).length) : (thingC t)[19] = .s (.int .u64 t.s0.seg) := _root_.id rfl
@[simp] theorem thingC_g20 (t : Thing) (h : 20 < (thingC t).length) : (thingC t)[20] = .s (.int .u64 t.s1.dir) := _root_.id rfl
@[simp] theorem thingC_g21 (t : Thing) (h : 21 < (thingC t).length) : (thingC t)[21] = .s (.int .u64 t.s1.seg) := _root_.id rfl
@[simp] theorem thingC_g22 (t : Thing) (h : 22 < (thingC t).length) : (thingC t)[22] = .s (.int .u64 t.s2.dir) := _root_.id rfl
@[simp] theorem thingC_g23 (t : Thing) (h : 23 < (thingC t).length) : (thingC t)[23] = .s (.int .u64 t.s2.seg) := _root_.id rfl
@[simp] theorem thingC_g24 (t : Thing) (h : 24 < (thingC t).length) : (thingC t)[24] = .s (.int .u64 t.s3.dir) := _root_.id rfl
@[simp] theorem thingC_g25 (t : Thing) (h : 25 < (thingC t).length) : (thingC t)[25] = .s (.int .u64 t.s3.seg) := _root_.id rfl
@[simp] theorem thingC_d0 (t : Thing) : ((thingC t).drop 0)[0]? = some (.s (.int .u64 t.id)) := _root_.id rfl
@[simp] theorem thingC_d1 (t : Thing) : ((thingC t).drop 1)[0]? = some (.s (.int .i64 t.kind)) := _root_.id rfl
@[simp] theorem thingC_d2 (t : Thing) : ((thingC t).drop 2)[0]? = some (.s (.int .i64 t.label.df)) := _root_.id rfl
@[simp] theorem thingC_d3 (t : Thing) : ((thingC t).drop 3)[0]? = some (mkF 2 (t.label.cats.map catC)) := _root_.id rfl
@[simp] theorem thingC_d4 (t : Thing) : ((thingC t).drop 4)[0]? = some (.s (.int .i64 t.clear.df)) := _root_.id rfl
@[simp] theorem thingC_d5 (t : Thing) : ((thingC t).drop 5)[0]? = some (mkF 2 (t.clear.cats.map catC)) := _root_.id rfl
@[simp] theorem thingC_d6 (t : Thing) : ((thingC t).drop 6)[0]? = some (.s (.int .i64 t.quota)) := _root_.id rfl
@[simp] theorem thingC_d7 (t : Thing) : ((thingC t).drop 7)[0]? = some (.s (.int .i64 t.next)) := _root_.id rfl
@[simp] theorem thingC_d8 (t : Thing) : ((thingC t).drop 8)[0]? = some (mkF 2 (t.links.map linkC)) := _root_.id rfl
@[simp] theorem thingC_d9 (t : Thing) : ((thingC t).drop 9)[0]? = some (mkF 1 (t.data.map (cellC .u8))) := _root_.id rfl
@[simp] theorem thingC_d10 (t : Thing) : ((thingC t).drop 10)[0]? = some (.s (.int .u64 t.r0)) := _root_.id rfl
@[simp] theorem thingC_d11 (t : Thing) : ((thingC t).drop 11)[0]? = some (.s (.int .u64 t.r1)) := _root_.id rfl
@[simp] theorem thingC_d12 (t : Thing) : ((thingC t).drop 12)[0]? = some (.s (.int .u64 t.r2)) := _root_.id rfl
@[simp] theorem thingC_d13 (t : Thing) : ((thingC t).drop 13)[0]? = some (.s (.int .u64 t.r3)) := _root_.id rfl
@[simp] theorem thingC_d14 (t : Thing) : ((thingC t).drop 14)[0]? = some (.s (.int .i64 t.minted)) := _root_.id rfl
@[simp] theorem thingC_d15 (t : Thing) : ((thingC t).drop 15)[0]? = some (.s (.int .i64 t.boot)) := _root_.id rfl
@[simp] theorem thingC_d16 (t : Thing) : ((thingC t).drop 16)[0]? = some (.s (.bool t.halted)) := _root_.id rfl
@[simp] theorem thingC_d17 (t : Thing) : ((thingC t).drop 17)[0]? = some (.s (.int .u64 t.value)) := _root_.id rfl
@[simp] theorem thingC_d18 (t : Thing) : ((thingC t).drop 18)[0]? = some (.s (.int .u64 t.s0.dir)) := _root_.id rfl
@[simp] theorem thingC_d19 (t : Thing) : ((thingC t).drop 19)[0]? = some (.s (.int .u64 t.s0.seg)) := _root_.id rfl
@[simp] theorem thingC_d20 (t : Thing) : ((thingC t).drop 20)[0]? = some (.s (.int .u64 t.s1.dir)) := _root_.id rfl
@[simp] theorem thingC_d21 (t : Thing) : ((thingC t).drop 21)[0]? = some (.s (.int .u64 t.s1.seg)) := _root_.id rfl
@[simp] theorem thingC_d22 (t : Thing) : ((thingC t).drop 22)[0]? = some (.s (.int .u64 t.s2.dir)) := _root_.id rfl
@[simp] theorem thingC_d23 (t : Thing) : ((thingC t).drop 23)[0]? = some (.s (.int .u64 t.s2.seg)) := _root_.id rfl
@[simp] theorem thingC_d24 (t : Thing) : ((thingC t).drop 24)[0]? = some (.s (.int .u64 t.s3.dir)) := _root_.id rfl
@[simp] theorem thingC_d25 (t : Thing) : ((thingC t).drop 25)[0]? = some (.s (.int .u64 t.s3.seg)) := _root_.id rfl

end Go.Ab.T

/-
  LOOPS BY INVARIANTS.
-/
set_option linter.unusedSimpArgs false
set_option linter.unusedVariables false
namespace Go.Ab
open Go

theorem iter_inv {τ ρ : Type} {step : τ → Option (τ ⊕ ρ)} {I : Nat → τ → Prop} {Q : ρ → Prop} (n : Nat)
    (hin : ∀ i s, i < n → I i s → (∃ s', step s = some (.inl s') ∧ I (i + 1) s') ∨ (∃ q, step s = some (.inr q) ∧ Q q))
    (hout : ∀ s, I n s → ∃ q, step s = some (.inr q) ∧ Q q) :
    ∀ (d i m : Nat) (s : τ), i + d = n → d < m → I i s → ∃ q, iterN step m s = some q ∧ Q q := by
  intro d
  induction d with
  | zero =>
    intro i m s hi hm hI
    obtain ⟨m, rfl⟩ : ∃ k, m = k + 1 := ⟨m - 1, by omega⟩
    obtain rfl : i = n := by omega
    obtain ⟨q, hq, h⟩ := hout s hI
    exact ⟨q, by simp [iterN, hq], h⟩
  | succ d ih =>
    intro i m s hi hm hI
    obtain ⟨m, rfl⟩ : ∃ k, m = k + 1 := ⟨m - 1, by omega⟩
    rcases hin i s (by omega) hI with ⟨s', h1, h2⟩ | ⟨q, h1, h2⟩
    · obtain ⟨q, hq, h⟩ := ih (i + 1) m s' (by omega) (by omega) h2
      exact ⟨q, by simp [iterN, h1, hq], h⟩
    · exact ⟨q, by simp [iterN, h1], h2⟩

/-- The law of a loop of at most n rounds, by an invariant. -/
theorem oLoop_inv {β : Type} {step : List A × Heap → Option ((List A × Heap) ⊕ (Ex × List A × Heap))} {s0 : List A × Heap} {k : Ex → List A → Heap → Option β}
    (I : Nat → List A × Heap → Prop) (Q : Ex × List A × Heap → Prop) (n : Nat) (h0 : I 0 s0) (hn : n < 2 ^ 63)
    (hin : ∀ i s, i < n → I i s → (∃ s', step s = some (.inl s') ∧ I (i + 1) s') ∨ (∃ q, step s = some (.inr q) ∧ Q q))
    (hout : ∀ s, I n s → ∃ q, step s = some (.inr q) ∧ Q q) :
    ∃ q, Q q ∧ oLoop step s0 k = k q.1 q.2.1 q.2.2 := by
  obtain ⟨q, hq, h⟩ := iter_inv n hin hout n 0 big s0 (by omega) (by rw [big_eq]; omega) h0
  exact ⟨q, h, by unfold oLoop; rw [hq]⟩
theorem oLoop_inv' {step : List A × Heap → Option ((List A × Heap) ⊕ (Ex × List A × Heap))} {s0 : List A × Heap}
    (I : Nat → List A × Heap → Prop) (Q : Ex × List A × Heap → Prop) (n : Nat) (h0 : I 0 s0) (hn : n < 2 ^ 63)
    (hin : ∀ i s, i < n → I i s → (∃ s', step s = some (.inl s') ∧ I (i + 1) s') ∨ (∃ q, step s = some (.inr q) ∧ Q q))
    (hout : ∀ s, I n s → ∃ q, step s = some (.inr q) ∧ Q q) :
    ∃ q, Q q ∧ ∀ {β : Type} (k : Ex → List A → Heap → Option β), oLoop step s0 k = k q.1 q.2.1 q.2.2 := by
  obtain ⟨q, hq, h⟩ := iter_inv n hin hout n 0 big s0 (by omega) (by rw [big_eq]; omega) h0
  exact ⟨q, h, fun k => by unfold oLoop; rw [hq]⟩

theorem wrap_u64 {n : Int} (h0 : 0 ≤ n) (h1 : n < 18446744073709551616) : IntKind.u64.wrap n = n := by
  have key : IntKind.u64.wrap n = n % 18446744073709551616 := by
    simp [IntKind.wrap, IntKind.bits, IntKind.signed]
  rw [key]; omega
/-- A join of two bare truths. -/
@[simp] theorem ite_normal (c : Prop) [Decidable c] (x y : Bool) (h : Heap) :
    (if c then some (Ex.normal, [A.s (.bool x)], h) else some (Ex.normal, [A.s (.bool y)], h)) = some (Ex.normal, [A.s (.bool (if c then x else y))], h) := by split <;> rfl
@[simp] theorem notSlice_int (kd : IntKind) (n : Int) : notSlice (.int kd n) = true := _root_.id rfl
@[simp] theorem notSlice_bool (b : Bool) : notSlice (.bool b) = true := _root_.id rfl
@[simp] theorem notSlice_string (b : ByteArray) : notSlice (.string b) = true := _root_.id rfl
@[simp] theorem notSlice_ptr : notSlice (.pointer none) = true := _root_.id rfl
@[simp] theorem pureA_s (v : Value) : pureA (.s v) = notSlice v := _root_.id rfl
@[simp] theorem oFrz_pure' (a : A) (h : Heap) {β : Type} (k : A → Heap → Option β) (hp : pureA a = true) : oFrz a h k = k a h := oFrz_pure a h k hp
end Go.Ab

/-
  SEARCHING: the generic functions of slices.
-/
set_option linter.unusedSimpArgs false
set_option linter.unusedVariables false
namespace Go.Ab
open Go

@[simp] theorem oShift_shr (kx ky : IntKind) (a b : Int) {β : Type} (k : A → Option β) : oShift .shr (.s (.int kx a)) (.s (.int ky b)) k = if 0 ≤ b then k (.int kx (a.fdiv (2 ^ min b.toNat kx.bits))) else none := _root_.id rfl
@[simp] theorem oShift_shl (kx ky : IntKind) (a b : Int) {β : Type} (k : A → Option β) : oShift .shl (.s (.int kx a)) (.s (.int ky b)) k = if 0 ≤ b then k (.int kx (kx.wrap (a * 2 ^ min b.toNat kx.bits))) else none := _root_.id rfl

/-- A slice's elements, as what is loaded of one. -/
structure Elems (α : Type) where
  sz : Nat
  ld : Option Nat
  enc : α → List A
  val : α → A
  at0 : ∀ x, cellsAt ld (enc x) 0 = some (val x)
  pure : ∀ x, pureA (val x) = true
  ids : ∀ x, idsA (val x) = []

def gSearch (sz : Nat) (ld : Option Nat) (En : String → CallFn) : CallFn := fun args objs =>
  match args with
  | [a0, a1, a2] =>
    oLen a0 fun x1 =>
      oLoop (fun s2 =>
      oCmp .lss (s2.1.getD 0 .any) (s2.1.getD 1 .any) fun x3 =>
      oCond x3 (oAr .add (s2.1.getD 0 .any) (s2.1.getD 1 .any) fun x4 =>
      oConv .u64 x4 fun x5 =>
      oShift .shr x5 (.s (.int .u64 1)) fun x6 =>
      oConv .i64 x6 fun x7 =>
      oIdxA sz a0 x7 fun x8 =>
      oLoad ld x8 s2.2 fun x9 =>
      oLendV En a2 [x9, a1] s2.2 (fun v12 h13 => some (.inr (Ex.panic v12, [.any], h13))) fun w16 h17 => oFrz w16 h17 fun x10 h11 =>
      oCmp .lss x10 (.s (.int .i64 0)) fun x14 =>
      oCond x14 (oAr .add x7 (.s (.int .i64 1)) fun x15 =>
      (trim true objs.length [x15, (s2.1.getD 1 .any)] h11).map .inl)
      ((trim true objs.length [(s2.1.getD 0 .any), x7] h11).map .inl))
      ((trim true objs.length [(s2.1.getD 0 .any)] s2.2).map fun p => .inr (Ex.exit 0, p.1, p.2))) ([(.s (.int .i64 0)), x1], objs) fun e18 vs19 h20 =>
      (match e18 with
    | .normal => none
    | .exit i21 => if i21 = 0 then oCmp .lss (vs19.getD 0 .any) x1 fun x23 =>
      oGuard x23 true (fun _ => oIdxA sz a0 (vs19.getD 0 .any) fun x24 =>
      oLoad ld x24 h20 fun x25 =>
      oLendV En a2 [x25, a1] h20 (fun v28 h29 => finish objs.length (.pan v28) h29) fun w31 h32 => oFrz w31 h32 fun x26 h27 =>
      oCmp .eql x26 (.s (.int .i64 0)) fun x30 =>
      finish objs.length (.ok (.tup [(vs19.getD 0 .any), x30])) h27)
      (fun _ => finish objs.length (.ok (.tup [(vs19.getD 0 .any), (.s (.bool false))])) h20) else none
    | .ret => finish objs.length (.ok (.tup [(.s (.int .i64 0)), (.s (.bool false))])) h20
    | .panic v22 => finish objs.length (.pan v22) h20)
  | _ => none

theorem mid_eq {lo hi : Nat} (h : lo < hi) (hn : hi < 2 ^ 63) :
    IntKind.i64.wrap ((IntKind.u64.wrap (IntKind.i64.wrap ((lo : Int) + hi))).fdiv (2 ^ min (1 : Int).toNat IntKind.u64.bits)) = (((lo + hi) / 2 : Nat) : Int) := by
  have e1 : (2 ^ min (1 : Int).toNat IntKind.u64.bits : Int) = 2 := by decide
  rw [e1]
  have key : IntKind.u64.wrap (IntKind.i64.wrap ((lo : Int) + hi)) = (lo : Int) + hi := by
    have a : ∀ n : Int, IntKind.u64.wrap n = n % 18446744073709551616 := fun n => by simp [IntKind.wrap, IntKind.bits, IntKind.signed]
    have b : ∀ n : Int, IntKind.i64.wrap n = (let m := n % 18446744073709551616; if m ≥ 9223372036854775808 then m - 18446744073709551616 else m) := fun n => by
      simp [IntKind.wrap, IntKind.bits, IntKind.signed]
    rw [a, b]
    dsimp only
    split <;> omega
  rw [key, Int.fdiv_eq_ediv_of_nonneg _ (by omega), wrap64_id (by omega) (by omega)]
  omega

/-- The binary search finds the place. -/
theorem gSearch_v {α : Type} (E : Elems α) (En : String → CallFn) (name : String) (caps : List A) (tgt : A) (c : α → Int) (xs : List α) (p : Nat)
    (hp : pureL caps = true) (hpi : idsL caps = []) (ht : pureA tgt = true) (hti : idsA tgt = [])
    (hc : ∀ x, x ∈ xs → En name ([E.val x, tgt] ++ caps) [] = some (.ok (.s (.int .i64 (c x))), []))
    (hlen : xs.length < 2 ^ 63) (hpn : p ≤ xs.length)
    (hlt : ∀ i x, xs[i]? = some x → (c x < 0 ↔ i < p)) :
    gSearch E.sz E.ld En [mkF E.sz (xs.map E.enc), tgt, .fn name caps] [] =
      some (.ok (.tup [.s (.int .i64 p), .s (.bool (xs[p]?.any fun x => decide (c x = 0)))]), []) := by
  have hcall : ∀ (β : Type) x (h : Heap) (kp k : A → Heap → Option β), x ∈ xs → oLend (En name) ([E.val x, tgt] ++ caps) h kp k = k (.s (.int .i64 (c x))) h := fun β x h kp k hx =>
    oLend_val _ _ _ _ _ _ (by simp [pureL, E.pure, ht, hp]) (by simp) (hc x hx)
  simp only [gSearch, oLen_mkF, List.length_map, List.length_nil]
  obtain ⟨q, hQ, hq⟩ := oLoop_inv (β := Out × Heap)
    (step := fun s2 =>
      oCmp .lss (s2.1.getD 0 .any) (s2.1.getD 1 .any) fun x3 =>
      oCond x3 (oAr .add (s2.1.getD 0 .any) (s2.1.getD 1 .any) fun x4 =>
      oConv .u64 x4 fun x5 =>
      oShift .shr x5 (.s (.int .u64 1)) fun x6 =>
      oConv .i64 x6 fun x7 =>
      oIdxA E.sz (mkF E.sz (xs.map E.enc)) x7 fun x8 =>
      oLoad E.ld x8 s2.2 fun x9 =>
      oLendV En (.fn name caps) [x9, tgt] s2.2 (fun v12 h13 => some (.inr (Ex.panic v12, [.any], h13))) fun w16 h17 => oFrz w16 h17 fun x10 h11 =>
      oCmp .lss x10 (.s (.int .i64 0)) fun x14 =>
      oCond x14 (oAr .add x7 (.s (.int .i64 1)) fun x15 =>
      (trim true 0 [x15, (s2.1.getD 1 .any)] h11).map .inl)
      ((trim true 0 [(s2.1.getD 0 .any), x7] h11).map .inl))
      ((trim true 0 [(s2.1.getD 0 .any)] s2.2).map fun p => .inr (Ex.exit 0, p.1, p.2)))
    (s0 := ([(.s (.int .i64 0)), .s (.int .i64 xs.length)], []))
    (k := fun e18 vs19 h20 =>
      (match e18 with
    | .normal => none
    | .exit i21 => if i21 = 0 then oCmp .lss (vs19.getD 0 .any) (.s (.int .i64 xs.length)) fun x23 =>
      oGuard x23 true (fun _ => oIdxA E.sz (mkF E.sz (xs.map E.enc)) (vs19.getD 0 .any) fun x24 =>
      oLoad E.ld x24 h20 fun x25 =>
      oLendV En (.fn name caps) [x25, tgt] h20 (fun v28 h29 => finish 0 (.pan v28) h29) fun w31 h32 => oFrz w31 h32 fun x26 h27 =>
      oCmp .eql x26 (.s (.int .i64 0)) fun x30 =>
      finish 0 (.ok (.tup [(vs19.getD 0 .any), x30])) h27)
      (fun _ => finish 0 (.ok (.tup [(vs19.getD 0 .any), (.s (.bool false))])) h20) else none
    | .ret => finish 0 (.ok (.tup [(.s (.int .i64 0)), (.s (.bool false))])) h20
    | .panic v22 => finish 0 (.pan v22) h20))
    (fun i s => ∃ lo hi : Nat, s = ([.s (.int .i64 lo), .s (.int .i64 hi)], []) ∧ lo ≤ p ∧ p ≤ hi ∧ hi ≤ xs.length ∧ hi - lo ≤ xs.length - i)
    (fun q => q = (Ex.exit 0, [.s (.int .i64 p)], [])) xs.length
    ⟨0, xs.length, rfl, by omega, hpn, by omega, by omega⟩ hlen
    (by
      rintro i s hi ⟨lo, hi', rfl, h1, h2, h3, h4⟩
      by_cases hlh : lo < hi'
      · left
        have hm := mid_eq hlh (by omega)
        have hx : (lo + hi') / 2 < xs.length := by omega
        have hxs : xs[(lo + hi') / 2]? = some xs[(lo + hi') / 2] := by simp [hx]
        have hmem : xs[(lo + hi') / 2] ∈ xs := List.getElem_mem hx
        have hl := hlt _ _ hxs
        have hw : IntKind.i64.wrap ((((lo + hi') / 2 : Nat) : Int) + 1) = (((lo + hi') / 2 + 1 : Nat) : Int) := wrap_succ hx hlen
        have hcc : ∀ (β : Type) (h : Heap) (kp k : A → Heap → Option β), oLend (En name) (E.val xs[(lo + hi') / 2] :: tgt :: caps) h kp k = k (.s (.int .i64 (c xs[(lo + hi') / 2]))) h := fun β h kp k => hcall β _ h kp k hmem
        simp only [List.getD_cons_zero, List.getD_cons_succ, oCmp_s, cmpInt_lss, if_true, oCond_s, Int.ofNat_lt, hlh, decide_true, oAr_s, arInt_add, oConv_s, oShift_shr, Int.zero_le_ofNat, hm,
          show (0 : Int) ≤ 1 from by decide, oIdxA_mkF E.sz E.enc xs _ _ _ _ hxs, oLoad_cptr, E.at0, oLendV_fn, List.cons_append, List.nil_append, hcc, oFrz_int, hw]
        by_cases hneg : c xs[(lo + hi') / 2] < 0
        · refine ⟨([.s (.int .i64 ((lo + hi') / 2 + 1 : Nat)), .s (.int .i64 hi')], []), ?_, (lo + hi') / 2 + 1, hi', rfl, ?_, h2, h3, ?_⟩
          · simp [hneg, trim, allBelow]
          · have := hl.1 hneg; omega
          · omega
        · refine ⟨([.s (.int .i64 lo), .s (.int .i64 ((lo + hi') / 2 : Nat))], []), ?_, lo, (lo + hi') / 2, rfl, h1, ?_, ?_, ?_⟩
          · simp [hneg, trim, allBelow]
          · have := mt hl.2 hneg; omega
          · omega
          · omega
      · right
        refine ⟨_, ?_, rfl⟩
        have : lo = p := by omega
        subst this
        simp [hlh, trim, allBelow])
    (by
      rintro s ⟨lo, hi', rfl, h1, h2, h3, h4⟩
      have hlh : ¬ lo < hi' := by omega
      refine ⟨_, ?_, rfl⟩
      have : lo = p := by omega
      subst this
      simp [hlh, trim, allBelow])
  refine hq.trans ?_
  subst hQ
  simp only [if_true, List.getD_cons_zero, oCmp_s, cmpInt_lss, oGuard_s, Int.ofNat_lt]
  by_cases hpl : p < xs.length
  · have hxs : xs[p]? = some xs[p] := by simp [hpl]
    have hmem : xs[p] ∈ xs := List.getElem_mem hpl
    have hcc : ∀ (β : Type) (h : Heap) (kp k : A → Heap → Option β), oLend (En name) (E.val xs[p] :: tgt :: caps) h kp k = k (.s (.int .i64 (c xs[p]))) h := fun β h kp k => hcall β _ h kp k hmem
    simp only [hpl, decide_true, if_true, oIdxA_mkF E.sz E.enc xs _ _ _ _ hxs, oLoad_cptr, E.at0, oLendV_fn, List.cons_append, List.nil_append, hcc, oFrz_int, oCmp_s, cmpInt_eql, hxs, Option.any_some]
    exact finish_val _ _ (by simp)
  · have hxs : xs[p]? = none := by simp; omega
    simp only [hpl, decide_false, Bool.false_eq_true, if_false, hxs, Option.any_none]
    exact finish_val _ _ (by simp)

def linkE : Elems T.Link := ⟨2, some 2, T.linkC, fun x => .agg (T.linkC x), T.linkC_at, fun x => by simp [pureA], fun x => by simp⟩
def thingE : Elems T.Thing := ⟨26, some 26, T.thingC, fun x => .agg (T.thingC x), T.thingC_at, fun x => by simp [pureA], fun x => by simp⟩
def idE : Elems Int := ⟨1, none, T.cellC .u64, fun x => .s (.int .u64 x), fun x => rfl, fun x => rfl, fun x => rfl⟩
def catE : Elems T.Cat := ⟨2, some 2, T.catC, fun x => .agg (T.catC x), T.catC_at, fun x => by simp [pureA], fun x => by simp⟩
end Go.Ab

/-
  OWNED SLICES THAT GROW.
-/
set_option linter.unusedSimpArgs false
set_option linter.unusedVariables false
namespace Go.Ab
open Go

/-- What H' keeps of H: all but one object. -/
def KeepBut (id : Nat) (H H' : Heap) : Prop := ∀ (i : Nat) (o : Slot), i ≠ id → H[i]? = some o → H'[i]? = some o
/-- What H' keeps of H: all. -/
def KeepAll (H H' : Heap) : Prop := ∀ (i : Nat) (o : Slot), H[i]? = some o → H'[i]? = some o
theorem KeepAll.append (H r : Heap) : KeepAll H (H ++ r) := fun i o h => by
  have hi : i < H.length := by
    rcases Nat.lt_or_ge i H.length with h' | h'
    · exact h'
    · rw [List.getElem?_eq_none h'] at h; exact absurd h (by simp)
  rw [List.getElem?_append_left hi]; exact h
theorem at_end (H : Heap) (s : Slot) : (H ++ [s])[H.length]? = some s := by simp
theorem lt_of_some {H : Heap} {i : Nat} {o : Slot} (h : H[i]? = some o) : i < H.length := by
  rcases Nat.lt_or_ge i H.length with h' | h'
  · exact h'
  · rw [List.getElem?_eq_none h'] at h; exact absurd h (by simp)

/-- One more element. -/
theorem app1 {α : Type} (enc : α → List A) (H : Heap) (kn ver sz bytes n : Nat) (xs : List α) (x : α) (ld : Option Nat) (v : A) (hn : n = xs.length)
    (hk : H[kn]? = some (.live ⟨ver, sz, xs.map enc⟩)) (hc : asCells ld v = some (enc x)) (hz : sz ≠ 0) (ok : appendOk (xs.length + 1) bytes) :
    ∃ H', (∀ {β : Type} (k : A → Heap → Option β), (oNewSlice none sz (asRows ld [v]) H fun x h => oAppend none sz bytes (.osl kn ver sz 0 n) x h k) = k (.osl kn (ver + 1) sz 0 (n + 1)) H') ∧
      H'[kn]? = some (.live ⟨ver + 1, sz, (xs ++ [x]).map enc⟩) ∧ KeepBut kn H H' := by
  subst hn
  have hlt := lt_of_some hk
  refine ⟨(H ++ [Slot.live ⟨0, sz, [enc x]⟩]).set kn (Slot.live ⟨ver + 1, sz, (xs ++ [x]).map enc⟩), fun k => ?_, ?_, ?_⟩
  · have h1 : (H ++ [Slot.live ⟨0, sz, [enc x]⟩])[kn]? = some (.live ⟨ver, sz, xs.map enc⟩) := by rw [List.getElem?_append_left hlt]; exact hk
    simp only [oNewSlice_eq, asRows_cons, asRows_nil, hc, Option.bind_some, Option.map_some, if_neg hz, place_none, oAppend_osl, rowsOf_osl, at_end, List.length_cons, List.length_nil, h1]
    simp [ok, hlt, List.take_of_length_le]
  · rw [List.getElem?_set_self (by simp; omega)]
  · intro i o hi ho
    rw [List.getElem?_set_ne (by omega)]
    exact KeepAll.append H _ i o ho
/-- A new object. -/
theorem KeepAll.trans {H H1 H2 : Heap} (h1 : KeepAll H H1) (h2 : KeepAll H1 H2) : KeepAll H H2 := fun i o h => h2 i o (h1 i o h)
theorem KeepBut.trans {k : Nat} {H H1 H2 : Heap} (h1 : KeepBut k H H1) (h2 : KeepBut k H1 H2) : KeepBut k H H2 := fun i o hi h => h2 i o hi (h1 i o hi h)
theorem KeepBut.refl (k : Nat) (H : Heap) : KeepBut k H H := fun _ _ _ h => h
theorem set_end (H : Heap) (a b : Slot) : (H ++ [a]).set H.length b = H ++ [b] := by simp
theorem app_some {H : Heap} {i : Nat} {o : Slot} (h : H[i]? = some o) (r : Heap) : (H ++ r)[i]? = some o := KeepAll.append H r i o h
theorem app_set' {H : Heap} {i : Nat} {o : Slot} (h : H[i]? = some o) (r : Heap) (x : Slot) : (H ++ r).set i x = H.set i x ++ r := by
  rw [List.set_append_left _ _ (lt_of_some h)]
theorem at_get {H : Heap} {i : Nat} {o : Slot} (h : H[i]? = some o) (p : i < H.length) : H[i] = o := by
  rw [List.getElem?_eq_getElem p] at h; simpa using h
theorem app_get' {H : Heap} {i : Nat} {o : Slot} (h : H[i]? = some o) (r : Heap) (p : i < (H ++ r).length) : (H ++ r)[i] = o := at_get (app_some h r) p
theorem app_len0 (H : Heap) (a : Slot) (r : Heap) : (H ++ a :: r)[H.length]? = some a := by simp
theorem app_len1 (H : Heap) (a b : Slot) (r : Heap) : (H ++ a :: b :: r)[H.length + 1]? = some b := by simp
theorem set_len0 (H : Heap) (a x : Slot) (r : Heap) : (H ++ a :: r).set H.length x = H ++ x :: r := by simp
theorem set_len1 (H : Heap) (a b x : Slot) (r : Heap) : (H ++ a :: b :: r).set (H.length + 1) x = H ++ a :: x :: r := by
  rw [List.set_append_right _ _ (by omega)]; simp
/-- The last act of a function that comes to an owned slice. -/
theorem finish_own (id ver sz n : Nat) (rows : List (List A)) (H : Heap) (hk : H[id]? = some (.live ⟨ver, sz, rows⟩)) (hp : idsRows rows = []) (hr : ∀ f, renRows f rows = some rows) :
    finish 0 (.ok (.osl id ver sz 0 n)) H = some (.ok (.osl 0 ver sz 0 n), [.live ⟨ver, sz, rows⟩]) := by
  have h1 : reach H reachFuel [] [id] = [id] := by
    rw [show reachFuel = 99999 + 1 from rfl, reach]
    simp [hk, hp]
  have h2 : idx [id] id = some 0 := by simp [idx]
  simp [finish, hk, hp, hr, h1, h2]
/-- The last act of a function whose value leads to one object, of pure rows. -/
theorem finish_one (a a' : A) (id : Nat) (ob : Obj) (H : Heap) (ha : idsA a = [id]) (hr : renA (fun j => if j = id then some 0 else none) a = some a') (hk : H[id]? = some (.live ob)) (hp : idsRows ob.rows = []) (hrr : ∀ f, renRows f ob.rows = some ob.rows) :
    finish 0 (.ok a) H = some (.ok a', [.live ob]) := by
  have h1 : reach H reachFuel [] [id] = [id] := by
    rw [show reachFuel = 99999 + 1 from rfl, reach]
    simp [hk, hp]
  have h2 : idx [id] = fun j => if j = id then some 0 else none := by
    funext j
    by_cases hj : j = id
    · subst hj; simp [idx]
    · simp [idx, hj, Ne.symm hj]
  simp [finish, ha, hk, hp, hrr, h1, h2, hr]
@[simp] theorem idsL_append (a b : List A) : idsL (a ++ b) = idsL a ++ idsL b := by induction a <;> simp_all
/-- What is lent of a cell that leads to no object. -/
def normA : A → A
  | .s v => nilS v
  | .fsl sz rows => mkF sz rows
  | a => a
def flatA : A → Bool
  | .s _ => true
  | .fsl _ _ => true
  | .cptr _ => true
  | _ => false
@[simp] theorem flatA_s (v : Value) : flatA (.s v) = true := _root_.id rfl
@[simp] theorem flatA_mkF (sz : Nat) (rows : List (List A)) : flatA (mkF sz rows) = true := _root_.id rfl
@[simp] theorem normA_mkF (sz : Nat) (rows : List (List A)) : normA (mkF sz rows) = mkF sz rows := by cases rows <;> simp [normA, mkF]
@[simp] theorem normA_int (kd : IntKind) (n : Int) : normA (.s (.int kd n)) = .s (.int kd n) := _root_.id rfl
@[simp] theorem normA_bool (b : Bool) : normA (.s (.bool b)) = .s (.bool b) := _root_.id rfl
@[simp] theorem normA_nil : normA (.s (.slice none 0 0)) = .fsl 0 [] := _root_.id rfl
theorem normA_pure {a : A} (h : pureA a = true) (hf : flatA a = true) : normA a = a := by
  cases a <;> simp [flatA] at hf <;> try rfl
  · rename_i v; simp only [pureA_s] at h; cases v <;> simp [notSlice] at h <;> rfl
  · rename_i sz rows
    cases rows with
    | nil => simp [pureA] at h; simp [normA, mkF, h]
    | cons r rs => simp [normA, mkF]
theorem lendA_flat (n : Nat) (a : A) (h : Heap) (hf : flatA a = true) : lendA (n + 1) a h = some (normA a) := by
  cases a <;> simp [flatA] at hf <;> simp [lendA, normA]
theorem pureL_mem : ∀ (l : List A), pureL l = true → ∀ x ∈ l, pureA x = true
  | [], _, x, hx => by cases hx
  | y :: ys, hp, x, hx => by
    simp only [pureL_cons, Bool.and_eq_true] at hp
    rcases List.mem_cons.1 hx with h | h
    · exact h ▸ hp.1
    · exact pureL_mem ys hp.2 x h
theorem norm_pure {l : List A} (hp : pureL l = true) (hf : ∀ a ∈ l, flatA a = true) : l.map normA = l := by
  have h : l.map normA = l.map fun x => x := List.map_congr_left fun x hx => normA_pure (pureL_mem l hp x hx) (hf x hx)
  rw [h]; simp
theorem lendL_flat (h : Heap) : ∀ (l : List A) (n : Nat), (∀ a ∈ l, flatA a = true) → lendL (n + l.length + 2) l h = some (l.map normA)
  | [], n, _ => by simp [lendL]
  | a :: r, n, hf => by
    rw [show n + (a :: r).length + 2 = (n + r.length + 2) + 1 by simp; omega, lendL]
    split
    · rename_i hp
      rw [norm_pure hp hf]
    · have e1 : lendA (n + r.length + 2) a h = some (normA a) := lendA_flat (n + r.length + 1) a h (hf a (by simp))
      rw [e1, lendL_flat h r n fun x hx => hf x (by simp [hx])]
      simp
/-- One bundle of cells is lent. -/
theorem lend_agg (cs cs' : List A) (h : Heap) (hf : ∀ a ∈ cs, flatA a = true) (hn : cs.length < 900) (hc : cs.map normA = cs') : lendL lendFuel [.agg cs] h = some [.agg cs'] := by
  subst hc
  rw [show lendFuel = 999 + 1 from rfl, lendL]
  split
  · rename_i hp
    simp only [pureL_cons, pureA_agg, pureL_nil, Bool.and_true] at hp
    rw [norm_pure hp hf]
  · have e := lendL_flat h cs (998 - cs.length - 2) hf
    rw [show 998 - cs.length - 2 + cs.length + 2 = 998 by omega] at e
    simp only [lendA, e, Option.map_some, Option.bind_some]
    simp [lendL]
theorem lend_agg2 (cs cs' ds ds' : List A) (h : Heap) (hf : ∀ a ∈ cs, flatA a = true) (hn : cs.length < 900) (hc : cs.map normA = cs') (hf2 : ∀ a ∈ ds, flatA a = true) (hn2 : ds.length < 900) (hc2 : ds.map normA = ds') :
    lendL lendFuel [.agg cs, .agg ds] h = some [.agg cs', .agg ds'] := by
  subst hc; subst hc2
  rw [show lendFuel = 999 + 1 from rfl, lendL]
  split
  · rename_i hp
    simp only [pureL_cons, pureA_agg, pureL_nil, Bool.and_true, Bool.and_eq_true] at hp
    rw [norm_pure hp.1 hf, norm_pure hp.2 hf2]
  · have e := lendL_flat h cs (998 - cs.length - 2) hf
    rw [show 998 - cs.length - 2 + cs.length + 2 = 998 by omega] at e
    have e1 : lendA 999 (.agg cs) h = some (.agg (cs.map normA)) := by
      rw [show (999 : Nat) = 998 + 1 from rfl]
      simp only [lendA, e, Option.map_some]
    have e2 : lendL 999 [.agg ds] h = some [.agg (ds.map normA)] := by
      rw [show (999 : Nat) = 998 + 1 from rfl, lendL]
      split
      · rename_i hp
        simp only [pureL_cons, pureA_agg, pureL_nil, Bool.and_true] at hp
        rw [norm_pure hp hf2]
      · have e := lendL_flat h ds (997 - ds.length - 2) hf2
        rw [show 997 - ds.length - 2 + ds.length + 2 = 997 by omega] at e
        have e3 : lendA 998 (.agg ds) h = some (.agg (ds.map normA)) := by
          rw [show (998 : Nat) = 997 + 1 from rfl]
          simp only [lendA, e, Option.map_some]
        rw [e3]
        simp [lendL]
    rw [e1, Option.bind_some, e2]
    rfl
/-- A call whose arguments lead to no object, which comes to an owned slice of pure rows. -/
theorem oLend_own (F : CallFn) (args args' : List A) (h : Heap) {β : Type} (kp k : A → Heap → Option β) (ver sz n : Nat) (rows : List (List A)) (ha : idsL args = []) (hl : lendL lendFuel args [] = some args') (hp : ∀ f, renRows f rows = some rows)
    (hF : F args' [] = some (.ok (.osl 0 ver sz 0 n), [.live ⟨ver, sz, rows⟩])) :
    oLend F args h kp k = k (.osl h.length ver sz 0 n) (h ++ [.live ⟨ver, sz, rows⟩]) := by
  have hi : (idsL args).isEmpty = true := by rw [ha]; rfl
  unfold oLend
  rw [if_pos hi, hl]
  simp only [hF]
  simp [hi, giveBack, backIdx, hp, setAll]
/-- The same, of a value that leads to no object. -/
theorem oLend_val' (F : CallFn) (args args' : List A) (h : Heap) {β : Type} (kp k : A → Heap → Option β) (a : A) (ha : idsL args = []) (hl : lendL lendFuel args [] = some args') (hr : idsA a = [])
    (hF : F args' [] = some (.ok a, [])) : oLend F args h kp k = k a h := by
  have hi : (idsL args).isEmpty = true := by rw [ha]; rfl
  unfold oLend
  rw [if_pos hi, hl]
  simp only [hF]
  simp [hi, giveBack, renA_of_ids a _ hr, setAll]
/-- What is frozen of an owned slice of pure rows. -/
theorem oFrz_own (H : Heap) (id ver sz n : Nat) (rows : List (List A)) {β : Type} (k : A → Heap → Option β) (hk : H[id]? = some (.live ⟨ver, sz, rows⟩)) (hn : n = rows.length) (hp : pureRows rows = true) :
    oFrz (.osl id ver sz 0 n) H k = k (mkF sz rows) (H.set id .dead) := by
  subst hn
  simp [oFrz, pureA, frzA, hk, frzRows, hp]
theorem pureRows_map {α : Type} (enc : α → List A) (h : ∀ x, pureL (enc x) = true) (xs : List α) : pureRows (xs.map enc) = true := by
  simp [pureRows, h]
theorem frz_cell2 (C C' : A) (d : A) (h h' : Heap) {β : Type} (k : A → Heap → Option β) (hd : pureA d = true) (hdn : ∀ n h, frzA (n + 1) d h = some (d, h)) (hp : pureA C = false) (hc : ∀ n, frzA (n + 2) C h = some (C', h')) :
    oFrz (.agg [d, C]) h k = k (.agg [d, C']) h' := by
  have e3 : frzL 998 [C] h = some ([C'], h') := by
    rw [show (998 : Nat) = 997 + 1 from rfl]
    simp only [frzL, pureL_cons, hp, Bool.false_and, Bool.false_eq_true, if_false, hc 995, Option.bind_some]
    simp [frzL]
  have e2 : frzL 999 [d, C] h = some ([d, C'], h') := by
    rw [show (999 : Nat) = 998 + 1 from rfl]
    rw [frzL, if_neg (by simp [hp]), hdn 997, Option.bind_some]
    simp only [e3, Option.map_some]
  have e1 : frzA 1000 (.agg [d, C]) h = some (.agg [d, C'], h') := by
    rw [show (1000 : Nat) = 999 + 1 from rfl]
    simp only [frzA, e2, Option.map_some]
  simp only [oFrz, pureA_agg, pureL_cons, hp, Bool.false_and, Bool.and_false, Bool.false_eq_true, if_false, e1]
theorem frz_own (n id ver sz m : Nat) (rows : List (List A)) (h : Heap) (hk : h[id]? = some (.live ⟨ver, sz, rows⟩)) (hm : m = rows.length) (hp : pureRows rows = true) : frzA (n + 2) (.osl id ver sz 0 m) h = some (mkF sz rows, h.set id .dead) := by
  subst hm
  simp [frzA, hk, frzRows, hp]
/-- An element of an owned slice. -/
theorem idx_own {α : Type} (enc : α → List A) (H : Heap) (id ver sz n : Nat) (xs : List α) (ld : Option Nat) (val : A) (j : Nat) (x : α) (kd : IntKind) (hn : n = xs.length)
    (hk : H[id]? = some (.live ⟨ver, sz, xs.map enc⟩)) (hj : xs[j]? = some x) (hv : cellsAt ld (enc x) 0 = some val) {β : Type} (k : A → Option β) :
    (oIdxA sz (.osl id ver sz 0 n) (.s (.int kd j)) fun p => oLoad ld p H k) = k val := by
  have hl : j < xs.length := by
    rcases Nat.lt_or_ge j xs.length with h | h
    · exact h
    · rw [List.getElem?_eq_none h] at hj; exact absurd hj (by simp)
  subst hn
  have hx : xs[j] = x := by rw [List.getElem?_eq_getElem hl] at hj; simpa using hj
  subst hx
  simp [hl, hk, hv]
end Go.Ab

/-
  CALLS OF THE LIBRARY's FUNCTIONS on owned slices of pure rows.
-/
set_option linter.unusedSimpArgs false
set_option linter.unusedVariables false
namespace Go.Ab
open Go

/-- What is reached from ids whose objects lead to nothing. -/
theorem reach_flat (H : Heap) : ∀ (l seen : List Nat) (n : Nat), (∀ id ∈ l, (H.getD id .dead).ids = []) → (seen ++ l).Nodup → l.length < n → reach H n seen l = seen ++ l
  | [], seen, n, _, _, _ => by simp
  | id :: l, seen, n, h, hn, hl => by
    obtain ⟨n, rfl⟩ : ∃ m, n = m + 1 := ⟨n - 1, by simp at hl; omega⟩
    have hni : id ∉ seen := fun hm => by
      rw [List.nodup_append] at hn
      exact hn.2.2 id hm id (by simp) rfl
    rw [reach, if_neg (by simpa using hni), h id (by simp), List.nil_append]
    rw [reach_flat H l (seen ++ [id]) n (fun x hx => h x (by simp [hx])) (by simpa using hn) (by simp at hl; omega)]
    simp

theorem set_same_slot {H : Heap} {i : Nat} {o : Slot} (h : H[i]? = some o) : H.set i o = H := by
  apply List.ext_getElem?
  intro j
  rw [List.getElem?_set]
  split
  · rename_i hij; subst hij; rw [h]; simp [lt_of_some h]
  · rfl

/-- One more row at a place. -/
theorem oCall_insert {β : Type} (sz bytes : Nat) (H : Heap) (id ver n i vid : Nat) (rows : List (List A)) (c : List A) (kp k : A → Heap → Option β)
    (h1 : H[id]? = some (.live ⟨ver, sz, rows⟩)) (h2 : H[vid]? = some (.live ⟨0, sz, [c]⟩)) (hn : n = rows.length) (hne : id ≠ vid) (hi : i ≤ n) (ok : appendOk (2 * (n + 1)) bytes)
    (p1 : idsRows rows = []) (p2 : idsL c = []) (r1 : ∀ f, renRows f rows = some rows) (r2 : ∀ f, renL f c = some c) :
    oCall (primInsert sz bytes) [.osl id ver sz 0 n, .s (.int .i64 i), .osl vid 0 sz 0 1] H kp k = k (.osl id (ver + 1) sz 0 (n + 1)) (H.set id (.live ⟨ver + 1, sz, rows.take i ++ c :: rows.drop i⟩)) := by
  subst hn
  have hr : reach H reachFuel [] [id, vid] = [id, vid] := reach_flat H _ _ _ (by simp [h1, h2, p1, p2]) (by simp [hne]) (by simp [reachFuel])
  have x1 : idx [id, vid] id = some 0 := by simp [idx, List.idxOf?_cons]
  have x2 : idx [id, vid] vid = some 1 := by
    have : (id == vid) = false := by simpa using hne
    simp [idx, List.idxOf?_cons, this]
  have hl1 := lt_of_some h1
  have hl2 := lt_of_some h2
  have hb : borrow [.osl id ver sz 0 rows.length, .s (.int .i64 i), .osl vid 0 sz 0 1] H = some ([id, vid], [.osl 0 ver sz 0 rows.length, .s (.int .i64 i), .osl 1 0 sz 0 1], [.live ⟨ver, sz, rows⟩, .live ⟨0, sz, [c]⟩]) := by
    unfold borrow
    simp [hr, x1, x2, h1, h2, r1, r2]
  have hp : primInsert sz bytes [.osl 0 ver sz 0 rows.length, .s (.int .i64 i), .osl 1 0 sz 0 1] [.live ⟨ver, sz, rows⟩, .live ⟨0, sz, [c]⟩] =
      some (.ok (.osl 0 (ver + 1) sz 0 (rows.length + 1)), [.live ⟨ver + 1, sz, rows.take i ++ c :: rows.drop i⟩, .live ⟨0, sz, [c]⟩]) := by
    have : ((i : Int) ≤ (rows.length : Int)) := by omega
    simp [primInsert, ok, this, List.take_of_length_le]
  have hren : ∀ f, renRows f (rows.take i ++ c :: rows.drop i) = some (rows.take i ++ c :: rows.drop i) := by
    intro f
    have key : ∀ (l : List (List A)), (∀ f, renRows f l = some l) → ∀ row ∈ l, ∀ f, renL f row = some row := by
      intro l
      induction l with
      | nil => simp
      | cons a r ih =>
        intro hl row hrow f
        have := hl f
        simp only [renRows_cons, Option.bind_eq_some_iff, Option.map_eq_some_iff, List.cons.injEq] at this
        obtain ⟨a', ha, r', hr', rfl, rfl⟩ := this
        rcases List.mem_cons.1 hrow with rfl | hrow
        · exact ha
        · exact ih (fun g => by
            have := hl g
            simp only [renRows_cons, Option.bind_eq_some_iff, Option.map_eq_some_iff, List.cons.injEq] at this
            obtain ⟨_, _, r'', hr'', _, h⟩ := this
            rw [h] at hr''; exact hr'') row hrow f
    have all : ∀ (l : List (List A)), (∀ row ∈ l, renL f row = some row) → renRows f l = some l := by
      intro l
      induction l with
      | nil => simp
      | cons a r ih => intro h; simp [h a (by simp), ih fun x hx => h x (by simp [hx])]
    refine all _ fun row hrow => ?_
    rcases List.mem_append.1 hrow with h | h
    · exact key rows r1 row (List.mem_of_mem_take h) f
    · rcases List.mem_cons.1 h with rfl | h
      · exact r2 f
      · exact key rows r1 row (List.mem_of_mem_drop h) f
  unfold oCall
  rw [hb]
  simp only [hp]
  have hs : (H.set id (.live ⟨ver + 1, sz, rows.take i ++ c :: rows.drop i⟩)).set vid (.live ⟨0, sz, [c]⟩) = H.set id (.live ⟨ver + 1, sz, rows.take i ++ c :: rows.drop i⟩) :=
    set_same_slot (by rw [List.getElem?_set_ne hne]; exact h2)
  simp [giveBack, backIdx, hren, r2, setAll, hs]

/-- One row less. -/
theorem oCall_delete {β : Type} (sz bytes : Nat) (H : Heap) (id ver n i : Nat) (rows : List (List A)) (kp k : A → Heap → Option β)
    (h1 : H[id]? = some (.live ⟨ver, sz, rows⟩)) (hn : n = rows.length) (hi : i < n)
    (p1 : idsRows rows = []) (r1 : ∀ f (l : List (List A)), (∀ x ∈ l, x ∈ rows) → renRows f l = some l) :
    oCall (primDelete sz bytes) [.osl id ver sz 0 n, .s (.int .i64 i), .s (.int .i64 (i + 1 : Nat))] H kp k = k (.osl id (ver + 1) sz 0 (n - 1)) (H.set id (.live ⟨ver + 1, sz, rows.take i ++ rows.drop (i + 1)⟩)) := by
  subst hn
  have hr : reach H reachFuel [] [id] = [id] := reach_flat H _ _ _ (by simp [h1, p1]) (by simp) (by simp [reachFuel])
  have x1 : idx [id] id = some 0 := by simp [idx]
  have hb : borrow [.osl id ver sz 0 rows.length, .s (.int .i64 i), .s (.int .i64 (i + 1 : Nat))] H = some ([id], [.osl 0 ver sz 0 rows.length, .s (.int .i64 i), .s (.int .i64 (i + 1 : Nat))], [.live ⟨ver, sz, rows⟩]) := by
    unfold borrow
    have := r1 (idx [id]) rows (fun x hx => hx)
    simp [hr, x1, h1, this]
  have hp : primDelete sz bytes [.osl 0 ver sz 0 rows.length, .s (.int .i64 i), .s (.int .i64 (i + 1 : Nat))] [.live ⟨ver, sz, rows⟩] =
      some (.ok (.osl 0 (ver + 1) sz 0 (rows.length - 1)), [.live ⟨ver + 1, sz, rows.take i ++ rows.drop (i + 1)⟩]) := by
    have a1 : ((i : Int) ≤ (i + 1 : Nat)) := by omega
    have a2 : (((i + 1 : Nat) : Int) ≤ (rows.length : Int)) := by omega
    have a3 : (((i + 1 : Nat) : Int) - (i : Int)).toNat = 1 := by omega
    have a4 : (((i + 1 : Nat) : Int)).toNat = i + 1 := by omega
    have a0 : (0 : Int) ≤ (i : Int) := by omega
    simp only [primDelete, List.getElem?_cons_zero, List.drop_zero, List.take_of_length_le (Nat.le_refl _), a3, a4, Int.toNat_natCast, List.set_cons_zero]
    rw [if_pos (by simp; omega)]
  have hren : ∀ f, renRows f (rows.take i ++ rows.drop (i + 1)) = some (rows.take i ++ rows.drop (i + 1)) := fun f => r1 f _ fun x hx => by
    rcases List.mem_append.1 hx with h | h
    · exact List.mem_of_mem_take h
    · exact List.mem_of_mem_drop h
  unfold oCall
  rw [hb]
  simp only [hp]
  simp [giveBack, backIdx, hren, setAll]
end Go.Ab

/-
  ARGUMENTS THAT ARE LENT: captured pointers.
-/
set_option linter.unusedSimpArgs false
set_option linter.unusedVariables false
namespace Go.Ab.T
open Go Go.Ab
theorem lendL_cons' (n : Nat) (a : A) (r : List A) (H : Heap) (hp : pureL (a :: r) = false) : lendL (n + 1) (a :: r) H = (lendA n a H).bind fun a => (lendL n r H).map fun r => a :: r := by
  rw [lendL, if_neg (by simp [hp])]
theorem lendL_nil' (n : Nat) (H : Heap) : lendL (n + 1) [] H = some [] := by rw [lendL]; split <;> rfl
theorem lendA_fn' (n : Nat) (nm : String) (cs : List A) (H : Heap) : lendA (n + 1) (.fn nm cs) H = (lendL n cs H).map (.fn nm) := by rw [lendA]
theorem lendA_ptr' (n id sz : Nat) (row : List A) (H : Heap) (hk : H[id]? = some (.live ⟨0, sz, [row]⟩)) (hp : pureL row = true) : lendA (n + 2) (.ptr id 0 0 0) H = some (.cptr row) := by
  rw [lendA, hk]
  simp [lendL_pure n row H hp]
theorem lend_cap1 (a : A) (nm : String) (id sz : Nat) (row : List A) (H : Heap) (hf : flatA a = true) (hn : normA a = a) (hk : H[id]? = some (.live ⟨0, sz, [row]⟩)) (hp : pureL row = true) :
    lendL lendFuel [a, .fn nm [.ptr id 0 0 0]] H = some [a, .fn nm [.cptr row]] := by
  rw [show lendFuel = 999 + 1 from rfl, lendL_cons' _ _ _ _ (by simp [pureA]), show (999 : Nat) = 998 + 1 from rfl, lendA_flat _ _ _ hf, hn, Option.bind_some, lendL_cons' _ _ _ _ (by simp [pureA]),
    show (998 : Nat) = 997 + 1 from rfl, lendA_fn', show (997 : Nat) = 996 + 1 from rfl, lendL_cons' _ _ _ _ (by simp [pureA]), show (996 : Nat) = 994 + 2 from rfl, lendA_ptr' _ _ _ _ _ hk hp, lendL_nil', lendL_nil']
  rfl
theorem lend_cap2 (a : A) (nm : String) (id1 id2 sz1 sz2 : Nat) (row1 row2 : List A) (H : Heap) (hf : flatA a = true) (hn : normA a = a) (hk1 : H[id1]? = some (.live ⟨0, sz1, [row1]⟩)) (hp1 : pureL row1 = true) (hk2 : H[id2]? = some (.live ⟨0, sz2, [row2]⟩)) (hp2 : pureL row2 = true) :
    lendL lendFuel [a, .fn nm [.ptr id1 0 0 0, .ptr id2 0 0 0]] H = some [a, .fn nm [.cptr row1, .cptr row2]] := by
  rw [show lendFuel = 999 + 1 from rfl, lendL_cons' _ _ _ _ (by simp [pureA]), show (999 : Nat) = 998 + 1 from rfl, lendA_flat _ _ _ hf, hn, Option.bind_some, lendL_cons' _ _ _ _ (by simp [pureA]),
    show (998 : Nat) = 997 + 1 from rfl, lendA_fn', show (997 : Nat) = 996 + 1 from rfl, lendL_cons' _ _ _ _ (by simp [pureA]), show (996 : Nat) = 994 + 2 from rfl, lendA_ptr' _ _ _ _ _ hk1 hp1, lendL_cons' _ _ _ _ (by simp [pureA]),
    show (994 + 1 : Nat) = 993 + 2 from rfl, lendA_ptr' _ _ _ _ _ hk2 hp2, lendL_nil', lendL_nil']
  rfl

end Go.Ab.T

/-
  THE DOCUMENT'S LABELS: what they come to.
-/
set_option linter.unusedSimpArgs false
set_option linter.unusedVariables false
namespace Go.Ab.T
open Go Go.Ab Go.Ab.F

theorem ok8 {n : Nat} (h : n < 1000000000) : appendOk n 8 := by constructor <;> omega
theorem ok16 {n : Nat} (h : n < 1000000000) : appendOk n 16 := by constructor <;> omega

abbrev u64C := cellC .u64


theorem IDs_inner (H0 : Heap) (kn kc ko vo : Nat) (c : Cat) (out : List Int) (s15 : List A × Heap)
    (hs : s15.1.getD 0 .any = .osl ko vo 1 0 out.length)
    (hkn : H0[kn]? = some (.live ⟨0, 1, []⟩)) (hkc : H0[kc]? = some (.live ⟨0, 2, [catC c]⟩)) (hko : H0[ko]? = some (.live ⟨vo, 1, out.map u64C⟩))
    (hnc : kc ≠ kn) (hno : ko ≠ kn) (hol : out.length < 500000000) :
    ∃ (H : Heap) (next : List Int) (ver : Nat) (done : Bool), (∀ {β : Type} (k : Ex → List A → Heap → Option β),
      oLoop (ref09_IDs_l4 (.s (.int .i64 out.length)) s15 (.ptr kc 0 0 0) H0) ([.osl kn 0 1 0 0, .s (.bool false), .s (.int .i64 0)], H0) k = k (.exit 4) [.osl kn ver 1 0 next.length, .s (.bool done)] H) ∧
      H[kn]? = some (.live ⟨ver, 1, next.map u64C⟩) ∧ KeepBut kn H0 H ∧ next.length ≤ out.length + (if done then 1 else 0) := by
  obtain ⟨q, ⟨H, next, ver, done, rfl, h1, h2, h3⟩, hq⟩ := oLoop_inv' (step := ref09_IDs_l4 (.s (.int .i64 out.length)) s15 (.ptr kc 0 0 0) H0) (s0 := ([.osl kn 0 1 0 0, .s (.bool false), .s (.int .i64 0)], H0))
    (fun j s => ∃ (H : Heap) (next : List Int) (ver : Nat) (done : Bool), s = ([.osl kn ver 1 0 next.length, .s (.bool done), .s (.int .i64 j)], H) ∧ H[kn]? = some (.live ⟨ver, 1, next.map u64C⟩) ∧ KeepBut kn H0 H ∧ next.length ≤ j + (if done then 1 else 0))
    (fun q => ∃ (H : Heap) (next : List Int) (ver : Nat) (done : Bool), q = (.exit 4, [.osl kn ver 1 0 next.length, .s (.bool done)], H) ∧ H[kn]? = some (.live ⟨ver, 1, next.map u64C⟩) ∧ KeepBut kn H0 H ∧ next.length ≤ out.length + (if done then 1 else 0))
    out.length ⟨H0, [], 0, false, rfl, hkn, KeepBut.refl _ _, by simp⟩ (by omega)
    (by
      rintro j s hj ⟨H, next, ver, done, rfl, h1, h2, h3⟩
      left
      have hx : out[j]? = some out[j] := by simp [hj]
      have c1 := h2 kc _ hnc hkc
      have o1 := h2 ko _ hno hko
      have h3' : next.length ≤ j + 1 := by cases done <;> simp at h3 <;> omega
      have hw : IntKind.i64.wrap ((j : Int) + 1) = ((j + 1 : Nat) : Int) := wrap_succ hj (by omega)
      have hi := fun {β : Type} (k : A → Option β) => idx_own u64C H ko vo 1 out.length out none (.s (.int .u64 out[j])) j out[j] .i64 rfl o1 hx rfl k
      simp only [ref09_IDs_l4, hs, List.getD_cons_zero, List.getD_cons_succ, oCmp_s, cmpInt_lss, if_true, oCond_s, Int.ofNat_lt, hj, decide_true, hi]
      by_cases hd : done = false ∧ c.id ≤ out[j]
      · obtain ⟨H1, e1, a1, b1⟩ := app1 u64C H kn ver 1 8 next.length next c.id none (.s (.int .u64 c.id)) rfl h1 rfl (by decide) (ok8 (by omega))
        have c2 := b1 kc _ hnc c1
        by_cases hne : out[j] = c.id
        · refine ⟨([.osl kn (ver + 1) 1 0 (next ++ [c.id]).length, .s (.bool true), .s (.int .i64 (j + 1 : Nat))], H1), ?_, H1, _, _, _, rfl, a1, h2.trans b1, ?_⟩
          · simp [-oNewSlice_eq, -asRows_cons, -asRows_nil, trim, hd, c1, c2, e1, ref09_IDs_k1, ref09_IDs_k2, ref09_IDs_k3, hne, hw]
          · simp [hd] at h3 ⊢; omega
        · obtain ⟨H2, e2, a2, b2⟩ := app1 u64C H1 kn (ver + 1) 1 8 (next.length + 1) (next ++ [c.id]) out[j] none (.s (.int .u64 out[j])) (by simp) a1 rfl (by decide) (ok8 (by simp; omega))
          refine ⟨([.osl kn (ver + 1 + 1) 1 0 (next ++ [c.id] ++ [out[j]]).length, .s (.bool true), .s (.int .i64 (j + 1 : Nat))], H2), ?_, H2, _, _, _, rfl, a2, (h2.trans b1).trans b2, ?_⟩
          · simp [-oNewSlice_eq, -asRows_cons, -asRows_nil, trim, hd, c1, c2, e1, e2, ref09_IDs_k1, ref09_IDs_k2, ref09_IDs_k3, hne, hw]
          · simp [hd] at h3 ⊢; omega
      · have hdl : done = true ∨ ¬ c.id ≤ out[j] := by
          by_cases h : c.id ≤ out[j]
          · left; cases done
            · exact absurd ⟨rfl, h⟩ hd
            · rfl
          · exact Or.inr h
        by_cases hne : out[j] = c.id
        · refine ⟨([.osl kn ver 1 0 next.length, .s (.bool done), .s (.int .i64 (j + 1 : Nat))], H), ?_, H, _, _, _, rfl, h1, h2, ?_⟩
          · rcases hdl with rfl | hdl
            · simp [-oNewSlice_eq, -asRows_cons, -asRows_nil, trim, c1, ref09_IDs_k1, ref09_IDs_k2, ref09_IDs_k3, hne, hw]
            · rw [hne] at hdl
              simp [-oNewSlice_eq, -asRows_cons, -asRows_nil, trim, hdl, c1, ref09_IDs_k1, ref09_IDs_k2, ref09_IDs_k3, hne, hw] at hdl ⊢
          · cases done <;> simp at h3 ⊢ <;> omega
        · obtain ⟨H2, e2, a2, b2⟩ := app1 u64C H kn ver 1 8 next.length next out[j] none (.s (.int .u64 out[j])) rfl h1 rfl (by decide) (ok8 (by omega))
          refine ⟨([.osl kn (ver + 1) 1 0 (next ++ [out[j]]).length, .s (.bool done), .s (.int .i64 (j + 1 : Nat))], H2), ?_, H2, _, _, _, rfl, a2, h2.trans b2, ?_⟩
          · rcases hdl with rfl | hdl
            · simp [-oNewSlice_eq, -asRows_cons, -asRows_nil, trim, c1, e2, ref09_IDs_k1, ref09_IDs_k2, ref09_IDs_k3, hne, hw]
            · cases done <;> simp [-oNewSlice_eq, -asRows_cons, -asRows_nil, trim, hdl, c1, e2, ref09_IDs_k1, ref09_IDs_k2, ref09_IDs_k3, hne, hw]
          · cases done <;> simp at h3 ⊢ <;> omega)
    (by
      rintro s ⟨H, next, ver, done, rfl, h1, h2, h3⟩
      exact ⟨_, by simp [ref09_IDs_l4, trim], H, next, ver, done, rfl, h1, h2, h3⟩)
  exact ⟨H, next, ver, done, fun k => hq k, h1, h2, h3⟩

/-- The loop over a label's categories. -/
theorem IDs_middle (H0 : Heap) (ko vo : Nat) (cats : List Cat) (out : List Int) (s6 : List A × Heap)
    (hko : H0[ko]? = some (.live ⟨vo, 1, out.map u64C⟩)) (hol : out.length + cats.length < 400000000) :
    ∃ (H : Heap) (next : List Int) (kn ver : Nat), (∀ {β : Type} (k : Ex → List A → Heap → Option β),
      oLoop (ref09_IDs_l7 (.s (.int .i64 cats.length)) (mkF 2 (cats.map catC)) H0) ([.osl ko vo 1 0 out.length, .s (.int .i64 0)], H0) k = k (.exit 2) [.osl kn ver 1 0 next.length] H) ∧
      H[kn]? = some (.live ⟨ver, 1, next.map u64C⟩) ∧ next.length ≤ out.length + cats.length := by
  obtain ⟨q, ⟨H, next, kn, ver, rfl, h1, h3⟩, hq⟩ := oLoop_inv' (step := ref09_IDs_l7 (.s (.int .i64 cats.length)) (mkF 2 (cats.map catC)) H0) (s0 := ([.osl ko vo 1 0 out.length, .s (.int .i64 0)], H0))
    (fun j s => ∃ (H : Heap) (next : List Int) (kn ver : Nat), s = ([.osl kn ver 1 0 next.length, .s (.int .i64 j)], H) ∧ H[kn]? = some (.live ⟨ver, 1, next.map u64C⟩) ∧ next.length ≤ out.length + j)
    (fun q => ∃ (H : Heap) (next : List Int) (kn ver : Nat), q = (.exit 2, [.osl kn ver 1 0 next.length], H) ∧ H[kn]? = some (.live ⟨ver, 1, next.map u64C⟩) ∧ next.length ≤ out.length + cats.length)
    cats.length ⟨H0, out, ko, vo, rfl, hko, by omega⟩ (by omega)
    (by
      rintro j s hj ⟨H, next, kn, ver, rfl, h1, h3⟩
      left
      have hx : cats[j]? = some cats[j] := by simp [hj]
      have hw : IntKind.i64.wrap ((j : Int) + 1) = ((j + 1 : Nat) : Int) := wrap_succ hj (by omega)
      have hlt := lt_of_some h1
      obtain ⟨H1, next1, ver1, done, e1, a1, b1, l1⟩ := IDs_inner (H ++ [.live ⟨0, 2, [catC cats[j]]⟩] ++ [.live ⟨0, 1, []⟩]) (H.length + 1) H.length kn ver cats[j] next
        ([.osl kn ver 1 0 next.length, .s (.int .i64 j)], H) rfl (by simp) (by simp) (by simp [List.getElem?_append_left hlt, h1]) (by omega) (by omega) (by omega)
      have c1 := b1 H.length (.live ⟨0, 2, [catC cats[j]]⟩) (by omega) (by simp)
      have hstep : ref09_IDs_l7 (.s (.int .i64 cats.length)) (mkF 2 (cats.map catC)) H0 ([.osl kn ver 1 0 next.length, .s (.int .i64 j)], H) =
          ref09_IDs_k6 (.ptr H.length 0 0 0) ([.osl kn ver 1 0 next.length, .s (.int .i64 j)], H) H0 (.exit 4) [.osl (H.length + 1) ver1 1 0 next1.length, .s (.bool done)] H1 := by
        refine Eq.trans ?_ (e1 _)
        simp [ref09_IDs_l7, hj, oIdxA_mkF _ _ _ _ _ _ _ hx]
      rw [hstep]
      cases done with
      | true =>
        refine ⟨([.osl (H.length + 1) ver1 1 0 next1.length, .s (.int .i64 (j + 1 : Nat))], H1), ?_, H1, _, _, _, rfl, a1, ?_⟩
        · simp [ref09_IDs_k6, ref09_IDs_k5, trim, hw]
        · simp at l1; omega
      | false =>
        obtain ⟨H2, e2, a2, b2⟩ := app1 u64C H1 (H.length + 1) ver1 1 8 next1.length next1 cats[j].id none (.s (.int .u64 cats[j].id)) rfl a1 rfl (by decide) (ok8 (by simp at l1; omega))
        refine ⟨([.osl (H.length + 1) (ver1 + 1) 1 0 (next1 ++ [cats[j].id]).length, .s (.int .i64 (j + 1 : Nat))], H2), ?_, H2, _, _, _, rfl, a2, ?_⟩
        · simp [-oNewSlice_eq, -asRows_cons, -asRows_nil, ref09_IDs_k6, ref09_IDs_k5, trim, hw, c1, e2]
        · simp at l1 ⊢; omega)
    (by
      rintro s ⟨H, next, kn, ver, rfl, h1, h3⟩
      exact ⟨_, by simp [ref09_IDs_l7, trim], H, next, kn, ver, rfl, h1, h3⟩)
  exact ⟨H, next, kn, ver, fun k => hq k, h1, h3⟩

theorem ref09_IDs_v (a b : Label) (ha : a.cats.length < 100000000) (hb : b.cats.length < 100000000) :
    ∃ (ids : List Int) (ver : Nat), ref09_IDs [.agg (labelC a ++ labelC b)] [] = some (.ok (.osl 0 ver 1 0 ids.length), [.live ⟨ver, 1, ids.map u64C⟩]) ∧ ids.length ≤ a.cats.length + b.cats.length := by
  have step : ∀ (l : Label) (i : Nat) (out : List Int) (kn ver : Nat) (H h4 : Heap), (i = 0 ∧ l = a ∨ i = 1 ∧ l = b) → H[kn]? = some (.live ⟨ver, 1, out.map u64C⟩) → out.length ≤ 200000000 →
      ∃ (H1 : Heap) (next : List Int) (kn1 ver1 : Nat), ref09_IDs_l9 (.agg (labelC a ++ labelC b)) h4 ([.osl kn ver 1 0 out.length, .s (.int .i64 i)], H) = some (.inl ([.osl kn1 ver1 1 0 next.length, .s (.int .i64 (i + 1 : Nat))], H1)) ∧
        H1[kn1]? = some (.live ⟨ver1, 1, next.map u64C⟩) ∧ next.length ≤ out.length + l.cats.length := by
    intro l i out kn ver H h4 hl hk ho
    have hlt := lt_of_some hk
    obtain ⟨H1, next, kn1, ver1, e1, a1, l1⟩ := IDs_middle (H ++ [.live ⟨0, 2, [labelC l]⟩]) kn ver l.cats out ([.osl kn ver 1 0 out.length, .s (.int .i64 i)], H) (by rw [List.getElem?_append_left hlt]; exact hk) (by rcases hl with ⟨_, rfl⟩ | ⟨_, rfl⟩ <;> omega)
    refine ⟨H1, next, kn1, ver1, ?_, a1, l1⟩
    have : ref09_IDs_l9 (.agg (labelC a ++ labelC b)) h4 ([.osl kn ver 1 0 out.length, .s (.int .i64 i)], H) = ref09_IDs_k8 ([.osl kn ver 1 0 out.length, .s (.int .i64 i)], H) h4 (.exit 2) [.osl kn1 ver1 1 0 next.length] H1 := by
      refine Eq.trans ?_ (e1 _)
      rcases hl with ⟨rfl, rfl⟩ | ⟨rfl, rfl⟩ <;> simp [ref09_IDs_l9, oIndex_agg, cellsAt, labelC]
    rw [this]
    rcases hl with ⟨rfl, rfl⟩ | ⟨rfl, rfl⟩ <;> simp [ref09_IDs_k8, trim] <;> decide
  obtain ⟨q, ⟨H, next, kn, ver, rfl, h1, h3⟩, hq⟩ := oLoop_inv' (step := ref09_IDs_l9 (.agg (labelC a ++ labelC b)) [.live ⟨0, 4, [labelC a ++ labelC b]⟩, .live ⟨0, 1, []⟩]) (s0 := ([.osl 1 0 1 0 0, .s (.int .i64 0)], [.live ⟨0, 4, [labelC a ++ labelC b]⟩, .live ⟨0, 1, []⟩]))
    (fun j s => ∃ (H : Heap) (next : List Int) (kn ver : Nat), s = ([.osl kn ver 1 0 next.length, .s (.int .i64 j)], H) ∧ H[kn]? = some (.live ⟨ver, 1, next.map u64C⟩) ∧ next.length ≤ (if 0 < j then a.cats.length else 0) + (if 1 < j then b.cats.length else 0))
    (fun q => ∃ (H : Heap) (next : List Int) (kn ver : Nat), q = (.exit 0, [.osl kn ver 1 0 next.length], H) ∧ H[kn]? = some (.live ⟨ver, 1, next.map u64C⟩) ∧ next.length ≤ a.cats.length + b.cats.length)
    2 ⟨_, [], 1, 0, rfl, rfl, by simp⟩ (by omega)
    (by
      rintro j s hj ⟨H, next, kn, ver, rfl, h1, h3⟩
      left
      have : j = 0 ∨ j = 1 := by omega
      rcases this with rfl | rfl
      · obtain ⟨H1, n1, k1, v1, e, a1, b1⟩ := step a 0 next kn ver H _ (Or.inl ⟨rfl, rfl⟩) h1 (by simp at h3; simp [h3])
        exact ⟨_, e, H1, n1, k1, v1, rfl, a1, by simp at h3 ⊢; simp [h3] at b1; omega⟩
      · obtain ⟨H1, n1, k1, v1, e, a1, b1⟩ := step b 1 next kn ver H _ (Or.inr ⟨rfl, rfl⟩) h1 (by simp at h3; omega)
        exact ⟨_, e, H1, n1, k1, v1, rfl, a1, by simp at h3 ⊢; omega⟩)
    (by
      rintro s ⟨H, next, kn, ver, rfl, h1, h3⟩
      exact ⟨_, by simp [ref09_IDs_l9, trim], H, next, kn, ver, rfl, h1, by simpa using h3⟩)
  refine ⟨next, ver, ?_, h3⟩
  refine Eq.trans ?_ ((hq (ref09_IDs_k10 [])).trans ?_)
  · simp [ref09_IDs, labelC, cellsAt]
  · simp only [ref09_IDs_k10, if_true, List.getD_cons_zero]
    exact finish_own kn ver 1 _ _ H h1 (idsRows_map _ (fun x => rfl) _) (fun f => renRows_map f _ (fun x => rfl) _)

/-- The level of a category. -/
def rlevel (l : Label) (id : Int) : Int :=
  match l.cats.find? (fun c => c.id == id) with
  | some c => c.level
  | none => l.df

theorem ref09_Level_v (l : Label) (id : Int) (hl : l.cats.length < 2 ^ 63) : ref09_Level [.agg (labelC l), .s (.int .u64 id)] [] = some (.ok (.s (.int .i64 (rlevel l id))), []) := by
  simp [ref09_Level]
  refine Eq.trans (oLoop_find (enc := fun i => ([.s (.int .i64 i)], [Slot.live ⟨0, 2, [labelC l]⟩])) (fun c => c.id == id)
    (fun c => (Ex.ret, [.s (.int .i64 c.level)], [Slot.live ⟨0, 2, [labelC l]⟩])) (Ex.exit 0, [.any], [Slot.live ⟨0, 2, [labelC l]⟩]) l.cats (by simp) hl ?_ ?_) ?_
  · intro i c hc hi
    simp [ref09_Level_l1, oIdxA_mkF _ _ _ _ _ _ _ hc, hi, wrap_succ hi hl, trim, allBelow]
  · simp [ref09_Level_l1, trim, allBelow]
  · unfold rlevel
    cases l.cats.find? (fun c => c.id == id) <;> simp [ref09_Level_k2, finish_val]

/-- A slice that is nil as long as it is empty. -/
def ownNil (H : Heap) (a : A) (sz : Nat) (rows : List (List A)) (bad : List Nat) : Prop :=
  (a = .s (.slice none 0 0) ∧ rows = []) ∨ ∃ id ver, a = .osl id ver sz 0 rows.length ∧ H[id]? = some (.live ⟨ver, sz, rows⟩) ∧ id ∉ bad

theorem Form_step (l : Label) (ids : List Int) (h15 H : Heap) (i : Nat) (hi : i < ids.length) (out : List Cat) (C : A) (hl : l.cats.length < 100000000) (ho : out.length < 200000000) (hn : ids.length < 2 ^ 63)
    (h0 : H[0]? = some (.live ⟨0, 2, [labelC l]⟩)) (h2 : H[2]? = some (.live ⟨0, 2, [[.s (.int .i64 l.df), C]]⟩)) (hC : ownNil H C 2 (out.map catC) [0, 1, 2]) :
    ∃ (H' : Heap) (C' : A) (out' : List Cat), ref09_Form_l2 (.s (.int .i64 ids.length)) (mkF 1 (ids.map u64C)) (.ptr 0 0 0 0) (.ptr 2 0 0 0) h15 ([.s (.int .i64 i)], H) = some (.inl ([.s (.int .i64 (i + 1 : Nat))], H')) ∧
      H'[0]? = some (.live ⟨0, 2, [labelC l]⟩) ∧ H'[2]? = some (.live ⟨0, 2, [[.s (.int .i64 l.df), C']]⟩) ∧ ownNil H' C' 2 (out'.map catC) [0, 1, 2] ∧ out'.length ≤ out.length + 1 ∧ H'[1]? = H[1]? := by
  have hx : ids[i]? = some ids[i] := by simp [hi]
  have hlv : ∀ (β : Type) (n0 : Nat) (wr : List Nat) (id : Int) (h : Heap) (k : A → Heap → Option β), oCallF n0 wr ref09_Level [.agg (labelC l), .s (.int .u64 id)] h k = k (.s (.int .i64 (rlevel l id))) h := fun β n0 wr id h k =>
    oCallF_val _ _ _ _ _ _ _ (by simp) (by simp) (ref09_Level_v l id (by omega))
  have hp0 := lt_of_some h0
  have hp2 := lt_of_some h2
  have a0 := app_some h0
  have a2 := app_some h2
  by_cases hd : rlevel l ids[i] = l.df
  · refine ⟨H, C, out, ?_, h0, h2, hC, by omega, rfl⟩
    simp [at_get h0, at_get h2, app_get' h0, app_get' h2, ref09_Form_l2, ref09_Form_k1, hi, oIdxA_mkF _ _ _ _ _ _ _ hx, oLoadD, h0, hp0, hlv, trim, hd, wrap_succ hi hn]
  · rcases hC with ⟨rfl, ho'⟩ | ⟨id, ver, rfl, hk, hb⟩
    · simp only [List.map_eq_nil_iff] at ho'
      subst ho'
      refine ⟨H.set 2 (.live ⟨0, 2, [[.s (.int .i64 l.df), .osl (H.length + 1) 0 2 0 1]]⟩) ++ [.live ⟨0, 2, [catC ⟨ids[i], rlevel l ids[i]⟩]⟩, .live ⟨0, 2, [catC ⟨ids[i], rlevel l ids[i]⟩]⟩], .osl (H.length + 1) 0 2 0 1, [⟨ids[i], rlevel l ids[i]⟩], ?_, ?_, ?_, ?_, ?_, ?_⟩
      · simp [at_get h0, at_get h2, app_get' h0, app_get' h2, ref09_Form_l2, ref09_Form_k1, hi, oIdxA_mkF _ _ _ _ _ _ _ hx, oLoadD, h0, h2, a0, a2, hp0, hp2, hlv, trim, hd, wrap_succ hi hn, oAppendD, oAppend_nil, place, app_len0, app_len1, set_len0, set_len1, List.replicate, wrL, wrA, idTop, ok16, putCells, catC, app_set' h2]
      · exact app_some (by rw [List.getElem?_set_ne (by decide)]; exact h0) _
      · exact app_some (List.getElem?_set_self hp2) _
      · exact Or.inr ⟨H.length + 1, 0, rfl, by rw [List.getElem?_append_right (by simp)]; simp, by simp only [List.mem_cons, List.not_mem_nil, or_false]; omega⟩
      · simp
      · rw [List.getElem?_append_left (by simp; omega), List.getElem?_set_ne (by decide)]
    · simp only [List.mem_cons, List.not_mem_nil, or_false, not_or] at hb
      obtain ⟨n0, n1, n2⟩ := hb
      have hpk := lt_of_some hk
      have hok : appendOk (out.length + 1) 16 := ok16 (by omega)
      have htk : List.take out.length (List.map catC out) = List.map catC out := List.take_of_length_le (by simp)
      refine ⟨(H.set id (.live ⟨ver + 1, 2, (out ++ [Cat.mk ids[i] (rlevel l ids[i])]).map catC⟩)).set 2 (.live ⟨0, 2, [[.s (.int .i64 l.df), .osl id (ver + 1) 2 0 (out.length + 1)]]⟩) ++ [.live ⟨0, 2, [catC ⟨ids[i], rlevel l ids[i]⟩]⟩, .res], .osl id (ver + 1) 2 0 (out.length + 1), out ++ [Cat.mk ids[i] (rlevel l ids[i])], ?_, ?_, ?_, ?_, ?_, ?_⟩
      · simp [at_get h0, at_get h2, app_get' h0, app_get' h2, at_get hk, app_get' hk, ref09_Form_l2, ref09_Form_k1, hi, oIdxA_mkF _ _ _ _ _ _ _ hx, oLoadD, h0, h2, hk, app_some hk, a0, a2, hp0, hp2, hpk, hlv, trim, hd, wrap_succ hi hn, oAppendD, oAppend_osl, place, app_len0, app_len1, set_len0, set_len1, List.replicate, wrL, wrA, idTop, ok16, putCells, catC, app_set' h2, app_set' hk, n0, n1, n2, Ne.symm n0, Ne.symm n2, hok, htk]
      · exact app_some (by rw [List.getElem?_set_ne (by decide), List.getElem?_set_ne n0]; exact h0) _
      · exact app_some (List.getElem?_set_self (by simpa using hp2)) _
      · exact Or.inr ⟨id, ver + 1, by simp, app_some (by rw [List.getElem?_set_ne (Ne.symm n2), List.getElem?_set_self hpk]) _, by simp [n0, n1, n2]⟩
      · simp
      · rw [List.getElem?_append_left (by simp; omega), List.getElem?_set_ne (by decide), List.getElem?_set_ne n1]

/-- The label in its form: some label. -/
theorem ref09_Form_v (l : Label) (hl : l.cats.length < 100000000) : ∃ (C : A) (r : Label) (objs : Heap), ref09_Form [.agg (labelC l)] [] = some (.ok (.agg [.s (.int .i64 r.df), C]), objs) ∧ r.df = l.df ∧ r.cats.length ≤ l.cats.length ∧
    ((C = .s (.slice none 0 0) ∧ r.cats = [] ∧ objs = []) ∨ ∃ ver, C = .osl 0 ver 2 0 r.cats.length ∧ objs = [.live ⟨ver, 2, r.cats.map catC⟩]) := by
  obtain ⟨ids, ver, hids, hidl⟩ := ref09_IDs_v l ⟨0, []⟩ hl (by simp)
  simp only [List.length_nil, Nat.add_zero] at hidl
  have hlend : lendL lendFuel [.agg (labelC l ++ [.s (.int .i64 0), .s (.slice none 0 0)])] [] = some [.agg (labelC l ++ labelC ⟨0, []⟩)] := by
    exact lend_agg _ _ _ (by simp [labelC]) (by simp) (by simp [labelC])
  have hput : putCells (labelC l ++ [A.s (Value.int IntKind.i64 0), A.s (Value.slice none 0 0)]) 2 [A.s (Value.int IntKind.i64 0), A.s (Value.slice none 0 0)] = labelC l ++ [.s (.int .i64 0), .s (.slice none 0 0)] := by
    simp [putCells, labelC]
  have hcall : ∀ (β : Type) (h : Heap) (kp k : A → Heap → Option β), oLend ref09_IDs [.agg (labelC l ++ [.s (.int .i64 0), .s (.slice none 0 0)])] h kp k = k (.osl h.length ver 1 0 ids.length) (h ++ [.live ⟨ver, 1, ids.map u64C⟩]) := fun β h kp k =>
    oLend_own _ _ _ _ _ _ _ _ _ _ (by simp) hlend (fun f => renRows_map f _ (fun x => rfl) _) hids
  have hfrz := fun (H : Heap) (k : A → Heap → Option (Out × Heap)) => oFrz_own (H ++ [.live ⟨ver, 1, ids.map u64C⟩]) H.length ver 1 ids.length (ids.map u64C) k (by simp) (by simp) (pureRows_map _ (fun x => rfl) _)
  let H0 : Heap := [.live ⟨0, 2, [labelC l]⟩, .live ⟨0, 2, [[.s (.int .i64 0), .s (.slice none 0 0)]]⟩, .live ⟨0, 2, [[.s (.int .i64 l.df), .s (.slice none 0 0)]]⟩, .dead]
  obtain ⟨q, ⟨H, C, out, rfl, h0, h1, h2, hC, hlen⟩, hq⟩ := oLoop_inv' (step := ref09_Form_l2 (.s (.int .i64 ids.length)) (mkF 1 (ids.map u64C)) (.ptr 0 0 0 0) (.ptr 2 0 0 0) H0) (s0 := ([.s (.int .i64 0)], H0))
    (fun i s => ∃ (H : Heap) (C : A) (out : List Cat), s = ([.s (.int .i64 i)], H) ∧ H[0]? = some (.live ⟨0, 2, [labelC l]⟩) ∧ H[1]? = H0[1]? ∧ H[2]? = some (.live ⟨0, 2, [[.s (.int .i64 l.df), C]]⟩) ∧ ownNil H C 2 (out.map catC) [0, 1, 2] ∧ out.length ≤ i)
    (fun q => ∃ (H : Heap) (C : A) (out : List Cat), q = (.exit 0, [], H) ∧ H[0]? = some (.live ⟨0, 2, [labelC l]⟩) ∧ H[1]? = H0[1]? ∧ H[2]? = some (.live ⟨0, 2, [[.s (.int .i64 l.df), C]]⟩) ∧ ownNil H C 2 (out.map catC) [0, 1, 2] ∧ out.length ≤ ids.length)
    ids.length ⟨H0, .s (.slice none 0 0), [], rfl, rfl, rfl, rfl, Or.inl ⟨rfl, rfl⟩, by simp⟩ (by omega)
    (by
      rintro i s hi ⟨H, C, out, rfl, h0, h1, h2, hC, hlen⟩
      left
      obtain ⟨H', C', out', e, g0, g2, gC, gl, g1⟩ := Form_step l ids H0 H i hi out C hl (by omega) (by omega) h0 h2 hC
      exact ⟨_, e, H', C', out', rfl, g0, g1.trans h1, g2, gC, by omega⟩)
    (by
      rintro s ⟨H, C, out, rfl, h0, h1, h2, hC, hlen⟩
      exact ⟨_, by simp [ref09_Form_l2, trim], H, C, out, rfl, h0, h1, h2, hC, hlen⟩)
  have hrun : ref09_Form [.agg (labelC l)] [] = ref09_Form_k3 (.ptr 2 0 0 0) (.ptr 1 0 0 0) [] (.exit 0) [] H := by
    refine Eq.trans ?_ (hq (ref09_Form_k3 (.ptr 2 0 0 0) (.ptr 1 0 0 0) []))
    simp [ref09_Form, hput]
    rw [hcall]
    refine (oFrz_own _ _ ver 1 ids.length (ids.map u64C) _ (by simp) (by simp) (pureRows_map _ (fun x => rfl) _)).trans ?_
    simp [H0]
  rw [hrun]
  have hp2 := lt_of_some h2
  have hp1 : 1 < H.length := by omega
  have h1' : H[1]? = some (.live ⟨0, 2, [[.s (.int .i64 0), .s (.slice none 0 0)]]⟩) := h1
  rcases hC with ⟨rfl, ho⟩ | ⟨id, ver', rfl, hk, hb⟩
  · simp only [List.map_eq_nil_iff] at ho
    subst ho
    refine ⟨_, ⟨l.df, []⟩, [], ?_, rfl, by simp, Or.inl ⟨rfl, rfl, rfl⟩⟩
    simp [ref09_Form_k3, at_get h1', at_get h2, h1', h2, hp1, hp2, cellsAt, finish_val]
  · simp only [List.mem_cons, List.not_mem_nil, or_false, not_or] at hb
    refine ⟨_, ⟨l.df, out⟩, _, ?_, rfl, by simp; omega, Or.inr ⟨ver', rfl, rfl⟩⟩
    simp [ref09_Form_k3, at_get h1', at_get h2, h1', h2, hp1, hp2, cellsAt]
    exact finish_one _ _ id _ _ (by simp) (by simp) (by rw [List.getElem?_set_ne (Ne.symm hb.2.1)]; exact hk) (idsRows_map _ (fun x => by simp) _) (fun f => renRows_map f _ (fun x => by simp [catC]) _)
end Go.Ab.T

/-
  THE DOCUMENT'S LABELS AND THINGS: what they come to.
-/
set_option linter.unusedSimpArgs false
set_option linter.unusedVariables false
namespace Go.Ab.T
open Go Go.Ab Go.Ab.F

@[simp] theorem eqCells_cat (a b : Cat) : eqCells [true, true] (catC a) (catC b) = some (decide (a = b)) := by
  obtain ⟨a1, a2⟩ := a; obtain ⟨b1, b2⟩ := b
  by_cases h1 : a1 = b1 <;> by_cases h2 : a2 = b2 <;> simp [catC, eqCells, h1, h2]
@[simp] theorem eqCells_link (a b : Link) : eqCells [true, true] (linkC a) (linkC b) = some (decide (a = b)) := by
  obtain ⟨a1, a2⟩ := a; obtain ⟨b1, b2⟩ := b
  by_cases h1 : a1 = b1 <;> by_cases h2 : a2 = b2 <;> simp [linkC, eqCells, h1, h2]
@[simp] theorem eqCells_slot (a b : T.Slot) : eqCells [true, true] (slotC a) (slotC b) = some (decide (a = b)) := by
  obtain ⟨a1, a2⟩ := a; obtain ⟨b1, b2⟩ := b
  by_cases h1 : a1 = b1 <;> by_cases h2 : a2 = b2 <;> simp [slotC, eqCells, h1, h2]

/-- Two lists of one length, place by place. -/
theorem zip_find {α : Type} [DecidableEq α] : ∀ (a b : List α), a.length = b.length → ((a.zip b).find? (fun p => !decide (p.1 = p.2)) = none ↔ a = b)
  | [], [], _ => by simp
  | x :: a, y :: b, h => by
    simp only [List.length_cons, Nat.add_right_cancel_iff] at h
    have ih := zip_find a b h
    by_cases hxy : x = y
    · simp only [List.zip_cons_cons, List.find?_cons, hxy, decide_true, Bool.not_true, ih, List.cons.injEq, true_and]
    · simp [hxy]

theorem zip_get {α : Type} {a b : List α} {i : Nat} {p : α × α} (h : (a.zip b)[i]? = some p) : a[i]? = some p.1 ∧ b[i]? = some p.2 := by
  rw [List.getElem?_zip_eq_some] at h; exact h

theorem ref09_Exact_v (a b : Label) (ha : a.cats.length < 2 ^ 63) : ref09_Exact [.agg (labelC a), .agg (labelC b)] [] = some (.ok (.s (.bool (decide (a = b)))), []) := by
  have hab : decide (a = b) = (decide (a.df = b.df) && decide (a.cats = b.cats)) := by
    obtain ⟨a1, a2⟩ := a; obtain ⟨b1, b2⟩ := b
    by_cases h1 : a1 = b1 <;> by_cases h2 : a2 = b2 <;> simp [h1, h2]
  by_cases hd : a.df = b.df
  · by_cases hl : a.cats.length = b.cats.length
    · have hzl : (a.cats.zip b.cats).length = a.cats.length := by simp [hl]
      simp [ref09_Exact, hd, hl, trim, allBelow, ref09_Exact_k3]
      refine Eq.trans (oLoop_find (enc := fun i => ([.s (.int .i64 i)], [Slot.live ⟨0, 2, [labelC a]⟩, Slot.live ⟨0, 2, [labelC b]⟩])) (fun (p : Cat × Cat) => !decide (p.1 = p.2))
        (fun p => (Ex.ret, [.s (.bool false)], [Slot.live ⟨0, 2, [labelC a]⟩, Slot.live ⟨0, 2, [labelC b]⟩])) (Ex.exit 0, [.any], [Slot.live ⟨0, 2, [labelC a]⟩, Slot.live ⟨0, 2, [labelC b]⟩]) (a.cats.zip b.cats) (by simp) (by omega) ?_ ?_) ?_
      · intro i p hp hi
        obtain ⟨h1, h2⟩ := zip_get hp
        rw [hzl] at hi
        have hi2 : i < b.cats.length := by omega
        by_cases he : p.1 = p.2
        · simp [ref09_Exact_l1, oLoadD, hi, hi2, oIdxA_mkF _ _ _ _ _ _ _ h1, oIdxA_mkF _ _ _ _ _ _ _ h2, trim, allBelow, he, wrap_succ hi ha]
        · simp [ref09_Exact_l1, oLoadD, hi, hi2, oIdxA_mkF _ _ _ _ _ _ _ h1, oIdxA_mkF _ _ _ _ _ _ _ h2, trim, allBelow, he, wrap_succ hi ha]
      · simp [ref09_Exact_l1, trim, allBelow, hl]
      · have hz := zip_find a.cats b.cats hl
        rw [hab]
        cases hf : (a.cats.zip b.cats).find? (fun p => !decide (p.1 = p.2)) with
        | none => simp [ref09_Exact_k2, finish_val, hz.1 hf, hd]
        | some p =>
          have : ¬ a.cats = b.cats := fun h => by rw [hz.2 h] at hf; cases hf
          simp [ref09_Exact_k2, finish_val, this, hd]
    · have : ¬ a.cats = b.cats := fun h => hl (by rw [h])
      have hl' : ¬ ((a.cats.length : Int) = b.cats.length) := by omega
      simp [ref09_Exact, hd, hl, hl', trim, allBelow, ref09_Exact_k3, hab, this, finish_val]
  · simp [ref09_Exact, hd, trim, allBelow, ref09_Exact_k3, hab, finish_val]

/-- Is no level in it Star? -/
def pure (l : Label) : Bool := !decide (l.df = 0) && (l.cats.find? (fun c => c.level == 0)).isNone
theorem ref10_Pure_v (l : Label) (hl : l.cats.length < 2 ^ 63) : ref10_Pure [.agg (labelC l)] [] = some (.ok (.s (.bool (pure l))), []) := by
  by_cases hd : l.df = 0
  · simp [ref10_Pure, hd, finish_val, pure]
  · simp [ref10_Pure, hd]
    refine Eq.trans (oLoop_find (enc := fun i => ([.s (.int .i64 i)], [Slot.live ⟨0, 2, [labelC l]⟩])) (fun (c : Cat) => c.level == 0)
      (fun c => (Ex.ret, [.s (.bool false)], [Slot.live ⟨0, 2, [labelC l]⟩])) (Ex.exit 0, [.any], [Slot.live ⟨0, 2, [labelC l]⟩]) l.cats (by simp) hl ?_ ?_) ?_
    · intro i c hc hi
      simp [ref10_Pure_l1, oIdxA_mkF _ _ _ _ _ _ _ hc, hi, wrap_succ hi hl, trim, allBelow]
    · simp [ref10_Pure_l1, trim, allBelow]
    · unfold pure
      cases l.cats.find? (fun c => c.level == 0) <;> simp [ref10_Pure_k2, finish_val, hd]

/-- A call of Form in a region with an open order. -/
theorem Form_call (l : Label) (hl : l.cats.length < 100000000) : ∃ (r : Label) (ex : Heap), r.df = l.df ∧ r.cats.length ≤ l.cats.length ∧ (∀ s ∈ ex, Slot.ids s = []) ∧
    ∀ (β : Type) (n0 : Nat) (wr : List Nat) (h : Heap) (k : A → Heap → Option β), (oCallF n0 wr ref09_Form [.agg (labelC l)] h fun w h' => oFrz w h' k) = k (.agg (labelC r)) (h ++ ex) := by
  obtain ⟨C, r, objs, hF, hdf, hrl, hC⟩ := ref09_Form_v l hl
  have hll : lendL lendFuel [.agg (labelC l)] [] = some [.agg (labelC l)] := lendL_pure 999 _ _ (by simp)
  rcases hC with ⟨rfl, hc, rfl⟩ | ⟨ver, rfl, rfl⟩
  · refine ⟨r, [], hdf, hrl, by simp, fun β n0 wr h k => ?_⟩
    have e : ∀ k' : A → Heap → Option β, oCallF n0 wr ref09_Form [.agg (labelC l)] h k' = k' (.agg [.s (.int .i64 r.df), .s (.slice none 0 0)]) h := fun k' => by
      unfold oCallF
      rw [if_pos (by simp), hll]
      simp only [hF]
      simp [giveBack, setAll]
    rw [e, frz_cell2 _ (.fsl 0 []) _ h h k rfl (fun n h => by simp [frzA, nilS]) rfl (fun n => by simp [frzA, nilS])]
    simp [labelC, hc]
  · have hren : ∀ f, renRows f (r.cats.map catC) = some (r.cats.map catC) := fun f => renRows_map f catC (fun x => by simp [catC]) r.cats
    refine ⟨r, [.dead], hdf, hrl, by simp, fun β n0 wr h k => ?_⟩
    have e : ∀ k' : A → Heap → Option β, oCallF n0 wr ref09_Form [.agg (labelC l)] h k' = k' (.agg [.s (.int .i64 r.df), .osl h.length ver 2 0 r.cats.length]) (h ++ [.live ⟨ver, 2, r.cats.map catC⟩]) := fun k' => by
      unfold oCallF
      rw [if_pos (by simp), hll]
      simp only [hF]
      simp [giveBack, setAll, backIdx, hren]
    rw [e, frz_cell2 _ (mkF 2 (r.cats.map catC)) _ _ ((h ++ [Go.Ab.Slot.live ⟨ver, 2, r.cats.map catC⟩]).set h.length Go.Ab.Slot.dead) k rfl (fun n h => by simp [frzA, nilS]) rfl (fun n => frz_own n h.length ver 2 r.cats.length (r.cats.map catC) (h ++ [Go.Ab.Slot.live ⟨ver, 2, r.cats.map catC⟩]) (by simp) (by simp) (pureRows_map _ (fun x => by simp) _))]
    simp [labelC]

/-- Can a category stand in a label? -/
def badCat (c : Cat) : Bool := decide (c.id < 1) || decide (2305843009213693951 < c.id) || decide (c.level < 0) || decide (4 < c.level)

theorem ref09_Right_v (l : Label) (hl : l.cats.length < 2 ^ 63) : ∃ b : Bool, ref09_Right [.agg (labelC l)] [] = some (.ok (.s (.bool b)), []) ∧ (b = true → l.cats.length ≤ 6) := by
  have fin : ∀ b : Bool, ∃ c : Bool, ref09_Right_k4 [] (.ptr 0 0 0 0) .normal [.s (.bool b)] [.live ⟨0, 2, [labelC l]⟩] = some (.ok (.s (.bool c)), []) ∧ (c = true → b = false) := by
    intro b
    cases b with
    | true => exact ⟨false, by simp [ref09_Right_k4, finish_val], by simp⟩
    | false =>
      refine ⟨(l.cats.find? badCat).isNone, ?_, by simp⟩
      simp [ref09_Right_k4]
      refine Eq.trans (oLoop_find (enc := fun i => ([.s (.int .i64 i)], [Slot.live ⟨0, 2, [labelC l]⟩])) badCat
        (fun c => (Ex.ret, [.s (.bool false)], [Slot.live ⟨0, 2, [labelC l]⟩])) (Ex.exit 0, [.any], [Slot.live ⟨0, 2, [labelC l]⟩]) l.cats (by simp) hl ?_ ?_) ?_
      · intro i c hc hi
        by_cases h1 : c.id < 1 <;> by_cases h2 : 2305843009213693951 < c.id <;> by_cases h3 : c.level < 0 <;> by_cases h4 : 4 < c.level <;>
          simp [ref09_Right_l2, ref09_Right_k1, oIdxA_mkF _ _ _ _ _ _ _ hc, hi, wrap_succ hi hl, trim, allBelow, h1, h2, h3, h4, badCat]
      · simp [ref09_Right_l2, trim, allBelow]
      · cases l.cats.find? badCat <;> simp [ref09_Right_k3, finish_val]
  have hrun : ∃ b : Bool, ref09_Right [.agg (labelC l)] [] = ref09_Right_k4 [] (.ptr 0 0 0 0) .normal [.s (.bool b)] [.live ⟨0, 2, [labelC l]⟩] ∧ (b = false → l.cats.length ≤ 6) := by
    by_cases h1 : l.df < 1
    · exact ⟨true, by simp [ref09_Right, oLoadD, h1, trim, allBelow], by simp⟩
    by_cases h2 : 4 < l.df
    · exact ⟨true, by simp [ref09_Right, oLoadD, h1, h2, trim, allBelow], by simp⟩
    by_cases h3 : 6 < l.cats.length
    · exact ⟨true, by simp [ref09_Right, oLoadD, h1, h2, h3, show ¬ ((l.cats.length : Int) ≤ 6) by omega, trim, allBelow], by simp⟩
    have h3' : ¬ (6 < (l.cats.length : Int)) := by omega
    obtain ⟨r, ex, hdf, hrl, hex, hcall⟩ := Form_call l (by omega)
    refine ⟨!decide (l = r), ?_, fun _ => by omega⟩
    have hE : ∀ (β : Type) (n0 : Nat) (wr : List Nat) (h : Heap) (k : A → Heap → Option β), oCallF n0 wr ref09_Exact [.agg (labelC l), .agg (labelC r)] h k = k (.s (.bool (decide (l = r)))) h := fun β n0 wr h k =>
      oCallF_val _ _ _ _ _ _ _ (by simp) (by simp) (ref09_Exact_v l r hl)
    simp [ref09_Right, oLoadD, h1, h2, h3, h3', show ((l.cats.length : Int) ≤ 6) by omega, trim, allBelow, hcall, hE]
  obtain ⟨b, e, hb⟩ := hrun
  obtain ⟨c, e2, hc⟩ := fin b
  exact ⟨c, e.trans e2, fun h => hb (hc h)⟩
end Go.Ab.T

/-
  THE DOCUMENT'S THINGS: are two the same?
-/
set_option linter.unusedSimpArgs false
set_option linter.unusedVariables false
namespace Go.Ab.T
open Go Go.Ab Go.Ab.F

theorem byte_loop (bs : ByteArray) : ∀ (d i : Nat) (r : List UInt8), i + d = bs.size → ByteArray.toList.loop bs i r = r.reverse ++ bs.data.toList.drop i := by
  intro d
  induction d with
  | zero =>
    intro i r h
    rw [ByteArray.toList.loop, if_neg (by omega), List.drop_of_length_le (by simp; show bs.size ≤ i; omega)]; simp
  | succ d ih =>
    intro i r h
    have hlt : i < bs.size := by omega
    have hl : i < bs.data.toList.length := by simpa using hlt
    rw [ByteArray.toList.loop, if_pos hlt, ih (i + 1) _ (by omega), List.drop_eq_getElem_cons hl]
    have : bs.get! i = bs.data.toList[i] := by
      show bs.data[i]! = _
      rw [Array.getElem!_eq_getD, Array.getD_eq_getD_getElem?, Array.getElem?_eq_getElem (by simpa using hl)]
      simp
    simp [this]
theorem bytes_toList (bs : ByteArray) : bs.toList = bs.data.toList := by
  show ByteArray.toList.loop bs 0 [] = _
  rw [byte_loop bs bs.size 0 [] (by omega)]; simp

def byte (n : Int) : UInt8 := UInt8.ofNat n.toNat
def pushAll : ByteArray → List Int → ByteArray
  | s, [] => s
  | s, n :: r => pushAll (s.push (byte n)) r
theorem strOf_data : ∀ (d : List Int) (s : ByteArray), strOf s (d.map (cellC .u8)).flatten = some (pushAll s d)
  | [], s => rfl
  | n :: d, s => by simpa [cellC, strOf, pushAll, byte] using strOf_data d _
theorem pushAll_data : ∀ (d : List Int) (s : ByteArray), (pushAll s d).data.toList = s.data.toList ++ d.map byte
  | [], s => by simp [pushAll]
  | n :: d, s => by
    rw [pushAll, pushAll_data d]
    simp [ByteArray.push]
def bs (d : List Int) : ByteArray := pushAll .empty d
theorem bs_toList (d : List Int) : (bs d).toList = d.map byte := by
  rw [bytes_toList, bs, pushAll_data]; simp
@[simp] theorem oBytesStr_data {β : Type} (d : List Int) (h : Heap) (k : A → Option β) : oBytesStr (mkF 1 (d.map (cellC .u8))) h k = k (.s (.string (bs d))) := by
  simp only [oBytesStr, rowsOf_mkF, strOf_data, bs]
@[simp] theorem oBytesStr_nil {β : Type} (h : Heap) (k : A → Option β) : oBytesStr (.fsl 0 []) h k = k (.s (.string (bs []))) := oBytesStr_data [] h k
def okBytes (d : List Int) : Prop := ∀ n ∈ d, 0 ≤ n ∧ n < 256
theorem byte_inj {a b : Int} (ha : 0 ≤ a ∧ a < 256) (hb : 0 ≤ b ∧ b < 256) (h : byte a = byte b) : a = b := by
  have h := congrArg UInt8.toNat h
  simp only [byte, UInt8.toNat_ofNat'] at h
  omega
theorem bs_eq {a b : List Int} (ha : okBytes a) (hb : okBytes b) : ((bs a).toList == (bs b).toList) = decide (a = b) := by
  rw [bs_toList, bs_toList]
  by_cases h : a = b
  · simp [h]
  · have : ¬ a.map byte = b.map byte := fun he => h (by
      clear h
      induction a generalizing b with
      | nil => cases b <;> simp at he ⊢
      | cons x a ih =>
        cases b with
        | nil => simp at he
        | cons y b =>
          simp only [List.map_cons, List.cons.injEq] at he
          rw [byte_inj (ha x (by simp)) (hb y (by simp)) he.1, ih (fun n hn => ha n (by simp [hn])) (fun n hn => hb n (by simp [hn])) he.2])
    simp [h, this]

theorem slot_eq (x y : T.Slot) : decide (x = y) = (decide (x.dir = y.dir) && decide (x.seg = y.seg)) := by
  obtain ⟨a, b⟩ := x; obtain ⟨c, d⟩ := y
  by_cases h1 : a = c <;> by_cases h2 : b = d <;> simp [h1, h2]
@[simp] theorem eqCells_regs (a b : Thing) : eqCells [true, true, true, true] (thingC_regsC a) (thingC_regsC b) = some (decide (a.r0 = b.r0) && (decide (a.r1 = b.r1) && (decide (a.r2 = b.r2) && decide (a.r3 = b.r3)))) := by
  simp [thingC_regsC, eqCells]
@[simp] theorem eqCells_slots (a b : Thing) : eqCells [true, true, true, true, true, true, true, true] (thingC_slotsC a) (thingC_slotsC b) =
    some (decide (a.s0 = b.s0) && (decide (a.s1 = b.s1) && (decide (a.s2 = b.s2) && decide (a.s3 = b.s3)))) := by
  simp [thingC_slotsC, slotC, eqCells, slot_eq, Bool.and_assoc]

/-- All but the lists' contents. -/
def flat (a b : Thing) : Bool := decide (a.id = b.id) && decide (a.kind = b.kind) && decide (a.quota = b.quota) && decide (a.next = b.next) && (decide (a.r0 = b.r0) && (decide (a.r1 = b.r1) && (decide (a.r2 = b.r2) && decide (a.r3 = b.r3)))) &&
  decide (a.minted = b.minted) && decide (a.boot = b.boot) && decide (a.halted = b.halted) && decide (a.value = b.value) && (decide (a.s0 = b.s0) && (decide (a.s1 = b.s1) && (decide (a.s2 = b.s2) && decide (a.s3 = b.s3))))

theorem Same_flat (a b : Thing) : ref11_Same [.agg (thingC a), .agg (thingC b)] [] = ref11_Same_k4 [] (.ptr 0 0 0 0) (.ptr 1 0 0 0) .normal [.s (.bool (!flat a b))] [.live ⟨0, 26, [thingC a]⟩, .live ⟨0, 26, [thingC b]⟩] := by
  simp [ref11_Same, trim, allBelow, flat, Bool.or_assoc]

theorem flat_eq (a b : Thing) : decide (a = b) = (flat a b && (decide (a.label = b.label) && (decide (a.clear = b.clear) && (decide (a.data = b.data) && decide (a.links = b.links))))) := by
  rw [Bool.eq_iff_iff]
  simp only [decide_eq_true_eq, flat, Bool.and_eq_true]
  constructor
  · rintro rfl; simp
  · intro h
    obtain ⟨a1, a2, a3, a4, a5, a6, a7, a8, a9, a10, a11, a12, a13, a14, a15, a16, a17, a18, a19, a20⟩ := a
    simp only at h
    simp [h]

/-- What a thing must be for its bytes to be told apart. -/
structure okT1 (t : Thing) : Prop where
  label : t.label.cats.length < 2 ^ 63
  clear : t.clear.cats.length < 2 ^ 63
  links : t.links.length < 2 ^ 63
  data : okBytes t.data

theorem ref11_Same_v (a b : Thing) (ha : okT1 a) (hb : okT1 b) : ref11_Same [.agg (thingC a), .agg (thingC b)] [] = some (.ok (.s (.bool (decide (a = b)))), []) := by
  have hE : ∀ (β : Type) (x y : Label) (h : Heap) (kp k : A → Heap → Option β), x.cats.length < 2 ^ 63 → oLend ref09_Exact [.agg (labelC x), .agg (labelC y)] h kp k = k (.s (.bool (decide (x = y)))) h := fun β x y h kp k hx =>
    oLend_val _ _ _ _ _ _ (by simp) (by simp) (ref09_Exact_v x y hx)
  rw [Same_flat, flat_eq]
  by_cases h1 : flat a b = true
  · have hd := bs_eq ha.data hb.data
    have e1 : ref11_Same_k4 [] (.ptr 0 0 0 0) (.ptr 1 0 0 0) .normal [.s (.bool (!flat a b))] [.live ⟨0, 26, [thingC a]⟩, .live ⟨0, 26, [thingC b]⟩] =
        ref11_Same_k3 [] (.ptr 0 0 0 0) (.ptr 1 0 0 0) .normal [.s (.bool (!decide (a.label = b.label) || (!decide (a.clear = b.clear) || (!decide (a.data = b.data) || !decide ((a.links.length : Int) = b.links.length)))))] [.live ⟨0, 26, [thingC a]⟩, .live ⟨0, 26, [thingC b]⟩] := by
      simp [ref11_Same_k4, h1, hE _ _ _ _ _ _ ha.label, hE _ _ _ _ _ _ ha.clear, trim, allBelow, hd]
    rw [e1, h1]
    by_cases h2 : a.label = b.label
    · by_cases h3 : a.clear = b.clear
      · by_cases h4 : a.data = b.data
        · by_cases hl : a.links.length = b.links.length
          · have hzl : (a.links.zip b.links).length = a.links.length := by simp [hl]
            have hal := ha.links
            simp [ref11_Same_k3, h2, h3, h4, hl]
            refine Eq.trans (oLoop_find (enc := fun i => ([.s (.int .i64 i)], [Go.Ab.Slot.live ⟨0, 26, [thingC a]⟩, Go.Ab.Slot.live ⟨0, 26, [thingC b]⟩])) (fun (p : Link × Link) => !decide (p.1 = p.2))
              (fun p => (Ex.ret, [.s (.bool false)], [Go.Ab.Slot.live ⟨0, 26, [thingC a]⟩, Go.Ab.Slot.live ⟨0, 26, [thingC b]⟩])) (Ex.exit 0, [.any], [Go.Ab.Slot.live ⟨0, 26, [thingC a]⟩, Go.Ab.Slot.live ⟨0, 26, [thingC b]⟩]) (a.links.zip b.links) (by simp) (by omega) ?_ ?_) ?_
            · intro i p hp hi
              obtain ⟨e1, e2⟩ := zip_get hp
              rw [hzl] at hi
              have hi2 : i < b.links.length := by omega
              by_cases he : p.1 = p.2
              · simp [ref11_Same_l1, oLoadD, hi, hi2, oIdxA_mkF _ _ _ _ _ _ _ e1, oIdxA_mkF _ _ _ _ _ _ _ e2, trim, allBelow, he, wrap_succ hi hal]
              · simp [ref11_Same_l1, oLoadD, hi, hi2, oIdxA_mkF _ _ _ _ _ _ _ e1, oIdxA_mkF _ _ _ _ _ _ _ e2, trim, allBelow, he, wrap_succ hi hal]
            · simp [ref11_Same_l1, trim, allBelow, hl]
            · have hz := zip_find a.links b.links hl
              cases hf : (a.links.zip b.links).find? (fun p => !decide (p.1 = p.2)) with
              | none => simp [ref11_Same_k2, finish_val, hz.1 hf]
              | some p =>
                have : ¬ a.links = b.links := fun h => by rw [hz.2 h] at hf; cases hf
                simp [ref11_Same_k2, finish_val, this]
          · have : ¬ a.links = b.links := fun h => hl (by rw [h])
            have hl' : ¬ ((a.links.length : Int) = b.links.length) := by omega
            simp [ref11_Same_k3, h2, h3, h4, hl', this, finish_val]
        · simp [ref11_Same_k3, h2, h3, h4, finish_val]
      · simp [ref11_Same_k3, h2, h3, finish_val]
    · simp [ref11_Same_k3, h2, finish_val]
  · simp [h1, ref11_Same_k4, finish_val]
end Go.Ab.T

/-
  THE FORM OF VALUES THAT ARE READ, by type.
-/
set_option linter.unusedSimpArgs false
set_option linter.unusedVariables false
namespace Go.Ab.T
open Go Go.Ab

def Form {α : Type} (P : Program) (d : Nat) (t : TypeId) (C : α → List A) (ok : α → Prop) : Prop := ∀ cs, Gd P d t cs → ∃ x, cs = C x ∧ ok x
def wfI (k : IntKind) (n : Int) : Prop := (Lit.int k n).wf = true

variable {P : Program} {d : Nat} {t e : TypeId}
theorem gd_struct {fs : Array Field} {cs : List A} (hu : P.underlying t = some (.struct fs)) (h : Gd P (d + 1) t cs) : GdF (Gd P d) fs.toList cs := by
  simpa only [Gd, hu] using h
theorem form_int {k : IntKind} (hu : P.underlying t = some (.int k)) : Form P (d + 1) t (cellC k) (wfI k) := by
  intro cs h
  simp only [Gd, hu] at h
  obtain ⟨n, rfl, hw⟩ := h
  exact ⟨n, rfl, hw⟩
theorem form_bool' (hu : P.underlying t = some .bool) : Form P (d + 1) t (fun b : Bool => [.s (.bool b)]) (fun _ => True) := by
  intro cs h
  simp only [Gd, hu] at h
  obtain ⟨b, rfl⟩ := h
  exact ⟨b, rfl, trivial⟩
theorem form_rows {α : Type} {C : α → List A} {ok : α → Prop} (h : Form P d e C ok) : ∀ (rows : List (List A)), (∀ row ∈ rows, Gd P d e row) → ∃ xs : List α, rows = xs.map C ∧ ∀ x ∈ xs, ok x
  | [], _ => ⟨[], rfl, by simp⟩
  | row :: rows, hr => by
    obtain ⟨x, h1, h2⟩ := h row (hr row (by simp))
    obtain ⟨xs, h3, h4⟩ := form_rows h rows fun r hm => hr r (by simp [hm])
    refine ⟨x :: xs, by simp [h1, h3], fun y hy => ?_⟩
    rcases List.mem_cons.1 hy with rfl | hy
    · exact h2
    · exact h4 y hy
/-- Weighs no more than a process's memory. -/
def fitsM (n b : Nat) : Prop := n ≤ maxLen ∧ n * b ≤ 140737488351232
theorem form_slice {α : Type} {C : α → List A} {ok : α → Prop} {sz b : Nat} (hu : P.underlying t = some (.slice e)) (hs : P.cellsOf e = sz) (hb : P.bytesOf e = b) (h : Form P d e C ok) :
    Form P (d + 1) t (fun xs : List α => [mkF sz (xs.map C)]) (fun xs => fitsM xs.length b ∧ ∀ x ∈ xs, ok x) := by
  intro cs hg
  simp only [Gd, hu] at hg
  obtain ⟨rows, rfl, hl, hm, hr⟩ := hg
  obtain ⟨xs, rfl, hx⟩ := form_rows h rows hr
  rw [hb] at hm
  exact ⟨xs, by rw [hs], ⟨by simpa using hl, by simpa [reachBytes] using hm⟩, hx⟩
theorem form_four {α : Type} {C : α → List A} {ok : α → Prop} (hu : P.underlying t = some (.array 4 e)) (h : Form P d e C ok) :
    Form P (d + 1) t (fun r : α × α × α × α => C r.1 ++ (C r.2.1 ++ (C r.2.2.1 ++ C r.2.2.2))) (fun r => ok r.1 ∧ ok r.2.1 ∧ ok r.2.2.1 ∧ ok r.2.2.2) := by
  intro cs hg
  simp only [Gd, hu] at hg
  obtain ⟨rows, rfl, hl, hr⟩ := hg
  obtain ⟨xs, rfl, hx⟩ := form_rows h rows hr
  match xs, hl, hx with
  | [a, b, c, d], _, hx => exact ⟨(a, b, c, d), by simp, hx a (by simp), hx b (by simp), hx c (by simp), hx d (by simp)⟩
end Go.Ab.T

/-
  THE FORM OF VALUES THAT ARE READ, by type: things.
-/
set_option linter.unusedSimpArgs false
set_option linter.unusedVariables false
namespace Go.Ab.T
open Go Go.Ab
variable {P : Program} {d : Nat} {t e : TypeId}

def okCat (c : Cat) : Prop := wfI .u64 c.id ∧ wfI .i64 c.level
def okLink (c : Link) : Prop := wfI .u64 c.id ∧ wfI .i64 c.quota
def okSlot (c : Slot) : Prop := wfI .u64 c.dir ∧ wfI .u64 c.seg
def okLabel (l : Label) : Prop := wfI .i64 l.df ∧ fitsM l.cats.length 16 ∧ ∀ x ∈ l.cats, okCat x
structure okThing (t : Thing) : Prop where
  id : wfI .u64 t.id
  kind : wfI .i64 t.kind
  label : okLabel t.label
  clear : okLabel t.clear
  quota : wfI .i64 t.quota
  next : wfI .i64 t.next
  links : fitsM t.links.length 16 ∧ ∀ x ∈ t.links, okLink x
  data : fitsM t.data.length 1 ∧ ∀ x ∈ t.data, wfI .u8 x
  regs : wfI .u64 t.r0 ∧ wfI .u64 t.r1 ∧ wfI .u64 t.r2 ∧ wfI .u64 t.r3
  minted : wfI .i64 t.minted
  boot : wfI .i64 t.boot
  value : wfI .u64 t.value
  slots : okSlot t.s0 ∧ okSlot t.s1 ∧ okSlot t.s2 ∧ okSlot t.s3
theorem wf_u8 {n : Int} (h : wfI .u8 n) : 0 ≤ n ∧ n < 256 := by
  simp [wfI, Lit.wf, IntKind.min, IntKind.max, IntKind.bits, IntKind.signed] at h; omega
theorem wf_u64 {n : Int} (h : wfI .u64 n) : 0 ≤ n ∧ n < 18446744073709551616 := by
  simp [wfI, Lit.wf, IntKind.min, IntKind.max, IntKind.bits, IntKind.signed] at h; omega
theorem wf_i64 {n : Int} (h : wfI .i64 n) : -9223372036854775808 ≤ n ∧ n < 9223372036854775808 := by
  simp [wfI, Lit.wf, IntKind.min, IntKind.max, IntKind.bits, IntKind.signed] at h; omega
theorem maxLen_lt {n : Nat} (h : n ≤ maxLen) : n < 2 ^ 63 := by unfold maxLen at h; omega
theorem fits_lt {n b : Nat} (h : fitsM n b) : n < 2 ^ 63 := maxLen_lt h.1
theorem okThing.t1 {t : Thing} (h : okThing t) : okT1 t := ⟨fits_lt h.label.2.1, fits_lt h.clear.2.1, fits_lt h.links.1, fun n hn => wf_u8 (h.data.2 n hn)⟩

/-- A value of one cell, or of several: what stands for it. -/
theorem fz_agg {w : World} {F : Cells} {vs : Array Value} {bs : List A} (hl : bs.length = vs.toList.length) (h1 : ∀ v ∈ vs.toList, v.oneCell = true) (hz : ∀ (j : Nat) v a, vs.toList[j]? = some v → bs[j]? = some a → Fz P w F v a) : Fz P w F (.agg vs) (.agg bs) := by
  refine .agg vs bs (by simpa using hl.symm) (fun i hi => ?_) fun i hi => ?_
  · have hi' : i < vs.size := by simp at hl; omega
    have : vs.getD i undef = vs[i] := by simp [Array.getD, hi']
    rw [this]; exact h1 _ (by simp)
  · have hi' : i < vs.size := by simp at hl; omega
    have : vs.getD i undef = vs[i] := by simp [Array.getD, hi']
    rw [this]
    exact hz i _ _ (by simp [hi']) (List.getElem?_eq_getElem hi)
end Go.Ab.T

/-
  DIRECTORIES: what small functions come to.
-/
set_option linter.unusedSimpArgs false
set_option linter.unusedVariables false
namespace Go.Ab.T
open Go Go.Ab Go.Ab.F

/-- How much a directory uses. -/
def used (t : Thing) : Int := t.links.foldl (fun n l => IntKind.i64.wrap (n + l.quota)) 1

theorem ref12_Has_v (t : Thing) (id : Int) (hl : t.links.length < 2 ^ 63) : ref12_Has [.agg (thingC t), .s (.int .u64 id)] [] = some (.ok (.s (.bool ((t.links.find? (fun l => l.id == id)).isSome))), []) := by
  simp [ref12_Has]
  refine Eq.trans (oLoop_find (enc := fun i => ([.s (.int .i64 i)], [Slot.live ⟨0, 26, [thingC t]⟩])) (fun (l : Link) => l.id == id)
    (fun c => (Ex.ret, [.s (.bool true)], [Slot.live ⟨0, 26, [thingC t]⟩])) (Ex.exit 0, [.any], [Slot.live ⟨0, 26, [thingC t]⟩]) t.links (by simp) hl ?_ ?_) ?_
  · intro i c hc hi
    simp [ref12_Has_l1, oIdxA_mkF _ _ _ _ _ _ _ hc, hi, wrap_succ hi hl, trim, allBelow]
  · simp [ref12_Has_l1, trim, allBelow]
  · cases h : t.links.find? (fun l => l.id == id) <;> simp [ref12_Has_k2, finish_val]


/-- The next name. -/
def fresh (t : Thing) : Int × Int :=
  if t.next < 63 ∧ t.id < 4398046511104 then (IntKind.u64.wrap (IntKind.u64.wrap (IntKind.u64.wrap (t.id * 64) + IntKind.u64.wrap t.next) + 1), 0) else (0, 125)
def rfresh (t : Thing) : Int × Int :=
  if t.next ≠ 63 ∧ ¬ 4398046511103 < t.id then (IntKind.u64.wrap (IntKind.u64.wrap (64 * t.id) + IntKind.u64.wrap (IntKind.i64.wrap (t.next + 1))), 0) else (0, 125)

theorem ref11_id_v (id : Int) : ref11_id [.s (.int .u64 id)] [] = some (.ok (.s (.bool (decide (1 ≤ id ∧ id < 281474976710656)))), []) := by
  by_cases h1 : 1 ≤ id <;> simp [ref11_id, finish_val, h1]

/-- Compared numbers. -/
def cmpI (a b : Int) : Int := if a < b then -1 else if b < a then 1 else 0
theorem cmp_isNaN_v (a : Int) : cmp_isNaN_uint64 [.s (.int .u64 a)] [] = some (.ok (.s (.bool false)), []) := by
  simp [cmp_isNaN_uint64, finish_val]
theorem cmp_Compare_v (a b : Int) : cmp_Compare_uint64 [.s (.int .u64 a), .s (.int .u64 b)] [] = some (.ok (.s (.int .i64 (cmpI a b))), []) := by
  have h : ∀ (β : Type) (x : Int) (h : Heap) (kp k : A → Heap → Option β), oLend cmp_isNaN_uint64 [.s (.int .u64 x)] h kp k = k (.s (.bool false)) h := fun β x h kp k =>
    oLend_val _ _ _ _ _ _ (by simp [pureL, pureA]) (by simp) (cmp_isNaN_v x)
  simp only [cmp_Compare_uint64, h, oFrz_bool, oCond_s, oCmp_s, if_true, cmpInt_lss, cmpInt_gtr, cmpI]
  by_cases h1 : a < b <;> by_cases h2 : b < a <;> simp [h1, h2, finish_val]

/-- Links in order. -/
def sortedL (ls : List Link) : Prop := ∀ (i : Nat) a b, ls[i]? = some a → ls[i + 1]? = some b → a.id < b.id
/-- Where a link is, or would be. -/
def place (ls : List Link) (id : Int) : Nat := (ls.takeWhile (fun l => decide (l.id < id))).length
def has (ls : List Link) (id : Int) : Bool := (ls.find? (fun l => l.id == id)).isSome

theorem sortedL_tail {a : Link} {ls : List Link} (h : sortedL (a :: ls)) : sortedL ls := fun i x y hx hy => h (i + 1) x y (by simpa using hx) (by simpa using hy)
theorem sortedL_lt {a : Link} {ls : List Link} (h : sortedL (a :: ls)) : ∀ x ∈ ls, a.id < x.id := by
  induction ls generalizing a with
  | nil => simp
  | cons b ls ih =>
    have hab : a.id < b.id := h 0 a b (by simp) (by simp)
    intro x hx
    rcases List.mem_cons.1 hx with rfl | hx
    · exact hab
    · exact Int.lt_trans hab (ih (sortedL_tail h) x hx)
theorem place_le (ls : List Link) (id : Int) : place ls id ≤ ls.length := (List.takeWhile_sublist _).length_le
theorem place_lt {ls : List Link} (h : sortedL ls) (id : Int) : ∀ i l, ls[i]? = some l → (l.id < id ↔ i < place ls id) := by
  induction ls with
  | nil => simp
  | cons a ls ih =>
    have ih := ih (sortedL_tail h)
    intro i l hl
    by_cases ha : a.id < id
    · cases i with
      | zero => simp at hl; subst hl; simp [place, ha]
      | succ i =>
        simp only [List.getElem?_cons_succ] at hl
        rw [ih i l hl]; simp [place, ha]
    · have hp : place (a :: ls) id = 0 := by simp [place, ha]
      rw [hp]
      constructor
      · intro hli
        cases i with
        | zero => simp at hl; subst hl; exact absurd hli ha
        | succ i =>
          simp only [List.getElem?_cons_succ] at hl
          have := sortedL_lt h l (List.mem_of_getElem? hl)
          omega
      · intro hi; omega
theorem place_has {ls : List Link} (h : sortedL ls) (id : Int) : (ls[place ls id]?.any fun x => decide (cmpI x.id id = 0)) = has ls id := by
  have hz : ∀ a b : Int, decide (cmpI a b = 0) = decide (a = b) := fun a b => by
    unfold cmpI; by_cases h1 : a < b <;> by_cases h2 : b < a <;> simp [h1, h2] <;> omega
  induction ls with
  | nil => simp [has, place]
  | cons a ls ih =>
    have ih := ih (sortedL_tail h)
    by_cases ha : a.id < id
    · have hp : place (a :: ls) id = place ls id + 1 := by simp [place, ha]
      rw [hp]
      simp only [List.getElem?_cons_succ]
      rw [ih]
      have : (a.id == id) = false := by simp; omega
      simp [has, this]
    · have hp : place (a :: ls) id = 0 := by simp [place, ha]
      rw [hp]
      simp only [List.getElem?_cons_zero, hz]
      by_cases he : a.id = id
      · simp [has, he]
      · have h1 : (a.id == id) = false := by simpa using he
        have h2 : ls.find? (fun l => l.id == id) = none := by
          rw [List.find?_eq_none]
          intro x hx
          have := sortedL_lt h x hx
          simp; omega
        simp [has, h1, h2, he]

end Go.Ab.T

/-
  THE DOCUMENT'S THINGS: which directories can be?
-/
set_option linter.unusedSimpArgs false
set_option linter.unusedVariables false
namespace Go.Ab.T
open Go Go.Ab Go.Ab.F

/-- A link that can stand at a place. -/
def goodAt (ls : List Link) (j : Nat) (l : Link) : Prop := 1 ≤ l.id ∧ l.id < 281474976710656 ∧ 1 ≤ l.quota ∧ l.quota ≤ 48 ∧ (0 < j → ∀ p, ls[j - 1]? = some p → p.id < l.id) ∧ j < 16
def goodL (ls : List Link) : Prop := ∀ (j : Nat) (l : Link), ls[j]? = some l → goodAt ls j l

/-- A bare thing. -/
def bareT (id kind : Int) (label : Label) (quota : Int) : Thing := ⟨id, kind, label, ⟨0, []⟩, quota, 0, [], [], 0, 0, 0, 0, 0, 0, false, 0, ⟨0, 0⟩, ⟨0, 0⟩, ⟨0, 0⟩, ⟨0, 0⟩⟩

def sumTo (ls : List Link) (i : Nat) : Int := (ls.take i).foldl (fun n l => IntKind.i64.wrap (n + l.quota)) 1
theorem sumTo_succ (ls : List Link) (i : Nat) (l : Link) (h : ls[i]? = some l) : sumTo ls (i + 1) = IntKind.i64.wrap (sumTo ls i + l.quota) := by
  have hi : i < ls.length := by
    rcases Nat.lt_or_ge i ls.length with h' | h'
    · exact h'
    · rw [List.getElem?_eq_none h'] at h; exact absurd h (by simp)
  have : ls[i] = l := by rw [List.getElem?_eq_getElem hi] at h; simpa using h
  simp [sumTo, List.take_add_one, h]

theorem Right_links (t : Thing) (hl : t.links.length < 2 ^ 63) (row : List A) (hr : idsL row = []) :
    ∃ q : Ex × List A × Heap, ((∃ n, q = (.ret, [.s (.bool false), .s (.int .i64 n)], [Go.Ab.Slot.live ⟨0, 26, [thingC t]⟩, Go.Ab.Slot.live ⟨0, 26, [row]⟩]) ∧ ¬ goodL t.links) ∨ (q = (.exit 1, [.any, .s (.int .i64 (used t))], [Go.Ab.Slot.live ⟨0, 26, [thingC t]⟩, Go.Ab.Slot.live ⟨0, 26, [row]⟩]) ∧ goodL t.links)) ∧
      ∀ {β : Type} (k : Ex → List A → Heap → Option β), oLoop (ref11_Right_l2 (.s (.int .i64 t.links.length)) (mkF 2 (t.links.map linkC)) (.ptr 0 0 0 0) [Go.Ab.Slot.live ⟨0, 26, [thingC t]⟩, Go.Ab.Slot.live ⟨0, 26, [row]⟩]) ([.s (.int .i64 1), .s (.int .i64 0)], [Go.Ab.Slot.live ⟨0, 26, [thingC t]⟩, Go.Ab.Slot.live ⟨0, 26, [row]⟩]) k = k q.1 q.2.1 q.2.2 := by
  have hid : ∀ (β : Type) (n0 : Nat) (wr : List Nat) (id : Int) (h : Heap) (k : A → Heap → Option β), oCallF n0 wr ref11_id [.s (.int .u64 id)] h k = k (.s (.bool (decide (1 ≤ id ∧ id < 281474976710656)))) h := fun β n0 wr id h k =>
    oCallF_val _ _ _ _ _ _ _ (by simp) (by simp) (ref11_id_v id)
  exact oLoop_inv' (step := ref11_Right_l2 (.s (.int .i64 t.links.length)) (mkF 2 (t.links.map linkC)) (.ptr 0 0 0 0) [Go.Ab.Slot.live ⟨0, 26, [thingC t]⟩, Go.Ab.Slot.live ⟨0, 26, [row]⟩]) (s0 := ([.s (.int .i64 1), .s (.int .i64 0)], [Go.Ab.Slot.live ⟨0, 26, [thingC t]⟩, Go.Ab.Slot.live ⟨0, 26, [row]⟩]))
    (fun i s => s = ([.s (.int .i64 (sumTo t.links i)), .s (.int .i64 i)], [Go.Ab.Slot.live ⟨0, 26, [thingC t]⟩, Go.Ab.Slot.live ⟨0, 26, [row]⟩]) ∧ ∀ j l, j < i → t.links[j]? = some l → goodAt t.links j l)
    (fun q => (∃ n, q = (.ret, [.s (.bool false), .s (.int .i64 n)], [Go.Ab.Slot.live ⟨0, 26, [thingC t]⟩, Go.Ab.Slot.live ⟨0, 26, [row]⟩]) ∧ ¬ goodL t.links) ∨ (q = (.exit 1, [.any, .s (.int .i64 (used t))], [Go.Ab.Slot.live ⟨0, 26, [thingC t]⟩, Go.Ab.Slot.live ⟨0, 26, [row]⟩]) ∧ goodL t.links))
    t.links.length ⟨rfl, fun j l hj => by omega⟩ hl
    (by
      rintro i s hi ⟨rfl, hg⟩
      have hx : t.links[i]? = some t.links[i] := by simp [hi]
      have hw := wrap_succ hi hl
      have hbad : ¬ goodAt t.links i t.links[i] → ¬ goodL t.links := fun hb hgl => hb (hgl i _ hx)
      have hss := sumTo_succ t.links i _ hx
      generalize hlk : t.links[i] = l at hx hbad hss
      have hok : goodAt t.links i l → ∀ j m, j < i + 1 → t.links[j]? = some m → goodAt t.links j m := fun hgi j m hj hm => by
        rcases Nat.lt_or_ge j i with h | h
        · exact hg j m h hm
        · obtain rfl : j = i := by omega
          rw [hx] at hm; cases hm; exact hgi
      by_cases c1 : 1 ≤ l.id ∧ l.id < 281474976710656
      · by_cases c2 : l.quota < 1
        · right
          exact ⟨(.ret, [.s (.bool false), .s (.int .i64 (sumTo t.links i))], [Go.Ab.Slot.live ⟨0, 26, [thingC t]⟩, Go.Ab.Slot.live ⟨0, 26, [row]⟩]), by simp [ref11_Right_l2, ref11_Right_k1, oLoadD, hi, oIdxA_mkF _ _ _ _ _ _ _ hx, hid, trim, allBelow, hr, c1, c2], .inl ⟨_, rfl, hbad fun g => by have := g.2.2.1; omega⟩⟩
        · by_cases c3 : 48 < l.quota
          · right
            exact ⟨(.ret, [.s (.bool false), .s (.int .i64 (sumTo t.links i))], [Go.Ab.Slot.live ⟨0, 26, [thingC t]⟩, Go.Ab.Slot.live ⟨0, 26, [row]⟩]), by simp [ref11_Right_l2, ref11_Right_k1, oLoadD, hi, oIdxA_mkF _ _ _ _ _ _ _ hx, hid, trim, allBelow, hr, c1, c2, c3], .inl ⟨_, rfl, hbad fun g => by have := g.2.2.2.1; omega⟩⟩
          · by_cases c4 : i = 0
            · left
              have c4' : ¬ (0 : Int) < i := by omega
              have c4n : ¬ 0 < i := by omega
              have c6 : ¬ (16 : Int) ≤ i := by omega
              exact ⟨([.s (.int .i64 (sumTo t.links (i + 1))), .s (.int .i64 (i + 1 : Nat))], [Go.Ab.Slot.live ⟨0, 26, [thingC t]⟩, Go.Ab.Slot.live ⟨0, 26, [row]⟩]), by rw [hss]; simp [ref11_Right_l2, ref11_Right_k1, oLoadD, hi, oIdxA_mkF _ _ _ _ _ _ _ hx, hid, trim, allBelow, hr, hw, c1, c2, c3, c4', c4n, c6], rfl, hok ⟨c1.1, c1.2, by omega, by omega, fun h => by omega, by omega⟩⟩
            · have hprev : t.links[i - 1]? = some t.links[i - 1] := List.getElem?_eq_getElem (by omega)
              have hwm : IntKind.i64.wrap ((i : Int) - 1) = ((i - 1 : Nat) : Int) := by rw [wrap64_id (by omega) (by omega)]; omega
              generalize t.links[i - 1] = p at hprev
              have c4' : (0 : Int) < i := by omega
              have c4n : 0 < i := by omega
              have hpm := fun {β : Type} (k : A → Option β) => oIdxA_mkF 2 linkC t.links .i64 (i - 1) p k hprev
              by_cases c5 : l.id ≤ p.id
              · right
                exact ⟨(.ret, [.s (.bool false), .s (.int .i64 (sumTo t.links i))], [Go.Ab.Slot.live ⟨0, 26, [thingC t]⟩, Go.Ab.Slot.live ⟨0, 26, [row]⟩]), by simp [ref11_Right_l2, ref11_Right_k1, oLoadD, hi, oIdxA_mkF _ _ _ _ _ _ _ hx, hid, trim, allBelow, hr, c1, c2, c3, c4', c4n, c5, hwm, hpm], .inl ⟨_, rfl, hbad fun g => by have := g.2.2.2.2.1 (by omega) p hprev; omega⟩⟩
              · by_cases c6 : (16 : Int) ≤ i
                · right
                  exact ⟨(.ret, [.s (.bool false), .s (.int .i64 (sumTo t.links i))], [Go.Ab.Slot.live ⟨0, 26, [thingC t]⟩, Go.Ab.Slot.live ⟨0, 26, [row]⟩]), by simp [ref11_Right_l2, ref11_Right_k1, oLoadD, hi, oIdxA_mkF _ _ _ _ _ _ _ hx, hid, trim, allBelow, hr, c1, c2, c3, c4', c4n, c5, c6, hwm, hpm], .inl ⟨_, rfl, hbad fun g => by have := g.2.2.2.2.2; omega⟩⟩
                · left
                  exact ⟨([.s (.int .i64 (sumTo t.links (i + 1))), .s (.int .i64 (i + 1 : Nat))], [Go.Ab.Slot.live ⟨0, 26, [thingC t]⟩, Go.Ab.Slot.live ⟨0, 26, [row]⟩]), by rw [hss]; simp [ref11_Right_l2, ref11_Right_k1, oLoadD, hi, oIdxA_mkF _ _ _ _ _ _ _ hx, hid, trim, allBelow, hr, hw, c1, c2, c3, c4', c4n, c5, c6, hwm, hpm], rfl, hok ⟨c1.1, c1.2, by omega, by omega, fun h q hq => by rw [hprev] at hq; cases hq; omega, by omega⟩⟩
      · right
        exact ⟨(.ret, [.s (.bool false), .s (.int .i64 (sumTo t.links i))], [Go.Ab.Slot.live ⟨0, 26, [thingC t]⟩, Go.Ab.Slot.live ⟨0, 26, [row]⟩]), by simp [ref11_Right_l2, ref11_Right_k1, oLoadD, hi, oIdxA_mkF _ _ _ _ _ _ _ hx, hid, trim, allBelow, hr, c1], .inl ⟨_, rfl, hbad fun g => c1 ⟨g.1, g.2.1⟩⟩⟩)
    (by
      rintro s ⟨rfl, hg⟩
      refine ⟨_, ?_, .inr ⟨rfl, fun j l hj => hg j l (by
        rcases Nat.lt_or_ge j t.links.length with h' | h'
        · exact h'
        · rw [List.getElem?_eq_none h'] at hj; exact absurd hj (by simp)) hj⟩⟩
      have hs : sumTo t.links t.links.length = used t := by simp [sumTo, used]
      simp [ref11_Right_l2, hs, trim, allBelow, hr])
end Go.Ab.T

/-
  THE DOCUMENT'S THINGS: which directories can be?
-/
set_option linter.unusedSimpArgs false
set_option linter.unusedVariables false
namespace Go.Ab.T
open Go Go.Ab Go.Ab.F

/-- Can it be a label? -/
noncomputable def lr (l : Label) : Bool := if h : l.cats.length < 2 ^ 63 then Classical.choose (ref09_Right_v l h) else false
theorem lr_v (l : Label) (h : l.cats.length < 2 ^ 63) : ref09_Right [.agg (labelC l)] [] = some (.ok (.s (.bool (lr l))), []) := by
  unfold lr; rw [dif_pos h]; exact (Classical.choose_spec (ref09_Right_v l h)).1
theorem lr_len (l : Label) (h : lr l = true) : l.cats.length ≤ 6 := by
  unfold lr at h
  split at h
  · rename_i hl; exact (Classical.choose_spec (ref09_Right_v l hl)).2 h
  · cases h

def bareOf (t : Thing) : Thing := { t with next := 0, links := [] }
/-- Can it be a directory? -/
structure dirRight (t : Thing) : Prop where
  id1 : 1 ≤ t.id
  id2 : t.id < 281474976710656
  label : lr t.label = true
  pure : pure t.label = true
  links : goodL t.links
  quota1 : 1 ≤ t.quota
  quota2 : t.quota ≤ 48
  room : used t ≤ t.quota
  next1 : 0 ≤ t.next
  next2 : t.next ≤ 63
  bare : bareOf t = bareT t.id t.kind t.label t.quota

def rowB (t : Thing) : List A := [.s (.int .u64 t.id), .s (.int .i64 t.kind), .s (.int .i64 t.label.df), mkF 2 (t.label.cats.map catC), .s (.int .i64 t.clear.df), mkF 2 (t.clear.cats.map catC), .s (.int .i64 t.quota), .s (.int .i64 0), .s (.slice none 0 0), mkF 1 (t.data.map (cellC .u8)), .s (.int .u64 t.r0), .s (.int .u64 t.r1), .s (.int .u64 t.r2), .s (.int .u64 t.r3), .s (.int .i64 t.minted), .s (.int .i64 t.boot), .s (.bool t.halted), .s (.int .u64 t.value), .s (.int .u64 t.s0.dir), .s (.int .u64 t.s0.seg), .s (.int .u64 t.s1.dir), .s (.int .u64 t.s1.seg), .s (.int .u64 t.s2.dir), .s (.int .u64 t.s2.seg), .s (.int .u64 t.s3.dir), .s (.int .u64 t.s3.seg)]
theorem rowB_ids (t : Thing) : idsL (rowB t) = [] := rfl
def rowL (t : Thing) : List A := [.s (.int .u64 t.id), .s (.int .i64 t.kind), .s (.int .i64 t.label.df), mkF 2 (t.label.cats.map catC), .s (.int .i64 0), .s (.slice none 0 0), .s (.int .i64 t.quota), .s (.int .i64 0), .s (.slice none 0 0), .s (.slice none 0 0), .s (.int .u64 0), .s (.int .u64 0), .s (.int .u64 0), .s (.int .u64 0), .s (.int .i64 0), .s (.int .i64 0), .s (.bool false), .s (.int .u64 0), .s (.int .u64 0), .s (.int .u64 0), .s (.int .u64 0), .s (.int .u64 0), .s (.int .u64 0), .s (.int .u64 0), .s (.int .u64 0), .s (.int .u64 0)]

theorem put_next (t : Thing) : putCells (putCells (thingC t) 7 [.s (.int .i64 0)]) 8 [.s (.slice none 0 0)] = rowB t := rfl
theorem Right_start (t : Thing) (hk : t.kind = 1) (h1 : t.label.cats.length < 2 ^ 63) : ref11_Right [.agg (thingC t)] [] =
    ref11_Right_k14 [] (.ptr 0 0 0 0) .normal [.s (.bool (!(decide (1 ≤ t.id ∧ t.id < 281474976710656) && (lr t.label && pure t.label))))] [Go.Ab.Slot.live ⟨0, 26, [thingC t]⟩] := by
  have hid : ∀ (β : Type) (id : Int) (h : Heap) (kp k : A → Heap → Option β), oLend ref11_id [.s (.int .u64 id)] h kp k = k (.s (.bool (decide (1 ≤ id ∧ id < 281474976710656)))) h := fun β id h kp k =>
    oLend_val _ _ _ _ _ _ (by simp) (by simp) (ref11_id_v id)
  have hlr : ∀ (β : Type) (h : Heap) (kp k : A → Heap → Option β), oLend ref09_Right [.agg (labelC t.label)] h kp k = k (.s (.bool (lr t.label))) h := fun β h kp k =>
    oLend_val _ _ _ _ _ _ (by simp) (by simp) (lr_v _ h1)
  have hpu : ∀ (β : Type) (h : Heap) (kp k : A → Heap → Option β), oLend ref10_Pure [.agg (labelC t.label)] h kp k = k (.s (.bool (pure t.label))) h := fun β h kp k =>
    oLend_val _ _ _ _ _ _ (by simp) (by simp) (ref10_Pure_v _ h1)
  by_cases c1 : 1 ≤ t.id ∧ t.id < 281474976710656
  · cases c2 : lr t.label <;> simp [ref11_Right, hid, hlr, hpu, hk, c1, c2, trim, allBelow]
  · simp [ref11_Right, hid, hlr, hpu, hk, c1, trim, allBelow]

theorem Right_dir (t : Thing) (ok : okT1 t) (hk : t.kind = 1) : ∃ b : Bool, ref11_Right [.agg (thingC t)] [] = some (.ok (.s (.bool b)), []) ∧ (b = true ↔ dirRight t) := by
  have hS : ∀ (β : Type) (h : Heap) (kp k : A → Heap → Option β), oLend ref11_Same [.agg (rowB t), .agg (rowL t)] h kp k = k (.s (.bool (decide (bareOf t = bareT t.id t.kind t.label t.quota)))) h := fun β h kp k =>
    oLend_val' _ _ [.agg (thingC (bareOf t)), .agg (thingC (bareT t.id t.kind t.label t.quota))] _ _ _ _ (by simp [rowB, rowL]) (lend_agg2 _ _ _ _ _ (by simp [rowB]) (by simp [rowB]) (by simp [rowB, thingC, bareOf]) (by simp [rowL]) (by simp [rowL]) (by simp [rowL, thingC, bareT])) (by simp)
      (ref11_Same_v _ _ ⟨ok.label, ok.clear, by simp [bareOf], ok.data⟩ ⟨ok.label, by simp [bareT], by simp [bareT], by intro n hn; simp [bareT] at hn⟩)
  rw [Right_start t hk ok.label]
  by_cases c1 : (1 ≤ t.id ∧ t.id < 281474976710656) ∧ lr t.label = true ∧ pure t.label = true
  · obtain ⟨c1, c2, c3⟩ := c1
    obtain ⟨q, hQ, hq⟩ := Right_links t ok.links (rowB t) (rowB_ids t)
    have hB : (decide (1 ≤ t.id ∧ t.id < 281474976710656) && (lr t.label && pure t.label)) = true := by simp [c1, c2, c3]
    have hpl : (putCells (thingC t) 7 [.s (.int .i64 0)]).length = 26 := rfl
    rw [hB]
    have hrun : ref11_Right_k14 [] (.ptr 0 0 0 0) .normal [.s (.bool (!true))] [Go.Ab.Slot.live ⟨0, 26, [thingC t]⟩] =
        oJoin (oLoop (ref11_Right_l2 (.s (.int .i64 t.links.length)) (mkF 2 (t.links.map linkC)) (.ptr 0 0 0 0) [Go.Ab.Slot.live ⟨0, 26, [thingC t]⟩, Go.Ab.Slot.live ⟨0, 26, [rowB t]⟩]) ([.s (.int .i64 1), .s (.int .i64 0)], [Go.Ab.Slot.live ⟨0, 26, [thingC t]⟩, Go.Ab.Slot.live ⟨0, 26, [rowB t]⟩])
          (ref11_Right_k4 (.ptr 0 0 0 0) [Go.Ab.Slot.live ⟨0, 26, [thingC t]⟩, Go.Ab.Slot.live ⟨0, 26, [thingC t]⟩] (.s (.int .i64 t.quota)))) (ref11_Right_k13 (.ptr 0 0 0 0) (.ptr 1 0 0 0) []) := by
      simp [ref11_Right_k14, hk, put_next, hpl]
    rw [hrun, hq]
    have no : ∀ vs H, (∃ a, vs = [A.s (.bool false), a]) → ref11_Right_k13 (.ptr 0 0 0 0) (.ptr 1 0 0 0) [] .ret vs H = some (.ok (.s (.bool false)), []) := by
      rintro vs H ⟨a, rfl⟩
      simp [ref11_Right_k13, finish_val]
    rcases hQ with ⟨⟨n, rfl, hg⟩⟩ | ⟨rfl, hg⟩
    · refine ⟨false, ?_, by simp only [Bool.false_eq_true, false_iff]; exact fun h => hg h.links⟩
      simp [ref11_Right_k4, trim, allBelow, rowB_ids, ref11_Right_k13, finish_val]
    · by_cases d : 1 ≤ t.quota ∧ t.quota ≤ 48 ∧ used t ≤ t.quota ∧ 0 ≤ t.next ∧ t.next ≤ 63
      · obtain ⟨d1, d2, d3, d4, d5⟩ := d
        have e1 : ¬ t.quota < 1 := by omega
        have e2 : ¬ 48 < t.quota := by omega
        have e3 : ¬ t.quota < used t := by omega
        have e4 : ¬ t.next < 0 := by omega
        have e5 : ¬ 63 < t.next := by omega
        refine ⟨decide (bareOf t = bareT t.id t.kind t.label t.quota), ?_, ?_⟩
        · simp [ref11_Right_k4, ref11_Right_k3, trim, allBelow, rowB_ids, e1, e2, e3, e4, e5]
          have hB2 : cellsAt (some 26) (rowB t) 0 = some (.agg (rowB t)) := rfl
          simp only [rowL] at hS
          simp [ref11_Right_k13, hB2, putCells, labelC, hS, finish_val]
        · simp only [decide_eq_true_eq]
          exact ⟨fun h => ⟨c1.1, c1.2, c2, c3, hg, d1, d2, d3, d4, d5, h⟩, fun h => h.bare⟩
      · refine ⟨false, ?_, by simp only [Bool.false_eq_true, false_iff]; exact fun h => d ⟨h.quota1, h.quota2, h.room, h.next1, h.next2⟩⟩
        by_cases e1 : t.quota < 1
        · simp [ref11_Right_k4, ref11_Right_k3, trim, allBelow, rowB_ids, e1, ref11_Right_k13, finish_val]
        by_cases e2 : 48 < t.quota
        · simp [ref11_Right_k4, ref11_Right_k3, trim, allBelow, rowB_ids, e1, e2, ref11_Right_k13, finish_val]
        by_cases e3 : t.quota < used t
        · simp [ref11_Right_k4, ref11_Right_k3, trim, allBelow, rowB_ids, e1, e2, e3, ref11_Right_k13, finish_val]
        by_cases e4 : t.next < 0
        · simp [ref11_Right_k4, ref11_Right_k3, trim, allBelow, rowB_ids, e1, e2, e3, e4, ref11_Right_k13, finish_val]
        have e5 : 63 < t.next := by omega
        simp [ref11_Right_k4, ref11_Right_k3, trim, allBelow, rowB_ids, e1, e2, e3, e4, e5, ref11_Right_k13, finish_val]
  · refine ⟨false, ?_, ?_⟩
    · have : (decide (1 ≤ t.id ∧ t.id < 281474976710656) && (lr t.label && pure t.label)) = false := by
        simpa using c1
      rw [this]
      simp [ref11_Right_k14, finish_val]
    · simp only [Bool.false_eq_true, false_iff]
      exact fun h => c1 ⟨⟨h.id1, h.id2⟩, h.label, h.pure⟩
end Go.Ab.T

/-
  COPIES OF THINGS.
-/
set_option linter.unusedSimpArgs false
set_option linter.unusedVariables false
namespace Go.Ab
open Go

theorem oCallF_own {β : Type} (n0 : Nat) (wr : List Nat) (F : CallFn) (args : List A) (h : Heap) (k : A → Heap → Option β) (ver sz n : Nat) (rows : List (List A)) (ha : pureL args = true) (hp : ∀ f, renRows f rows = some rows)
    (hF : F args [] = some (.ok (.osl 0 ver sz 0 n), [.live ⟨ver, sz, rows⟩])) :
    oCallF n0 wr F args h k = k (.osl h.length ver sz 0 n) (h ++ [.live ⟨ver, sz, rows⟩]) := by
  have hi : (idsL args).isEmpty = true := by rw [pureL_ids args ha]; rfl
  have hl : lendL lendFuel args [] = some args := lendL_pure 999 _ _ ha
  unfold oCallF
  rw [if_pos hi, hl]
  simp only [hF]
  simp [hi, giveBack, backIdx, hp, setAll]

theorem renHeap_flat (f : Nat → Option Nat) : ∀ (l : Heap), (∀ s ∈ l, renSlot f s = some s) → renHeap f l = some l
  | [], _ => rfl
  | s :: l, h => by simp [renHeap_cons, h s (by simp), renHeap_flat f l fun x hx => h x (by simp [hx])]

/-- The last act of a function whose value leads to some objects, of pure rows. -/
theorem finish_flat (a a' : A) (l : List Nat) (H : Heap) (ha : idsA a = l) (hnd : l.Nodup) (hl : l.length < 1000) (hs : ∀ id ∈ l, (H.getD id .dead).ids = [] ∧ ∀ f, renSlot f (H.getD id .dead) = some (H.getD id .dead)) (hr : renA (idx l) a = some a') :
    finish 0 (.ok a) H = some (.ok a', l.map fun id => H.getD id .dead) := by
  have h1 : reach H reachFuel [] l = l := by
    rw [reach_flat H l [] reachFuel (fun id hid => (hs id hid).1) (by simpa using hnd) (by simp [reachFuel]; omega)]; simp
  have h2 : renHeap (idx l) (l.map fun id => H.getD id .dead) = some (l.map fun id => H.getD id .dead) := renHeap_flat _ _ fun s hm => by
    obtain ⟨id, hid, rfl⟩ := List.mem_map.1 hm
    exact (hs id hid).2 _
  simp only [finish, ha, List.range_zero, List.take_zero, List.flatMap_nil, List.append_nil, h1, renOut_ok, hr, Option.map_some, Option.bind_some, h2]

namespace T
open Go.Ab.F

theorem clone_v (sz bytes : Nat) (rows : List (List A)) (ok : appendOk rows.length bytes) (hz : sz ≠ 0) : primClone sz bytes [mkF sz rows] [] = some (.ok (.osl 0 1 sz 0 rows.length), [.live ⟨1, sz, rows⟩]) := by
  simp [primClone, ok, hz]

/-- A copy's cells, its lists in objects of its own. -/
def copyRow (t : Thing) (a b c d : Nat) : List A := [.s (.int .u64 t.id), .s (.int .i64 t.kind), .s (.int .i64 t.label.df), .osl a 1 2 0 t.label.cats.length, .s (.int .i64 t.clear.df), .osl b 1 2 0 t.clear.cats.length, .s (.int .i64 t.quota), .s (.int .i64 t.next), .osl c 1 2 0 t.links.length, .osl d 1 1 0 t.data.length, .s (.int .u64 t.r0), .s (.int .u64 t.r1), .s (.int .u64 t.r2), .s (.int .u64 t.r3), .s (.int .i64 t.minted), .s (.int .i64 t.boot), .s (.bool t.halted), .s (.int .u64 t.value), .s (.int .u64 t.s0.dir), .s (.int .u64 t.s0.seg), .s (.int .u64 t.s1.dir), .s (.int .u64 t.s1.seg), .s (.int .u64 t.s2.dir), .s (.int .u64 t.s2.seg), .s (.int .u64 t.s3.dir), .s (.int .u64 t.s3.seg)]
@[simp] theorem copyRow_ids (t : Thing) (a b c d : Nat) : idsL (copyRow t a b c d) = [a, b, c, d] := rfl
@[simp] theorem copyRow_len (t : Thing) (a b c d : Nat) : (copyRow t a b c d).length = 26 := rfl

/-- What a thing must be to be copied. -/
structure small (t : Thing) : Prop where
  label : t.label.cats.length < 8796093021953
  clear : t.clear.cats.length < 8796093021953
  links : t.links.length < 8796093021953
  data : t.data.length < 140737488351233

theorem thing_Copy_v (t : Thing) (sm : small t) : thing_Copy [.agg (thingC t)] [] =
    some (.ok (.agg (copyRow t 0 1 2 3)), [.live ⟨1, 2, t.label.cats.map catC⟩, .live ⟨1, 2, t.clear.cats.map catC⟩, .live ⟨1, 2, t.links.map linkC⟩, .live ⟨1, 1, t.data.map (cellC .u8)⟩]) := by
  have s1 := sm.label; have s2 := sm.clear; have s3 := sm.links; have s4 := sm.data
  have ok16 : ∀ n, n < 8796093021953 → appendOk n 16 := fun n h => by constructor <;> omega
  have ok1 : ∀ n, n < 140737488351233 → appendOk n 1 := fun n h => by constructor <;> omega
  have hc : ∀ (n0 : Nat) (wr : List Nat) (cs : List Cat) (h : Heap) (k : A → Heap → Option (Out × Heap)), cs.length < 8796093021953 → oCallF n0 wr (primClone 2 16) [mkF 2 (cs.map catC)] h k = k (.osl h.length 1 2 0 cs.length) (h ++ [.live ⟨1, 2, cs.map catC⟩]) := fun n0 wr cs h k hl => by
    have := clone_v 2 16 (cs.map catC) (by simpa using ok16 _ hl) (by decide)
    simp only [List.length_map] at this
    exact oCallF_own n0 wr _ _ h k 1 2 _ _ (by simp) (fun f => renRows_map f _ (fun x => by simp [catC]) _) this
  have hl : ∀ (n0 : Nat) (wr : List Nat) (cs : List Link) (h : Heap) (k : A → Heap → Option (Out × Heap)), cs.length < 8796093021953 → oCallF n0 wr (primClone 2 16) [mkF 2 (cs.map linkC)] h k = k (.osl h.length 1 2 0 cs.length) (h ++ [.live ⟨1, 2, cs.map linkC⟩]) := fun n0 wr cs h k hl => by
    have := clone_v 2 16 (cs.map linkC) (by simpa using ok16 _ hl) (by decide)
    simp only [List.length_map] at this
    exact oCallF_own n0 wr _ _ h k 1 2 _ _ (by simp) (fun f => renRows_map f _ (fun x => by simp [linkC]) _) this
  have hd : ∀ (n0 : Nat) (wr : List Nat) (cs : List Int) (h : Heap) (k : A → Heap → Option (Out × Heap)), cs.length < 140737488351233 → oCallF n0 wr (primClone 1 1) [mkF 1 (cs.map (cellC .u8))] h k = k (.osl h.length 1 1 0 cs.length) (h ++ [.live ⟨1, 1, cs.map (cellC .u8)⟩]) := fun n0 wr cs h k hl => by
    have := clone_v 1 1 (cs.map (cellC .u8)) (by simpa using ok1 _ hl) (by decide)
    simp only [List.length_map] at this
    exact oCallF_own n0 wr _ _ h k 1 1 _ _ (by simp) (fun f => renRows_map f _ (fun x => by simp [cellC]) _) this
  have hrow : putCells (putCells (putCells (putCells (thingC t) 3 [.osl 2 1 2 0 t.label.cats.length]) 5 [.osl 3 1 2 0 t.clear.cats.length]) 8 [.osl 4 1 2 0 t.links.length]) 9 [.osl 5 1 1 0 t.data.length] = copyRow t 2 3 4 5 := rfl
  simp [thing_Copy, oLoadD, hc _ _ _ _ _ s1, hc _ _ _ _ _ s2, hl _ _ _ _ _ s3, hd _ _ _ _ _ s4, putCells, thingC, cellsAt]
  refine (finish_flat _ (.agg (copyRow t 0 1 2 3)) [2, 3, 4, 5] _ (by simp) (by decide) (by decide) (by
    intro id hid
    simp only [List.mem_cons, List.not_mem_nil, or_false] at hid
    rcases hid with rfl | rfl | rfl | rfl <;> refine ⟨by simp [idsRows_map _ catC_ids, idsRows_map _ linkC_ids, idsRows_map _ (cellC_ids .u8)], fun f => ?_⟩
    · simp [renRows_map f catC (fun x => by simp [catC])]
    · simp [renRows_map f catC (fun x => by simp [catC])]
    · simp [renRows_map f linkC (fun x => by simp [linkC])]
    · simp [renRows_map f (cellC .u8) (fun x => by simp [cellC])]) (by simp [copyRow, idx, List.idxOf?_cons])).trans ?_
  simp
end T
end Go.Ab

/-
  WHAT IS FROZEN OF CELLS THAT OWN THEIR LISTS.
-/
set_option linter.unusedSimpArgs false
set_option linter.unusedVariables false
namespace Go.Ab
open Go

inductive FrzCells : List A → Heap → List A → Heap → Prop where
  | nil (H : Heap) : FrzCells [] H [] H
  | flat (a : A) (r r' : List A) (H H' : Heap) (hf : flatA a = true) (h : FrzCells r H r' H') : FrzCells (a :: r) H (normA a :: r') H'
  | own (id ver sz m : Nat) (rows : List (List A)) (r r' : List A) (H H' : Heap) (hk : H[id]? = some (.live ⟨ver, sz, rows⟩)) (hm : m = rows.length) (hp : pureRows rows = true)
      (h : FrzCells r (H.set id .dead) r' H') : FrzCells (.osl id ver sz 0 m :: r) H (mkF sz rows :: r') H'

theorem FrzCells.pure {l l' : List A} {H H' : Heap} (h : FrzCells l H l' H') (hp : pureL l = true) : l' = l ∧ H' = H := by
  induction h with
  | nil H => exact ⟨rfl, rfl⟩
  | flat a r r' H H' hf h ih =>
    simp only [pureL_cons, Bool.and_eq_true] at hp
    obtain ⟨rfl, rfl⟩ := ih hp.2
    rw [normA_pure hp.1 hf]
    exact ⟨rfl, rfl⟩
  | own => simp [pureA] at hp

theorem frzL_cells {l l' : List A} {H H' : Heap} (h : FrzCells l H l' H') : ∀ n, l.length + 3 ≤ n → frzL n l H = some (l', H') := by
  induction h with
  | nil H => intro n hn; obtain ⟨n, rfl⟩ : ∃ m, n = m + 1 := ⟨n - 1, by omega⟩; simp [frzL]
  | flat a r r' H H' hf h ih =>
    intro n hn
    obtain ⟨n, rfl⟩ : ∃ m, n = m + 1 := ⟨n - 1, by omega⟩
    rw [frzL]
    split
    · rename_i hp
      obtain ⟨e1, e2⟩ := (FrzCells.flat a r r' H H' hf h).pure hp
      rw [e1, e2]
    · obtain ⟨n, rfl⟩ : ∃ m, n = m + 1 := ⟨n - 1, by simp at hn; omega⟩
      have e : frzA (n + 1) a H = some (normA a, H) := by cases a <;> simp [flatA] at hf <;> simp [frzA, normA]
      rw [e, Option.bind_some]
      simp only
      rw [ih (n + 1) (by simp at hn; omega)]
      rfl
  | own id ver sz m rows r r' H H' hk hm hp h ih =>
    intro n hn
    obtain ⟨n, rfl⟩ : ∃ m, n = m + 1 := ⟨n - 1, by omega⟩
    rw [frzL, if_neg (by simp [pureA])]
    obtain ⟨n, rfl⟩ : ∃ m, n = m + 2 := ⟨n - 2, by simp at hn; omega⟩
    rw [frz_own n id ver sz m rows H hk hm hp, Option.bind_some]
    simp only
    rw [ih (n + 2) (by simp at hn; omega)]
    rfl

/-- A bundle of cells, and another result. -/
theorem oFrz_tup {β : Type} {l l' : List A} {H H' : Heap} (h : FrzCells l H l' H') (hn : pureL l = false) (hl : l.length < 900) (es : List A) (he : pureL es = true) (k : A → Heap → Option β) : oFrz (.tup (.agg l :: es)) H k = k (.tup (.agg l' :: es)) H' := by
  have e1 : frzA 998 (.agg l) H = some (.agg l', H') := by
    rw [show (998 : Nat) = 997 + 1 from rfl]
    simp only [frzA, frzL_cells h 997 (by omega), Option.map_some]
  have e2 : frzL 998 es H' = some (es, H') := by
    rw [show (998 : Nat) = 997 + 1 from rfl]
    cases es with
    | nil => simp [frzL]
    | cons a r => rw [frzL, if_pos he]
  have e3 : frzL 999 (.agg l :: es) H = some (.agg l' :: es, H') := by
    rw [show (999 : Nat) = 998 + 1 from rfl, frzL, if_neg (by simp [hn]), e1, Option.bind_some]
    simp only [e2, Option.map_some]
  have e4 : frzA 1000 (.tup (.agg l :: es)) H = some (.tup (.agg l' :: es), H') := by
    rw [show (1000 : Nat) = 999 + 1 from rfl]
    simp only [frzA, e3, Option.map_some]
  simp only [oFrz, pureA_tup, pureL_cons, pureA_agg, hn, Bool.false_and, Bool.false_eq_true, if_false, e4]
/-- A bundle of cells alone. -/
theorem oFrz_agg {β : Type} {l l' : List A} {H H' : Heap} (h : FrzCells l H l' H') (hn : pureL l = false) (hl : l.length < 900) (k : A → Heap → Option β) : oFrz (.agg l) H k = k (.agg l') H' := by
  have e1 : frzA 1000 (.agg l) H = some (.agg l', H') := by
    rw [show (1000 : Nat) = 999 + 1 from rfl]
    simp only [frzA, frzL_cells h 999 (by omega), Option.map_some]
  simp only [oFrz, pureA_agg, hn, Bool.false_eq_true, if_false, e1]
end Go.Ab

/-
  DIRECTORIES THAT CHANGE: dir.Add, dir.Drop, dir.Born.
-/
set_option linter.unusedSimpArgs false
set_option linter.unusedVariables false
namespace Go.Ab.T
open Go Go.Ab Go.Ab.F

/-- A thing's cells, its lists in objects of its own. -/
def ownRow (t : Thing) (a b c d vc nl : Nat) : List A := [.s (.int .u64 t.id), .s (.int .i64 t.kind), .s (.int .i64 t.label.df), .osl a 1 2 0 t.label.cats.length, .s (.int .i64 t.clear.df), .osl b 1 2 0 t.clear.cats.length, .s (.int .i64 t.quota), .s (.int .i64 t.next), .osl c vc 2 0 nl, .osl d 1 1 0 t.data.length, .s (.int .u64 t.r0), .s (.int .u64 t.r1), .s (.int .u64 t.r2), .s (.int .u64 t.r3), .s (.int .i64 t.minted), .s (.int .i64 t.boot), .s (.bool t.halted), .s (.int .u64 t.value), .s (.int .u64 t.s0.dir), .s (.int .u64 t.s0.seg), .s (.int .u64 t.s1.dir), .s (.int .u64 t.s1.seg), .s (.int .u64 t.s2.dir), .s (.int .u64 t.s2.seg), .s (.int .u64 t.s3.dir), .s (.int .u64 t.s3.seg)]
@[simp] theorem ownRow_ids (t : Thing) (a b c d vc nl : Nat) : idsL (ownRow t a b c d vc nl) = [a, b, c, d] := rfl
@[simp] theorem ownRow_len (t : Thing) (a b c d vc nl : Nat) : (ownRow t a b c d vc nl).length = 26 := rfl
@[simp] theorem ownRow_pure (t : Thing) (a b c d vc nl : Nat) : pureL (ownRow t a b c d vc nl) = false := by simp [ownRow, pureA]

/-- A thing's lists as objects. -/
def own4 (t : Thing) (vc : Nat) (ls : List Link) : Heap := [.live ⟨1, 2, t.label.cats.map catC⟩, .live ⟨1, 2, t.clear.cats.map catC⟩, .live ⟨vc, 2, ls.map linkC⟩, .live ⟨1, 1, t.data.map (cellC .u8)⟩]
def dead4 : Heap := [.dead, .dead, .dead, .dead]

theorem renRow_links (f : Nat → Option Nat) (ls : List Link) : renRows f (ls.map linkC) = some (ls.map linkC) := renRows_map f linkC (fun x => by simp [linkC]) ls
theorem renRow_cats (f : Nat → Option Nat) (ls : List Cat) : renRows f (ls.map catC) = some (ls.map catC) := renRows_map f catC (fun x => by simp [catC]) ls
theorem renRow_data (f : Nat → Option Nat) (ls : List Int) : renRows f (ls.map (cellC .u8)) = some (ls.map (cellC .u8)) := renRows_map f _ (fun x => by simp [cellC]) ls

theorem own4_finish (t : Thing) (a b c d vc : Nat) (ls : List Link) (es : List A) (H : Heap) (he : idsL es = []) (hd : [a, b, c, d].Nodup)
    (ha : H[a]? = some (.live ⟨1, 2, t.label.cats.map catC⟩)) (hb : H[b]? = some (.live ⟨1, 2, t.clear.cats.map catC⟩)) (hc : H[c]? = some (.live ⟨vc, 2, ls.map linkC⟩)) (hdd : H[d]? = some (.live ⟨1, 1, t.data.map (cellC .u8)⟩)) :
    finish 0 (.ok (.tup (.agg (ownRow t a b c d vc ls.length) :: es))) H = some (.ok (.tup (.agg (ownRow t 0 1 2 3 vc ls.length) :: es)), own4 t vc ls) := by
  have hd' := hd
  simp only [List.nodup_cons, List.mem_cons, List.not_mem_nil, or_false, not_or, List.nodup_nil, and_true, not_false_eq_true] at hd'
  obtain ⟨⟨n1, n2, n3⟩, ⟨n4, n5⟩, n6⟩ := hd'
  refine (finish_flat _ (.tup (.agg (ownRow t 0 1 2 3 vc ls.length) :: es)) [a, b, c, d] H (by simp [he]) hd (by simp) (by
    intro id hid
    simp only [List.mem_cons, List.not_mem_nil, or_false] at hid
    rcases hid with rfl | rfl | rfl | rfl
    · refine ⟨by simp [ha, idsRows_map _ catC_ids], fun f => by simp [ha, renRow_cats]⟩
    · refine ⟨by simp [hb, idsRows_map _ catC_ids], fun f => by simp [hb, renRow_cats]⟩
    · refine ⟨by simp [hc, idsRows_map _ linkC_ids], fun f => by simp [hc, renRow_links]⟩
    · refine ⟨by simp [hdd, idsRows_map _ (cellC_ids .u8)], fun f => by simp [hdd, renRow_data]⟩) (by
    have e := renL_of_ids es (idx [a, b, c, d]) he
    have b1 : (a == b) = false := by simpa using n1
    have b2 : (a == c) = false := by simpa using n2
    have b3 : (a == d) = false := by simpa using n3
    have b4 : (b == c) = false := by simpa using n4
    have b5 : (b == d) = false := by simpa using n5
    have b6 : (c == d) = false := by simpa using n6
    simp [ownRow, idx, List.idxOf?_cons, e, b1, b2, b3, b4, b5, b6])).trans ?_
  simp [own4, ha, hb, hc, hdd]

theorem Copy_call {β : Type} (t : Thing) (sm : small t) (h : Heap) (kp k : A → Heap → Option β) :
    oLend thing_Copy [.agg (thingC t)] h kp k = k (.agg (ownRow t h.length (h.length + 1) (h.length + 2) (h.length + 3) 1 t.links.length)) (h ++ own4 t 1 t.links) := by
  have hF := thing_Copy_v t sm
  have hi : (idsL [A.agg (thingC t)]).isEmpty = true := by simp
  have hl : lendL lendFuel [.agg (thingC t)] (if (idsL [A.agg (thingC t)]).isEmpty = true then [] else h) = some [.agg (thingC t)] := lendL_pure 999 _ _ (by simp)
  unfold oLend
  rw [hl]
  simp only [hF]
  simp [copyRow, ownRow, own4, giveBack, backIdx, renRow_cats, renRow_links, renRow_data, setAll]

/-- What a caller gets of a thing whose lists are its own. -/
theorem own4_call {β : Type} (F : CallFn) (args : List A) (t : Thing) (vc : Nat) (ls : List Link) (es : List A) (h : Heap) (kp k : A → Heap → Option β) (ha : pureL args = true) (he : idsL es = []) (hep : pureL es = true)
    (hF : F args [] = some (.ok (.tup (.agg (ownRow t 0 1 2 3 vc ls.length) :: es)), own4 t vc ls)) :
    (oLend F args h kp fun w h' => oFrz w h' k) = k (.tup (.agg (thingC { t with links := ls }) :: es)) (h ++ dead4) := by
  have hi : (idsL args).isEmpty = true := by rw [pureL_ids args ha]; rfl
  have hl : lendL lendFuel args (if (idsL args).isEmpty = true then [] else h) = some args := lendL_pure 999 _ _ ha
  have e1 : (oLend F args h kp fun w h' => oFrz w h' k) = oFrz (.tup (.agg (ownRow t h.length (h.length + 1) (h.length + 2) (h.length + 3) vc ls.length) :: es)) (h ++ own4 t vc ls) k := by
    unfold oLend
    rw [hl]
    simp only [hF]
    have e := renL_of_ids es (backIdx [] h.length) he
    simp [hi, ownRow, own4, giveBack, backIdx, renRow_cats, renRow_links, renRow_data, setAll, renL_of_ids es _ he]
  rw [e1]
  refine oFrz_tup (l' := thingC { t with links := ls }) (H' := h ++ dead4) ?_ (by simp) (by simp) es hep k
  have g0 : (h ++ own4 t vc ls)[h.length]? = some (.live ⟨1, 2, t.label.cats.map catC⟩) := by simp [own4]
  have hcells : FrzCells (ownRow t h.length (h.length + 1) (h.length + 2) (h.length + 3) vc ls.length) (h ++ own4 t vc ls)
      (List.map normA [.s (.int .u64 t.id), .s (.int .i64 t.kind), .s (.int .i64 t.label.df)] ++ (mkF 2 (t.label.cats.map catC) :: normA (.s (.int .i64 t.clear.df)) :: mkF 2 (t.clear.cats.map catC) :: normA (.s (.int .i64 t.quota)) :: normA (.s (.int .i64 t.next)) :: mkF 2 (ls.map linkC) :: mkF 1 (t.data.map (cellC .u8)) ::
        List.map normA [.s (.int .u64 t.r0), .s (.int .u64 t.r1), .s (.int .u64 t.r2), .s (.int .u64 t.r3), .s (.int .i64 t.minted), .s (.int .i64 t.boot), .s (.bool t.halted), .s (.int .u64 t.value), .s (.int .u64 t.s0.dir), .s (.int .u64 t.s0.seg), .s (.int .u64 t.s1.dir), .s (.int .u64 t.s1.seg), .s (.int .u64 t.s2.dir), .s (.int .u64 t.s2.seg), .s (.int .u64 t.s3.dir), .s (.int .u64 t.s3.seg)]))
      ((((((h ++ own4 t vc ls).set h.length .dead).set (h.length + 1) .dead).set (h.length + 2) .dead).set (h.length + 3) .dead)) := by
    refine .flat _ _ _ _ _ rfl (.flat _ _ _ _ _ rfl (.flat _ _ _ _ _ rfl (.own _ 1 2 _ (t.label.cats.map catC) _ _ _ _ (by simp [own4]) (by simp) (pureRows_map _ (fun x => by simp) _)
      (.flat _ _ _ _ _ rfl (.own _ 1 2 _ (t.clear.cats.map catC) _ _ _ _ (by rw [List.getElem?_set_ne (by omega), List.getElem?_append_right (by omega)]; simp [own4]) (by simp) (pureRows_map _ (fun x => by simp) _)
      (.flat _ _ _ _ _ rfl (.flat _ _ _ _ _ rfl (.own _ vc 2 _ (ls.map linkC) _ _ _ _ (by rw [List.getElem?_set_ne (by omega), List.getElem?_set_ne (by omega), List.getElem?_append_right (by omega)]; simp [own4]) (by simp) (pureRows_map _ (fun x => by simp) _)
      (.own _ 1 1 _ (t.data.map (cellC .u8)) _ _ _ _ (by rw [List.getElem?_set_ne (by omega), List.getElem?_set_ne (by omega), List.getElem?_set_ne (by omega), List.getElem?_append_right (by omega)]; simp [own4]) (by simp) (pureRows_map _ (fun x => by simp) _) ?_)))))))))
    repeat (first | exact .nil _ | refine .flat _ _ _ _ _ rfl ?_)
  have hH : ((((h ++ own4 t vc ls).set h.length .dead).set (h.length + 1) .dead).set (h.length + 2) .dead).set (h.length + 3) .dead = h ++ dead4 := by
    rw [List.set_append_right _ _ (by omega), List.set_append_right _ _ (by omega), List.set_append_right _ _ (by omega), List.set_append_right _ _ (by omega)]
    simp [own4, dead4]
  rw [hH] at hcells
  exact hcells
end Go.Ab.T

/-
  DIRECTORIES THAT CHANGE: dir.Add, dir.Drop, dir.Born.
-/
set_option linter.unusedSimpArgs false
set_option linter.unusedVariables false
namespace Go.Ab.T
open Go Go.Ab Go.Ab.F

def addLinks (ls : List Link) (id q : Int) : List Link := ls.take (place ls id) ++ ⟨id, q⟩ :: ls.drop (place ls id)
def dropLinks (ls : List Link) (id : Int) : List Link := ls.take (place ls id) ++ ls.drop (place ls id + 1)
/-- May it not be added? -/
def addErr (t : Thing) (id q : Int) : Int :=
  if has t.links id then 123 else if 16 ≤ t.links.length then 122 else if q < 1 ∨ IntKind.i64.wrap (t.quota - used t) < q then 121 else 0
def withLinks (t : Thing) (ls : List Link) : Thing := { t with links := ls }
/-- One more link. -/
def add (t : Thing) (id q : Int) : Thing := if addErr t id q = 0 then withLinks t (addLinks t.links id q) else t
def drop (t : Thing) (id : Int) : Thing := if has t.links id then withLinks t (dropLinks t.links id) else t

theorem zero_row (t : Thing) : cellsAt (some 26) (thingC t) 0 = some (.agg (thingC t)) := rfl

theorem place_lt_len {ls : List Link} {id : Int} (hs : sortedL ls) (h : has ls id = true) : place ls id < ls.length := by
  rw [← place_has hs] at h
  cases hx : ls[place ls id]? with
  | none => simp [hx] at h
  | some x => exact (List.getElem?_eq_some_iff.1 hx).1

theorem addLinks_len (ls : List Link) (id q : Int) : (addLinks ls id q).length = ls.length + 1 := by
  have := place_le ls id
  simp [addLinks]; omega
theorem dropLinks_len {ls : List Link} {id : Int} (h : place ls id < ls.length) : (dropLinks ls id).length = ls.length - 1 := by
  simp [dropLinks]; omega

end Go.Ab.T

/-
  DIRECTORIES THAT CHANGE: dir.Drop, dir.Born, and what their callers get.
-/
set_option linter.unusedSimpArgs false
set_option linter.unusedVariables false
namespace Go.Ab.T
open Go Go.Ab Go.Ab.F

theorem val_call {β : Type} (F : CallFn) (args : List A) (a : A) (h : Heap) (kp k : A → Heap → Option β) (ha : pureL args = true) (hp : pureA a = true) (hr : idsA a = []) (hF : F args [] = some (.ok a, [])) :
    (oLend F args h kp fun w h' => oFrz w h' k) = k a h := by
  rw [oLend_val _ _ _ _ _ _ ha hr hF, oFrz_pure _ _ _ hp]

def dropErr (t : Thing) (id : Int) : Int := if has t.links id then 0 else 124
/-- One more link, under a name of its own. -/
def born (t : Thing) (q : Int) : Thing × Int × Int :=
  if (fresh t).2 ≠ 0 then (t, 0, (fresh t).2)
  else if addErr t (fresh t).1 q ≠ 0 then (t, 0, addErr t (fresh t).1 q)
  else ({ add t (fresh t).1 q with next := IntKind.i64.wrap (t.next + 1) }, (fresh t).1, 0)
theorem add_next (t : Thing) (id q : Int) : (add t id q).next = t.next := by unfold add; split <;> rfl
end Go.Ab.T

/-
  DirTells: plain.
-/
set_option linter.unusedSimpArgs false
set_option linter.unusedVariables false
namespace Go.Ab.T
open Go Go.Ab Go.Ab.F

theorem goodL_sorted {ls : List Link} (h : goodL ls) : sortedL ls := fun i a b ha hb => (h (i + 1) b hb).2.2.2.2.1 (by omega) a (by simpa using ha)

theorem fresh_eq (t : Thing) (h : dirRight t) : fresh t = rfresh t := by
  unfold fresh rfresh
  have h1 := h.id1; have h2 := h.id2; have h3 := h.next1; have h4 := h.next2
  by_cases c1 : t.next < 63
  · by_cases c2 : t.id < 4398046511104
    · have e1 : t.next ≠ 63 := by omega
      have e2 : ¬ 4398046511103 < t.id := by omega
      rw [if_pos ⟨c1, c2⟩, if_pos ⟨e1, e2⟩, wrap_u64 (n := t.id * 64) (by omega) (by omega), wrap_u64 (n := 64 * t.id) (by omega) (by omega), wrap_u64 (n := t.next) (by omega) (by omega), wrap64_id (n := t.next + 1) (by omega) (by omega), wrap_u64 (n := t.next + 1) (by omega) (by omega),
        wrap_u64 (n := t.id * 64 + t.next) (by omega) (by omega), wrap_u64 (by omega) (by omega), wrap_u64 (by omega) (by omega)]
      simp; omega
    · have e2 : 4398046511103 < t.id := by omega
      rw [if_neg (fun h => c2 h.2), if_neg (fun h => h.2 e2)]
  · have e1 : t.next = 63 := by omega
    rw [if_neg (fun h => c1 h.1), if_neg (fun h => h.1 e1)]

end Go.Ab.T

/-
  DirBack: plain.
-/
set_option linter.unusedSimpArgs false
set_option linter.unusedVariables false
namespace Go.Ab.T
open Go Go.Ab Go.Ab.F

theorem pairwise_of {ls : List Link} (h : sortedL ls) : ls.Pairwise (fun a b => a.id < b.id) := by
  induction ls with
  | nil => exact .nil
  | cons a ls ih => exact .cons (sortedL_lt h) (ih (sortedL_tail h))
theorem sorted_of {ls : List Link} (h : ls.Pairwise (fun a b => a.id < b.id)) : sortedL ls := by
  intro i a b ha hb
  have hi := (List.getElem?_eq_some_iff.1 ha)
  have hj := (List.getElem?_eq_some_iff.1 hb)
  obtain ⟨h1, rfl⟩ := hi
  obtain ⟨h2, rfl⟩ := hj
  exact List.pairwise_iff_getElem.1 h i (i + 1) h1 h2 (by omega)
theorem take_lt {ls : List Link} (hs : sortedL ls) (id : Int) : ∀ l ∈ ls.take (place ls id), l.id < id := by
  intro l hl
  obtain ⟨i, hi, rfl⟩ := List.mem_iff_getElem.1 hl
  rw [List.length_take] at hi
  rw [List.getElem_take]
  exact (place_lt hs id i _ (List.getElem?_eq_getElem (by omega))).2 (by omega)
theorem drop_ge {ls : List Link} (hs : sortedL ls) (id : Int) : ∀ l ∈ ls.drop (place ls id), ¬ l.id < id := by
  intro l hl hlt
  obtain ⟨i, hi, rfl⟩ := List.mem_iff_getElem.1 hl
  rw [List.length_drop] at hi
  rw [List.getElem_drop] at hlt
  have := (place_lt hs id (place ls id + i) _ (List.getElem?_eq_getElem (by omega))).1 hlt
  omega
theorem no_has {ls : List Link} {id : Int} (h : has ls id = false) : ∀ l ∈ ls, l.id ≠ id := by
  intro l hl he
  have : (ls.find? (fun l => l.id == id)).isSome = true := by
    rw [List.find?_isSome]; exact ⟨l, hl, by simpa using he⟩
  rw [has, this] at h; cases h
theorem addLinks_sorted {ls : List Link} (hs : sortedL ls) {id : Int} (q : Int) (h : has ls id = false) : sortedL (addLinks ls id q) := by
  refine sorted_of ?_
  have hp := pairwise_of hs
  have hno := no_has h
  have hge : ∀ l ∈ ls.drop (place ls id), id < l.id := fun l hl => by
    have h1 := drop_ge hs id l hl
    have h2 := hno l (List.mem_of_mem_drop hl)
    omega
  rw [addLinks, List.pairwise_append]
  refine ⟨hp.sublist (List.take_sublist _ _), .cons hge (hp.sublist (List.drop_sublist _ _)), fun a ha b hb => ?_⟩
  have h1 := take_lt hs id a ha
  rcases List.mem_cons.1 hb with rfl | hb
  · exact h1
  · have := hge b hb; omega
theorem addLinks_place {ls : List Link} (hs : sortedL ls) (id q : Int) : place (addLinks ls id q) id = place ls id := by
  have hle := place_le ls id
  unfold place at *
  rw [addLinks, List.takeWhile_append_of_pos (by
    intro a ha
    simpa using take_lt hs id a ha)]
  simp [place] at hle ⊢
  omega
theorem addLinks_has (ls : List Link) (id q : Int) : has (addLinks ls id q) id = true := by
  rw [has, List.find?_isSome]
  exact ⟨⟨id, q⟩, by simp [addLinks], by simp⟩
theorem drop_addLinks {ls : List Link} (hs : sortedL ls) (id q : Int) : dropLinks (addLinks ls id q) id = ls := by
  have hle := place_le ls id
  rw [dropLinks, addLinks_place hs]
  have hl : (ls.take (place ls id)).length = place ls id := by simp; omega
  rw [addLinks, List.take_append_of_le_length (by omega), List.drop_append]
  have hz : (ls.take (place ls id)).drop (place ls id + 1) = [] := List.drop_eq_nil_of_le (by omega)
  simp [hl, List.take_take, hz]

theorem dirRight.len {t : Thing} (h : dirRight t) : t.links.length ≤ 16 := by
  apply Classical.byContradiction
  intro hc
  have := (h.links 16 (t.links[16]'(by omega)) (List.getElem?_eq_getElem (by omega))).2.2.2.2.2
  omega
theorem dirRight.small {t : Thing} (h : dirRight t) : small t := by
  have h1 := lr_len _ h.label
  have hb := h.bare
  have hc : t.clear = ⟨0, []⟩ := congrArg Thing.clear hb
  have hd : t.data = [] := congrArg Thing.data hb
  have hl := h.len
  exact ⟨by omega, by simp [hc], by omega, by simp [hd]⟩

theorem small_links {t : Thing} (sm : small t) {ls : List Link} (h : ls.length < 8796093021953) : small (withLinks t ls) := ⟨sm.label, sm.clear, h, sm.data⟩
theorem small_next {t : Thing} (sm : small t) (n : Int) : small { t with next := n } := ⟨sm.label, sm.clear, sm.links, sm.data⟩

theorem again_fresh {t : Thing} (h : dirRight t) (hf : (fresh t).2 = 0) (q : Int) : (born { t with next := IntKind.i64.wrap (t.next + 1) } q).2.1 ≠ (fresh t).1 := by
  have h1 := h.id1; have h2 := h.id2; have h3 := h.next1; have h4 := h.next2
  have hw : IntKind.i64.wrap (t.next + 1) = t.next + 1 := wrap64_id (by omega) (by omega)
  have hc : t.next < 63 ∧ t.id < 4398046511104 := by
    unfold fresh at hf
    split at hf
    · assumption
    · simp at hf
  have hn : ∀ n : Int, 0 ≤ n → n ≤ 63 → IntKind.u64.wrap (IntKind.u64.wrap (IntKind.u64.wrap (t.id * 64) + IntKind.u64.wrap n) + 1) = t.id * 64 + n + 1 := fun n n0 n1 => by
    have := hc.2
    rw [wrap_u64 (n := t.id * 64) (by omega) (by omega), wrap_u64 (n := n) (by omega) (by omega), wrap_u64 (n := t.id * 64 + n) (by omega) (by omega), wrap_u64 (by omega) (by omega)]
  have e1 : (fresh t).1 = t.id * 64 + t.next + 1 := by
    unfold fresh; rw [if_pos hc]; exact hn _ (by omega) (by omega)
  rw [e1, hw]
  unfold born
  split
  · simp; omega
  · split
    · simp; omega
    · rename_i hf2 _
      simp only [ne_eq, Decidable.not_not] at hf2
      have hc2 : t.next + 1 < 63 ∧ t.id < 4398046511104 := by
        unfold fresh at hf2
        split at hf2
        · assumption
        · simp at hf2
      have e2 : (fresh { t with next := t.next + 1 }).1 = t.id * 64 + (t.next + 1) + 1 := by
        unfold fresh; rw [if_pos hc2]; exact hn (t.next + 1) (by omega) (by omega)
      simp only [e2]
      omega

end Go.Ab.T

/-
  DirHolds: plain.
-/
set_option linter.unusedSimpArgs false
set_option linter.unusedVariables false
namespace Go.Ab.T
open Go Go.Ab Go.Ab.F

structure Act where
  kind : Int
  quota : Int
  id : Int
def actC (t : Act) : List A := [.s (.int .i64 t.kind), .s (.int .i64 t.quota), .s (.int .u64 t.id)]
@[simp] theorem actC_len (t : Act) : (actC t).length = 3 := _root_.id rfl
@[simp] theorem actC_ids (t : Act) : idsL (actC t) = [] := _root_.id rfl
@[simp] theorem actC_pure (t : Act) : pureL (actC t) = true := by simp [actC]
@[simp] theorem actC_at (t : Act) : cellsAt (some 3) (actC t) 0 = some (.agg (actC t)) := _root_.id rfl
@[simp] theorem actC_0 (t : Act) : (actC t)[0]? = some (.s (.int .i64 t.kind)) := _root_.id rfl
@[simp] theorem actC_1 (t : Act) : (actC t)[1]? = some (.s (.int .i64 t.quota)) := _root_.id rfl
@[simp] theorem actC_2 (t : Act) : (actC t)[2]? = some (.s (.int .u64 t.id)) := _root_.id rfl
@[simp] theorem actC_g0 (t : Act) (h : 0 < (actC t).length) : (actC t)[0] = .s (.int .i64 t.kind) := _root_.id rfl
@[simp] theorem actC_g1 (t : Act) (h : 1 < (actC t).length) : (actC t)[1] = .s (.int .i64 t.quota) := _root_.id rfl
@[simp] theorem actC_g2 (t : Act) (h : 2 < (actC t).length) : (actC t)[2] = .s (.int .u64 t.id) := _root_.id rfl

/-! what the links use -/
def sumQ (ls : List Link) : Int := (ls.map Link.quota).sum
theorem fold_sum : ∀ (ls : List Link) (n : Int), (∀ l ∈ ls, 0 ≤ l.quota ∧ l.quota ≤ 48) → 0 ≤ n → n + 48 * ls.length < 1000000 → ls.foldl (fun n l => IntKind.i64.wrap (n + l.quota)) n = n + sumQ ls ∧ 0 ≤ sumQ ls ∧ sumQ ls ≤ 48 * ls.length
  | [], n, _, _, _ => by simp [sumQ]
  | l :: ls, n, h, h0, h1 => by
    have hl := h l (by simp)
    simp only [List.length_cons] at h1
    have hw : IntKind.i64.wrap (n + l.quota) = n + l.quota := wrap64_id (by omega) (by omega)
    obtain ⟨e1, e2, e3⟩ := fold_sum ls (n + l.quota) (fun x hx => h x (by simp [hx])) (by omega) (by omega)
    simp only [List.foldl_cons, hw, e1, sumQ, List.map_cons, List.sum_cons, List.length_cons] at *
    omega
theorem goodL.mem {ls : List Link} (h : goodL ls) : ∀ l ∈ ls, 1 ≤ l.id ∧ l.id < 281474976710656 ∧ 1 ≤ l.quota ∧ l.quota ≤ 48 := by
  intro l hl
  obtain ⟨i, hi, rfl⟩ := List.mem_iff_getElem.1 hl
  have := h i _ (List.getElem?_eq_getElem hi)
  exact ⟨this.1, this.2.1, this.2.2.1, this.2.2.2.1⟩
theorem goodL.len {ls : List Link} (h : goodL ls) : ls.length ≤ 16 := by
  apply Classical.byContradiction
  intro hc
  have := (h 16 (ls[16]'(by omega)) (List.getElem?_eq_getElem (by omega))).2.2.2.2.2
  omega
theorem goodL.mk {ls : List Link} (h : ∀ l ∈ ls, 1 ≤ l.id ∧ l.id < 281474976710656 ∧ 1 ≤ l.quota ∧ l.quota ≤ 48) (hs : sortedL ls) (hl : ls.length ≤ 16) : goodL ls := by
  intro j l hj
  obtain ⟨hlt, rfl⟩ := List.getElem?_eq_some_iff.1 hj
  have := h _ (List.getElem_mem hlt)
  refine ⟨this.1, this.2.1, this.2.2.1, this.2.2.2, fun h0 p hp => ?_, by omega⟩
  exact hs (j - 1) p _ hp (by rw [Nat.sub_add_cancel h0]; exact hj)
theorem used_sum {t : Thing} (h : goodL t.links) : used t = 1 + sumQ t.links ∧ 0 ≤ sumQ t.links ∧ sumQ t.links ≤ 768 := by
  have hl := h.len
  obtain ⟨e1, e2, e3⟩ := fold_sum t.links 1 (fun l hl => by have := h.mem l hl; omega) (by omega) (by omega)
  exact ⟨e1, e2, by omega⟩
theorem sumQ_append (a b : List Link) : sumQ (a ++ b) = sumQ a + sumQ b := by simp [sumQ]
theorem sumQ_add (ls : List Link) (id q : Int) : sumQ (addLinks ls id q) = sumQ ls + q := by
  have h : sumQ ls = sumQ (ls.take (place ls id)) + sumQ (ls.drop (place ls id)) := by rw [← sumQ_append, List.take_append_drop]
  rw [addLinks, sumQ_append, h]
  simp [sumQ]; omega
theorem dropLinks_sub (ls : List Link) (id : Int) : (dropLinks ls id).Sublist ls := by
  have h : (ls.drop (place ls id + 1)).Sublist (ls.drop (place ls id)) := by
    rw [← List.drop_drop]; exact List.drop_sublist _ _
  have := List.Sublist.append (List.Sublist.refl (ls.take (place ls id))) h
  rwa [List.take_append_drop] at this
theorem sumQ_sub {a b : List Link} (h : a.Sublist b) : (∀ l ∈ b, 0 ≤ l.quota) → sumQ a ≤ sumQ b := by
  induction h with
  | slnil => intro _; simp
  | cons x _ ih => intro hb; have := hb x (by simp); have := ih fun l hl => hb l (by simp [hl]); simp only [sumQ, List.map_cons, List.sum_cons] at *; omega
  | cons_cons x _ ih => intro hb; have := ih fun l hl => hb l (by simp [hl]); simp only [sumQ, List.map_cons, List.sum_cons] at *; omega
theorem addLinks_good {ls : List Link} (h : goodL ls) (hl : ls.length < 16) {id q : Int} (hn : has ls id = false) (i1 : 1 ≤ id) (i2 : id < 281474976710656) (q1 : 1 ≤ q) (q2 : q ≤ 48) : goodL (addLinks ls id q) := by
  refine .mk (fun l hm => ?_) (addLinks_sorted (goodL_sorted h) q hn) (by rw [addLinks_len]; omega)
  rw [addLinks, List.mem_append, List.mem_cons] at hm
  rcases hm with hm | rfl | hm
  · exact h.mem l (List.mem_of_mem_take hm)
  · exact ⟨i1, i2, q1, q2⟩
  · exact h.mem l (List.mem_of_mem_drop hm)
theorem dropLinks_good {ls : List Link} (h : goodL ls) (id : Int) : goodL (dropLinks ls id) :=
  .mk (fun l hm => h.mem l ((dropLinks_sub ls id).subset hm)) (sorted_of ((pairwise_of (goodL_sorted h)).sublist (dropLinks_sub ls id))) (Nat.le_trans (dropLinks_sub ls id).length_le h.len)
theorem dropLinks_has {ls : List Link} (hs : sortedL ls) (id : Int) : has (dropLinks ls id) id = false := by
  rw [has, Option.isSome_eq_false_iff, Option.isNone_iff_eq_none, List.find?_eq_none]
  intro l hl
  rw [dropLinks, List.mem_append] at hl
  rcases hl with hl | hl
  · have := take_lt hs id l hl; simp; omega
  · have hp := pairwise_of hs
    obtain ⟨j, hj, rfl⟩ := List.mem_iff_getElem.1 hl
    rw [List.length_drop] at hj
    have hpl : place ls id < ls.length := by omega
    have h1 := List.pairwise_iff_getElem.1 hp (place ls id) (place ls id + 1 + j) hpl (by omega) (by omega)
    have h2 : ¬ ls[place ls id].id < id := fun hlt => by
      have := (place_lt hs id _ _ (List.getElem?_eq_getElem hpl)).1 hlt
      omega
    rw [List.getElem_drop]
    simp; omega

/-! what stays right -/
theorem dirRight.t1 {t : Thing} (h : dirRight t) : okT1 t := by
  have h1 := lr_len _ h.label
  have hb := h.bare
  have hc : t.clear = ⟨0, []⟩ := congrArg Thing.clear hb
  have hd : t.data = [] := congrArg Thing.data hb
  have hl := h.len
  exact ⟨by omega, by simp [hc], by omega, by rw [hd]; intro n hn; cases hn⟩
theorem dirRight.with {t : Thing} (h : dirRight t) {ls : List Link} (hg : goodL ls) {n : Int} (n0 : 0 ≤ n) (n1 : n ≤ 63) (hu : 1 + sumQ ls ≤ t.quota) : dirRight { withLinks t ls with next := n } := by
  refine ⟨h.id1, h.id2, h.label, h.pure, hg, h.quota1, h.quota2, ?_, n0, n1, ?_⟩
  · rw [(used_sum (t := { withLinks t ls with next := n }) hg).1]; exact hu
  · exact h.bare
theorem dirRight.withL {t : Thing} (h : dirRight t) {ls : List Link} (hg : goodL ls) (hu : 1 + sumQ ls ≤ t.quota) : dirRight (withLinks t ls) :=
  h.with hg h.next1 h.next2 hu

theorem addErr_ok {t : Thing} (h : dirRight t) {id q : Int} (e : addErr t id q = 0) : has t.links id = false ∧ t.links.length < 16 ∧ 1 ≤ q ∧ q ≤ t.quota - used t := by
  have hu := used_sum h.links
  have hq2 := h.quota2
  have hq1 := h.quota1
  have hr := h.room
  have hw : IntKind.i64.wrap (t.quota - used t) = t.quota - used t := wrap64_id (by omega) (by omega)
  unfold addErr at e
  rw [hw] at e
  split at e
  · simp at e
  · rename_i h1
    split at e
    · simp at e
    · split at e
      · simp at e
      · rename_i h2 h3
        exact ⟨by simpa using h1, by omega, by omega, by omega⟩
theorem add_right {t : Thing} (h : dirRight t) {id q : Int} (e : addErr t id q = 0) (i1 : 1 ≤ id) (i2 : id < 281474976710656) {n : Int} (n0 : 0 ≤ n) (n1 : n ≤ 63) :
    dirRight { withLinks t (addLinks t.links id q) with next := n } ∧ used { withLinks t (addLinks t.links id q) with next := n } = IntKind.i64.wrap (used t + q) := by
  obtain ⟨e1, e2, e3, e4⟩ := addErr_ok h e
  have hu := used_sum h.links
  have hq2 := h.quota2
  have hg : goodL (addLinks t.links id q) := addLinks_good h.links e2 e1 i1 i2 e3 (by omega)
  have hs := sumQ_add t.links id q
  refine ⟨h.with hg n0 n1 (by omega), ?_⟩
  rw [(used_sum (t := { withLinks t (addLinks t.links id q) with next := n }) hg).1, wrap64_id (by omega) (by omega)]
  show 1 + sumQ (addLinks t.links id q) = _
  omega
theorem drop_right {t : Thing} (h : dirRight t) (id : Int) : dirRight (drop t id) ∧ (drop t id).kind = t.kind ∧ (drop t id).id = t.id ∧ (drop t id).quota = t.quota ∧ (drop t id).next = t.next ∧ has (drop t id).links id = false := by
  unfold drop
  split
  · have hs := sumQ_sub (dropLinks_sub t.links id) fun l hl => by have := h.links.mem l hl; omega
    have hu := used_sum h.links
    have hr := h.room
    exact ⟨h.withL (dropLinks_good h.links id) (by omega), rfl, rfl, rfl, rfl, dropLinks_has (goodL_sorted h.links) id⟩
  · rename_i hh
    exact ⟨h, rfl, rfl, rfl, rfl, by simpa using hh⟩
theorem fresh_ok {t : Thing} (h : dirRight t) (hf : (fresh t).2 = 0) : (fresh t).1 = t.id * 64 + t.next + 1 ∧ t.next < 63 ∧ t.id < 4398046511104 := by
  have h1 := h.id1; have h2 := h.id2; have h3 := h.next1; have h4 := h.next2
  unfold fresh at hf ⊢
  split at hf
  · rename_i hc
    have := hc.2
    rw [if_pos hc]
    refine ⟨?_, hc.1, hc.2⟩
    show IntKind.u64.wrap (IntKind.u64.wrap (IntKind.u64.wrap (t.id * 64) + IntKind.u64.wrap t.next) + 1) = t.id * 64 + t.next + 1
    rw [wrap_u64 (n := t.id * 64) (by omega) (by omega), wrap_u64 (n := t.next) (by omega) (by omega), wrap_u64 (n := t.id * 64 + t.next) (by omega) (by omega), wrap_u64 (by omega) (by omega)]
  · simp at hf

/-! the walk -/
/-- What holds ahead of each act. -/
structure HI (id q : Int) (i : Nat) (d : Thing) (bs : List Int) : Prop where
  right : dirRight d
  kind : d.kind = 1
  did : d.id = id
  dq : d.quota = q
  bl : bs.length ≤ i
  bnd : ∀ x ∈ bs, x ≤ d.id * 64 + d.next

def hp2 (d : Thing) (bs : List Int) (ver : Nat) : Heap := [.live ⟨0, 26, [thingC d]⟩, .live ⟨ver, 1, bs.map (cellC .u64)⟩]

theorem put_thing (row : List A) (t : Thing) (h : row.length = 26) : putCells row 0 (thingC t) = thingC t := by
  simp [putCells, List.drop_eq_nil_of_le, h]
theorem put_act (row : List A) (t : Act) (h : row.length = 3) : putCells row 0 (actC t) = actC t := by
  simp [putCells, List.drop_eq_nil_of_le, h]

theorem drop_thing (t : Thing) : List.drop 26 (thingC t) = [] := rfl
theorem drop_act (t : Act) : List.drop 3 (actC t) = [] := rfl
theorem app_name (n : Int) (bs : List Int) (ver : Nat) (s0 s2 s3 : Go.Ab.Slot) (hap : appendOk (bs.length + 1) 8) {β : Type} (k : A → Heap → Option β) :
    oAppend none 1 8 (.osl 1 ver 1 0 bs.length) (.osl 4 0 1 0 1) [s0, .live ⟨ver, 1, bs.map (cellC .u64)⟩, s2, s3, .live ⟨0, 1, [[.s (.int .u64 n)]]⟩] k =
      k (.osl 1 (ver + 1) 1 0 (bs.length + 1)) [s0, .live ⟨ver + 1, 1, (bs ++ [n]).map (cellC .u64)⟩, s2, s3, .live ⟨0, 1, [[.s (.int .u64 n)]]⟩] := by
  simp [oAppend_osl, rowsOf_osl, hap, List.take_of_length_le, cellC]

def hst (d : Thing) (bs : List Int) (ver i : Nat) : List A × Heap := ([.osl 1 ver 1 0 bs.length, .s (.int .i64 i)], hp2 d bs ver)
theorem HI.up {id q : Int} {i : Nat} {d : Thing} {bs : List Int} (h : HI id q i d bs) : HI id q (i + 1) d bs := ⟨h.right, h.kind, h.did, h.dq, by have := h.bl; omega, h.bnd⟩

def okAct (a : Act) : Prop := (Lit.int .i64 a.kind).wf = true ∧ (Lit.int .i64 a.quota).wf = true ∧ (Lit.int .u64 a.id).wf = true
def smallT (id q : Int) : Thing := bareT id 1 ⟨2, []⟩ q
def smallRow (id q : Int) : List A := [.s (.int .u64 id), .s (.int .i64 1), .s (.int .i64 2), .s (.slice none 0 0), .s (.int .i64 0), .s (.slice none 0 0), .s (.int .i64 q), .s (.int .i64 0), .s (.slice none 0 0), .s (.slice none 0 0), .s (.int .u64 0), .s (.int .u64 0), .s (.int .u64 0), .s (.int .u64 0), .s (.int .i64 0), .s (.int .i64 0), .s (.bool false), .s (.int .u64 0), .s (.int .u64 0), .s (.int .u64 0), .s (.int .u64 0), .s (.int .u64 0), .s (.int .u64 0), .s (.int .u64 0), .s (.int .u64 0), .s (.int .u64 0)]
end Go.Ab.T

/-
  WHICH THINGS CAN BE: ref11.Right, of every kind.
-/
set_option linter.unusedSimpArgs false
set_option linter.unusedVariables false
namespace Go.Ab.T
open Go Go.Ab Go.Ab.F

theorem putCells_len (row : List A) (off : Nat) (cs : List A) (h : off + cs.length ≤ row.length) : (putCells row off cs).length = row.length := by
  simp [putCells]; omega
theorem parts_v (a : Int) : ∃ x y z : Int, ref01_parts [.s (.int .u64 a)] [] = some (.ok (.tup [.s (.int .u64 x), .s (.int .u64 y), .s (.int .u64 z)]), []) := by
  have ha : ∀ a b : Int, ∃ r, arInt .and .u64 a b = some r := fun a b => ⟨_, rfl⟩
  obtain ⟨r1, h1⟩ := ha (a.fdiv (2 ^ min 52 IntKind.u64.bits)) 2047
  obtain ⟨r2, h2⟩ := ha a 4503599627370495
  exact ⟨_, _, _, by simp [ref01_parts, finish_val, h1, h2]; exact ⟨rfl, rfl, rfl⟩⟩
theorem Canon_v (a : Int) : ∃ c : Int, ref01_Canon [.s (.int .u64 a)] [] = some (.ok (.s (.int .u64 c)), []) := by
  obtain ⟨x, y, z, hp⟩ := parts_v a
  have hc : ∀ (β : Type) (h : Heap) (kp k : A → Heap → Option β), oLend ref01_parts [.s (.int .u64 a)] h kp k = k (.tup [.s (.int .u64 x), .s (.int .u64 y), .s (.int .u64 z)]) h := fun β h kp k => oLend_val _ _ _ _ _ _ (by simp) (by simp) hp
  by_cases h1 : y = 2047 <;> by_cases h2 : z = 0 <;> simp [ref01_Canon, ref01_Canon_k1, hc, h1, h2, trim, allBelow, finish_val]
theorem clean_v (l : Label) (hl : l.cats.length < 2 ^ 63) : ref11_clean [.agg (labelC l)] [] = some (.ok (.s (.bool (lr l && pure l))), []) := by
  have hlr : ∀ (β : Type) (h : Heap) (kp k : A → Heap → Option β), oLend ref09_Right [.agg (labelC l)] h kp k = k (.s (.bool (lr l))) h := fun β h kp k =>
    oLend_val _ _ _ _ _ _ (by simp) (by simp) (lr_v _ hl)
  have hpu : ∀ (β : Type) (h : Heap) (kp k : A → Heap → Option β), oLend ref10_Pure [.agg (labelC l)] h kp k = k (.s (.bool (pure l))) h := fun β h kp k =>
    oLend_val _ _ _ _ _ _ (by simp) (by simp) (ref10_Pure_v _ hl)
  cases h : lr l <;> simp [ref11_clean, hlr, hpu, h, finish_val]

/-- What a thing that can be is like, whatever its kind. -/
structure okT (t : Thing) : Prop where
  label : lr t.label = true
  links : sortedL t.links
  few : t.links.length ≤ 16
  dir : t.kind = 1 → dirRight t
  small : small t
  id1 : 1 ≤ t.id
  id2 : t.id < 281474976710656
  body : t.kind = 1 ∧ t.data = [] ∨ t.links = [] ∧ t.data.length ≤ 128 ∧ 1 + (t.data.length : Int) / 32 ≤ t.quota

theorem okT_dir {t : Thing} (h : dirRight t) (hk : t.kind = 1) : okT t := ⟨h.label, goodL_sorted h.links, h.links.len, fun _ => h, h.small, h.id1, h.id2, .inl ⟨hk, by have := congrArg Thing.data h.bare; simpa [bareOf, bareT] using this⟩⟩

/-- The last question: is nothing else in it? -/
theorem Right_end (t : Thing) (ok : okT1 t) (row : List A) (u : Thing) (q : Int) (v : A) (hr : row.length = 26) (hc : cellsAt (some 26) row 0 = some (.agg row)) (hf : ∀ a ∈ row, flatA a = true) (hi : idsL row = []) (hn : row.map normA = thingC u) (oku : okT1 u) :
    ref11_Right_k13 (.ptr 0 0 0 0) (.ptr 1 0 0 0) [] .normal [v, .s (.int .i64 q)] [Go.Ab.Slot.live ⟨0, 26, [thingC t]⟩, Go.Ab.Slot.live ⟨0, 26, [row]⟩] = some (.ok (.s (.bool (decide (t.quota = q) && decide (u = bareT t.id t.kind t.label t.quota)))), []) := by
  have hS : ∀ (β : Type) (h : Heap) (kp k : A → Heap → Option β), oLend ref11_Same [.agg row, .agg (rowL t)] h kp k = k (.s (.bool (decide (u = bareT t.id t.kind t.label t.quota)))) h := fun β h kp k =>
    oLend_val' _ _ [.agg (thingC u), .agg (thingC (bareT t.id t.kind t.label t.quota))] _ _ _ _ (by simp [hi, rowL]) (lend_agg2 _ _ _ _ _ hf (by rw [hr]; decide) hn (by simp [rowL]) (by simp [rowL]) (by simp [rowL, thingC, bareT])) (by simp)
      (ref11_Same_v _ _ oku ⟨ok.label, by simp [bareT], by simp [bareT], by intro n hn; simp [bareT] at hn⟩)
  simp only [rowL] at hS
  by_cases hq : t.quota = q
  · simp [ref11_Right_k13, hq, hc, putCells, labelC]
    rw [← hq]
    simp [hS, finish_val]
  · simp [ref11_Right_k13, hq, finish_val]

theorem Right_start' (t : Thing) (h1 : t.label.cats.length < 2 ^ 63) : ref11_Right [.agg (thingC t)] [] =
    ref11_Right_k14 [] (.ptr 0 0 0 0) .normal [.s (.bool (!(decide (1 ≤ t.id ∧ t.id < 281474976710656) && (lr t.label && (decide (t.kind = 2) || (decide (t.kind = 3) || pure t.label))))))] [Go.Ab.Slot.live ⟨0, 26, [thingC t]⟩] := by
  have hid : ∀ (β : Type) (id : Int) (h : Heap) (kp k : A → Heap → Option β), oLend ref11_id [.s (.int .u64 id)] h kp k = k (.s (.bool (decide (1 ≤ id ∧ id < 281474976710656)))) h := fun β id h kp k =>
    oLend_val _ _ _ _ _ _ (by simp) (by simp) (ref11_id_v id)
  have hlr : ∀ (β : Type) (h : Heap) (kp k : A → Heap → Option β), oLend ref09_Right [.agg (labelC t.label)] h kp k = k (.s (.bool (lr t.label))) h := fun β h kp k =>
    oLend_val _ _ _ _ _ _ (by simp) (by simp) (lr_v _ h1)
  have hpu : ∀ (β : Type) (h : Heap) (kp k : A → Heap → Option β), oLend ref10_Pure [.agg (labelC t.label)] h kp k = k (.s (.bool (pure t.label))) h := fun β h kp k =>
    oLend_val _ _ _ _ _ _ (by simp) (by simp) (ref10_Pure_v _ h1)
  by_cases c1 : 1 ≤ t.id ∧ t.id < 281474976710656
  · cases c2 : lr t.label
    · simp [ref11_Right, hid, hlr, hpu, c1, c2, trim, allBelow]
    · by_cases c3 : t.kind = 2
      · simp [ref11_Right, hid, hlr, hpu, c1, c2, c3, trim, allBelow]
      · by_cases c4 : t.kind = 3 <;> simp [ref11_Right, hid, hlr, hpu, c1, c2, c3, c4, trim, allBelow]
  · simp [ref11_Right, hid, hlr, hpu, c1, trim, allBelow]

abbrev hp (t : Thing) (row : List A) : Heap := [Go.Ab.Slot.live ⟨0, 26, [thingC t]⟩, Go.Ab.Slot.live ⟨0, 26, [row]⟩]

def bareThr (t : Thing) : Thing := { t with clear := ⟨0, []⟩, r0 := 0, r1 := 0, r2 := 0, r3 := 0, minted := 0, boot := 0, halted := false }
def rowThr (t : Thing) : List A := [.s (.int .u64 t.id), .s (.int .i64 t.kind), .s (.int .i64 t.label.df), mkF 2 (t.label.cats.map catC), .s (.int .i64 0), .s (.slice none 0 0), .s (.int .i64 t.quota), .s (.int .i64 t.next), mkF 2 (t.links.map linkC), mkF 1 (t.data.map (cellC .u8)), .s (.int .u64 0), .s (.int .u64 0), .s (.int .u64 0), .s (.int .u64 0), .s (.int .i64 0), .s (.int .i64 0), .s (.bool false), .s (.int .u64 t.value), .s (.int .u64 t.s0.dir), .s (.int .u64 t.s0.seg), .s (.int .u64 t.s1.dir), .s (.int .u64 t.s1.seg), .s (.int .u64 t.s2.dir), .s (.int .u64 t.s2.seg), .s (.int .u64 t.s3.dir), .s (.int .u64 t.s3.seg)]
def bareGate (t : Thing) : Thing := { t with clear := ⟨0, []⟩, value := 0 }
def rowGate (t : Thing) : List A := [.s (.int .u64 t.id), .s (.int .i64 t.kind), .s (.int .i64 t.label.df), mkF 2 (t.label.cats.map catC), .s (.int .i64 0), .s (.slice none 0 0), .s (.int .i64 t.quota), .s (.int .i64 t.next), mkF 2 (t.links.map linkC), mkF 1 (t.data.map (cellC .u8)), .s (.int .u64 t.r0), .s (.int .u64 t.r1), .s (.int .u64 t.r2), .s (.int .u64 t.r3), .s (.int .i64 t.minted), .s (.int .i64 t.boot), .s (.bool t.halted), .s (.int .u64 0), .s (.int .u64 t.s0.dir), .s (.int .u64 t.s0.seg), .s (.int .u64 t.s1.dir), .s (.int .u64 t.s1.seg), .s (.int .u64 t.s2.dir), .s (.int .u64 t.s2.seg), .s (.int .u64 t.s3.dir), .s (.int .u64 t.s3.seg)]
def bareSeg (t : Thing) : Thing := { t with data := [] }
def rowSeg (t : Thing) : List A := [.s (.int .u64 t.id), .s (.int .i64 t.kind), .s (.int .i64 t.label.df), mkF 2 (t.label.cats.map catC), .s (.int .i64 t.clear.df), mkF 2 (t.clear.cats.map catC), .s (.int .i64 t.quota), .s (.int .i64 t.next), mkF 2 (t.links.map linkC), .s (.slice none 0 0), .s (.int .u64 t.r0), .s (.int .u64 t.r1), .s (.int .u64 t.r2), .s (.int .u64 t.r3), .s (.int .i64 t.minted), .s (.int .i64 t.boot), .s (.bool t.halted), .s (.int .u64 t.value), .s (.int .u64 t.s0.dir), .s (.int .u64 t.s0.seg), .s (.int .u64 t.s1.dir), .s (.int .u64 t.s1.seg), .s (.int .u64 t.s2.dir), .s (.int .u64 t.s2.seg), .s (.int .u64 t.s3.dir), .s (.int .u64 t.s3.seg)]
def bareSpace (t : Thing) : Thing := { t with s0 := ⟨0, 0⟩, s1 := ⟨0, 0⟩, s2 := ⟨0, 0⟩, s3 := ⟨0, 0⟩ }
def rowSpace (t : Thing) : List A := [.s (.int .u64 t.id), .s (.int .i64 t.kind), .s (.int .i64 t.label.df), mkF 2 (t.label.cats.map catC), .s (.int .i64 t.clear.df), mkF 2 (t.clear.cats.map catC), .s (.int .i64 t.quota), .s (.int .i64 t.next), mkF 2 (t.links.map linkC), mkF 1 (t.data.map (cellC .u8)), .s (.int .u64 t.r0), .s (.int .u64 t.r1), .s (.int .u64 t.r2), .s (.int .u64 t.r3), .s (.int .i64 t.minted), .s (.int .i64 t.boot), .s (.bool t.halted), .s (.int .u64 t.value), .s (.int .u64 0), .s (.int .u64 0), .s (.int .u64 0), .s (.int .u64 0), .s (.int .u64 0), .s (.int .u64 0), .s (.int .u64 0), .s (.int .u64 0)]

theorem ret13 (t : Thing) (row : List A) (b : Bool) (v : A) : ref11_Right_k13 (.ptr 0 0 0 0) (.ptr 1 0 0 0) [] .ret [.s (.bool b), v] (hp t row) = some (.ok (.s (.bool b)), []) := by
  simp [ref11_Right_k13, finish_val]
/-- The registers. -/
theorem Right_regs (t : Thing) : ∃ q : Ex × List A × Heap, (q = (.ret, [.s (.bool false)], hp t (thingC t)) ∨ q = (.exit 3, [.any], hp t (thingC t))) ∧
    ∀ {β : Type} (k : Ex → List A → Heap → Option β), oLoop (ref11_Right_l5 (.agg (thingC_regsC t)) (hp t (thingC t))) ([.s (.int .i64 0)], hp t (thingC t)) k = k q.1 q.2.1 q.2.2 := by
  refine oLoop_inv' (fun i s => s = ([.s (.int .i64 i)], hp t (thingC t))) (fun q => q = (.ret, [.s (.bool false)], hp t (thingC t)) ∨ q = (.exit 3, [.any], hp t (thingC t))) 4 rfl (by decide) ?_ ?_
  · rintro i s hi rfl
    have key : ∀ r : Int, (∀ {β : Type} (k : A → Option β), oIndex 4 1 none (.agg (thingC_regsC t)) (.s (.int .i64 i)) k = k (.s (.int .u64 r))) →
        (∃ s', ref11_Right_l5 (.agg (thingC_regsC t)) (hp t (thingC t)) ([.s (.int .i64 i)], hp t (thingC t)) = some (.inl s') ∧ s' = ([.s (.int .i64 (i + 1 : Nat))], hp t (thingC t))) ∨
        (∃ q, ref11_Right_l5 (.agg (thingC_regsC t)) (hp t (thingC t)) ([.s (.int .i64 i)], hp t (thingC t)) = some (.inr q) ∧ (q = (.ret, [.s (.bool false)], hp t (thingC t)) ∨ q = (.exit 3, [.any], hp t (thingC t)))) := by
      intro r hr
      obtain ⟨c, hc⟩ := Canon_v r
      have hC : ∀ (β : Type) (h : Heap) (kp k : A → Heap → Option β), oLend ref01_Canon [.s (.int .u64 r)] h kp k = k (.s (.int .u64 c)) h := fun β h kp k => oLend_val _ _ _ _ _ _ (by simp) (by simp) hc
      have hlt : ((i : Int) < 4) := by omega
      have hw : IntKind.i64.wrap ((i : Int) + 1) = (i : Int) + 1 := wrap64_id (by omega) (by omega)
      by_cases h : c = r
      · left
        exact ⟨([.s (.int .i64 (i + 1 : Nat))], hp t (thingC t)), by simp [ref11_Right_l5, hlt, hr, hC, h, hw, trim, allBelow], rfl⟩
      · right
        exact ⟨_, by simp [ref11_Right_l5, hlt, hr, hC, h, hw, trim, allBelow], .inl rfl⟩
    rcases (show i = 0 ∨ i = 1 ∨ i = 2 ∨ i = 3 by omega) with rfl | rfl | rfl | rfl
    · exact key t.r0 fun k => by simp [oIndex_agg, thingC_regsC, cellsAt]
    · exact key t.r1 fun k => by simp [oIndex_agg, thingC_regsC, cellsAt]
    · exact key t.r2 fun k => by simp [oIndex_agg, thingC_regsC, cellsAt]
    · exact key t.r3 fun k => by simp [oIndex_agg, thingC_regsC, cellsAt]
  · rintro s rfl
    exact ⟨_, by simp [ref11_Right_l5, trim, allBelow], .inr rfl⟩

/-- The slots. -/
theorem Right_slots (t : Thing) : ∃ q : Ex × List A × Heap, (q = (.ret, [.s (.bool false)], hp t (thingC t)) ∨ q = (.exit 5, [.any], hp t (thingC t))) ∧
    ∀ {β : Type} (k : Ex → List A → Heap → Option β), oLoop (ref11_Right_l11 (.agg (thingC_slotsC t)) (hp t (thingC t))) ([.s (.int .i64 0)], hp t (thingC t)) k = k q.1 q.2.1 q.2.2 := by
  have hid : ∀ (β : Type) (id : Int) (h : Heap) (kp k : A → Heap → Option β), oLend ref11_id [.s (.int .u64 id)] h kp k = k (.s (.bool (decide (1 ≤ id ∧ id < 281474976710656)))) h := fun β id h kp k =>
    oLend_val _ _ _ _ _ _ (by simp) (by simp) (ref11_id_v id)
  refine oLoop_inv' (fun i s => s = ([.s (.int .i64 i)], hp t (thingC t))) (fun q => q = (.ret, [.s (.bool false)], hp t (thingC t)) ∨ q = (.exit 5, [.any], hp t (thingC t))) 4 rfl (by decide) ?_ ?_
  · rintro i s hi rfl
    have key : ∀ r : T.Slot, (∀ {β : Type} (k : A → Option β), oIndex 4 2 (some 2) (.agg (thingC_slotsC t)) (.s (.int .i64 i)) k = k (.agg (slotC r))) →
        (∃ s', ref11_Right_l11 (.agg (thingC_slotsC t)) (hp t (thingC t)) ([.s (.int .i64 i)], hp t (thingC t)) = some (.inl s') ∧ s' = ([.s (.int .i64 (i + 1 : Nat))], hp t (thingC t))) ∨
        (∃ q, ref11_Right_l11 (.agg (thingC_slotsC t)) (hp t (thingC t)) ([.s (.int .i64 i)], hp t (thingC t)) = some (.inr q) ∧ (q = (.ret, [.s (.bool false)], hp t (thingC t)) ∨ q = (.exit 5, [.any], hp t (thingC t)))) := by
      intro r hr
      have hlt : ((i : Int) < 4) := by omega
      have hw : IntKind.i64.wrap ((i : Int) + 1) = (i : Int) + 1 := wrap64_id (by omega) (by omega)
      have hz : eqCells [true, true] (slotC r) [.s (.int .u64 0), .s (.int .u64 0)] = some (decide (r = ⟨0, 0⟩)) := eqCells_slot r ⟨0, 0⟩
      have hput : putCells [A.s (.int .u64 0), .s (.int .u64 0)] 0 (slotC r) = slotC r := rfl
      by_cases hzr : r = ⟨0, 0⟩
      · left
        have hz' : eqCells [true, true] (slotC r) [.s (.int .u64 0), .s (.int .u64 0)] = some true := by rw [hz]; simp [hzr]
        exact ⟨([.s (.int .i64 (i + 1 : Nat))], hp t (thingC t)), by simp [ref11_Right_l11, ref11_Right_k10, hlt, hr, hz', hw, trim, allBelow, hput], rfl⟩
      · by_cases h1 : 1 ≤ r.dir ∧ r.dir < 281474976710656
        · by_cases h2 : 1 ≤ r.seg ∧ r.seg < 281474976710656
          · left
            exact ⟨([.s (.int .i64 (i + 1 : Nat))], hp t (thingC t)), by simp [ref11_Right_l11, ref11_Right_k10, hlt, hr, hz, hzr, hid, h1, h2, hw, trim, allBelow, hput], rfl⟩
          · right
            exact ⟨_, by simp [ref11_Right_l11, ref11_Right_k10, hlt, hr, hz, hzr, hid, h1, h2, hw, trim, allBelow, hput], .inl rfl⟩
        · right
          exact ⟨_, by simp [ref11_Right_l11, ref11_Right_k10, hlt, hr, hz, hzr, hid, h1, hw, trim, allBelow, hput], .inl rfl⟩
    rcases (show i = 0 ∨ i = 1 ∨ i = 2 ∨ i = 3 by omega) with rfl | rfl | rfl | rfl
    · exact key t.s0 fun k => by simp [oIndex_agg, thingC_slotsC, cellsAt, slotC]
    · exact key t.s1 fun k => by simp [oIndex_agg, thingC_slotsC, cellsAt, slotC]
    · exact key t.s2 fun k => by simp [oIndex_agg, thingC_slotsC, cellsAt, slotC]
    · exact key t.s3 fun k => by simp [oIndex_agg, thingC_slotsC, cellsAt, slotC]
  · rintro s rfl
    exact ⟨_, by simp [ref11_Right_l11, trim, allBelow], .inr rfl⟩

theorem okBare {t u : Thing} (ok : okT1 t) (h1 : u.label = t.label) (h2 : u.clear = t.clear ∨ u.clear = ⟨0, []⟩) (h3 : u.links = t.links) (h4 : u.data = t.data ∨ u.data = []) : okT1 u := by
  refine ⟨by rw [h1]; exact ok.label, ?_, by rw [h3]; exact ok.links, ?_⟩
  · rcases h2 with h | h
    · rw [h]; exact ok.clear
    · rw [h]; decide
  · rcases h4 with h | h
    · rw [h]; exact ok.data
    · rw [h]; intro n hn; cases hn

/-- Threads. -/
theorem Right_thr (t : Thing) (ok : okT1 t) (hk : t.kind = 2) : ∃ b : Bool, ref11_Right_k14 [] (.ptr 0 0 0 0) .normal [.s (.bool false)] [Go.Ab.Slot.live ⟨0, 26, [thingC t]⟩] = some (.ok (.s (.bool b)), []) ∧
    (b = true → lr t.clear = true ∧ t.links = [] ∧ t.data = [] ∧ t.quota = 1) := by
  obtain ⟨q, hQ, hq⟩ := Right_regs t
  have hpl : (putCells (thingC t) 4 [.s (.int .i64 0), .s (.slice none 0 0)]).length = 26 := rfl
  have hrun : ref11_Right_k14 [] (.ptr 0 0 0 0) .normal [.s (.bool false)] [Go.Ab.Slot.live ⟨0, 26, [thingC t]⟩] =
      oJoin (oLoop (ref11_Right_l5 (.agg (thingC_regsC t)) (hp t (thingC t))) ([.s (.int .i64 0)], hp t (thingC t)) (ref11_Right_k7 (.ptr 0 0 0 0) (hp t (thingC t)) (.ptr 1 0 0 0))) (ref11_Right_k13 (.ptr 0 0 0 0) (.ptr 1 0 0 0) []) := by
    simp [ref11_Right_k14, hk]
  rw [hrun, hq]
  have hcl : ∀ (β : Type) (h : Heap) (kp k : A → Heap → Option β), oLend ref11_clean [.agg (labelC t.clear)] h kp k = k (.s (.bool (lr t.clear && pure t.clear))) h := fun β h kp k =>
    oLend_val _ _ _ _ _ _ (by simp) (by simp) (clean_v _ ok.clear)
  have hput : putCells (putCells (putCells (putCells (putCells (thingC t) 4 [.s (.int .i64 0), .s (.slice none 0 0)]) 10 [.s (.int .u64 0), .s (.int .u64 0), .s (.int .u64 0), .s (.int .u64 0)]) 14 [.s (.int .i64 0)]) 15 [.s (.int .i64 0)]) 16 [.s (.bool false)] = rowThr t := rfl
  rcases hQ with rfl | rfl
  · exact ⟨false, by simp [ref11_Right_k7, ref11_Right_k13, trim, allBelow, finish_val], by simp⟩
  · by_cases c1 : lr t.clear = true ∧ pure t.clear = true
    · by_cases d : 0 ≤ t.minted ∧ t.minted ≤ 31 ∧ 0 ≤ t.boot ∧ t.boot ≤ 255
      · obtain ⟨d1, d2, d3, d4⟩ := d
        obtain ⟨c1, c2⟩ := c1
        have e1 : ¬ t.minted < 0 := by omega
        have e2 : ¬ 31 < t.minted := by omega
        have e3 : ¬ t.boot < 0 := by omega
        have e4 : ¬ 255 < t.boot := by omega
        have hE := Right_end t ok (rowThr t) (bareThr t) 1 .any rfl rfl (by simp [rowThr]) rfl (by simp [rowThr, thingC, bareThr]) (okBare ok rfl (.inr rfl) rfl (.inl rfl))
        refine ⟨decide (t.quota = 1) && decide (bareThr t = bareT t.id t.kind t.label t.quota), ?_, ?_⟩
        · simp [ref11_Right_k7, ref11_Right_k6, hcl, c1, c2, e1, e2, e3, e4, trim, allBelow, putCells_len, hput, hE]
        · simp only [Bool.and_eq_true, decide_eq_true_eq]
          rintro ⟨hq, h⟩
          exact ⟨c1, congrArg Thing.links h, congrArg Thing.data h, hq⟩
      · have : t.minted < 0 ∨ 31 < t.minted ∨ t.boot < 0 ∨ 255 < t.boot := by omega
        obtain ⟨c1, c2⟩ := c1
        refine ⟨false, ?_, by simp⟩
        by_cases e1 : t.minted < 0
        · simp [ref11_Right_k7, ref11_Right_k6, ref11_Right_k13, hcl, c1, c2, e1, trim, allBelow, finish_val]
        by_cases e2 : 31 < t.minted
        · simp [ref11_Right_k7, ref11_Right_k6, ref11_Right_k13, hcl, c1, c2, e1, e2, trim, allBelow, finish_val]
        by_cases e3 : t.boot < 0
        · simp [ref11_Right_k7, ref11_Right_k6, ref11_Right_k13, hcl, c1, c2, e1, e2, e3, trim, allBelow, finish_val]
        by_cases e4 : 255 < t.boot
        · simp [ref11_Right_k7, ref11_Right_k6, ref11_Right_k13, hcl, c1, c2, e1, e2, e3, e4, trim, allBelow, finish_val]
        exact absurd this (by omega)
    · refine ⟨false, ?_, by simp⟩
      have c1' : (lr t.clear && pure t.clear) = false := by
        cases h1 : lr t.clear <;> cases h2 : pure t.clear <;> simp_all
      simp [ref11_Right_k7, ref11_Right_k6, ref11_Right_k13, hcl, c1', trim, allBelow, finish_val]

/-- Gates. -/
theorem Right_gate (t : Thing) (ok : okT1 t) (hk : t.kind = 3) : ∃ b : Bool, ref11_Right_k14 [] (.ptr 0 0 0 0) .normal [.s (.bool false)] [Go.Ab.Slot.live ⟨0, 26, [thingC t]⟩] = some (.ok (.s (.bool b)), []) ∧
    (b = true → lr t.clear = true ∧ t.links = [] ∧ t.data = [] ∧ t.quota = 1) := by
  have hcl : ∀ (β : Type) (n0 : Nat) (wr : List Nat) (h : Heap) (k : A → Heap → Option β), oCallF n0 wr ref11_clean [.agg (labelC t.clear)] h k = k (.s (.bool (lr t.clear && pure t.clear))) h := fun β n0 wr h k =>
    oCallF_val _ _ _ _ _ _ _ (by simp) (by simp) (clean_v _ ok.clear)
  obtain ⟨c, hc⟩ := Canon_v t.value
  have hC : ∀ (β : Type) (n0 : Nat) (wr : List Nat) (h : Heap) (k : A → Heap → Option β), oCallF n0 wr ref01_Canon [.s (.int .u64 t.value)] h k = k (.s (.int .u64 c)) h := fun β n0 wr h k => oCallF_val _ _ _ _ _ _ _ (by simp) (by simp) hc
  have hput : putCells (putCells (thingC t) 4 [.s (.int .i64 0), .s (.slice none 0 0)]) 17 [.s (.int .u64 0)] = rowGate t := rfl
  by_cases c1 : lr t.clear = true ∧ pure t.clear = true
  · obtain ⟨c1, c2⟩ := c1
    by_cases c3 : c = t.value
    · have hE := Right_end t ok (rowGate t) (bareGate t) 1 (.s (.bool false)) rfl rfl (by simp [rowGate]) rfl (by simp [rowGate, thingC, bareGate]) (okBare ok rfl (.inr rfl) rfl (.inl rfl))
      refine ⟨decide (t.quota = 1) && decide (bareGate t = bareT t.id t.kind t.label t.quota), ?_, ?_⟩
      · simp [ref11_Right_k14, ref11_Right_k8, hk, hcl, hC, c1, c2, c3, trim, allBelow, putCells_len, hput, oLoadD, hE]
      · simp only [Bool.and_eq_true, decide_eq_true_eq]
        rintro ⟨hq, h⟩
        exact ⟨c1, congrArg Thing.links h, congrArg Thing.data h, hq⟩
    · exact ⟨false, by simp [ref11_Right_k14, ref11_Right_k8, ref11_Right_k13, hk, hcl, hC, c1, c2, c3, trim, allBelow, oLoadD, finish_val], by simp⟩
  · refine ⟨false, ?_, by simp⟩
    have c1' : (lr t.clear && pure t.clear) = false := by
      cases h1 : lr t.clear <;> cases h2 : pure t.clear <;> simp_all
    simp [ref11_Right_k14, ref11_Right_k8, ref11_Right_k13, hk, hcl, c1', trim, allBelow, oLoadD, finish_val]

def qvOf (t : Thing) : Int := IntKind.i64.wrap (1 + IntKind.i64.wrap ((t.data.length : Int) / 32))
/-- Segments. -/
theorem Right_seg (t : Thing) (ok : okT1 t) (hl : t.data.length < 2 ^ 63) (hk : t.kind = 4) : ∃ b : Bool, ref11_Right_k14 [] (.ptr 0 0 0 0) .normal [.s (.bool false)] [Go.Ab.Slot.live ⟨0, 26, [thingC t]⟩] = some (.ok (.s (.bool b)), []) ∧
    (b = true → t.clear.cats = [] ∧ t.links = [] ∧ t.data.length ≤ 128 ∧ t.quota = qvOf t) := by
  have hput : putCells (thingC t) 9 [.s (.slice none 0 0)] = rowSeg t := rfl
  have hqo : qvOf t = IntKind.i64.wrap (1 + IntKind.i64.wrap ((t.data.length : Int) / 32)) := rfl
  generalize hqv : IntKind.i64.wrap (1 + IntKind.i64.wrap ((t.data.length : Int) / 32)) = qv at hqo
  by_cases d1 : (t.data.length : Int) < 32
  · exact ⟨false, by simp [ref11_Right_k14, ref11_Right_k9, ref11_Right_k13, hk, d1, trim, allBelow, finish_val], by simp⟩
  by_cases d2 : (128 : Int) < (t.data.length : Int)
  · exact ⟨false, by simp [ref11_Right_k14, ref11_Right_k9, ref11_Right_k13, hk, d1, d2, trim, allBelow, finish_val], by simp⟩
  by_cases d3 : (t.data.length : Int).tmod 32 = 0
  · have hE := Right_end t ok (rowSeg t) (bareSeg t) qv (.s (.bool false)) rfl rfl (by simp [rowSeg]) rfl (by simp [rowSeg, thingC, bareSeg]) (okBare ok rfl (.inl rfl) rfl (.inr rfl))
    refine ⟨decide (t.quota = qv) && decide (bareSeg t = bareT t.id t.kind t.label t.quota), ?_, ?_⟩
    · simp [ref11_Right_k14, ref11_Right_k9, hk, d1, d2, d3, trim, allBelow, putCells_len, hput, hqv, hE]
    · simp only [Bool.and_eq_true, decide_eq_true_eq]
      rintro ⟨hq, h⟩
      exact ⟨congrArg (fun u => u.clear.cats) h, congrArg Thing.links h, by omega, hq.trans hqo.symm⟩
  · exact ⟨false, by simp [ref11_Right_k14, ref11_Right_k9, ref11_Right_k13, hk, d1, d2, d3, trim, allBelow, finish_val], by simp⟩

/-- Spaces. -/
theorem Right_space (t : Thing) (ok : okT1 t) (hk : t.kind = 5) : ∃ b : Bool, ref11_Right_k14 [] (.ptr 0 0 0 0) .normal [.s (.bool false)] [Go.Ab.Slot.live ⟨0, 26, [thingC t]⟩] = some (.ok (.s (.bool b)), []) ∧
    (b = true → t.clear.cats = [] ∧ t.links = [] ∧ t.data = [] ∧ t.quota = 1) := by
  obtain ⟨q, hQ, hq⟩ := Right_slots t
  have hrun : ref11_Right_k14 [] (.ptr 0 0 0 0) .normal [.s (.bool false)] [Go.Ab.Slot.live ⟨0, 26, [thingC t]⟩] =
      oJoin (oLoop (ref11_Right_l11 (.agg (thingC_slotsC t)) (hp t (thingC t))) ([.s (.int .i64 0)], hp t (thingC t)) (ref11_Right_k12 (.ptr 1 0 0 0) (hp t (thingC t)))) (ref11_Right_k13 (.ptr 0 0 0 0) (.ptr 1 0 0 0) []) := by
    simp [ref11_Right_k14, hk]
  rw [hrun, hq]
  have hput : putCells (thingC t) 18 [.s (.int .u64 0), .s (.int .u64 0), .s (.int .u64 0), .s (.int .u64 0), .s (.int .u64 0), .s (.int .u64 0), .s (.int .u64 0), .s (.int .u64 0)] = rowSpace t := rfl
  rcases hQ with rfl | rfl
  · exact ⟨false, by simp [ref11_Right_k12, ref11_Right_k13, trim, allBelow, finish_val], by simp⟩
  · have hE := Right_end t ok (rowSpace t) (bareSpace t) 1 .any rfl rfl (by simp [rowSpace]) rfl (by simp [rowSpace, thingC, bareSpace]) (okBare ok rfl (.inl rfl) rfl (.inl rfl))
    refine ⟨decide (t.quota = 1) && decide (bareSpace t = bareT t.id t.kind t.label t.quota), ?_, ?_⟩
    · simp [ref11_Right_k12, trim, allBelow, putCells_len, hput, hE]
    · simp only [Bool.and_eq_true, decide_eq_true_eq]
      rintro ⟨hq, h⟩
      exact ⟨congrArg (fun u => u.clear.cats) h, congrArg Thing.links h, congrArg Thing.data h, hq⟩

/-- Devices. -/
theorem Right_dev (t : Thing) (ok : okT1 t) (hk : t.kind = 6) : ∃ b : Bool, ref11_Right_k14 [] (.ptr 0 0 0 0) .normal [.s (.bool false)] [Go.Ab.Slot.live ⟨0, 26, [thingC t]⟩] = some (.ok (.s (.bool b)), []) ∧
    (b = true → t.clear.cats = [] ∧ t.links = [] ∧ t.data = [] ∧ t.quota = 1) := by
  have hE := Right_end t ok (thingC t) t 1 (.s (.bool false)) rfl rfl (by simp [thingC]) rfl (by simp [thingC]) ok
  refine ⟨decide (t.quota = 1) && decide (t = bareT t.id t.kind t.label t.quota), ?_, ?_⟩
  · simp [ref11_Right_k14, hk, trim, allBelow, hE]
  · simp only [Bool.and_eq_true, decide_eq_true_eq]
    rintro ⟨hq, h⟩
    exact ⟨congrArg (fun u => u.clear.cats) h, congrArg Thing.links h, congrArg Thing.data h, hq⟩

/-- Which things can be. -/
theorem Right_v (t : Thing) (ok : okT1 t) (hl : t.data.length < 2 ^ 63) : ∃ b : Bool, ref11_Right [.agg (thingC t)] [] = some (.ok (.s (.bool b)), []) ∧ (b = true → okT t) := by
  by_cases k1 : t.kind = 1
  · obtain ⟨b, h1, h2⟩ := Right_dir t ok k1
    exact ⟨b, h1, fun hb => okT_dir (h2.1 hb) k1⟩
  rw [Right_start' t ok.label]
  by_cases c : (1 ≤ t.id ∧ t.id < 281474976710656) ∧ lr t.label = true ∧ (t.kind = 2 ∨ t.kind = 3 ∨ pure t.label = true)
  · have hB : (decide (1 ≤ t.id ∧ t.id < 281474976710656) && (lr t.label && (decide (t.kind = 2) || (decide (t.kind = 3) || pure t.label)))) = true := by
      simp [c.1, c.2.1, c.2.2]
    rw [hB]
    have hlab := lr_len _ c.2.1
    have mk : ∀ b : Bool, (b = true → t.clear.cats.length ≤ 6 ∧ t.links = [] ∧ t.data.length ≤ 128 ∧ 1 + (t.data.length : Int) / 32 ≤ t.quota) → b = true → okT t := fun b h hb => by
      obtain ⟨h1, h2, h3, h4⟩ := h hb
      exact ⟨c.2.1, by rw [h2]; intro i a b ha; simp at ha, by simp [h2], fun hk => absurd hk k1, ⟨by omega, by omega, by simp [h2], by omega⟩, c.1.1, c.1.2, .inr ⟨h2, h3, h4⟩⟩
    by_cases k2 : t.kind = 2
    · obtain ⟨b, h1, h2⟩ := Right_thr t ok k2
      exact ⟨b, h1, mk b fun hb => ⟨lr_len _ (h2 hb).1, (h2 hb).2.1, by simp [(h2 hb).2.2.1], by simp [(h2 hb).2.2.1, (h2 hb).2.2.2]⟩⟩
    by_cases k3 : t.kind = 3
    · obtain ⟨b, h1, h2⟩ := Right_gate t ok k3
      exact ⟨b, h1, mk b fun hb => ⟨lr_len _ (h2 hb).1, (h2 hb).2.1, by simp [(h2 hb).2.2.1], by simp [(h2 hb).2.2.1, (h2 hb).2.2.2]⟩⟩
    by_cases k4 : t.kind = 4
    · obtain ⟨b, h1, h2⟩ := Right_seg t ok hl k4
      exact ⟨b, h1, mk b fun hb => ⟨by simp [(h2 hb).1], (h2 hb).2.1, (h2 hb).2.2.1, by
        have h3 := (h2 hb).2.2.1
        rw [(h2 hb).2.2.2, qvOf, wrap64_id (n := (t.data.length : Int) / 32) (by omega) (by omega), wrap64_id (by omega) (by omega)]
        omega⟩⟩
    by_cases k5 : t.kind = 5
    · obtain ⟨b, h1, h2⟩ := Right_space t ok k5
      exact ⟨b, h1, mk b fun hb => ⟨by simp [(h2 hb).1], (h2 hb).2.1, by simp [(h2 hb).2.2.1], by simp [(h2 hb).2.2.1, (h2 hb).2.2.2]⟩⟩
    by_cases k6 : t.kind = 6
    · obtain ⟨b, h1, h2⟩ := Right_dev t ok k6
      exact ⟨b, h1, mk b fun hb => ⟨by simp [(h2 hb).1], (h2 hb).2.1, by simp [(h2 hb).2.2.1], by simp [(h2 hb).2.2.1, (h2 hb).2.2.2]⟩⟩
    exact ⟨false, by simp [ref11_Right_k14, ref11_Right_k13, k1, k2, k3, k4, k5, k6, trim, allBelow, finish_val], by simp⟩
  · have hB : (decide (1 ≤ t.id ∧ t.id < 281474976710656) && (lr t.label && (decide (t.kind = 2) || (decide (t.kind = 3) || pure t.label)))) = false := by
      simpa using c
    rw [hB]
    exact ⟨false, by simp [ref11_Right_k14, finish_val], by simp⟩
end Go.Ab.T

/-
  AMONG THINGS: finding, and which graphs are sound.
-/
set_option linter.unusedSimpArgs false
set_option linter.unusedVariables false
namespace Go.Ab.T
open Go Go.Ab Go.Ab.F

def zeroT : Thing := bareT 0 0 ⟨0, []⟩ 0
def zeroRow : List A := [.s (.int .u64 0), .s (.int .i64 0), .s (.int .i64 0), .s (.slice none 0 0), .s (.int .i64 0), .s (.slice none 0 0), .s (.int .i64 0), .s (.int .i64 0), .s (.slice none 0 0), .s (.slice none 0 0), .s (.int .u64 0), .s (.int .u64 0), .s (.int .u64 0), .s (.int .u64 0), .s (.int .i64 0), .s (.int .i64 0), .s (.bool false), .s (.int .u64 0), .s (.int .u64 0), .s (.int .u64 0), .s (.int .u64 0), .s (.int .u64 0), .s (.int .u64 0), .s (.int .u64 0), .s (.int .u64 0), .s (.int .u64 0)]
theorem zeroRow_len : zeroRow.length = 26 := rfl
theorem zeroRow_drop : List.drop 26 zeroRow = [] := rfl
theorem zeroRow_ids : idsL zeroRow = [] := rfl
theorem zeroRow_at : cellsAt (some 26) zeroRow 0 = some (.agg zeroRow) := rfl
theorem zeroRow_frz (h : Heap) : FrzCells zeroRow h (thingC zeroT) h := by
  have : FrzCells zeroRow h (zeroRow.map normA) h := by
    unfold zeroRow
    repeat (first | exact .nil _ | refine .flat _ _ _ _ _ rfl ?_)
  exact this

def findT (g : List Thing) (id : Int) : Option Thing := g.find? (fun t => t.id == id)

theorem ref13_Find_v (g : List Thing) (id : Int) (hg : g.length < 2 ^ 63) : ref13_Find [mkF 26 (g.map thingC), .s (.int .u64 id)] [] =
    some (.ok (match findT g id with | some t => .tup [.agg (thingC t), .s (.bool true)] | none => .tup [.agg zeroRow, .s (.bool false)]), []) := by
  simp only [ref13_Find]
  rw [show ([A.s (.int .u64 0), .s (.int .i64 0), .s (.int .i64 0), .s (.slice none 0 0), .s (.int .i64 0), .s (.slice none 0 0), .s (.int .i64 0), .s (.int .i64 0), .s (.slice none 0 0), .s (.slice none 0 0), .s (.int .u64 0), .s (.int .u64 0), .s (.int .u64 0), .s (.int .u64 0), .s (.int .i64 0), .s (.int .i64 0), .s (.bool false), .s (.int .u64 0), .s (.int .u64 0), .s (.int .u64 0), .s (.int .u64 0), .s (.int .u64 0), .s (.int .u64 0), .s (.int .u64 0), .s (.int .u64 0), .s (.int .u64 0)]) = zeroRow from rfl]
  simp [zeroRow_len]
  refine ⟨by simp [zeroRow], ?_⟩
  refine Eq.trans (oLoop_find (enc := fun i => ([.s (.int .i64 i)], [Go.Ab.Slot.live ⟨0, 26, [zeroRow]⟩])) (fun t : Thing => t.id == id)
    (fun t => (.ret, [.s (.bool true)], [Go.Ab.Slot.live ⟨0, 26, [thingC t]⟩])) (.exit 0, [.any], [Go.Ab.Slot.live ⟨0, 26, [zeroRow]⟩]) g rfl hg ?_ ?_) ?_
  · intro i t ht hi
    have hw := wrap_succ hi hg
    by_cases h : t.id = id <;> simp [ref13_Find_l1, oIdxA_mkF _ _ _ _ _ _ _ ht, hi, hw, h, trim, allBelow, zeroRow_ids, zeroRow_drop, put_thing, drop_thing, zeroRow_len]
  · simp [ref13_Find_l1, trim, allBelow, zeroRow_ids]
  · unfold findT
    cases g.find? (fun t => t.id == id) with
    | some t => simp [ref13_Find_k2, finish_val]
    | none =>
      simp only [ref13_Find_k2, if_true]
      rw [show ([A.s (.int .u64 0), .s (.int .i64 0), .s (.int .i64 0), .s (.slice none 0 0), .s (.int .i64 0), .s (.slice none 0 0), .s (.int .i64 0), .s (.int .i64 0), .s (.slice none 0 0), .s (.slice none 0 0), .s (.int .u64 0), .s (.int .u64 0), .s (.int .u64 0), .s (.int .u64 0), .s (.int .i64 0), .s (.int .i64 0), .s (.bool false), .s (.int .u64 0), .s (.int .u64 0), .s (.int .u64 0), .s (.int .u64 0), .s (.int .u64 0), .s (.int .u64 0), .s (.int .u64 0), .s (.int .u64 0), .s (.int .u64 0)]) = zeroRow from rfl]
      have hf : fillA zeroRow [] = some zeroRow := rfl
      simp [hf, zeroRow_len, zeroRow_at, zeroRow_ids, zeroRow_drop, finish_val]

theorem Find_call (g : List Thing) (id : Int) (hg : g.length < 2 ^ 63) {β : Type} (h : Heap) (kp k : A → Heap → Option β) :
    (oLend ref13_Find [mkF 26 (g.map thingC), .s (.int .u64 id)] h kp fun w h' => oFrz w h' k) = k (.tup [.agg (thingC ((findT g id).getD zeroT)), .s (.bool (findT g id).isSome)]) h := by
  have hv := ref13_Find_v g id hg
  cases hf : findT g id with
  | some t =>
    rw [hf] at hv
    rw [oLend_val _ _ _ _ _ _ (by simp) (by simp) hv]
    simp
  | none =>
    rw [hf] at hv
    rw [oLend_val _ _ _ _ _ _ (by simp) (by simp [zeroRow_ids]) hv]
    exact oFrz_tup (zeroRow_frz h) (by simp [zeroRow, notSlice]) (by simp [zeroRow]) [.s (.bool false)] (by simp) k

/-- The names, as keys. -/
def keyL (g : List Thing) : List Link := g.map fun t => ⟨t.id, 0⟩
theorem keyL_get (g : List Thing) (i : Nat) : (keyL g)[i]? = (g[i]?).map fun t => ⟨t.id, 0⟩ := by simp [keyL]

theorem ref13_Graph_iff (g : List Thing) (hg : g.length < 2 ^ 62) : ∃ b : Bool, ref13_Graph [mkF 26 (g.map thingC)] [] = some (.ok (.s (.bool b)), []) ∧ (b = true ↔ sortedL (keyL g)) := by
  simp only [ref13_Graph]
  obtain ⟨q, hQ, hq⟩ := oLoop_inv' (step := ref13_Graph_l1 (mkF 26 (g.map thingC)) []) (s0 := ([.s (.int .i64 1)], []))
    (fun i s => s = ([.s (.int .i64 (i + 1 : Nat))], []) ∧ ∀ (m : Nat) a b, m < i → g[m]? = some a → g[m + 1]? = some b → a.id < b.id)
    (fun q => q = (.ret, [.s (.bool false)], []) ∧ ¬ sortedL (keyL g) ∨ q = (.exit 0, [.any], []) ∧ sortedL (keyL g)) (g.length - 1) ⟨rfl, fun m a b hm => by omega⟩ (by omega)
    (by
      rintro i s hi ⟨rfl, hs⟩
      have hx : g[i]? = some g[i] := List.getElem?_eq_getElem (by omega)
      have hy : g[i + 1]? = some g[i + 1] := List.getElem?_eq_getElem (by omega)
      generalize g[i] = x at hx
      generalize g[i + 1] = y at hy
      have hw : IntKind.i64.wrap (((i + 1 : Nat) : Int) + 1) = ((i + 1 + 1 : Nat) : Int) := by rw [wrap64_id (by omega) (by omega)]; simp
      have hw2 : IntKind.i64.wrap (((i + 1 : Nat) : Int) - 1) = ((i : Nat) : Int) := by rw [wrap64_id (by omega) (by omega)]; simp
      have hlt : ((i + 1 : Nat) : Int) < (g.length : Int) := by omega
      have i1 : ∀ (β : Type) (k : A → Option β), oIdxA 26 (mkF 26 (g.map thingC)) (.s (.int .i64 ((i + 1 : Nat) : Int))) k = k (.cptr (thingC y)) := fun β k => oIdxA_mkF 26 thingC g .i64 (i + 1) y k hy
      have i2 : ∀ (β : Type) (k : A → Option β), oIdxA 26 (mkF 26 (g.map thingC)) (.s (.int .i64 ((i : Nat) : Int))) k = k (.cptr (thingC x)) := fun β k => oIdxA_mkF 26 thingC g .i64 i x k hx
      generalize ((i + 1 : Nat) : Int) = j at hw hw2 hlt i1
      by_cases hc : y.id ≤ x.id
      · right
        exact ⟨_, by simp [ref13_Graph_l1, hlt, i1, i2, hw, hw2, hc, trim, allBelow, oLoadD], .inl ⟨rfl, fun hso => by
          have := hso i _ _ (by rw [keyL_get, hx]; rfl) (by rw [keyL_get, hy]; rfl)
          simp at this; omega⟩⟩
      · left
        refine ⟨([.s (.int .i64 (i + 1 + 1 : Nat))], []), by simp only [ref13_Graph_l1, oLen_mkF, List.length_map, List.getD_cons_zero, oCmp_s, cmpInt_lss, if_true, oCond_s, hlt, decide_true]; simp [i1, i2, hw, hw2, hc, trim, allBelow, oLoadD], rfl, fun m a b hm ha hb => ?_⟩
        rcases Nat.lt_or_ge m i with h | h
        · exact hs m a b h ha hb
        · obtain rfl : m = i := by omega
          rw [hx] at ha; rw [hy] at hb; cases ha; cases hb; omega)
    (by
      rintro s ⟨rfl, hs⟩
      have hge : ¬ (((g.length - 1 + 1 : Nat) : Int) < (g.length : Int)) := by omega
      refine ⟨(.exit 0, [.any], []), ?_, .inr ⟨rfl, fun i a b ha hb => ?_⟩⟩
      · simp only [ref13_Graph_l1, oLen_mkF, List.length_map, List.getD_cons_zero, oCmp_s, cmpInt_lss, if_true, oCond_s, hge, decide_false]
        simp [trim, allBelow]
      · rw [keyL_get] at ha hb
        simp only [Option.map_eq_some_iff] at ha hb
        obtain ⟨a', ha, rfl⟩ := ha
        obtain ⟨b', hb, rfl⟩ := hb
        exact hs i a' b' (by have := (List.getElem?_eq_some_iff.1 hb).1; omega) ha hb)
  rw [hq]
  rcases hQ with ⟨rfl, hs⟩ | ⟨rfl, hs⟩
  · exact ⟨false, by simp [ref13_Graph_k2, finish_val], by simp [hs]⟩
  · exact ⟨true, by simp [ref13_Graph_k2, finish_val], by simp [hs]⟩
theorem ref13_Graph_v (g : List Thing) (hg : g.length < 2 ^ 62) : ∃ b : Bool, ref13_Graph [mkF 26 (g.map thingC)] [] = some (.ok (.s (.bool b)), []) ∧ (b = true → sortedL (keyL g)) := by
  obtain ⟨b, h1, h2⟩ := ref13_Graph_iff g hg
  exact ⟨b, h1, h2.1⟩

/-- Things whose lists are not too long. -/
def okG (g : List Thing) : Prop := g.length < 2 ^ 62 ∧ ∀ t ∈ g, okT1 t ∧ t.data.length < 2 ^ 63 ∧ 0 ≤ t.id ∧ t.id < 18446744073709551616

theorem ref13_Refs_v (g : List Thing) (id : Int) (ok : okG g) : ∃ n : Int, ref13_Refs [mkF 26 (g.map thingC), .s (.int .u64 id)] [] = some (.ok (.s (.int .i64 n)), []) ∧ (1 ≤ n → ∃ d ∈ g, has d.links id = true) := by
  obtain ⟨hg, ok⟩ := ok
  simp [ref13_Refs]
  obtain ⟨q, ⟨n, rfl, hn⟩, hq⟩ := oLoop_inv' (step := ref13_Refs_l2 (.s (.int .i64 g.length)) (mkF 26 (g.map thingC)) (.s (.int .u64 id)) []) (s0 := ([.s (.int .i64 0), .s (.int .i64 0)], []))
    (fun i s => ∃ n : Int, s = ([.s (.int .i64 n), .s (.int .i64 i)], []) ∧ (1 ≤ n → ∃ d ∈ g, has d.links id = true)) (fun q => ∃ n : Int, q = (.exit 0, [.s (.int .i64 n)], []) ∧ (1 ≤ n → ∃ d ∈ g, has d.links id = true)) g.length ⟨0, rfl, by omega⟩ (by omega)
    (by
      rintro i s hi ⟨n, rfl, hn⟩
      left
      have hx : g[i]? = some g[i] := List.getElem?_eq_getElem hi
      have hm := List.mem_of_getElem? hx
      generalize g[i] = x at hx hm
      have hw := wrap_succ hi (by omega)
      have hH : ∀ (β : Type) (h : Heap) (kp k : A → Heap → Option β), oLend ref12_Has [.agg (thingC x), .s (.int .u64 id)] h kp k = k (.s (.bool (has x.links id))) h := fun β h kp k => oLend_val _ _ _ _ _ _ (by simp) (by simp) (ref12_Has_v x id (ok x hm).1.links)
      cases hb : has x.links id with
      | true => exact ⟨_, by simp [ref13_Refs_l2, ref13_Refs_k1, hi, oIdxA_mkF _ _ _ _ _ _ _ hx, hH, hb, hw, trim, allBelow, drop_thing, put_thing]; rfl, IntKind.i64.wrap (n + 1), by simp, fun _ => ⟨x, hm, hb⟩⟩
      | false => exact ⟨_, by simp [ref13_Refs_l2, ref13_Refs_k1, hi, oIdxA_mkF _ _ _ _ _ _ _ hx, hH, hb, hw, trim, allBelow, drop_thing, put_thing]; rfl, n, by simp, hn⟩)
    (by
      rintro s ⟨n, rfl, hn⟩
      exact ⟨_, by simp [ref13_Refs_l2, trim, allBelow], n, rfl, hn⟩)
  exact ⟨n, by rw [hq]; simp [ref13_Refs_k3, finish_val], hn⟩

theorem renRow_ids (f : Nat → Option Nat) (l : List Int) : renRows f (l.map (cellC .u64)) = some (l.map (cellC .u64)) := renRows_map f _ (fun x => by simp [cellC]) l
theorem ids_rows (l : List Int) : idsRows (l.map (cellC .u64)) = [] := idsRows_map _ (cellC_ids .u64) l
theorem ids_pure (l : List Int) : pureRows (l.map (cellC .u64)) = true := pureRows_map _ (fun x => by simp) l

theorem Above_zero (fuel : Nat) : ref13_Above (fuel + 1) [.s (.int .u64 0)] [] = some (.ok (.osl 0 0 1 0 0), [.live ⟨0, 1, []⟩]) := by
  have hf := finish_own 0 0 1 0 [] [.live ⟨0, 1, []⟩] rfl rfl (fun f => rfl)
  simp [ref13_Above, ref13_Above_step, hf]
theorem ref13_Above_v : ∀ (k fuel : Nat) (x : Int), k < fuel → k < 100 → 0 ≤ x → x < 64 ^ k → ∃ (l : List Int) (ver : Nat), l.length ≤ k ∧ ref13_Above fuel [.s (.int .u64 x)] [] = some (.ok (.osl 0 ver 1 0 l.length), [.live ⟨ver, 1, l.map (cellC .u64)⟩]) := by
  intro k
  induction k with
  | zero =>
    intro fuel x hf _ h0 h1
    obtain ⟨fuel, rfl⟩ : ∃ m, fuel = m + 1 := ⟨fuel - 1, by omega⟩
    obtain rfl : x = 0 := by simp at h1; omega
    exact ⟨[], 0, by simp, Above_zero fuel⟩
  | succ k ih =>
    intro fuel x hf hk h0 h1
    obtain ⟨fuel, rfl⟩ : ∃ m, fuel = m + 1 := ⟨fuel - 1, by omega⟩
    by_cases hx : x = 0
    · subst hx; exact ⟨[], 0, by simp, Above_zero fuel⟩
    · have hb : x < 18446744073709551616 ∨ True := .inr trivial
      obtain ⟨l, ver, hl, hF⟩ := ih fuel (IntKind.u64.wrap (x.tdiv 64)) (by omega) (by omega) (by
        have : IntKind.u64.wrap (x.tdiv 64) = (x.tdiv 64) % 18446744073709551616 := by simp [IntKind.wrap, IntKind.bits, IntKind.signed]
        rw [this]; omega) (by
        have e : IntKind.u64.wrap (x.tdiv 64) = (x.tdiv 64) % 18446744073709551616 := by simp [IntKind.wrap, IntKind.bits, IntKind.signed]
        have e2 : x.tdiv 64 = x / 64 := Int.tdiv_eq_ediv_of_nonneg h0
        rw [e, e2]
        have e3 : x / 64 < 64 ^ k := by rw [Int.pow_succ] at h1; omega
        have e4 : (x / 64) % 18446744073709551616 ≤ x / 64 := by omega
        omega)
      have hC : ∀ {β : Type} (h : Heap) (kp k : A → Heap → Option β), oLend (ref13_Above fuel) [.s (.int .u64 (IntKind.u64.wrap (x.tdiv 64)))] h kp k = k (.osl h.length ver 1 0 l.length) (h ++ [.live ⟨ver, 1, l.map (cellC .u64)⟩]) := fun h kp k =>
        oLend_own _ _ _ h kp k ver 1 l.length _ (by simp) (lendL_pure _ _ _ (by simp)) (fun f => renRow_ids f l) hF
      have hZ : ∀ {β : Type} (k : A → Heap → Option β), oFrz (.osl 1 ver 1 0 l.length) [.live ⟨0, 1, [[.s (.int .u64 x)]]⟩, .live ⟨ver, 1, l.map (cellC .u64)⟩] k = k (mkF 1 (l.map (cellC .u64))) [.live ⟨0, 1, [[.s (.int .u64 x)]]⟩, .dead] := fun k =>
        (oFrz_own _ 1 ver 1 l.length _ k (by simp) (by simp) (ids_pure l)).trans (by simp)
      have hap : appendOk (1 + l.length) 8 := by constructor <;> omega
      refine ⟨x :: l, 1, by simp; omega, ?_⟩
      have hfin := finish_own 0 1 1 (x :: l).length ((x :: l).map (cellC .u64)) [.live ⟨1, 1, (x :: l).map (cellC .u64)⟩, .dead] rfl (ids_rows _) (fun f => renRow_ids f _)
      have hq : ¬ (64 : Int) = 0 := by decide
      simp only [ref13_Above, ref13_Above_step, oCmp_s, cmpInt_eql, if_true, oCond_s, hx, decide_false, Bool.false_eq_true, if_false, oNewSlice_eq, asRows_cons, asRows_nil]
      simp [hC, hZ, oAppend_osl, hap]
      have e : [A.s (.int .u64 x)] :: l.map (cellC .u64) = (x :: l).map (cellC .u64) := rfl
      rw [e, show 1 + l.length = (x :: l).length by simp; omega]
      exact hfin

theorem Given_inner (t : Thing) (l : List Int) (id n0 : Int) (hl : l.length < 2 ^ 62) : ∃ n : Int, ∀ {β : Type} (k : Ex → List A → Heap → Option β),
    oLoop (ref13_Given_l3 (.s (.int .i64 l.length)) (mkF 1 (l.map (cellC .u64))) (.s (.int .u64 id)) [.live ⟨0, 26, [thingC t]⟩, .dead]) ([.s (.int .i64 n0), .s (.int .i64 0)], [.live ⟨0, 26, [thingC t]⟩, .dead]) k = k (.exit 2) [.s (.int .i64 n)] [.live ⟨0, 26, [thingC t]⟩, .dead] := by
  obtain ⟨q, ⟨n, rfl⟩, hq⟩ := oLoop_inv' (step := ref13_Given_l3 (.s (.int .i64 l.length)) (mkF 1 (l.map (cellC .u64))) (.s (.int .u64 id)) [.live ⟨0, 26, [thingC t]⟩, .dead]) (s0 := ([.s (.int .i64 n0), .s (.int .i64 0)], [.live ⟨0, 26, [thingC t]⟩, .dead]))
    (fun i s => ∃ n : Int, s = ([.s (.int .i64 n), .s (.int .i64 i)], [.live ⟨0, 26, [thingC t]⟩, .dead])) (fun q => ∃ n : Int, q = (.exit 2, [.s (.int .i64 n)], [.live ⟨0, 26, [thingC t]⟩, .dead])) l.length ⟨n0, rfl⟩ (by omega)
    (by
      rintro i s hi ⟨n, rfl⟩
      left
      have hx : l[i]? = some l[i] := List.getElem?_eq_getElem hi
      generalize l[i] = x at hx
      have hw := wrap_succ hi (by omega)
      by_cases c1 : IntKind.u64.wrap (x.tdiv 64) = id
      · by_cases c2 : n < IntKind.i64.wrap (x.tmod 64)
        · exact ⟨_, by simp [ref13_Given_l3, ref13_Given_k1, ref13_Given_k2, hi, oIdxA_mkF _ _ _ _ _ _ _ hx, c1, c2, hw, trim, allBelow]; rfl, _, by simp; rfl⟩
        · exact ⟨_, by simp [ref13_Given_l3, ref13_Given_k1, ref13_Given_k2, hi, oIdxA_mkF _ _ _ _ _ _ _ hx, c1, c2, hw, trim, allBelow]; rfl, _, by simp; rfl⟩
      · exact ⟨_, by simp [ref13_Given_l3, ref13_Given_k1, ref13_Given_k2, hi, oIdxA_mkF _ _ _ _ _ _ _ hx, c1, hw, trim, allBelow]; rfl, _, by simp; rfl⟩)
    (by
      rintro s ⟨n, rfl⟩
      exact ⟨_, by simp [ref13_Given_l3, trim, allBelow], n, rfl⟩)
  exact ⟨n, fun k => hq k⟩

theorem ref13_Given_v (g : List Thing) (id : Int) (ok : okG g) : ∃ n : Int, ref13_Given [mkF 26 (g.map thingC), .s (.int .u64 id)] [] = some (.ok (.s (.int .i64 n)), []) := by
  obtain ⟨hg, ok⟩ := ok
  simp only [ref13_Given]
  simp
  obtain ⟨q, ⟨n, rfl⟩, hq⟩ := oLoop_inv' (step := ref13_Given_l5 (.s (.int .i64 g.length)) (mkF 26 (g.map thingC)) (.s (.int .u64 id)) []) (s0 := ([.s (.int .i64 0), .s (.int .i64 0)], []))
    (fun i s => ∃ n : Int, s = ([.s (.int .i64 n), .s (.int .i64 i)], [])) (fun q => ∃ n : Int, q = (.exit 0, [.s (.int .i64 n)], [])) g.length ⟨0, rfl⟩ (by omega)
    (by
      rintro i s hi ⟨n, rfl⟩
      left
      have hx : g[i]? = some g[i] := List.getElem?_eq_getElem hi
      have hm := List.mem_of_getElem? hx
      generalize g[i] = x at hx hm
      obtain ⟨_, _, id0, id1⟩ := ok x hm
      have hw := wrap_succ hi (by omega)
      obtain ⟨l, ver, hl, hA⟩ := ref13_Above_v 11 big x.id (by rw [big_eq]; omega) (by omega) id0 (by omega)
      have hC : ∀ {β : Type} (h : Heap) (kp k : A → Heap → Option β), oLend (ref13_Above big) [.s (.int .u64 x.id)] h kp k = k (.osl h.length ver 1 0 l.length) (h ++ [.live ⟨ver, 1, l.map (cellC .u64)⟩]) := fun h kp k =>
        oLend_own _ _ _ h kp k ver 1 l.length _ (by simp) (lendL_pure _ _ _ (by simp)) (fun f => renRow_ids f l) hA
      have hZ : ∀ {β : Type} (k : A → Heap → Option β), oFrz (.osl 1 ver 1 0 l.length) [.live ⟨0, 26, [thingC x]⟩, .live ⟨ver, 1, l.map (cellC .u64)⟩] k = k (mkF 1 (l.map (cellC .u64))) [.live ⟨0, 26, [thingC x]⟩, .dead] := fun k =>
        (oFrz_own _ 1 ver 1 l.length _ k (by simp) (by simp) (ids_pure l)).trans (by simp)
      obtain ⟨m, hI⟩ := Given_inner x l id n (by omega)
      exact ⟨_, by simp [ref13_Given_l5, ref13_Given_k4, hi, oIdxA_mkF _ _ _ _ _ _ _ hx, hC, hZ, hI, hw, trim, allBelow, drop_thing, put_thing]; rfl, _, by simp; rfl⟩)
    (by
      rintro s ⟨n, rfl⟩
      exact ⟨_, by simp [ref13_Given_l5, trim, allBelow], n, rfl⟩)
  exact ⟨n, by rw [hq]; simp [ref13_Given_k6, finish_val]⟩

/-- A link that fits. -/
structure fitL (g : List Thing) (d : Thing) (l : Link) (x : Thing) : Prop where
  mem : x ∈ g
  id : x.id = l.id
  quota : x.quota = l.quota
  dir : x.kind = 1 → IntKind.u64.wrap (x.id.tdiv 64) = d.id

theorem ref13_Fits_v (g : List Thing) (d : Thing) (l : Link) (hg : g.length < 2 ^ 63) : ∃ b : Bool, ref13_Fits [mkF 26 (g.map thingC), .agg (thingC d), .agg (linkC l)] [] = some (.ok (.s (.bool b)), []) ∧ (b = true → ∃ x, fitL g d l x) := by
  have hF : ∀ (β : Type) (h : Heap) (kp k : A → Heap → Option β), (oLend ref13_Find [mkF 26 (g.map thingC), .s (.int .u64 l.id)] h kp fun w h' => oFrz w h' k) = k (.tup [.agg (thingC ((findT g l.id).getD zeroT)), .s (.bool (findT g l.id).isSome)]) h := fun β h kp k => Find_call g l.id hg h kp k
  cases hf : findT g l.id with
  | none =>
    simp only [hf] at hF
    exact ⟨false, by simp [ref13_Fits, ref13_Fits_k1, hF, trim, allBelow, drop_thing, put_thing, finish_val], by simp⟩
  | some t =>
    simp only [hf] at hF
    have hm := List.mem_of_find?_eq_some hf
    have hi := List.find?_some hf
    simp only [beq_iff_eq] at hi
    simp only [Option.getD_some, Option.isSome_some] at hF
    by_cases c1 : t.quota = l.quota
    · by_cases c2 : t.kind = 1
      · refine ⟨decide (IntKind.u64.wrap (t.id.tdiv 64) = d.id), by simp [ref13_Fits, ref13_Fits_k1, hF, c1, c2, trim, allBelow, drop_thing, put_thing, finish_val], fun hb => ⟨t, hm, hi, c1, fun _ => by simpa using hb⟩⟩
      · exact ⟨true, by simp [ref13_Fits, ref13_Fits_k1, hF, c1, c2, trim, allBelow, drop_thing, put_thing, finish_val], fun _ => ⟨t, hm, hi, c1, fun h => absurd h c2⟩⟩
    · exact ⟨false, by simp [ref13_Fits, ref13_Fits_k1, hF, c1, trim, allBelow, drop_thing, put_thing, finish_val], by simp⟩

/-- The links of one thing. -/
theorem Sound_links (g : List Thing) (t : Thing) (ok1 : okT1 t) (hg : g.length < 2 ^ 63) : ∃ q : Ex × List A × Heap, (q = (.ret, [.s (.bool false)], [.live ⟨0, 26, [thingC t]⟩]) ∨ q = (.exit 2, [.any], [.live ⟨0, 26, [thingC t]⟩]) ∧ ∀ l ∈ t.links, ∃ x, fitL g t l x) ∧
    ∀ {β : Type} (k : Ex → List A → Heap → Option β), oLoop (ref13_Sound_l1 (.s (.int .i64 t.links.length)) (mkF 2 (t.links.map linkC)) (.ptr 0 0 0 0) (mkF 26 (g.map thingC)) [.live ⟨0, 26, [thingC t]⟩]) ([.s (.int .i64 0)], [.live ⟨0, 26, [thingC t]⟩]) k = k q.1 q.2.1 q.2.2 := by
  refine oLoop_inv' (fun i s => s = ([.s (.int .i64 i)], [.live ⟨0, 26, [thingC t]⟩]) ∧ ∀ (j : Nat) l, j < i → t.links[j]? = some l → ∃ x, fitL g t l x) (fun q => q = (.ret, [.s (.bool false)], [.live ⟨0, 26, [thingC t]⟩]) ∨ q = (.exit 2, [.any], [.live ⟨0, 26, [thingC t]⟩]) ∧ ∀ l ∈ t.links, ∃ x, fitL g t l x) t.links.length ⟨rfl, fun j l hj => by omega⟩ ok1.links ?_ ?_
  · rintro i s hi ⟨rfl, hT⟩
    have hx : t.links[i]? = some t.links[i] := List.getElem?_eq_getElem hi
    generalize t.links[i] = x at hx
    have hw := wrap_succ hi ok1.links
    obtain ⟨b, hb, hfit⟩ := ref13_Fits_v g t x hg
    have hF : ∀ (β : Type) (h : Heap) (kp k : A → Heap → Option β), oLend ref13_Fits [mkF 26 (g.map thingC), .agg (thingC t), .agg (linkC x)] h kp k = k (.s (.bool b)) h := fun β h kp k => oLend_val _ _ _ _ _ _ (by simp) (by simp) hb
    have hput : putCells [A.s (.int .u64 0), .s (.int .i64 0)] 0 (linkC x) = linkC x := rfl
    have hput2 : linkC x ++ List.drop 2 [A.s (.int .u64 0), .s (.int .i64 0)] = linkC x := by simp
    cases b with
    | true =>
      refine .inl ⟨([.s (.int .i64 (i + 1 : Nat))], [.live ⟨0, 26, [thingC t]⟩]), by simp [ref13_Sound_l1, hi, oIdxA_mkF _ _ _ _ _ _ _ hx, hF, hw, hput, trim, allBelow], rfl, fun j l hj hl => ?_⟩
      rcases Nat.lt_or_ge j i with h | h
      · exact hT j l h hl
      · obtain rfl : j = i := by omega
        rw [hx] at hl; cases hl; exact hfit rfl
    | false => exact .inr ⟨(.ret, [.s (.bool false)], [.live ⟨0, 26, [thingC t]⟩]), by simp [ref13_Sound_l1, hi, oIdxA_mkF _ _ _ _ _ _ _ hx, hF, hw, hput, trim, allBelow], .inl rfl⟩
  · rintro s ⟨rfl, hT⟩
    refine ⟨_, by simp [ref13_Sound_l1, trim, allBelow], .inr ⟨rfl, fun l hl => ?_⟩⟩
    obtain ⟨j, hj, rfl⟩ := List.mem_iff_getElem.1 hl
    exact hT j _ hj (List.getElem?_eq_getElem hj)

theorem Refs_call (g : List Thing) (ok : okG g) (id : Int) : ∃ n : Int, (1 ≤ n → ∃ d ∈ g, has d.links id = true) ∧ ∀ {β : Type} (h : Heap) (kp k : A → Heap → Option β), oLend ref13_Refs [mkF 26 (g.map thingC), .s (.int .u64 id)] h kp k = k (.s (.int .i64 n)) h := by
  obtain ⟨n, hn, hn2⟩ := ref13_Refs_v g id ok
  exact ⟨n, hn2, fun h kp k => oLend_val _ _ _ _ _ _ (by simp) (by simp) hn⟩

/-- A thing that can be, with its links. -/
theorem Sound_rest (g : List Thing) (ok : okG g) (t : Thing) (hm : t ∈ g) (i : Nat) (hi : i < g.length) :
    ref13_Sound_k4 [] (.ptr 0 0 0 0) (mkF 26 (g.map thingC)) ([.s (.int .i64 i)], []) .normal [.s (.bool false)] [.live ⟨0, 26, [thingC t]⟩] = some (.inl ([.s (.int .i64 (i + 1 : Nat))], [])) ∧ (∀ l ∈ t.links, ∃ x, fitL g t l x) ∨
    ref13_Sound_k4 [] (.ptr 0 0 0 0) (mkF 26 (g.map thingC)) ([.s (.int .i64 i)], []) .normal [.s (.bool false)] [.live ⟨0, 26, [thingC t]⟩] = some (.inr (.ret, [.s (.bool false)], [])) := by
  obtain ⟨hg, okA⟩ := ok
  obtain ⟨ok1, okd, id0, id1⟩ := okA t hm
  have hw := wrap_succ hi (by omega)
  obtain ⟨v, hv⟩ := ref13_Given_v g t.id ⟨hg, okA⟩
  have hG : ∀ (β : Type) (n0 : Nat) (wr : List Nat) (h : Heap) (k : A → Heap → Option β), oCallF n0 wr ref13_Given [mkF 26 (g.map thingC), .s (.int .u64 t.id)] h k = k (.s (.int .i64 v)) h := fun β n0 wr h k => oCallF_val _ _ _ _ _ _ _ (by simp) (by simp) hv
  obtain ⟨q, hQ, hq⟩ := Sound_links g t ok1 (by omega)
  have hrun : ref13_Sound_k4 [] (.ptr 0 0 0 0) (mkF 26 (g.map thingC)) ([.s (.int .i64 i)], []) .normal [.s (.bool false)] [.live ⟨0, 26, [thingC t]⟩] =
      oLoop (ref13_Sound_l1 (.s (.int .i64 t.links.length)) (mkF 2 (t.links.map linkC)) (.ptr 0 0 0 0) (mkF 26 (g.map thingC)) [.live ⟨0, 26, [thingC t]⟩]) ([.s (.int .i64 0)], [.live ⟨0, 26, [thingC t]⟩]) (ref13_Sound_k3 (.ptr 0 0 0 0) (mkF 26 (g.map thingC)) [] ([.s (.int .i64 i)], [])) := by
    simp [ref13_Sound_k4]
  rw [hrun, hq]
  rcases hQ with rfl | ⟨rfl, hfit⟩
  · right; simp [ref13_Sound_k3, trim, allBelow]
  · by_cases c1 : t.kind = 1
    · by_cases c2 : t.next < v
      · right; simp [ref13_Sound_k3, ref13_Sound_k2, c1, c2, hG, oLoadD, trim, allBelow]
      · left; exact ⟨by simp [ref13_Sound_k3, ref13_Sound_k2, c1, c2, hG, hw, oLoadD, trim, allBelow], hfit⟩
    · left; exact ⟨by simp [ref13_Sound_k3, ref13_Sound_k2, c1, hw, oLoadD, trim, allBelow], hfit⟩

/-- A thing of a sound graph. -/
structure sndT (g : List Thing) (i : Nat) (t : Thing) : Prop where
  ok : okT t
  ref : 0 < i → ∃ d ∈ g, has d.links t.id = true
  fits : ∀ l ∈ t.links, ∃ x, fitL g t l x

/-- One thing of a graph. -/
theorem Sound_step (g : List Thing) (ok : okG g) (i : Nat) (hi : i < g.length) :
    (ref13_Sound_l5 (.s (.int .i64 g.length)) (mkF 26 (g.map thingC)) [] ([.s (.int .i64 i)], []) = some (.inl ([.s (.int .i64 (i + 1 : Nat))], [])) ∧ sndT g i g[i]) ∨
    ref13_Sound_l5 (.s (.int .i64 g.length)) (mkF 26 (g.map thingC)) [] ([.s (.int .i64 i)], []) = some (.inr (.ret, [.s (.bool false)], [])) := by
  have hx : g[i]? = some g[i] := List.getElem?_eq_getElem hi
  have hm := List.mem_of_getElem? hx
  generalize g[i] = t at hx hm
  have hrest := Sound_rest g ok t hm i hi
  obtain ⟨hg, okA⟩ := ok
  obtain ⟨ok1, okd, id0, id1⟩ := okA t hm
  have hw := wrap_succ hi (by omega)
  obtain ⟨n, hn, hR⟩ := Refs_call g ⟨hg, okA⟩ t.id
  have hR' : ∀ (β : Type) (h : Heap) (kp k : A → Heap → Option β), oLend ref13_Refs [mkF 26 (g.map thingC), .s (.int .u64 t.id)] h kp k = k (.s (.int .i64 n)) h := fun β h kp k => hR h kp k
  obtain ⟨b, hb, hT⟩ := Right_v t ok1 okd
  have hRt : ∀ (β : Type) (h : Heap) (kp k : A → Heap → Option β), oLend ref11_Right [.agg (thingC t)] h kp k = k (.s (.bool b)) h := fun β h kp k => oLend_val _ _ _ _ _ _ (by simp) (by simp) hb
  have hbad : ref13_Sound_k4 [] (.ptr 0 0 0 0) (mkF 26 (g.map thingC)) ([.s (.int .i64 i)], []) .normal [.s (.bool true)] [.live ⟨0, 26, [thingC t]⟩] = some (.inr (.ret, [.s (.bool false)], [])) := by
    simp [ref13_Sound_k4, trim, allBelow]
  have main : ref13_Sound_l5 (.s (.int .i64 g.length)) (mkF 26 (g.map thingC)) [] ([.s (.int .i64 i)], []) = ref13_Sound_k4 [] (.ptr 0 0 0 0) (mkF 26 (g.map thingC)) ([.s (.int .i64 i)], []) .normal [.s (.bool (!b || ((decide (0 < i) && decide (n < 1)) || (decide (t.kind = 1) && decide (1 < n)))))] [.live ⟨0, 26, [thingC t]⟩] := by
    cases b with
    | false => simp [ref13_Sound_l5, hi, oIdxA_mkF _ _ _ _ _ _ _ hx, hR', hRt, trim, allBelow, drop_thing, put_thing]
    | true =>
      by_cases c0 : 0 < i
      · by_cases c1 : n < 1
        · simp [ref13_Sound_l5, hi, oIdxA_mkF _ _ _ _ _ _ _ hx, hR', hRt, c0, c1, trim, allBelow, drop_thing, put_thing]
        · by_cases c2 : t.kind = 1 <;> simp [ref13_Sound_l5, hi, oIdxA_mkF _ _ _ _ _ _ _ hx, hR', hRt, c0, c1, c2, trim, allBelow, drop_thing, put_thing]
      · by_cases c2 : t.kind = 1 <;> simp [ref13_Sound_l5, hi, oIdxA_mkF _ _ _ _ _ _ _ hx, hR', hRt, c0, c2, trim, allBelow, drop_thing, put_thing]
  rw [main]
  generalize hbb : (!b || ((decide (0 < i) && decide (n < 1)) || (decide (t.kind = 1) && decide (1 < n)))) = bb
  cases bb with
  | true => exact .inr hbad
  | false =>
    have hbt : b = true := by cases b <;> simp_all
    rcases hrest with ⟨h, hfit⟩ | h
    · refine .inl ⟨h, hT hbt, fun h0 => hn ?_, hfit⟩
      simp [h0] at hbb
      omega
    · exact .inr h

/-- The loop over all things. -/
theorem Sound_tail (g : List Thing) (ok : okG g) : ∃ b : Bool, ref13_Sound_k7 [] (mkF 26 (g.map thingC)) .normal [.s (.bool false)] [] = some (.ok (.s (.bool b)), []) ∧ (b = true → ∀ (j : Nat) t, g[j]? = some t → sndT g j t) := by
  have hg := ok.1
  simp [ref13_Sound_k7]
  obtain ⟨q, hQ, hq⟩ := oLoop_inv' (step := ref13_Sound_l5 (.s (.int .i64 g.length)) (mkF 26 (g.map thingC)) []) (s0 := ([.s (.int .i64 0)], []))
    (fun i s => s = ([.s (.int .i64 i)], []) ∧ ∀ (j : Nat) t, j < i → g[j]? = some t → sndT g j t) (fun q => q = (.ret, [.s (.bool false)], []) ∨ q = (.exit 0, [.any], []) ∧ ∀ (j : Nat) t, g[j]? = some t → sndT g j t) g.length ⟨rfl, fun j t hj => by omega⟩ (by omega)
    (by
      rintro i s hi ⟨rfl, hT⟩
      rcases Sound_step g ok i hi with ⟨h1, h2⟩ | h
      · refine .inl ⟨_, h1, rfl, fun j t hj ht => ?_⟩
        rcases Nat.lt_or_ge j i with h | h
        · exact hT j t h ht
        · obtain rfl : j = i := by omega
          rw [List.getElem?_eq_getElem hi] at ht; cases ht; exact h2
      · exact .inr ⟨_, h, .inl rfl⟩)
    (by
      rintro s ⟨rfl, hT⟩
      exact ⟨(.exit 0, [.any], []), by simp [ref13_Sound_l5, trim, allBelow], .inr ⟨rfl, fun j t ht => hT j t (List.getElem?_eq_some_iff.1 ht).1 ht⟩⟩)
  rw [hq]
  rcases hQ with rfl | ⟨rfl, hT⟩
  · exact .inl (by simp [ref13_Sound_k6, finish_val])
  · exact .inr ⟨by simp [ref13_Sound_k6, finish_val], hT⟩

structure soundG (g : List Thing) : Prop where
  sorted : sortedL (keyL g)
  all : ∀ (j : Nat) t, g[j]? = some t → sndT g j t
  first : ∃ t r, g = t :: r ∧ t.id = 1 ∧ t.kind = 1

/-- Sound graphs. -/
theorem Sound_v' (g : List Thing) (ok : okG g) : ∃ b : Bool, ref13_Sound [mkF 26 (g.map thingC)] [] = some (.ok (.s (.bool b)), []) ∧ (b = true → soundG g) := by
  have hg := ok.1
  obtain ⟨b, hb, hs⟩ := ref13_Graph_v g hg
  have hGr : ∀ (β : Type) (h : Heap) (kp k : A → Heap → Option β), oLend ref13_Graph [mkF 26 (g.map thingC)] h kp k = k (.s (.bool b)) h := fun β h kp k => oLend_val _ _ _ _ _ _ (by simp) (by simp) hb
  have bad : ref13_Sound_k7 [] (mkF 26 (g.map thingC)) .normal [.s (.bool true)] [] = some (.ok (.s (.bool false)), []) := by simp [ref13_Sound_k7, finish_val]
  obtain ⟨bt, hbt, hT⟩ := Sound_tail g ok
  cases b with
  | false => exact ⟨false, by simp [ref13_Sound, hGr, trim, allBelow, bad], by simp⟩
  | true =>
    cases hgl : g with
    | nil => subst hgl; exact ⟨false, by simp at hGr bad; simp [ref13_Sound, hGr, trim, allBelow, bad], by simp⟩
    | cons t r =>
      rw [← hgl]
      have hx : g[0]? = some t := by rw [hgl]; rfl
      have i0 : ∀ (β : Type) (k : A → Option β), oIdxA 26 (mkF 26 (g.map thingC)) (.s (.int .i64 0)) k = k (.cptr (thingC t)) := fun β k => oIdxA_mkF 26 thingC g .i64 0 t k hx
      have hne : ¬ g = [] := by rw [hgl]; simp
      obtain ⟨n, _, hR⟩ := Refs_call g ok 1
      have hR' : ∀ (β : Type) (h : Heap) (kp k : A → Heap → Option β), oLend ref13_Refs [mkF 26 (g.map thingC), .s (.int .u64 1)] h kp k = k (.s (.int .i64 n)) h := fun β h kp k => hR h kp k
      have hlen : ¬ (g.length : Int) = 0 := by rw [hgl]; simp; omega
      by_cases c1 : t.id = 1
      · by_cases c2 : t.kind = 1
        · by_cases c3 : 0 < n
          · exact ⟨false, by simp [ref13_Sound, hGr, i0, hR', hlen, hne, c1, c2, c3, trim, allBelow, bad], by simp⟩
          · refine ⟨bt, ?_, fun h => ⟨hs rfl, hT h, t, r, hgl, c1, c2⟩⟩
            simp [ref13_Sound, hGr, i0, hR', hlen, hne, c1, c2, c3, trim, allBelow, hbt]
        · exact ⟨false, by simp [ref13_Sound, hGr, i0, hR', hlen, hne, c1, c2, trim, allBelow, bad], by simp⟩
      · exact ⟨false, by simp [ref13_Sound, hGr, i0, hR', hlen, hne, c1, trim, allBelow, bad], by simp⟩

/-- Sound graphs: their names rise, and each thing can be. -/
theorem Sound_v (g : List Thing) (ok : okG g) : ∃ b : Bool, ref13_Sound [mkF 26 (g.map thingC)] [] = some (.ok (.s (.bool b)), []) ∧ (b = true → sortedL (keyL g) ∧ ∀ t ∈ g, okT t) := by
  obtain ⟨b, h1, h2⟩ := Sound_v' g ok
  refine ⟨b, h1, fun hb => ⟨(h2 hb).sorted, fun t ht => ?_⟩⟩
  obtain ⟨j, hj, rfl⟩ := List.mem_iff_getElem.1 ht
  exact ((h2 hb).all j _ (List.getElem?_eq_getElem hj)).ok
end Go.Ab.T
