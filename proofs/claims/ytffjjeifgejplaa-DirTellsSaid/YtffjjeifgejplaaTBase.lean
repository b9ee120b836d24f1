/-
  THE PROGRAM'S PLAIN TYPES, AND THEIR CELLS. Written by a program (types.py).
-/
import Derived.Test.YtffjjeifgejplaaAbsSimp
set_option linter.unusedSimpArgs false
set_option linter.unusedVariables false
namespace Go.Ab.T
open Go Go.Ab

/-- One whole number. -/
def cellC (k : IntKind) (n : Int) : List A := [.s (.int k n)]
@[simp] theorem cellC_len (k : IntKind) (n : Int) : (cellC k n).length = 1 := _root_.id rfl
@[simp] theorem cellC_0 (k : IntKind) (n : Int) : (cellC k n)[0]? = some (.s (.int k n)) := _root_.id rfl
@[simp] theorem cellC_g0 (k : IntKind) (n : Int) (h : 0 < (cellC k n).length) : (cellC k n)[0] = .s (.int k n) := _root_.id rfl
@[simp] theorem cellC_ids (k : IntKind) (n : Int) : idsL (cellC k n) = [] := _root_.id rfl
@[simp] theorem cellC_pure (k : IntKind) (n : Int) : pureL (cellC k n) = true := _root_.id rfl

structure Cat where
  id : Int
  level : Int
  deriving DecidableEq
def catC (t : Cat) : List A := [.s (.int .u64 t.id), .s (.int .i64 t.level)]
@[simp] theorem catC_len (t : Cat) : (catC t).length = 2 := _root_.id rfl
@[simp] theorem catC_ne (t : Cat) : (catC t = []) = False := by simp [catC]
@[simp] theorem catC_ids (t : Cat) : idsL (catC t) = [] := _root_.id rfl
@[simp] theorem catC_pure (t : Cat) : pureL (catC t) = true := by simp [catC]
@[simp] theorem catC_0 (t : Cat) : (catC t)[0]? = some (.s (.int .u64 t.id)) := _root_.id rfl
@[simp] theorem catC_1 (t : Cat) : (catC t)[1]? = some (.s (.int .i64 t.level)) := _root_.id rfl
@[simp] theorem catC_at (t : Cat) : cellsAt (some 2) (catC t) 0 = some (.agg (catC t)) := _root_.id rfl
@[simp] theorem catC_g0 (t : Cat) (h : 0 < (catC t).length) : (catC t)[0] = .s (.int .u64 t.id) := _root_.id rfl
@[simp] theorem catC_g1 (t : Cat) (h : 1 < (catC t).length) : (catC t)[1] = .s (.int .i64 t.level) := _root_.id rfl
@[simp] theorem catC_d0 (t : Cat) : ((catC t).drop 0)[0]? = some (.s (.int .u64 t.id)) := _root_.id rfl
@[simp] theorem catC_d1 (t : Cat) : ((catC t).drop 1)[0]? = some (.s (.int .i64 t.level)) := _root_.id rfl

structure Label where
  df : Int
  cats : List Cat
  deriving DecidableEq
def labelC (t : Label) : List A := [.s (.int .i64 t.df), mkF 2 (t.cats.map catC)]
@[simp] theorem labelC_len (t : Label) : (labelC t).length = 2 := _root_.id rfl
@[simp] theorem labelC_ne (t : Label) : (labelC t = []) = False := by simp [labelC]
@[simp] theorem labelC_ids (t : Label) : idsL (labelC t) = [] := _root_.id rfl
@[simp] theorem labelC_pure (t : Label) : pureL (labelC t) = true := by simp [labelC]
@[simp] theorem labelC_0 (t : Label) : (labelC t)[0]? = some (.s (.int .i64 t.df)) := _root_.id rfl
@[simp] theorem labelC_1 (t : Label) : (labelC t)[1]? = some (mkF 2 (t.cats.map catC)) := _root_.id rfl
@[simp] theorem labelC_at (t : Label) : cellsAt (some 2) (labelC t) 0 = some (.agg (labelC t)) := _root_.id rfl
@[simp] theorem labelC_g0 (t : Label) (h : 0 < (labelC t).length) : (labelC t)[0] = .s (.int .i64 t.df) := _root_.id rfl
@[simp] theorem labelC_g1 (t : Label) (h : 1 < (labelC t).length) : (labelC t)[1] = mkF 2 (t.cats.map catC) := _root_.id rfl
@[simp] theorem labelC_d0 (t : Label) : ((labelC t).drop 0)[0]? = some (.s (.int .i64 t.df)) := _root_.id rfl
@[simp] theorem labelC_d1 (t : Label) : ((labelC t).drop 1)[0]? = some (mkF 2 (t.cats.map catC)) := _root_.id rfl

structure Link where
  id : Int
  quota : Int
  deriving DecidableEq
def linkC (t : Link) : List A := [.s (.int .u64 t.id), .s (.int .i64 t.quota)]
@[simp] theorem linkC_len (t : Link) : (linkC t).length = 2 := _root_.id rfl
@[simp] theorem linkC_ne (t : Link) : (linkC t = []) = False := by simp [linkC]
@[simp] theorem linkC_ids (t : Link) : idsL (linkC t) = [] := _root_.id rfl
@[simp] theorem linkC_pure (t : Link) : pureL (linkC t) = true := by simp [linkC]
@[simp] theorem linkC_0 (t : Link) : (linkC t)[0]? = some (.s (.int .u64 t.id)) := _root_.id rfl
@[simp] theorem linkC_1 (t : Link) : (linkC t)[1]? = some (.s (.int .i64 t.quota)) := _root_.id rfl
@[simp] theorem linkC_at (t : Link) : cellsAt (some 2) (linkC t) 0 = some (.agg (linkC t)) := _root_.id rfl
@[simp] theorem linkC_g0 (t : Link) (h : 0 < (linkC t).length) : (linkC t)[0] = .s (.int .u64 t.id) := _root_.id rfl
@[simp] theorem linkC_g1 (t : Link) (h : 1 < (linkC t).length) : (linkC t)[1] = .s (.int .i64 t.quota) := _root_.id rfl
@[simp] theorem linkC_d0 (t : Link) : ((linkC t).drop 0)[0]? = some (.s (.int .u64 t.id)) := _root_.id rfl
@[simp] theorem linkC_d1 (t : Link) : ((linkC t).drop 1)[0]? = some (.s (.int .i64 t.quota)) := _root_.id rfl

structure Slot where
  dir : Int
  seg : Int
  deriving DecidableEq
def slotC (t : Slot) : List A := [.s (.int .u64 t.dir), .s (.int .u64 t.seg)]
@[simp] theorem slotC_len (t : Slot) : (slotC t).length = 2 := _root_.id rfl
@[simp] theorem slotC_ne (t : Slot) : (slotC t = []) = False := by simp [slotC]
@[simp] theorem slotC_ids (t : Slot) : idsL (slotC t) = [] := _root_.id rfl
@[simp] theorem slotC_pure (t : Slot) : pureL (slotC t) = true := by simp [slotC]
@[simp] theorem slotC_0 (t : Slot) : (slotC t)[0]? = some (.s (.int .u64 t.dir)) := _root_.id rfl
@[simp] theorem slotC_1 (t : Slot) : (slotC t)[1]? = some (.s (.int .u64 t.seg)) := _root_.id rfl
@[simp] theorem slotC_at (t : Slot) : cellsAt (some 2) (slotC t) 0 = some (.agg (slotC t)) := _root_.id rfl
@[simp] theorem slotC_g0 (t : Slot) (h : 0 < (slotC t).length) : (slotC t)[0] = .s (.int .u64 t.dir) := _root_.id rfl
@[simp] theorem slotC_g1 (t : Slot) (h : 1 < (slotC t).length) : (slotC t)[1] = .s (.int .u64 t.seg) := _root_.id rfl
@[simp] theorem slotC_d0 (t : Slot) : ((slotC t).drop 0)[0]? = some (.s (.int .u64 t.dir)) := _root_.id rfl
@[simp] theorem slotC_d1 (t : Slot) : ((slotC t).drop 1)[0]? = some (.s (.int .u64 t.seg)) := _root_.id rfl

structure Extent where
  start : Int
  len : Int
  deriving DecidableEq
def extentC (t : Extent) : List A := [.s (.int .i64 t.start), .s (.int .i64 t.len)]
@[simp] theorem extentC_len (t : Extent) : (extentC t).length = 2 := _root_.id rfl
@[simp] theorem extentC_ne (t : Extent) : (extentC t = []) = False := by simp [extentC]
@[simp] theorem extentC_ids (t : Extent) : idsL (extentC t) = [] := _root_.id rfl
@[simp] theorem extentC_pure (t : Extent) : pureL (extentC t) = true := by simp [extentC]
@[simp] theorem extentC_0 (t : Extent) : (extentC t)[0]? = some (.s (.int .i64 t.start)) := _root_.id rfl
@[simp] theorem extentC_1 (t : Extent) : (extentC t)[1]? = some (.s (.int .i64 t.len)) := _root_.id rfl
@[simp] theorem extentC_at (t : Extent) : cellsAt (some 2) (extentC t) 0 = some (.agg (extentC t)) := _root_.id rfl
@[simp] theorem extentC_g0 (t : Extent) (h : 0 < (extentC t).length) : (extentC t)[0] = .s (.int .i64 t.start) := _root_.id rfl
@[simp] theorem extentC_g1 (t : Extent) (h : 1 < (extentC t).length) : (extentC t)[1] = .s (.int .i64 t.len) := _root_.id rfl
@[simp] theorem extentC_d0 (t : Extent) : ((extentC t).drop 0)[0]? = some (.s (.int .i64 t.start)) := _root_.id rfl
@[simp] theorem extentC_d1 (t : Extent) : ((extentC t).drop 1)[0]? = some (.s (.int .i64 t.len)) := _root_.id rfl

structure Thing where
  id : Int
  kind : Int
  label : Label
  clear : Label
  quota : Int
  next : Int
  links : List Link
  data : List Int
  r0 : Int
  r1 : Int
  r2 : Int
  r3 : Int
  minted : Int
  boot : Int
  halted : Bool
  value : Int
  s0 : Slot
  s1 : Slot
  s2 : Slot
  s3 : Slot
  deriving DecidableEq
def thingC (t : Thing) : List A := [.s (.int .u64 t.id), .s (.int .i64 t.kind), .s (.int .i64 t.label.df), mkF 2 (t.label.cats.map catC), .s (.int .i64 t.clear.df), mkF 2 (t.clear.cats.map catC), .s (.int .i64 t.quota), .s (.int .i64 t.next), mkF 2 (t.links.map linkC), mkF 1 (t.data.map (cellC .u8)), .s (.int .u64 t.r0), .s (.int .u64 t.r1), .s (.int .u64 t.r2), .s (.int .u64 t.r3), .s (.int .i64 t.minted), .s (.int .i64 t.boot), .s (.bool t.halted), .s (.int .u64 t.value), .s (.int .u64 t.s0.dir), .s (.int .u64 t.s0.seg), .s (.int .u64 t.s1.dir), .s (.int .u64 t.s1.seg), .s (.int .u64 t.s2.dir), .s (.int .u64 t.s2.seg), .s (.int .u64 t.s3.dir), .s (.int .u64 t.s3.seg)]
@[simp] theorem thingC_len (t : Thing) : (thingC t).length = 26 := _root_.id rfl
@[simp] theorem thingC_ne (t : Thing) : (thingC t = []) = False := by simp [thingC]
@[simp] theorem thingC_ids (t : Thing) : idsL (thingC t) = [] := _root_.id rfl
@[simp] theorem thingC_pure (t : Thing) : pureL (thingC t) = true := by simp [thingC]
@[simp] theorem thingC_0 (t : Thing) : (thingC t)[0]? = some (.s (.int .u64 t.id)) := _root_.id rfl
@[simp] theorem thingC_1 (t : Thing) : (thingC t)[1]? = some (.s (.int .i64 t.kind)) := _root_.id rfl
@[simp] theorem thingC_2 (t : Thing) : (thingC t)[2]? = some (.s (.int .i64 t.label.df)) := _root_.id rfl
@[simp] theorem thingC_3 (t : Thing) : (thingC t)[3]? = some (mkF 2 (t.label.cats.map catC)) := _root_.id rfl
@[simp] theorem thingC_4 (t : Thing) : (thingC t)[4]? = some (.s (.int .i64 t.clear.df)) := _root_.id rfl
@[simp] theorem thingC_5 (t : Thing) : (thingC t)[5]? = some (mkF 2 (t.clear.cats.map catC)) := _root_.id rfl
@[simp] theorem thingC_6 (t : Thing) : (thingC t)[6]? = some (.s (.int .i64 t.quota)) := _root_.id rfl
@[simp] theorem thingC_7 (t : Thing) : (thingC t)[7]? = some (.s (.int .i64 t.next)) := _root_.id rfl
@[simp] theorem thingC_8 (t : Thing) : (thingC t)[8]? = some (mkF 2 (t.links.map linkC)) := _root_.id rfl
@[simp] theorem thingC_9 (t : Thing) : (thingC t)[9]? = some (mkF 1 (t.data.map (cellC .u8))) := _root_.id rfl
@[simp] theorem thingC_10 (t : Thing) : (thingC t)[10]? = some (.s (.int .u64 t.r0)) := _root_.id rfl
@[simp] theorem thingC_11 (t : Thing) : (thingC t)[11]? = some (.s (.int .u64 t.r1)) := _root_.id rfl
@[simp] theorem thingC_12 (t : Thing) : (thingC t)[12]? = some (.s (.int .u64 t.r2)) := _root_.id rfl
@[simp] theorem thingC_13 (t : Thing) : (thingC t)[13]? = some (.s (.int .u64 t.r3)) := _root_.id rfl
@[simp] theorem thingC_14 (t : Thing) : (thingC t)[14]? = some (.s (.int .i64 t.minted)) := _root_.id rfl
@[simp] theorem thingC_15 (t : Thing) : (thingC t)[15]? = some (.s (.int .i64 t.boot)) := _root_.id rfl
@[simp] theorem thingC_16 (t : Thing) : (thingC t)[16]? = some (.s (.bool t.halted)) := _root_.id rfl
@[simp] theorem thingC_17 (t : Thing) : (thingC t)[17]? = some (.s (.int .u64 t.value)) := _root_.id rfl
@[simp] theorem thingC_18 (t : Thing) : (thingC t)[18]? = some (.s (.int .u64 t.s0.dir)) := _root_.id rfl
@[simp] theorem thingC_19 (t : Thing) : (thingC t)[19]? = some (.s (.int .u64 t.s0.seg)) := _root_.id rfl
@[simp] theorem thingC_20 (t : Thing) : (thingC t)[20]? = some (.s (.int .u64 t.s1.dir)) := _root_.id rfl
@[simp] theorem thingC_21 (t : Thing) : (thingC t)[21]? = some (.s (.int .u64 t.s1.seg)) := _root_.id rfl
@[simp] theorem thingC_22 (t : Thing) : (thingC t)[22]? = some (.s (.int .u64 t.s2.dir)) := _root_.id rfl
@[simp] theorem thingC_23 (t : Thing) : (thingC t)[23]? = some (.s (.int .u64 t.s2.seg)) := _root_.id rfl
@[simp] theorem thingC_24 (t : Thing) : (thingC t)[24]? = some (.s (.int .u64 t.s3.dir)) := _root_.id rfl
@[simp] theorem thingC_25 (t : Thing) : (thingC t)[25]? = some (.s (.int .u64 t.s3.seg)) := _root_.id rfl
@[simp] theorem thingC_at (t : Thing) : cellsAt (some 26) (thingC t) 0 = some (.agg (thingC t)) := _root_.id rfl
@[simp] theorem thingC_label (t : Thing) : cellsAt (some 2) (thingC t) 2 = some (.agg (labelC t.label)) := _root_.id rfl
@[simp] theorem thingC_label_d (t : Thing) : cellsAt (some 2) ((thingC t).drop 2) 0 = some (.agg (labelC t.label)) := _root_.id rfl
@[simp] theorem thingC_clear (t : Thing) : cellsAt (some 2) (thingC t) 4 = some (.agg (labelC t.clear)) := _root_.id rfl
@[simp] theorem thingC_clear_d (t : Thing) : cellsAt (some 2) ((thingC t).drop 4) 0 = some (.agg (labelC t.clear)) := _root_.id rfl
@[simp] theorem thingC_s0 (t : Thing) : cellsAt (some 2) (thingC t) 18 = some (.agg (slotC t.s0)) := _root_.id rfl
@[simp] theorem thingC_s0_d (t : Thing) : cellsAt (some 2) ((thingC t).drop 18) 0 = some (.agg (slotC t.s0)) := _root_.id rfl
@[simp] theorem thingC_s1 (t : Thing) : cellsAt (some 2) (thingC t) 20 = some (.agg (slotC t.s1)) := _root_.id rfl
@[simp] theorem thingC_s1_d (t : Thing) : cellsAt (some 2) ((thingC t).drop 20) 0 = some (.agg (slotC t.s1)) := _root_.id rfl
@[simp] theorem thingC_s2 (t : Thing) : cellsAt (some 2) (thingC t) 22 = some (.agg (slotC t.s2)) := _root_.id rfl
@[simp] theorem thingC_s2_d (t : Thing) : cellsAt (some 2) ((thingC t).drop 22) 0 = some (.agg (slotC t.s2)) := _root_.id rfl
@[simp] theorem thingC_s3 (t : Thing) : cellsAt (some 2) (thingC t) 24 = some (.agg (slotC t.s3)) := _root_.id rfl
@[simp] theorem thingC_s3_d (t : Thing) : cellsAt (some 2) ((thingC t).drop 24) 0 = some (.agg (slotC t.s3)) := _root_.id rfl
def thingC_regsC (t : Thing) : List A := [.s (.int .u64 t.r0), .s (.int .u64 t.r1), .s (.int .u64 t.r2), .s (.int .u64 t.r3)]
@[simp] theorem thingC_regs (t : Thing) : cellsAt (some 4) (thingC t) 10 = some (.agg (thingC_regsC t)) := _root_.id rfl
def thingC_slotsC (t : Thing) : List A := slotC t.s0 ++ slotC t.s1 ++ slotC t.s2 ++ slotC t.s3
@[simp] theorem thingC_slots (t : Thing) : cellsAt (some 8) (thingC t) 18 = some (.agg (thingC_slotsC t)) := _root_.id rfl
@[simp] theorem thingC_g0 (t : Thing) (h : 0 < (thingC t).length) : (thingC t)[0] = .s (.int .u64 t.id) := _root_.id rfl
@[simp] theorem thingC_g1 (t : Thing) (h : 1 < (thingC t).length) : (thingC t)[1] = .s (.int .i64 t.kind) := _root_.id rfl
@[simp] theorem thingC_g2 (t : Thing) (h : 2 < (thingC t).length) : (thingC t)[2] = .s (.int .i64 t.label.df) := _root_.id rfl
@[simp] theorem thingC_g3 (t : Thing) (h : 3 < (thingC t).length) : (thingC t)[3] = mkF 2 (t.label.cats.map catC) := _root_.id rfl
@[simp] theorem thingC_g4 (t : Thing) (h : 4 < (thingC t).length) : (thingC t)[4] = .s (.int .i64 t.clear.df) := _root_.id rfl
@[simp] theorem thingC_g5 (t : Thing) (h : 5 < (thingC t).length) : (thingC t)[5] = mkF 2 (t.clear.cats.map catC) := _root_.id rfl
@[simp] theorem thingC_g6 (t : Thing) (h : 6 < (thingC t).length) : (thingC t)[6] = .s (.int .i64 t.quota) := _root_.id rfl
@[simp] theorem thingC_g7 (t : Thing) (h : 7 < (thingC t).length) : (thingC t)[7] = .s (.int .i64 t.next) := _root_.id rfl
@[simp] theorem thingC_g8 (t : Thing) (h : 8 < (thingC t).length) : (thingC t)[8] = mkF 2 (t.links.map linkC) := _root_.id rfl
@[simp] theorem thingC_g9 (t : Thing) (h : 9 < (thingC t).length) : (thingC t)[9] = mkF 1 (t.data.map (cellC .u8)) := _root_.id rfl
@[simp] theorem thingC_g10 (t : Thing) (h : 10 < (thingC t).length) : (thingC t)[10] = .s (.int .u64 t.r0) := _root_.id rfl
@[simp] theorem thingC_g11 (t : Thing) (h : 11 < (thingC t).length) : (thingC t)[11] = .s (.int .u64 t.r1) := _root_.id rfl
@[simp] theorem thingC_g12 (t : Thing) (h : 12 < (thingC t).length) : (thingC t)[12] = .s (.int .u64 t.r2) := _root_.id rfl
@[simp] theorem thingC_g13 (t : Thing) (h : 13 < (thingC t).length) : (thingC t)[13] = .s (.int .u64 t.r3) := _root_.id rfl
@[simp] theorem thingC_g14 (t : Thing) (h : 14 < (thingC t).length) : (thingC t)[14] = .s (.int .i64 t.minted) := _root_.id rfl
@[simp] theorem thingC_g15 (t : Thing) (h : 15 < (thingC t).length) : (thingC t)[15] = .s (.int .i64 t.boot) := _root_.id rfl
@[simp] theorem thingC_g16 (t : Thing) (h : 16 < (thingC t).length) : (thingC t)[16] = .s (.bool t.halted) := _root_.id rfl
@[simp] theorem thingC_g17 (t : Thing) (h : 17 < (thingC t).length) : (thingC t)[17] = .s (.int .u64 t.value) := _root_.id rfl
@[simp] theorem thingC_g18 (t : Thing) (h : 18 < (thingC t).length) : (thingC t)[18] = .s (.int .u64 t.s0.dir) := _root_.id rfl
@[simp] theorem thingC_g19 (t : Thing) (h : 19 < (thingC t).length) : (thingC t)[19] = .s (.int .u64 t.s0.seg) := _root_.id rfl
@[simp] theorem thingC_g20 (t : Thing) (h : 20 < (thingC t).length) : (thingC t)[20] = .s (.int .u64 t.s1.dir) := _root_.id rfl
@[simp] theorem thingC_g21 (t : Thing) (h : 21 < (thingC t).length) : (thingC t)[21] = .s (.int .u64 t.s1.seg) := _root_.id rfl
@[simp] theorem thingC_g22 (t : Thing) (h : 22 < (thingC t).length) : (thingC t)[22] = .s (.int .u64 t.s2.dir) := _root_.id rfl
@[simp] theorem thingC_g23 (t : Thing) (h : 23 < (thingC t).length) : (thingC t)[23] = .s (.int .u64 t.s2.seg) := _root_.id rfl
@[simp] theorem thingC_g24 (t : Thing) (h : 24 < (thingC t).length) : (thingC t)[24] = .s (.int .u64 t.s3.dir) := _root_.id rfl
@[simp] theorem thingC_g25 (t : Thing) (h : 25 < (thingC t).length) : (thingC t)[25] = .s (.int .u64 t.s3.seg) := _root_.id rfl
@[simp] theorem thingC_d0 (t : Thing) : ((thingC t).drop 0)[0]? = some (.s (.int .u64 t.id)) := _root_.id rfl
@[simp] theorem thingC_d1 (t : Thing) : ((thingC t).drop 1)[0]? = some (.s (.int .i64 t.kind)) := _root_.id rfl
@[simp] theorem thingC_d2 (t : Thing) : ((thingC t).drop 2)[0]? = some (.s (.int .i64 t.label.df)) := _root_.id rfl
@[simp] theorem thingC_d3 (t : Thing) : ((thingC t).drop 3)[0]? = some (mkF 2 (t.label.cats.map catC)) := _root_.id rfl
@[simp] theorem thingC_d4 (t : Thing) : ((thingC t).drop 4)[0]? = some (.s (.int .i64 t.clear.df)) := _root_.id rfl
@[simp] theorem thingC_d5 (t : Thing) : ((thingC t).drop 5)[0]? = some (mkF 2 (t.clear.cats.map catC)) := _root_.id rfl
@[simp] theorem thingC_d6 (t : Thing) : ((thingC t).drop 6)[0]? = some (.s (.int .i64 t.quota)) := _root_.id rfl
@[simp] theorem thingC_d7 (t : Thing) : ((thingC t).drop 7)[0]? = some (.s (.int .i64 t.next)) := _root_.id rfl
@[simp] theorem thingC_d8 (t : Thing) : ((thingC t).drop 8)[0]? = some (mkF 2 (t.links.map linkC)) := _root_.id rfl
@[simp] theorem thingC_d9 (t : Thing) : ((thingC t).drop 9)[0]? = some (mkF 1 (t.data.map (cellC .u8))) := _root_.id rfl
@[simp] theorem thingC_d10 (t : Thing) : ((thingC t).drop 10)[0]? = some (.s (.int .u64 t.r0)) := _root_.id rfl
@[simp] theorem thingC_d11 (t : Thing) : ((thingC t).drop 11)[0]? = some (.s (.int .u64 t.r1)) := _root_.id rfl
@[simp] theorem thingC_d12 (t : Thing) : ((thingC t).drop 12)[0]? = some (.s (.int .u64 t.r2)) := _root_.id rfl
@[simp] theorem thingC_d13 (t : Thing) : ((thingC t).drop 13)[0]? = some (.s (.int .u64 t.r3)) := _root_.id rfl
@[simp] theorem thingC_d14 (t : Thing) : ((thingC t).drop 14)[0]? = some (.s (.int .i64 t.minted)) := _root_.id rfl
@[simp] theorem thingC_d15 (t : Thing) : ((thingC t).drop 15)[0]? = some (.s (.int .i64 t.boot)) := _root_.id rfl
@[simp] theorem thingC_d16 (t : Thing) : ((thingC t).drop 16)[0]? = some (.s (.bool t.halted)) := _root_.id rfl
@[simp] theorem thingC_d17 (t : Thing) : ((thingC t).drop 17)[0]? = some (.s (.int .u64 t.value)) := _root_.id rfl
@[simp] theorem thingC_d18 (t : Thing) : ((thingC t).drop 18)[0]? = some (.s (.int .u64 t.s0.dir)) := _root_.id rfl
@[simp] theorem thingC_d19 (t : Thing) : ((thingC t).drop 19)[0]? = some (.s (.int .u64 t.s0.seg)) := _root_.id rfl
@[simp] theorem thingC_d20 (t : Thing) : ((thingC t).drop 20)[0]? = some (.s (.int .u64 t.s1.dir)) := _root_.id rfl
@[simp] theorem thingC_d21 (t : Thing) : ((thingC t).drop 21)[0]? = some (.s (.int .u64 t.s1.seg)) := _root_.id rfl
@[simp] theorem thingC_d22 (t : Thing) : ((thingC t).drop 22)[0]? = some (.s (.int .u64 t.s2.dir)) := _root_.id rfl
@[simp] theorem thingC_d23 (t : Thing) : ((thingC t).drop 23)[0]? = some (.s (.int .u64 t.s2.seg)) := _root_.id rfl
@[simp] theorem thingC_d24 (t : Thing) : ((thingC t).drop 24)[0]? = some (.s (.int .u64 t.s3.dir)) := _root_.id rfl
@[simp] theorem thingC_d25 (t : Thing) : ((thingC t).drop 25)[0]? = some (.s (.int .u64 t.s3.seg)) := _root_.id rfl

end Go.Ab.T
