import Derived.Test.YtbaknldomnoeiaaRAbsSimp
/-
  THE PROGRAM'S PLAIN TYPES, AND THEIR CELLS. Written by a program (types.py).
-/
set_option linter.unusedSimpArgs false
set_option linter.unusedVariables false
namespace Go.Ab.T
open Go Go.Ab

/-- One whole number. -/
def cellC (k : IntKind) (n : Int) : List A := [.s (.int k n)]
@[simp] theorem cellC_len (k : IntKind) (n : Int) : (cellC k n).length = 1 := _root_.id rfl
@[simp] theorem cellC_0 (k : IntKind) (n : Int) : (cellC k n)[0]? = some (.s (.int k n)) := _root_.id rfl
@[simp] theorem cellC_g0 (k : IntKind) (n : Int) (h : 0 < (cellC k n).length) : (cellC k n)[0] = .s (.int k n) := _root_.id rfl
@[simp] theorem cellC_ids (k : IntKind) (n : Int) : idsL (cellC k n) = [] := _root_.id rfl
@[simp] theorem cellC_pure (k : IntKind) (n : Int) : pureL (cellC k n) = true := _root_.id rfl

structure Cat where
  id : Int
  level : Int
  deriving DecidableEq
def catC (t : Cat) : List A := [.s (.int .u64 t.id), .s (.int .i64 t.level)]
@[simp] theorem catC_len (t : Cat) : (catC t).length = 2 := _root_.id rfl
@[simp] theorem catC_ne (t : Cat) : (catC t = []) = False := by simp [catC]
@[simp] theorem catC_ids (t : Cat) : idsL (catC t) = [] := _root_.id rfl
@[simp] theorem catC_pure (t : Cat) : pureL (catC t) = true := by simp [catC]
@[simp] theorem catC_0 (t : Cat) : (catC t)[0]? = some (.s (.int .u64 t.id)) := _root_.id rfl
@[simp] theorem catC_1 (t : Cat) : (catC t)[1]? = some (.s (.int .i64 t.level)) := _root_.id rfl
@[simp] theorem catC_at (t : Cat) : cellsAt (some 2) (catC t) 0 = some (.agg (catC t)) := _root_.id rfl
@[simp] theorem catC_g0 (t : Cat) (h : 0 < (catC t).length) : (catC t)[0] = .s (.int .u64 t.id) := _root_.id rfl
@[simp] theorem catC_g1 (t : Cat) (h : 1 < (catC t).length) : (catC t)[1] = .s (.int .i64 t.level) := _root_.id rfl
@[simp] theorem catC_d0 (t : Cat) : ((catC t).drop 0)[0]? = some (.s (.int .u64 t.id)) := _root_.id rfl
@[simp] theorem catC_d1 (t : Cat) : ((catC t).drop 1)[0]? = some (.s (.int .i64 t.level)) := _root_.id rfl

structure Label where
  df : Int
  cats : List Cat
  deriving DecidableEq
def labelC (t : Label) : List A := [.s (.int .i64 t.df), mkF 2 (t.cats.map catC)]
@[simp] theorem labelC_len (t : Label) : (labelC t).length = 2 := _root_.id rfl
@[simp] theorem labelC_ne (t : Label) : (labelC t = []) = False := by simp [labelC]
@[simp] theorem labelC_ids (t : Label) : idsL (labelC t) = [] := _root_.id rfl
@[simp] theorem labelC_pure (t : Label) : pureL (labelC t) = true := by simp [labelC]
@[simp] theorem labelC_0 (t : Label) : (labelC t)[0]? = some (.s (.int .i64 t.df)) := _root_.id rfl
@[simp] theorem labelC_1 (t : Label) : (labelC t)[1]? = some (mkF 2 (t.cats.map catC)) := _root_.id rfl
@[simp] theorem labelC_at (t : Label) : cellsAt (some 2) (labelC t) 0 = some (.agg (labelC t)) := _root_.id rfl
@[simp] theorem labelC_g0 (t : Label) (h : 0 < (labelC t).length) : (labelC t)[0] = .s (.int .i64 t.df) := _root_.id rfl
@[simp] theorem labelC_g1 (t : Label) (h : 1 < (labelC t).length) : (labelC t)[1] = mkF 2 (t.cats.map catC) := _root_.id rfl
@[simp] theorem labelC_d0 (t : Label) : ((labelC t).drop 0)[0]? = some (.s (.int .i64 t.df)) := _root_.id rfl
@[simp] theorem labelC_d1 (t : Label) : ((labelC t).drop 1)[0]? = some (mkF 2 (t.cats.map catC)) := _root_.id rfl

structure Link where
  id : Int
  quota : Int
  deriving DecidableEq
def linkC (t : Link) : List A := [.s (.int .u64 t.id), .s (.int .i64 t.quota)]
@[simp] theorem linkC_len (t : Link) : (linkC t).length = 2 := _root_.id rfl
@[simp] theorem linkC_ne (t : Link) : (linkC t = []) = False := by simp [linkC]
@[simp] theorem linkC_ids (t : Link) : idsL (linkC t) = [] := _root_.id rfl
@[simp] theorem linkC_pure (t : Link) : pureL (linkC t) = true := by simp [linkC]
@[simp] theorem linkC_0 (t : Link) : (linkC t)[0]? = some (.s (.int .u64 t.id)) := _root_.id rfl
@[simp] theorem linkC_1 (t : Link) : (linkC t)[1]? = some (.s (.int .i64 t.quota)) := _root_.id rfl
@[simp] theorem linkC_at (t : Link) : cellsAt (some 2) (linkC t) 0 = some (.agg (linkC t)) := _root_.id rfl
@[simp] theorem linkC_g0 (t : Link) (h : 0 < (linkC t).length) : (linkC t)[0] = .s (.int .u64 t.id) := _root_.id rfl
@[simp] theorem linkC_g1 (t : Link) (h : 1 < (linkC t).length) : (linkC t)[1] = .s (.int .i64 t.quota) := _root_.id rfl
@[simp] theorem linkC_d0 (t : Link) : ((linkC t).drop 0)[0]? = some (.s (.int .u64 t.id)) := _root_.id rfl
@[simp] theorem linkC_d1 (t : Link) : ((linkC t).drop 1)[0]? = some (.s (.int .i64 t.quota)) := _root_.id rfl

structure Slot where
  dir : Int
  seg : Int
  deriving DecidableEq
def slotC (t : Slot) : List A := [.s (.int .u64 t.dir), .s (.int .u64 t.seg)]
@[simp] theorem slotC_len (t : Slot) : (slotC t).length = 2 := _root_.id rfl
@[simp] theorem slotC_ne (t : Slot) : (slotC t = []) = False := by simp [slotC]
@[simp] theorem slotC_ids (t : Slot) : idsL (slotC t) = [] := _root_.id rfl
@[simp] theorem slotC_pure (t : Slot) : pureL (slotC t) = true := by simp [slotC]
@[simp] theorem slotC_0 (t : Slot) : (slotC t)[0]? = some (.s (.int .u64 t.dir)) := _root_.id rfl
@[simp] theorem slotC_1 (t : Slot) : (slotC t)[1]? = some (.s (.int .u64 t.seg)) := _root_.id rfl
@[simp] theorem slotC_at (t : Slot) : cellsAt (some 2) (slotC t) 0 = some (.agg (slotC t)) := _root_.id rfl
@[simp] theorem slotC_g0 (t : Slot) (h : 0 < (slotC t).length) : (slotC t)[0] = .s (.int .u64 t.dir) := _root_.id rfl
@[simp] theorem slotC_g1 (t : Slot) (h : 1 < (slotC t).length) : (slotC t)[1] = .s (.int .u64 t.seg) := _root_.id rfl
@[simp] theorem slotC_d0 (t : Slot) : ((slotC t).drop 0)[0]? = some (.s (.int .u64 t.dir)) := _root_.id rfl
@[simp] theorem slotC_d1 (t : Slot) : ((slotC t).drop 1)[0]? = some (.s (.int .u64 t.seg)) := _root_.id rfl

structure Extent where
  start : Int
  len : Int
  deriving DecidableEq
def extentC (t : Extent) : List A := [.s (.int .i64 t.start), .s (.int .i64 t.len)]
@[simp] theorem extentC_len (t : Extent) : (extentC t).length = 2 := _root_.id rfl
@[simp] theorem extentC_ne (t : Extent) : (extentC t = []) = False := by simp [extentC]
@[simp] theorem extentC_ids (t : Extent) : idsL (extentC t) = [] := _root_.id rfl
@[simp] theorem extentC_pure (t : Extent) : pureL (extentC t) = true := by simp [extentC]
@[simp] theorem extentC_0 (t : Extent) : (extentC t)[0]? = some (.s (.int .i64 t.start)) := _root_.id rfl
@[simp] theorem extentC_1 (t : Extent) : (extentC t)[1]? = some (.s (.int .i64 t.len)) := _root_.id rfl
@[simp] theorem extentC_at (t : Extent) : cellsAt (some 2) (extentC t) 0 = some (.agg (extentC t)) := _root_.id rfl
@[simp] theorem extentC_g0 (t : Extent) (h : 0 < (extentC t).length) : (extentC t)[0] = .s (.int .i64 t.start) := _root_.id rfl
@[simp] theorem extentC_g1 (t : Extent) (h : 1 < (extentC t).length) : (extentC t)[1] = .s (.int .i64 t.len) := _root_.id rfl
@[simp] theorem extentC_d0 (t : Extent) : ((extentC t).drop 0)[0]? = some (.s (.int .i64 t.start)) := _root_.id rfl
@[simp] theorem extentC_d1 (t : Extent) : ((extentC t).drop 1)[0]? = some (.s (.int .i64 t.len)) := _root_.id rfl

structure Thing where
  id : Int
  kind : Int
  label : Label
  clear : Label
  quota : Int
  next : Int
  links : List Link
  data : List Int
  r0 : Int
  r1 : Int
  r2 : Int
  r3 : Int
  minted : Int
  boot : Int
  halted : Bool
  value : Int
  s0 : Slot
  s1 : Slot
  s2 : Slot
  s3 : Slot
  deriving DecidableEq
def thingC (t : Thing) : List A := [.s (.int .u64 t.id), .s (.int .i64 t.kind), .s (.int .i64 t.label.df), mkF 2 (t.label.cats.map catC), .s (.int .i64 t.clear.df), mkF 2 (t.clear.cats.map catC), .s (.int .i64 t.quota), .s (.int .i64 t.next), mkF 2 (t.links.map linkC), mkF 1 (t.data.map (cellC .u8)), .s (.int .u64 t.r0), .s (.int .u64 t.r1), .s (.int .u64 t.r2), .s (.int .u64 t.r3), .s (.int .i64 t.minted), .s (.int .i64 t.boot), .s (.bool t.halted), .s (.int .u64 t.value), .s (.int .u64 t.s0.dir), .s (.int .u64 t.s0.seg), .s (.int .u64 t.s1.dir), .s (.int .u64 t.s1.seg), .s (.int .u64 t.s2.dir), .s (.int .u64 t.s2.seg), .s (.int .u64 t.s3.dir), .s (.int .u64 t.s3.seg)]
@[simp] theorem thingC_len (t : Thing) : (thingC t).length = 26 := _root_.id rfl
@[simp] theorem thingC_ne (t : Thing) : (thingC t = []) = False := by simp [thingC]
@[simp] theorem thingC_ids (t : Thing) : idsL (thingC t) = [] := _root_.id rfl
@[simp] theorem thingC_pure (t : Thing) : pureL (thingC t) = true := by simp [thingC]
@[simp] theorem thingC_0 (t : Thing) : (thingC t)[0]? = some (.s (.int .u64 t.id)) := _root_.id rfl
@[simp] theorem thingC_1 (t : Thing) : (thingC t)[1]? = some (.s (.int .i64 t.kind)) := _root_.id rfl
@[simp] theorem thingC_2 (t : Thing) : (thingC t)[2]? = some (.s (.int .i64 t.label.df)) := _root_.id rfl
@[simp] theorem thingC_3 (t : Thing) : (thingC t)[3]? = some (mkF 2 (t.label.cats.map catC)) := _root_.id rfl
@[simp] theorem thingC_4 (t : Thing) : (thingC t)[4]? = some (.s (.int .i64 t.clear.df)) := _root_.id rfl
@[simp] theorem thingC_5 (t : Thing) : (thingC t)[5]? = some (mkF 2 (t.clear.cats.map catC)) := _root_.id rfl
@[simp] theorem thingC_6 (t : Thing) : (thingC t)[6]? = some (.s (.int .i64 t.quota)) := _root_.id rfl
@[simp] theorem thingC_7 (t : Thing) : (thingC t)[7]? = some (.s (.int .i64 t.next)) := _root_.id rfl
@[simp] theorem thingC_8 (t : Thing) : (thingC t)[8]? = some (mkF 2 (t.links.map linkC)) := _root_.id rfl
@[simp] theorem thingC_9 (t : Thing) : (thingC t)[9]? = some (mkF 1 (t.data.map (cellC .u8))) := _root_.id rfl
@[simp] theorem thingC_10 (t : Thing) : (thingC t)[10]? = some (.s (.int .u64 t.r0)) := _root_.id rfl
@[simp] theorem thingC_11 (t : Thing) : (thingC t)[11]? = some (.s (.int .u64 t.r1)) := _root_.id rfl
@[simp] theorem thingC_12 (t : Thing) : (thingC t)[12]? = some (.s (.int .u64 t.r2)) := _root_.id rfl
@[simp] theorem thingC_13 (t : Thing) : (thingC t)[13]? = some (.s (.int .u64 t.r3)) := _root_.id rfl
@[simp] theorem thingC_14 (t : Thing) : (thingC t)[14]? = some (.s (.int .i64 t.minted)) := _root_.id rfl
@[simp] theorem thingC_15 (t : Thing) : (thingC t)[15]? = some (.s (.int .i64 t.boot)) := _root_.id rfl
@[simp] theorem thingC_16 (t : Thing) : (thingC t)[16]? = some (.s (.bool t.halted)) := _root_.id rfl
@[simp] theorem thingC_17 (t : Thing) : (thingC t)[17]? = some (.s (.int .u64 t.value)) := _root_.id rfl
@[simp] theorem thingC_18 (t : Thing) : (thingC t)[18]? = some (.s (.int .u64 t.s0.dir)) := _root_.id rfl
@[simp] theorem thingC_19 (t : Thing) : (thingC t)[19]? = some (.s (.int .u64 t.s0.seg)) := _root_.id rfl
@[simp] theorem thingC_20 (t : Thing) : (thingC t)[20]? = some (.s (.int .u64 t.s1.dir)) := _root_.id rfl
@[simp] theorem thingC_21 (t : Thing) : (thingC t)[21]? = some (.s (.int .u64 t.s1.seg)) := _root_.id rfl
@[simp] theorem thingC_22 (t : Thing) : (thingC t)[22]? = some (.s (.int .u64 t.s2.dir)) := _root_.id rfl
@[simp] theorem thingC_23 (t : Thing) : (thingC t)[23]? = some (.s (.int .u64 t.s2.seg)) := _root_.id rfl
@[simp] theorem thingC_24 (t : Thing) : (thingC t)[24]? = some (.s (.int .u64 t.s3.dir)) := _root_.id rfl
@[simp] theorem thingC_25 (t : Thing) : (thingC t)[25]? = some (.s (.int .u64 t.s3.seg)) := _root_.id rfl
@[simp] theorem thingC_at (t : Thing) : cellsAt (some 26) (thingC t) 0 = some (.agg (thingC t)) := _root_.id rfl
@[simp] theorem thingC_label (t : Thing) : cellsAt (some 2) (thingC t) 2 = some (.agg (labelC t.label)) := _root_.id rfl
@[simp] theorem thingC_label_d (t : Thing) : cellsAt (some 2) ((thingC t).drop 2) 0 = some (.agg (labelC t.label)) := _root_.id rfl
@[simp] theorem thingC_clear (t : Thing) : cellsAt (some 2) (thingC t) 4 = some (.agg (labelC t.clear)) := _root_.id rfl
@[simp] theorem thingC_clear_d (t : Thing) : cellsAt (some 2) ((thingC t).drop 4) 0 = some (.agg (labelC t.clear)) := _root_.id rfl
@[simp] theorem thingC_s0 (t : Thing) : cellsAt (some 2) (thingC t) 18 = some (.agg (slotC t.s0)) := _root_.id rfl
@[simp] theorem thingC_s0_d (t : Thing) : cellsAt (some 2) ((thingC t).drop 18) 0 = some (.agg (slotC t.s0)) := _root_.id rfl
@[simp] theorem thingC_s1 (t : Thing) : cellsAt (some 2) (thingC t) 20 = some (.agg (slotC t.s1)) := _root_.id rfl
@[simp] theorem thingC_s1_d (t : Thing) : cellsAt (some 2) ((thingC t).drop 20) 0 = some (.agg (slotC t.s1)) := _root_.id rfl
@[simp] theorem thingC_s2 (t : Thing) : cellsAt (some 2) (thingC t) 22 = some (.agg (slotC t.s2)) := _root_.id rfl
@[simp] theorem thingC_s2_d (t : Thing) : cellsAt (some 2) ((thingC t).drop 22) 0 = some (.agg (slotC t.s2)) := _root_.id rfl
@[simp] theorem thingC_s3 (t : Thing) : cellsAt (some 2) (thingC t) 24 = some (.agg (slotC t.s3)) := _root_.id rfl
@[simp] theorem thingC_s3_d (t : Thing) : cellsAt (some 2) ((thingC t).drop 24) 0 = some (.agg (slotC t.s3)) := _root_.id rfl
def thingC_regsC (t : Thing) : List A := [.s (.int .u64 t.r0), .s (.int .u64 t.r1), .s (.int .u64 t.r2), .s (.int .u64 t.r3)]
@[simp] theorem thingC_regs (t : Thing) : cellsAt (some 4) (thingC t) 10 = some (.agg (thingC_regsC t)) := _root_.id rfl
def thingC_slotsC (t : Thing) : List A := slotC t.s0 ++ slotC t.s1 ++ slotC t.s2 ++ slotC t.s3
@[simp] theorem thingC_slots (t : Thing) : cellsAt (some 8) (thingC t) 18 = some (.agg (thingC_slotsC t)) := _root_.id rfl
@[simp] theorem thingC_g0 (t : Thing) (h : 0 < (thingC t).length) : (thingC t)[0] = .s (.int .u64 t.id) := _root_.id rfl
@[simp] theorem thingC_g1 (t : Thing) (h : 1 < (thingC t).length) : (thingC t)[1] = .s (.int .i64 t.kind) := _root_.id rfl
@[simp] theorem thingC_g2 (t : Thing) (h : 2 < (thingC t).length) : (thingC t)[2] = .s (.int .i64 t.label.df) := _root_.id rfl
@[simp] theorem thingC_g3 (t : Thing) (h : 3 < (thingC t).length) : (thingC t)[3] = mkF 2 (t.label.cats.map catC) := _root_.id rfl
@[simp] theorem thingC_g4 (t : Thing) (h : 4 < (thingC t).length) : (thingC t)[4] = .s (.int .i64 t.clear.df) := _root_.id rfl
@[simp] theorem thingC_g5 (t : Thing) (h : 5 < (thingC t).length) : (thingC t)[5] = mkF 2 (t.clear.cats.map catC) := _root_.id rfl
@[simp] theorem thingC_g6 (t : Thing) (h : 6 < (thingC t).length) : (thingC t)[6] = .s (.int .i64 t.quota) := _root_.id rfl
@[simp] theorem thingC_g7 (t : Thing) (h : 7 < (thingC t).length) : (thingC t)[7] = .s (.int .i64 t.next) := _root_.id rfl
@[simp] theorem thingC_g8 (t : Thing) (h : 8 < (thingC t).length) : (thingC t)[8] = mkF 2 (t.links.map linkC) := _root_.id rfl
@[simp] theorem thingC_g9 (t : Thing) (h : 9 < (thingC t).length) : (thingC t)[9] = mkF 1 (t.data.map (cellC .u8)) := _root_.id rfl
@[simp] theorem thingC_g10 (t : Thing) (h : 10 < (thingC t).length) : (thingC t)[10] = .s (.int .u64 t.r0) := _root_.id rfl
@[simp] theorem thingC_g11 (t : Thing) (h : 11 < (thingC t).length) : (thingC t)[11] = .s (.int .u64 t.r1) := _root_.id rfl
@[simp] theorem thingC_g12 (t : Thing) (h : 12 < (thingC t).length) : (thingC t)[12] = .s (.int .u64 t.r2) := _root_.id rfl
@[simp] theorem thingC_g13 (t : Thing) (h : 13 < (thingC t).length) : (thingC t)[13] = .s (.int .u64 t.r3) := _root_.id rfl
@[simp] theorem thingC_g14 (t : Thing) (h : 14 < (thingC t).length) : (thingC t)[14] = .s (.int .i64 t.minted) := _root_.id rfl
@[simp] theorem thingC_g15 (t : Thing) (h : 15 < (thingC t).length) : (thingC t)[15] = .s (.int .i64 t.boot) := _root_.id rfl
@[simp] theorem thingC_g16 (t : Thing) (h : 16 < (thingC t).length) : (thingC t)[16] = .s (.bool t.halted) := _root_.id rfl
@[simp] theorem thingC_g17 (t : Thing) (h : 17 < (thingC t).length) : (thingC t)[17] = .s (.int .u64 t.value) := _root_.id rfl
@[simp] theorem thingC_g18 (t : Thing) (h : 18 < (thingC t).length) : (thingC t)[18] = .s (.int .u64 t.s0.dir) := _root_.id rfl
@[simp] theorem thingC_g19 (t : Thing) (h : 19 < (thingC t).length) : (thingC t)[19] = .s (.int .u64 t.s0.seg) := _root_.id rfl
@[simp] theorem thingC_g20 (t : Thing) (h : 20 < (thingC t).length) : (thingC t)[20] = .s (.int .u64 t.s1.dir) := _root_.id rfl
@[simp] theorem thingC_g21 (t : Thing) (h : 21 < (thingC t).length) : (thingC t)[21] = .s (.int .u64 t.s1.seg) := _root_.id rfl
@[simp] theorem thingC_g22 (t : Thing) (h : 22 < (thingC t).length) : (thingC t)[22] = .s (.int .u64 t.s2.dir) := _root_.id rfl
@[simp] theorem thingC_g23 (t : Thing) (h : 23 < (thingC t).length) : (thingC t)[23] = .s (.int .u64 t.s2.seg) := _root_.id rfl
@[simp] theorem thingC_g24 (t : Thing) (h : 24 < (thingC t).length) : (thingC t)[24] = .s (.int .u64 t.s3.dir) := _root_.id rfl
@[simp] theorem thingC_g25 (t : Thing) (h : 25 < (thingC t).length) : (thingC t)[25] = .s (.int .u64 t.s3.seg) := _root_.id rfl
@[simp] theorem thingC_d0 (t : Thing) : ((thingC t).drop 0)[0]? = some (.s (.int .u64 t.id)) := _root_.id rfl
@[simp] theorem thingC_d1 (t : Thing) : ((thingC t).drop 1)[0]? = some (.s (.int .i64 t.kind)) := _root_.id rfl
@[simp] theorem thingC_d2 (t : Thing) : ((thingC t).drop 2)[0]? = some (.s (.int .i64 t.label.df)) := _root_.id rfl
@[simp] theorem thingC_d3 (t : Thing) : ((thingC t).drop 3)[0]? = some (mkF 2 (t.label.cats.map catC)) := _root_.id rfl
@[simp] theorem thingC_d4 (t : Thing) : ((thingC t).drop 4)[0]? = some (.s (.int .i64 t.clear.df)) := _root_.id rfl
@[simp] theorem thingC_d5 (t : Thing) : ((thingC t).drop 5)[0]? = some (mkF 2 (t.clear.cats.map catC)) := _root_.id rfl
@[simp] theorem thingC_d6 (t : Thing) : ((thingC t).drop 6)[0]? = some (.s (.int .i64 t.quota)) := _root_.id rfl
@[simp] theorem thingC_d7 (t : Thing) : ((thingC t).drop 7)[0]? = some (.s (.int .i64 t.next)) := _root_.id rfl
@[simp] theorem thingC_d8 (t : Thing) : ((thingC t).drop 8)[0]? = some (mkF 2 (t.links.map linkC)) := _root_.id rfl
@[simp] theorem thingC_d9 (t : Thing) : ((thingC t).drop 9)[0]? = some (mkF 1 (t.data.map (cellC .u8))) := _root_.id rfl
@[simp] theorem thingC_d10 (t : Thing) : ((thingC t).drop 10)[0]? = some (.s (.int .u64 t.r0)) := _root_.id rfl
@[simp] theorem thingC_d11 (t : Thing) : ((thingC t).drop 11)[0]? = some (.s (.int .u64 t.r1)) := _root_.id rfl
@[simp] theorem thingC_d12 (t : Thing) : ((thingC t).drop 12)[0]? = some (.s (.int .u64 t.r2)) := _root_.id rfl
@[simp] theorem thingC_d13 (t : Thing) : ((thingC t).drop 13)[0]? = some (.s (.int .u64 t.r3)) := _root_.id rfl
@[simp] theorem thingC_d14 (t : Thing) : ((thingC t).drop 14)[0]? = some (.s (.int .i64 t.minted)) := _root_.id rfl
@[simp] theorem thingC_d15 (t : Thing) : ((thingC t).drop 15)[0]? = some (.s (.int .i64 t.boot)) := _root_.id rfl
@[simp] theorem thingC_d16 (t : Thing) : ((thingC t).drop 16)[0]? = some (.s (.bool t.halted)) := _root_.id rfl
@[simp] theorem thingC_d17 (t : Thing) : ((thingC t).drop 17)[0]? = some (.s (.int .u64 t.value)) := _root_.id rfl
@[simp] theorem thingC_d18 (t : Thing) : ((thingC t).drop 18)[0]? = some (.s (.int .u64 t.s0.dir)) := _root_.id rfl
@[simp] theorem thingC_d19 (t : Thing) : ((thingC t).drop 19)[0]? = some (.s (.int .u64 t.s0.seg)) := _root_.id rfl
@[simp] theorem thingC_d20 (t : Thing) : ((thingC t).drop 20)[0]? = some (.s (.int .u64 t.s1.dir)) := _root_.id rfl
@[simp] theorem thingC_d21 (t : Thing) : ((thingC t).drop 21)[0]? = some (.s (.int .u64 t.s1.seg)) := _root_.id rfl
@[simp] theorem thingC_d22 (t : Thing) : ((thingC t).drop 22)[0]? = some (.s (.int .u64 t.s2.dir)) := _root_.id rfl
@[simp] theorem thingC_d23 (t : Thing) : ((thingC t).drop 23)[0]? = some (.s (.int .u64 t.s2.seg)) := _root_.id rfl
@[simp] theorem thingC_d24 (t : Thing) : ((thingC t).drop 24)[0]? = some (.s (.int .u64 t.s3.dir)) := _root_.id rfl
@[simp] theorem thingC_d25 (t : Thing) : ((thingC t).drop 25)[0]? = some (.s (.int .u64 t.s3.seg)) := _root_.id rfl

end Go.Ab.T

/-
  LOOPS BY INVARIANTS.
-/
set_option linter.unusedSimpArgs false
set_option linter.unusedVariables false
namespace Go.Ab
open Go

theorem iter_inv {τ ρ : Type} {step : τ → Option (τ ⊕ ρ)} {I : Nat → τ → Prop} {Q : ρ → Prop} (n : Nat)
    (hin : ∀ i s, i < n → I i s → (∃ s', step s = some (.inl s') ∧ I (i + 1) s') ∨ (∃ q, step s = some (.inr q) ∧ Q q))
    (hout : ∀ s, I n s → ∃ q, step s = some (.inr q) ∧ Q q) :
    ∀ (d i m : Nat) (s : τ), i + d = n → d < m → I i s → ∃ q, iterN step m s = some q ∧ Q q := by
  intro d
  induction d with
  | zero =>
    intro i m s hi hm hI
    obtain ⟨m, rfl⟩ : ∃ k, m = k + 1 := ⟨m - 1, by omega⟩
    obtain rfl : i = n := by omega
    obtain ⟨q, hq, h⟩ := hout s hI
    exact ⟨q, by simp [iterN, hq], h⟩
  | succ d ih =>
    intro i m s hi hm hI
    obtain ⟨m, rfl⟩ : ∃ k, m = k + 1 := ⟨m - 1, by omega⟩
    rcases hin i s (by omega) hI with ⟨s', h1, h2⟩ | ⟨q, h1, h2⟩
    · obtain ⟨q, hq, h⟩ := ih (i + 1) m s' (by omega) (by omega) h2
      exact ⟨q, by simp [iterN, h1, hq], h⟩
    · exact ⟨q, by simp [iterN, h1], h2⟩

/-- The law of a loop of at most n rounds, by an invariant. -/
theorem oLoop_inv {β : Type} {step : List A × Heap → Option ((List A × Heap) ⊕ (Ex × List A × Heap))} {s0 : List A × Heap} {k : Ex → List A → Heap → Option β}
    (I : Nat → List A × Heap → Prop) (Q : Ex × List A × Heap → Prop) (n : Nat) (h0 : I 0 s0) (hn : n < 2 ^ 63)
    (hin : ∀ i s, i < n → I i s → (∃ s', step s = some (.inl s') ∧ I (i + 1) s') ∨ (∃ q, step s = some (.inr q) ∧ Q q))
    (hout : ∀ s, I n s → ∃ q, step s = some (.inr q) ∧ Q q) :
    ∃ q, Q q ∧ oLoop step s0 k = k q.1 q.2.1 q.2.2 := by
  obtain ⟨q, hq, h⟩ := iter_inv n hin hout n 0 big s0 (by omega) (by rw [big_eq]; omega) h0
  exact ⟨q, h, by unfold oLoop; rw [hq]⟩
theorem oLoop_inv' {step : List A × Heap → Option ((List A × Heap) ⊕ (Ex × List A × Heap))} {s0 : List A × Heap}
    (I : Nat → List A × Heap → Prop) (Q : Ex × List A × Heap → Prop) (n : Nat) (h0 : I 0 s0) (hn : n < 2 ^ 63)
    (hin : ∀ i s, i < n → I i s → (∃ s', step s = some (.inl s') ∧ I (i + 1) s') ∨ (∃ q, step s = some (.inr q) ∧ Q q))
    (hout : ∀ s, I n s → ∃ q, step s = some (.inr q) ∧ Q q) :
    ∃ q, Q q ∧ ∀ {β : Type} (k : Ex → List A → Heap → Option β), oLoop step s0 k = k q.1 q.2.1 q.2.2 := by
  obtain ⟨q, hq, h⟩ := iter_inv n hin hout n 0 big s0 (by omega) (by rw [big_eq]; omega) h0
  exact ⟨q, h, fun k => by unfold oLoop; rw [hq]⟩

theorem wrap_u64 {n : Int} (h0 : 0 ≤ n) (h1 : n < 18446744073709551616) : IntKind.u64.wrap n = n := by
  have key : IntKind.u64.wrap n = n % 18446744073709551616 := by
    simp [IntKind.wrap, IntKind.bits, IntKind.signed]
  rw [key]; omega
/-- A join of two bare truths. -/
@[simp] theorem ite_normal (c : Prop) [Decidable c] (x y : Bool) (h : Heap) :
    (if c then some (Ex.normal, [A.s (.bool x)], h) else some (Ex.normal, [A.s (.bool y)], h)) = some (Ex.normal, [A.s (.bool (if c then x else y))], h) := by split <;> rfl
@[simp] theorem notSlice_int (kd : IntKind) (n : Int) : notSlice (.int kd n) = true := _root_.id rfl
@[simp] theorem notSlice_bool (b : Bool) : notSlice (.bool b) = true := _root_.id rfl
@[simp] theorem notSlice_string (b : ByteArray) : notSlice (.string b) = true := _root_.id rfl
@[simp] theorem notSlice_ptr : notSlice (.pointer none) = true := _root_.id rfl
@[simp] theorem pureA_s (v : Value) : pureA (.s v) = notSlice v := _root_.id rfl
@[simp] theorem oFrz_pure' (a : A) (h : Heap) {β : Type} (k : A → Heap → Option β) (hp : pureA a = true) : oFrz a h k = k a h := oFrz_pure a h k hp
end Go.Ab

/-
  SEARCHING: the generic functions of slices.
-/
set_option linter.unusedSimpArgs false
set_option linter.unusedVariables false
namespace Go.Ab
open Go

@[simp] theorem oShift_shr (kx ky : IntKind) (a b : Int) {β : Type} (k : A → Option β) : oShift .shr (.s (.int kx a)) (.s (.int ky b)) k = if 0 ≤ b then k (.int kx (a.fdiv (2 ^ min b.toNat kx.bits))) else none := _root_.id rfl
@[simp] theorem oShift_shl (kx ky : IntKind) (a b : Int) {β : Type} (k : A → Option β) : oShift .shl (.s (.int kx a)) (.s (.int ky b)) k = if 0 ≤ b then k (.int kx (kx.wrap (a * 2 ^ min b.toNat kx.bits))) else none := _root_.id rfl

/-- A slice's elements, as what is loaded of one. -/
structure Elems (α : Type) where
  sz : Nat
  ld : Option Nat
  enc : α → List A
  val : α → A
  at0 : ∀ x, cellsAt ld (enc x) 0 = some (val x)
  pure : ∀ x, pureA (val x) = true
  ids : ∀ x, idsA (val x) = []

def gSearch (sz : Nat) (ld : Option Nat) (En : String → CallFn) : CallFn := fun args objs =>
  match args with
  | [a0, a1, a2] =>
    oLen a0 fun x1 =>
      oLoop (fun s2 =>
      oCmp .lss (s2.1.getD 0 .any) (s2.1.getD 1 .any) fun x3 =>
      oCond x3 (oAr .add (s2.1.getD 0 .any) (s2.1.getD 1 .any) fun x4 =>
      oConv .u64 x4 fun x5 =>
      oShift .shr x5 (.s (.int .u64 1)) fun x6 =>
      oConv .i64 x6 fun x7 =>
      oIdxA sz a0 x7 fun x8 =>
      oLoad ld x8 s2.2 fun x9 =>
      oLendV En a2 [x9, a1] s2.2 (fun v12 h13 => some (.inr (Ex.panic v12, [.any], h13))) fun w16 h17 => oFrz w16 h17 fun x10 h11 =>
      oCmp .lss x10 (.s (.int .i64 0)) fun x14 =>
      oCond x14 (oAr .add x7 (.s (.int .i64 1)) fun x15 =>
      (trim true objs.length [x15, (s2.1.getD 1 .any)] h11).map .inl)
      ((trim true objs.length [(s2.1.getD 0 .any), x7] h11).map .inl))
      ((trim true objs.length [(s2.1.getD 0 .any)] s2.2).map fun p => .inr (Ex.exit 0, p.1, p.2))) ([(.s (.int .i64 0)), x1], objs) fun e18 vs19 h20 =>
      (match e18 with
    | .normal => none
    | .exit i21 => if i21 = 0 then oCmp .lss (vs19.getD 0 .any) x1 fun x23 =>
      oGuard x23 true (fun _ => oIdxA sz a0 (vs19.getD 0 .any) fun x24 =>
      oLoad ld x24 h20 fun x25 =>
      oLendV En a2 [x25, a1] h20 (fun v28 h29 => finish objs.length (.pan v28) h29) fun w31 h32 => oFrz w31 h32 fun x26 h27 =>
      oCmp .eql x26 (.s (.int .i64 0)) fun x30 =>
      finish objs.length (.ok (.tup [(vs19.getD 0 .any), x30])) h27)
      (fun _ => finish objs.length (.ok (.tup [(vs19.getD 0 .any), (.s (.bool false))])) h20) else none
    | .ret => finish objs.length (.ok (.tup [(.s (.int .i64 0)), (.s (.bool false))])) h20
    | .panic v22 => finish objs.length (.pan v22) h20)
  | _ => none

theorem mid_eq {lo hi : Nat} (h : lo < hi) (hn : hi < 2 ^ 63) :
    IntKind.i64.wrap ((IntKind.u64.wrap (IntKind.i64.wrap ((lo : Int) + hi))).fdiv (2 ^ min (1 : Int).toNat IntKind.u64.bits)) = (((lo + hi) / 2 : Nat) : Int) := by
  have e1 : (2 ^ min (1 : Int).toNat IntKind.u64.bits : Int) = 2 := by decide
  rw [e1]
  have key : IntKind.u64.wrap (IntKind.i64.wrap ((lo : Int) + hi)) = (lo : Int) + hi := by
    have a : ∀ n : Int, IntKind.u64.wrap n = n % 18446744073709551616 := fun n => by simp [IntKind.wrap, IntKind.bits, IntKind.signed]
    have b : ∀ n : Int, IntKind.i64.wrap n = (let m := n % 18446744073709551616; if m ≥ 9223372036854775808 then m - 18446744073709551616 else m) := fun n => by
      simp [IntKind.wrap, IntKind.bits, IntKind.signed]
    rw [a, b]
    dsimp only
    split <;> omega
  rw [key, Int.fdiv_eq_ediv_of_nonneg _ (by omega), wrap64_id (by omega) (by omega)]
  omega

/-- The binary search finds the place. -/
theorem gSearch_v {α : Type} (E : Elems α) (En : String → CallFn) (name : String) (caps : List A) (tgt : A) (c : α → Int) (xs : List α) (p : Nat)
    (hp : pureL caps = true) (hpi : idsL caps = []) (ht : pureA tgt = true) (hti : idsA tgt = [])
    (hc : ∀ x, x ∈ xs → En name ([E.val x, tgt] ++ caps) [] = some (.ok (.s (.int .i64 (c x))), []))
    (hlen : xs.length < 2 ^ 63) (hpn : p ≤ xs.length)
    (hlt : ∀ i x, xs[i]? = some x → (c x < 0 ↔ i < p)) :
    gSearch E.sz E.ld En [mkF E.sz (xs.map E.enc), tgt, .fn name caps] [] =
      some (.ok (.tup [.s (.int .i64 p), .s (.bool (xs[p]?.any fun x => decide (c x = 0)))]), []) := by
  have hcall : ∀ (β : Type) x (h : Heap) (kp k : A → Heap → Option β), x ∈ xs → oLend (En name) ([E.val x, tgt] ++ caps) h kp k = k (.s (.int .i64 (c x))) h := fun β x h kp k hx =>
    oLend_val _ _ _ _ _ _ (by simp [pureL, E.pure, ht, hp]) (by simp) (hc x hx)
  simp only [gSearch, oLen_mkF, List.length_map, List.length_nil]
  obtain ⟨q, hQ, hq⟩ := oLoop_inv (β := Out × Heap)
    (step := fun s2 =>
      oCmp .lss (s2.1.getD 0 .any) (s2.1.getD 1 .any) fun x3 =>
      oCond x3 (oAr .add (s2.1.getD 0 .any) (s2.1.getD 1 .any) fun x4 =>
      oConv .u64 x4 fun x5 =>
      oShift .shr x5 (.s (.int .u64 1)) fun x6 =>
      oConv .i64 x6 fun x7 =>
      oIdxA E.sz (mkF E.sz (xs.map E.enc)) x7 fun x8 =>
      oLoad E.ld x8 s2.2 fun x9 =>
      oLendV En (.fn name caps) [x9, tgt] s2.2 (fun v12 h13 => some (.inr (Ex.panic v12, [.any], h13))) fun w16 h17 => oFrz w16 h17 fun x10 h11 =>
      oCmp .lss x10 (.s (.int .i64 0)) fun x14 =>
      oCond x14 (oAr .add x7 (.s (.int .i64 1)) fun x15 =>
      (trim true 0 [x15, (s2.1.getD 1 .any)] h11).map .inl)
      ((trim true 0 [(s2.1.getD 0 .any), x7] h11).map .inl))
      ((trim true 0 [(s2.1.getD 0 .any)] s2.2).map fun p => .inr (Ex.exit 0, p.1, p.2)))
    (s0 := ([(.s (.int .i64 0)), .s (.int .i64 xs.length)], []))
    (k := fun e18 vs19 h20 =>
      (match e18 with
    | .normal => none
    | .exit i21 => if i21 = 0 then oCmp .lss (vs19.getD 0 .any) (.s (.int .i64 xs.length)) fun x23 =>
      oGuard x23 true (fun _ => oIdxA E.sz (mkF E.sz (xs.map E.enc)) (vs19.getD 0 .any) fun x24 =>
      oLoad E.ld x24 h20 fun x25 =>
      oLendV En (.fn name caps) [x25, tgt] h20 (fun v28 h29 => finish 0 (.pan v28) h29) fun w31 h32 => oFrz w31 h32 fun x26 h27 =>
      oCmp .eql x26 (.s (.int .i64 0)) fun x30 =>
      finish 0 (.ok (.tup [(vs19.getD 0 .any), x30])) h27)
      (fun _ => finish 0 (.ok (.tup [(vs19.getD 0 .any), (.s (.bool false))])) h20) else none
    | .ret => finish 0 (.ok (.tup [(.s (.int .i64 0)), (.s (.bool false))])) h20
    | .panic v22 => finish 0 (.pan v22) h20))
    (fun i s => ∃ lo hi : Nat, s = ([.s (.int .i64 lo), .s (.int .i64 hi)], []) ∧ lo ≤ p ∧ p ≤ hi ∧ hi ≤ xs.length ∧ hi - lo ≤ xs.length - i)
    (fun q => q = (Ex.exit 0, [.s (.int .i64 p)], [])) xs.length
    ⟨0, xs.length, rfl, by omega, hpn, by omega, by omega⟩ hlen
    (by
      rintro i s hi ⟨lo, hi', rfl, h1, h2, h3, h4⟩
      by_cases hlh : lo < hi'
      · left
        have hm := mid_eq hlh (by omega)
        have hx : (lo + hi') / 2 < xs.length := by omega
        have hxs : xs[(lo + hi') / 2]? = some xs[(lo + hi') / 2] := by simp [hx]
        have hmem : xs[(lo + hi') / 2] ∈ xs := List.getElem_mem hx
        have hl := hlt _ _ hxs
        have hw : IntKind.i64.wrap ((((lo + hi') / 2 : Nat) : Int) + 1) = (((lo + hi') / 2 + 1 : Nat) : Int) := wrap_succ hx hlen
        have hcc : ∀ (β : Type) (h : Heap) (kp k : A → Heap → Option β), oLend (En name) (E.val xs[(lo + hi') / 2] :: tgt :: caps) h kp k = k (.s (.int .i64 (c xs[(lo + hi') / 2]))) h := fun β h kp k => hcall β _ h kp k hmem
        simp only [List.getD_cons_zero, List.getD_cons_succ, oCmp_s, cmpInt_lss, if_true, oCond_s, Int.ofNat_lt, hlh, decide_true, oAr_s, arInt_add, oConv_s, oShift_shr, Int.zero_le_ofNat, hm,
          show (0 : Int) ≤ 1 from by decide, oIdxA_mkF E.sz E.enc xs _ _ _ _ hxs, oLoad_cptr, E.at0, oLendV_fn, List.cons_append, List.nil_append, hcc, oFrz_int, hw]
        by_cases hneg : c xs[(lo + hi') / 2] < 0
        · refine ⟨([.s (.int .i64 ((lo + hi') / 2 + 1 : Nat)), .s (.int .i64 hi')], []), ?_, (lo + hi') / 2 + 1, hi', rfl, ?_, h2, h3, ?_⟩
          · simp [hneg, trim, allBelow]
          · have := hl.1 hneg; omega
          · omega
        · refine ⟨([.s (.int .i64 lo), .s (.int .i64 ((lo + hi') / 2 : Nat))], []), ?_, lo, (lo + hi') / 2, rfl, h1, ?_, ?_, ?_⟩
          · simp [hneg, trim, allBelow]
          · have := mt hl.2 hneg; omega
          · omega
          · omega
      · right
        refine ⟨_, ?_, rfl⟩
        have : lo = p := by omega
        subst this
        simp [hlh, trim, allBelow])
    (by
      rintro s ⟨lo, hi', rfl, h1, h2, h3, h4⟩
      have hlh : ¬ lo < hi' := by omega
      refine ⟨_, ?_, rfl⟩
      have : lo = p := by omega
      subst this
      simp [hlh, trim, allBelow])
  refine hq.trans ?_
  subst hQ
  simp only [if_true, List.getD_cons_zero, oCmp_s, cmpInt_lss, oGuard_s, Int.ofNat_lt]
  by_cases hpl : p < xs.length
  · have hxs : xs[p]? = some xs[p] := by simp [hpl]
    have hmem : xs[p] ∈ xs := List.getElem_mem hpl
    have hcc : ∀ (β : Type) (h : Heap) (kp k : A → Heap → Option β), oLend (En name) (E.val xs[p] :: tgt :: caps) h kp k = k (.s (.int .i64 (c xs[p]))) h := fun β h kp k => hcall β _ h kp k hmem
    simp only [hpl, decide_true, if_true, oIdxA_mkF E.sz E.enc xs _ _ _ _ hxs, oLoad_cptr, E.at0, oLendV_fn, List.cons_append, List.nil_append, hcc, oFrz_int, oCmp_s, cmpInt_eql, hxs, Option.any_some]
    exact finish_val _ _ (by simp)
  · have hxs : xs[p]? = none := by simp; omega
    simp only [hpl, decide_false, Bool.false_eq_true, if_false, hxs, Option.any_none]
    exact finish_val _ _ (by simp)

def linkE : Elems T.Link := ⟨2, some 2, T.linkC, fun x => .agg (T.linkC x), T.linkC_at, fun x => by simp [pureA], fun x => by simp⟩
def thingE : Elems T.Thing := ⟨26, some 26, T.thingC, fun x => .agg (T.thingC x), T.thingC_at, fun x => by simp [pureA], fun x => by simp⟩
def idE : Elems Int := ⟨1, none, T.cellC .u64, fun x => .s (.int .u64 x), fun x => rfl, fun x => rfl, fun x => rfl⟩
def catE : Elems T.Cat := ⟨2, some 2, T.catC, fun x => .agg (T.catC x), T.catC_at, fun x => by simp [pureA], fun x => by simp⟩
end Go.Ab

/-
  OWNED SLICES THAT GROW.
-/
set_option linter.unusedSimpArgs false
set_option linter.unusedVariables false
namespace Go.Ab
open Go

/-- What H' keeps of H: all but one object. -/
def KeepBut (id : Nat) (H H' : Heap) : Prop := ∀ (i : Nat) (o : Slot), i ≠ id → H[i]? = some o → H'[i]? = some o
/-- What H' keeps of H: all. -/
def KeepAll (H H' : Heap) : Prop := ∀ (i : Nat) (o : Slot), H[i]? = some o → H'[i]? = some o
theorem KeepAll.append (H r : Heap) : KeepAll H (H ++ r) := fun i o h => by
  have hi : i < H.length := by
    rcases Nat.lt_or_ge i H.length with h' | h'
    · exact h'
    · rw [List.getElem?_eq_none h'] at h; exact absurd h (by simp)
  rw [List.getElem?_append_left hi]; exact h
theorem at_end (H : Heap) (s : Slot) : (H ++ [s])[H.length]? = some s := by simp
theorem lt_of_some {H : Heap} {i : Nat} {o : Slot} (h : H[i]? = some o) : i < H.length := by
  rcases Nat.lt_or_ge i H.length with h' | h'
  · exact h'
  · rw [List.getElem?_eq_none h'] at h; exact absurd h (by simp)

/-- One more element. -/
theorem app1 {α : Type} (enc : α → List A) (H : Heap) (kn ver sz bytes n : Nat) (xs : List α) (x : α) (ld : Option Nat) (v : A) (hn : n = xs.length)
    (hk : H[kn]? = some (.live ⟨ver, sz, xs.map enc⟩)) (hc : asCells ld v = some (enc x)) (hz : sz ≠ 0) (ok : appendOk (xs.length + 1) bytes) :
    ∃ H', (∀ {β : Type} (k : A → Heap → Option β), (oNewSlice none sz (asRows ld [v]) H fun x h => oAppend none sz bytes (.osl kn ver sz 0 n) x h k) = k (.osl kn (ver + 1) sz 0 (n + 1)) H') ∧
      H'[kn]? = some (.live ⟨ver + 1, sz, (xs ++ [x]).map enc⟩) ∧ KeepBut kn H H' := by
  subst hn
  have hlt := lt_of_some hk
  refine ⟨(H ++ [Slot.live ⟨0, sz, [enc x]⟩]).set kn (Slot.live ⟨ver + 1, sz, (xs ++ [x]).map enc⟩), fun k => ?_, ?_, ?_⟩
  · have h1 : (H ++ [Slot.live ⟨0, sz, [enc x]⟩])[kn]? = some (.live ⟨ver, sz, xs.map enc⟩) := by rw [List.getElem?_append_left hlt]; exact hk
    simp only [oNewSlice_eq, asRows_cons, asRows_nil, hc, Option.bind_some, Option.map_some, if_neg hz, place_none, oAppend_osl, rowsOf_osl, at_end, List.length_cons, List.length_nil, h1]
    simp [ok, hlt, List.take_of_length_le]
  · rw [List.getElem?_set_self (by simp; omega)]
  · intro i o hi ho
    rw [List.getElem?_set_ne (by omega)]
    exact KeepAll.append H _ i o ho
/-- A new object. -/
theorem KeepAll.trans {H H1 H2 : Heap} (h1 : KeepAll H H1) (h2 : KeepAll H1 H2) : KeepAll H H2 := fun i o h => h2 i o (h1 i o h)
theorem KeepBut.trans {k : Nat} {H H1 H2 : Heap} (h1 : KeepBut k H H1) (h2 : KeepBut k H1 H2) : KeepBut k H H2 := fun i o hi h => h2 i o hi (h1 i o hi h)
theorem KeepBut.refl (k : Nat) (H : Heap) : KeepBut k H H := fun _ _ _ h => h
theorem set_end (H : Heap) (a b : Slot) : (H ++ [a]).set H.length b = H ++ [b] := by simp
theorem app_some {H : Heap} {i : Nat} {o : Slot} (h : H[i]? = some o) (r : Heap) : (H ++ r)[i]? = some o := KeepAll.append H r i o h
theorem app_set' {H : Heap} {i : Nat} {o : Slot} (h : H[i]? = some o) (r : Heap) (x : Slot) : (H ++ r).set i x = H.set i x ++ r := by
  rw [List.set_append_left _ _ (lt_of_some h)]
theorem at_get {H : Heap} {i : Nat} {o : Slot} (h : H[i]? = some o) (p : i < H.length) : H[i] = o := by
  rw [List.getElem?_eq_getElem p] at h; simpa using h
theorem app_get' {H : Heap} {i : Nat} {o : Slot} (h : H[i]? = some o) (r : Heap) (p : i < (H ++ r).length) : (H ++ r)[i] = o := at_get (app_some h r) p
theorem app_len0 (H : Heap) (a : Slot) (r : Heap) : (H ++ a :: r)[H.length]? = some a := by simp
theorem app_len1 (H : Heap) (a b : Slot) (r : Heap) : (H ++ a :: b :: r)[H.length + 1]? = some b := by simp
theorem set_len0 (H : Heap) (a x : Slot) (r : Heap) : (H ++ a :: r).set H.length x = H ++ x :: r := by simp
theorem set_len1 (H : Heap) (a b x : Slot) (r : Heap) : (H ++ a :: b :: r).set (H.length + 1) x = H ++ a :: x :: r := by
  rw [List.set_append_right _ _ (by omega)]; simp
/-- The last act of a function that comes to an owned slice. -/
theorem finish_own (id ver sz n : Nat) (rows : List (List A)) (H : Heap) (hk : H[id]? = some (.live ⟨ver, sz, rows⟩)) (hp : idsRows rows = []) (hr : ∀ f, renRows f rows = some rows) :
    finish 0 (.ok (.osl id ver sz 0 n)) H = some (.ok (.osl 0 ver sz 0 n), [.live ⟨ver, sz, rows⟩]) := by
  have h1 : reach H reachFuel [] [id] = [id] := by
    rw [show reachFuel = 99999 + 1 from rfl, reach]
    simp [hk, hp]
  have h2 : idx [id] id = some 0 := by simp [idx]
  simp [finish, hk, hp, hr, h1, h2]
/-- The last act of a function whose value leads to one object, of pure rows. -/
theorem finish_one (a a' : A) (id : Nat) (ob : Obj) (H : Heap) (ha : idsA a = [id]) (hr : renA (fun j => if j = id then some 0 else none) a = some a') (hk : H[id]? = some (.live ob)) (hp : idsRows ob.rows = []) (hrr : ∀ f, renRows f ob.rows = some ob.rows) :
    finish 0 (.ok a) H = some (.ok a', [.live ob]) := by
  have h1 : reach H reachFuel [] [id] = [id] := by
    rw [show reachFuel = 99999 + 1 from rfl, reach]
    simp [hk, hp]
  have h2 : idx [id] = fun j => if j = id then some 0 else none := by
    funext j
    by_cases hj : j = id
    · subst hj; simp [idx]
    · simp [idx, hj, Ne.symm hj]
  simp [finish, ha, hk, hp, hrr, h1, h2, hr]
@[simp] theorem idsL_append (a b : List A) : idsL (a ++ b) = idsL a ++ idsL b := by induction a <;> simp_all
/-- What is lent of a cell that leads to no object. -/
def normA : A → A
  | .s v => nilS v
  | .fsl sz rows => mkF sz rows
  | a => a
def flatA : A → Bool
  | .s _ => true
  | .fsl _ _ => true
  | .cptr _ => true
  | _ => false
@[simp] theorem flatA_s (v : Value) : flatA (.s v) = true := _root_.id rfl
@[simp] theorem flatA_mkF (sz : Nat) (rows : List (List A)) : flatA (mkF sz rows) = true := _root_.id rfl
@[simp] theorem normA_mkF (sz : Nat) (rows : List (List A)) : normA (mkF sz rows) = mkF sz rows := by cases rows <;> simp [normA, mkF]
@[simp] theorem normA_int (kd : IntKind) (n : Int) : normA (.s (.int kd n)) = .s (.int kd n) := _root_.id rfl
@[simp] theorem normA_bool (b : Bool) : normA (.s (.bool b)) = .s (.bool b) := _root_.id rfl
@[simp] theorem normA_nil : normA (.s (.slice none 0 0)) = .fsl 0 [] := _root_.id rfl
theorem normA_pure {a : A} (h : pureA a = true) (hf : flatA a = true) : normA a = a := by
  cases a <;> simp [flatA] at hf <;> try rfl
  · rename_i v; simp only [pureA_s] at h; cases v <;> simp [notSlice] at h <;> rfl
  · rename_i sz rows
    cases rows with
    | nil => simp [pureA] at h; simp [normA, mkF, h]
    | cons r rs => simp [normA, mkF]
theorem lendA_flat (n : Nat) (a : A) (h : Heap) (hf : flatA a = true) : lendA (n + 1) a h = some (normA a) := by
  cases a <;> simp [flatA] at hf <;> simp [lendA, normA]
theorem pureL_mem : ∀ (l : List A), pureL l = true → ∀ x ∈ l, pureA x = true
  | [], _, x, hx => by cases hx
  | y :: ys, hp, x, hx => by
    simp only [pureL_cons, Bool.and_eq_true] at hp
    rcases List.mem_cons.1 hx with h | h
    · exact h ▸ hp.1
    · exact pureL_mem ys hp.2 x h
theorem norm_pure {l : List A} (hp : pureL l = true) (hf : ∀ a ∈ l, flatA a = true) : l.map normA = l := by
  have h : l.map normA = l.map fun x => x := List.map_congr_left fun x hx => normA_pure (pureL_mem l hp x hx) (hf x hx)
  rw [h]; simp
theorem lendL_flat (h : Heap) : ∀ (l : List A) (n : Nat), (∀ a ∈ l, flatA a = true) → lendL (n + l.length + 2) l h = some (l.map normA)
  | [], n, _ => by simp [lendL]
  | a :: r, n, hf => by
    rw [show n + (a :: r).length + 2 = (n + r.length + 2) + 1 by simp; omega, lendL]
    split
    · rename_i hp
      rw [norm_pure hp hf]
    · have e1 : lendA (n + r.length + 2) a h = some (normA a) := lendA_flat (n + r.length + 1) a h (hf a (by simp))
      rw [e1, lendL_flat h r n fun x hx => hf x (by simp [hx])]
      simp
/-- One bundle of cells is lent. -/
theorem lend_agg (cs cs' : List A) (h : Heap) (hf : ∀ a ∈ cs, flatA a = true) (hn : cs.length < 900) (hc : cs.map normA = cs') : lendL lendFuel [.agg cs] h = some [.agg cs'] := by
  subst hc
  rw [show lendFuel = 999 + 1 from rfl, lendL]
  split
  · rename_i hp
    simp only [pureL_cons, pureA_agg, pureL_nil, Bool.and_true] at hp
    rw [norm_pure hp hf]
  · have e := lendL_flat h cs (998 - cs.length - 2) hf
    rw [show 998 - cs.length - 2 + cs.length + 2 = 998 by omega] at e
    simp only [lendA, e, Option.map_some, Option.bind_some]
    simp [lendL]
theorem lend_agg2 (cs cs' ds ds' : List A) (h : Heap) (hf : ∀ a ∈ cs, flatA a = true) (hn : cs.length < 900) (hc : cs.map normA = cs') (hf2 : ∀ a ∈ ds, flatA a = true) (hn2 : ds.length < 900) (hc2 : ds.map normA = ds') :
    lendL lendFuel [.agg cs, .agg ds] h = some [.agg cs', .agg ds'] := by
  subst hc; subst hc2
  rw [show lendFuel = 999 + 1 from rfl, lendL]
  split
  · rename_i hp
    simp only [pureL_cons, pureA_agg, pureL_nil, Bool.and_true, Bool.and_eq_true] at hp
    rw [norm_pure hp.1 hf, norm_pure hp.2 hf2]
  · have e := lendL_flat h cs (998 - cs.length - 2) hf
    rw [show 998 - cs.length - 2 + cs.length + 2 = 998 by omega] at e
    have e1 : lendA 999 (.agg cs) h = some (.agg (cs.map normA)) := by
      rw [show (999 : Nat) = 998 + 1 from rfl]
      simp only [lendA, e, Option.map_some]
    have e2 : lendL 999 [.agg ds] h = some [.agg (ds.map normA)] := by
      rw [show (999 : Nat) = 998 + 1 from rfl, lendL]
      split
      · rename_i hp
        simp only [pureL_cons, pureA_agg, pureL_nil, Bool.and_true] at hp
        rw [norm_pure hp hf2]
      · have e := lendL_flat h ds (997 - ds.length - 2) hf2
        rw [show 997 - ds.length - 2 + ds.length + 2 = 997 by omega] at e
        have e3 : lendA 998 (.agg ds) h = some (.agg (ds.map normA)) := by
          rw [show (998 : Nat) = 997 + 1 from rfl]
          simp only [lendA, e, Option.map_some]
        rw [e3]
        simp [lendL]
    rw [e1, Option.bind_some, e2]
    rfl
/-- A call whose arguments lead to no object, which comes to an owned slice of pure rows. -/
theorem oLend_own (F : CallFn) (args args' : List A) (h : Heap) {β : Type} (kp k : A → Heap → Option β) (ver sz n : Nat) (rows : List (List A)) (ha : idsL args = []) (hl : lendL lendFuel args [] = some args') (hp : ∀ f, renRows f rows = some rows)
    (hF : F args' [] = some (.ok (.osl 0 ver sz 0 n), [.live ⟨ver, sz, rows⟩])) :
    oLend F args h kp k = k (.osl h.length ver sz 0 n) (h ++ [.live ⟨ver, sz, rows⟩]) := by
  have hi : (idsL args).isEmpty = true := by rw [ha]; rfl
  unfold oLend
  rw [if_pos hi, hl]
  simp only [hF]
  simp [hi, giveBack, backIdx, hp, setAll]
/-- The same, of a value that leads to no object. -/
theorem oLend_val' (F : CallFn) (args args' : List A) (h : Heap) {β : Type} (kp k : A → Heap → Option β) (a : A) (ha : idsL args = []) (hl : lendL lendFuel args [] = some args') (hr : idsA a = [])
    (hF : F args' [] = some (.ok a, [])) : oLend F args h kp k = k a h := by
  have hi : (idsL args).isEmpty = true := by rw [ha]; rfl
  unfold oLend
  rw [if_pos hi, hl]
  simp only [hF]
  simp [hi, giveBack, renA_of_ids a _ hr, setAll]
/-- What is frozen of an owned slice of pure rows. -/
theorem oFrz_own (H : Heap) (id ver sz n : Nat) (rows : List (List A)) {β : Type} (k : A → Heap → Option β) (hk : H[id]? = some (.live ⟨ver, sz, rows⟩)) (hn : n = rows.length) (hp : pureRows rows = true) :
    oFrz (.osl id ver sz 0 n) H k = k (mkF sz rows) (H.set id .dead) := by
  subst hn
  simp [oFrz, pureA, frzA, hk, frzRows, hp]
theorem pureRows_map {α : Type} (enc : α → List A) (h : ∀ x, pureL (enc x) = true) (xs : List α) : pureRows (xs.map enc) = true := by
  simp [pureRows, h]
theorem frz_cell2 (C C' : A) (d : A) (h h' : Heap) {β : Type} (k : A → Heap → Option β) (hd : pureA d = true) (hdn : ∀ n h, frzA (n + 1) d h = some (d, h)) (hp : pureA C = false) (hc : ∀ n, frzA (n + 2) C h = some (C', h')) :
    oFrz (.agg [d, C]) h k = k (.agg [d, C']) h' := by
  have e3 : frzL 998 [C] h = some ([C'], h') := by
    rw [show (998 : Nat) = 997 + 1 from rfl]
    simp only [frzL, pureL_cons, hp, Bool.false_and, Bool.false_eq_true, if_false, hc 995, Option.bind_some]
    simp [frzL]
  have e2 : frzL 999 [d, C] h = some ([d, C'], h') := by
    rw [show (999 : Nat) = 998 + 1 from rfl]
    rw [frzL, if_neg (by simp [hp]), hdn 997, Option.bind_some]
    simp only [e3, Option.map_some]
  have e1 : frzA 1000 (.agg [d, C]) h = some (.agg [d, C'], h') := by
    rw [show (1000 : Nat) = 999 + 1 from rfl]
    simp only [frzA, e2, Option.map_some]
  simp only [oFrz, pureA_agg, pureL_cons, hp, Bool.false_and, Bool.and_false, Bool.false_eq_true, if_false, e1]
theorem frz_own (n id ver sz m : Nat) (rows : List (List A)) (h : Heap) (hk : h[id]? = some (.live ⟨ver, sz, rows⟩)) (hm : m = rows.length) (hp : pureRows rows = true) : frzA (n + 2) (.osl id ver sz 0 m) h = some (mkF sz rows, h.set id .dead) := by
  subst hm
  simp [frzA, hk, frzRows, hp]
/-- An element of an owned slice. -/
theorem idx_own {α : Type} (enc : α → List A) (H : Heap) (id ver sz n : Nat) (xs : List α) (ld : Option Nat) (val : A) (j : Nat) (x : α) (kd : IntKind) (hn : n = xs.length)
    (hk : H[id]? = some (.live ⟨ver, sz, xs.map enc⟩)) (hj : xs[j]? = some x) (hv : cellsAt ld (enc x) 0 = some val) {β : Type} (k : A → Option β) :
    (oIdxA sz (.osl id ver sz 0 n) (.s (.int kd j)) fun p => oLoad ld p H k) = k val := by
  have hl : j < xs.length := by
    rcases Nat.lt_or_ge j xs.length with h | h
    · exact h
    · rw [List.getElem?_eq_none h] at hj; exact absurd hj (by simp)
  subst hn
  have hx : xs[j] = x := by rw [List.getElem?_eq_getElem hl] at hj; simpa using hj
  subst hx
  simp [hl, hk, hv]
end Go.Ab

/-
  CALLS OF THE LIBRARY's FUNCTIONS on owned slices of pure rows.
-/
set_option linter.unusedSimpArgs false
set_option linter.unusedVariables false
namespace Go.Ab
open Go

/-- What is reached from ids whose objects lead to nothing. -/
theorem reach_flat (H : Heap) : ∀ (l seen : List Nat) (n : Nat), (∀ id ∈ l, (H.getD id .dead).ids = []) → (seen ++ l).Nodup → l.length < n → reach H n seen l = seen ++ l
  | [], seen, n, _, _, _ => by simp
  | id :: l, seen, n, h, hn, hl => by
    obtain ⟨n, rfl⟩ : ∃ m, n = m + 1 := ⟨n - 1, by simp at hl; omega⟩
    have hni : id ∉ seen := fun hm => by
      rw [List.nodup_append] at hn
      exact hn.2.2 id hm id (by simp) rfl
    rw [reach, if_neg (by simpa using hni), h id (by simp), List.nil_append]
    rw [reach_flat H l (seen ++ [id]) n (fun x hx => h x (by simp [hx])) (by simpa using hn) (by simp at hl; omega)]
    simp

theorem set_same_slot {H : Heap} {i : Nat} {o : Slot} (h : H[i]? = some o) : H.set i o = H := by
  apply List.ext_getElem?
  intro j
  rw [List.getElem?_set]
  split
  · rename_i hij; subst hij; rw [h]; simp [lt_of_some h]
  · rfl

/-- One more row at a place. -/
theorem oCall_insert {β : Type} (sz bytes : Nat) (H : Heap) (id ver n i vid : Nat) (rows : List (List A)) (c : List A) (kp k : A → Heap → Option β)
    (h1 : H[id]? = some (.live ⟨ver, sz, rows⟩)) (h2 : H[vid]? = some (.live ⟨0, sz, [c]⟩)) (hn : n = rows.length) (hne : id ≠ vid) (hi : i ≤ n) (ok : appendOk (2 * (n + 1)) bytes)
    (p1 : idsRows rows = []) (p2 : idsL c = []) (r1 : ∀ f, renRows f rows = some rows) (r2 : ∀ f, renL f c = some c) :
    oCall (primInsert sz bytes) [.osl id ver sz 0 n, .s (.int .i64 i), .osl vid 0 sz 0 1] H kp k = k (.osl id (ver + 1) sz 0 (n + 1)) (H.set id (.live ⟨ver + 1, sz, rows.take i ++ c :: rows.drop i⟩)) := by
  subst hn
  have hr : reach H reachFuel [] [id, vid] = [id, vid] := reach_flat H _ _ _ (by simp [h1, h2, p1, p2]) (by simp [hne]) (by simp [reachFuel])
  have x1 : idx [id, vid] id = some 0 := by simp [idx, List.idxOf?_cons]
  have x2 : idx [id, vid] vid = some 1 := by
    have : (id == vid) = false := by simpa using hne
    simp [idx, List.idxOf?_cons, this]
  have hl1 := lt_of_some h1
  have hl2 := lt_of_some h2
  have hb : borrow [.osl id ver sz 0 rows.length, .s (.int .i64 i), .osl vid 0 sz 0 1] H = some ([id, vid], [.osl 0 ver sz 0 rows.length, .s (.int .i64 i), .osl 1 0 sz 0 1], [.live ⟨ver, sz, rows⟩, .live ⟨0, sz, [c]⟩]) := by
    unfold borrow
    simp [hr, x1, x2, h1, h2, r1, r2]
  have hp : primInsert sz bytes [.osl 0 ver sz 0 rows.length, .s (.int .i64 i), .osl 1 0 sz 0 1] [.live ⟨ver, sz, rows⟩, .live ⟨0, sz, [c]⟩] =
      some (.ok (.osl 0 (ver + 1) sz 0 (rows.length + 1)), [.live ⟨ver + 1, sz, rows.take i ++ c :: rows.drop i⟩, .live ⟨0, sz, [c]⟩]) := by
    have : ((i : Int) ≤ (rows.length : Int)) := by omega
    simp [primInsert, ok, this, List.take_of_length_le]
  have hren : ∀ f, renRows f (rows.take i ++ c :: rows.drop i) = some (rows.take i ++ c :: rows.drop i) := by
    intro f
    have key : ∀ (l : List (List A)), (∀ f, renRows f l = some l) → ∀ row ∈ l, ∀ f, renL f row = some row := by
      intro l
      induction l with
      | nil => simp
      | cons a r ih =>
        intro hl row hrow f
        have := hl f
        simp only [renRows_cons, Option.bind_eq_some_iff, Option.map_eq_some_iff, List.cons.injEq] at this
        obtain ⟨a', ha, r', hr', rfl, rfl⟩ := this
        rcases List.mem_cons.1 hrow with rfl | hrow
        · exact ha
        · exact ih (fun g => by
            have := hl g
            simp only [renRows_cons, Option.bind_eq_some_iff, Option.map_eq_some_iff, List.cons.injEq] at this
            obtain ⟨_, _, r'', hr'', _, h⟩ := this
            rw [h] at hr''; exact hr'') row hrow f
    have all : ∀ (l : List (List A)), (∀ row ∈ l, renL f row = some row) → renRows f l = some l := by
      intro l
      induction l with
      | nil => simp
      | cons a r ih => intro h; simp [h a (by simp), ih fun x hx => h x (by simp [hx])]
    refine all _ fun row hrow => ?_
    rcases List.mem_append.1 hrow with h | h
    · exact key rows r1 row (List.mem_of_mem_take h) f
    · rcases List.mem_cons.1 h with rfl | h
      · exact r2 f
      · exact key rows r1 row (List.mem_of_mem_drop h) f
  unfold oCall
  rw [hb]
  simp only [hp]
  have hs : (H.set id (.live ⟨ver + 1, sz, rows.take i ++ c :: rows.drop i⟩)).set vid (.live ⟨0, sz, [c]⟩) = H.set id (.live ⟨ver + 1, sz, rows.take i ++ c :: rows.drop i⟩) :=
    set_same_slot (by rw [List.getElem?_set_ne hne]; exact h2)
  simp [giveBack, backIdx, hren, r2, setAll, hs]

/-- One row less. -/
theorem oCall_delete {β : Type} (sz bytes : Nat) (H : Heap) (id ver n i : Nat) (rows : List (List A)) (kp k : A → Heap → Option β)
    (h1 : H[id]? = some (.live ⟨ver, sz, rows⟩)) (hn : n = rows.length) (hi : i < n)
    (p1 : idsRows rows = []) (r1 : ∀ f (l : List (List A)), (∀ x ∈ l, x ∈ rows) → renRows f l = some l) :
    oCall (primDelete sz bytes) [.osl id ver sz 0 n, .s (.int .i64 i), .s (.int .i64 (i + 1 : Nat))] H kp k = k (.osl id (ver + 1) sz 0 (n - 1)) (H.set id (.live ⟨ver + 1, sz, rows.take i ++ rows.drop (i + 1)⟩)) := by
  subst hn
  have hr : reach H reachFuel [] [id] = [id] := reach_flat H _ _ _ (by simp [h1, p1]) (by simp) (by simp [reachFuel])
  have x1 : idx [id] id = some 0 := by simp [idx]
  have hb : borrow [.osl id ver sz 0 rows.length, .s (.int .i64 i), .s (.int .i64 (i + 1 : Nat))] H = some ([id], [.osl 0 ver sz 0 rows.length, .s (.int .i64 i), .s (.int .i64 (i + 1 : Nat))], [.live ⟨ver, sz, rows⟩]) := by
    unfold borrow
    have := r1 (idx [id]) rows (fun x hx => hx)
    simp [hr, x1, h1, this]
  have hp : primDelete sz bytes [.osl 0 ver sz 0 rows.length, .s (.int .i64 i), .s (.int .i64 (i + 1 : Nat))] [.live ⟨ver, sz, rows⟩] =
      some (.ok (.osl 0 (ver + 1) sz 0 (rows.length - 1)), [.live ⟨ver + 1, sz, rows.take i ++ rows.drop (i + 1)⟩]) := by
    have a1 : ((i : Int) ≤ (i + 1 : Nat)) := by omega
    have a2 : (((i + 1 : Nat) : Int) ≤ (rows.length : Int)) := by omega
    have a3 : (((i + 1 : Nat) : Int) - (i : Int)).toNat = 1 := by omega
    have a4 : (((i + 1 : Nat) : Int)).toNat = i + 1 := by omega
    have a0 : (0 : Int) ≤ (i : Int) := by omega
    simp only [primDelete, List.getElem?_cons_zero, List.drop_zero, List.take_of_length_le (Nat.le_refl _), a3, a4, Int.toNat_natCast, List.set_cons_zero]
    rw [if_pos (by simp; omega)]
  have hren : ∀ f, renRows f (rows.take i ++ rows.drop (i + 1)) = some (rows.take i ++ rows.drop (i + 1)) := fun f => r1 f _ fun x hx => by
    rcases List.mem_append.1 hx with h | h
    · exact List.mem_of_mem_take h
    · exact List.mem_of_mem_drop h
  unfold oCall
  rw [hb]
  simp only [hp]
  simp [giveBack, backIdx, hren, setAll]
end Go.Ab

/-
  ARGUMENTS THAT ARE LENT: captured pointers.
-/
set_option linter.unusedSimpArgs false
set_option linter.unusedVariables false
namespace Go.Ab.T
open Go Go.Ab
theorem lendL_cons' (n : Nat) (a : A) (r : List A) (H : Heap) (hp : pureL (a :: r) = false) : lendL (n + 1) (a :: r) H = (lendA n a H).bind fun a => (lendL n r H).map fun r => a :: r := by
  rw [lendL, if_neg (by simp [hp])]
theorem lendL_nil' (n : Nat) (H : Heap) : lendL (n + 1) [] H = some [] := by rw [lendL]; split <;> rfl
theorem lendA_fn' (n : Nat) (nm : String) (cs : List A) (H : Heap) : lendA (n + 1) (.fn nm cs) H = (lendL n cs H).map (.fn nm) := by rw [lendA]
theorem lendA_ptr' (n id sz : Nat) (row : List A) (H : Heap) (hk : H[id]? = some (.live ⟨0, sz, [row]⟩)) (hp : pureL row = true) : lendA (n + 2) (.ptr id 0 0 0) H = some (.cptr row) := by
  rw [lendA, hk]
  simp [lendL_pure n row H hp]
theorem lend_cap1 (a : A) (nm : String) (id sz : Nat) (row : List A) (H : Heap) (hf : flatA a = true) (hn : normA a = a) (hk : H[id]? = some (.live ⟨0, sz, [row]⟩)) (hp : pureL row = true) :
    lendL lendFuel [a, .fn nm [.ptr id 0 0 0]] H = some [a, .fn nm [.cptr row]] := by
  rw [show lendFuel = 999 + 1 from rfl, lendL_cons' _ _ _ _ (by simp [pureA]), show (999 : Nat) = 998 + 1 from rfl, lendA_flat _ _ _ hf, hn, Option.bind_some, lendL_cons' _ _ _ _ (by simp [pureA]),
    show (998 : Nat) = 997 + 1 from rfl, lendA_fn', show (997 : Nat) = 996 + 1 from rfl, lendL_cons' _ _ _ _ (by simp [pureA]), show (996 : Nat) = 994 + 2 from rfl, lendA_ptr' _ _ _ _ _ hk hp, lendL_nil', lendL_nil']
  rfl
theorem lend_cap2 (a : A) (nm : String) (id1 id2 sz1 sz2 : Nat) (row1 row2 : List A) (H : Heap) (hf : flatA a = true) (hn : normA a = a) (hk1 : H[id1]? = some (.live ⟨0, sz1, [row1]⟩)) (hp1 : pureL row1 = true) (hk2 : H[id2]? = some (.live ⟨0, sz2, [row2]⟩)) (hp2 : pureL row2 = true) :
    lendL lendFuel [a, .fn nm [.ptr id1 0 0 0, .ptr id2 0 0 0]] H = some [a, .fn nm [.cptr row1, .cptr row2]] := by
  rw [show lendFuel = 999 + 1 from rfl, lendL_cons' _ _ _ _ (by simp [pureA]), show (999 : Nat) = 998 + 1 from rfl, lendA_flat _ _ _ hf, hn, Option.bind_some, lendL_cons' _ _ _ _ (by simp [pureA]),
    show (998 : Nat) = 997 + 1 from rfl, lendA_fn', show (997 : Nat) = 996 + 1 from rfl, lendL_cons' _ _ _ _ (by simp [pureA]), show (996 : Nat) = 994 + 2 from rfl, lendA_ptr' _ _ _ _ _ hk1 hp1, lendL_cons' _ _ _ _ (by simp [pureA]),
    show (994 + 1 : Nat) = 993 + 2 from rfl, lendA_ptr' _ _ _ _ _ hk2 hp2, lendL_nil', lendL_nil']
  rfl

end Go.Ab.T
