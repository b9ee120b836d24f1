/-
  THE PROGRAM'S FUNCTIONS OVER VALUES WITHOUT ADDRESSES. Written by a program (emit.py).
-/
import Derived.Test.YtdeecocfcihkjaaAbsPrim
set_option maxRecDepth 100000
set_option linter.unusedVariables false
namespace Go.Ab.F
open Go Go.Ab

def ref20_World_k1 (objs : Heap) (a0 : A) : Ex → List A → Heap → Option (Out × Heap) := fun e5 vs3 h4 =>
      (match e5 with
  | .normal => oCond (vs3.getD 0 .any) (finish objs.length (.ok (.tup [(.s (.slice none 0 0)), (.s (.int .i64 205))])) h4)
      (oBuildP [.s (.int .i64 0), .s (.slice none 0 0)] [(0, none, (.s (.int .i64 2)))] fun x8 =>
      oNew none (some 2) (.agg [.s (.int .i64 0), .s (.slice none 0 0)]) h4 fun x9 h10 =>
      oStore (some 2) x9 x8 h10 fun h11 =>
      oLoad (some 2) x9 h11 fun x12 =>
      oBuildP [.s (.int .u64 0), .s (.int .i64 0)] [(0, none, (.s (.int .u64 65))), (1, none, (.s (.int .i64 1)))] fun x13 =>
      oBuildP [.s (.int .u64 0), .s (.int .i64 0)] [(0, none, (.s (.int .u64 66))), (1, none, (.s (.int .i64 1)))] fun x14 =>
      oNewSlice none 2 (asRows (some 2) [x13, x14]) h11 fun x15 h16 =>
      oBuildP [.s (.int .u64 0), .s (.int .i64 0), .s (.int .i64 0), .s (.slice none 0 0), .s (.int .i64 0), .s (.slice none 0 0), .s (.int .i64 0), .s (.int .i64 0), .s (.slice none 0 0), .s (.slice none 0 0), .s (.int .u64 0), .s (.int .u64 0), .s (.int .u64 0), .s (.int .u64 0), .s (.int .i64 0), .s (.int .i64 0), .s (.bool false), .s (.int .u64 0), .s (.int .u64 0), .s (.int .u64 0), .s (.int .u64 0), .s (.int .u64 0), .s (.int .u64 0), .s (.int .u64 0), .s (.int .u64 0), .s (.int .u64 0)] [(0, none, (.s (.int .u64 1))), (1, none, (.s (.int .i64 1))), (2, (some 2), x12), (6, none, a0), (7, none, (.s (.int .i64 2))), (8, none, x15)] fun x17 =>
      oLoad (some 2) x9 h16 fun x18 =>
      oBuildP [.s (.int .u64 0), .s (.int .i64 0), .s (.int .i64 0), .s (.slice none 0 0), .s (.int .i64 0), .s (.slice none 0 0), .s (.int .i64 0), .s (.int .i64 0), .s (.slice none 0 0), .s (.slice none 0 0), .s (.int .u64 0), .s (.int .u64 0), .s (.int .u64 0), .s (.int .u64 0), .s (.int .i64 0), .s (.int .i64 0), .s (.bool false), .s (.int .u64 0), .s (.int .u64 0), .s (.int .u64 0), .s (.int .u64 0), .s (.int .u64 0), .s (.int .u64 0), .s (.int .u64 0), .s (.int .u64 0), .s (.int .u64 0)] [(0, none, (.s (.int .u64 65))), (1, none, (.s (.int .i64 6))), (2, (some 2), x18), (6, none, (.s (.int .i64 1)))] fun x19 =>
      oLoad (some 2) x9 h16 fun x20 =>
      oLoad (some 2) x9 h16 fun x21 =>
      oBuildP [.s (.int .u64 0), .s (.int .i64 0), .s (.int .i64 0), .s (.slice none 0 0), .s (.int .i64 0), .s (.slice none 0 0), .s (.int .i64 0), .s (.int .i64 0), .s (.slice none 0 0), .s (.slice none 0 0), .s (.int .u64 0), .s (.int .u64 0), .s (.int .u64 0), .s (.int .u64 0), .s (.int .i64 0), .s (.int .i64 0), .s (.bool false), .s (.int .u64 0), .s (.int .u64 0), .s (.int .u64 0), .s (.int .u64 0), .s (.int .u64 0), .s (.int .u64 0), .s (.int .u64 0), .s (.int .u64 0), .s (.int .u64 0)] [(0, none, (.s (.int .u64 66))), (1, none, (.s (.int .i64 2))), (2, (some 2), x20), (4, (some 2), x21), (6, none, (.s (.int .i64 1)))] fun x22 =>
      oNewSlice none 26 (asRows (some 26) [x17, x19, x22]) h16 fun x23 h24 =>
      finish objs.length (.ok (.tup [x23, (.s (.int .i64 0))])) h24)
  | .exit i6 => none
  | .ret => finish objs.length (.ok (.tup [(.s (.slice none 0 0)), (.s (.int .i64 0))])) h4
  | .panic v7 => finish objs.length (.pan v7) h4)

/-- bailey/baileyref20.World -/
def ref20_World : CallFn := fun args objs =>
match args with
| [a0] =>
oJoin (oCmp .lss a0 (.s (.int .i64 4)) fun x1 =>
      oGuard x1 false (fun _ => oCmp .gtr a0 (.s (.int .i64 48)) fun x2 =>
      (trim true objs.length [x2] objs).map fun p => (Ex.normal, p.1, p.2))
      (fun _ => (trim true objs.length [(.s (.bool true))] objs).map fun p => (Ex.normal, p.1, p.2))) (ref20_World_k1 objs a0)
| _ => none

def slices_Grow_Sapi_Cat_api_Cat_k1 (objs : Heap) : Ex → List A → Heap → Option (Out × Heap) := fun e16 vs14 h15 =>
      (match e16 with
  | .normal => finish objs.length (.ok (vs14.getD 0 .any)) h15
  | .exit i17 => none
  | .ret => finish objs.length (.ok (.s (.slice none 0 0))) h15
  | .panic v18 => finish objs.length (.pan v18) h15)

def slices_Grow_Sapi_Cat_api_Cat_k2 (a0 : A) (a1 : A) (objs : Heap) : Ex → List A → Heap → Option (Out × Heap) := fun e4 vs2 h3 =>
      (match e4 with
  | .normal => oJoin (oCap a0 fun x7 =>
      oLen a0 fun x8 =>
      oAr .sub x7 x8 fun x9 =>
      oAr .sub a1 x9 fun x10 =>
      oCmp .gtr x10 (.s (.int .i64 0)) fun x11 =>
      oCond x11 (oCap a0 fun x12 =>
      oSlice 2 a0 none (some x12) fun x13 =>
      none)
      ((trim true h3.length [a0] h3).map fun p => (Ex.normal, p.1, p.2))) (slices_Grow_Sapi_Cat_api_Cat_k1 objs)
  | .exit i5 => none
  | .ret => finish objs.length (.ok (.s (.slice none 0 0))) h3
  | .panic v6 => finish objs.length (.pan v6) h3)

/-- slices.Grow[[]bailey/api.Cat,bailey/api.Cat] -/
def slices_Grow_Sapi_Cat_api_Cat : CallFn := fun args objs =>
match args with
| [a0, a1] =>
oJoin (oCmp .lss a1 (.s (.int .i64 0)) fun x1 =>
      oCond x1 (none)
      ((trim true objs.length [] objs).map fun p => (Ex.normal, p.1, p.2))) (slices_Grow_Sapi_Cat_api_Cat_k2 a0 a1 objs)
| _ => none

def slices_Concat_Sapi_Cat_api_Cat_k1 (s2 : List A × Heap) (objs : Heap) : Ex → List A → Heap → Option ((List A × Heap) ⊕ (Ex × List A × Heap)) := fun e11 vs9 h10 =>
      (match e11 with
  | .normal => oAr .add (s2.1.getD 1 .any) (.s (.int .i64 1)) fun x14 =>
      (trim true objs.length [(vs9.getD 0 .any), x14] h10).map .inl
  | .exit i12 => (trim true objs.length [(vs9.getD 0 .any)] h10).map fun p => .inr (Ex.exit i12, p.1, p.2)
  | .ret => (trim true objs.length [(vs9.getD 0 .any)] h10).map fun p => .inr (Ex.ret, p.1, p.2)
  | .panic v13 => some (.inr (Ex.panic v13, [.any], h10)))

def slices_Concat_Sapi_Cat_api_Cat_l2 (x1 : A) (a0 : A) (objs : Heap) : List A × Heap → Option ((List A × Heap) ⊕ (Ex × List A × Heap)) := fun s2 =>
      oCmp .lss (s2.1.getD 1 .any) x1 fun x3 =>
      oCond x3 (oJoin (oIdxA 1 a0 (s2.1.getD 1 .any) fun x4 =>
      oLoad none x4 s2.2 fun x5 =>
      oLen x5 fun x6 =>
      oAr .add (s2.1.getD 0 .any) x6 fun x7 =>
      oCmp .lss x7 (.s (.int .i64 0)) fun x8 =>
      oCond x8 (none)
      ((trim true s2.2.length [x7] s2.2).map fun p => (Ex.normal, p.1, p.2))) (slices_Concat_Sapi_Cat_api_Cat_k1 s2 objs))
      ((trim true objs.length [(s2.1.getD 0 .any)] s2.2).map fun p => .inr (Ex.exit 0, p.1, p.2))

def slices_Concat_Sapi_Cat_api_Cat_l3 (x24 : A) (a0 : A) (h21 : Heap) : List A × Heap → Option ((List A × Heap) ⊕ (Ex × List A × Heap)) := fun s25 =>
      oCmp .lss (s25.1.getD 1 .any) x24 fun x26 =>
      oCond x26 (oIdxA 1 a0 (s25.1.getD 1 .any) fun x27 =>
      oLoad none x27 s25.2 fun x28 =>
      oAppend none 2 16 (s25.1.getD 0 .any) x28 s25.2 fun x29 h30 =>
      oAr .add (s25.1.getD 1 .any) (.s (.int .i64 1)) fun x31 =>
      (trim true h21.length [x29, x31] h30).map .inl)
      ((trim true h21.length [(s25.1.getD 0 .any)] s25.2).map fun p => .inr (Ex.exit 2, p.1, p.2))

def slices_Concat_Sapi_Cat_api_Cat_k4 (objs : Heap) : Ex → List A → Heap → Option (Out × Heap) := fun e32 vs33 h34 =>
      (match e32 with
  | .normal => none
  | .exit i35 => if i35 = 2 then finish objs.length (.ok (vs33.getD 0 .any)) h34 else none
  | .ret => finish objs.length (.ok (.s (.slice none 0 0))) h34
  | .panic v36 => finish objs.length (.pan v36) h34)

def slices_Concat_Sapi_Cat_api_Cat_k5 (objs : Heap) (a0 : A) : Ex → List A → Heap → Option (Out × Heap) := fun e15 vs16 h17 =>
      (match e15 with
  | .normal => none
  | .exit i18 => if i18 = 0 then oCall slices_Grow_Sapi_Cat_api_Cat [(.s (.slice none 0 0)), (vs16.getD 0 .any)] h17 (fun v22 h23 => finish objs.length (.pan v22) h23) fun x20 h21 =>
      oLen a0 fun x24 =>
      oLoop (slices_Concat_Sapi_Cat_api_Cat_l3 x24 a0 h21) ([x20, (.s (.int .i64 0))], h21) (slices_Concat_Sapi_Cat_api_Cat_k4 objs) else none
  | .ret => finish objs.length (.ok (.s (.slice none 0 0))) h17
  | .panic v19 => finish objs.length (.pan v19) h17)

/-- slices.Concat[[]bailey/api.Cat,bailey/api.Cat] -/
def slices_Concat_Sapi_Cat_api_Cat : CallFn := fun args objs =>
match args with
| [a0] =>
oLen a0 fun x1 =>
      oLoop (slices_Concat_Sapi_Cat_api_Cat_l2 x1 a0 objs) ([(.s (.int .i64 0)), (.s (.int .i64 0))], objs) (slices_Concat_Sapi_Cat_api_Cat_k5 objs a0)
| _ => none

def math_bits_Len32_k1 (objs : Heap) : Ex → List A → Heap → Option (Out × Heap) := fun e13 vs11 h12 =>
      (match e13 with
  | .normal => oConv .u8 (vs11.getD 0 .any) fun x16 =>
      oIndexStr (.s (.string ((ByteArray.mk #[0, 1, 2, 2, 3, 3, 3, 3, 4, 4, 4, 4, 4, 4, 4, 4, 5, 5, 5, 5, 5, 5, 5, 5, 5, 5, 5, 5, 5, 5, 5, 5, 6, 6, 6, 6, 6, 6, 6, 6, 6, 6, 6, 6, 6, 6, 6, 6, 6, 6, 6, 6, 6, 6, 6, 6, 6, 6, 6, 6, 6, 6, 6, 6, 7, 7, 7, 7, 7, 7, 7, 7, 7, 7, 7, 7, 7, 7, 7, 7, 7, 7, 7, 7, 7, 7, 7, 7, 7, 7, 7, 7, 7, 7, 7, 7, 7, 7, 7, 7, 7, 7, 7, 7, 7, 7, 7, 7, 7, 7, 7, 7, 7, 7, 7, 7, 7, 7, 7, 7, 7, 7, 7, 7, 7, 7, 7, 7, 8, 8, 8, 8, 8, 8, 8, 8, 8, 8, 8, 8, 8, 8, 8, 8, 8, 8, 8, 8, 8, 8, 8, 8, 8, 8, 8, 8, 8, 8, 8, 8, 8, 8, 8, 8, 8, 8, 8, 8, 8, 8, 8, 8, 8, 8, 8, 8, 8, 8, 8, 8, 8, 8, 8, 8, 8, 8, 8, 8, 8, 8, 8, 8, 8, 8, 8, 8, 8, 8, 8, 8, 8, 8, 8, 8, 8, 8, 8, 8, 8, 8, 8, 8, 8, 8, 8, 8, 8, 8, 8, 8, 8, 8, 8, 8, 8, 8, 8, 8, 8, 8, 8, 8, 8, 8, 8, 8, 8, 8, 8, 8, 8, 8, 8, 8, 8, 8, 8, 8, 8, 8, 8, 8, 8, 8, 8, 8])))) x16 fun x17 =>
      oConv .i64 x17 fun x18 =>
      oAr .add (vs11.getD 1 .any) x18 fun x19 =>
      finish objs.length (.ok x19) h12
  | .exit i14 => none
  | .ret => finish objs.length (.ok (vs11.getD 1 .any)) h12
  | .panic v15 => finish objs.length (.pan v15) h12)

def math_bits_Len32_k2 (objs : Heap) : Ex → List A → Heap → Option (Out × Heap) := fun e5 vs3 h4 =>
      (match e5 with
  | .normal => oJoin (oCmp .geq (vs3.getD 0 .any) (.s (.int .u32 256)) fun x8 =>
      oCond x8 (oShift .shr (vs3.getD 0 .any) (.s (.int .u64 8)) fun x9 =>
      oAr .add (vs3.getD 1 .any) (.s (.int .i64 8)) fun x10 =>
      (trim true h4.length [x9, x10] h4).map fun p => (Ex.normal, p.1, p.2))
      ((trim true h4.length [(vs3.getD 0 .any), (vs3.getD 1 .any)] h4).map fun p => (Ex.normal, p.1, p.2))) (math_bits_Len32_k1 objs)
  | .exit i6 => none
  | .ret => finish objs.length (.ok (vs3.getD 1 .any)) h4
  | .panic v7 => finish objs.length (.pan v7) h4)

/-- math/bits.Len32 -/
def math_bits_Len32 : CallFn := fun args objs =>
match args with
| [a0] =>
oJoin (oCmp .geq a0 (.s (.int .u32 65536)) fun x1 =>
      oCond x1 (oShift .shr a0 (.s (.int .u64 16)) fun x2 =>
      (trim true objs.length [x2, (.s (.int .i64 16))] objs).map fun p => (Ex.normal, p.1, p.2))
      ((trim true objs.length [a0, (.s (.int .i64 0))] objs).map fun p => (Ex.normal, p.1, p.2))) (math_bits_Len32_k2 objs)
| _ => none

def math_bits_Len64_k1 (objs : Heap) : Ex → List A → Heap → Option (Out × Heap) := fun e21 vs19 h20 =>
      (match e21 with
  | .normal => oConv .u8 (vs19.getD 0 .any) fun x24 =>
      oIndexStr (.s (.string ((ByteArray.mk #[0, 1, 2, 2, 3, 3, 3, 3, 4, 4, 4, 4, 4, 4, 4, 4, 5, 5, 5, 5, 5, 5, 5, 5, 5, 5, 5, 5, 5, 5, 5, 5, 6, 6, 6, 6, 6, 6, 6, 6, 6, 6, 6, 6, 6, 6, 6, 6, 6, 6, 6, 6, 6, 6, 6, 6, 6, 6, 6, 6, 6, 6, 6, 6, 7, 7, 7, 7, 7, 7, 7, 7, 7, 7, 7, 7, 7, 7, 7, 7, 7, 7, 7, 7, 7, 7, 7, 7, 7, 7, 7, 7, 7, 7, 7, 7, 7, 7, 7, 7, 7, 7, 7, 7, 7, 7, 7, 7, 7, 7, 7, 7, 7, 7, 7, 7, 7, 7, 7, 7, 7, 7, 7, 7, 7, 7, 7, 7, 8, 8, 8, 8, 8, 8, 8, 8, 8, 8, 8, 8, 8, 8, 8, 8, 8, 8, 8, 8, 8, 8, 8, 8, 8, 8, 8, 8, 8, 8, 8, 8, 8, 8, 8, 8, 8, 8, 8, 8, 8, 8, 8, 8, 8, 8, 8, 8, 8, 8, 8, 8, 8, 8, 8, 8, 8, 8, 8, 8, 8, 8, 8, 8, 8, 8, 8, 8, 8, 8, 8, 8, 8, 8, 8, 8, 8, 8, 8, 8, 8, 8, 8, 8, 8, 8, 8, 8, 8, 8, 8, 8, 8, 8, 8, 8, 8, 8, 8, 8, 8, 8, 8, 8, 8, 8, 8, 8, 8, 8, 8, 8, 8, 8, 8, 8, 8, 8, 8, 8, 8, 8, 8, 8, 8, 8, 8, 8])))) x24 fun x25 =>
      oConv .i64 x25 fun x26 =>
      oAr .add (vs19.getD 1 .any) x26 fun x27 =>
      finish objs.length (.ok x27) h20
  | .exit i22 => none
  | .ret => finish objs.length (.ok (vs19.getD 1 .any)) h20
  | .panic v23 => finish objs.length (.pan v23) h20)

def math_bits_Len64_k2 (objs : Heap) : Ex → List A → Heap → Option (Out × Heap) := fun e13 vs11 h12 =>
      (match e13 with
  | .normal => oJoin (oCmp .geq (vs11.getD 0 .any) (.s (.int .u64 256)) fun x16 =>
      oCond x16 (oShift .shr (vs11.getD 0 .any) (.s (.int .u64 8)) fun x17 =>
      oAr .add (vs11.getD 1 .any) (.s (.int .i64 8)) fun x18 =>
      (trim true h12.length [x17, x18] h12).map fun p => (Ex.normal, p.1, p.2))
      ((trim true h12.length [(vs11.getD 0 .any), (vs11.getD 1 .any)] h12).map fun p => (Ex.normal, p.1, p.2))) (math_bits_Len64_k1 objs)
  | .exit i14 => none
  | .ret => finish objs.length (.ok (vs11.getD 1 .any)) h12
  | .panic v15 => finish objs.length (.pan v15) h12)

def math_bits_Len64_k3 (objs : Heap) : Ex → List A → Heap → Option (Out × Heap) := fun e5 vs3 h4 =>
      (match e5 with
  | .normal => oJoin (oCmp .geq (vs3.getD 0 .any) (.s (.int .u64 65536)) fun x8 =>
      oCond x8 (oShift .shr (vs3.getD 0 .any) (.s (.int .u64 16)) fun x9 =>
      oAr .add (vs3.getD 1 .any) (.s (.int .i64 16)) fun x10 =>
      (trim true h4.length [x9, x10] h4).map fun p => (Ex.normal, p.1, p.2))
      ((trim true h4.length [(vs3.getD 0 .any), (vs3.getD 1 .any)] h4).map fun p => (Ex.normal, p.1, p.2))) (math_bits_Len64_k2 objs)
  | .exit i6 => none
  | .ret => finish objs.length (.ok (vs3.getD 1 .any)) h4
  | .panic v7 => finish objs.length (.pan v7) h4)

/-- math/bits.Len64 -/
def math_bits_Len64 : CallFn := fun args objs =>
match args with
| [a0] =>
oJoin (oCmp .geq a0 (.s (.int .u64 4294967296)) fun x1 =>
      oCond x1 (oShift .shr a0 (.s (.int .u64 32)) fun x2 =>
      (trim true objs.length [x2, (.s (.int .i64 32))] objs).map fun p => (Ex.normal, p.1, p.2))
      ((trim true objs.length [a0, (.s (.int .i64 0))] objs).map fun p => (Ex.normal, p.1, p.2))) (math_bits_Len64_k3 objs)
| _ => none

/-- math/bits.Len -/
def math_bits_Len : CallFn := fun args objs =>
match args with
| [a0] =>
oLend math_bits_Len64 [a0] objs (fun v3 h4 => finish objs.length (.pan v3) h4) fun w5 h6 => oFrz w5 h6 fun x1 h2 =>
      finish objs.length (.ok x1) h2
| _ => none

/-- cmp.isNaN[uint64] -/
def cmp_isNaN_uint64 : CallFn := fun args objs =>
match args with
| [a0] =>
oCmp .neq a0 a0 fun x1 =>
      finish objs.length (.ok x1) objs
| _ => none

/-- cmp.Less[uint64] -/
def cmp_Less_uint64 : CallFn := fun args objs =>
match args with
| [a0, a1] =>
oLend cmp_isNaN_uint64 [a0] objs (fun v3 h4 => finish objs.length (.pan v3) h4) fun w14 h15 => oFrz w14 h15 fun x1 h2 =>
      oGuard x1 true (fun _ => oLend cmp_isNaN_uint64 [a1] h2 (fun v7 h8 => finish objs.length (.pan v7) h8) fun w11 h12 => oFrz w11 h12 fun x5 h6 =>
      oNot x5 fun x9 =>
      oGuard x9 false (fun _ => oCmp .lss a0 a1 fun x10 =>
      finish objs.length (.ok x10) h6)
      (fun _ => finish objs.length (.ok (.s (.bool true))) h6))
      (fun _ => oCmp .lss a0 a1 fun x13 =>
      finish objs.length (.ok x13) h2)
| _ => none

def slices_insertionSortOrdered_uint64_k1 (s4 : List A × Heap) : Ex → List A → Heap → Option (Ex × List A × Heap) := fun e19 vs17 h18 =>
      (match e19 with
  | .normal => oCond (vs17.getD 0 .any) ((trim true s4.2.length [(vs17.getD 0 .any)] h18).map fun p => (Ex.normal, p.1, p.2))
      ((trim true s4.2.length [(vs17.getD 0 .any)] h18).map fun p => (Ex.exit 2, p.1, p.2))
  | .exit i20 => (trim true s4.2.length [(vs17.getD 0 .any)] h18).map fun p => (Ex.exit i20, p.1, p.2)
  | .ret => (trim true s4.2.length [(vs17.getD 0 .any)] h18).map fun p => (Ex.ret, p.1, p.2)
  | .panic v21 => some (Ex.panic v21, [], h18))

def slices_insertionSortOrdered_uint64_k2 (s4 : List A × Heap) (a0 : A) (s2 : List A × Heap) : Ex → List A → Heap → Option ((List A × Heap) ⊕ (Ex × List A × Heap)) := fun e24 vs22 h23 =>
      (match e24 with
  | .normal => oAr .sub (s4.1.getD 0 .any) (.s (.int .i64 1)) fun x27 =>
      oAr .sub (s4.1.getD 0 .any) (.s (.int .i64 1)) fun x28 =>
      oIdxA 1 a0 x28 fun x29 =>
      oLoadD h23.length [] none x29 h23 fun x30 h31 =>
      oIdxA 1 a0 (s4.1.getD 0 .any) fun x32 =>
      oLoadD h23.length [] none x32 h31 fun x33 h34 =>
      oIdxA 1 a0 (s4.1.getD 0 .any) fun x35 =>
      oStore none x35 x30 h34 fun h36 =>
      oIdxA 1 a0 x27 fun x37 =>
      oStore none x37 x33 h36 fun h38 =>
      oAr .sub (s4.1.getD 0 .any) (.s (.int .i64 1)) fun x39 =>
      (trim true s2.2.length [x39] h38).map .inl
  | .exit i25 => (trim true s2.2.length [] h23).map fun p => .inr (Ex.exit i25, p.1, p.2)
  | .ret => (trim true s2.2.length [] h23).map fun p => .inr (Ex.ret, p.1, p.2)
  | .panic v26 => some (.inr (Ex.panic v26, [], h23)))

def slices_insertionSortOrdered_uint64_l3 (a1 : A) (a0 : A) (s2 : List A × Heap) : List A × Heap → Option ((List A × Heap) ⊕ (Ex × List A × Heap)) := fun s4 =>
      oJoin (oJoin (oCmp .gtr (s4.1.getD 0 .any) a1 fun x5 =>
      oGuard x5 true (fun _ => oIdxA 1 a0 (s4.1.getD 0 .any) fun x6 =>
      oLoadD s4.2.length [] none x6 s4.2 fun x7 h8 =>
      oAr .sub (s4.1.getD 0 .any) (.s (.int .i64 1)) fun x9 =>
      oIdxA 1 a0 x9 fun x10 =>
      oLoadD s4.2.length [] none x10 h8 fun x11 h12 =>
      oCallF s4.2.length [] cmp_Less_uint64 [x7, x11] h12 fun w15 h16 => oFrz w15 h16 fun x13 h14 =>
      (trim true s4.2.length [x13] h14).map fun p => (Ex.normal, p.1, p.2))
      (fun _ => (trim true s4.2.length [(.s (.bool false))] s4.2).map fun p => (Ex.normal, p.1, p.2))) (slices_insertionSortOrdered_uint64_k1 s4)) (slices_insertionSortOrdered_uint64_k2 s4 a0 s2)

def slices_insertionSortOrdered_uint64_k4 (s2 : List A × Heap) (objs : Heap) : Ex → List A → Heap → Option ((List A × Heap) ⊕ (Ex × List A × Heap)) := fun e40 vs41 h42 =>
      (match e40 with
  | .normal => none
  | .exit i43 => if i43 = 2 then oAr .add (s2.1.getD 0 .any) (.s (.int .i64 1)) fun x45 =>
      (trim true objs.length [x45] h42).map .inl else if i43 = 1 then oAr .add (s2.1.getD 0 .any) (.s (.int .i64 1)) fun x46 =>
      (trim true objs.length [x46] h42).map .inl else (trim true objs.length [] h42).map fun p => .inr (Ex.exit i43, p.1, p.2)
  | .ret => (trim true objs.length [] h42).map fun p => .inr (Ex.ret, p.1, p.2)
  | .panic v44 => some (.inr (Ex.panic v44, [], h42)))

def slices_insertionSortOrdered_uint64_l5 (a2 : A) (a1 : A) (a0 : A) (objs : Heap) : List A × Heap → Option ((List A × Heap) ⊕ (Ex × List A × Heap)) := fun s2 =>
      oCmp .lss (s2.1.getD 0 .any) a2 fun x3 =>
      oCond x3 (oLoop (slices_insertionSortOrdered_uint64_l3 a1 a0 s2) ([(s2.1.getD 0 .any)], s2.2) (slices_insertionSortOrdered_uint64_k4 s2 objs))
      ((trim true objs.length [] s2.2).map fun p => .inr (Ex.exit 0, p.1, p.2))

def slices_insertionSortOrdered_uint64_k6 (objs : Heap) : Ex → List A → Heap → Option (Out × Heap) := fun e47 vs48 h49 =>
      (match e47 with
  | .normal => none
  | .exit i50 => if i50 = 0 then finish objs.length (.ok (.s (.tuple #[]))) h49 else none
  | .ret => finish objs.length (.ok (.s (.tuple #[]))) h49
  | .panic v51 => finish objs.length (.pan v51) h49)

/-- slices.insertionSortOrdered[uint64] -/
def slices_insertionSortOrdered_uint64 : CallFn := fun args objs =>
match args with
| [a0, a1, a2] =>
oAr .add a1 (.s (.int .i64 1)) fun x1 =>
      oLoop (slices_insertionSortOrdered_uint64_l5 a2 a1 a0 objs) ([x1], objs) (slices_insertionSortOrdered_uint64_k6 objs)
| _ => none

def slices_pdqsortOrdered_uint64_k1 (a0 : A) (s1 : List A × Heap) (h47 : Heap) : Ex → List A → Heap → Option (Ex × List A × Heap) := fun e54 vs52 h53 =>
      (match e54 with
  | .normal => oCond (vs52.getD 0 .any) (oLend (fun _ _ => none) [a0, (s1.1.getD 0 .any), (s1.1.getD 1 .any)] h53 (fun v59 h60 => some (Ex.panic v59, [], h60)) fun w61 h62 => oFrz w61 h62 fun x57 h58 =>
      oCond x57 ((trim true h47.length [] h58).map fun p => (Ex.ret, p.1, p.2))
      ((trim true h47.length [] h58).map fun p => (Ex.normal, p.1, p.2)))
      ((trim true h47.length [] h53).map fun p => (Ex.normal, p.1, p.2))
  | .exit i55 => (trim true h47.length [] h53).map fun p => (Ex.exit i55, p.1, p.2)
  | .ret => (trim true h47.length [] h53).map fun p => (Ex.ret, p.1, p.2)
  | .panic v56 => some (Ex.panic v56, [], h53))

def slices_pdqsortOrdered_uint64_k2 (self : CallFn) (a0 : A) (s1 : List A × Heap) (vs46 : List A) (objs : Heap) (vs25 : List A) (x2 : A) : Ex → List A → Heap → Option ((List A × Heap) ⊕ (Ex × List A × Heap)) := fun e83 vs81 h82 =>
      (match e83 with
  | .normal => oCond (vs81.getD 0 .any) (oLend (fun _ _ => none) [a0, (s1.1.getD 0 .any), (s1.1.getD 1 .any), (vs46.getD 0 .any)] h82 (fun v88 h89 => some (.inr (Ex.panic v88, [], h89))) fun w90 h91 => oFrz w90 h91 fun x86 h87 =>
      (trim true objs.length [x86, (s1.1.getD 1 .any), (vs25.getD 0 .any), (s1.1.getD 3 .any), (s1.1.getD 4 .any)] h87).map .inl)
      (oLend (fun _ _ => none) [a0, (s1.1.getD 0 .any), (s1.1.getD 1 .any), (vs46.getD 0 .any)] h82 (fun v94 h95 => some (.inr (Ex.panic v94, [], h95))) fun w118 h119 => oFrz w118 h119 fun x92 h93 =>
      oExtract 0 x92 fun x96 =>
      oExtract 1 x92 fun x97 =>
      oAr .sub x96 (s1.1.getD 0 .any) fun x98 =>
      oAr .sub (s1.1.getD 1 .any) x96 fun x99 =>
      oAr .quo x2 (.s (.int .i64 8)) fun x100 =>
      oCmp .lss x98 x99 fun x101 =>
      oCond x101 (oCmp .geq x98 x100 fun x102 =>
      oCall self [a0, (s1.1.getD 0 .any), x96, (vs25.getD 0 .any)] h93 (fun v105 h106 => some (.inr (Ex.panic v105, [], h106))) fun w108 h109 => oFrz w108 h109 fun x103 h104 =>
      oAr .add x96 (.s (.int .i64 1)) fun x107 =>
      (trim true objs.length [x107, (s1.1.getD 1 .any), (vs25.getD 0 .any), x102, x97] h104).map .inl)
      (oCmp .geq x99 x100 fun x110 =>
      oAr .add x96 (.s (.int .i64 1)) fun x111 =>
      oCall self [a0, x111, (s1.1.getD 1 .any), (vs25.getD 0 .any)] h93 (fun v114 h115 => some (.inr (Ex.panic v114, [], h115))) fun w116 h117 => oFrz w116 h117 fun x112 h113 =>
      (trim true objs.length [(s1.1.getD 0 .any), x96, (vs25.getD 0 .any), x110, x97] h113).map .inl))
  | .exit i84 => if i84 = 1 then (trim true objs.length [(s1.1.getD 0 .any), (s1.1.getD 1 .any), (vs25.getD 0 .any), (s1.1.getD 3 .any), (s1.1.getD 4 .any)] h82).map .inl else (trim true objs.length [] h82).map fun p => .inr (Ex.exit i84, p.1, p.2)
  | .ret => (trim true objs.length [] h82).map fun p => .inr (Ex.ret, p.1, p.2)
  | .panic v85 => some (.inr (Ex.panic v85, [], h82)))

def slices_pdqsortOrdered_uint64_k3 (self : CallFn) (s1 : List A × Heap) (a0 : A) (vs46 : List A) (objs : Heap) (vs25 : List A) (x2 : A) : Ex → List A → Heap → Option ((List A × Heap) ⊕ (Ex × List A × Heap)) := fun e65 vs63 h64 =>
      (match e65 with
  | .normal => oJoin (oCmp .gtr (s1.1.getD 0 .any) (.s (.int .i64 0)) fun x68 =>
      oGuard x68 true (fun _ => oAr .sub (s1.1.getD 0 .any) (.s (.int .i64 1)) fun x69 =>
      oIdxA 1 a0 x69 fun x70 =>
      oLoadD h64.length [] none x70 h64 fun x71 h72 =>
      oIdxA 1 a0 (vs46.getD 0 .any) fun x73 =>
      oLoadD h64.length [] none x73 h72 fun x74 h75 =>
      oCallF h64.length [] cmp_Less_uint64 [x71, x74] h75 fun w79 h80 => oFrz w79 h80 fun x76 h77 =>
      oNot x76 fun x78 =>
      (trim true h64.length [x78] h77).map fun p => (Ex.normal, p.1, p.2))
      (fun _ => (trim true h64.length [(.s (.bool false))] h64).map fun p => (Ex.normal, p.1, p.2))) (slices_pdqsortOrdered_uint64_k2 self a0 s1 vs46 objs vs25 x2)
  | .exit i66 => if i66 = 1 then (trim true objs.length [(s1.1.getD 0 .any), (s1.1.getD 1 .any), (vs25.getD 0 .any), (s1.1.getD 3 .any), (s1.1.getD 4 .any)] h64).map .inl else (trim true objs.length [] h64).map fun p => .inr (Ex.exit i66, p.1, p.2)
  | .ret => (trim true objs.length [] h64).map fun p => .inr (Ex.ret, p.1, p.2)
  | .panic v67 => some (.inr (Ex.panic v67, [], h64)))

def slices_pdqsortOrdered_uint64_k4 (self : CallFn) (s1 : List A × Heap) (a0 : A) (objs : Heap) (vs25 : List A) (x2 : A) : Ex → List A → Heap → Option ((List A × Heap) ⊕ (Ex × List A × Heap)) := fun e48 vs46 h47 =>
      (match e48 with
  | .normal => oJoin (oJoin (oGuard (s1.1.getD 3 .any) true (fun _ => oGuard (s1.1.getD 4 .any) true (fun _ => oCmp .eql (vs46.getD 1 .any) (.s (.int .i64 1)) fun x51 =>
      (trim true h47.length [x51] h47).map fun p => (Ex.normal, p.1, p.2))
      (fun _ => (trim true h47.length [(.s (.bool false))] h47).map fun p => (Ex.normal, p.1, p.2)))
      (fun _ => (trim true h47.length [(.s (.bool false))] h47).map fun p => (Ex.normal, p.1, p.2))) (slices_pdqsortOrdered_uint64_k1 a0 s1 h47)) (slices_pdqsortOrdered_uint64_k3 self s1 a0 vs46 objs vs25 x2)
  | .exit i49 => if i49 = 1 then (trim true objs.length [(s1.1.getD 0 .any), (s1.1.getD 1 .any), (vs25.getD 0 .any), (s1.1.getD 3 .any), (s1.1.getD 4 .any)] h47).map .inl else (trim true objs.length [] h47).map fun p => .inr (Ex.exit i49, p.1, p.2)
  | .ret => (trim true objs.length [] h47).map fun p => .inr (Ex.ret, p.1, p.2)
  | .panic v50 => some (.inr (Ex.panic v50, [], h47)))

def slices_pdqsortOrdered_uint64_k5 (self : CallFn) (a0 : A) (s1 : List A × Heap) (objs : Heap) (x2 : A) : Ex → List A → Heap → Option ((List A × Heap) ⊕ (Ex × List A × Heap)) := fun e27 vs25 h26 =>
      (match e27 with
  | .normal => oLend (fun _ _ => none) [a0, (s1.1.getD 0 .any), (s1.1.getD 1 .any)] h26 (fun v32 h33 => some (.inr (Ex.panic v32, [], h33))) fun w120 h121 => oFrz w120 h121 fun x30 h31 =>
      oExtract 0 x30 fun x34 =>
      oExtract 1 x30 fun x35 =>
      oJoin (oCmp .eql x35 (.s (.int .i64 2)) fun x36 =>
      oCond x36 (oLend (fun _ _ => none) [a0, (s1.1.getD 0 .any), (s1.1.getD 1 .any)] h31 (fun v39 h40 => some (Ex.panic v39, [], h40)) fun w44 h45 => oFrz w44 h45 fun x37 h38 =>
      oAr .sub (s1.1.getD 1 .any) (.s (.int .i64 1)) fun x41 =>
      oAr .sub x34 (s1.1.getD 0 .any) fun x42 =>
      oAr .sub x41 x42 fun x43 =>
      (trim true h31.length [x43, (.s (.int .i64 1))] h38).map fun p => (Ex.normal, p.1, p.2))
      ((trim true h31.length [x34, x35] h31).map fun p => (Ex.normal, p.1, p.2))) (slices_pdqsortOrdered_uint64_k4 self s1 a0 objs vs25 x2)
  | .exit i28 => if i28 = 1 then (trim true objs.length [(s1.1.getD 0 .any), (s1.1.getD 1 .any), (vs25.getD 0 .any), (s1.1.getD 3 .any), (s1.1.getD 4 .any)] h26).map .inl else (trim true objs.length [] h26).map fun p => .inr (Ex.exit i28, p.1, p.2)
  | .ret => (trim true objs.length [] h26).map fun p => .inr (Ex.ret, p.1, p.2)
  | .panic v29 => some (.inr (Ex.panic v29, [], h26)))

def slices_pdqsortOrdered_uint64_l6 (self : CallFn) (a0 : A) (objs : Heap) : List A × Heap → Option ((List A × Heap) ⊕ (Ex × List A × Heap)) := fun s1 =>
      oAr .sub (s1.1.getD 1 .any) (s1.1.getD 0 .any) fun x2 =>
      oCmp .leq x2 (.s (.int .i64 12)) fun x3 =>
      oCond x3 (oCall slices_insertionSortOrdered_uint64 [a0, (s1.1.getD 0 .any), (s1.1.getD 1 .any)] s1.2 (fun v6 h7 => some (.inr (Ex.panic v6, [], h7))) fun w8 h9 => oFrz w8 h9 fun x4 h5 =>
      (trim true objs.length [] h5).map fun p => .inr (Ex.ret, p.1, p.2))
      (oCmp .eql (s1.1.getD 2 .any) (.s (.int .i64 0)) fun x10 =>
      oCond x10 (oLend (fun _ _ => none) [a0, (s1.1.getD 0 .any), (s1.1.getD 1 .any)] s1.2 (fun v13 h14 => some (.inr (Ex.panic v13, [], h14))) fun w15 h16 => oFrz w15 h16 fun x11 h12 =>
      (trim true objs.length [] h12).map fun p => .inr (Ex.ret, p.1, p.2))
      (oJoin (oNot (s1.1.getD 3 .any) fun x17 =>
      oCond x17 (oLend (fun _ _ => none) [a0, (s1.1.getD 0 .any), (s1.1.getD 1 .any)] s1.2 (fun v20 h21 => some (Ex.panic v20, [], h21)) fun w23 h24 => oFrz w23 h24 fun x18 h19 =>
      oAr .sub (s1.1.getD 2 .any) (.s (.int .i64 1)) fun x22 =>
      (trim true s1.2.length [x22] h19).map fun p => (Ex.normal, p.1, p.2))
      ((trim true s1.2.length [(s1.1.getD 2 .any)] s1.2).map fun p => (Ex.normal, p.1, p.2))) (slices_pdqsortOrdered_uint64_k5 self a0 s1 objs x2)))

def slices_pdqsortOrdered_uint64_k7 (objs : Heap) : Ex → List A → Heap → Option (Out × Heap) := fun e122 vs123 h124 =>
      (match e122 with
  | .normal => none
  | .exit i125 => if i125 = 0 then finish objs.length (.ok (.s (.tuple #[]))) h124 else none
  | .ret => finish objs.length (.ok (.s (.tuple #[]))) h124
  | .panic v126 => finish objs.length (.pan v126) h124)

/-- slices.pdqsortOrdered[uint64] -/
def slices_pdqsortOrdered_uint64_step (self : CallFn) : CallFn := fun args objs =>
match args with
| [a0, a1, a2, a3] =>
oLoop (slices_pdqsortOrdered_uint64_l6 self a0 objs) ([a1, a2, a3, (.s (.bool true)), (.s (.bool true))], objs) (slices_pdqsortOrdered_uint64_k7 objs)
| _ => none

def slices_pdqsortOrdered_uint64 : Nat → CallFn
| 0 => fun _ _ => none
| n + 1 => slices_pdqsortOrdered_uint64_step (slices_pdqsortOrdered_uint64 n)

/-- slices.Sort[[]uint64,uint64] -/
def slices_Sort_Suint64_uint64 : CallFn := fun args objs =>
match args with
| [a0] =>
oLen a0 fun x1 =>
      oConv .u64 x1 fun x2 =>
      oLend math_bits_Len [x2] objs (fun v5 h6 => finish objs.length (.pan v5) h6) fun w13 h14 => oFrz w13 h14 fun x3 h4 =>
      oCall (slices_pdqsortOrdered_uint64 big) [a0, (.s (.int .i64 0)), x1, x3] h4 (fun v9 h10 => finish objs.length (.pan v9) h10) fun w11 h12 => oFrz w11 h12 fun x7 h8 =>
      finish objs.length (.ok (.s (.tuple #[]))) h8
| _ => none

def slices_Compact_Suint64_uint64_k1 (s15 : List A × Heap) (h12 : Heap) : Ex → List A → Heap → Option ((List A × Heap) ⊕ (Ex × List A × Heap)) := fun e33 vs31 h32 =>
      (match e33 with
  | .normal => oAr .add (s15.1.getD 1 .any) (.s (.int .i64 1)) fun x36 =>
      (trim true h12.length [(vs31.getD 0 .any), x36] h32).map .inl
  | .exit i34 => (trim true h12.length [(vs31.getD 0 .any)] h32).map fun p => .inr (Ex.exit i34, p.1, p.2)
  | .ret => (trim true h12.length [(vs31.getD 0 .any)] h32).map fun p => .inr (Ex.ret, p.1, p.2)
  | .panic v35 => some (.inr (Ex.panic v35, [.any], h32)))

def slices_Compact_Suint64_uint64_l2 (x14 : A) (a0 : A) (h12 : Heap) : List A × Heap → Option ((List A × Heap) ⊕ (Ex × List A × Heap)) := fun s15 =>
      oLen x14 fun x16 =>
      oCmp .lss (s15.1.getD 1 .any) x16 fun x17 =>
      oCond x17 (oJoin (oIdxA 1 x14 (s15.1.getD 1 .any) fun x18 =>
      oLoadD s15.2.length [] none x18 s15.2 fun x19 h20 =>
      oAr .sub (s15.1.getD 1 .any) (.s (.int .i64 1)) fun x21 =>
      oIdxA 1 x14 x21 fun x22 =>
      oLoadD s15.2.length [] none x22 h20 fun x23 h24 =>
      oCmp .neq x19 x23 fun x25 =>
      oCond x25 (oIdxA 1 x14 (s15.1.getD 1 .any) fun x26 =>
      oLoad none x26 h24 fun x27 =>
      oIdxA 1 a0 (s15.1.getD 0 .any) fun x28 =>
      oStore none x28 x27 h24 fun h29 =>
      oAr .add (s15.1.getD 0 .any) (.s (.int .i64 1)) fun x30 =>
      (trim true s15.2.length [x30] h29).map fun p => (Ex.normal, p.1, p.2))
      ((trim true s15.2.length [(s15.1.getD 0 .any)] h24).map fun p => (Ex.normal, p.1, p.2))) (slices_Compact_Suint64_uint64_k1 s15 h12))
      ((trim true h12.length [(s15.1.getD 0 .any)] s15.2).map fun p => .inr (Ex.exit 2, p.1, p.2))

def slices_Compact_Suint64_uint64_k3 (a0 : A) (objs : Heap) : Ex → List A → Heap → Option ((List A × Heap) ⊕ (Ex × List A × Heap)) := fun e37 vs38 h39 =>
      (match e37 with
  | .normal => none
  | .exit i40 => if i40 = 2 then oSlice 1 a0 (some (vs38.getD 0 .any)) none fun x42 =>
      none else if i40 = 1 then oAr .add (vs38.getD 0 .any) (.s (.int .i64 1)) fun x43 =>
      (trim true objs.length [x43] h39).map .inl else (trim true objs.length [.any] h39).map fun p => .inr (Ex.exit i40, p.1, p.2)
  | .ret => (trim true objs.length [.any] h39).map fun p => .inr (Ex.ret, p.1, p.2)
  | .panic v41 => some (.inr (Ex.panic v41, [.any], h39)))

def slices_Compact_Suint64_uint64_l4 (a0 : A) (objs : Heap) : List A × Heap → Option ((List A × Heap) ⊕ (Ex × List A × Heap)) := fun s3 =>
      oLen a0 fun x4 =>
      oCmp .lss (s3.1.getD 0 .any) x4 fun x5 =>
      oCond x5 (oIdxA 1 a0 (s3.1.getD 0 .any) fun x6 =>
      oLoadD s3.2.length [] none x6 s3.2 fun x7 h8 =>
      oAr .sub (s3.1.getD 0 .any) (.s (.int .i64 1)) fun x9 =>
      oIdxA 1 a0 x9 fun x10 =>
      oLoadD s3.2.length [] none x10 h8 fun x11 h12 =>
      oCmp .eql x7 x11 fun x13 =>
      oCond x13 (oSlice 1 a0 (some (s3.1.getD 0 .any)) none fun x14 =>
      oLoop (slices_Compact_Suint64_uint64_l2 x14 a0 h12) ([(s3.1.getD 0 .any), (.s (.int .i64 1))], h12) (slices_Compact_Suint64_uint64_k3 a0 objs))
      (oAr .add (s3.1.getD 0 .any) (.s (.int .i64 1)) fun x44 =>
      (trim true objs.length [x44] h12).map .inl))
      ((trim true objs.length [.any] s3.2).map fun p => .inr (Ex.exit 0, p.1, p.2))

def slices_Compact_Suint64_uint64_k5 (objs : Heap) (a0 : A) : Ex → List A → Heap → Option (Out × Heap) := fun e45 vs46 h47 =>
      (match e45 with
  | .normal => none
  | .exit i48 => if i48 = 0 then finish objs.length (.ok a0) h47 else none
  | .ret => finish objs.length (.ok (vs46.getD 0 .any)) h47
  | .panic v49 => finish objs.length (.pan v49) h47)

/-- slices.Compact[[]uint64,uint64] -/
def slices_Compact_Suint64_uint64 : CallFn := fun args objs =>
match args with
| [a0] =>
oLen a0 fun x1 =>
      oCmp .lss x1 (.s (.int .i64 2)) fun x2 =>
      oCond x2 (finish objs.length (.ok a0) objs)
      (oLoop (slices_Compact_Suint64_uint64_l4 a0 objs) ([(.s (.int .i64 1))], objs) (slices_Compact_Suint64_uint64_k5 objs a0))
| _ => none

def watch_Cats_l1 (x23 : A) (x19 : A) (h25 : Heap) : List A × Heap → Option ((List A × Heap) ⊕ (Ex × List A × Heap)) := fun s26 =>
      oCmp .lss (s26.1.getD 1 .any) x23 fun x27 =>
      oCond x27 (oIdxA 2 x19 (s26.1.getD 1 .any) fun x28 =>
      oLoad (some 2) x28 s26.2 fun x29 =>
      oNew none (some 2) (.agg [.s (.int .u64 0), .s (.int .i64 0)]) s26.2 fun x30 h31 =>
      oStore (some 2) x30 x29 h31 fun h32 =>
      oFieldA 0 x30 fun x33 =>
      oLoad none x33 h32 fun x34 =>
      oNewSlice none 1 (asRows none [x34]) h32 fun x35 h36 =>
      oAppend none 1 8 (s26.1.getD 0 .any) x35 h36 fun x37 h38 =>
      oAr .add (s26.1.getD 1 .any) (.s (.int .i64 1)) fun x39 =>
      (trim true h25.length [x37, x39] h38).map .inl)
      ((trim true h25.length [(s26.1.getD 0 .any)] s26.2).map fun p => .inr (Ex.exit 2, p.1, p.2))

def watch_Cats_k2 (s4 : List A × Heap) (h3 : Heap) : Ex → List A → Heap → Option ((List A × Heap) ⊕ (Ex × List A × Heap)) := fun e40 vs41 h42 =>
      (match e40 with
  | .normal => none
  | .exit i43 => if i43 = 2 then oAr .add (s4.1.getD 1 .any) (.s (.int .i64 1)) fun x45 =>
      (trim true h3.length [(vs41.getD 0 .any), x45] h42).map .inl else if i43 = 1 then oAr .add (s4.1.getD 1 .any) (.s (.int .i64 1)) fun x46 =>
      (trim true h3.length [(vs41.getD 0 .any), x46] h42).map .inl else (trim true h3.length [(vs41.getD 0 .any)] h42).map fun p => .inr (Ex.exit i43, p.1, p.2)
  | .ret => (trim true h3.length [(vs41.getD 0 .any)] h42).map fun p => .inr (Ex.ret, p.1, p.2)
  | .panic v44 => some (.inr (Ex.panic v44, [.any], h42)))

def watch_Cats_l3 (x1 : A) (a0 : A) (h3 : Heap) : List A × Heap → Option ((List A × Heap) ⊕ (Ex × List A × Heap)) := fun s4 =>
      oCmp .lss (s4.1.getD 1 .any) x1 fun x5 =>
      oCond x5 (oIdxA 26 a0 (s4.1.getD 1 .any) fun x6 =>
      oLoad (some 26) x6 s4.2 fun x7 =>
      oNew none (some 26) (.agg [.s (.int .u64 0), .s (.int .i64 0), .s (.int .i64 0), .s (.slice none 0 0), .s (.int .i64 0), .s (.slice none 0 0), .s (.int .i64 0), .s (.int .i64 0), .s (.slice none 0 0), .s (.slice none 0 0), .s (.int .u64 0), .s (.int .u64 0), .s (.int .u64 0), .s (.int .u64 0), .s (.int .i64 0), .s (.int .i64 0), .s (.bool false), .s (.int .u64 0), .s (.int .u64 0), .s (.int .u64 0), .s (.int .u64 0), .s (.int .u64 0), .s (.int .u64 0), .s (.int .u64 0), .s (.int .u64 0), .s (.int .u64 0)]) s4.2 fun x8 h9 =>
      oStore (some 26) x8 x7 h9 fun h10 =>
      oFieldA 2 x8 fun x11 =>
      oFieldA 1 x11 fun x12 =>
      oLoad none x12 h10 fun x13 =>
      oFieldA 4 x8 fun x14 =>
      oFieldA 1 x14 fun x15 =>
      oLoad none x15 h10 fun x16 =>
      oNewSlice none 1 (asRows none [x13, x16]) h10 fun x17 h18 =>
      oLend slices_Concat_Sapi_Cat_api_Cat [x17] h18 (fun v21 h22 => some (.inr (Ex.panic v21, [.any], h22))) fun x19 h20 =>
      oLen x19 fun x23 =>
      oProm 1 (s4.1.getD 0 .any) h20 fun x24 h25 =>
      oLoop (watch_Cats_l1 x23 x19 h25) ([x24, (.s (.int .i64 0))], h25) (watch_Cats_k2 s4 h3))
      ((trim true h3.length [(s4.1.getD 0 .any)] s4.2).map fun p => .inr (Ex.exit 0, p.1, p.2))

def watch_Cats_k4 (objs : Heap) : Ex → List A → Heap → Option (Out × Heap) := fun e47 vs48 h49 =>
      (match e47 with
  | .normal => none
  | .exit i50 => if i50 = 0 then oCall slices_Sort_Suint64_uint64 [(vs48.getD 0 .any)] h49 (fun v54 h55 => finish objs.length (.pan v54) h55) fun x52 h53 =>
      oCall slices_Compact_Suint64_uint64 [(vs48.getD 0 .any)] h53 (fun v58 h59 => finish objs.length (.pan v58) h59) fun x56 h57 =>
      finish objs.length (.ok x56) h57 else none
  | .ret => finish objs.length (.ok (.s (.slice none 0 0))) h49
  | .panic v51 => finish objs.length (.pan v51) h49)

/-- bailey/watch.Cats -/
def watch_Cats : CallFn := fun args objs =>
match args with
| [a0] =>
oLen a0 fun x1 =>
      oProm 1 (.s (.slice none 0 0)) objs fun x2 h3 =>
      oLoop (watch_Cats_l3 x1 a0 h3) ([x2, (.s (.int .i64 0))], h3) (watch_Cats_k4 objs)
| _ => none

def watch_Units_l1 (x1 : A) (a0 : A) (objs : Heap) : List A × Heap → Option ((List A × Heap) ⊕ (Ex × List A × Heap)) := fun s2 =>
      oCmp .lss (s2.1.getD 1 .any) x1 fun x3 =>
      oCond x3 (oIdxA 26 a0 (s2.1.getD 1 .any) fun x4 =>
      oLoad (some 26) x4 s2.2 fun x5 =>
      oNew none (some 26) (.agg [.s (.int .u64 0), .s (.int .i64 0), .s (.int .i64 0), .s (.slice none 0 0), .s (.int .i64 0), .s (.slice none 0 0), .s (.int .i64 0), .s (.int .i64 0), .s (.slice none 0 0), .s (.slice none 0 0), .s (.int .u64 0), .s (.int .u64 0), .s (.int .u64 0), .s (.int .u64 0), .s (.int .i64 0), .s (.int .i64 0), .s (.bool false), .s (.int .u64 0), .s (.int .u64 0), .s (.int .u64 0), .s (.int .u64 0), .s (.int .u64 0), .s (.int .u64 0), .s (.int .u64 0), .s (.int .u64 0), .s (.int .u64 0)]) s2.2 fun x6 h7 =>
      oStore (some 26) x6 x5 h7 fun h8 =>
      oFieldA 9 x6 fun x9 =>
      oLoad none x9 h8 fun x10 =>
      oLen x10 fun x11 =>
      oAr .quo x11 (.s (.int .i64 32)) fun x12 =>
      oAr .add (.s (.int .i64 1)) x12 fun x13 =>
      oAr .add (s2.1.getD 0 .any) x13 fun x14 =>
      oAr .add (s2.1.getD 1 .any) (.s (.int .i64 1)) fun x15 =>
      (trim true objs.length [x14, x15] h8).map .inl)
      ((trim true objs.length [(s2.1.getD 0 .any)] s2.2).map fun p => .inr (Ex.exit 0, p.1, p.2))

def watch_Units_k2 (objs : Heap) : Ex → List A → Heap → Option (Out × Heap) := fun e16 vs17 h18 =>
      (match e16 with
  | .normal => none
  | .exit i19 => if i19 = 0 then finish objs.length (.ok (vs17.getD 0 .any)) h18 else none
  | .ret => finish objs.length (.ok (.s (.int .i64 0))) h18
  | .panic v20 => finish objs.length (.pan v20) h18)

/-- bailey/watch.Units -/
def watch_Units : CallFn := fun args objs =>
match args with
| [a0] =>
oLen a0 fun x1 =>
      oLoop (watch_Units_l1 x1 a0 objs) ([(.s (.int .i64 0)), (.s (.int .i64 0))], objs) (watch_Units_k2 objs)
| _ => none

def slices_BinarySearchFunc_Sapi_Thing_api_Thing_uint64_l1 (En : String → CallFn) (a0 : A) (a2 : A) (a1 : A) (objs : Heap) : List A × Heap → Option ((List A × Heap) ⊕ (Ex × List A × Heap)) := fun s2 =>
      oCmp .lss (s2.1.getD 0 .any) (s2.1.getD 1 .any) fun x3 =>
      oCond x3 (oAr .add (s2.1.getD 0 .any) (s2.1.getD 1 .any) fun x4 =>
      oConv .u64 x4 fun x5 =>
      oShift .shr x5 (.s (.int .u64 1)) fun x6 =>
      oConv .i64 x6 fun x7 =>
      oIdxA 26 a0 x7 fun x8 =>
      oLoad (some 26) x8 s2.2 fun x9 =>
      oLendV En a2 [x9, a1] s2.2 (fun v12 h13 => some (.inr (Ex.panic v12, [.any], h13))) fun w16 h17 => oFrz w16 h17 fun x10 h11 =>
      oCmp .lss x10 (.s (.int .i64 0)) fun x14 =>
      oCond x14 (oAr .add x7 (.s (.int .i64 1)) fun x15 =>
      (trim true objs.length [x15, (s2.1.getD 1 .any)] h11).map .inl)
      ((trim true objs.length [(s2.1.getD 0 .any), x7] h11).map .inl))
      ((trim true objs.length [(s2.1.getD 0 .any)] s2.2).map fun p => .inr (Ex.exit 0, p.1, p.2))

def slices_BinarySearchFunc_Sapi_Thing_api_Thing_uint64_k2 (En : String → CallFn) (x1 : A) (a0 : A) (a2 : A) (a1 : A) (objs : Heap) : Ex → List A → Heap → Option (Out × Heap) := fun e18 vs19 h20 =>
      (match e18 with
  | .normal => none
  | .exit i21 => if i21 = 0 then oCmp .lss (vs19.getD 0 .any) x1 fun x23 =>
      oGuard x23 true (fun _ => oIdxA 26 a0 (vs19.getD 0 .any) fun x24 =>
      oLoad (some 26) x24 h20 fun x25 =>
      oLendV En a2 [x25, a1] h20 (fun v28 h29 => finish objs.length (.pan v28) h29) fun w31 h32 => oFrz w31 h32 fun x26 h27 =>
      oCmp .eql x26 (.s (.int .i64 0)) fun x30 =>
      finish objs.length (.ok (.tup [(vs19.getD 0 .any), x30])) h27)
      (fun _ => finish objs.length (.ok (.tup [(vs19.getD 0 .any), (.s (.bool false))])) h20) else none
  | .ret => finish objs.length (.ok (.tup [(.s (.int .i64 0)), (.s (.bool false))])) h20
  | .panic v22 => finish objs.length (.pan v22) h20)

/-- slices.BinarySearchFunc[[]bailey/api.Thing,bailey/api.Thing,uint64] -/
def slices_BinarySearchFunc_Sapi_Thing_api_Thing_uint64 (En : String → CallFn) : CallFn := fun args objs =>
match args with
| [a0, a1, a2] =>
oLen a0 fun x1 =>
      oLoop (slices_BinarySearchFunc_Sapi_Thing_api_Thing_uint64_l1 En a0 a2 a1 objs) ([(.s (.int .i64 0)), x1], objs) (slices_BinarySearchFunc_Sapi_Thing_api_Thing_uint64_k2 En x1 a0 a2 a1 objs)
| _ => none

/-- cmp.Compare[uint64] -/
def cmp_Compare_uint64 : CallFn := fun args objs =>
match args with
| [a0, a1] =>
oLend cmp_isNaN_uint64 [a0] objs (fun v3 h4 => finish objs.length (.pan v3) h4) fun w13 h14 => oFrz w13 h14 fun x1 h2 =>
      oLend cmp_isNaN_uint64 [a1] h2 (fun v7 h8 => finish objs.length (.pan v7) h8) fun w11 h12 => oFrz w11 h12 fun x5 h6 =>
      oCond x1 (oCond x5 (finish objs.length (.ok (.s (.int .i64 0))) h6)
      (finish objs.length (.ok (.s (.int .i64 (-1)))) h6))
      (oCond x5 (finish objs.length (.ok (.s (.int .i64 1))) h6)
      (oCmp .lss a0 a1 fun x9 =>
      oCond x9 (finish objs.length (.ok (.s (.int .i64 (-1)))) h6)
      (oCmp .gtr a0 a1 fun x10 =>
      oCond x10 (finish objs.length (.ok (.s (.int .i64 1))) h6)
      (finish objs.length (.ok (.s (.int .i64 0))) h6))))
| _ => none

/-- bailey/graph.place$1 -/
def graph_place_c1 : CallFn := fun args objs =>
match args with
| [a0, a1] =>
oNew none (some 26) a0 objs fun x1 h2 =>
      oFieldA 0 x1 fun x3 =>
      oLoad none x3 h2 fun x4 =>
      oLend cmp_Compare_uint64 [x4, a1] h2 (fun v7 h8 => finish objs.length (.pan v7) h8) fun w9 h10 => oFrz w9 h10 fun x5 h6 =>
      finish objs.length (.ok x5) h6
| _ => none

def En_graph_place : String → CallFn := fun n => if n = "bailey/graph.place$1" then graph_place_c1 else (fun _ _ => none)

/-- bailey/graph.place -/
def graph_place : CallFn := fun args objs =>
match args with
| [a0, a1] =>
oLend (slices_BinarySearchFunc_Sapi_Thing_api_Thing_uint64 (En_graph_place)) [a0, a1, (.fn "bailey/graph.place$1" [])] objs (fun v3 h4 => finish objs.length (.pan v3) h4) fun w7 h8 => oFrz w7 h8 fun x1 h2 =>
      oExtract 0 x1 fun x5 =>
      oExtract 1 x1 fun x6 =>
      finish objs.length (.ok (.tup [x5, x6])) h2
| _ => none

/-- bailey/thing.Copy -/
def thing_Copy : CallFn := fun args objs =>
match args with
| [a0] =>
oNew none (some 26) a0 objs fun x1 h2 =>
      oNew none (some 26) (.agg [.s (.int .u64 0), .s (.int .i64 0), .s (.int .i64 0), .s (.slice none 0 0), .s (.int .i64 0), .s (.slice none 0 0), .s (.int .i64 0), .s (.int .i64 0), .s (.slice none 0 0), .s (.slice none 0 0), .s (.int .u64 0), .s (.int .u64 0), .s (.int .u64 0), .s (.int .u64 0), .s (.int .i64 0), .s (.int .i64 0), .s (.bool false), .s (.int .u64 0), .s (.int .u64 0), .s (.int .u64 0), .s (.int .u64 0), .s (.int .u64 0), .s (.int .u64 0), .s (.int .u64 0), .s (.int .u64 0), .s (.int .u64 0)]) h2 fun x3 h4 =>
      oFieldA 2 x1 fun x5 =>
      oFieldA 1 x5 fun x6 =>
      oLoadD h4.length [] none x6 h4 fun x7 h8 =>
      oCallF h4.length [] (primClone 2 16) [x7] h8 fun x9 h10 =>
      oFieldA 4 x1 fun x11 =>
      oFieldA 1 x11 fun x12 =>
      oLoadD h4.length [] none x12 h10 fun x13 h14 =>
      oCallF h4.length [] (primClone 2 16) [x13] h14 fun x15 h16 =>
      oFieldA 2 x1 fun x17 =>
      oFieldA 1 x17 fun x18 =>
      oStore none x18 x9 h16 fun h19 =>
      oFieldA 4 x1 fun x20 =>
      oFieldA 1 x20 fun x21 =>
      oStore none x21 x15 h19 fun h22 =>
      oFieldA 8 x1 fun x23 =>
      oLoadD h22.length [] none x23 h22 fun x24 h25 =>
      oCallF h22.length [] (primClone 2 16) [x24] h25 fun x26 h27 =>
      oFieldA 9 x1 fun x28 =>
      oLoadD h22.length [] none x28 h27 fun x29 h30 =>
      oCallF h22.length [] (primClone 1 1) [x29] h30 fun x31 h32 =>
      oFieldA 8 x1 fun x33 =>
      oStore none x33 x26 h32 fun h34 =>
      oFieldA 9 x1 fun x35 =>
      oStore none x35 x31 h34 fun h36 =>
      oLoad (some 26) x1 h36 fun x37 =>
      oStore (some 26) x3 x37 h36 fun h38 =>
      oLoad (some 26) x3 h38 fun r39 =>
      finish objs.length (.ok r39) h38
| _ => none

/-- bailey/graph.Find -/
def graph_Find : CallFn := fun args objs =>
match args with
| [a0, a1] =>
oNew none (some 26) (.agg [.s (.int .u64 0), .s (.int .i64 0), .s (.int .i64 0), .s (.slice none 0 0), .s (.int .i64 0), .s (.slice none 0 0), .s (.int .i64 0), .s (.int .i64 0), .s (.slice none 0 0), .s (.slice none 0 0), .s (.int .u64 0), .s (.int .u64 0), .s (.int .u64 0), .s (.int .u64 0), .s (.int .i64 0), .s (.int .i64 0), .s (.bool false), .s (.int .u64 0), .s (.int .u64 0), .s (.int .u64 0), .s (.int .u64 0), .s (.int .u64 0), .s (.int .u64 0), .s (.int .u64 0), .s (.int .u64 0), .s (.int .u64 0)]) objs fun x1 h2 =>
      oLend graph_place [a0, a1] h2 (fun v5 h6 => finish objs.length (.pan v5) h6) fun w22 h23 => oFrz w22 h23 fun x3 h4 =>
      oExtract 0 x3 fun x7 =>
      oExtract 1 x3 fun x8 =>
      oCond x8 (oIdxA 26 a0 x7 fun x9 =>
      oLoad (some 26) x9 h4 fun x10 =>
      oLend thing_Copy [x10] h4 (fun v13 h14 => finish objs.length (.pan v13) h14) fun w17 h18 => oFrz w17 h18 fun x11 h12 =>
      oStore (some 26) x1 x11 h12 fun h15 =>
      oLoad (some 26) x1 h15 fun r16 =>
      finish objs.length (.ok (.tup [r16, (.s (.bool true))])) h15)
      (oBuildP [.s (.int .u64 0), .s (.int .i64 0), .s (.int .i64 0), .s (.slice none 0 0), .s (.int .i64 0), .s (.slice none 0 0), .s (.int .i64 0), .s (.int .i64 0), .s (.slice none 0 0), .s (.slice none 0 0), .s (.int .u64 0), .s (.int .u64 0), .s (.int .u64 0), .s (.int .u64 0), .s (.int .i64 0), .s (.int .i64 0), .s (.bool false), .s (.int .u64 0), .s (.int .u64 0), .s (.int .u64 0), .s (.int .u64 0), .s (.int .u64 0), .s (.int .u64 0), .s (.int .u64 0), .s (.int .u64 0), .s (.int .u64 0)] [] fun x19 =>
      oStore (some 26) x1 x19 h4 fun h20 =>
      oLoad (some 26) x1 h20 fun r21 =>
      finish objs.length (.ok (.tup [r21, (.s (.bool false))])) h20)
| _ => none

def watch_Path_k1 (s46 : List A × Heap) (h41 : Heap) : Ex → List A → Heap → Option ((List A × Heap) ⊕ (Ex × List A × Heap)) := fun e78 vs76 h77 =>
      (match e78 with
  | .normal => oAr .add (s46.1.getD 1 .any) (.s (.int .i64 1)) fun x81 =>
      (trim true h41.length [(vs76.getD 0 .any), x81] h77).map .inl
  | .exit i79 => (trim true h41.length [(vs76.getD 0 .any)] h77).map fun p => .inr (Ex.exit i79, p.1, p.2)
  | .ret => (trim true h41.length [(vs76.getD 0 .any)] h77).map fun p => .inr (Ex.ret, p.1, p.2)
  | .panic v80 => some (.inr (Ex.panic v80, [.any], h77)))

def watch_Path_l2 (x45 : A) (x44 : A) (x3 : A) (h41 : Heap) : List A × Heap → Option ((List A × Heap) ⊕ (Ex × List A × Heap)) := fun s46 =>
      oCmp .lss (s46.1.getD 1 .any) x45 fun x47 =>
      oCond x47 (oJoin (oIdxA 2 x44 (s46.1.getD 1 .any) fun x48 =>
      oLoad (some 2) x48 s46.2 fun x49 =>
      oNew none (some 2) (.agg [.s (.int .u64 0), .s (.int .i64 0)]) s46.2 fun x50 h51 =>
      oStore (some 2) x50 x49 h51 fun h52 =>
      oFieldA 0 x50 fun x53 =>
      oLoad none x53 h52 fun x54 =>
      oLookup (.s (.bool false)) false x3 x54 h52 fun x55 =>
      oNot x55 fun x56 =>
      oCond x56 (oFieldA 0 x50 fun x57 =>
      oLoad none x57 h52 fun x58 =>
      oMapPut x3 x58 (.s (.bool true)) h52 fun h59 =>
      oIdxA 1 (s46.1.getD 0 .any) (.s (.int .i64 0)) fun x60 =>
      oLoadD h59.length [] none x60 (h59 ++ List.replicate 4 .res) fun x61 h62 =>
      oCallF h59.length [] (primClone 1 8) [x61] h62 fun x63 h64 =>
      oFieldA 0 x50 fun x65 =>
      oLoadD h59.length [] none x65 h64 fun x66 h67 =>
      oNewSlice (some h59.length) 1 (asRows none [x66]) h67 fun x68 h69 =>
      oAppendD h59.length [] (h59.length + 1) 1 8 x63 x68 h69 fun x70 h71 =>
      oNewSlice (some (h59.length + 2)) 1 (asRows none [x70]) h71 fun x72 h73 =>
      oAppend (some (h59.length + 3)) 1 24 (s46.1.getD 0 .any) x72 h73 fun x74 h75 =>
      (trim true s46.2.length [x74] h75).map fun p => (Ex.normal, p.1, p.2))
      ((trim true s46.2.length [(s46.1.getD 0 .any)] h52).map fun p => (Ex.normal, p.1, p.2))) (watch_Path_k1 s46 h41))
      ((trim true h41.length [(s46.1.getD 0 .any)] s46.2).map fun p => .inr (Ex.exit 2, p.1, p.2))

def watch_Path_k3 (s16 : List A × Heap) : Ex → List A → Heap → Option (Ex × List A × Heap) := fun e82 vs83 h84 =>
      (match e82 with
  | .normal => none
  | .exit i85 => if i85 = 2 then (trim true s16.2.length [.any, (vs83.getD 0 .any)] h84).map fun p => (Ex.normal, p.1, p.2) else if i85 = 1 then (trim true s16.2.length [.any, (vs83.getD 0 .any)] h84).map fun p => (Ex.normal, p.1, p.2) else (trim true s16.2.length [.any, (vs83.getD 0 .any)] h84).map fun p => (Ex.exit i85, p.1, p.2)
  | .ret => (trim true s16.2.length [.any, (vs83.getD 0 .any)] h84).map fun p => (Ex.ret, p.1, p.2)
  | .panic v86 => some (Ex.panic v86, [], h84))

def watch_Path_k4 (h15 : Heap) : Ex → List A → Heap → Option ((List A × Heap) ⊕ (Ex × List A × Heap)) := fun e91 vs89 h90 =>
      (match e91 with
  | .normal => oSlice 1 (vs89.getD 1 .any) (some (.s (.int .i64 1))) none fun x94 =>
      (trim true h15.length [x94] h90).map .inl
  | .exit i92 => (trim true h15.length [(vs89.getD 0 .any)] h90).map fun p => .inr (Ex.exit i92, p.1, p.2)
  | .ret => (trim true h15.length [(vs89.getD 0 .any)] h90).map fun p => .inr (Ex.ret, p.1, p.2)
  | .panic v93 => some (.inr (Ex.panic v93, [.any], h90)))

def watch_Path_l5 (a1 : A) (a0 : A) (x3 : A) (h15 : Heap) : List A × Heap → Option ((List A × Heap) ⊕ (Ex × List A × Heap)) := fun s16 =>
      oLen (s16.1.getD 0 .any) fun x17 =>
      oCmp .gtr x17 (.s (.int .i64 0)) fun x18 =>
      oCond x18 (oJoin (oIdxA 1 (s16.1.getD 0 .any) (.s (.int .i64 0)) fun x19 =>
      oLoadD s16.2.length [] none x19 s16.2 fun x20 h21 =>
      oIdxA 1 (s16.1.getD 0 .any) (.s (.int .i64 0)) fun x22 =>
      oLoadD s16.2.length [] none x22 h21 fun x23 h24 =>
      oLen x23 fun x25 =>
      oAr .sub x25 (.s (.int .i64 1)) fun x26 =>
      oIdxA 1 x20 x26 fun x27 =>
      oLoadD s16.2.length [] none x27 h24 fun x28 h29 =>
      oCmp .eql x28 a1 fun x30 =>
      oCond x30 (oIdxA 1 (s16.1.getD 0 .any) (.s (.int .i64 0)) fun x31 =>
      oLoad none x31 h29 fun x32 =>
      (trim true s16.2.length [x32, (s16.1.getD 0 .any)] h29).map fun p => (Ex.ret, p.1, p.2))
      (oLend graph_Find [a0, x28] h29 (fun v35 h36 => some (Ex.panic v35, [], h36)) fun w87 h88 => oFrz w87 h88 fun x33 h34 =>
      oExtract 0 x33 fun x37 =>
      oExtract 1 x33 fun x38 =>
      oNew none (some 26) (.agg [.s (.int .u64 0), .s (.int .i64 0), .s (.int .i64 0), .s (.slice none 0 0), .s (.int .i64 0), .s (.slice none 0 0), .s (.int .i64 0), .s (.int .i64 0), .s (.slice none 0 0), .s (.slice none 0 0), .s (.int .u64 0), .s (.int .u64 0), .s (.int .u64 0), .s (.int .u64 0), .s (.int .i64 0), .s (.int .i64 0), .s (.bool false), .s (.int .u64 0), .s (.int .u64 0), .s (.int .u64 0), .s (.int .u64 0), .s (.int .u64 0), .s (.int .u64 0), .s (.int .u64 0), .s (.int .u64 0), .s (.int .u64 0)]) h34 fun x39 h40 =>
      oStore (some 26) x39 x37 h40 fun h41 =>
      oNot x38 fun x42 =>
      oCond x42 ((trim true s16.2.length [.any, (s16.1.getD 0 .any)] h41).map fun p => (Ex.normal, p.1, p.2))
      (oFieldA 8 x39 fun x43 =>
      oLoad none x43 h41 fun x44 =>
      oLen x44 fun x45 =>
      oLoop (watch_Path_l2 x45 x44 x3 h41) ([(s16.1.getD 0 .any), (.s (.int .i64 0))], h41) (watch_Path_k3 s16)))) (watch_Path_k4 h15))
      ((trim true h15.length [.any] s16.2).map fun p => .inr (Ex.exit 0, p.1, p.2))

def watch_Path_k6 (objs : Heap) : Ex → List A → Heap → Option (Out × Heap) := fun e95 vs96 h97 =>
      (match e95 with
  | .normal => none
  | .exit i98 => if i98 = 0 then finish objs.length (.ok (.s (.slice none 0 0))) h97 else none
  | .ret => finish objs.length (.ok (vs96.getD 0 .any)) h97
  | .panic v99 => finish objs.length (.pan v99) h97)

/-- bailey/watch.Path -/
def watch_Path : CallFn := fun args objs =>
match args with
| [a0, a1] =>
oLen a0 fun x1 =>
      oCmp .eql x1 (.s (.int .i64 0)) fun x2 =>
      oCond x2 (finish objs.length (.ok (.s (.slice none 0 0))) objs)
      (oMkMap .u64 objs fun x3 h4 =>
      oIdxA 26 a0 (.s (.int .i64 0)) fun x5 =>
      oFieldA 0 x5 fun x6 =>
      oLoad none x6 h4 fun x7 =>
      oMapPut x3 x7 (.s (.bool true)) h4 fun h8 =>
      oIdxA 26 a0 (.s (.int .i64 0)) fun x9 =>
      oFieldA 0 x9 fun x10 =>
      oLoad none x10 h8 fun x11 =>
      oNewSlice none 1 (asRows none [x11]) h8 fun x12 h13 =>
      oNewSlice none 1 (asRows none [x12]) h13 fun x14 h15 =>
      oLoop (watch_Path_l5 a1 a0 x3 h15) ([x14], h15) (watch_Path_k6 objs))
| _ => none

def ref13_SameIDs_l1 (x4 : A) (a0 : A) (a1 : A) (objs : Heap) : List A × Heap → Option ((List A × Heap) ⊕ (Ex × List A × Heap)) := fun s5 =>
      oCmp .lss (s5.1.getD 0 .any) x4 fun x6 =>
      oCond x6 (oIdxA 1 a0 (s5.1.getD 0 .any) fun x7 =>
      oLoadD s5.2.length [] none x7 s5.2 fun x8 h9 =>
      oIdxA 1 a1 (s5.1.getD 0 .any) fun x10 =>
      oLoadD s5.2.length [] none x10 h9 fun x11 h12 =>
      oCmp .neq x8 x11 fun x13 =>
      oCond x13 ((trim true objs.length [(.s (.bool false))] h12).map fun p => .inr (Ex.ret, p.1, p.2))
      (oAr .add (s5.1.getD 0 .any) (.s (.int .i64 1)) fun x14 =>
      (trim true objs.length [x14] h12).map .inl))
      ((trim true objs.length [.any] s5.2).map fun p => .inr (Ex.exit 0, p.1, p.2))

def ref13_SameIDs_k2 (objs : Heap) : Ex → List A → Heap → Option (Out × Heap) := fun e15 vs16 h17 =>
      (match e15 with
  | .normal => none
  | .exit i18 => if i18 = 0 then finish objs.length (.ok (.s (.bool true))) h17 else none
  | .ret => finish objs.length (.ok (vs16.getD 0 .any)) h17
  | .panic v19 => finish objs.length (.pan v19) h17)

/-- bailey/baileyref13.SameIDs -/
def ref13_SameIDs : CallFn := fun args objs =>
match args with
| [a0, a1] =>
oLen a0 fun x1 =>
      oLen a1 fun x2 =>
      oCmp .neq x1 x2 fun x3 =>
      oCond x3 (finish objs.length (.ok (.s (.bool false))) objs)
      (oLen a0 fun x4 =>
      oLoop (ref13_SameIDs_l1 x4 a0 a1 objs) ([(.s (.int .i64 0))], objs) (ref13_SameIDs_k2 objs))
| _ => none

/-- bailey/baileyref23.Same -/
def ref23_Same : CallFn := fun args objs =>
match args with
| [a0, a1] =>
oLend ref13_SameIDs [a0, a1] objs (fun v3 h4 => finish objs.length (.pan v3) h4) fun w5 h6 => oFrz w5 h6 fun x1 h2 =>
      finish objs.length (.ok x1) h2
| _ => none

/-- bailey/gate.Minter -/
def gate_Minter : CallFn := fun args objs =>
match args with
| [a0] =>
oShift .shr a0 (.s (.int .u64 13)) fun x1 =>
      oShift .shr a0 (.s (.int .u64 5)) fun x2 =>
      oAr .and x2 (.s (.int .u64 255)) fun x3 =>
      oConv .i64 x3 fun x4 =>
      oAr .and a0 (.s (.int .u64 31)) fun x5 =>
      oConv .i64 x5 fun x6 =>
      finish objs.length (.ok (.tup [x1, x4, x6])) objs
| _ => none

def watch_Boots_l1 (x5 : A) (x1 : A) (h2 : Heap) : List A × Heap → Option ((List A × Heap) ⊕ (Ex × List A × Heap)) := fun s6 =>
      oCmp .lss (s6.1.getD 1 .any) x5 fun x7 =>
      oCond x7 (oIdxA 1 x1 (s6.1.getD 1 .any) fun x8 =>
      oLoad none x8 s6.2 fun x9 =>
      oLend gate_Minter [x9] s6.2 (fun v12 h13 => some (.inr (Ex.panic v12, [.any], h13))) fun w19 h20 => oFrz w19 h20 fun x10 h11 =>
      oExtract 0 x10 fun x14 =>
      oExtract 1 x10 fun x15 =>
      oExtract 2 x10 fun x16 =>
      oMax (s6.1.getD 0 .any) x15 fun x17 =>
      oAr .add (s6.1.getD 1 .any) (.s (.int .i64 1)) fun x18 =>
      (trim true h2.length [x17, x18] h11).map .inl)
      ((trim true h2.length [(s6.1.getD 0 .any)] s6.2).map fun p => .inr (Ex.exit 0, p.1, p.2))

def watch_Boots_k2 (objs : Heap) : Ex → List A → Heap → Option (Out × Heap) := fun e21 vs22 h23 =>
      (match e21 with
  | .normal => none
  | .exit i24 => if i24 = 0 then finish objs.length (.ok (vs22.getD 0 .any)) h23 else none
  | .ret => finish objs.length (.ok (.s (.int .i64 0))) h23
  | .panic v25 => finish objs.length (.pan v25) h23)

/-- bailey/watch.Boots -/
def watch_Boots : CallFn := fun args objs =>
match args with
| [a0] =>
oLend watch_Cats [a0] objs (fun v3 h4 => finish objs.length (.pan v3) h4) fun w26 h27 => oFrz w26 h27 fun x1 h2 =>
      oLen x1 fun x5 =>
      oLoop (watch_Boots_l1 x5 x1 h2) ([(.s (.int .i64 0)), (.s (.int .i64 0))], h2) (watch_Boots_k2 objs)
| _ => none

/-- bailey/baileylaw23.watchAlive -/
def law23_watchAlive : CallFn := fun args objs =>
match args with
| [] =>
oLend ref20_World [(.s (.int .i64 9))] objs (fun v3 h4 => finish objs.length (.pan v3) h4) fun w43 h44 => oFrz w43 h44 fun x1 h2 =>
      oExtract 0 x1 fun x5 =>
      oExtract 1 x1 fun x6 =>
      oLend watch_Cats [x5] h2 (fun v9 h10 => finish objs.length (.pan v9) h10) fun w41 h42 => oFrz w41 h42 fun x7 h8 =>
      oLen x7 fun x11 =>
      oCmp .eql x11 (.s (.int .i64 0)) fun x12 =>
      oGuard x12 true (fun _ => oLend watch_Units [x5] h8 (fun v15 h16 => finish objs.length (.pan v15) h16) fun w39 h40 => oFrz w39 h40 fun x13 h14 =>
      oCmp .eql x13 (.s (.int .i64 3)) fun x17 =>
      oGuard x17 true (fun _ => oLend watch_Path [x5, (.s (.int .u64 66))] h14 (fun v20 h21 => finish objs.length (.pan v20) h21) fun w37 h38 => oFrz w37 h38 fun x18 h19 =>
      oNewSlice none 1 (asRows none [(.s (.int .u64 1)), (.s (.int .u64 66))]) h19 fun x22 h23 =>
      oLend ref23_Same [x18, x22] h23 (fun v26 h27 => finish objs.length (.pan v26) h27) fun w35 h36 => oFrz w35 h36 fun x24 h25 =>
      oGuard x24 true (fun _ => oLend watch_Boots [x5] h25 (fun v30 h31 => finish objs.length (.pan v30) h31) fun w33 h34 => oFrz w33 h34 fun x28 h29 =>
      oCmp .eql x28 (.s (.int .i64 0)) fun x32 =>
      finish objs.length (.ok x32) h29)
      (fun _ => finish objs.length (.ok (.s (.bool false))) h25))
      (fun _ => finish objs.length (.ok (.s (.bool false))) h14))
      (fun _ => finish objs.length (.ok (.s (.bool false))) h8)
| _ => none

def ref13_Graph_l1 (a0 : A) (objs : Heap) : List A × Heap → Option ((List A × Heap) ⊕ (Ex × List A × Heap)) := fun s1 =>
      oLen a0 fun x2 =>
      oCmp .lss (s1.1.getD 0 .any) x2 fun x3 =>
      oCond x3 (oIdxA 26 a0 (s1.1.getD 0 .any) fun x4 =>
      oFieldA 0 x4 fun x5 =>
      oLoadD s1.2.length [] none x5 s1.2 fun x6 h7 =>
      oAr .sub (s1.1.getD 0 .any) (.s (.int .i64 1)) fun x8 =>
      oIdxA 26 a0 x8 fun x9 =>
      oFieldA 0 x9 fun x10 =>
      oLoadD s1.2.length [] none x10 h7 fun x11 h12 =>
      oCmp .leq x6 x11 fun x13 =>
      oCond x13 ((trim true objs.length [(.s (.bool false))] h12).map fun p => .inr (Ex.ret, p.1, p.2))
      (oAr .add (s1.1.getD 0 .any) (.s (.int .i64 1)) fun x14 =>
      (trim true objs.length [x14] h12).map .inl))
      ((trim true objs.length [.any] s1.2).map fun p => .inr (Ex.exit 0, p.1, p.2))

def ref13_Graph_k2 (objs : Heap) : Ex → List A → Heap → Option (Out × Heap) := fun e15 vs16 h17 =>
      (match e15 with
  | .normal => none
  | .exit i18 => if i18 = 0 then finish objs.length (.ok (.s (.bool true))) h17 else none
  | .ret => finish objs.length (.ok (vs16.getD 0 .any)) h17
  | .panic v19 => finish objs.length (.pan v19) h17)

/-- bailey/baileyref13.Graph -/
def ref13_Graph : CallFn := fun args objs =>
match args with
| [a0] =>
oLoop (ref13_Graph_l1 a0 objs) ([(.s (.int .i64 1))], objs) (ref13_Graph_k2 objs)
| _ => none

def ref12_Has_l1 (x5 : A) (x4 : A) (a1 : A) (h2 : Heap) : List A × Heap → Option ((List A × Heap) ⊕ (Ex × List A × Heap)) := fun s6 =>
      oCmp .lss (s6.1.getD 0 .any) x5 fun x7 =>
      oCond x7 (oIdxA 2 x4 (s6.1.getD 0 .any) fun x8 =>
      oLoad (some 2) x8 s6.2 fun x9 =>
      oNew none (some 2) (.agg [.s (.int .u64 0), .s (.int .i64 0)]) s6.2 fun x10 h11 =>
      oStore (some 2) x10 x9 h11 fun h12 =>
      oFieldA 0 x10 fun x13 =>
      oLoad none x13 h12 fun x14 =>
      oCmp .eql x14 a1 fun x15 =>
      oCond x15 ((trim true h2.length [(.s (.bool true))] h12).map fun p => .inr (Ex.ret, p.1, p.2))
      (oAr .add (s6.1.getD 0 .any) (.s (.int .i64 1)) fun x16 =>
      (trim true h2.length [x16] h12).map .inl))
      ((trim true h2.length [.any] s6.2).map fun p => .inr (Ex.exit 0, p.1, p.2))

def ref12_Has_k2 (objs : Heap) : Ex → List A → Heap → Option (Out × Heap) := fun e17 vs18 h19 =>
      (match e17 with
  | .normal => none
  | .exit i20 => if i20 = 0 then finish objs.length (.ok (.s (.bool false))) h19 else none
  | .ret => finish objs.length (.ok (vs18.getD 0 .any)) h19
  | .panic v21 => finish objs.length (.pan v21) h19)

/-- bailey/baileyref12.Has -/
def ref12_Has : CallFn := fun args objs =>
match args with
| [a0, a1] =>
oNew none (some 26) a0 objs fun x1 h2 =>
      oFieldA 8 x1 fun x3 =>
      oLoad none x3 h2 fun x4 =>
      oLen x4 fun x5 =>
      oLoop (ref12_Has_l1 x5 x4 a1 h2) ([(.s (.int .i64 0))], h2) (ref12_Has_k2 objs)
| _ => none

def ref13_Refs_k1 (s2 : List A × Heap) (objs : Heap) : Ex → List A → Heap → Option ((List A × Heap) ⊕ (Ex × List A × Heap)) := fun e19 vs17 h18 =>
      (match e19 with
  | .normal => oAr .add (s2.1.getD 1 .any) (.s (.int .i64 1)) fun x22 =>
      (trim true objs.length [(vs17.getD 0 .any), x22] h18).map .inl
  | .exit i20 => (trim true objs.length [(vs17.getD 0 .any)] h18).map fun p => .inr (Ex.exit i20, p.1, p.2)
  | .ret => (trim true objs.length [(vs17.getD 0 .any)] h18).map fun p => .inr (Ex.ret, p.1, p.2)
  | .panic v21 => some (.inr (Ex.panic v21, [.any], h18)))

def ref13_Refs_l2 (x1 : A) (a0 : A) (a1 : A) (objs : Heap) : List A × Heap → Option ((List A × Heap) ⊕ (Ex × List A × Heap)) := fun s2 =>
      oCmp .lss (s2.1.getD 1 .any) x1 fun x3 =>
      oCond x3 (oJoin (oIdxA 26 a0 (s2.1.getD 1 .any) fun x4 =>
      oLoad (some 26) x4 s2.2 fun x5 =>
      oNew none (some 26) (.agg [.s (.int .u64 0), .s (.int .i64 0), .s (.int .i64 0), .s (.slice none 0 0), .s (.int .i64 0), .s (.slice none 0 0), .s (.int .i64 0), .s (.int .i64 0), .s (.slice none 0 0), .s (.slice none 0 0), .s (.int .u64 0), .s (.int .u64 0), .s (.int .u64 0), .s (.int .u64 0), .s (.int .i64 0), .s (.int .i64 0), .s (.bool false), .s (.int .u64 0), .s (.int .u64 0), .s (.int .u64 0), .s (.int .u64 0), .s (.int .u64 0), .s (.int .u64 0), .s (.int .u64 0), .s (.int .u64 0), .s (.int .u64 0)]) s2.2 fun x6 h7 =>
      oStore (some 26) x6 x5 h7 fun h8 =>
      oLoad (some 26) x6 h8 fun x9 =>
      oLend ref12_Has [x9, a1] h8 (fun v12 h13 => some (Ex.panic v12, [], h13)) fun w15 h16 => oFrz w15 h16 fun x10 h11 =>
      oCond x10 (oAr .add (s2.1.getD 0 .any) (.s (.int .i64 1)) fun x14 =>
      (trim true s2.2.length [x14] h11).map fun p => (Ex.normal, p.1, p.2))
      ((trim true s2.2.length [(s2.1.getD 0 .any)] h11).map fun p => (Ex.normal, p.1, p.2))) (ref13_Refs_k1 s2 objs))
      ((trim true objs.length [(s2.1.getD 0 .any)] s2.2).map fun p => .inr (Ex.exit 0, p.1, p.2))

def ref13_Refs_k3 (objs : Heap) : Ex → List A → Heap → Option (Out × Heap) := fun e23 vs24 h25 =>
      (match e23 with
  | .normal => none
  | .exit i26 => if i26 = 0 then finish objs.length (.ok (vs24.getD 0 .any)) h25 else none
  | .ret => finish objs.length (.ok (.s (.int .i64 0))) h25
  | .panic v27 => finish objs.length (.pan v27) h25)

/-- bailey/baileyref13.Refs -/
def ref13_Refs : CallFn := fun args objs =>
match args with
| [a0, a1] =>
oLen a0 fun x1 =>
      oLoop (ref13_Refs_l2 x1 a0 a1 objs) ([(.s (.int .i64 0)), (.s (.int .i64 0))], objs) (ref13_Refs_k3 objs)
| _ => none

/-- bailey/baileyref11.id -/
def ref11_id : CallFn := fun args objs =>
match args with
| [a0] =>
oCmp .geq a0 (.s (.int .u64 1)) fun x1 =>
      oGuard x1 true (fun _ => oCmp .lss a0 (.s (.int .u64 281474976710656)) fun x2 =>
      finish objs.length (.ok x2) objs)
      (fun _ => finish objs.length (.ok (.s (.bool false))) objs)
| _ => none

def ref09_IDs_k1 (x19 : A) (s25 : List A × Heap) : Ex → List A → Heap → Option (Ex × List A × Heap) := fun e35 vs33 h34 =>
      (match e35 with
  | .normal => oCond (vs33.getD 0 .any) (oFieldA 0 x19 fun x38 =>
      oLoad none x38 h34 fun x39 =>
      oNewSlice none 1 (asRows none [x39]) h34 fun x40 h41 =>
      oAppend none 1 8 (s25.1.getD 0 .any) x40 h41 fun x42 h43 =>
      (trim false s25.2.length [x42, (.s (.bool true))] h43).map fun p => (Ex.normal, p.1, p.2))
      ((trim false s25.2.length [(s25.1.getD 0 .any), (s25.1.getD 1 .any)] h34).map fun p => (Ex.normal, p.1, p.2))
  | .exit i36 => (trim false s25.2.length [(s25.1.getD 0 .any), (s25.1.getD 1 .any)] h34).map fun p => (Ex.exit i36, p.1, p.2)
  | .ret => (trim false s25.2.length [(s25.1.getD 0 .any), (s25.1.getD 1 .any)] h34).map fun p => (Ex.ret, p.1, p.2)
  | .panic v37 => some (Ex.panic v37, [], h34))

def ref09_IDs_k2 (x19 : A) (x28 : A) (s25 : List A × Heap) : Ex → List A → Heap → Option (Ex × List A × Heap) := fun e46 vs44 h45 =>
      (match e46 with
  | .normal => oFieldA 0 x19 fun x49 =>
      oLoad none x49 h45 fun x50 =>
      oCmp .neq x28 x50 fun x51 =>
      oCond x51 (oNewSlice none 1 (asRows none [x28]) h45 fun x52 h53 =>
      oAppend none 1 8 (vs44.getD 0 .any) x52 h53 fun x54 h55 =>
      (trim false s25.2.length [x54, (vs44.getD 1 .any)] h55).map fun p => (Ex.normal, p.1, p.2))
      ((trim false s25.2.length [(vs44.getD 0 .any), (vs44.getD 1 .any)] h45).map fun p => (Ex.normal, p.1, p.2))
  | .exit i47 => if i47 = 5 then (trim false s25.2.length [(vs44.getD 0 .any), (vs44.getD 1 .any)] h45).map fun p => (Ex.normal, p.1, p.2) else (trim false s25.2.length [(vs44.getD 0 .any), (vs44.getD 1 .any)] h45).map fun p => (Ex.exit i47, p.1, p.2)
  | .ret => (trim false s25.2.length [(vs44.getD 0 .any), (vs44.getD 1 .any)] h45).map fun p => (Ex.ret, p.1, p.2)
  | .panic v48 => some (Ex.panic v48, [], h45))

def ref09_IDs_k3 (s25 : List A × Heap) (h23 : Heap) : Ex → List A → Heap → Option ((List A × Heap) ⊕ (Ex × List A × Heap)) := fun e58 vs56 h57 =>
      (match e58 with
  | .normal => oAr .add (s25.1.getD 2 .any) (.s (.int .i64 1)) fun x61 =>
      (trim false h23.length [(vs56.getD 0 .any), (vs56.getD 1 .any), x61] h57).map .inl
  | .exit i59 => (trim false h23.length [(vs56.getD 0 .any), (vs56.getD 1 .any)] h57).map fun p => .inr (Ex.exit i59, p.1, p.2)
  | .ret => (trim false h23.length [(vs56.getD 0 .any), (vs56.getD 1 .any)] h57).map fun p => .inr (Ex.ret, p.1, p.2)
  | .panic v60 => some (.inr (Ex.panic v60, [.any, .any], h57)))

def ref09_IDs_l4 (x24 : A) (s15 : List A × Heap) (x19 : A) (h23 : Heap) : List A × Heap → Option ((List A × Heap) ⊕ (Ex × List A × Heap)) := fun s25 =>
      oCmp .lss (s25.1.getD 2 .any) x24 fun x26 =>
      oCond x26 (oJoin (oIdxA 1 (s15.1.getD 0 .any) (s25.1.getD 2 .any) fun x27 =>
      oLoad none x27 s25.2 fun x28 =>
      oJoin (oJoin (oNot (s25.1.getD 1 .any) fun x29 =>
      oGuard x29 true (fun _ => oFieldA 0 x19 fun x30 =>
      oLoad none x30 s25.2 fun x31 =>
      oCmp .geq x28 x31 fun x32 =>
      (trim false s25.2.length [x32] s25.2).map fun p => (Ex.normal, p.1, p.2))
      (fun _ => (trim false s25.2.length [(.s (.bool false))] s25.2).map fun p => (Ex.normal, p.1, p.2))) (ref09_IDs_k1 x19 s25)) (ref09_IDs_k2 x19 x28 s25)) (ref09_IDs_k3 s25 h23))
      ((trim false h23.length [(s25.1.getD 0 .any), (s25.1.getD 1 .any)] s25.2).map fun p => .inr (Ex.exit 4, p.1, p.2))

def ref09_IDs_k5 (s15 : List A × Heap) (h11 : Heap) : Ex → List A → Heap → Option ((List A × Heap) ⊕ (Ex × List A × Heap)) := fun e76 vs74 h75 =>
      (match e76 with
  | .normal => oAr .add (s15.1.getD 1 .any) (.s (.int .i64 1)) fun x79 =>
      (trim false h11.length [(vs74.getD 0 .any), x79] h75).map .inl
  | .exit i77 => if i77 = 3 then oAr .add (s15.1.getD 1 .any) (.s (.int .i64 1)) fun x80 =>
      (trim false h11.length [(s15.1.getD 0 .any), x80] h75).map .inl else (trim false h11.length [(s15.1.getD 0 .any)] h75).map fun p => .inr (Ex.exit i77, p.1, p.2)
  | .ret => (trim false h11.length [(s15.1.getD 0 .any)] h75).map fun p => .inr (Ex.ret, p.1, p.2)
  | .panic v78 => some (.inr (Ex.panic v78, [.any], h75)))

def ref09_IDs_k6 (x19 : A) (s15 : List A × Heap) (h11 : Heap) : Ex → List A → Heap → Option ((List A × Heap) ⊕ (Ex × List A × Heap)) := fun e62 vs63 h64 =>
      (match e62 with
  | .normal => none
  | .exit i65 => if i65 = 4 then oJoin (oNot (vs63.getD 1 .any) fun x67 =>
      oCond x67 (oFieldA 0 x19 fun x68 =>
      oLoad none x68 h64 fun x69 =>
      oNewSlice none 1 (asRows none [x69]) h64 fun x70 h71 =>
      oAppend none 1 8 (vs63.getD 0 .any) x70 h71 fun x72 h73 =>
      (trim false h64.length [x72] h73).map fun p => (Ex.normal, p.1, p.2))
      ((trim false h64.length [(vs63.getD 0 .any)] h64).map fun p => (Ex.normal, p.1, p.2))) (ref09_IDs_k5 s15 h11) else if i65 = 3 then oAr .add (s15.1.getD 1 .any) (.s (.int .i64 1)) fun x81 =>
      (trim false h11.length [(s15.1.getD 0 .any), x81] h64).map .inl else (trim false h11.length [(s15.1.getD 0 .any)] h64).map fun p => .inr (Ex.exit i65, p.1, p.2)
  | .ret => (trim false h11.length [(s15.1.getD 0 .any)] h64).map fun p => .inr (Ex.ret, p.1, p.2)
  | .panic v66 => some (.inr (Ex.panic v66, [.any], h64)))

def ref09_IDs_l7 (x14 : A) (x13 : A) (h11 : Heap) : List A × Heap → Option ((List A × Heap) ⊕ (Ex × List A × Heap)) := fun s15 =>
      oCmp .lss (s15.1.getD 1 .any) x14 fun x16 =>
      oCond x16 (oIdxA 2 x13 (s15.1.getD 1 .any) fun x17 =>
      oLoad (some 2) x17 s15.2 fun x18 =>
      oNew none (some 2) (.agg [.s (.int .u64 0), .s (.int .i64 0)]) s15.2 fun x19 h20 =>
      oStore (some 2) x19 x18 h20 fun h21 =>
      oNewSlice none 1 (asRows none []) h21 fun x22 h23 =>
      oLen (s15.1.getD 0 .any) fun x24 =>
      oLoop (ref09_IDs_l4 x24 s15 x19 h23) ([x22, (.s (.bool false)), (.s (.int .i64 0))], h23) (ref09_IDs_k6 x19 s15 h11))
      ((trim false h11.length [(s15.1.getD 0 .any)] s15.2).map fun p => .inr (Ex.exit 2, p.1, p.2))

def ref09_IDs_k8 (s6 : List A × Heap) (h4 : Heap) : Ex → List A → Heap → Option ((List A × Heap) ⊕ (Ex × List A × Heap)) := fun e82 vs83 h84 =>
      (match e82 with
  | .normal => none
  | .exit i85 => if i85 = 2 then oAr .add (s6.1.getD 1 .any) (.s (.int .i64 1)) fun x87 =>
      (trim false h4.length [(vs83.getD 0 .any), x87] h84).map .inl else if i85 = 1 then oAr .add (s6.1.getD 1 .any) (.s (.int .i64 1)) fun x88 =>
      (trim false h4.length [(vs83.getD 0 .any), x88] h84).map .inl else (trim false h4.length [(vs83.getD 0 .any)] h84).map fun p => .inr (Ex.exit i85, p.1, p.2)
  | .ret => (trim false h4.length [(vs83.getD 0 .any)] h84).map fun p => .inr (Ex.ret, p.1, p.2)
  | .panic v86 => some (.inr (Ex.panic v86, [.any], h84)))

def ref09_IDs_l9 (x5 : A) (h4 : Heap) : List A × Heap → Option ((List A × Heap) ⊕ (Ex × List A × Heap)) := fun s6 =>
      oCmp .lss (s6.1.getD 1 .any) (.s (.int .i64 2)) fun x7 =>
      oCond x7 (oIndex 2 2 (some 2) x5 (s6.1.getD 1 .any) fun x8 =>
      oNew none (some 2) (.agg [.s (.int .i64 0), .s (.slice none 0 0)]) s6.2 fun x9 h10 =>
      oStore (some 2) x9 x8 h10 fun h11 =>
      oFieldA 1 x9 fun x12 =>
      oLoad none x12 h11 fun x13 =>
      oLen x13 fun x14 =>
      oLoop (ref09_IDs_l7 x14 x13 h11) ([(s6.1.getD 0 .any), (.s (.int .i64 0))], h11) (ref09_IDs_k8 s6 h4))
      ((trim false h4.length [(s6.1.getD 0 .any)] s6.2).map fun p => .inr (Ex.exit 0, p.1, p.2))

def ref09_IDs_k10 (objs : Heap) : Ex → List A → Heap → Option (Out × Heap) := fun e89 vs90 h91 =>
      (match e89 with
  | .normal => none
  | .exit i92 => if i92 = 0 then finish objs.length (.ok (vs90.getD 0 .any)) h91 else none
  | .ret => finish objs.length (.ok (.s (.slice none 0 0))) h91
  | .panic v93 => finish objs.length (.pan v93) h91)

/-- bailey/baileyref09.IDs -/
def ref09_IDs : CallFn := fun args objs =>
match args with
| [a0] =>
oNew none (some 4) a0 objs fun x1 h2 =>
      oNewSlice none 1 (asRows none []) h2 fun x3 h4 =>
      oLoad (some 4) x1 h4 fun x5 =>
      oLoop (ref09_IDs_l9 x5 h4) ([x3, (.s (.int .i64 0))], h4) (ref09_IDs_k10 objs)
| _ => none

def ref09_Level_l1 (x5 : A) (x4 : A) (a1 : A) (h2 : Heap) : List A × Heap → Option ((List A × Heap) ⊕ (Ex × List A × Heap)) := fun s6 =>
      oCmp .lss (s6.1.getD 0 .any) x5 fun x7 =>
      oCond x7 (oIdxA 2 x4 (s6.1.getD 0 .any) fun x8 =>
      oLoad (some 2) x8 s6.2 fun x9 =>
      oNew none (some 2) (.agg [.s (.int .u64 0), .s (.int .i64 0)]) s6.2 fun x10 h11 =>
      oStore (some 2) x10 x9 h11 fun h12 =>
      oFieldA 0 x10 fun x13 =>
      oLoad none x13 h12 fun x14 =>
      oCmp .eql x14 a1 fun x15 =>
      oCond x15 (oFieldA 1 x10 fun x16 =>
      oLoad none x16 h12 fun x17 =>
      (trim true h2.length [x17] h12).map fun p => .inr (Ex.ret, p.1, p.2))
      (oAr .add (s6.1.getD 0 .any) (.s (.int .i64 1)) fun x18 =>
      (trim true h2.length [x18] h12).map .inl))
      ((trim true h2.length [.any] s6.2).map fun p => .inr (Ex.exit 0, p.1, p.2))

def ref09_Level_k2 (x1 : A) (objs : Heap) : Ex → List A → Heap → Option (Out × Heap) := fun e19 vs20 h21 =>
      (match e19 with
  | .normal => none
  | .exit i22 => if i22 = 0 then oFieldA 0 x1 fun x24 =>
      oLoad none x24 h21 fun x25 =>
      finish objs.length (.ok x25) h21 else none
  | .ret => finish objs.length (.ok (vs20.getD 0 .any)) h21
  | .panic v23 => finish objs.length (.pan v23) h21)

/-- bailey/baileyref09.Level -/
def ref09_Level : CallFn := fun args objs =>
match args with
| [a0, a1] =>
oNew none (some 2) a0 objs fun x1 h2 =>
      oFieldA 1 x1 fun x3 =>
      oLoad none x3 h2 fun x4 =>
      oLen x4 fun x5 =>
      oLoop (ref09_Level_l1 x5 x4 a1 h2) ([(.s (.int .i64 0))], h2) (ref09_Level_k2 x1 objs)
| _ => none

def ref09_Form_k1 (s19 : List A × Heap) (h15 : Heap) : Ex → List A → Heap → Option ((List A × Heap) ⊕ (Ex × List A × Heap)) := fun e51 vs49 h50 =>
      (match e51 with
  | .normal => oAr .add (s19.1.getD 0 .any) (.s (.int .i64 1)) fun x54 =>
      (trim false h15.length [x54] h50).map .inl
  | .exit i52 => (trim false h15.length [] h50).map fun p => .inr (Ex.exit i52, p.1, p.2)
  | .ret => (trim false h15.length [] h50).map fun p => .inr (Ex.ret, p.1, p.2)
  | .panic v53 => some (.inr (Ex.panic v53, [], h50)))

def ref09_Form_l2 (x18 : A) (x14 : A) (x1 : A) (x8 : A) (h15 : Heap) : List A × Heap → Option ((List A × Heap) ⊕ (Ex × List A × Heap)) := fun s19 =>
      oCmp .lss (s19.1.getD 0 .any) x18 fun x20 =>
      oCond x20 (oJoin (oIdxA 1 x14 (s19.1.getD 0 .any) fun x21 =>
      oLoad none x21 s19.2 fun x22 =>
      oLoadD s19.2.length [] (some 2) x1 s19.2 fun x23 h24 =>
      oCallF s19.2.length [] ref09_Level [x23, x22] h24 fun w47 h48 => oFrz w47 h48 fun x25 h26 =>
      oFieldA 0 x1 fun x27 =>
      oLoadD s19.2.length [] none x27 h26 fun x28 h29 =>
      oCmp .neq x25 x28 fun x30 =>
      oCond x30 (oFieldA 1 x8 fun x31 =>
      oLoadD h29.length (wrL h29 [(x8, true)]) none x31 (h29 ++ List.replicate 2 .res) fun x32 h33 =>
      oLoadD h29.length (wrL h29 [(x8, true)]) (some 2) x1 h33 fun x34 h35 =>
      oCallF h29.length (wrL h29 [(x8, true)]) ref09_Level [x34, x22] h35 fun w45 h46 => oFrz w45 h46 fun x36 h37 =>
      oBuildP [.s (.int .u64 0), .s (.int .i64 0)] [(0, none, x22), (1, none, x36)] fun x38 =>
      oNewSlice (some h29.length) 2 (asRows (some 2) [x38]) h37 fun x39 h40 =>
      oAppendD h29.length (wrL h29 [(x8, true)]) (h29.length + 1) 2 16 x32 x39 h40 fun x41 h42 =>
      oFieldA 1 x8 fun x43 =>
      oStore none x43 x41 h42 fun h44 =>
      (trim false s19.2.length [] h44).map fun p => (Ex.normal, p.1, p.2))
      ((trim false s19.2.length [] h29).map fun p => (Ex.normal, p.1, p.2))) (ref09_Form_k1 s19 h15))
      ((trim false h15.length [] s19.2).map fun p => .inr (Ex.exit 0, p.1, p.2))

def ref09_Form_k3 (x8 : A) (x3 : A) (objs : Heap) : Ex → List A → Heap → Option (Out × Heap) := fun e55 vs56 h57 =>
      (match e55 with
  | .normal => none
  | .exit i58 => if i58 = 0 then oLoad (some 2) x8 h57 fun x60 =>
      oStore (some 2) x3 x60 h57 fun h61 =>
      oLoad (some 2) x3 h61 fun r62 =>
      finish objs.length (.ok r62) h61 else none
  | .ret => oLoad (some 2) x3 h57 fun r63 =>
      finish objs.length (.ok r63) h57
  | .panic v59 => finish objs.length (.pan v59) h57)

/-- bailey/baileyref09.Form -/
def ref09_Form : CallFn := fun args objs =>
match args with
| [a0] =>
oNew none (some 2) a0 objs fun x1 h2 =>
      oNew none (some 2) (.agg [.s (.int .i64 0), .s (.slice none 0 0)]) h2 fun x3 h4 =>
      oFieldA 0 x1 fun x5 =>
      oLoad none x5 h4 fun x6 =>
      oBuildP [.s (.int .i64 0), .s (.slice none 0 0)] [(0, none, x6)] fun x7 =>
      oNew none (some 2) (.agg [.s (.int .i64 0), .s (.slice none 0 0)]) h4 fun x8 h9 =>
      oStore (some 2) x8 x7 h9 fun h10 =>
      oLoad (some 2) x1 h10 fun x11 =>
      oBuildP [.s (.int .i64 0), .s (.slice none 0 0)] [] fun x12 =>
      oBuildP [.s (.int .i64 0), .s (.slice none 0 0), .s (.int .i64 0), .s (.slice none 0 0)] [(0, (some 2), x11), (2, (some 2), x12)] fun x13 =>
      oLend ref09_IDs [x13] h10 (fun v16 h17 => finish objs.length (.pan v16) h17) fun w64 h65 => oFrz w64 h65 fun x14 h15 =>
      oLen x14 fun x18 =>
      oLoop (ref09_Form_l2 x18 x14 x1 x8 h15) ([(.s (.int .i64 0))], h15) (ref09_Form_k3 x8 x3 objs)
| _ => none

def ref09_Exact_l1 (x24 : A) (x1 : A) (x3 : A) (h18 : Heap) : List A × Heap → Option ((List A × Heap) ⊕ (Ex × List A × Heap)) := fun s25 =>
      oCmp .lss (s25.1.getD 0 .any) x24 fun x26 =>
      oCond x26 (oFieldA 1 x1 fun x27 =>
      oLoadD s25.2.length [] none x27 s25.2 fun x28 h29 =>
      oIdxA 2 x28 (s25.1.getD 0 .any) fun x30 =>
      oLoadD s25.2.length [] (some 2) x30 h29 fun x31 h32 =>
      oFieldA 1 x3 fun x33 =>
      oLoadD s25.2.length [] none x33 h32 fun x34 h35 =>
      oIdxA 2 x34 (s25.1.getD 0 .any) fun x36 =>
      oLoadD s25.2.length [] (some 2) x36 h35 fun x37 h38 =>
      oEqAgg [true, true] true x31 x37 fun x39 =>
      oCond x39 ((trim true h18.length [(.s (.bool false))] h38).map fun p => .inr (Ex.ret, p.1, p.2))
      (oAr .add (s25.1.getD 0 .any) (.s (.int .i64 1)) fun x40 =>
      (trim true h18.length [x40] h38).map .inl))
      ((trim true h18.length [.any] s25.2).map fun p => .inr (Ex.exit 0, p.1, p.2))

def ref09_Exact_k2 (objs : Heap) : Ex → List A → Heap → Option (Out × Heap) := fun e41 vs42 h43 =>
      (match e41 with
  | .normal => none
  | .exit i44 => if i44 = 0 then finish objs.length (.ok (.s (.bool true))) h43 else none
  | .ret => finish objs.length (.ok (vs42.getD 0 .any)) h43
  | .panic v45 => finish objs.length (.pan v45) h43)

def ref09_Exact_k3 (objs : Heap) (x1 : A) (x3 : A) : Ex → List A → Heap → Option (Out × Heap) := fun e19 vs17 h18 =>
      (match e19 with
  | .normal => oCond (vs17.getD 0 .any) (finish objs.length (.ok (.s (.bool false))) h18)
      (oFieldA 1 x1 fun x22 =>
      oLoad none x22 h18 fun x23 =>
      oLen x23 fun x24 =>
      oLoop (ref09_Exact_l1 x24 x1 x3 h18) ([(.s (.int .i64 0))], h18) (ref09_Exact_k2 objs))
  | .exit i20 => none
  | .ret => finish objs.length (.ok (.s (.bool false))) h18
  | .panic v21 => finish objs.length (.pan v21) h18)

/-- bailey/baileyref09.Exact -/
def ref09_Exact : CallFn := fun args objs =>
match args with
| [a0, a1] =>
oNew none (some 2) a0 objs fun x1 h2 =>
      oNew none (some 2) a1 h2 fun x3 h4 =>
      oJoin (oFieldA 0 x1 fun x5 =>
      oLoad none x5 h4 fun x6 =>
      oFieldA 0 x3 fun x7 =>
      oLoad none x7 h4 fun x8 =>
      oCmp .neq x6 x8 fun x9 =>
      oGuard x9 false (fun _ => oFieldA 1 x1 fun x10 =>
      oLoad none x10 h4 fun x11 =>
      oLen x11 fun x12 =>
      oFieldA 1 x3 fun x13 =>
      oLoad none x13 h4 fun x14 =>
      oLen x14 fun x15 =>
      oCmp .neq x12 x15 fun x16 =>
      (trim true h4.length [x16] h4).map fun p => (Ex.normal, p.1, p.2))
      (fun _ => (trim true h4.length [(.s (.bool true))] h4).map fun p => (Ex.normal, p.1, p.2))) (ref09_Exact_k3 objs x1 x3)
| _ => none

def ref09_Right_k1 (h30 : Heap) (s37 : List A × Heap) : Ex → List A → Heap → Option ((List A × Heap) ⊕ (Ex × List A × Heap)) := fun e58 vs56 h57 =>
      (match e58 with
  | .normal => oCond (vs56.getD 0 .any) ((trim true h30.length [(.s (.bool false))] h57).map fun p => .inr (Ex.ret, p.1, p.2))
      (oAr .add (s37.1.getD 0 .any) (.s (.int .i64 1)) fun x61 =>
      (trim true h30.length [x61] h57).map .inl)
  | .exit i59 => if i59 = 1 then oAr .add (s37.1.getD 0 .any) (.s (.int .i64 1)) fun x62 =>
      (trim true h30.length [x62] h57).map .inl else (trim true h30.length [.any] h57).map fun p => .inr (Ex.exit i59, p.1, p.2)
  | .ret => (trim true h30.length [.any] h57).map fun p => .inr (Ex.ret, p.1, p.2)
  | .panic v60 => some (.inr (Ex.panic v60, [.any], h57)))

def ref09_Right_l2 (x36 : A) (x35 : A) (h30 : Heap) : List A × Heap → Option ((List A × Heap) ⊕ (Ex × List A × Heap)) := fun s37 =>
      oCmp .lss (s37.1.getD 0 .any) x36 fun x38 =>
      oCond x38 (oIdxA 2 x35 (s37.1.getD 0 .any) fun x39 =>
      oLoad (some 2) x39 s37.2 fun x40 =>
      oNew none (some 2) (.agg [.s (.int .u64 0), .s (.int .i64 0)]) s37.2 fun x41 h42 =>
      oStore (some 2) x41 x40 h42 fun h43 =>
      oJoin (oFieldA 0 x41 fun x44 =>
      oLoad none x44 h43 fun x45 =>
      oCmp .lss x45 (.s (.int .u64 1)) fun x46 =>
      oGuard x46 false (fun _ => oFieldA 0 x41 fun x47 =>
      oLoad none x47 h43 fun x48 =>
      oCmp .gtr x48 (.s (.int .u64 2305843009213693951)) fun x49 =>
      oGuard x49 false (fun _ => oFieldA 1 x41 fun x50 =>
      oLoad none x50 h43 fun x51 =>
      oCmp .lss x51 (.s (.int .i64 0)) fun x52 =>
      oGuard x52 false (fun _ => oFieldA 1 x41 fun x53 =>
      oLoad none x53 h43 fun x54 =>
      oCmp .gtr x54 (.s (.int .i64 4)) fun x55 =>
      (trim true h43.length [x55] h43).map fun p => (Ex.normal, p.1, p.2))
      (fun _ => (trim true h43.length [(.s (.bool true))] h43).map fun p => (Ex.normal, p.1, p.2)))
      (fun _ => (trim true h43.length [(.s (.bool true))] h43).map fun p => (Ex.normal, p.1, p.2)))
      (fun _ => (trim true h43.length [(.s (.bool true))] h43).map fun p => (Ex.normal, p.1, p.2))) (ref09_Right_k1 h30 s37))
      ((trim true h30.length [.any] s37.2).map fun p => .inr (Ex.exit 0, p.1, p.2))

def ref09_Right_k3 (objs : Heap) : Ex → List A → Heap → Option (Out × Heap) := fun e63 vs64 h65 =>
      (match e63 with
  | .normal => none
  | .exit i66 => if i66 = 0 then finish objs.length (.ok (.s (.bool true))) h65 else none
  | .ret => finish objs.length (.ok (vs64.getD 0 .any)) h65
  | .panic v67 => finish objs.length (.pan v67) h65)

def ref09_Right_k4 (objs : Heap) (x1 : A) : Ex → List A → Heap → Option (Out × Heap) := fun e31 vs29 h30 =>
      (match e31 with
  | .normal => oCond (vs29.getD 0 .any) (finish objs.length (.ok (.s (.bool false))) h30)
      (oFieldA 1 x1 fun x34 =>
      oLoad none x34 h30 fun x35 =>
      oLen x35 fun x36 =>
      oLoop (ref09_Right_l2 x36 x35 h30) ([(.s (.int .i64 0))], h30) (ref09_Right_k3 objs))
  | .exit i32 => none
  | .ret => finish objs.length (.ok (.s (.bool false))) h30
  | .panic v33 => finish objs.length (.pan v33) h30)

/-- bailey/baileyref09.Right -/
def ref09_Right : CallFn := fun args objs =>
match args with
| [a0] =>
oNew none (some 2) a0 objs fun x1 h2 =>
      oJoin (oFieldA 0 x1 fun x3 =>
      oLoadD h2.length [] none x3 h2 fun x4 h5 =>
      oCmp .lss x4 (.s (.int .i64 1)) fun x6 =>
      oGuard x6 false (fun _ => oFieldA 0 x1 fun x7 =>
      oLoadD h2.length [] none x7 h5 fun x8 h9 =>
      oCmp .gtr x8 (.s (.int .i64 4)) fun x10 =>
      oGuard x10 false (fun _ => oFieldA 1 x1 fun x11 =>
      oLoadD h2.length [] none x11 h9 fun x12 h13 =>
      oLen x12 fun x14 =>
      oCmp .gtr x14 (.s (.int .i64 6)) fun x15 =>
      oGuard x15 false (fun _ => oLoadD h2.length [] (some 2) x1 h13 fun x16 h17 =>
      oLoadD h2.length [] (some 2) x1 h17 fun x18 h19 =>
      oCallF h2.length [] ref09_Form [x18] h19 fun w27 h28 => oFrz w27 h28 fun x20 h21 =>
      oCallF h2.length [] ref09_Exact [x16, x20] h21 fun w25 h26 => oFrz w25 h26 fun x22 h23 =>
      oNot x22 fun x24 =>
      (trim true h2.length [x24] h23).map fun p => (Ex.normal, p.1, p.2))
      (fun _ => (trim true h2.length [(.s (.bool true))] h13).map fun p => (Ex.normal, p.1, p.2)))
      (fun _ => (trim true h2.length [(.s (.bool true))] h9).map fun p => (Ex.normal, p.1, p.2)))
      (fun _ => (trim true h2.length [(.s (.bool true))] h5).map fun p => (Ex.normal, p.1, p.2))) (ref09_Right_k4 objs x1)
| _ => none

def ref10_Pure_l1 (x8 : A) (x7 : A) (h2 : Heap) : List A × Heap → Option ((List A × Heap) ⊕ (Ex × List A × Heap)) := fun s9 =>
      oCmp .lss (s9.1.getD 0 .any) x8 fun x10 =>
      oCond x10 (oIdxA 2 x7 (s9.1.getD 0 .any) fun x11 =>
      oLoad (some 2) x11 s9.2 fun x12 =>
      oNew none (some 2) (.agg [.s (.int .u64 0), .s (.int .i64 0)]) s9.2 fun x13 h14 =>
      oStore (some 2) x13 x12 h14 fun h15 =>
      oFieldA 1 x13 fun x16 =>
      oLoad none x16 h15 fun x17 =>
      oCmp .eql x17 (.s (.int .i64 0)) fun x18 =>
      oCond x18 ((trim true h2.length [(.s (.bool false))] h15).map fun p => .inr (Ex.ret, p.1, p.2))
      (oAr .add (s9.1.getD 0 .any) (.s (.int .i64 1)) fun x19 =>
      (trim true h2.length [x19] h15).map .inl))
      ((trim true h2.length [.any] s9.2).map fun p => .inr (Ex.exit 0, p.1, p.2))

def ref10_Pure_k2 (objs : Heap) : Ex → List A → Heap → Option (Out × Heap) := fun e20 vs21 h22 =>
      (match e20 with
  | .normal => none
  | .exit i23 => if i23 = 0 then finish objs.length (.ok (.s (.bool true))) h22 else none
  | .ret => finish objs.length (.ok (vs21.getD 0 .any)) h22
  | .panic v24 => finish objs.length (.pan v24) h22)

/-- bailey/baileyref10.Pure -/
def ref10_Pure : CallFn := fun args objs =>
match args with
| [a0] =>
oNew none (some 2) a0 objs fun x1 h2 =>
      oFieldA 0 x1 fun x3 =>
      oLoad none x3 h2 fun x4 =>
      oCmp .eql x4 (.s (.int .i64 0)) fun x5 =>
      oCond x5 (finish objs.length (.ok (.s (.bool false))) h2)
      (oFieldA 1 x1 fun x6 =>
      oLoad none x6 h2 fun x7 =>
      oLen x7 fun x8 =>
      oLoop (ref10_Pure_l1 x8 x7 h2) ([(.s (.int .i64 0))], h2) (ref10_Pure_k2 objs))
| _ => none

/-- bailey/baileyref01.parts -/
def ref01_parts : CallFn := fun args objs =>
match args with
| [a0] =>
oShift .shr a0 (.s (.int .u64 63)) fun x1 =>
      oShift .shr a0 (.s (.int .u64 52)) fun x2 =>
      oAr .and x2 (.s (.int .u64 2047)) fun x3 =>
      oAr .and a0 (.s (.int .u64 4503599627370495)) fun x4 =>
      finish objs.length (.ok (.tup [x1, x3, x4])) objs
| _ => none

def ref01_Canon_k1 (objs : Heap) (a0 : A) : Ex → List A → Heap → Option (Out × Heap) := fun e12 vs10 h11 =>
      (match e12 with
  | .normal => oCond (vs10.getD 0 .any) (finish objs.length (.ok (.s (.int .u64 9221120237041090561))) h11)
      (finish objs.length (.ok a0) h11)
  | .exit i13 => none
  | .ret => finish objs.length (.ok (.s (.int .u64 0))) h11
  | .panic v14 => finish objs.length (.pan v14) h11)

/-- bailey/baileyref01.Canon -/
def ref01_Canon : CallFn := fun args objs =>
match args with
| [a0] =>
oLend ref01_parts [a0] objs (fun v3 h4 => finish objs.length (.pan v3) h4) fun w15 h16 => oFrz w15 h16 fun x1 h2 =>
      oExtract 0 x1 fun x5 =>
      oExtract 1 x1 fun x6 =>
      oExtract 2 x1 fun x7 =>
      oJoin (oCmp .eql x6 (.s (.int .u64 2047)) fun x8 =>
      oGuard x8 true (fun _ => oCmp .neq x7 (.s (.int .u64 0)) fun x9 =>
      (trim true h2.length [x9] h2).map fun p => (Ex.normal, p.1, p.2))
      (fun _ => (trim true h2.length [(.s (.bool false))] h2).map fun p => (Ex.normal, p.1, p.2))) (ref01_Canon_k1 objs a0)
| _ => none

/-- bailey/baileyref11.clean -/
def ref11_clean : CallFn := fun args objs =>
match args with
| [a0] =>
oNew none (some 2) a0 objs fun x1 h2 =>
      oLoad (some 2) x1 h2 fun x3 =>
      oLend ref09_Right [x3] h2 (fun v6 h7 => finish objs.length (.pan v6) h7) fun w15 h16 => oFrz w15 h16 fun x4 h5 =>
      oGuard x4 true (fun _ => oLoad (some 2) x1 h5 fun x8 =>
      oLend ref10_Pure [x8] h5 (fun v11 h12 => finish objs.length (.pan v11) h12) fun w13 h14 => oFrz w13 h14 fun x9 h10 =>
      finish objs.length (.ok x9) h10)
      (fun _ => finish objs.length (.ok (.s (.bool false))) h5)
| _ => none

def ref11_Same_l1 (x103 : A) (x1 : A) (x3 : A) (h97 : Heap) : List A × Heap → Option ((List A × Heap) ⊕ (Ex × List A × Heap)) := fun s104 =>
      oCmp .lss (s104.1.getD 0 .any) x103 fun x105 =>
      oCond x105 (oFieldA 8 x1 fun x106 =>
      oLoadD s104.2.length [] none x106 s104.2 fun x107 h108 =>
      oIdxA 2 x107 (s104.1.getD 0 .any) fun x109 =>
      oLoadD s104.2.length [] (some 2) x109 h108 fun x110 h111 =>
      oFieldA 8 x3 fun x112 =>
      oLoadD s104.2.length [] none x112 h111 fun x113 h114 =>
      oIdxA 2 x113 (s104.1.getD 0 .any) fun x115 =>
      oLoadD s104.2.length [] (some 2) x115 h114 fun x116 h117 =>
      oEqAgg [true, true] true x110 x116 fun x118 =>
      oCond x118 ((trim true h97.length [(.s (.bool false))] h117).map fun p => .inr (Ex.ret, p.1, p.2))
      (oAr .add (s104.1.getD 0 .any) (.s (.int .i64 1)) fun x119 =>
      (trim true h97.length [x119] h117).map .inl))
      ((trim true h97.length [.any] s104.2).map fun p => .inr (Ex.exit 0, p.1, p.2))

def ref11_Same_k2 (objs : Heap) : Ex → List A → Heap → Option (Out × Heap) := fun e120 vs121 h122 =>
      (match e120 with
  | .normal => none
  | .exit i123 => if i123 = 0 then finish objs.length (.ok (.s (.bool true))) h122 else none
  | .ret => finish objs.length (.ok (vs121.getD 0 .any)) h122
  | .panic v124 => finish objs.length (.pan v124) h122)

def ref11_Same_k3 (objs : Heap) (x1 : A) (x3 : A) : Ex → List A → Heap → Option (Out × Heap) := fun e98 vs96 h97 =>
      (match e98 with
  | .normal => oCond (vs96.getD 0 .any) (finish objs.length (.ok (.s (.bool false))) h97)
      (oFieldA 8 x1 fun x101 =>
      oLoad none x101 h97 fun x102 =>
      oLen x102 fun x103 =>
      oLoop (ref11_Same_l1 x103 x1 x3 h97) ([(.s (.int .i64 0))], h97) (ref11_Same_k2 objs))
  | .exit i99 => none
  | .ret => finish objs.length (.ok (.s (.bool false))) h97
  | .panic v100 => finish objs.length (.pan v100) h97)

def ref11_Same_k4 (objs : Heap) (x1 : A) (x3 : A) : Ex → List A → Heap → Option (Out × Heap) := fun e57 vs55 h56 =>
      (match e57 with
  | .normal => oCond (vs55.getD 0 .any) (finish objs.length (.ok (.s (.bool false))) h56)
      (oJoin (oFieldA 2 x1 fun x60 =>
      oLoad (some 2) x60 h56 fun x61 =>
      oFieldA 2 x3 fun x62 =>
      oLoad (some 2) x62 h56 fun x63 =>
      oLend ref09_Exact [x61, x63] h56 (fun v66 h67 => some (Ex.panic v66, [], h67)) fun w94 h95 => oFrz w94 h95 fun x64 h65 =>
      oNot x64 fun x68 =>
      oGuard x68 false (fun _ => oFieldA 4 x1 fun x69 =>
      oLoad (some 2) x69 h65 fun x70 =>
      oFieldA 4 x3 fun x71 =>
      oLoad (some 2) x71 h65 fun x72 =>
      oLend ref09_Exact [x70, x72] h65 (fun v75 h76 => some (Ex.panic v75, [], h76)) fun w92 h93 => oFrz w92 h93 fun x73 h74 =>
      oNot x73 fun x77 =>
      oGuard x77 false (fun _ => oFieldA 9 x1 fun x78 =>
      oLoad none x78 h74 fun x79 =>
      oBytesStr x79 h74 fun x80 =>
      oFieldA 9 x3 fun x81 =>
      oLoad none x81 h74 fun x82 =>
      oBytesStr x82 h74 fun x83 =>
      oEqStr true x80 x83 fun x84 =>
      oGuard x84 false (fun _ => oFieldA 8 x1 fun x85 =>
      oLoad none x85 h74 fun x86 =>
      oLen x86 fun x87 =>
      oFieldA 8 x3 fun x88 =>
      oLoad none x88 h74 fun x89 =>
      oLen x89 fun x90 =>
      oCmp .neq x87 x90 fun x91 =>
      (trim true h56.length [x91] h74).map fun p => (Ex.normal, p.1, p.2))
      (fun _ => (trim true h56.length [(.s (.bool true))] h74).map fun p => (Ex.normal, p.1, p.2)))
      (fun _ => (trim true h56.length [(.s (.bool true))] h74).map fun p => (Ex.normal, p.1, p.2)))
      (fun _ => (trim true h56.length [(.s (.bool true))] h65).map fun p => (Ex.normal, p.1, p.2))) (ref11_Same_k3 objs x1 x3))
  | .exit i58 => none
  | .ret => finish objs.length (.ok (.s (.bool false))) h56
  | .panic v59 => finish objs.length (.pan v59) h56)

/-- bailey/baileyref11.Same -/
def ref11_Same : CallFn := fun args objs =>
match args with
| [a0, a1] =>
oNew none (some 26) a0 objs fun x1 h2 =>
      oNew none (some 26) a1 h2 fun x3 h4 =>
      oJoin (oFieldA 0 x1 fun x5 =>
      oLoad none x5 h4 fun x6 =>
      oFieldA 0 x3 fun x7 =>
      oLoad none x7 h4 fun x8 =>
      oCmp .neq x6 x8 fun x9 =>
      oGuard x9 false (fun _ => oFieldA 1 x1 fun x10 =>
      oLoad none x10 h4 fun x11 =>
      oFieldA 1 x3 fun x12 =>
      oLoad none x12 h4 fun x13 =>
      oCmp .neq x11 x13 fun x14 =>
      oGuard x14 false (fun _ => oFieldA 6 x1 fun x15 =>
      oLoad none x15 h4 fun x16 =>
      oFieldA 6 x3 fun x17 =>
      oLoad none x17 h4 fun x18 =>
      oCmp .neq x16 x18 fun x19 =>
      oGuard x19 false (fun _ => oFieldA 7 x1 fun x20 =>
      oLoad none x20 h4 fun x21 =>
      oFieldA 7 x3 fun x22 =>
      oLoad none x22 h4 fun x23 =>
      oCmp .neq x21 x23 fun x24 =>
      oGuard x24 false (fun _ => oFieldA 10 x1 fun x25 =>
      oLoad (some 4) x25 h4 fun x26 =>
      oFieldA 10 x3 fun x27 =>
      oLoad (some 4) x27 h4 fun x28 =>
      oEqAgg [true, true, true, true] true x26 x28 fun x29 =>
      oGuard x29 false (fun _ => oFieldA 14 x1 fun x30 =>
      oLoad none x30 h4 fun x31 =>
      oFieldA 14 x3 fun x32 =>
      oLoad none x32 h4 fun x33 =>
      oCmp .neq x31 x33 fun x34 =>
      oGuard x34 false (fun _ => oFieldA 15 x1 fun x35 =>
      oLoad none x35 h4 fun x36 =>
      oFieldA 15 x3 fun x37 =>
      oLoad none x37 h4 fun x38 =>
      oCmp .neq x36 x38 fun x39 =>
      oGuard x39 false (fun _ => oFieldA 16 x1 fun x40 =>
      oLoad none x40 h4 fun x41 =>
      oFieldA 16 x3 fun x42 =>
      oLoad none x42 h4 fun x43 =>
      oEqBool true x41 x43 fun x44 =>
      oGuard x44 false (fun _ => oFieldA 17 x1 fun x45 =>
      oLoad none x45 h4 fun x46 =>
      oFieldA 17 x3 fun x47 =>
      oLoad none x47 h4 fun x48 =>
      oCmp .neq x46 x48 fun x49 =>
      oGuard x49 false (fun _ => oFieldA 18 x1 fun x50 =>
      oLoad (some 8) x50 h4 fun x51 =>
      oFieldA 18 x3 fun x52 =>
      oLoad (some 8) x52 h4 fun x53 =>
      oEqAgg [true, true, true, true, true, true, true, true] true x51 x53 fun x54 =>
      (trim true h4.length [x54] h4).map fun p => (Ex.normal, p.1, p.2))
      (fun _ => (trim true h4.length [(.s (.bool true))] h4).map fun p => (Ex.normal, p.1, p.2)))
      (fun _ => (trim true h4.length [(.s (.bool true))] h4).map fun p => (Ex.normal, p.1, p.2)))
      (fun _ => (trim true h4.length [(.s (.bool true))] h4).map fun p => (Ex.normal, p.1, p.2)))
      (fun _ => (trim true h4.length [(.s (.bool true))] h4).map fun p => (Ex.normal, p.1, p.2)))
      (fun _ => (trim true h4.length [(.s (.bool true))] h4).map fun p => (Ex.normal, p.1, p.2)))
      (fun _ => (trim true h4.length [(.s (.bool true))] h4).map fun p => (Ex.normal, p.1, p.2)))
      (fun _ => (trim true h4.length [(.s (.bool true))] h4).map fun p => (Ex.normal, p.1, p.2)))
      (fun _ => (trim true h4.length [(.s (.bool true))] h4).map fun p => (Ex.normal, p.1, p.2)))
      (fun _ => (trim true h4.length [(.s (.bool true))] h4).map fun p => (Ex.normal, p.1, p.2))) (ref11_Same_k4 objs x1 x3)
| _ => none

def ref11_Right_k1 (h51 : Heap) (s57 : List A × Heap) (x61 : A) : Ex → List A → Heap → Option ((List A × Heap) ⊕ (Ex × List A × Heap)) := fun e97 vs95 h96 =>
      (match e97 with
  | .normal => oCond (vs95.getD 0 .any) ((trim true h51.length [(.s (.bool false)), (s57.1.getD 0 .any)] h96).map fun p => .inr (Ex.ret, p.1, p.2))
      (oFieldA 1 x61 fun x100 =>
      oLoad none x100 h96 fun x101 =>
      oAr .add (s57.1.getD 0 .any) x101 fun x102 =>
      oAr .add (s57.1.getD 1 .any) (.s (.int .i64 1)) fun x103 =>
      (trim true h51.length [x102, x103] h96).map .inl)
  | .exit i98 => if i98 = 2 then oAr .add (s57.1.getD 1 .any) (.s (.int .i64 1)) fun x104 =>
      (trim true h51.length [(s57.1.getD 0 .any), x104] h96).map .inl else (trim true h51.length [.any, (s57.1.getD 0 .any)] h96).map fun p => .inr (Ex.exit i98, p.1, p.2)
  | .ret => (trim true h51.length [.any, (s57.1.getD 0 .any)] h96).map fun p => .inr (Ex.ret, p.1, p.2)
  | .panic v99 => some (.inr (Ex.panic v99, [.any, .any], h96)))

def ref11_Right_l2 (x56 : A) (x55 : A) (x1 : A) (h51 : Heap) : List A × Heap → Option ((List A × Heap) ⊕ (Ex × List A × Heap)) := fun s57 =>
      oCmp .lss (s57.1.getD 1 .any) x56 fun x58 =>
      oCond x58 (oIdxA 2 x55 (s57.1.getD 1 .any) fun x59 =>
      oLoad (some 2) x59 s57.2 fun x60 =>
      oNew none (some 2) (.agg [.s (.int .u64 0), .s (.int .i64 0)]) s57.2 fun x61 h62 =>
      oStore (some 2) x61 x60 h62 fun h63 =>
      oJoin (oFieldA 0 x61 fun x64 =>
      oLoadD h63.length [] none x64 h63 fun x65 h66 =>
      oCallF h63.length [] ref11_id [x65] h66 fun w93 h94 => oFrz w93 h94 fun x67 h68 =>
      oNot x67 fun x69 =>
      oGuard x69 false (fun _ => oFieldA 1 x61 fun x70 =>
      oLoadD h63.length [] none x70 h68 fun x71 h72 =>
      oCmp .lss x71 (.s (.int .i64 1)) fun x73 =>
      oGuard x73 false (fun _ => oFieldA 1 x61 fun x74 =>
      oLoadD h63.length [] none x74 h72 fun x75 h76 =>
      oCmp .gtr x75 (.s (.int .i64 48)) fun x77 =>
      oGuard x77 false (fun _ => oCmp .gtr (s57.1.getD 1 .any) (.s (.int .i64 0)) fun x78 =>
      oGuard x78 true (fun _ => oFieldA 8 x1 fun x79 =>
      oLoadD h63.length [] none x79 h76 fun x80 h81 =>
      oAr .sub (s57.1.getD 1 .any) (.s (.int .i64 1)) fun x82 =>
      oIdxA 2 x80 x82 fun x83 =>
      oFieldA 0 x83 fun x84 =>
      oLoadD h63.length [] none x84 h81 fun x85 h86 =>
      oFieldA 0 x61 fun x87 =>
      oLoadD h63.length [] none x87 h86 fun x88 h89 =>
      oCmp .geq x85 x88 fun x90 =>
      oGuard x90 false (fun _ => oCmp .geq (s57.1.getD 1 .any) (.s (.int .i64 16)) fun x91 =>
      (trim true h63.length [x91] h89).map fun p => (Ex.normal, p.1, p.2))
      (fun _ => (trim true h63.length [(.s (.bool true))] h89).map fun p => (Ex.normal, p.1, p.2)))
      (fun _ => oCmp .geq (s57.1.getD 1 .any) (.s (.int .i64 16)) fun x92 =>
      (trim true h63.length [x92] h76).map fun p => (Ex.normal, p.1, p.2)))
      (fun _ => (trim true h63.length [(.s (.bool true))] h76).map fun p => (Ex.normal, p.1, p.2)))
      (fun _ => (trim true h63.length [(.s (.bool true))] h72).map fun p => (Ex.normal, p.1, p.2)))
      (fun _ => (trim true h63.length [(.s (.bool true))] h68).map fun p => (Ex.normal, p.1, p.2))) (ref11_Right_k1 h51 s57 x61))
      ((trim true h51.length [.any, (s57.1.getD 0 .any)] s57.2).map fun p => .inr (Ex.exit 1, p.1, p.2))

def ref11_Right_k3 (h44 : Heap) (x53 : A) (vs106 : List A) : Ex → List A → Heap → Option (Ex × List A × Heap) := fun e127 vs125 h126 =>
      (match e127 with
  | .normal => oCond (vs125.getD 0 .any) ((trim true h44.length [(.s (.bool false)), x53] h126).map fun p => (Ex.ret, p.1, p.2))
      ((trim true h44.length [(vs106.getD 0 .any), x53] h126).map fun p => (Ex.normal, p.1, p.2))
  | .exit i128 => if i128 = 0 then (trim true h44.length [(vs106.getD 0 .any), x53] h126).map fun p => (Ex.normal, p.1, p.2) else (trim true h44.length [(vs106.getD 0 .any), x53] h126).map fun p => (Ex.exit i128, p.1, p.2)
  | .ret => (trim true h44.length [(vs106.getD 0 .any), x53] h126).map fun p => (Ex.ret, p.1, p.2)
  | .panic v129 => some (Ex.panic v129, [], h126))

def ref11_Right_k4 (x1 : A) (h44 : Heap) (x53 : A) : Ex → List A → Heap → Option (Ex × List A × Heap) := fun e105 vs106 h107 =>
      (match e105 with
  | .normal => none
  | .exit i108 => if i108 = 1 then oJoin (oFieldA 6 x1 fun x110 =>
      oLoad none x110 h107 fun x111 =>
      oCmp .lss x111 (.s (.int .i64 1)) fun x112 =>
      oGuard x112 false (fun _ => oFieldA 6 x1 fun x113 =>
      oLoad none x113 h107 fun x114 =>
      oCmp .gtr x114 (.s (.int .i64 48)) fun x115 =>
      oGuard x115 false (fun _ => oFieldA 6 x1 fun x116 =>
      oLoad none x116 h107 fun x117 =>
      oCmp .gtr (vs106.getD 1 .any) x117 fun x118 =>
      oGuard x118 false (fun _ => oFieldA 7 x1 fun x119 =>
      oLoad none x119 h107 fun x120 =>
      oCmp .lss x120 (.s (.int .i64 0)) fun x121 =>
      oGuard x121 false (fun _ => oFieldA 7 x1 fun x122 =>
      oLoad none x122 h107 fun x123 =>
      oCmp .gtr x123 (.s (.int .i64 63)) fun x124 =>
      (trim true h107.length [x124] h107).map fun p => (Ex.normal, p.1, p.2))
      (fun _ => (trim true h107.length [(.s (.bool true))] h107).map fun p => (Ex.normal, p.1, p.2)))
      (fun _ => (trim true h107.length [(.s (.bool true))] h107).map fun p => (Ex.normal, p.1, p.2)))
      (fun _ => (trim true h107.length [(.s (.bool true))] h107).map fun p => (Ex.normal, p.1, p.2)))
      (fun _ => (trim true h107.length [(.s (.bool true))] h107).map fun p => (Ex.normal, p.1, p.2))) (ref11_Right_k3 h44 x53 vs106) else if i108 = 0 then (trim true h44.length [(vs106.getD 0 .any), x53] h107).map fun p => (Ex.normal, p.1, p.2) else (trim true h44.length [(vs106.getD 0 .any), x53] h107).map fun p => (Ex.exit i108, p.1, p.2)
  | .ret => (trim true h44.length [(vs106.getD 0 .any), x53] h107).map fun p => (Ex.ret, p.1, p.2)
  | .panic v109 => some (Ex.panic v109, [], h107))

def ref11_Right_l5 (x132 : A) (h44 : Heap) : List A × Heap → Option ((List A × Heap) ⊕ (Ex × List A × Heap)) := fun s133 =>
      oCmp .lss (s133.1.getD 0 .any) (.s (.int .i64 4)) fun x134 =>
      oCond x134 (oIndex 4 1 none x132 (s133.1.getD 0 .any) fun x135 =>
      oLend ref01_Canon [x135] s133.2 (fun v138 h139 => some (.inr (Ex.panic v138, [.any], h139))) fun w142 h143 => oFrz w142 h143 fun x136 h137 =>
      oCmp .neq x136 x135 fun x140 =>
      oCond x140 ((trim true h44.length [(.s (.bool false))] h137).map fun p => .inr (Ex.ret, p.1, p.2))
      (oAr .add (s133.1.getD 0 .any) (.s (.int .i64 1)) fun x141 =>
      (trim true h44.length [x141] h137).map .inl))
      ((trim true h44.length [.any] s133.2).map fun p => .inr (Ex.exit 3, p.1, p.2))

def ref11_Right_k6 (h44 : Heap) (x42 : A) (vs145 : List A) : Ex → List A → Heap → Option (Ex × List A × Heap) := fun e172 vs170 h171 =>
      (match e172 with
  | .normal => oCond (vs170.getD 0 .any) ((trim true h44.length [(.s (.bool false)), (.s (.int .i64 1))] h171).map fun p => (Ex.ret, p.1, p.2))
      (oBuildP [.s (.int .i64 0), .s (.slice none 0 0)] [] fun x175 =>
      oFieldA 4 x42 fun x176 =>
      oStore (some 2) x176 x175 h171 fun h177 =>
      oBuildP [.s (.int .u64 0), .s (.int .u64 0), .s (.int .u64 0), .s (.int .u64 0)] [] fun x178 =>
      oFieldA 10 x42 fun x179 =>
      oStore (some 4) x179 x178 h177 fun h180 =>
      oFieldA 14 x42 fun x181 =>
      oStore none x181 (.s (.int .i64 0)) h180 fun h182 =>
      oFieldA 15 x42 fun x183 =>
      oStore none x183 (.s (.int .i64 0)) h182 fun h184 =>
      oFieldA 16 x42 fun x185 =>
      oStore none x185 (.s (.bool false)) h184 fun h186 =>
      (trim true h44.length [(vs145.getD 0 .any), (.s (.int .i64 1))] h186).map fun p => (Ex.normal, p.1, p.2))
  | .exit i173 => if i173 = 0 then (trim true h44.length [(vs145.getD 0 .any), (.s (.int .i64 1))] h171).map fun p => (Ex.normal, p.1, p.2) else (trim true h44.length [(vs145.getD 0 .any), (.s (.int .i64 1))] h171).map fun p => (Ex.exit i173, p.1, p.2)
  | .ret => (trim true h44.length [(vs145.getD 0 .any), (.s (.int .i64 1))] h171).map fun p => (Ex.ret, p.1, p.2)
  | .panic v174 => some (Ex.panic v174, [], h171))

def ref11_Right_k7 (x1 : A) (h44 : Heap) (x42 : A) : Ex → List A → Heap → Option (Ex × List A × Heap) := fun e144 vs145 h146 =>
      (match e144 with
  | .normal => none
  | .exit i147 => if i147 = 3 then oJoin (oFieldA 4 x1 fun x149 =>
      oLoad (some 2) x149 h146 fun x150 =>
      oLend ref11_clean [x150] h146 (fun v153 h154 => some (Ex.panic v153, [], h154)) fun w168 h169 => oFrz w168 h169 fun x151 h152 =>
      oNot x151 fun x155 =>
      oGuard x155 false (fun _ => oFieldA 14 x1 fun x156 =>
      oLoad none x156 h152 fun x157 =>
      oCmp .lss x157 (.s (.int .i64 0)) fun x158 =>
      oGuard x158 false (fun _ => oFieldA 14 x1 fun x159 =>
      oLoad none x159 h152 fun x160 =>
      oCmp .gtr x160 (.s (.int .i64 31)) fun x161 =>
      oGuard x161 false (fun _ => oFieldA 15 x1 fun x162 =>
      oLoad none x162 h152 fun x163 =>
      oCmp .lss x163 (.s (.int .i64 0)) fun x164 =>
      oGuard x164 false (fun _ => oFieldA 15 x1 fun x165 =>
      oLoad none x165 h152 fun x166 =>
      oCmp .gtr x166 (.s (.int .i64 255)) fun x167 =>
      (trim true h146.length [x167] h152).map fun p => (Ex.normal, p.1, p.2))
      (fun _ => (trim true h146.length [(.s (.bool true))] h152).map fun p => (Ex.normal, p.1, p.2)))
      (fun _ => (trim true h146.length [(.s (.bool true))] h152).map fun p => (Ex.normal, p.1, p.2)))
      (fun _ => (trim true h146.length [(.s (.bool true))] h152).map fun p => (Ex.normal, p.1, p.2)))
      (fun _ => (trim true h146.length [(.s (.bool true))] h152).map fun p => (Ex.normal, p.1, p.2))) (ref11_Right_k6 h44 x42 vs145) else if i147 = 0 then (trim true h44.length [(vs145.getD 0 .any), (.s (.int .i64 1))] h146).map fun p => (Ex.normal, p.1, p.2) else (trim true h44.length [(vs145.getD 0 .any), (.s (.int .i64 1))] h146).map fun p => (Ex.exit i147, p.1, p.2)
  | .ret => (trim true h44.length [(vs145.getD 0 .any), (.s (.int .i64 1))] h146).map fun p => (Ex.ret, p.1, p.2)
  | .panic v148 => some (Ex.panic v148, [], h146))

def ref11_Right_k8 (h44 : Heap) (x42 : A) : Ex → List A → Heap → Option (Ex × List A × Heap) := fun e209 vs207 h208 =>
      (match e209 with
  | .normal => oCond (vs207.getD 0 .any) ((trim true h44.length [(.s (.bool false)), (.s (.int .i64 1))] h208).map fun p => (Ex.ret, p.1, p.2))
      (oBuildP [.s (.int .i64 0), .s (.slice none 0 0)] [] fun x212 =>
      oFieldA 4 x42 fun x213 =>
      oStore (some 2) x213 x212 h208 fun h214 =>
      oFieldA 17 x42 fun x215 =>
      oStore none x215 (.s (.int .u64 0)) h214 fun h216 =>
      (trim true h44.length [(.s (.bool false)), (.s (.int .i64 1))] h216).map fun p => (Ex.normal, p.1, p.2))
  | .exit i210 => if i210 = 0 then (trim true h44.length [(.s (.bool false)), (.s (.int .i64 1))] h208).map fun p => (Ex.normal, p.1, p.2) else (trim true h44.length [(.s (.bool false)), (.s (.int .i64 1))] h208).map fun p => (Ex.exit i210, p.1, p.2)
  | .ret => (trim true h44.length [(.s (.bool false)), (.s (.int .i64 1))] h208).map fun p => (Ex.ret, p.1, p.2)
  | .panic v211 => some (Ex.panic v211, [], h208))

def ref11_Right_k9 (h44 : Heap) (x222 : A) (x42 : A) : Ex → List A → Heap → Option (Ex × List A × Heap) := fun e238 vs236 h237 =>
      (match e238 with
  | .normal => oCond (vs236.getD 0 .any) ((trim true h44.length [(.s (.bool false)), x222] h237).map fun p => (Ex.ret, p.1, p.2))
      (oFieldA 9 x42 fun x241 =>
      oStore none x241 (.s (.slice none 0 0)) h237 fun h242 =>
      (trim true h44.length [(.s (.bool false)), x222] h242).map fun p => (Ex.normal, p.1, p.2))
  | .exit i239 => if i239 = 0 then (trim true h44.length [(.s (.bool false)), x222] h237).map fun p => (Ex.normal, p.1, p.2) else (trim true h44.length [(.s (.bool false)), x222] h237).map fun p => (Ex.exit i239, p.1, p.2)
  | .ret => (trim true h44.length [(.s (.bool false)), x222] h237).map fun p => (Ex.ret, p.1, p.2)
  | .panic v240 => some (Ex.panic v240, [], h237))

def ref11_Right_k10 (h44 : Heap) (s246 : List A × Heap) : Ex → List A → Heap → Option ((List A × Heap) ⊕ (Ex × List A × Heap)) := fun e275 vs273 h274 =>
      (match e275 with
  | .normal => oCond (vs273.getD 0 .any) ((trim true h44.length [(.s (.bool false))] h274).map fun p => .inr (Ex.ret, p.1, p.2))
      (oAr .add (s246.1.getD 0 .any) (.s (.int .i64 1)) fun x278 =>
      (trim true h44.length [x278] h274).map .inl)
  | .exit i276 => if i276 = 6 then oAr .add (s246.1.getD 0 .any) (.s (.int .i64 1)) fun x279 =>
      (trim true h44.length [x279] h274).map .inl else (trim true h44.length [.any] h274).map fun p => .inr (Ex.exit i276, p.1, p.2)
  | .ret => (trim true h44.length [.any] h274).map fun p => .inr (Ex.ret, p.1, p.2)
  | .panic v277 => some (.inr (Ex.panic v277, [.any], h274)))

def ref11_Right_l11 (x245 : A) (h44 : Heap) : List A × Heap → Option ((List A × Heap) ⊕ (Ex × List A × Heap)) := fun s246 =>
      oCmp .lss (s246.1.getD 0 .any) (.s (.int .i64 4)) fun x247 =>
      oCond x247 (oIndex 4 2 (some 2) x245 (s246.1.getD 0 .any) fun x248 =>
      oNew none (some 2) (.agg [.s (.int .u64 0), .s (.int .u64 0)]) s246.2 fun x249 h250 =>
      oStore (some 2) x249 x248 h250 fun h251 =>
      oJoin (oLoad (some 2) x249 h251 fun x252 =>
      oBuildP [.s (.int .u64 0), .s (.int .u64 0)] [] fun x253 =>
      oEqAgg [true, true] true x252 x253 fun x254 =>
      oGuard x254 true (fun _ => oFieldA 0 x249 fun x255 =>
      oLoad none x255 h251 fun x256 =>
      oLend ref11_id [x256] h251 (fun v259 h260 => some (Ex.panic v259, [], h260)) fun w271 h272 => oFrz w271 h272 fun x257 h258 =>
      oNot x257 fun x261 =>
      oGuard x261 false (fun _ => oFieldA 1 x249 fun x262 =>
      oLoad none x262 h258 fun x263 =>
      oLend ref11_id [x263] h258 (fun v266 h267 => some (Ex.panic v266, [], h267)) fun w269 h270 => oFrz w269 h270 fun x264 h265 =>
      oNot x264 fun x268 =>
      (trim true h251.length [x268] h265).map fun p => (Ex.normal, p.1, p.2))
      (fun _ => (trim true h251.length [(.s (.bool true))] h258).map fun p => (Ex.normal, p.1, p.2)))
      (fun _ => (trim true h251.length [(.s (.bool false))] h251).map fun p => (Ex.normal, p.1, p.2))) (ref11_Right_k10 h44 s246))
      ((trim true h44.length [.any] s246.2).map fun p => .inr (Ex.exit 5, p.1, p.2))

def ref11_Right_k12 (x42 : A) (h44 : Heap) : Ex → List A → Heap → Option (Ex × List A × Heap) := fun e280 vs281 h282 =>
      (match e280 with
  | .normal => none
  | .exit i283 => if i283 = 5 then oBuildP [.s (.int .u64 0), .s (.int .u64 0), .s (.int .u64 0), .s (.int .u64 0), .s (.int .u64 0), .s (.int .u64 0), .s (.int .u64 0), .s (.int .u64 0)] [] fun x285 =>
      oFieldA 18 x42 fun x286 =>
      oStore (some 8) x286 x285 h282 fun h287 =>
      (trim true h44.length [(vs281.getD 0 .any), (.s (.int .i64 1))] h287).map fun p => (Ex.normal, p.1, p.2) else if i283 = 0 then (trim true h44.length [(vs281.getD 0 .any), (.s (.int .i64 1))] h282).map fun p => (Ex.normal, p.1, p.2) else (trim true h44.length [(vs281.getD 0 .any), (.s (.int .i64 1))] h282).map fun p => (Ex.exit i283, p.1, p.2)
  | .ret => (trim true h44.length [(vs281.getD 0 .any), (.s (.int .i64 1))] h282).map fun p => (Ex.ret, p.1, p.2)
  | .panic v284 => some (Ex.panic v284, [], h282))

def ref11_Right_k13 (x1 : A) (x42 : A) (objs : Heap) : Ex → List A → Heap → Option (Out × Heap) := fun e291 vs289 h290 =>
      (match e291 with
  | .normal => oFieldA 6 x1 fun x294 =>
      oLoad none x294 h290 fun x295 =>
      oCmp .eql x295 (vs289.getD 1 .any) fun x296 =>
      oGuard x296 true (fun _ => oLoad (some 26) x42 h290 fun x297 =>
      oFieldA 0 x1 fun x298 =>
      oLoad none x298 h290 fun x299 =>
      oFieldA 1 x1 fun x300 =>
      oLoad none x300 h290 fun x301 =>
      oFieldA 2 x1 fun x302 =>
      oLoad (some 2) x302 h290 fun x303 =>
      oFieldA 6 x1 fun x304 =>
      oLoad none x304 h290 fun x305 =>
      oBuildP [.s (.int .u64 0), .s (.int .i64 0), .s (.int .i64 0), .s (.slice none 0 0), .s (.int .i64 0), .s (.slice none 0 0), .s (.int .i64 0), .s (.int .i64 0), .s (.slice none 0 0), .s (.slice none 0 0), .s (.int .u64 0), .s (.int .u64 0), .s (.int .u64 0), .s (.int .u64 0), .s (.int .i64 0), .s (.int .i64 0), .s (.bool false), .s (.int .u64 0), .s (.int .u64 0), .s (.int .u64 0), .s (.int .u64 0), .s (.int .u64 0), .s (.int .u64 0), .s (.int .u64 0), .s (.int .u64 0), .s (.int .u64 0)] [(0, none, x299), (1, none, x301), (2, (some 2), x303), (6, none, x305)] fun x306 =>
      oLend ref11_Same [x297, x306] h290 (fun v309 h310 => finish objs.length (.pan v309) h310) fun w311 h312 => oFrz w311 h312 fun x307 h308 =>
      finish objs.length (.ok x307) h308)
      (fun _ => finish objs.length (.ok (.s (.bool false))) h290)
  | .exit i292 => none
  | .ret => finish objs.length (.ok (vs289.getD 0 .any)) h290
  | .panic v293 => finish objs.length (.pan v293) h290)

def ref11_Right_k14 (objs : Heap) (x1 : A) : Ex → List A → Heap → Option (Out × Heap) := fun e38 vs36 h37 =>
      (match e38 with
  | .normal => oCond (vs36.getD 0 .any) (finish objs.length (.ok (.s (.bool false))) h37)
      (oLoad (some 26) x1 h37 fun x41 =>
      oNew none (some 26) (.agg [.s (.int .u64 0), .s (.int .i64 0), .s (.int .i64 0), .s (.slice none 0 0), .s (.int .i64 0), .s (.slice none 0 0), .s (.int .i64 0), .s (.int .i64 0), .s (.slice none 0 0), .s (.slice none 0 0), .s (.int .u64 0), .s (.int .u64 0), .s (.int .u64 0), .s (.int .u64 0), .s (.int .i64 0), .s (.int .i64 0), .s (.bool false), .s (.int .u64 0), .s (.int .u64 0), .s (.int .u64 0), .s (.int .u64 0), .s (.int .u64 0), .s (.int .u64 0), .s (.int .u64 0), .s (.int .u64 0), .s (.int .u64 0)]) h37 fun x42 h43 =>
      oStore (some 26) x42 x41 h43 fun h44 =>
      oJoin (oFieldA 1 x1 fun x45 =>
      oLoad none x45 h44 fun x46 =>
      oCmp .eql x46 (.s (.int .i64 1)) fun x47 =>
      oCond x47 (oFieldA 7 x42 fun x48 =>
      oStore none x48 (.s (.int .i64 0)) h44 fun h49 =>
      oFieldA 8 x42 fun x50 =>
      oStore none x50 (.s (.slice none 0 0)) h49 fun h51 =>
      oFieldA 6 x1 fun x52 =>
      oLoad none x52 h51 fun x53 =>
      oFieldA 8 x1 fun x54 =>
      oLoad none x54 h51 fun x55 =>
      oLen x55 fun x56 =>
      oLoop (ref11_Right_l2 x56 x55 x1 h51) ([(.s (.int .i64 1)), (.s (.int .i64 0))], h51) (ref11_Right_k4 x1 h44 x53))
      (oCmp .eql x46 (.s (.int .i64 2)) fun x130 =>
      oCond x130 (oFieldA 10 x1 fun x131 =>
      oLoad (some 4) x131 h44 fun x132 =>
      oLoop (ref11_Right_l5 x132 h44) ([(.s (.int .i64 0))], h44) (ref11_Right_k7 x1 h44 x42))
      (oCmp .eql x46 (.s (.int .i64 3)) fun x187 =>
      oCond x187 (oJoin (oFieldA 4 x1 fun x188 =>
      oLoadD h44.length [] (some 2) x188 h44 fun x189 h190 =>
      oCallF h44.length [] ref11_clean [x189] h190 fun w205 h206 => oFrz w205 h206 fun x191 h192 =>
      oNot x191 fun x193 =>
      oGuard x193 false (fun _ => oFieldA 17 x1 fun x194 =>
      oLoadD h44.length [] none x194 h192 fun x195 h196 =>
      oCallF h44.length [] ref01_Canon [x195] h196 fun w203 h204 => oFrz w203 h204 fun x197 h198 =>
      oFieldA 17 x1 fun x199 =>
      oLoadD h44.length [] none x199 h198 fun x200 h201 =>
      oCmp .neq x197 x200 fun x202 =>
      (trim true h44.length [x202] h201).map fun p => (Ex.normal, p.1, p.2))
      (fun _ => (trim true h44.length [(.s (.bool true))] h192).map fun p => (Ex.normal, p.1, p.2))) (ref11_Right_k8 h44 x42))
      (oCmp .eql x46 (.s (.int .i64 4)) fun x217 =>
      oCond x217 (oFieldA 9 x1 fun x218 =>
      oLoad none x218 h44 fun x219 =>
      oLen x219 fun x220 =>
      oAr .quo x220 (.s (.int .i64 32)) fun x221 =>
      oAr .add (.s (.int .i64 1)) x221 fun x222 =>
      oJoin (oFieldA 9 x1 fun x223 =>
      oLoad none x223 h44 fun x224 =>
      oLen x224 fun x225 =>
      oCmp .lss x225 (.s (.int .i64 32)) fun x226 =>
      oGuard x226 false (fun _ => oFieldA 9 x1 fun x227 =>
      oLoad none x227 h44 fun x228 =>
      oLen x228 fun x229 =>
      oCmp .gtr x229 (.s (.int .i64 128)) fun x230 =>
      oGuard x230 false (fun _ => oFieldA 9 x1 fun x231 =>
      oLoad none x231 h44 fun x232 =>
      oLen x232 fun x233 =>
      oAr .rem x233 (.s (.int .i64 32)) fun x234 =>
      oCmp .neq x234 (.s (.int .i64 0)) fun x235 =>
      (trim true h44.length [x235] h44).map fun p => (Ex.normal, p.1, p.2))
      (fun _ => (trim true h44.length [(.s (.bool true))] h44).map fun p => (Ex.normal, p.1, p.2)))
      (fun _ => (trim true h44.length [(.s (.bool true))] h44).map fun p => (Ex.normal, p.1, p.2))) (ref11_Right_k9 h44 x222 x42))
      (oCmp .eql x46 (.s (.int .i64 5)) fun x243 =>
      oCond x243 (oFieldA 18 x1 fun x244 =>
      oLoad (some 8) x244 h44 fun x245 =>
      oLoop (ref11_Right_l11 x245 h44) ([(.s (.int .i64 0))], h44) (ref11_Right_k12 x42 h44))
      (oCmp .eql x46 (.s (.int .i64 6)) fun x288 =>
      oCond x288 ((trim true h44.length [(.s (.bool false)), (.s (.int .i64 1))] h44).map fun p => (Ex.normal, p.1, p.2))
      ((trim true h44.length [(.s (.bool false)), (.s (.int .i64 1))] h44).map fun p => (Ex.ret, p.1, p.2)))))))) (ref11_Right_k13 x1 x42 objs))
  | .exit i39 => none
  | .ret => finish objs.length (.ok (.s (.bool false))) h37
  | .panic v40 => finish objs.length (.pan v40) h37)

/-- bailey/baileyref11.Right -/
def ref11_Right : CallFn := fun args objs =>
match args with
| [a0] =>
oNew none (some 26) a0 objs fun x1 h2 =>
      oJoin (oFieldA 0 x1 fun x3 =>
      oLoad none x3 h2 fun x4 =>
      oLend ref11_id [x4] h2 (fun v7 h8 => some (Ex.panic v7, [], h8)) fun w34 h35 => oFrz w34 h35 fun x5 h6 =>
      oNot x5 fun x9 =>
      oGuard x9 false (fun _ => oFieldA 2 x1 fun x10 =>
      oLoad (some 2) x10 h6 fun x11 =>
      oLend ref09_Right [x11] h6 (fun v14 h15 => some (Ex.panic v14, [], h15)) fun w32 h33 => oFrz w32 h33 fun x12 h13 =>
      oNot x12 fun x16 =>
      oGuard x16 false (fun _ => oFieldA 1 x1 fun x17 =>
      oLoad none x17 h13 fun x18 =>
      oCmp .neq x18 (.s (.int .i64 2)) fun x19 =>
      oGuard x19 true (fun _ => oFieldA 1 x1 fun x20 =>
      oLoad none x20 h13 fun x21 =>
      oCmp .neq x21 (.s (.int .i64 3)) fun x22 =>
      oGuard x22 true (fun _ => oFieldA 2 x1 fun x23 =>
      oLoad (some 2) x23 h13 fun x24 =>
      oLend ref10_Pure [x24] h13 (fun v27 h28 => some (Ex.panic v27, [], h28)) fun w30 h31 => oFrz w30 h31 fun x25 h26 =>
      oNot x25 fun x29 =>
      (trim true h2.length [x29] h26).map fun p => (Ex.normal, p.1, p.2))
      (fun _ => (trim true h2.length [(.s (.bool false))] h13).map fun p => (Ex.normal, p.1, p.2)))
      (fun _ => (trim true h2.length [(.s (.bool false))] h13).map fun p => (Ex.normal, p.1, p.2)))
      (fun _ => (trim true h2.length [(.s (.bool true))] h13).map fun p => (Ex.normal, p.1, p.2)))
      (fun _ => (trim true h2.length [(.s (.bool true))] h6).map fun p => (Ex.normal, p.1, p.2))) (ref11_Right_k14 objs x1)
| _ => none

def ref13_Find_l1 (x3 : A) (a0 : A) (a1 : A) (x1 : A) (h2 : Heap) : List A × Heap → Option ((List A × Heap) ⊕ (Ex × List A × Heap)) := fun s4 =>
      oCmp .lss (s4.1.getD 0 .any) x3 fun x5 =>
      oCond x5 (oIdxA 26 a0 (s4.1.getD 0 .any) fun x6 =>
      oLoad (some 26) x6 s4.2 fun x7 =>
      oNew none (some 26) (.agg [.s (.int .u64 0), .s (.int .i64 0), .s (.int .i64 0), .s (.slice none 0 0), .s (.int .i64 0), .s (.slice none 0 0), .s (.int .i64 0), .s (.int .i64 0), .s (.slice none 0 0), .s (.slice none 0 0), .s (.int .u64 0), .s (.int .u64 0), .s (.int .u64 0), .s (.int .u64 0), .s (.int .i64 0), .s (.int .i64 0), .s (.bool false), .s (.int .u64 0), .s (.int .u64 0), .s (.int .u64 0), .s (.int .u64 0), .s (.int .u64 0), .s (.int .u64 0), .s (.int .u64 0), .s (.int .u64 0), .s (.int .u64 0)]) s4.2 fun x8 h9 =>
      oStore (some 26) x8 x7 h9 fun h10 =>
      oFieldA 0 x8 fun x11 =>
      oLoad none x11 h10 fun x12 =>
      oCmp .eql x12 a1 fun x13 =>
      oCond x13 (oLoad (some 26) x8 h10 fun x14 =>
      oStore (some 26) x1 x14 h10 fun h15 =>
      (trim true h2.length [(.s (.bool true))] h15).map fun p => .inr (Ex.ret, p.1, p.2))
      (oAr .add (s4.1.getD 0 .any) (.s (.int .i64 1)) fun x16 =>
      (trim true h2.length [x16] h10).map .inl))
      ((trim true h2.length [.any] s4.2).map fun p => .inr (Ex.exit 0, p.1, p.2))

def ref13_Find_k2 (x1 : A) (objs : Heap) : Ex → List A → Heap → Option (Out × Heap) := fun e17 vs18 h19 =>
      (match e17 with
  | .normal => none
  | .exit i20 => if i20 = 0 then oBuildP [.s (.int .u64 0), .s (.int .i64 0), .s (.int .i64 0), .s (.slice none 0 0), .s (.int .i64 0), .s (.slice none 0 0), .s (.int .i64 0), .s (.int .i64 0), .s (.slice none 0 0), .s (.slice none 0 0), .s (.int .u64 0), .s (.int .u64 0), .s (.int .u64 0), .s (.int .u64 0), .s (.int .i64 0), .s (.int .i64 0), .s (.bool false), .s (.int .u64 0), .s (.int .u64 0), .s (.int .u64 0), .s (.int .u64 0), .s (.int .u64 0), .s (.int .u64 0), .s (.int .u64 0), .s (.int .u64 0), .s (.int .u64 0)] [] fun x22 =>
      oStore (some 26) x1 x22 h19 fun h23 =>
      oLoad (some 26) x1 h23 fun r24 =>
      finish objs.length (.ok (.tup [r24, (.s (.bool false))])) h23 else none
  | .ret => oLoad (some 26) x1 h19 fun r25 =>
      finish objs.length (.ok (.tup [r25, (vs18.getD 0 .any)])) h19
  | .panic v21 => finish objs.length (.pan v21) h19)

/-- bailey/baileyref13.Find -/
def ref13_Find : CallFn := fun args objs =>
match args with
| [a0, a1] =>
oNew none (some 26) (.agg [.s (.int .u64 0), .s (.int .i64 0), .s (.int .i64 0), .s (.slice none 0 0), .s (.int .i64 0), .s (.slice none 0 0), .s (.int .i64 0), .s (.int .i64 0), .s (.slice none 0 0), .s (.slice none 0 0), .s (.int .u64 0), .s (.int .u64 0), .s (.int .u64 0), .s (.int .u64 0), .s (.int .i64 0), .s (.int .i64 0), .s (.bool false), .s (.int .u64 0), .s (.int .u64 0), .s (.int .u64 0), .s (.int .u64 0), .s (.int .u64 0), .s (.int .u64 0), .s (.int .u64 0), .s (.int .u64 0), .s (.int .u64 0)]) objs fun x1 h2 =>
      oLen a0 fun x3 =>
      oLoop (ref13_Find_l1 x3 a0 a1 x1 h2) ([(.s (.int .i64 0))], h2) (ref13_Find_k2 x1 objs)
| _ => none

def ref13_Fits_k1 (objs : Heap) (x13 : A) (x1 : A) : Ex → List A → Heap → Option (Out × Heap) := fun e24 vs22 h23 =>
      (match e24 with
  | .normal => oCond (vs22.getD 0 .any) (finish objs.length (.ok (.s (.bool false))) h23)
      (oFieldA 1 x13 fun x27 =>
      oLoad none x27 h23 fun x28 =>
      oCmp .neq x28 (.s (.int .i64 1)) fun x29 =>
      oGuard x29 false (fun _ => oFieldA 0 x13 fun x30 =>
      oLoad none x30 h23 fun x31 =>
      oAr .quo x31 (.s (.int .u64 64)) fun x32 =>
      oFieldA 0 x1 fun x33 =>
      oLoad none x33 h23 fun x34 =>
      oCmp .eql x32 x34 fun x35 =>
      finish objs.length (.ok x35) h23)
      (fun _ => finish objs.length (.ok (.s (.bool true))) h23))
  | .exit i25 => none
  | .ret => finish objs.length (.ok (.s (.bool false))) h23
  | .panic v26 => finish objs.length (.pan v26) h23)

/-- bailey/baileyref13.Fits -/
def ref13_Fits : CallFn := fun args objs =>
match args with
| [a0, a1, a2] =>
oNew none (some 26) a1 objs fun x1 h2 =>
      oNew none (some 2) a2 h2 fun x3 h4 =>
      oFieldA 0 x3 fun x5 =>
      oLoad none x5 h4 fun x6 =>
      oLend ref13_Find [a0, x6] h4 (fun v9 h10 => finish objs.length (.pan v9) h10) fun w36 h37 => oFrz w36 h37 fun x7 h8 =>
      oExtract 0 x7 fun x11 =>
      oExtract 1 x7 fun x12 =>
      oNew none (some 26) (.agg [.s (.int .u64 0), .s (.int .i64 0), .s (.int .i64 0), .s (.slice none 0 0), .s (.int .i64 0), .s (.slice none 0 0), .s (.int .i64 0), .s (.int .i64 0), .s (.slice none 0 0), .s (.slice none 0 0), .s (.int .u64 0), .s (.int .u64 0), .s (.int .u64 0), .s (.int .u64 0), .s (.int .i64 0), .s (.int .i64 0), .s (.bool false), .s (.int .u64 0), .s (.int .u64 0), .s (.int .u64 0), .s (.int .u64 0), .s (.int .u64 0), .s (.int .u64 0), .s (.int .u64 0), .s (.int .u64 0), .s (.int .u64 0)]) h8 fun x13 h14 =>
      oStore (some 26) x13 x11 h14 fun h15 =>
      oJoin (oNot x12 fun x16 =>
      oGuard x16 false (fun _ => oFieldA 6 x13 fun x17 =>
      oLoad none x17 h15 fun x18 =>
      oFieldA 1 x3 fun x19 =>
      oLoad none x19 h15 fun x20 =>
      oCmp .neq x18 x20 fun x21 =>
      (trim true h15.length [x21] h15).map fun p => (Ex.normal, p.1, p.2))
      (fun _ => (trim true h15.length [(.s (.bool true))] h15).map fun p => (Ex.normal, p.1, p.2))) (ref13_Fits_k1 objs x13 x1)
| _ => none

/-- bailey/baileyref13.Above -/
def ref13_Above_step (self : CallFn) : CallFn := fun args objs =>
match args with
| [a0] =>
oCmp .eql a0 (.s (.int .u64 0)) fun x1 =>
      oCond x1 (oNewSlice none 1 (asRows none []) objs fun x2 h3 =>
      finish objs.length (.ok x2) h3)
      (oNewSlice none 1 (asRows none [a0]) objs fun x4 h5 =>
      oAr .quo a0 (.s (.int .u64 64)) fun x6 =>
      oLend self [x6] h5 (fun v9 h10 => finish objs.length (.pan v9) h10) fun w13 h14 => oFrz w13 h14 fun x7 h8 =>
      oAppend none 1 8 x4 x7 h8 fun x11 h12 =>
      finish objs.length (.ok x11) h12)
| _ => none

def ref13_Above : Nat → CallFn
| 0 => fun _ _ => none
| n + 1 => ref13_Above_step (ref13_Above n)

def ref13_Given_k1 (x19 : A) (s16 : List A × Heap) : Ex → List A → Heap → Option (Ex × List A × Heap) := fun e27 vs25 h26 =>
      (match e27 with
  | .normal => oCond (vs25.getD 0 .any) (oAr .rem x19 (.s (.int .u64 64)) fun x30 =>
      oConv .i64 x30 fun x31 =>
      (trim true s16.2.length [x31] h26).map fun p => (Ex.normal, p.1, p.2))
      ((trim true s16.2.length [(s16.1.getD 0 .any)] h26).map fun p => (Ex.normal, p.1, p.2))
  | .exit i28 => if i28 = 3 then (trim true s16.2.length [(s16.1.getD 0 .any)] h26).map fun p => (Ex.normal, p.1, p.2) else (trim true s16.2.length [(s16.1.getD 0 .any)] h26).map fun p => (Ex.exit i28, p.1, p.2)
  | .ret => (trim true s16.2.length [(s16.1.getD 0 .any)] h26).map fun p => (Ex.ret, p.1, p.2)
  | .panic v29 => some (Ex.panic v29, [], h26))

def ref13_Given_k2 (s16 : List A × Heap) (h12 : Heap) : Ex → List A → Heap → Option ((List A × Heap) ⊕ (Ex × List A × Heap)) := fun e34 vs32 h33 =>
      (match e34 with
  | .normal => oAr .add (s16.1.getD 1 .any) (.s (.int .i64 1)) fun x37 =>
      (trim true h12.length [(vs32.getD 0 .any), x37] h33).map .inl
  | .exit i35 => (trim true h12.length [(vs32.getD 0 .any)] h33).map fun p => .inr (Ex.exit i35, p.1, p.2)
  | .ret => (trim true h12.length [(vs32.getD 0 .any)] h33).map fun p => .inr (Ex.ret, p.1, p.2)
  | .panic v36 => some (.inr (Ex.panic v36, [.any], h33)))

def ref13_Given_l3 (x15 : A) (x11 : A) (a1 : A) (h12 : Heap) : List A × Heap → Option ((List A × Heap) ⊕ (Ex × List A × Heap)) := fun s16 =>
      oCmp .lss (s16.1.getD 1 .any) x15 fun x17 =>
      oCond x17 (oJoin (oIdxA 1 x11 (s16.1.getD 1 .any) fun x18 =>
      oLoad none x18 s16.2 fun x19 =>
      oJoin (oAr .quo x19 (.s (.int .u64 64)) fun x20 =>
      oCmp .eql x20 a1 fun x21 =>
      oGuard x21 true (fun _ => oAr .rem x19 (.s (.int .u64 64)) fun x22 =>
      oConv .i64 x22 fun x23 =>
      oCmp .gtr x23 (s16.1.getD 0 .any) fun x24 =>
      (trim true s16.2.length [x24] s16.2).map fun p => (Ex.normal, p.1, p.2))
      (fun _ => (trim true s16.2.length [(.s (.bool false))] s16.2).map fun p => (Ex.normal, p.1, p.2))) (ref13_Given_k1 x19 s16)) (ref13_Given_k2 s16 h12))
      ((trim true h12.length [(s16.1.getD 0 .any)] s16.2).map fun p => .inr (Ex.exit 2, p.1, p.2))

def ref13_Given_k4 (s2 : List A × Heap) (objs : Heap) : Ex → List A → Heap → Option ((List A × Heap) ⊕ (Ex × List A × Heap)) := fun e38 vs39 h40 =>
      (match e38 with
  | .normal => none
  | .exit i41 => if i41 = 2 then oAr .add (s2.1.getD 1 .any) (.s (.int .i64 1)) fun x43 =>
      (trim true objs.length [(vs39.getD 0 .any), x43] h40).map .inl else if i41 = 1 then oAr .add (s2.1.getD 1 .any) (.s (.int .i64 1)) fun x44 =>
      (trim true objs.length [(vs39.getD 0 .any), x44] h40).map .inl else (trim true objs.length [(vs39.getD 0 .any)] h40).map fun p => .inr (Ex.exit i41, p.1, p.2)
  | .ret => (trim true objs.length [(vs39.getD 0 .any)] h40).map fun p => .inr (Ex.ret, p.1, p.2)
  | .panic v42 => some (.inr (Ex.panic v42, [.any], h40)))

def ref13_Given_l5 (x1 : A) (a0 : A) (a1 : A) (objs : Heap) : List A × Heap → Option ((List A × Heap) ⊕ (Ex × List A × Heap)) := fun s2 =>
      oCmp .lss (s2.1.getD 1 .any) x1 fun x3 =>
      oCond x3 (oIdxA 26 a0 (s2.1.getD 1 .any) fun x4 =>
      oLoad (some 26) x4 s2.2 fun x5 =>
      oNew none (some 26) (.agg [.s (.int .u64 0), .s (.int .i64 0), .s (.int .i64 0), .s (.slice none 0 0), .s (.int .i64 0), .s (.slice none 0 0), .s (.int .i64 0), .s (.int .i64 0), .s (.slice none 0 0), .s (.slice none 0 0), .s (.int .u64 0), .s (.int .u64 0), .s (.int .u64 0), .s (.int .u64 0), .s (.int .i64 0), .s (.int .i64 0), .s (.bool false), .s (.int .u64 0), .s (.int .u64 0), .s (.int .u64 0), .s (.int .u64 0), .s (.int .u64 0), .s (.int .u64 0), .s (.int .u64 0), .s (.int .u64 0), .s (.int .u64 0)]) s2.2 fun x6 h7 =>
      oStore (some 26) x6 x5 h7 fun h8 =>
      oFieldA 0 x6 fun x9 =>
      oLoad none x9 h8 fun x10 =>
      oLend (ref13_Above big) [x10] h8 (fun v13 h14 => some (.inr (Ex.panic v13, [.any], h14))) fun w45 h46 => oFrz w45 h46 fun x11 h12 =>
      oLen x11 fun x15 =>
      oLoop (ref13_Given_l3 x15 x11 a1 h12) ([(s2.1.getD 0 .any), (.s (.int .i64 0))], h12) (ref13_Given_k4 s2 objs))
      ((trim true objs.length [(s2.1.getD 0 .any)] s2.2).map fun p => .inr (Ex.exit 0, p.1, p.2))

def ref13_Given_k6 (objs : Heap) : Ex → List A → Heap → Option (Out × Heap) := fun e47 vs48 h49 =>
      (match e47 with
  | .normal => none
  | .exit i50 => if i50 = 0 then finish objs.length (.ok (vs48.getD 0 .any)) h49 else none
  | .ret => finish objs.length (.ok (.s (.int .i64 0))) h49
  | .panic v51 => finish objs.length (.pan v51) h49)

/-- bailey/baileyref13.Given -/
def ref13_Given : CallFn := fun args objs =>
match args with
| [a0, a1] =>
oLen a0 fun x1 =>
      oLoop (ref13_Given_l5 x1 a0 a1 objs) ([(.s (.int .i64 0)), (.s (.int .i64 0))], objs) (ref13_Given_k6 objs)
| _ => none

def ref13_Sound_l1 (x69 : A) (x68 : A) (x35 : A) (a0 : A) (h63 : Heap) : List A × Heap → Option ((List A × Heap) ⊕ (Ex × List A × Heap)) := fun s70 =>
      oCmp .lss (s70.1.getD 0 .any) x69 fun x71 =>
      oCond x71 (oIdxA 2 x68 (s70.1.getD 0 .any) fun x72 =>
      oLoad (some 2) x72 s70.2 fun x73 =>
      oNew none (some 2) (.agg [.s (.int .u64 0), .s (.int .i64 0)]) s70.2 fun x74 h75 =>
      oStore (some 2) x74 x73 h75 fun h76 =>
      oLoad (some 26) x35 h76 fun x77 =>
      oLoad (some 2) x74 h76 fun x78 =>
      oLend ref13_Fits [a0, x77, x78] h76 (fun v81 h82 => some (.inr (Ex.panic v81, [.any], h82))) fun w85 h86 => oFrz w85 h86 fun x79 h80 =>
      oNot x79 fun x83 =>
      oCond x83 ((trim true h63.length [(.s (.bool false))] h80).map fun p => .inr (Ex.ret, p.1, p.2))
      (oAr .add (s70.1.getD 0 .any) (.s (.int .i64 1)) fun x84 =>
      (trim true h63.length [x84] h80).map .inl))
      ((trim true h63.length [.any] s70.2).map fun p => .inr (Ex.exit 2, p.1, p.2))

def ref13_Sound_k2 (h26 : Heap) (s31 : List A × Heap) (vs88 : List A) : Ex → List A → Heap → Option ((List A × Heap) ⊕ (Ex × List A × Heap)) := fun e109 vs107 h108 =>
      (match e109 with
  | .normal => oCond (vs107.getD 0 .any) ((trim true h26.length [(.s (.bool false))] h108).map fun p => .inr (Ex.ret, p.1, p.2))
      (oAr .add (s31.1.getD 0 .any) (.s (.int .i64 1)) fun x112 =>
      (trim true h26.length [x112] h108).map .inl)
  | .exit i110 => if i110 = 1 then oAr .add (s31.1.getD 0 .any) (.s (.int .i64 1)) fun x113 =>
      (trim true h26.length [x113] h108).map .inl else (trim true h26.length [(vs88.getD 0 .any)] h108).map fun p => .inr (Ex.exit i110, p.1, p.2)
  | .ret => (trim true h26.length [(vs88.getD 0 .any)] h108).map fun p => .inr (Ex.ret, p.1, p.2)
  | .panic v111 => some (.inr (Ex.panic v111, [.any], h108)))

def ref13_Sound_k3 (x35 : A) (a0 : A) (h26 : Heap) (s31 : List A × Heap) : Ex → List A → Heap → Option ((List A × Heap) ⊕ (Ex × List A × Heap)) := fun e87 vs88 h89 =>
      (match e87 with
  | .normal => none
  | .exit i90 => if i90 = 2 then oJoin (oFieldA 1 x35 fun x92 =>
      oLoadD h89.length [] none x92 h89 fun x93 h94 =>
      oCmp .eql x93 (.s (.int .i64 1)) fun x95 =>
      oGuard x95 true (fun _ => oFieldA 0 x35 fun x96 =>
      oLoadD h89.length [] none x96 h94 fun x97 h98 =>
      oCallF h89.length [] ref13_Given [a0, x97] h98 fun w105 h106 => oFrz w105 h106 fun x99 h100 =>
      oFieldA 7 x35 fun x101 =>
      oLoadD h89.length [] none x101 h100 fun x102 h103 =>
      oCmp .gtr x99 x102 fun x104 =>
      (trim true h89.length [x104] h103).map fun p => (Ex.normal, p.1, p.2))
      (fun _ => (trim true h89.length [(.s (.bool false))] h94).map fun p => (Ex.normal, p.1, p.2))) (ref13_Sound_k2 h26 s31 vs88) else if i90 = 1 then oAr .add (s31.1.getD 0 .any) (.s (.int .i64 1)) fun x114 =>
      (trim true h26.length [x114] h89).map .inl else (trim true h26.length [(vs88.getD 0 .any)] h89).map fun p => .inr (Ex.exit i90, p.1, p.2)
  | .ret => (trim true h26.length [(vs88.getD 0 .any)] h89).map fun p => .inr (Ex.ret, p.1, p.2)
  | .panic v91 => some (.inr (Ex.panic v91, [.any], h89)))

def ref13_Sound_k4 (h26 : Heap) (x35 : A) (a0 : A) (s31 : List A × Heap) : Ex → List A → Heap → Option ((List A × Heap) ⊕ (Ex × List A × Heap)) := fun e64 vs62 h63 =>
      (match e64 with
  | .normal => oCond (vs62.getD 0 .any) ((trim true h26.length [(.s (.bool false))] h63).map fun p => .inr (Ex.ret, p.1, p.2))
      (oFieldA 8 x35 fun x67 =>
      oLoad none x67 h63 fun x68 =>
      oLen x68 fun x69 =>
      oLoop (ref13_Sound_l1 x69 x68 x35 a0 h63) ([(.s (.int .i64 0))], h63) (ref13_Sound_k3 x35 a0 h26 s31))
  | .exit i65 => if i65 = 1 then oAr .add (s31.1.getD 0 .any) (.s (.int .i64 1)) fun x115 =>
      (trim true h26.length [x115] h63).map .inl else (trim true h26.length [.any] h63).map fun p => .inr (Ex.exit i65, p.1, p.2)
  | .ret => (trim true h26.length [.any] h63).map fun p => .inr (Ex.ret, p.1, p.2)
  | .panic v66 => some (.inr (Ex.panic v66, [.any], h63)))

def ref13_Sound_l5 (x30 : A) (a0 : A) (h26 : Heap) : List A × Heap → Option ((List A × Heap) ⊕ (Ex × List A × Heap)) := fun s31 =>
      oCmp .lss (s31.1.getD 0 .any) x30 fun x32 =>
      oCond x32 (oIdxA 26 a0 (s31.1.getD 0 .any) fun x33 =>
      oLoad (some 26) x33 s31.2 fun x34 =>
      oNew none (some 26) (.agg [.s (.int .u64 0), .s (.int .i64 0), .s (.int .i64 0), .s (.slice none 0 0), .s (.int .i64 0), .s (.slice none 0 0), .s (.int .i64 0), .s (.int .i64 0), .s (.slice none 0 0), .s (.slice none 0 0), .s (.int .u64 0), .s (.int .u64 0), .s (.int .u64 0), .s (.int .u64 0), .s (.int .i64 0), .s (.int .i64 0), .s (.bool false), .s (.int .u64 0), .s (.int .u64 0), .s (.int .u64 0), .s (.int .u64 0), .s (.int .u64 0), .s (.int .u64 0), .s (.int .u64 0), .s (.int .u64 0), .s (.int .u64 0)]) s31.2 fun x35 h36 =>
      oStore (some 26) x35 x34 h36 fun h37 =>
      oFieldA 0 x35 fun x38 =>
      oLoad none x38 h37 fun x39 =>
      oLend ref13_Refs [a0, x39] h37 (fun v42 h43 => some (.inr (Ex.panic v42, [.any], h43))) fun w116 h117 => oFrz w116 h117 fun x40 h41 =>
      oJoin (oLoad (some 26) x35 h41 fun x44 =>
      oLend ref11_Right [x44] h41 (fun v47 h48 => some (Ex.panic v47, [], h48)) fun w60 h61 => oFrz w60 h61 fun x45 h46 =>
      oNot x45 fun x49 =>
      oGuard x49 false (fun _ => oCmp .gtr (s31.1.getD 0 .any) (.s (.int .i64 0)) fun x50 =>
      oGuard x50 true (fun _ => oCmp .lss x40 (.s (.int .i64 1)) fun x51 =>
      oGuard x51 false (fun _ => oFieldA 1 x35 fun x52 =>
      oLoad none x52 h46 fun x53 =>
      oCmp .eql x53 (.s (.int .i64 1)) fun x54 =>
      oGuard x54 true (fun _ => oCmp .gtr x40 (.s (.int .i64 1)) fun x55 =>
      (trim true h41.length [x55] h46).map fun p => (Ex.normal, p.1, p.2))
      (fun _ => (trim true h41.length [(.s (.bool false))] h46).map fun p => (Ex.normal, p.1, p.2)))
      (fun _ => (trim true h41.length [(.s (.bool true))] h46).map fun p => (Ex.normal, p.1, p.2)))
      (fun _ => oFieldA 1 x35 fun x56 =>
      oLoad none x56 h46 fun x57 =>
      oCmp .eql x57 (.s (.int .i64 1)) fun x58 =>
      oGuard x58 true (fun _ => oCmp .gtr x40 (.s (.int .i64 1)) fun x59 =>
      (trim true h41.length [x59] h46).map fun p => (Ex.normal, p.1, p.2))
      (fun _ => (trim true h41.length [(.s (.bool false))] h46).map fun p => (Ex.normal, p.1, p.2))))
      (fun _ => (trim true h41.length [(.s (.bool true))] h46).map fun p => (Ex.normal, p.1, p.2))) (ref13_Sound_k4 h26 x35 a0 s31))
      ((trim true h26.length [.any] s31.2).map fun p => .inr (Ex.exit 0, p.1, p.2))

def ref13_Sound_k6 (objs : Heap) : Ex → List A → Heap → Option (Out × Heap) := fun e118 vs119 h120 =>
      (match e118 with
  | .normal => none
  | .exit i121 => if i121 = 0 then finish objs.length (.ok (.s (.bool true))) h120 else none
  | .ret => finish objs.length (.ok (vs119.getD 0 .any)) h120
  | .panic v122 => finish objs.length (.pan v122) h120)

def ref13_Sound_k7 (objs : Heap) (a0 : A) : Ex → List A → Heap → Option (Out × Heap) := fun e27 vs25 h26 =>
      (match e27 with
  | .normal => oCond (vs25.getD 0 .any) (finish objs.length (.ok (.s (.bool false))) h26)
      (oLen a0 fun x30 =>
      oLoop (ref13_Sound_l5 x30 a0 h26) ([(.s (.int .i64 0))], h26) (ref13_Sound_k6 objs))
  | .exit i28 => none
  | .ret => finish objs.length (.ok (.s (.bool false))) h26
  | .panic v29 => finish objs.length (.pan v29) h26)

/-- bailey/baileyref13.Sound -/
def ref13_Sound : CallFn := fun args objs =>
match args with
| [a0] =>
oJoin (oLend ref13_Graph [a0] objs (fun v3 h4 => some (Ex.panic v3, [], h4)) fun w23 h24 => oFrz w23 h24 fun x1 h2 =>
      oNot x1 fun x5 =>
      oGuard x5 false (fun _ => oLen a0 fun x6 =>
      oCmp .eql x6 (.s (.int .i64 0)) fun x7 =>
      oGuard x7 false (fun _ => oIdxA 26 a0 (.s (.int .i64 0)) fun x8 =>
      oFieldA 0 x8 fun x9 =>
      oLoad none x9 h2 fun x10 =>
      oCmp .neq x10 (.s (.int .u64 1)) fun x11 =>
      oGuard x11 false (fun _ => oIdxA 26 a0 (.s (.int .i64 0)) fun x12 =>
      oFieldA 1 x12 fun x13 =>
      oLoad none x13 h2 fun x14 =>
      oCmp .neq x14 (.s (.int .i64 1)) fun x15 =>
      oGuard x15 false (fun _ => oLend ref13_Refs [a0, (.s (.int .u64 1))] h2 (fun v18 h19 => some (Ex.panic v18, [], h19)) fun w21 h22 => oFrz w21 h22 fun x16 h17 =>
      oCmp .gtr x16 (.s (.int .i64 0)) fun x20 =>
      (trim true objs.length [x20] h17).map fun p => (Ex.normal, p.1, p.2))
      (fun _ => (trim true objs.length [(.s (.bool true))] h2).map fun p => (Ex.normal, p.1, p.2)))
      (fun _ => (trim true objs.length [(.s (.bool true))] h2).map fun p => (Ex.normal, p.1, p.2)))
      (fun _ => (trim true objs.length [(.s (.bool true))] h2).map fun p => (Ex.normal, p.1, p.2)))
      (fun _ => (trim true objs.length [(.s (.bool true))] h2).map fun p => (Ex.normal, p.1, p.2))) (ref13_Sound_k7 objs a0)
| _ => none

def ref23_Units_l1 (x2 : A) (a0 : A) (objs : Heap) : List A × Heap → Option ((List A × Heap) ⊕ (Ex × List A × Heap)) := fun s3 =>
      oCmp .lss (s3.1.getD 1 .any) x2 fun x4 =>
      oCond x4 (oIdxA 26 a0 (s3.1.getD 1 .any) fun x5 =>
      oLoad (some 26) x5 s3.2 fun x6 =>
      oNew none (some 26) (.agg [.s (.int .u64 0), .s (.int .i64 0), .s (.int .i64 0), .s (.slice none 0 0), .s (.int .i64 0), .s (.slice none 0 0), .s (.int .i64 0), .s (.int .i64 0), .s (.slice none 0 0), .s (.slice none 0 0), .s (.int .u64 0), .s (.int .u64 0), .s (.int .u64 0), .s (.int .u64 0), .s (.int .i64 0), .s (.int .i64 0), .s (.bool false), .s (.int .u64 0), .s (.int .u64 0), .s (.int .u64 0), .s (.int .u64 0), .s (.int .u64 0), .s (.int .u64 0), .s (.int .u64 0), .s (.int .u64 0), .s (.int .u64 0)]) s3.2 fun x7 h8 =>
      oStore (some 26) x7 x6 h8 fun h9 =>
      oFieldA 9 x7 fun x10 =>
      oLoad none x10 h9 fun x11 =>
      oLen x11 fun x12 =>
      oAr .quo x12 (.s (.int .i64 32)) fun x13 =>
      oAr .add (s3.1.getD 0 .any) x13 fun x14 =>
      oAr .add (s3.1.getD 1 .any) (.s (.int .i64 1)) fun x15 =>
      (trim true objs.length [x14, x15] h9).map .inl)
      ((trim true objs.length [(s3.1.getD 0 .any)] s3.2).map fun p => .inr (Ex.exit 0, p.1, p.2))

def ref23_Units_k2 (objs : Heap) : Ex → List A → Heap → Option (Out × Heap) := fun e16 vs17 h18 =>
      (match e16 with
  | .normal => none
  | .exit i19 => if i19 = 0 then finish objs.length (.ok (vs17.getD 0 .any)) h18 else none
  | .ret => finish objs.length (.ok (.s (.int .i64 0))) h18
  | .panic v20 => finish objs.length (.pan v20) h18)

/-- bailey/baileyref23.Units -/
def ref23_Units : CallFn := fun args objs =>
match args with
| [a0] =>
oLen a0 fun x1 =>
      oLen a0 fun x2 =>
      oLoop (ref23_Units_l1 x2 a0 objs) ([x1, (.s (.int .i64 0))], objs) (ref23_Units_k2 objs)
| _ => none

def law23_WatchUnits_k1 (objs : Heap) (a0 : A) : Ex → List A → Heap → Option (Out × Heap) := fun e17 vs15 h16 =>
      (match e17 with
  | .normal => oCond (vs15.getD 0 .any) (finish objs.length (.ok (.s (.bool true))) h16)
      (oLend watch_Units [a0] h16 (fun v22 h23 => finish objs.length (.pan v22) h23) fun w35 h36 => oFrz w35 h36 fun x20 h21 =>
      oLend ref23_Units [a0] h21 (fun v26 h27 => finish objs.length (.pan v26) h27) fun w33 h34 => oFrz w33 h34 fun x24 h25 =>
      oCmp .eql x20 x24 fun x28 =>
      oGuard x28 true (fun _ => oIdxA 26 a0 (.s (.int .i64 0)) fun x29 =>
      oFieldA 6 x29 fun x30 =>
      oLoad none x30 h25 fun x31 =>
      oCmp .leq x20 x31 fun x32 =>
      finish objs.length (.ok x32) h25)
      (fun _ => finish objs.length (.ok (.s (.bool false))) h25))
  | .exit i18 => none
  | .ret => finish objs.length (.ok (.s (.bool false))) h16
  | .panic v19 => finish objs.length (.pan v19) h16)

/-- bailey/baileylaw23.WatchUnits -/
def law23_WatchUnits : CallFn := fun args objs =>
match args with
| [a0] =>
oLend law23_watchAlive [] objs (fun v3 h4 => finish objs.length (.pan v3) h4) fun w37 h38 => oFrz w37 h38 fun x1 h2 =>
      oNot x1 fun x5 =>
      oCond x5 (finish objs.length (.ok (.s (.bool false))) h2)
      (oJoin (oLen a0 fun x6 =>
      oCmp .gtr x6 (.s (.int .i64 60)) fun x7 =>
      oGuard x7 false (fun _ => oLend ref13_Sound [a0] h2 (fun v10 h11 => some (Ex.panic v10, [], h11)) fun w13 h14 => oFrz w13 h14 fun x8 h9 =>
      oNot x8 fun x12 =>
      (trim true h2.length [x12] h9).map fun p => (Ex.normal, p.1, p.2))
      (fun _ => (trim true h2.length [(.s (.bool true))] h2).map fun p => (Ex.normal, p.1, p.2))) (law23_WatchUnits_k1 objs a0))
| _ => none

def law23_WatchReach_k1 (h47 : Heap) (s51 : List A × Heap) : Ex → List A → Heap → Option ((List A × Heap) ⊕ (Ex × List A × Heap)) := fun e79 vs77 h78 =>
      (match e79 with
  | .normal => oCond (vs77.getD 0 .any) ((trim true h47.length [(.s (.bool false))] h78).map fun p => .inr (Ex.ret, p.1, p.2))
      (oAr .add (s51.1.getD 0 .any) (.s (.int .i64 1)) fun x82 =>
      (trim true h47.length [x82] h78).map .inl)
  | .exit i80 => if i80 = 1 then oAr .add (s51.1.getD 0 .any) (.s (.int .i64 1)) fun x83 =>
      (trim true h47.length [x83] h78).map .inl else (trim true h47.length [.any] h78).map fun p => .inr (Ex.exit i80, p.1, p.2)
  | .ret => (trim true h47.length [.any] h78).map fun p => .inr (Ex.ret, p.1, p.2)
  | .panic v81 => some (.inr (Ex.panic v81, [.any], h78)))

def law23_WatchReach_l2 (x20 : A) (a0 : A) (h47 : Heap) : List A × Heap → Option ((List A × Heap) ⊕ (Ex × List A × Heap)) := fun s51 =>
      oLen x20 fun x52 =>
      oCmp .lss (s51.1.getD 0 .any) x52 fun x53 =>
      oCond x53 (oAr .sub (s51.1.getD 0 .any) (.s (.int .i64 1)) fun x54 =>
      oIdxA 1 x20 x54 fun x55 =>
      oLoad none x55 s51.2 fun x56 =>
      oLend ref13_Find [a0, x56] s51.2 (fun v59 h60 => some (.inr (Ex.panic v59, [.any], h60))) fun w84 h85 => oFrz w84 h85 fun x57 h58 =>
      oExtract 0 x57 fun x61 =>
      oExtract 1 x57 fun x62 =>
      oNew none (some 26) (.agg [.s (.int .u64 0), .s (.int .i64 0), .s (.int .i64 0), .s (.slice none 0 0), .s (.int .i64 0), .s (.slice none 0 0), .s (.int .i64 0), .s (.int .i64 0), .s (.slice none 0 0), .s (.slice none 0 0), .s (.int .u64 0), .s (.int .u64 0), .s (.int .u64 0), .s (.int .u64 0), .s (.int .i64 0), .s (.int .i64 0), .s (.bool false), .s (.int .u64 0), .s (.int .u64 0), .s (.int .u64 0), .s (.int .u64 0), .s (.int .u64 0), .s (.int .u64 0), .s (.int .u64 0), .s (.int .u64 0), .s (.int .u64 0)]) h58 fun x63 h64 =>
      oStore (some 26) x63 x61 h64 fun h65 =>
      oJoin (oNot x62 fun x66 =>
      oGuard x66 false (fun _ => oLoadD h65.length [] (some 26) x63 h65 fun x67 h68 =>
      oIdxA 1 x20 (s51.1.getD 0 .any) fun x69 =>
      oLoadD h65.length [] none x69 h68 fun x70 h71 =>
      oCallF h65.length [] ref12_Has [x67, x70] h71 fun w75 h76 => oFrz w75 h76 fun x72 h73 =>
      oNot x72 fun x74 =>
      (trim true h65.length [x74] h73).map fun p => (Ex.normal, p.1, p.2))
      (fun _ => (trim true h65.length [(.s (.bool true))] h65).map fun p => (Ex.normal, p.1, p.2))) (law23_WatchReach_k1 h47 s51))
      ((trim true h47.length [.any] s51.2).map fun p => .inr (Ex.exit 0, p.1, p.2))

def law23_WatchReach_k3 (objs : Heap) : Ex → List A → Heap → Option (Out × Heap) := fun e86 vs87 h88 =>
      (match e86 with
  | .normal => none
  | .exit i89 => if i89 = 0 then finish objs.length (.ok (.s (.bool true))) h88 else none
  | .ret => finish objs.length (.ok (vs87.getD 0 .any)) h88
  | .panic v90 => finish objs.length (.pan v90) h88)

def law23_WatchReach_k4 (objs : Heap) (x20 : A) (a0 : A) : Ex → List A → Heap → Option (Out × Heap) := fun e48 vs46 h47 =>
      (match e48 with
  | .normal => oCond (vs46.getD 0 .any) (finish objs.length (.ok (.s (.bool false))) h47)
      (oLoop (law23_WatchReach_l2 x20 a0 h47) ([(.s (.int .i64 1))], h47) (law23_WatchReach_k3 objs))
  | .exit i49 => none
  | .ret => finish objs.length (.ok (.s (.bool false))) h47
  | .panic v50 => finish objs.length (.pan v50) h47)

def law23_WatchReach_k5 (objs : Heap) (a0 : A) (a1 : A) : Ex → List A → Heap → Option (Out × Heap) := fun e17 vs15 h16 =>
      (match e17 with
  | .normal => oCond (vs15.getD 0 .any) (finish objs.length (.ok (.s (.bool true))) h16)
      (oLend watch_Path [a0, a1] h16 (fun v22 h23 => finish objs.length (.pan v22) h23) fun w93 h94 => oFrz w93 h94 fun x20 h21 =>
      oLend ref13_Find [a0, a1] h21 (fun v26 h27 => finish objs.length (.pan v26) h27) fun w91 h92 => oFrz w91 h92 fun x24 h25 =>
      oExtract 0 x24 fun x28 =>
      oExtract 1 x24 fun x29 =>
      oNew none (some 26) (.agg [.s (.int .u64 0), .s (.int .i64 0), .s (.int .i64 0), .s (.slice none 0 0), .s (.int .i64 0), .s (.slice none 0 0), .s (.int .i64 0), .s (.int .i64 0), .s (.slice none 0 0), .s (.slice none 0 0), .s (.int .u64 0), .s (.int .u64 0), .s (.int .u64 0), .s (.int .u64 0), .s (.int .i64 0), .s (.int .i64 0), .s (.bool false), .s (.int .u64 0), .s (.int .u64 0), .s (.int .u64 0), .s (.int .u64 0), .s (.int .u64 0), .s (.int .u64 0), .s (.int .u64 0), .s (.int .u64 0), .s (.int .u64 0)]) h25 fun x30 h31 =>
      oStore (some 26) x30 x28 h31 fun h32 =>
      oNot x29 fun x33 =>
      oCond x33 (oLen x20 fun x34 =>
      oCmp .eql x34 (.s (.int .i64 0)) fun x35 =>
      finish objs.length (.ok x35) h32)
      (oJoin (oLen x20 fun x36 =>
      oCmp .eql x36 (.s (.int .i64 0)) fun x37 =>
      oGuard x37 false (fun _ => oIdxA 1 x20 (.s (.int .i64 0)) fun x38 =>
      oLoad none x38 h32 fun x39 =>
      oCmp .neq x39 (.s (.int .u64 1)) fun x40 =>
      oGuard x40 false (fun _ => oLen x20 fun x41 =>
      oAr .sub x41 (.s (.int .i64 1)) fun x42 =>
      oIdxA 1 x20 x42 fun x43 =>
      oLoad none x43 h32 fun x44 =>
      oCmp .neq x44 a1 fun x45 =>
      (trim true h32.length [x45] h32).map fun p => (Ex.normal, p.1, p.2))
      (fun _ => (trim true h32.length [(.s (.bool true))] h32).map fun p => (Ex.normal, p.1, p.2)))
      (fun _ => (trim true h32.length [(.s (.bool true))] h32).map fun p => (Ex.normal, p.1, p.2))) (law23_WatchReach_k4 objs x20 a0)))
  | .exit i18 => none
  | .ret => finish objs.length (.ok (.s (.bool false))) h16
  | .panic v19 => finish objs.length (.pan v19) h16)

/-- bailey/baileylaw23.WatchReach -/
def law23_WatchReach : CallFn := fun args objs =>
match args with
| [a0, a1] =>
oLend law23_watchAlive [] objs (fun v3 h4 => finish objs.length (.pan v3) h4) fun w95 h96 => oFrz w95 h96 fun x1 h2 =>
      oNot x1 fun x5 =>
      oCond x5 (finish objs.length (.ok (.s (.bool false))) h2)
      (oJoin (oLen a0 fun x6 =>
      oCmp .gtr x6 (.s (.int .i64 60)) fun x7 =>
      oGuard x7 false (fun _ => oLend ref13_Sound [a0] h2 (fun v10 h11 => some (Ex.panic v10, [], h11)) fun w13 h14 => oFrz w13 h14 fun x8 h9 =>
      oNot x8 fun x12 =>
      (trim true h2.length [x12] h9).map fun p => (Ex.normal, p.1, p.2))
      (fun _ => (trim true h2.length [(.s (.bool true))] h2).map fun p => (Ex.normal, p.1, p.2))) (law23_WatchReach_k5 objs a0 a1))
| _ => none

def ref23_less_k1 (a1 : A) (s2 : List A × Heap) (a0 : A) (objs : Heap) : Ex → List A → Heap → Option ((List A × Heap) ⊕ (Ex × List A × Heap)) := fun e15 vs13 h14 =>
      (match e15 with
  | .normal => oCond (vs13.getD 0 .any) (oLen a1 fun x18 =>
      oCmp .lss (s2.1.getD 0 .any) x18 fun x19 =>
      oGuard x19 true (fun _ => oIdxA 1 a0 (s2.1.getD 0 .any) fun x20 =>
      oLoadD h14.length [] none x20 h14 fun x21 h22 =>
      oIdxA 1 a1 (s2.1.getD 0 .any) fun x23 =>
      oLoadD h14.length [] none x23 h22 fun x24 h25 =>
      oCmp .lss x21 x24 fun x26 =>
      (trim true objs.length [x26] h25).map fun p => .inr (Ex.ret, p.1, p.2))
      (fun _ => (trim true objs.length [(.s (.bool false))] h14).map fun p => .inr (Ex.ret, p.1, p.2)))
      (oAr .add (s2.1.getD 0 .any) (.s (.int .i64 1)) fun x27 =>
      (trim true objs.length [x27] h14).map .inl)
  | .exit i16 => if i16 = 1 then oAr .add (s2.1.getD 0 .any) (.s (.int .i64 1)) fun x28 =>
      (trim true objs.length [x28] h14).map .inl else (trim true objs.length [.any] h14).map fun p => .inr (Ex.exit i16, p.1, p.2)
  | .ret => (trim true objs.length [.any] h14).map fun p => .inr (Ex.ret, p.1, p.2)
  | .panic v17 => some (.inr (Ex.panic v17, [.any], h14)))

def ref23_less_l2 (x1 : A) (a1 : A) (a0 : A) (objs : Heap) : List A × Heap → Option ((List A × Heap) ⊕ (Ex × List A × Heap)) := fun s2 =>
      oCmp .lss (s2.1.getD 0 .any) x1 fun x3 =>
      oCond x3 (oJoin (oLen a1 fun x4 =>
      oCmp .geq (s2.1.getD 0 .any) x4 fun x5 =>
      oGuard x5 false (fun _ => oIdxA 1 a0 (s2.1.getD 0 .any) fun x6 =>
      oLoadD s2.2.length [] none x6 s2.2 fun x7 h8 =>
      oIdxA 1 a1 (s2.1.getD 0 .any) fun x9 =>
      oLoadD s2.2.length [] none x9 h8 fun x10 h11 =>
      oCmp .neq x7 x10 fun x12 =>
      (trim true s2.2.length [x12] h11).map fun p => (Ex.normal, p.1, p.2))
      (fun _ => (trim true s2.2.length [(.s (.bool true))] s2.2).map fun p => (Ex.normal, p.1, p.2))) (ref23_less_k1 a1 s2 a0 objs))
      ((trim true objs.length [.any] s2.2).map fun p => .inr (Ex.exit 0, p.1, p.2))

def ref23_less_k3 (objs : Heap) : Ex → List A → Heap → Option (Out × Heap) := fun e29 vs30 h31 =>
      (match e29 with
  | .normal => none
  | .exit i32 => if i32 = 0 then finish objs.length (.ok (.s (.bool false))) h31 else none
  | .ret => finish objs.length (.ok (vs30.getD 0 .any)) h31
  | .panic v33 => finish objs.length (.pan v33) h31)

/-- bailey/baileyref23.less -/
def ref23_less : CallFn := fun args objs =>
match args with
| [a0, a1] =>
oLen a0 fun x1 =>
      oLoop (ref23_less_l2 x1 a1 a0 objs) ([(.s (.int .i64 0))], objs) (ref23_less_k3 objs)
| _ => none

def ref23_Path_k1 (s4 : List A × Heap) (h2 : Heap) : Ex → List A → Heap → Option ((List A × Heap) ⊕ (Ex × List A × Heap)) := fun e16 vs14 h15 =>
      (match e16 with
  | .normal => oNewSlice none 1 (asRows none [(vs14.getD 0 .any)]) h15 fun x19 h20 =>
      oAppend none 1 24 (s4.1.getD 0 .any) x19 h20 fun x21 h22 =>
      oAr .add (s4.1.getD 1 .any) (.s (.int .i64 1)) fun x23 =>
      (trim true h2.length [x21, x23] h22).map .inl
  | .exit i17 => if i17 = 1 then oAr .add (s4.1.getD 1 .any) (.s (.int .i64 1)) fun x24 =>
      (trim true h2.length [(s4.1.getD 0 .any), x24] h15).map .inl else (trim true h2.length [(s4.1.getD 0 .any)] h15).map fun p => .inr (Ex.exit i17, p.1, p.2)
  | .ret => (trim true h2.length [(s4.1.getD 0 .any)] h15).map fun p => .inr (Ex.ret, p.1, p.2)
  | .panic v18 => some (.inr (Ex.panic v18, [.any], h15)))

def ref23_Path_l2 (x3 : A) (a0 : A) (h2 : Heap) : List A × Heap → Option ((List A × Heap) ⊕ (Ex × List A × Heap)) := fun s4 =>
      oCmp .lss (s4.1.getD 1 .any) x3 fun x5 =>
      oCond x5 (oNewSlice none 1 (asRows none []) s4.2 fun x6 h7 =>
      oJoin (oCmp .eql (s4.1.getD 1 .any) (.s (.int .i64 0)) fun x8 =>
      oCond x8 (oIdxA 26 a0 (.s (.int .i64 0)) fun x9 =>
      oFieldA 0 x9 fun x10 =>
      oLoad none x10 h7 fun x11 =>
      oNewSlice none 1 (asRows none [x11]) h7 fun x12 h13 =>
      (trim true h7.length [x12] h13).map fun p => (Ex.normal, p.1, p.2))
      ((trim true h7.length [x6] h7).map fun p => (Ex.normal, p.1, p.2))) (ref23_Path_k1 s4 h2))
      ((trim true h2.length [(s4.1.getD 0 .any)] s4.2).map fun p => .inr (Ex.exit 0, p.1, p.2))

def ref23_Path_k3 (h56 : Heap) : Ex → List A → Heap → Option (Ex × List A × Heap) := fun e73 vs71 h72 =>
      (match e73 with
  | .normal => oCond (vs71.getD 0 .any) ((trim true h56.length [(vs71.getD 0 .any)] h72).map fun p => (Ex.exit 7, p.1, p.2))
      ((trim true h56.length [(vs71.getD 0 .any)] h72).map fun p => (Ex.normal, p.1, p.2))
  | .exit i74 => (trim true h56.length [(vs71.getD 0 .any)] h72).map fun p => (Ex.exit i74, p.1, p.2)
  | .ret => (trim true h56.length [(vs71.getD 0 .any)] h72).map fun p => (Ex.ret, p.1, p.2)
  | .panic v75 => some (Ex.panic v75, [], h72))

def ref23_Path_k4 (x35 : A) (s38 : List A × Heap) (x93 : A) (s50 : List A × Heap) : Ex → List A → Heap → Option (Ex × List A × Heap) := fun e109 vs107 h108 =>
      (match e109 with
  | .normal => oCond (vs107.getD 0 .any) (oIdxA 1 x35 (s38.1.getD 0 .any) fun x112 =>
      oStore none x112 x93 h108 fun h113 =>
      (trim true s50.2.length [] h113).map fun p => (Ex.normal, p.1, p.2))
      ((trim true s50.2.length [] h108).map fun p => (Ex.normal, p.1, p.2))
  | .exit i110 => if i110 = 7 then (trim true s50.2.length [] h108).map fun p => (Ex.normal, p.1, p.2) else (trim true s50.2.length [] h108).map fun p => (Ex.exit i110, p.1, p.2)
  | .ret => (trim true s50.2.length [] h108).map fun p => (Ex.ret, p.1, p.2)
  | .panic v111 => some (Ex.panic v111, [], h108))

def ref23_Path_k5 (s31 : List A × Heap) (s50 : List A × Heap) (x42 : A) (x35 : A) (s38 : List A × Heap) : Ex → List A → Heap → Option (Ex × List A × Heap) := fun e78 vs76 h77 =>
      (match e78 with
  | .normal => oNewSlice (some h77.length) 1 (asRows none []) (h77 ++ List.replicate 4 .res) fun x81 h82 =>
      oIdxA 1 (s31.1.getD 0 .any) (s50.1.getD 0 .any) fun x83 =>
      oLoadD h77.length [] none x83 h82 fun x84 h85 =>
      oAppendD h77.length [] (h77.length + 1) 1 8 x81 x84 h85 fun x86 h87 =>
      oFieldA 0 x42 fun x88 =>
      oLoadD h77.length [] none x88 h87 fun x89 h90 =>
      oNewSlice (some (h77.length + 2)) 1 (asRows none [x89]) h90 fun x91 h92 =>
      oAppendD h77.length [] (h77.length + 3) 1 8 x86 x91 h92 fun x93 h94 =>
      oJoin (oIdxA 1 x35 (s38.1.getD 0 .any) fun x95 =>
      oLoad none x95 h94 fun x96 =>
      oLen x96 fun x97 =>
      oCmp .eql x97 (.s (.int .i64 0)) fun x98 =>
      oGuard x98 false (fun _ => oIdxA 1 x35 (s38.1.getD 0 .any) fun x99 =>
      oLoad none x99 h94 fun x100 =>
      oLend ref23_less [x93, x100] h94 (fun v103 h104 => some (Ex.panic v103, [], h104)) fun w105 h106 => oFrz w105 h106 fun x101 h102 =>
      (trim true h94.length [x101] h102).map fun p => (Ex.normal, p.1, p.2))
      (fun _ => (trim true h94.length [(.s (.bool true))] h94).map fun p => (Ex.normal, p.1, p.2))) (ref23_Path_k4 x35 s38 x93 s50)
  | .exit i79 => if i79 = 7 then (trim true s50.2.length [] h77).map fun p => (Ex.normal, p.1, p.2) else (trim true s50.2.length [] h77).map fun p => (Ex.exit i79, p.1, p.2)
  | .ret => (trim true s50.2.length [] h77).map fun p => (Ex.ret, p.1, p.2)
  | .panic v80 => some (Ex.panic v80, [], h77))

def ref23_Path_k6 (s50 : List A × Heap) (h44 : Heap) : Ex → List A → Heap → Option ((List A × Heap) ⊕ (Ex × List A × Heap)) := fun e116 vs114 h115 =>
      (match e116 with
  | .normal => oAr .add (s50.1.getD 0 .any) (.s (.int .i64 1)) fun x119 =>
      (trim true h44.length [x119] h115).map .inl
  | .exit i117 => (trim true h44.length [] h115).map fun p => .inr (Ex.exit i117, p.1, p.2)
  | .ret => (trim true h44.length [] h115).map fun p => .inr (Ex.ret, p.1, p.2)
  | .panic v118 => some (.inr (Ex.panic v118, [], h115)))

def ref23_Path_l7 (x49 : A) (a0 : A) (s31 : List A × Heap) (x42 : A) (x35 : A) (s38 : List A × Heap) (h44 : Heap) : List A × Heap → Option ((List A × Heap) ⊕ (Ex × List A × Heap)) := fun s50 =>
      oCmp .lss (s50.1.getD 0 .any) x49 fun x51 =>
      oCond x51 (oJoin (oIdxA 26 a0 (s50.1.getD 0 .any) fun x52 =>
      oLoad (some 26) x52 s50.2 fun x53 =>
      oNew none (some 26) (.agg [.s (.int .u64 0), .s (.int .i64 0), .s (.int .i64 0), .s (.slice none 0 0), .s (.int .i64 0), .s (.slice none 0 0), .s (.int .i64 0), .s (.int .i64 0), .s (.slice none 0 0), .s (.slice none 0 0), .s (.int .u64 0), .s (.int .u64 0), .s (.int .u64 0), .s (.int .u64 0), .s (.int .i64 0), .s (.int .i64 0), .s (.bool false), .s (.int .u64 0), .s (.int .u64 0), .s (.int .u64 0), .s (.int .u64 0), .s (.int .u64 0), .s (.int .u64 0), .s (.int .u64 0), .s (.int .u64 0), .s (.int .u64 0)]) s50.2 fun x54 h55 =>
      oStore (some 26) x54 x53 h55 fun h56 =>
      oJoin (oJoin (oIdxA 1 (s31.1.getD 0 .any) (s50.1.getD 0 .any) fun x57 =>
      oLoad none x57 h56 fun x58 =>
      oLen x58 fun x59 =>
      oCmp .eql x59 (.s (.int .i64 0)) fun x60 =>
      oGuard x60 false (fun _ => oLoad (some 26) x54 h56 fun x61 =>
      oFieldA 0 x42 fun x62 =>
      oLoad none x62 h56 fun x63 =>
      oLend ref12_Has [x61, x63] h56 (fun v66 h67 => some (Ex.panic v66, [], h67)) fun w69 h70 => oFrz w69 h70 fun x64 h65 =>
      oNot x64 fun x68 =>
      (trim true h56.length [x68] h65).map fun p => (Ex.normal, p.1, p.2))
      (fun _ => (trim true h56.length [(.s (.bool true))] h56).map fun p => (Ex.normal, p.1, p.2))) (ref23_Path_k3 h56)) (ref23_Path_k5 s31 s50 x42 x35 s38)) (ref23_Path_k6 s50 h44))
      ((trim true h44.length [] s50.2).map fun p => .inr (Ex.exit 6, p.1, p.2))

def ref23_Path_k8 (s38 : List A × Heap) : Ex → List A → Heap → Option (Ex × List A × Heap) := fun e120 vs121 h122 =>
      (match e120 with
  | .normal => none
  | .exit i123 => if i123 = 6 then (trim true s38.2.length [] h122).map fun p => (Ex.normal, p.1, p.2) else if i123 = 5 then (trim true s38.2.length [] h122).map fun p => (Ex.normal, p.1, p.2) else (trim true s38.2.length [] h122).map fun p => (Ex.exit i123, p.1, p.2)
  | .ret => (trim true s38.2.length [] h122).map fun p => (Ex.ret, p.1, p.2)
  | .panic v124 => some (Ex.panic v124, [], h122))

def ref23_Path_k9 (s38 : List A × Heap) (h36 : Heap) : Ex → List A → Heap → Option ((List A × Heap) ⊕ (Ex × List A × Heap)) := fun e127 vs125 h126 =>
      (match e127 with
  | .normal => oAr .add (s38.1.getD 0 .any) (.s (.int .i64 1)) fun x130 =>
      (trim true h36.length [x130] h126).map .inl
  | .exit i128 => (trim true h36.length [] h126).map fun p => .inr (Ex.exit i128, p.1, p.2)
  | .ret => (trim true h36.length [] h126).map fun p => .inr (Ex.ret, p.1, p.2)
  | .panic v129 => some (.inr (Ex.panic v129, [], h126)))

def ref23_Path_l10 (x37 : A) (a0 : A) (s31 : List A × Heap) (x35 : A) (h36 : Heap) : List A × Heap → Option ((List A × Heap) ⊕ (Ex × List A × Heap)) := fun s38 =>
      oCmp .lss (s38.1.getD 0 .any) x37 fun x39 =>
      oCond x39 (oJoin (oIdxA 26 a0 (s38.1.getD 0 .any) fun x40 =>
      oLoad (some 26) x40 s38.2 fun x41 =>
      oNew none (some 26) (.agg [.s (.int .u64 0), .s (.int .i64 0), .s (.int .i64 0), .s (.slice none 0 0), .s (.int .i64 0), .s (.slice none 0 0), .s (.int .i64 0), .s (.int .i64 0), .s (.slice none 0 0), .s (.slice none 0 0), .s (.int .u64 0), .s (.int .u64 0), .s (.int .u64 0), .s (.int .u64 0), .s (.int .i64 0), .s (.int .i64 0), .s (.bool false), .s (.int .u64 0), .s (.int .u64 0), .s (.int .u64 0), .s (.int .u64 0), .s (.int .u64 0), .s (.int .u64 0), .s (.int .u64 0), .s (.int .u64 0), .s (.int .u64 0)]) s38.2 fun x42 h43 =>
      oStore (some 26) x42 x41 h43 fun h44 =>
      oIdxA 1 (s31.1.getD 0 .any) (s38.1.getD 0 .any) fun x45 =>
      oLoad none x45 h44 fun x46 =>
      oLen x46 fun x47 =>
      oCmp .gtr x47 (.s (.int .i64 0)) fun x48 =>
      oCond x48 ((trim true s38.2.length [] h44).map fun p => (Ex.normal, p.1, p.2))
      (oLen a0 fun x49 =>
      oLoop (ref23_Path_l7 x49 a0 s31 x42 x35 s38 h44) ([(.s (.int .i64 0))], h44) (ref23_Path_k8 s38))) (ref23_Path_k9 s38 h36))
      ((trim true h36.length [] s38.2).map fun p => .inr (Ex.exit 4, p.1, p.2))

def ref23_Path_k11 (s31 : List A × Heap) (h27 : Heap) (x35 : A) : Ex → List A → Heap → Option ((List A × Heap) ⊕ (Ex × List A × Heap)) := fun e131 vs132 h133 =>
      (match e131 with
  | .normal => none
  | .exit i134 => if i134 = 4 then oAr .add (s31.1.getD 1 .any) (.s (.int .i64 1)) fun x136 =>
      (trim true h27.length [x35, x136] h133).map .inl else if i134 = 3 then oAr .add (s31.1.getD 1 .any) (.s (.int .i64 1)) fun x137 =>
      (trim true h27.length [(s31.1.getD 0 .any), x137] h133).map .inl else (trim true h27.length [(s31.1.getD 0 .any)] h133).map fun p => .inr (Ex.exit i134, p.1, p.2)
  | .ret => (trim true h27.length [(s31.1.getD 0 .any)] h133).map fun p => .inr (Ex.ret, p.1, p.2)
  | .panic v135 => some (.inr (Ex.panic v135, [.any], h133)))

def ref23_Path_l12 (x30 : A) (a0 : A) (h27 : Heap) : List A × Heap → Option ((List A × Heap) ⊕ (Ex × List A × Heap)) := fun s31 =>
      oCmp .lss (s31.1.getD 1 .any) x30 fun x32 =>
      oCond x32 (oNewSlice none 1 (asRows none []) s31.2 fun x33 h34 =>
      oAppend none 1 24 x33 (s31.1.getD 0 .any) h34 fun x35 h36 =>
      oLen a0 fun x37 =>
      oLoop (ref23_Path_l10 x37 a0 s31 x35 h36) ([(.s (.int .i64 0))], h36) (ref23_Path_k11 s31 h27 x35))
      ((trim true h27.length [(s31.1.getD 0 .any)] s31.2).map fun p => .inr (Ex.exit 2, p.1, p.2))

def ref23_Path_l13 (x143 : A) (a0 : A) (a1 : A) (vs139 : List A) (h140 : Heap) : List A × Heap → Option ((List A × Heap) ⊕ (Ex × List A × Heap)) := fun s144 =>
      oCmp .lss (s144.1.getD 0 .any) x143 fun x145 =>
      oCond x145 (oIdxA 26 a0 (s144.1.getD 0 .any) fun x146 =>
      oLoad (some 26) x146 s144.2 fun x147 =>
      oNew none (some 26) (.agg [.s (.int .u64 0), .s (.int .i64 0), .s (.int .i64 0), .s (.slice none 0 0), .s (.int .i64 0), .s (.slice none 0 0), .s (.int .i64 0), .s (.int .i64 0), .s (.slice none 0 0), .s (.slice none 0 0), .s (.int .u64 0), .s (.int .u64 0), .s (.int .u64 0), .s (.int .u64 0), .s (.int .i64 0), .s (.int .i64 0), .s (.bool false), .s (.int .u64 0), .s (.int .u64 0), .s (.int .u64 0), .s (.int .u64 0), .s (.int .u64 0), .s (.int .u64 0), .s (.int .u64 0), .s (.int .u64 0), .s (.int .u64 0)]) s144.2 fun x148 h149 =>
      oStore (some 26) x148 x147 h149 fun h150 =>
      oFieldA 0 x148 fun x151 =>
      oLoad none x151 h150 fun x152 =>
      oCmp .eql x152 a1 fun x153 =>
      oCond x153 (oIdxA 1 (vs139.getD 0 .any) (s144.1.getD 0 .any) fun x154 =>
      oLoad none x154 h150 fun x155 =>
      (trim true h140.length [x155] h150).map fun p => .inr (Ex.ret, p.1, p.2))
      (oAr .add (s144.1.getD 0 .any) (.s (.int .i64 1)) fun x156 =>
      (trim true h140.length [x156] h150).map .inl))
      ((trim true h140.length [.any] s144.2).map fun p => .inr (Ex.exit 8, p.1, p.2))

def ref23_Path_k14 (objs : Heap) : Ex → List A → Heap → Option (Out × Heap) := fun e157 vs158 h159 =>
      (match e157 with
  | .normal => none
  | .exit i160 => if i160 = 8 then finish objs.length (.ok (.s (.slice none 0 0))) h159 else none
  | .ret => finish objs.length (.ok (vs158.getD 0 .any)) h159
  | .panic v161 => finish objs.length (.pan v161) h159)

def ref23_Path_k15 (a0 : A) (a1 : A) (objs : Heap) : Ex → List A → Heap → Option (Out × Heap) := fun e138 vs139 h140 =>
      (match e138 with
  | .normal => none
  | .exit i141 => if i141 = 2 then oLen a0 fun x143 =>
      oLoop (ref23_Path_l13 x143 a0 a1 vs139 h140) ([(.s (.int .i64 0))], h140) (ref23_Path_k14 objs) else none
  | .ret => finish objs.length (.ok (.s (.slice none 0 0))) h140
  | .panic v142 => finish objs.length (.pan v142) h140)

def ref23_Path_k16 (a0 : A) (a1 : A) (objs : Heap) : Ex → List A → Heap → Option (Out × Heap) := fun e25 vs26 h27 =>
      (match e25 with
  | .normal => none
  | .exit i28 => if i28 = 0 then oLen a0 fun x30 =>
      oLoop (ref23_Path_l12 x30 a0 h27) ([(vs26.getD 0 .any), (.s (.int .i64 0))], h27) (ref23_Path_k15 a0 a1 objs) else none
  | .ret => finish objs.length (.ok (.s (.slice none 0 0))) h27
  | .panic v29 => finish objs.length (.pan v29) h27)

/-- bailey/baileyref23.Path -/
def ref23_Path : CallFn := fun args objs =>
match args with
| [a0, a1] =>
oNewSlice none 1 (asRows none []) objs fun x1 h2 =>
      oLen a0 fun x3 =>
      oLoop (ref23_Path_l2 x3 a0 h2) ([x1, (.s (.int .i64 0))], h2) (ref23_Path_k16 a0 a1 objs)
| _ => none

def law23_WatchPaths_k1 (objs : Heap) (a0 : A) (a1 : A) : Ex → List A → Heap → Option (Out × Heap) := fun e17 vs15 h16 =>
      (match e17 with
  | .normal => oCond (vs15.getD 0 .any) (finish objs.length (.ok (.s (.bool true))) h16)
      (oLend watch_Path [a0, a1] h16 (fun v22 h23 => finish objs.length (.pan v22) h23) fun w36 h37 => oFrz w36 h37 fun x20 h21 =>
      oLend ref23_Path [a0, a1] h21 (fun v26 h27 => finish objs.length (.pan v26) h27) fun w34 h35 => oFrz w34 h35 fun x24 h25 =>
      oLend ref23_Same [x20, x24] h25 (fun v30 h31 => finish objs.length (.pan v30) h31) fun w32 h33 => oFrz w32 h33 fun x28 h29 =>
      finish objs.length (.ok x28) h29)
  | .exit i18 => none
  | .ret => finish objs.length (.ok (.s (.bool false))) h16
  | .panic v19 => finish objs.length (.pan v19) h16)

/-- bailey/baileylaw23.WatchPaths -/
def law23_WatchPaths : CallFn := fun args objs =>
match args with
| [a0, a1] =>
oLend law23_watchAlive [] objs (fun v3 h4 => finish objs.length (.pan v3) h4) fun w38 h39 => oFrz w38 h39 fun x1 h2 =>
      oNot x1 fun x5 =>
      oCond x5 (finish objs.length (.ok (.s (.bool false))) h2)
      (oJoin (oLen a0 fun x6 =>
      oCmp .gtr x6 (.s (.int .i64 40)) fun x7 =>
      oGuard x7 false (fun _ => oLend ref13_Sound [a0] h2 (fun v10 h11 => some (Ex.panic v10, [], h11)) fun w13 h14 => oFrz w13 h14 fun x8 h9 =>
      oNot x8 fun x12 =>
      (trim true h2.length [x12] h9).map fun p => (Ex.normal, p.1, p.2))
      (fun _ => (trim true h2.length [(.s (.bool true))] h2).map fun p => (Ex.normal, p.1, p.2))) (law23_WatchPaths_k1 objs a0 a1))
| _ => none

end Go.Ab.F
