/-
  THE PROGRAM'S FUNCTIONS OVER VALUES WITHOUT ADDRESSES. Written by a program (emit.py).
-/
import Derived.Test.YtffjjeifgejplaaAbsPrim
set_option maxRecDepth 100000
set_option linter.unusedVariables false
namespace Go.Ab.F
open Go Go.Ab

/-- bailey/baileylaw24.secrets -/
def law24_secrets : CallFn := fun args objs =>
match args with
| [] =>
oBuildP [.s (.int .i64 0), .s (.slice none 0 0)] [(0, none, (.s (.int .i64 2)))] fun x1 =>
      oNew none (some 2) (.agg [.s (.int .i64 0), .s (.slice none 0 0)]) objs fun x2 h3 =>
      oStore (some 2) x2 x1 h3 fun h4 =>
      oBuildP [.s (.int .u64 0), .s (.int .i64 0)] [(0, none, (.s (.int .u64 9))), (1, none, (.s (.int .i64 4)))] fun x5 =>
      oNewSlice none 2 (asRows (some 2) [x5]) h4 fun w8 h9 => oFrz w8 h9 fun x6 h7 =>
      oBuildP [.s (.int .i64 0), .s (.slice none 0 0)] [(0, none, (.s (.int .i64 2))), (1, none, x6)] fun x10 =>
      oNew none (some 2) (.agg [.s (.int .i64 0), .s (.slice none 0 0)]) h7 fun x11 h12 =>
      oStore (some 2) x11 x10 h12 fun h13 =>
      oLoadD h13.length [] (some 2) x2 (h13 ++ List.replicate 3 .res) fun x14 h15 =>
      oBuildP [.s (.int .u64 0), .s (.int .i64 0)] [(0, none, (.s (.int .u64 65))), (1, none, (.s (.int .i64 2)))] fun x16 =>
      oBuildP [.s (.int .u64 0), .s (.int .i64 0)] [(0, none, (.s (.int .u64 66))), (1, none, (.s (.int .i64 1)))] fun x17 =>
      oNewSlice (some h13.length) 2 (asRows (some 2) [x16, x17]) h15 fun x18 h19 =>
      oBuildP [.s (.int .u64 0), .s (.int .i64 0), .s (.int .i64 0), .s (.slice none 0 0), .s (.int .i64 0), .s (.slice none 0 0), .s (.int .i64 0), .s (.int .i64 0), .s (.slice none 0 0), .s (.slice none 0 0), .s (.int .u64 0), .s (.int .u64 0), .s (.int .u64 0), .s (.int .u64 0), .s (.int .i64 0), .s (.int .i64 0), .s (.bool false), .s (.int .u64 0), .s (.int .u64 0), .s (.int .u64 0), .s (.int .u64 0), .s (.int .u64 0), .s (.int .u64 0), .s (.int .u64 0), .s (.int .u64 0), .s (.int .u64 0)] [(0, none, (.s (.int .u64 1))), (1, none, (.s (.int .i64 1))), (2, (some 2), x14), (6, none, (.s (.int .i64 9))), (7, none, (.s (.int .i64 2))), (8, none, x18)] fun x20 =>
      oLoadD h13.length [] (some 2) x11 h19 fun x21 h22 =>
      oMake (some (h13.length + 1)) 1 1 [.s (.int .u8 0)] (.s (.int .i64 32)) (.s (.int .i64 32)) h22 fun x23 h24 =>
      oBuildP [.s (.int .u64 0), .s (.int .i64 0), .s (.int .i64 0), .s (.slice none 0 0), .s (.int .i64 0), .s (.slice none 0 0), .s (.int .i64 0), .s (.int .i64 0), .s (.slice none 0 0), .s (.slice none 0 0), .s (.int .u64 0), .s (.int .u64 0), .s (.int .u64 0), .s (.int .u64 0), .s (.int .i64 0), .s (.int .i64 0), .s (.bool false), .s (.int .u64 0), .s (.int .u64 0), .s (.int .u64 0), .s (.int .u64 0), .s (.int .u64 0), .s (.int .u64 0), .s (.int .u64 0), .s (.int .u64 0), .s (.int .u64 0)] [(0, none, (.s (.int .u64 65))), (1, none, (.s (.int .i64 4))), (2, (some 2), x21), (6, none, (.s (.int .i64 2))), (9, none, x23)] fun x25 =>
      oLoadD h13.length [] (some 2) x11 h24 fun x26 h27 =>
      oLoadD h13.length [] (some 2) x11 h27 fun x28 h29 =>
      oBuildP [.s (.int .u64 0), .s (.int .i64 0), .s (.int .i64 0), .s (.slice none 0 0), .s (.int .i64 0), .s (.slice none 0 0), .s (.int .i64 0), .s (.int .i64 0), .s (.slice none 0 0), .s (.slice none 0 0), .s (.int .u64 0), .s (.int .u64 0), .s (.int .u64 0), .s (.int .u64 0), .s (.int .i64 0), .s (.int .i64 0), .s (.bool false), .s (.int .u64 0), .s (.int .u64 0), .s (.int .u64 0), .s (.int .u64 0), .s (.int .u64 0), .s (.int .u64 0), .s (.int .u64 0), .s (.int .u64 0), .s (.int .u64 0)] [(0, none, (.s (.int .u64 66))), (1, none, (.s (.int .i64 2))), (2, (some 2), x26), (4, (some 2), x28), (6, none, (.s (.int .i64 1)))] fun x30 =>
      oNewSlice (some (h13.length + 2)) 26 (asRows (some 26) [x20, x25, x30]) h29 fun x31 h32 =>
      finish objs.length (.ok x31) h32
| _ => none

def slices_BinarySearchFunc_Sapi_Link_api_Link_uint64_l1 (En : String → CallFn) (a0 : A) (a2 : A) (a1 : A) (objs : Heap) : List A × Heap → Option ((List A × Heap) ⊕ (Ex × List A × Heap)) := fun s2 =>
      oCmp .lss (s2.1.getD 0 .any) (s2.1.getD 1 .any) fun x3 =>
      oCond x3 (oAr .add (s2.1.getD 0 .any) (s2.1.getD 1 .any) fun x4 =>
      oConv .u64 x4 fun x5 =>
      oShift .shr x5 (.s (.int .u64 1)) fun x6 =>
      oConv .i64 x6 fun x7 =>
      oIdxA 2 a0 x7 fun x8 =>
      oLoad (some 2) x8 s2.2 fun x9 =>
      oLendV En a2 [x9, a1] s2.2 (fun v12 h13 => some (.inr (Ex.panic v12, [.any], h13))) fun w16 h17 => oFrz w16 h17 fun x10 h11 =>
      oCmp .lss x10 (.s (.int .i64 0)) fun x14 =>
      oCond x14 (oAr .add x7 (.s (.int .i64 1)) fun x15 =>
      (trim true objs.length [x15, (s2.1.getD 1 .any)] h11).map .inl)
      ((trim true objs.length [(s2.1.getD 0 .any), x7] h11).map .inl))
      ((trim true objs.length [(s2.1.getD 0 .any)] s2.2).map fun p => .inr (Ex.exit 0, p.1, p.2))

def slices_BinarySearchFunc_Sapi_Link_api_Link_uint64_k2 (En : String → CallFn) (x1 : A) (a0 : A) (a2 : A) (a1 : A) (objs : Heap) : Ex → List A → Heap → Option (Out × Heap) := fun e18 vs19 h20 =>
      (match e18 with
  | .normal => none
  | .exit i21 => if i21 = 0 then oCmp .lss (vs19.getD 0 .any) x1 fun x23 =>
      oGuard x23 true (fun _ => oIdxA 2 a0 (vs19.getD 0 .any) fun x24 =>
      oLoad (some 2) x24 h20 fun x25 =>
      oLendV En a2 [x25, a1] h20 (fun v28 h29 => finish objs.length (.pan v28) h29) fun w31 h32 => oFrz w31 h32 fun x26 h27 =>
      oCmp .eql x26 (.s (.int .i64 0)) fun x30 =>
      finish objs.length (.ok (.tup [(vs19.getD 0 .any), x30])) h27)
      (fun _ => finish objs.length (.ok (.tup [(vs19.getD 0 .any), (.s (.bool false))])) h20) else none
  | .ret => finish objs.length (.ok (.tup [(.s (.int .i64 0)), (.s (.bool false))])) h20
  | .panic v22 => finish objs.length (.pan v22) h20)

/-- slices.BinarySearchFunc[[]bailey/api.Link,bailey/api.Link,uint64] -/
def slices_BinarySearchFunc_Sapi_Link_api_Link_uint64 (En : String → CallFn) : CallFn := fun args objs =>
match args with
| [a0, a1, a2] =>
oLen a0 fun x1 =>
      oLoop (slices_BinarySearchFunc_Sapi_Link_api_Link_uint64_l1 En a0 a2 a1 objs) ([(.s (.int .i64 0)), x1], objs) (slices_BinarySearchFunc_Sapi_Link_api_Link_uint64_k2 En x1 a0 a2 a1 objs)
| _ => none

/-- cmp.isNaN[uint64] -/
def cmp_isNaN_uint64 : CallFn := fun args objs =>
match args with
| [a0] =>
oCmp .neq a0 a0 fun x1 =>
      finish objs.length (.ok x1) objs
| _ => none

/-- cmp.Compare[uint64] -/
def cmp_Compare_uint64 : CallFn := fun args objs =>
match args with
| [a0, a1] =>
oLend cmp_isNaN_uint64 [a0] objs (fun v3 h4 => finish objs.length (.pan v3) h4) fun w13 h14 => oFrz w13 h14 fun x1 h2 =>
      oLend cmp_isNaN_uint64 [a1] h2 (fun v7 h8 => finish objs.length (.pan v7) h8) fun w11 h12 => oFrz w11 h12 fun x5 h6 =>
      oCond x1 (oCond x5 (finish objs.length (.ok (.s (.int .i64 0))) h6)
      (finish objs.length (.ok (.s (.int .i64 (-1)))) h6))
      (oCond x5 (finish objs.length (.ok (.s (.int .i64 1))) h6)
      (oCmp .lss a0 a1 fun x9 =>
      oCond x9 (finish objs.length (.ok (.s (.int .i64 (-1)))) h6)
      (oCmp .gtr a0 a1 fun x10 =>
      oCond x10 (finish objs.length (.ok (.s (.int .i64 1))) h6)
      (finish objs.length (.ok (.s (.int .i64 0))) h6))))
| _ => none

/-- bailey/dir.place$1 -/
def dir_place_c1 : CallFn := fun args objs =>
match args with
| [a0, a1] =>
oNew none (some 2) a0 objs fun x1 h2 =>
      oFieldA 0 x1 fun x3 =>
      oLoad none x3 h2 fun x4 =>
      oLend cmp_Compare_uint64 [x4, a1] h2 (fun v7 h8 => finish objs.length (.pan v7) h8) fun w9 h10 => oFrz w9 h10 fun x5 h6 =>
      finish objs.length (.ok x5) h6
| _ => none

def En_dir_place : String → CallFn := fun n => if n = "bailey/dir.place$1" then dir_place_c1 else (fun _ _ => none)

/-- bailey/dir.place -/
def dir_place : CallFn := fun args objs =>
match args with
| [a0, a1] =>
oNew none (some 26) a0 objs fun x1 h2 =>
      oFieldA 8 x1 fun x3 =>
      oLoad none x3 h2 fun x4 =>
      oLend (slices_BinarySearchFunc_Sapi_Link_api_Link_uint64 (En_dir_place)) [x4, a1, (.fn "bailey/dir.place$1" [])] h2 (fun v7 h8 => finish objs.length (.pan v7) h8) fun w11 h12 => oFrz w11 h12 fun x5 h6 =>
      oExtract 0 x5 fun x9 =>
      oExtract 1 x5 fun x10 =>
      finish objs.length (.ok (.tup [x9, x10])) h6
| _ => none

/-- bailey/dir.Has -/
def dir_Has : CallFn := fun args objs =>
match args with
| [a0, a1] =>
oNew none (some 26) a0 objs fun x1 h2 =>
      oLoad (some 26) x1 h2 fun x3 =>
      oLend dir_place [x3, a1] h2 (fun v6 h7 => finish objs.length (.pan v6) h7) fun w10 h11 => oFrz w10 h11 fun x4 h5 =>
      oExtract 0 x4 fun x8 =>
      oExtract 1 x4 fun x9 =>
      finish objs.length (.ok x9) h5
| _ => none

def label_Level_l1 (x5 : A) (x4 : A) (a1 : A) (h2 : Heap) : List A × Heap → Option ((List A × Heap) ⊕ (Ex × List A × Heap)) := fun s6 =>
      oCmp .lss (s6.1.getD 0 .any) x5 fun x7 =>
      oCond x7 (oIdxA 2 x4 (s6.1.getD 0 .any) fun x8 =>
      oLoad (some 2) x8 s6.2 fun x9 =>
      oNew none (some 2) (.agg [.s (.int .u64 0), .s (.int .i64 0)]) s6.2 fun x10 h11 =>
      oStore (some 2) x10 x9 h11 fun h12 =>
      oFieldA 0 x10 fun x13 =>
      oLoad none x13 h12 fun x14 =>
      oCmp .eql x14 a1 fun x15 =>
      oCond x15 (oFieldA 1 x10 fun x16 =>
      oLoad none x16 h12 fun x17 =>
      (trim true h2.length [x17] h12).map fun p => .inr (Ex.ret, p.1, p.2))
      (oAr .add (s6.1.getD 0 .any) (.s (.int .i64 1)) fun x18 =>
      (trim true h2.length [x18] h12).map .inl))
      ((trim true h2.length [.any] s6.2).map fun p => .inr (Ex.exit 0, p.1, p.2))

def label_Level_k2 (x1 : A) (objs : Heap) : Ex → List A → Heap → Option (Out × Heap) := fun e19 vs20 h21 =>
      (match e19 with
  | .normal => none
  | .exit i22 => if i22 = 0 then oFieldA 0 x1 fun x24 =>
      oLoad none x24 h21 fun x25 =>
      finish objs.length (.ok x25) h21 else none
  | .ret => finish objs.length (.ok (vs20.getD 0 .any)) h21
  | .panic v23 => finish objs.length (.pan v23) h21)

/-- bailey/label.Level -/
def label_Level : CallFn := fun args objs =>
match args with
| [a0, a1] =>
oNew none (some 2) a0 objs fun x1 h2 =>
      oFieldA 1 x1 fun x3 =>
      oLoad none x3 h2 fun x4 =>
      oLen x4 fun x5 =>
      oLoop (label_Level_l1 x5 x4 a1 h2) ([(.s (.int .i64 0))], h2) (label_Level_k2 x1 objs)
| _ => none

/-- bailey/twin.Hidden$1 -/
def twin_Hidden_c1 : CallFn := fun args objs =>
match args with
| [a0, a1] =>
oFieldA 2 a1 fun x1 =>
      oLoad (some 2) x1 objs fun x2 =>
      oLend label_Level [x2, a0] objs (fun v5 h6 => finish objs.length (.pan v5) h6) fun w8 h9 => oFrz w8 h9 fun x3 h4 =>
      oCmp .geq x3 (.s (.int .i64 4)) fun x7 =>
      finish objs.length (.ok x7) h4
| _ => none

def slices_IndexFunc_Suint64_uint64_l1 (En : String → CallFn) (x1 : A) (a0 : A) (a1 : A) (objs : Heap) : List A × Heap → Option ((List A × Heap) ⊕ (Ex × List A × Heap)) := fun s2 =>
      oCmp .lss (s2.1.getD 0 .any) x1 fun x3 =>
      oCond x3 (oIdxA 1 a0 (s2.1.getD 0 .any) fun x4 =>
      oLoad none x4 s2.2 fun x5 =>
      oLendV En a1 [x5] s2.2 (fun v8 h9 => some (.inr (Ex.panic v8, [.any], h9))) fun w11 h12 => oFrz w11 h12 fun x6 h7 =>
      oCond x6 ((trim true objs.length [(s2.1.getD 0 .any)] h7).map fun p => .inr (Ex.ret, p.1, p.2))
      (oAr .add (s2.1.getD 0 .any) (.s (.int .i64 1)) fun x10 =>
      (trim true objs.length [x10] h7).map .inl))
      ((trim true objs.length [.any] s2.2).map fun p => .inr (Ex.exit 0, p.1, p.2))

def slices_IndexFunc_Suint64_uint64_k2 (objs : Heap) : Ex → List A → Heap → Option (Out × Heap) := fun e13 vs14 h15 =>
      (match e13 with
  | .normal => none
  | .exit i16 => if i16 = 0 then finish objs.length (.ok (.s (.int .i64 (-1)))) h15 else none
  | .ret => finish objs.length (.ok (vs14.getD 0 .any)) h15
  | .panic v17 => finish objs.length (.pan v17) h15)

/-- slices.IndexFunc[[]uint64,uint64] -/
def slices_IndexFunc_Suint64_uint64 (En : String → CallFn) : CallFn := fun args objs =>
match args with
| [a0, a1] =>
oLen a0 fun x1 =>
      oLoop (slices_IndexFunc_Suint64_uint64_l1 En x1 a0 a1 objs) ([(.s (.int .i64 0))], objs) (slices_IndexFunc_Suint64_uint64_k2 objs)
| _ => none

/-- slices.ContainsFunc[[]uint64,uint64] -/
def slices_ContainsFunc_Suint64_uint64 (En : String → CallFn) : CallFn := fun args objs =>
match args with
| [a0, a1] =>
oLend (slices_IndexFunc_Suint64_uint64 En) [a0, a1] objs (fun v3 h4 => finish objs.length (.pan v3) h4) fun w6 h7 => oFrz w6 h7 fun x1 h2 =>
      oCmp .geq x1 (.s (.int .i64 0)) fun x5 =>
      finish objs.length (.ok x5) h2
| _ => none

def En_twin_Hidden : String → CallFn := fun n => if n = "bailey/twin.Hidden$1" then twin_Hidden_c1 else (fun _ _ => none)

/-- bailey/twin.Hidden -/
def twin_Hidden : CallFn := fun args objs =>
match args with
| [a0, a1] =>
oNew none (some 26) a0 objs fun x1 h2 =>
      oLend (slices_ContainsFunc_Suint64_uint64 (En_twin_Hidden)) [a1, (.fn "bailey/twin.Hidden$1" [x1])] h2 (fun v5 h6 => finish objs.length (.pan v5) h6) fun w7 h8 => oFrz w7 h8 fun x3 h4 =>
      finish objs.length (.ok x3) h4
| _ => none

/-- bailey/twin.View$1 -/
def twin_View_c1 : CallFn := fun args objs =>
match args with
| [a0, a1, a2] =>
oNew none (some 26) a0 objs fun x1 h2 =>
      oLoad (some 26) x1 h2 fun x3 =>
      oFieldA 0 a1 fun x4 =>
      oLoad none x4 h2 fun x5 =>
      oLend dir_Has [x3, x5] h2 (fun v8 h9 => finish objs.length (.pan v8) h9) fun w19 h20 => oFrz w19 h20 fun x6 h7 =>
      oGuard x6 true (fun _ => oLoad (some 26) x1 h7 fun x10 =>
      oLoad none a2 h7 fun x11 =>
      oLend twin_Hidden [x10, x11] h7 (fun v14 h15 => finish objs.length (.pan v14) h15) fun w17 h18 => oFrz w17 h18 fun x12 h13 =>
      oNot x12 fun x16 =>
      finish objs.length (.ok x16) h13)
      (fun _ => finish objs.length (.ok (.s (.bool false))) h7)
| _ => none

def slices_IndexFunc_Sapi_Thing_api_Thing_l1 (En : String → CallFn) (x1 : A) (a0 : A) (a1 : A) (objs : Heap) : List A × Heap → Option ((List A × Heap) ⊕ (Ex × List A × Heap)) := fun s2 =>
      oCmp .lss (s2.1.getD 0 .any) x1 fun x3 =>
      oCond x3 (oIdxA 26 a0 (s2.1.getD 0 .any) fun x4 =>
      oLoad (some 26) x4 s2.2 fun x5 =>
      oLendV En a1 [x5] s2.2 (fun v8 h9 => some (.inr (Ex.panic v8, [.any], h9))) fun w11 h12 => oFrz w11 h12 fun x6 h7 =>
      oCond x6 ((trim true objs.length [(s2.1.getD 0 .any)] h7).map fun p => .inr (Ex.ret, p.1, p.2))
      (oAr .add (s2.1.getD 0 .any) (.s (.int .i64 1)) fun x10 =>
      (trim true objs.length [x10] h7).map .inl))
      ((trim true objs.length [.any] s2.2).map fun p => .inr (Ex.exit 0, p.1, p.2))

def slices_IndexFunc_Sapi_Thing_api_Thing_k2 (objs : Heap) : Ex → List A → Heap → Option (Out × Heap) := fun e13 vs14 h15 =>
      (match e13 with
  | .normal => none
  | .exit i16 => if i16 = 0 then finish objs.length (.ok (.s (.int .i64 (-1)))) h15 else none
  | .ret => finish objs.length (.ok (vs14.getD 0 .any)) h15
  | .panic v17 => finish objs.length (.pan v17) h15)

/-- slices.IndexFunc[[]bailey/api.Thing,bailey/api.Thing] -/
def slices_IndexFunc_Sapi_Thing_api_Thing (En : String → CallFn) : CallFn := fun args objs =>
match args with
| [a0, a1] =>
oLen a0 fun x1 =>
      oLoop (slices_IndexFunc_Sapi_Thing_api_Thing_l1 En x1 a0 a1 objs) ([(.s (.int .i64 0))], objs) (slices_IndexFunc_Sapi_Thing_api_Thing_k2 objs)
| _ => none

/-- slices.ContainsFunc[[]bailey/api.Thing,bailey/api.Thing] -/
def slices_ContainsFunc_Sapi_Thing_api_Thing (En : String → CallFn) : CallFn := fun args objs =>
match args with
| [a0, a1] =>
oLend (slices_IndexFunc_Sapi_Thing_api_Thing En) [a0, a1] objs (fun v3 h4 => finish objs.length (.pan v3) h4) fun w6 h7 => oFrz w6 h7 fun x1 h2 =>
      oCmp .geq x1 (.s (.int .i64 0)) fun x5 =>
      finish objs.length (.ok x5) h2
| _ => none

/-- bailey/thing.Copy -/
def thing_Copy : CallFn := fun args objs =>
match args with
| [a0] =>
oNew none (some 26) a0 objs fun x1 h2 =>
      oNew none (some 26) (.agg [.s (.int .u64 0), .s (.int .i64 0), .s (.int .i64 0), .s (.slice none 0 0), .s (.int .i64 0), .s (.slice none 0 0), .s (.int .i64 0), .s (.int .i64 0), .s (.slice none 0 0), .s (.slice none 0 0), .s (.int .u64 0), .s (.int .u64 0), .s (.int .u64 0), .s (.int .u64 0), .s (.int .i64 0), .s (.int .i64 0), .s (.bool false), .s (.int .u64 0), .s (.int .u64 0), .s (.int .u64 0), .s (.int .u64 0), .s (.int .u64 0), .s (.int .u64 0), .s (.int .u64 0), .s (.int .u64 0), .s (.int .u64 0)]) h2 fun x3 h4 =>
      oFieldA 2 x1 fun x5 =>
      oFieldA 1 x5 fun x6 =>
      oLoadD h4.length [] none x6 h4 fun x7 h8 =>
      oCallF h4.length [] (primClone 2 16) [x7] h8 fun x9 h10 =>
      oFieldA 4 x1 fun x11 =>
      oFieldA 1 x11 fun x12 =>
      oLoadD h4.length [] none x12 h10 fun x13 h14 =>
      oCallF h4.length [] (primClone 2 16) [x13] h14 fun x15 h16 =>
      oFieldA 2 x1 fun x17 =>
      oFieldA 1 x17 fun x18 =>
      oStore none x18 x9 h16 fun h19 =>
      oFieldA 4 x1 fun x20 =>
      oFieldA 1 x20 fun x21 =>
      oStore none x21 x15 h19 fun h22 =>
      oFieldA 8 x1 fun x23 =>
      oLoadD h22.length [] none x23 h22 fun x24 h25 =>
      oCallF h22.length [] (primClone 2 16) [x24] h25 fun x26 h27 =>
      oFieldA 9 x1 fun x28 =>
      oLoadD h22.length [] none x28 h27 fun x29 h30 =>
      oCallF h22.length [] (primClone 1 1) [x29] h30 fun x31 h32 =>
      oFieldA 8 x1 fun x33 =>
      oStore none x33 x26 h32 fun h34 =>
      oFieldA 9 x1 fun x35 =>
      oStore none x35 x31 h34 fun h36 =>
      oLoad (some 26) x1 h36 fun x37 =>
      oStore (some 26) x3 x37 h36 fun h38 =>
      oLoad (some 26) x3 h38 fun r39 =>
      finish objs.length (.ok r39) h38
| _ => none

def En_twin_View : String → CallFn := fun n => if n = "bailey/twin.View$1" then twin_View_c1 else (fun _ _ => none)

def twin_View_k1 (x10 : A) (s6 : List A × Heap) (x13 : A) : Ex → List A → Heap → Option (Ex × List A × Heap) := fun e31 vs29 h30 =>
      (match e31 with
  | .normal => oCond (vs29.getD 0 .any) (oLoad (some 26) x10 h30 fun x34 =>
      oLend thing_Copy [x34] h30 (fun v37 h38 => some (Ex.panic v37, [], h38)) fun w43 h44 => oFrz w43 h44 fun x35 h36 =>
      oNewSlice none 26 (asRows (some 26) [x35]) h36 fun x39 h40 =>
      oAppend none 26 272 (s6.1.getD 0 .any) x39 h40 fun x41 h42 =>
      (trim true s6.2.length [x41] h42).map fun p => (Ex.normal, p.1, p.2))
      (oCond x13 (oFieldA 0 x10 fun x45 =>
      oLoad none x45 h30 fun x46 =>
      oFieldA 1 x10 fun x47 =>
      oLoad none x47 h30 fun x48 =>
      oFieldA 6 x10 fun x49 =>
      oLoad none x49 h30 fun x50 =>
      oBuildP [.s (.int .u64 0), .s (.int .i64 0), .s (.int .i64 0), .s (.slice none 0 0), .s (.int .i64 0), .s (.slice none 0 0), .s (.int .i64 0), .s (.int .i64 0), .s (.slice none 0 0), .s (.slice none 0 0), .s (.int .u64 0), .s (.int .u64 0), .s (.int .u64 0), .s (.int .u64 0), .s (.int .i64 0), .s (.int .i64 0), .s (.bool false), .s (.int .u64 0), .s (.int .u64 0), .s (.int .u64 0), .s (.int .u64 0), .s (.int .u64 0), .s (.int .u64 0), .s (.int .u64 0), .s (.int .u64 0), .s (.int .u64 0)] [(0, none, x46), (1, none, x48), (6, none, x50)] fun x51 =>
      oNewSlice none 26 (asRows (some 26) [x51]) h30 fun x52 h53 =>
      oAppend none 26 272 (s6.1.getD 0 .any) x52 h53 fun x54 h55 =>
      (trim true s6.2.length [x54] h55).map fun p => (Ex.normal, p.1, p.2))
      ((trim true s6.2.length [(s6.1.getD 0 .any)] h30).map fun p => (Ex.normal, p.1, p.2)))
  | .exit i32 => if i32 = 2 then (trim true s6.2.length [(s6.1.getD 0 .any)] h30).map fun p => (Ex.normal, p.1, p.2) else if i32 = 1 then (trim true s6.2.length [(s6.1.getD 0 .any)] h30).map fun p => (Ex.normal, p.1, p.2) else (trim true s6.2.length [(s6.1.getD 0 .any)] h30).map fun p => (Ex.exit i32, p.1, p.2)
  | .ret => (trim true s6.2.length [(s6.1.getD 0 .any)] h30).map fun p => (Ex.ret, p.1, p.2)
  | .panic v33 => some (Ex.panic v33, [], h30))

def twin_View_k2 (s6 : List A × Heap) (h5 : Heap) : Ex → List A → Heap → Option ((List A × Heap) ⊕ (Ex × List A × Heap)) := fun e60 vs58 h59 =>
      (match e60 with
  | .normal => oAr .add (s6.1.getD 1 .any) (.s (.int .i64 1)) fun x63 =>
      (trim true h5.length [(vs58.getD 0 .any), x63] h59).map .inl
  | .exit i61 => (trim true h5.length [(vs58.getD 0 .any)] h59).map fun p => .inr (Ex.exit i61, p.1, p.2)
  | .ret => (trim true h5.length [(vs58.getD 0 .any)] h59).map fun p => .inr (Ex.ret, p.1, p.2)
  | .panic v62 => some (.inr (Ex.panic v62, [.any], h59)))

def twin_View_l3 (En : String → CallFn) (x3 : A) (a0 : A) (x1 : A) (h5 : Heap) : List A × Heap → Option ((List A × Heap) ⊕ (Ex × List A × Heap)) := fun s6 =>
      oCmp .lss (s6.1.getD 1 .any) x3 fun x7 =>
      oCond x7 (oJoin (oIdxA 26 a0 (s6.1.getD 1 .any) fun x8 =>
      oLoad (some 26) x8 s6.2 fun x9 =>
      oNew none (some 26) (.agg [.s (.int .u64 0), .s (.int .i64 0), .s (.int .i64 0), .s (.slice none 0 0), .s (.int .i64 0), .s (.slice none 0 0), .s (.int .i64 0), .s (.int .i64 0), .s (.slice none 0 0), .s (.slice none 0 0), .s (.int .u64 0), .s (.int .u64 0), .s (.int .u64 0), .s (.int .u64 0), .s (.int .i64 0), .s (.int .i64 0), .s (.bool false), .s (.int .u64 0), .s (.int .u64 0), .s (.int .u64 0), .s (.int .u64 0), .s (.int .u64 0), .s (.int .u64 0), .s (.int .u64 0), .s (.int .u64 0), .s (.int .u64 0)]) s6.2 fun x10 h11 =>
      oStore (some 26) x10 x9 h11 fun h12 =>
      oLend (slices_ContainsFunc_Sapi_Thing_api_Thing En) [a0, (.fn "bailey/twin.View$1" [x10, x1])] h12 (fun v15 h16 => some (Ex.panic v15, [], h16)) fun w56 h57 => oFrz w56 h57 fun x13 h14 =>
      oJoin (oLoad (some 26) x10 h14 fun x17 =>
      oLoad none x1 h14 fun x18 =>
      oLend twin_Hidden [x17, x18] h14 (fun v21 h22 => some (Ex.panic v21, [], h22)) fun w27 h28 => oFrz w27 h28 fun x19 h20 =>
      oNot x19 fun x23 =>
      oGuard x23 false (fun _ => oGuard x13 true (fun _ => oFieldA 1 x10 fun x24 =>
      oLoad none x24 h20 fun x25 =>
      oCmp .eql x25 (.s (.int .i64 3)) fun x26 =>
      (trim true h14.length [x26] h20).map fun p => (Ex.normal, p.1, p.2))
      (fun _ => (trim true h14.length [(.s (.bool false))] h20).map fun p => (Ex.normal, p.1, p.2)))
      (fun _ => (trim true h14.length [(.s (.bool true))] h20).map fun p => (Ex.normal, p.1, p.2))) (twin_View_k1 x10 s6 x13)) (twin_View_k2 s6 h5))
      ((trim true h5.length [(s6.1.getD 0 .any)] s6.2).map fun p => .inr (Ex.exit 0, p.1, p.2))

def twin_View_k4 (objs : Heap) : Ex → List A → Heap → Option (Out × Heap) := fun e64 vs65 h66 =>
      (match e64 with
  | .normal => none
  | .exit i67 => if i67 = 0 then finish objs.length (.ok (vs65.getD 0 .any)) h66 else none
  | .ret => finish objs.length (.ok (.s (.slice none 0 0))) h66
  | .panic v68 => finish objs.length (.pan v68) h66)

/-- bailey/twin.View -/
def twin_View : CallFn := fun args objs =>
match args with
| [a0, a1] =>
oNew none none a1 objs fun x1 h2 =>
      oLen a0 fun x3 =>
      oProm 26 (.s (.slice none 0 0)) h2 fun x4 h5 =>
      oLoop (twin_View_l3 (En_twin_View) x3 a0 x1 h5) ([x4, (.s (.int .i64 0))], h5) (twin_View_k4 objs)
| _ => none

def watch_Owners_k1 (s4 : List A × Heap) (h3 : Heap) : Ex → List A → Heap → Option ((List A × Heap) ⊕ (Ex × List A × Heap)) := fun e28 vs26 h27 =>
      (match e28 with
  | .normal => oAr .add (s4.1.getD 1 .any) (.s (.int .i64 1)) fun x31 =>
      (trim true h3.length [(vs26.getD 0 .any), x31] h27).map .inl
  | .exit i29 => (trim true h3.length [(vs26.getD 0 .any)] h27).map fun p => .inr (Ex.exit i29, p.1, p.2)
  | .ret => (trim true h3.length [(vs26.getD 0 .any)] h27).map fun p => .inr (Ex.ret, p.1, p.2)
  | .panic v30 => some (.inr (Ex.panic v30, [.any], h27)))

def watch_Owners_l2 (x1 : A) (a0 : A) (a1 : A) (h3 : Heap) : List A × Heap → Option ((List A × Heap) ⊕ (Ex × List A × Heap)) := fun s4 =>
      oCmp .lss (s4.1.getD 1 .any) x1 fun x5 =>
      oCond x5 (oJoin (oIdxA 26 a0 (s4.1.getD 1 .any) fun x6 =>
      oLoad (some 26) x6 s4.2 fun x7 =>
      oNew none (some 26) (.agg [.s (.int .u64 0), .s (.int .i64 0), .s (.int .i64 0), .s (.slice none 0 0), .s (.int .i64 0), .s (.slice none 0 0), .s (.int .i64 0), .s (.int .i64 0), .s (.slice none 0 0), .s (.slice none 0 0), .s (.int .u64 0), .s (.int .u64 0), .s (.int .u64 0), .s (.int .u64 0), .s (.int .i64 0), .s (.int .i64 0), .s (.bool false), .s (.int .u64 0), .s (.int .u64 0), .s (.int .u64 0), .s (.int .u64 0), .s (.int .u64 0), .s (.int .u64 0), .s (.int .u64 0), .s (.int .u64 0), .s (.int .u64 0)]) s4.2 fun x8 h9 =>
      oStore (some 26) x8 x7 h9 fun h10 =>
      oFieldA 2 x8 fun x11 =>
      oLoad (some 2) x11 h10 fun x12 =>
      oLend label_Level [x12, a1] h10 (fun v15 h16 => some (Ex.panic v15, [], h16)) fun w24 h25 => oFrz w24 h25 fun x13 h14 =>
      oCmp .eql x13 (.s (.int .i64 0)) fun x17 =>
      oCond x17 (oFieldA 0 x8 fun x18 =>
      oLoad none x18 h14 fun x19 =>
      oNewSlice none 1 (asRows none [x19]) h14 fun x20 h21 =>
      oAppend none 1 8 (s4.1.getD 0 .any) x20 h21 fun x22 h23 =>
      (trim true s4.2.length [x22] h23).map fun p => (Ex.normal, p.1, p.2))
      ((trim true s4.2.length [(s4.1.getD 0 .any)] h14).map fun p => (Ex.normal, p.1, p.2))) (watch_Owners_k1 s4 h3))
      ((trim true h3.length [(s4.1.getD 0 .any)] s4.2).map fun p => .inr (Ex.exit 0, p.1, p.2))

def watch_Owners_k3 (objs : Heap) : Ex → List A → Heap → Option (Out × Heap) := fun e32 vs33 h34 =>
      (match e32 with
  | .normal => none
  | .exit i35 => if i35 = 0 then finish objs.length (.ok (vs33.getD 0 .any)) h34 else none
  | .ret => finish objs.length (.ok (.s (.slice none 0 0))) h34
  | .panic v36 => finish objs.length (.pan v36) h34)

/-- bailey/watch.Owners -/
def watch_Owners : CallFn := fun args objs =>
match args with
| [a0, a1] =>
oLen a0 fun x1 =>
      oProm 1 (.s (.slice none 0 0)) objs fun x2 h3 =>
      oLoop (watch_Owners_l2 x1 a0 a1 h3) ([x2, (.s (.int .i64 0))], h3) (watch_Owners_k3 objs)
| _ => none

/-- bailey/twin.Owned$1 -/
def twin_Owned_c1 : CallFn := fun args objs =>
match args with
| [a0, a1] =>
oLoad none a1 objs fun x1 =>
      oLend watch_Owners [x1, a0] objs (fun v4 h5 => finish objs.length (.pan v4) h5) fun w8 h9 => oFrz w8 h9 fun x2 h3 =>
      oLen x2 fun x6 =>
      oCmp .gtr x6 (.s (.int .i64 0)) fun x7 =>
      finish objs.length (.ok x7) h3
| _ => none

def En_twin_Owned : String → CallFn := fun n => if n = "bailey/twin.Owned$1" then twin_Owned_c1 else (fun _ _ => none)

/-- bailey/twin.Owned -/
def twin_Owned : CallFn := fun args objs =>
match args with
| [a0, a1] =>
oNew none none a0 objs fun x1 h2 =>
      oLend (slices_ContainsFunc_Suint64_uint64 (En_twin_Owned)) [a1, (.fn "bailey/twin.Owned$1" [x1])] h2 (fun v5 h6 => finish objs.length (.pan v5) h6) fun w7 h8 => oFrz w7 h8 fun x3 h4 =>
      finish objs.length (.ok x3) h4
| _ => none

def slices_BinarySearchFunc_Sapi_Thing_api_Thing_uint64_l1 (En : String → CallFn) (a0 : A) (a2 : A) (a1 : A) (objs : Heap) : List A × Heap → Option ((List A × Heap) ⊕ (Ex × List A × Heap)) := fun s2 =>
      oCmp .lss (s2.1.getD 0 .any) (s2.1.getD 1 .any) fun x3 =>
      oCond x3 (oAr .add (s2.1.getD 0 .any) (s2.1.getD 1 .any) fun x4 =>
      oConv .u64 x4 fun x5 =>
      oShift .shr x5 (.s (.int .u64 1)) fun x6 =>
      oConv .i64 x6 fun x7 =>
      oIdxA 26 a0 x7 fun x8 =>
      oLoad (some 26) x8 s2.2 fun x9 =>
      oLendV En a2 [x9, a1] s2.2 (fun v12 h13 => some (.inr (Ex.panic v12, [.any], h13))) fun w16 h17 => oFrz w16 h17 fun x10 h11 =>
      oCmp .lss x10 (.s (.int .i64 0)) fun x14 =>
      oCond x14 (oAr .add x7 (.s (.int .i64 1)) fun x15 =>
      (trim true objs.length [x15, (s2.1.getD 1 .any)] h11).map .inl)
      ((trim true objs.length [(s2.1.getD 0 .any), x7] h11).map .inl))
      ((trim true objs.length [(s2.1.getD 0 .any)] s2.2).map fun p => .inr (Ex.exit 0, p.1, p.2))

def slices_BinarySearchFunc_Sapi_Thing_api_Thing_uint64_k2 (En : String → CallFn) (x1 : A) (a0 : A) (a2 : A) (a1 : A) (objs : Heap) : Ex → List A → Heap → Option (Out × Heap) := fun e18 vs19 h20 =>
      (match e18 with
  | .normal => none
  | .exit i21 => if i21 = 0 then oCmp .lss (vs19.getD 0 .any) x1 fun x23 =>
      oGuard x23 true (fun _ => oIdxA 26 a0 (vs19.getD 0 .any) fun x24 =>
      oLoad (some 26) x24 h20 fun x25 =>
      oLendV En a2 [x25, a1] h20 (fun v28 h29 => finish objs.length (.pan v28) h29) fun w31 h32 => oFrz w31 h32 fun x26 h27 =>
      oCmp .eql x26 (.s (.int .i64 0)) fun x30 =>
      finish objs.length (.ok (.tup [(vs19.getD 0 .any), x30])) h27)
      (fun _ => finish objs.length (.ok (.tup [(vs19.getD 0 .any), (.s (.bool false))])) h20) else none
  | .ret => finish objs.length (.ok (.tup [(.s (.int .i64 0)), (.s (.bool false))])) h20
  | .panic v22 => finish objs.length (.pan v22) h20)

/-- slices.BinarySearchFunc[[]bailey/api.Thing,bailey/api.Thing,uint64] -/
def slices_BinarySearchFunc_Sapi_Thing_api_Thing_uint64 (En : String → CallFn) : CallFn := fun args objs =>
match args with
| [a0, a1, a2] =>
oLen a0 fun x1 =>
      oLoop (slices_BinarySearchFunc_Sapi_Thing_api_Thing_uint64_l1 En a0 a2 a1 objs) ([(.s (.int .i64 0)), x1], objs) (slices_BinarySearchFunc_Sapi_Thing_api_Thing_uint64_k2 En x1 a0 a2 a1 objs)
| _ => none

/-- bailey/graph.place$1 -/
def graph_place_c1 : CallFn := fun args objs =>
match args with
| [a0, a1] =>
oNew none (some 26) a0 objs fun x1 h2 =>
      oFieldA 0 x1 fun x3 =>
      oLoad none x3 h2 fun x4 =>
      oLend cmp_Compare_uint64 [x4, a1] h2 (fun v7 h8 => finish objs.length (.pan v7) h8) fun w9 h10 => oFrz w9 h10 fun x5 h6 =>
      finish objs.length (.ok x5) h6
| _ => none

def En_graph_place : String → CallFn := fun n => if n = "bailey/graph.place$1" then graph_place_c1 else (fun _ _ => none)

/-- bailey/graph.place -/
def graph_place : CallFn := fun args objs =>
match args with
| [a0, a1] =>
oLend (slices_BinarySearchFunc_Sapi_Thing_api_Thing_uint64 (En_graph_place)) [a0, a1, (.fn "bailey/graph.place$1" [])] objs (fun v3 h4 => finish objs.length (.pan v3) h4) fun w7 h8 => oFrz w7 h8 fun x1 h2 =>
      oExtract 0 x1 fun x5 =>
      oExtract 1 x1 fun x6 =>
      finish objs.length (.ok (.tup [x5, x6])) h2
| _ => none

/-- bailey/graph.Find -/
def graph_Find : CallFn := fun args objs =>
match args with
| [a0, a1] =>
oNew none (some 26) (.agg [.s (.int .u64 0), .s (.int .i64 0), .s (.int .i64 0), .s (.slice none 0 0), .s (.int .i64 0), .s (.slice none 0 0), .s (.int .i64 0), .s (.int .i64 0), .s (.slice none 0 0), .s (.slice none 0 0), .s (.int .u64 0), .s (.int .u64 0), .s (.int .u64 0), .s (.int .u64 0), .s (.int .i64 0), .s (.int .i64 0), .s (.bool false), .s (.int .u64 0), .s (.int .u64 0), .s (.int .u64 0), .s (.int .u64 0), .s (.int .u64 0), .s (.int .u64 0), .s (.int .u64 0), .s (.int .u64 0), .s (.int .u64 0)]) objs fun x1 h2 =>
      oLend graph_place [a0, a1] h2 (fun v5 h6 => finish objs.length (.pan v5) h6) fun w22 h23 => oFrz w22 h23 fun x3 h4 =>
      oExtract 0 x3 fun x7 =>
      oExtract 1 x3 fun x8 =>
      oCond x8 (oIdxA 26 a0 x7 fun x9 =>
      oLoad (some 26) x9 h4 fun x10 =>
      oLend thing_Copy [x10] h4 (fun v13 h14 => finish objs.length (.pan v13) h14) fun w17 h18 => oFrz w17 h18 fun x11 h12 =>
      oStore (some 26) x1 x11 h12 fun h15 =>
      oLoad (some 26) x1 h15 fun r16 =>
      finish objs.length (.ok (.tup [r16, (.s (.bool true))])) h15)
      (oBuildP [.s (.int .u64 0), .s (.int .i64 0), .s (.int .i64 0), .s (.slice none 0 0), .s (.int .i64 0), .s (.slice none 0 0), .s (.int .i64 0), .s (.int .i64 0), .s (.slice none 0 0), .s (.slice none 0 0), .s (.int .u64 0), .s (.int .u64 0), .s (.int .u64 0), .s (.int .u64 0), .s (.int .i64 0), .s (.int .i64 0), .s (.bool false), .s (.int .u64 0), .s (.int .u64 0), .s (.int .u64 0), .s (.int .u64 0), .s (.int .u64 0), .s (.int .u64 0), .s (.int .u64 0), .s (.int .u64 0), .s (.int .u64 0)] [] fun x19 =>
      oStore (some 26) x1 x19 h4 fun h20 =>
      oLoad (some 26) x1 h20 fun r21 =>
      finish objs.length (.ok (.tup [r21, (.s (.bool false))])) h20)
| _ => none

def twin_Nested_k1 (h8 : Heap) (s12 : List A × Heap) : Ex → List A → Heap → Option ((List A × Heap) ⊕ (Ex × List A × Heap)) := fun e47 vs45 h46 =>
      (match e47 with
  | .normal => oCond (vs45.getD 0 .any) ((trim true h8.length [(.s (.bool false))] h46).map fun p => .inr (Ex.ret, p.1, p.2))
      (oAr .add (s12.1.getD 0 .any) (.s (.int .i64 1)) fun x50 =>
      (trim true h8.length [x50] h46).map .inl)
  | .exit i48 => if i48 = 3 then oAr .add (s12.1.getD 0 .any) (.s (.int .i64 1)) fun x51 =>
      (trim true h8.length [x51] h46).map .inl else (trim true h8.length [.any] h46).map fun p => .inr (Ex.exit i48, p.1, p.2)
  | .ret => (trim true h8.length [.any] h46).map fun p => .inr (Ex.ret, p.1, p.2)
  | .panic v49 => some (.inr (Ex.panic v49, [.any], h46)))

def twin_Nested_l2 (x11 : A) (x10 : A) (a0 : A) (x6 : A) (a1 : A) (h8 : Heap) : List A × Heap → Option ((List A × Heap) ⊕ (Ex × List A × Heap)) := fun s12 =>
      oCmp .lss (s12.1.getD 0 .any) x11 fun x13 =>
      oCond x13 (oIdxA 2 x10 (s12.1.getD 0 .any) fun x14 =>
      oLoad (some 2) x14 s12.2 fun x15 =>
      oNew none (some 2) (.agg [.s (.int .u64 0), .s (.int .i64 0)]) s12.2 fun x16 h17 =>
      oStore (some 2) x16 x15 h17 fun h18 =>
      oFieldA 0 x16 fun x19 =>
      oLoad none x19 h18 fun x20 =>
      oLend graph_Find [a0, x20] h18 (fun v23 h24 => some (.inr (Ex.panic v23, [.any], h24))) fun w52 h53 => oFrz w52 h53 fun x21 h22 =>
      oExtract 0 x21 fun x25 =>
      oExtract 1 x21 fun x26 =>
      oNew none (some 26) (.agg [.s (.int .u64 0), .s (.int .i64 0), .s (.int .i64 0), .s (.slice none 0 0), .s (.int .i64 0), .s (.slice none 0 0), .s (.int .i64 0), .s (.int .i64 0), .s (.slice none 0 0), .s (.slice none 0 0), .s (.int .u64 0), .s (.int .u64 0), .s (.int .u64 0), .s (.int .u64 0), .s (.int .i64 0), .s (.int .i64 0), .s (.bool false), .s (.int .u64 0), .s (.int .u64 0), .s (.int .u64 0), .s (.int .u64 0), .s (.int .u64 0), .s (.int .u64 0), .s (.int .u64 0), .s (.int .u64 0), .s (.int .u64 0)]) h22 fun x27 h28 =>
      oStore (some 26) x27 x25 h28 fun h29 =>
      oJoin (oGuard x26 true (fun _ => oLoad (some 26) x6 h29 fun x30 =>
      oLend twin_Hidden [x30, a1] h29 (fun v33 h34 => some (Ex.panic v33, [], h34)) fun w43 h44 => oFrz w43 h44 fun x31 h32 =>
      oGuard x31 true (fun _ => oLoad (some 26) x27 h32 fun x35 =>
      oLend twin_Hidden [x35, a1] h32 (fun v38 h39 => some (Ex.panic v38, [], h39)) fun w41 h42 => oFrz w41 h42 fun x36 h37 =>
      oNot x36 fun x40 =>
      (trim true h29.length [x40] h37).map fun p => (Ex.normal, p.1, p.2))
      (fun _ => (trim true h29.length [(.s (.bool false))] h32).map fun p => (Ex.normal, p.1, p.2)))
      (fun _ => (trim true h29.length [(.s (.bool false))] h29).map fun p => (Ex.normal, p.1, p.2))) (twin_Nested_k1 h8 s12))
      ((trim true h8.length [.any] s12.2).map fun p => .inr (Ex.exit 2, p.1, p.2))

def twin_Nested_k3 (s2 : List A × Heap) (objs : Heap) : Ex → List A → Heap → Option ((List A × Heap) ⊕ (Ex × List A × Heap)) := fun e54 vs55 h56 =>
      (match e54 with
  | .normal => none
  | .exit i57 => if i57 = 2 then oAr .add (s2.1.getD 0 .any) (.s (.int .i64 1)) fun x59 =>
      (trim true objs.length [x59] h56).map .inl else if i57 = 1 then oAr .add (s2.1.getD 0 .any) (.s (.int .i64 1)) fun x60 =>
      (trim true objs.length [x60] h56).map .inl else (trim true objs.length [(vs55.getD 0 .any)] h56).map fun p => .inr (Ex.exit i57, p.1, p.2)
  | .ret => (trim true objs.length [(vs55.getD 0 .any)] h56).map fun p => .inr (Ex.ret, p.1, p.2)
  | .panic v58 => some (.inr (Ex.panic v58, [.any], h56)))

def twin_Nested_l4 (x1 : A) (a0 : A) (a1 : A) (objs : Heap) : List A × Heap → Option ((List A × Heap) ⊕ (Ex × List A × Heap)) := fun s2 =>
      oCmp .lss (s2.1.getD 0 .any) x1 fun x3 =>
      oCond x3 (oIdxA 26 a0 (s2.1.getD 0 .any) fun x4 =>
      oLoad (some 26) x4 s2.2 fun x5 =>
      oNew none (some 26) (.agg [.s (.int .u64 0), .s (.int .i64 0), .s (.int .i64 0), .s (.slice none 0 0), .s (.int .i64 0), .s (.slice none 0 0), .s (.int .i64 0), .s (.int .i64 0), .s (.slice none 0 0), .s (.slice none 0 0), .s (.int .u64 0), .s (.int .u64 0), .s (.int .u64 0), .s (.int .u64 0), .s (.int .i64 0), .s (.int .i64 0), .s (.bool false), .s (.int .u64 0), .s (.int .u64 0), .s (.int .u64 0), .s (.int .u64 0), .s (.int .u64 0), .s (.int .u64 0), .s (.int .u64 0), .s (.int .u64 0), .s (.int .u64 0)]) s2.2 fun x6 h7 =>
      oStore (some 26) x6 x5 h7 fun h8 =>
      oFieldA 8 x6 fun x9 =>
      oLoad none x9 h8 fun x10 =>
      oLen x10 fun x11 =>
      oLoop (twin_Nested_l2 x11 x10 a0 x6 a1 h8) ([(.s (.int .i64 0))], h8) (twin_Nested_k3 s2 objs))
      ((trim true objs.length [.any] s2.2).map fun p => .inr (Ex.exit 0, p.1, p.2))

def twin_Nested_k5 (objs : Heap) : Ex → List A → Heap → Option (Out × Heap) := fun e61 vs62 h63 =>
      (match e61 with
  | .normal => none
  | .exit i64 => if i64 = 0 then finish objs.length (.ok (.s (.bool true))) h63 else none
  | .ret => finish objs.length (.ok (vs62.getD 0 .any)) h63
  | .panic v65 => finish objs.length (.pan v65) h63)

/-- bailey/twin.Nested -/
def twin_Nested : CallFn := fun args objs =>
match args with
| [a0, a1] =>
oLen a0 fun x1 =>
      oLoop (twin_Nested_l4 x1 a0 a1 objs) ([(.s (.int .i64 0))], objs) (twin_Nested_k5 objs)
| _ => none

/-- bailey/baileylaw24.twinAlive -/
def law24_twinAlive : CallFn := fun args objs =>
match args with
| [] =>
oLend law24_secrets [] objs (fun v3 h4 => finish objs.length (.pan v3) h4) fun w69 h70 => oFrz w69 h70 fun x1 h2 =>
      oNewSlice none 1 (asRows none [(.s (.int .u64 9))]) h2 fun w7 h8 => oFrz w7 h8 fun x5 h6 =>
      oLend twin_View [x1, x5] h6 (fun v11 h12 => finish objs.length (.pan v11) h12) fun w67 h68 => oFrz w67 h68 fun x9 h10 =>
      oCallF h10.length [] law24_secrets [] (h10 ++ List.replicate 3 .res) fun w65 h66 => oFrz w65 h66 fun x13 h14 =>
      oIdxA 26 x13 (.s (.int .i64 1)) fun x15 =>
      oLoadD h10.length [] (some 26) x15 h14 fun x16 h17 =>
      oNewSlice (some h10.length) 1 (asRows none [(.s (.int .u64 9))]) h17 fun x18 h19 =>
      oCall twin_Hidden [x16, x18] h19 (fun _ _ => none) fun w63 h64 => oFrz w63 h64 fun x20 h21 =>
      oGuard x20 true (fun _ => oCallF h10.length [] law24_secrets [] h21 fun w61 h62 => oFrz w61 h62 fun x22 h23 =>
      oNewSlice (some (h10.length + 1)) 1 (asRows none [(.s (.int .u64 9))]) h23 fun x24 h25 =>
      oCall twin_Owned [x22, x24] h25 (fun _ _ => none) fun w59 h60 => oFrz w59 h60 fun x26 h27 =>
      oNot x26 fun x28 =>
      oGuard x28 true (fun _ => oCallF h10.length [] law24_secrets [] h27 fun w57 h58 => oFrz w57 h58 fun x29 h30 =>
      oNewSlice (some (h10.length + 2)) 1 (asRows none [(.s (.int .u64 9))]) h30 fun x31 h32 =>
      oCall twin_Nested [x29, x31] h32 (fun _ _ => none) fun w55 h56 => oFrz w55 h56 fun x33 h34 =>
      oGuard x33 true (fun _ => oLen x9 fun x35 =>
      oCmp .eql x35 (.s (.int .i64 3)) fun x36 =>
      oGuard x36 true (fun _ => oIdxA 26 x9 (.s (.int .i64 1)) fun x37 =>
      oFieldA 1 x37 fun x38 =>
      oLoadD h10.length [] none x38 h34 fun x39 h40 =>
      oCmp .eql x39 (.s (.int .i64 4)) fun x41 =>
      oGuard x41 true (fun _ => oIdxA 26 x9 (.s (.int .i64 1)) fun x42 =>
      oFieldA 9 x42 fun x43 =>
      oLoadD h10.length [] none x43 h40 fun x44 h45 =>
      oLen x44 fun x46 =>
      oIdxA 26 x9 (.s (.int .i64 1)) fun x47 =>
      oFieldA 2 x47 fun x48 =>
      oFieldA 1 x48 fun x49 =>
      oLoadD h10.length [] none x49 h45 fun x50 h51 =>
      oLen x50 fun x52 =>
      oAr .add x46 x52 fun x53 =>
      oCmp .eql x53 (.s (.int .i64 0)) fun x54 =>
      finish objs.length (.ok x54) h51)
      (fun _ => finish objs.length (.ok (.s (.bool false))) h40))
      (fun _ => finish objs.length (.ok (.s (.bool false))) h34))
      (fun _ => finish objs.length (.ok (.s (.bool false))) h34))
      (fun _ => finish objs.length (.ok (.s (.bool false))) h27))
      (fun _ => finish objs.length (.ok (.s (.bool false))) h21)
| _ => none

def ref13_Graph_l1 (a0 : A) (objs : Heap) : List A × Heap → Option ((List A × Heap) ⊕ (Ex × List A × Heap)) := fun s1 =>
      oLen a0 fun x2 =>
      oCmp .lss (s1.1.getD 0 .any) x2 fun x3 =>
      oCond x3 (oIdxA 26 a0 (s1.1.getD 0 .any) fun x4 =>
      oFieldA 0 x4 fun x5 =>
      oLoadD s1.2.length [] none x5 s1.2 fun x6 h7 =>
      oAr .sub (s1.1.getD 0 .any) (.s (.int .i64 1)) fun x8 =>
      oIdxA 26 a0 x8 fun x9 =>
      oFieldA 0 x9 fun x10 =>
      oLoadD s1.2.length [] none x10 h7 fun x11 h12 =>
      oCmp .leq x6 x11 fun x13 =>
      oCond x13 ((trim true objs.length [(.s (.bool false))] h12).map fun p => .inr (Ex.ret, p.1, p.2))
      (oAr .add (s1.1.getD 0 .any) (.s (.int .i64 1)) fun x14 =>
      (trim true objs.length [x14] h12).map .inl))
      ((trim true objs.length [.any] s1.2).map fun p => .inr (Ex.exit 0, p.1, p.2))

def ref13_Graph_k2 (objs : Heap) : Ex → List A → Heap → Option (Out × Heap) := fun e15 vs16 h17 =>
      (match e15 with
  | .normal => none
  | .exit i18 => if i18 = 0 then finish objs.length (.ok (.s (.bool true))) h17 else none
  | .ret => finish objs.length (.ok (vs16.getD 0 .any)) h17
  | .panic v19 => finish objs.length (.pan v19) h17)

/-- bailey/baileyref13.Graph -/
def ref13_Graph : CallFn := fun args objs =>
match args with
| [a0] =>
oLoop (ref13_Graph_l1 a0 objs) ([(.s (.int .i64 1))], objs) (ref13_Graph_k2 objs)
| _ => none

def ref12_Has_l1 (x5 : A) (x4 : A) (a1 : A) (h2 : Heap) : List A × Heap → Option ((List A × Heap) ⊕ (Ex × List A × Heap)) := fun s6 =>
      oCmp .lss (s6.1.getD 0 .any) x5 fun x7 =>
      oCond x7 (oIdxA 2 x4 (s6.1.getD 0 .any) fun x8 =>
      oLoad (some 2) x8 s6.2 fun x9 =>
      oNew none (some 2) (.agg [.s (.int .u64 0), .s (.int .i64 0)]) s6.2 fun x10 h11 =>
      oStore (some 2) x10 x9 h11 fun h12 =>
      oFieldA 0 x10 fun x13 =>
      oLoad none x13 h12 fun x14 =>
      oCmp .eql x14 a1 fun x15 =>
      oCond x15 ((trim true h2.length [(.s (.bool true))] h12).map fun p => .inr (Ex.ret, p.1, p.2))
      (oAr .add (s6.1.getD 0 .any) (.s (.int .i64 1)) fun x16 =>
      (trim true h2.length [x16] h12).map .inl))
      ((trim true h2.length [.any] s6.2).map fun p => .inr (Ex.exit 0, p.1, p.2))

def ref12_Has_k2 (objs : Heap) : Ex → List A → Heap → Option (Out × Heap) := fun e17 vs18 h19 =>
      (match e17 with
  | .normal => none
  | .exit i20 => if i20 = 0 then finish objs.length (.ok (.s (.bool false))) h19 else none
  | .ret => finish objs.length (.ok (vs18.getD 0 .any)) h19
  | .panic v21 => finish objs.length (.pan v21) h19)

/-- bailey/baileyref12.Has -/
def ref12_Has : CallFn := fun args objs =>
match args with
| [a0, a1] =>
oNew none (some 26) a0 objs fun x1 h2 =>
      oFieldA 8 x1 fun x3 =>
      oLoad none x3 h2 fun x4 =>
      oLen x4 fun x5 =>
      oLoop (ref12_Has_l1 x5 x4 a1 h2) ([(.s (.int .i64 0))], h2) (ref12_Has_k2 objs)
| _ => none

def ref13_Refs_k1 (s2 : List A × Heap) (objs : Heap) : Ex → List A → Heap → Option ((List A × Heap) ⊕ (Ex × List A × Heap)) := fun e19 vs17 h18 =>
      (match e19 with
  | .normal => oAr .add (s2.1.getD 1 .any) (.s (.int .i64 1)) fun x22 =>
      (trim true objs.length [(vs17.getD 0 .any), x22] h18).map .inl
  | .exit i20 => (trim true objs.length [(vs17.getD 0 .any)] h18).map fun p => .inr (Ex.exit i20, p.1, p.2)
  | .ret => (trim true objs.length [(vs17.getD 0 .any)] h18).map fun p => .inr (Ex.ret, p.1, p.2)
  | .panic v21 => some (.inr (Ex.panic v21, [.any], h18)))

def ref13_Refs_l2 (x1 : A) (a0 : A) (a1 : A) (objs : Heap) : List A × Heap → Option ((List A × Heap) ⊕ (Ex × List A × Heap)) := fun s2 =>
      oCmp .lss (s2.1.getD 1 .any) x1 fun x3 =>
      oCond x3 (oJoin (oIdxA 26 a0 (s2.1.getD 1 .any) fun x4 =>
      oLoad (some 26) x4 s2.2 fun x5 =>
      oNew none (some 26) (.agg [.s (.int .u64 0), .s (.int .i64 0), .s (.int .i64 0), .s (.slice none 0 0), .s (.int .i64 0), .s (.slice none 0 0), .s (.int .i64 0), .s (.int .i64 0), .s (.slice none 0 0), .s (.slice none 0 0), .s (.int .u64 0), .s (.int .u64 0), .s (.int .u64 0), .s (.int .u64 0), .s (.int .i64 0), .s (.int .i64 0), .s (.bool false), .s (.int .u64 0), .s (.int .u64 0), .s (.int .u64 0), .s (.int .u64 0), .s (.int .u64 0), .s (.int .u64 0), .s (.int .u64 0), .s (.int .u64 0), .s (.int .u64 0)]) s2.2 fun x6 h7 =>
      oStore (some 26) x6 x5 h7 fun h8 =>
      oLoad (some 26) x6 h8 fun x9 =>
      oLend ref12_Has [x9, a1] h8 (fun v12 h13 => some (Ex.panic v12, [], h13)) fun w15 h16 => oFrz w15 h16 fun x10 h11 =>
      oCond x10 (oAr .add (s2.1.getD 0 .any) (.s (.int .i64 1)) fun x14 =>
      (trim true s2.2.length [x14] h11).map fun p => (Ex.normal, p.1, p.2))
      ((trim true s2.2.length [(s2.1.getD 0 .any)] h11).map fun p => (Ex.normal, p.1, p.2))) (ref13_Refs_k1 s2 objs))
      ((trim true objs.length [(s2.1.getD 0 .any)] s2.2).map fun p => .inr (Ex.exit 0, p.1, p.2))

def ref13_Refs_k3 (objs : Heap) : Ex → List A → Heap → Option (Out × Heap) := fun e23 vs24 h25 =>
      (match e23 with
  | .normal => none
  | .exit i26 => if i26 = 0 then finish objs.length (.ok (vs24.getD 0 .any)) h25 else none
  | .ret => finish objs.length (.ok (.s (.int .i64 0))) h25
  | .panic v27 => finish objs.length (.pan v27) h25)

/-- bailey/baileyref13.Refs -/
def ref13_Refs : CallFn := fun args objs =>
match args with
| [a0, a1] =>
oLen a0 fun x1 =>
      oLoop (ref13_Refs_l2 x1 a0 a1 objs) ([(.s (.int .i64 0)), (.s (.int .i64 0))], objs) (ref13_Refs_k3 objs)
| _ => none

/-- bailey/baileyref11.id -/
def ref11_id : CallFn := fun args objs =>
match args with
| [a0] =>
oCmp .geq a0 (.s (.int .u64 1)) fun x1 =>
      oGuard x1 true (fun _ => oCmp .lss a0 (.s (.int .u64 281474976710656)) fun x2 =>
      finish objs.length (.ok x2) objs)
      (fun _ => finish objs.length (.ok (.s (.bool false))) objs)
| _ => none

def ref09_IDs_k1 (x19 : A) (s25 : List A × Heap) : Ex → List A → Heap → Option (Ex × List A × Heap) := fun e35 vs33 h34 =>
      (match e35 with
  | .normal => oCond (vs33.getD 0 .any) (oFieldA 0 x19 fun x38 =>
      oLoad none x38 h34 fun x39 =>
      oNewSlice none 1 (asRows none [x39]) h34 fun x40 h41 =>
      oAppend none 1 8 (s25.1.getD 0 .any) x40 h41 fun x42 h43 =>
      (trim false s25.2.length [x42, (.s (.bool true))] h43).map fun p => (Ex.normal, p.1, p.2))
      ((trim false s25.2.length [(s25.1.getD 0 .any), (s25.1.getD 1 .any)] h34).map fun p => (Ex.normal, p.1, p.2))
  | .exit i36 => (trim false s25.2.length [(s25.1.getD 0 .any), (s25.1.getD 1 .any)] h34).map fun p => (Ex.exit i36, p.1, p.2)
  | .ret => (trim false s25.2.length [(s25.1.getD 0 .any), (s25.1.getD 1 .any)] h34).map fun p => (Ex.ret, p.1, p.2)
  | .panic v37 => some (Ex.panic v37, [], h34))

def ref09_IDs_k2 (x19 : A) (x28 : A) (s25 : List A × Heap) : Ex → List A → Heap → Option (Ex × List A × Heap) := fun e46 vs44 h45 =>
      (match e46 with
  | .normal => oFieldA 0 x19 fun x49 =>
      oLoad none x49 h45 fun x50 =>
      oCmp .neq x28 x50 fun x51 =>
      oCond x51 (oNewSlice none 1 (asRows none [x28]) h45 fun x52 h53 =>
      oAppend none 1 8 (vs44.getD 0 .any) x52 h53 fun x54 h55 =>
      (trim false s25.2.length [x54, (vs44.getD 1 .any)] h55).map fun p => (Ex.normal, p.1, p.2))
      ((trim false s25.2.length [(vs44.getD 0 .any), (vs44.getD 1 .any)] h45).map fun p => (Ex.normal, p.1, p.2))
  | .exit i47 => if i47 = 5 then (trim false s25.2.length [(vs44.getD 0 .any), (vs44.getD 1 .any)] h45).map fun p => (Ex.normal, p.1, p.2) else (trim false s25.2.length [(vs44.getD 0 .any), (vs44.getD 1 .any)] h45).map fun p => (Ex.exit i47, p.1, p.2)
  | .ret => (trim false s25.2.length [(vs44.getD 0 .any), (vs44.getD 1 .any)] h45).map fun p => (Ex.ret, p.1, p.2)
  | .panic v48 => some (Ex.panic v48, [], h45))

def ref09_IDs_k3 (s25 : List A × Heap) (h23 : Heap) : Ex → List A → Heap → Option ((List A × Heap) ⊕ (Ex × List A × Heap)) := fun e58 vs56 h57 =>
      (match e58 with
  | .normal => oAr .add (s25.1.getD 2 .any) (.s (.int .i64 1)) fun x61 =>
      (trim false h23.length [(vs56.getD 0 .any), (vs56.getD 1 .any), x61] h57).map .inl
  | .exit i59 => (trim false h23.length [(vs56.getD 0 .any), (vs56.getD 1 .any)] h57).map fun p => .inr (Ex.exit i59, p.1, p.2)
  | .ret => (trim false h23.length [(vs56.getD 0 .any), (vs56.getD 1 .any)] h57).map fun p => .inr (Ex.ret, p.1, p.2)
  | .panic v60 => some (.inr (Ex.panic v60, [.any, .any], h57)))

def ref09_IDs_l4 (x24 : A) (s15 : List A × Heap) (x19 : A) (h23 : Heap) : List A × Heap → Option ((List A × Heap) ⊕ (Ex × List A × Heap)) := fun s25 =>
      oCmp .lss (s25.1.getD 2 .any) x24 fun x26 =>
      oCond x26 (oJoin (oIdxA 1 (s15.1.getD 0 .any) (s25.1.getD 2 .any) fun x27 =>
      oLoad none x27 s25.2 fun x28 =>
      oJoin (oJoin (oNot (s25.1.getD 1 .any) fun x29 =>
      oGuard x29 true (fun _ => oFieldA 0 x19 fun x30 =>
      oLoad none x30 s25.2 fun x31 =>
      oCmp .geq x28 x31 fun x32 =>
      (trim false s25.2.length [x32] s25.2).map fun p => (Ex.normal, p.1, p.2))
      (fun _ => (trim false s25.2.length [(.s (.bool false))] s25.2).map fun p => (Ex.normal, p.1, p.2))) (ref09_IDs_k1 x19 s25)) (ref09_IDs_k2 x19 x28 s25)) (ref09_IDs_k3 s25 h23))
      ((trim false h23.length [(s25.1.getD 0 .any), (s25.1.getD 1 .any)] s25.2).map fun p => .inr (Ex.exit 4, p.1, p.2))

def ref09_IDs_k5 (s15 : List A × Heap) (h11 : Heap) : Ex → List A → Heap → Option ((List A × Heap) ⊕ (Ex × List A × Heap)) := fun e76 vs74 h75 =>
      (match e76 with
  | .normal => oAr .add (s15.1.getD 1 .any) (.s (.int .i64 1)) fun x79 =>
      (trim false h11.length [(vs74.getD 0 .any), x79] h75).map .inl
  | .exit i77 => if i77 = 3 then oAr .add (s15.1.getD 1 .any) (.s (.int .i64 1)) fun x80 =>
      (trim false h11.length [(s15.1.getD 0 .any), x80] h75).map .inl else (trim false h11.length [(s15.1.getD 0 .any)] h75).map fun p => .inr (Ex.exit i77, p.1, p.2)
  | .ret => (trim false h11.length [(s15.1.getD 0 .any)] h75).map fun p => .inr (Ex.ret, p.1, p.2)
  | .panic v78 => some (.inr (Ex.panic v78, [.any], h75)))

def ref09_IDs_k6 (x19 : A) (s15 : List A × Heap) (h11 : Heap) : Ex → List A → Heap → Option ((List A × Heap) ⊕ (Ex × List A × Heap)) := fun e62 vs63 h64 =>
      (match e62 with
  | .normal => none
  | .exit i65 => if i65 = 4 then oJoin (oNot (vs63.getD 1 .any) fun x67 =>
      oCond x67 (oFieldA 0 x19 fun x68 =>
      oLoad none x68 h64 fun x69 =>
      oNewSlice none 1 (asRows none [x69]) h64 fun x70 h71 =>
      oAppend none 1 8 (vs63.getD 0 .any) x70 h71 fun x72 h73 =>
      (trim false h64.length [x72] h73).map fun p => (Ex.normal, p.1, p.2))
      ((trim false h64.length [(vs63.getD 0 .any)] h64).map fun p => (Ex.normal, p.1, p.2))) (ref09_IDs_k5 s15 h11) else if i65 = 3 then oAr .add (s15.1.getD 1 .any) (.s (.int .i64 1)) fun x81 =>
      (trim false h11.length [(s15.1.getD 0 .any), x81] h64).map .inl else (trim false h11.length [(s15.1.getD 0 .any)] h64).map fun p => .inr (Ex.exit i65, p.1, p.2)
  | .ret => (trim false h11.length [(s15.1.getD 0 .any)] h64).map fun p => .inr (Ex.ret, p.1, p.2)
  | .panic v66 => some (.inr (Ex.panic v66, [.any], h64)))

def ref09_IDs_l7 (x14 : A) (x13 : A) (h11 : Heap) : List A × Heap → Option ((List A × Heap) ⊕ (Ex × List A × Heap)) := fun s15 =>
      oCmp .lss (s15.1.getD 1 .any) x14 fun x16 =>
      oCond x16 (oIdxA 2 x13 (s15.1.getD 1 .any) fun x17 =>
      oLoad (some 2) x17 s15.2 fun x18 =>
      oNew none (some 2) (.agg [.s (.int .u64 0), .s (.int .i64 0)]) s15.2 fun x19 h20 =>
      oStore (some 2) x19 x18 h20 fun h21 =>
      oNewSlice none 1 (asRows none []) h21 fun x22 h23 =>
      oLen (s15.1.getD 0 .any) fun x24 =>
      oLoop (ref09_IDs_l4 x24 s15 x19 h23) ([x22, (.s (.bool false)), (.s (.int .i64 0))], h23) (ref09_IDs_k6 x19 s15 h11))
      ((trim false h11.length [(s15.1.getD 0 .any)] s15.2).map fun p => .inr (Ex.exit 2, p.1, p.2))

def ref09_IDs_k8 (s6 : List A × Heap) (h4 : Heap) : Ex → List A → Heap → Option ((List A × Heap) ⊕ (Ex × List A × Heap)) := fun e82 vs83 h84 =>
      (match e82 with
  | .normal => none
  | .exit i85 => if i85 = 2 then oAr .add (s6.1.getD 1 .any) (.s (.int .i64 1)) fun x87 =>
      (trim false h4.length [(vs83.getD 0 .any), x87] h84).map .inl else if i85 = 1 then oAr .add (s6.1.getD 1 .any) (.s (.int .i64 1)) fun x88 =>
      (trim false h4.length [(vs83.getD 0 .any), x88] h84).map .inl else (trim false h4.length [(vs83.getD 0 .any)] h84).map fun p => .inr (Ex.exit i85, p.1, p.2)
  | .ret => (trim false h4.length [(vs83.getD 0 .any)] h84).map fun p => .inr (Ex.ret, p.1, p.2)
  | .panic v86 => some (.inr (Ex.panic v86, [.any], h84)))

def ref09_IDs_l9 (x5 : A) (h4 : Heap) : List A × Heap → Option ((List A × Heap) ⊕ (Ex × List A × Heap)) := fun s6 =>
      oCmp .lss (s6.1.getD 1 .any) (.s (.int .i64 2)) fun x7 =>
      oCond x7 (oIndex 2 2 (some 2) x5 (s6.1.getD 1 .any) fun x8 =>
      oNew none (some 2) (.agg [.s (.int .i64 0), .s (.slice none 0 0)]) s6.2 fun x9 h10 =>
      oStore (some 2) x9 x8 h10 fun h11 =>
      oFieldA 1 x9 fun x12 =>
      oLoad none x12 h11 fun x13 =>
      oLen x13 fun x14 =>
      oLoop (ref09_IDs_l7 x14 x13 h11) ([(s6.1.getD 0 .any), (.s (.int .i64 0))], h11) (ref09_IDs_k8 s6 h4))
      ((trim false h4.length [(s6.1.getD 0 .any)] s6.2).map fun p => .inr (Ex.exit 0, p.1, p.2))

def ref09_IDs_k10 (objs : Heap) : Ex → List A → Heap → Option (Out × Heap) := fun e89 vs90 h91 =>
      (match e89 with
  | .normal => none
  | .exit i92 => if i92 = 0 then finish objs.length (.ok (vs90.getD 0 .any)) h91 else none
  | .ret => finish objs.length (.ok (.s (.slice none 0 0))) h91
  | .panic v93 => finish objs.length (.pan v93) h91)

/-- bailey/baileyref09.IDs -/
def ref09_IDs : CallFn := fun args objs =>
match args with
| [a0] =>
oNew none (some 4) a0 objs fun x1 h2 =>
      oNewSlice none 1 (asRows none []) h2 fun x3 h4 =>
      oLoad (some 4) x1 h4 fun x5 =>
      oLoop (ref09_IDs_l9 x5 h4) ([x3, (.s (.int .i64 0))], h4) (ref09_IDs_k10 objs)
| _ => none

def ref09_Level_l1 (x5 : A) (x4 : A) (a1 : A) (h2 : Heap) : List A × Heap → Option ((List A × Heap) ⊕ (Ex × List A × Heap)) := fun s6 =>
      oCmp .lss (s6.1.getD 0 .any) x5 fun x7 =>
      oCond x7 (oIdxA 2 x4 (s6.1.getD 0 .any) fun x8 =>
      oLoad (some 2) x8 s6.2 fun x9 =>
      oNew none (some 2) (.agg [.s (.int .u64 0), .s (.int .i64 0)]) s6.2 fun x10 h11 =>
      oStore (some 2) x10 x9 h11 fun h12 =>
      oFieldA 0 x10 fun x13 =>
      oLoad none x13 h12 fun x14 =>
      oCmp .eql x14 a1 fun x15 =>
      oCond x15 (oFieldA 1 x10 fun x16 =>
      oLoad none x16 h12 fun x17 =>
      (trim true h2.length [x17] h12).map fun p => .inr (Ex.ret, p.1, p.2))
      (oAr .add (s6.1.getD 0 .any) (.s (.int .i64 1)) fun x18 =>
      (trim true h2.length [x18] h12).map .inl))
      ((trim true h2.length [.any] s6.2).map fun p => .inr (Ex.exit 0, p.1, p.2))

def ref09_Level_k2 (x1 : A) (objs : Heap) : Ex → List A → Heap → Option (Out × Heap) := fun e19 vs20 h21 =>
      (match e19 with
  | .normal => none
  | .exit i22 => if i22 = 0 then oFieldA 0 x1 fun x24 =>
      oLoad none x24 h21 fun x25 =>
      finish objs.length (.ok x25) h21 else none
  | .ret => finish objs.length (.ok (vs20.getD 0 .any)) h21
  | .panic v23 => finish objs.length (.pan v23) h21)

/-- bailey/baileyref09.Level -/
def ref09_Level : CallFn := fun args objs =>
match args with
| [a0, a1] =>
oNew none (some 2) a0 objs fun x1 h2 =>
      oFieldA 1 x1 fun x3 =>
      oLoad none x3 h2 fun x4 =>
      oLen x4 fun x5 =>
      oLoop (ref09_Level_l1 x5 x4 a1 h2) ([(.s (.int .i64 0))], h2) (ref09_Level_k2 x1 objs)
| _ => none

def ref09_Form_k1 (s19 : List A × Heap) (h15 : Heap) : Ex → List A → Heap → Option ((List A × Heap) ⊕ (Ex × List A × Heap)) := fun e51 vs49 h50 =>
      (match e51 with
  | .normal => oAr .add (s19.1.getD 0 .any) (.s (.int .i64 1)) fun x54 =>
      (trim false h15.length [x54] h50).map .inl
  | .exit i52 => (trim false h15.length [] h50).map fun p => .inr (Ex.exit i52, p.1, p.2)
  | .ret => (trim false h15.length [] h50).map fun p => .inr (Ex.ret, p.1, p.2)
  | .panic v53 => some (.inr (Ex.panic v53, [], h50)))

def ref09_Form_l2 (x18 : A) (x14 : A) (x1 : A) (x8 : A) (h15 : Heap) : List A × Heap → Option ((List A × Heap) ⊕ (Ex × List A × Heap)) := fun s19 =>
      oCmp .lss (s19.1.getD 0 .any) x18 fun x20 =>
      oCond x20 (oJoin (oIdxA 1 x14 (s19.1.getD 0 .any) fun x21 =>
      oLoad none x21 s19.2 fun x22 =>
      oLoadD s19.2.length [] (some 2) x1 s19.2 fun x23 h24 =>
      oCallF s19.2.length [] ref09_Level [x23, x22] h24 fun w47 h48 => oFrz w47 h48 fun x25 h26 =>
      oFieldA 0 x1 fun x27 =>
      oLoadD s19.2.length [] none x27 h26 fun x28 h29 =>
      oCmp .neq x25 x28 fun x30 =>
      oCond x30 (oFieldA 1 x8 fun x31 =>
      oLoadD h29.length (wrL h29 [(x8, true)]) none x31 (h29 ++ List.replicate 2 .res) fun x32 h33 =>
      oLoadD h29.length (wrL h29 [(x8, true)]) (some 2) x1 h33 fun x34 h35 =>
      oCallF h29.length (wrL h29 [(x8, true)]) ref09_Level [x34, x22] h35 fun w45 h46 => oFrz w45 h46 fun x36 h37 =>
      oBuildP [.s (.int .u64 0), .s (.int .i64 0)] [(0, none, x22), (1, none, x36)] fun x38 =>
      oNewSlice (some h29.length) 2 (asRows (some 2) [x38]) h37 fun x39 h40 =>
      oAppendD h29.length (wrL h29 [(x8, true)]) (h29.length + 1) 2 16 x32 x39 h40 fun x41 h42 =>
      oFieldA 1 x8 fun x43 =>
      oStore none x43 x41 h42 fun h44 =>
      (trim false s19.2.length [] h44).map fun p => (Ex.normal, p.1, p.2))
      ((trim false s19.2.length [] h29).map fun p => (Ex.normal, p.1, p.2))) (ref09_Form_k1 s19 h15))
      ((trim false h15.length [] s19.2).map fun p => .inr (Ex.exit 0, p.1, p.2))

def ref09_Form_k3 (x8 : A) (x3 : A) (objs : Heap) : Ex → List A → Heap → Option (Out × Heap) := fun e55 vs56 h57 =>
      (match e55 with
  | .normal => none
  | .exit i58 => if i58 = 0 then oLoad (some 2) x8 h57 fun x60 =>
      oStore (some 2) x3 x60 h57 fun h61 =>
      oLoad (some 2) x3 h61 fun r62 =>
      finish objs.length (.ok r62) h61 else none
  | .ret => oLoad (some 2) x3 h57 fun r63 =>
      finish objs.length (.ok r63) h57
  | .panic v59 => finish objs.length (.pan v59) h57)

/-- bailey/baileyref09.Form -/
def ref09_Form : CallFn := fun args objs =>
match args with
| [a0] =>
oNew none (some 2) a0 objs fun x1 h2 =>
      oNew none (some 2) (.agg [.s (.int .i64 0), .s (.slice none 0 0)]) h2 fun x3 h4 =>
      oFieldA 0 x1 fun x5 =>
      oLoad none x5 h4 fun x6 =>
      oBuildP [.s (.int .i64 0), .s (.slice none 0 0)] [(0, none, x6)] fun x7 =>
      oNew none (some 2) (.agg [.s (.int .i64 0), .s (.slice none 0 0)]) h4 fun x8 h9 =>
      oStore (some 2) x8 x7 h9 fun h10 =>
      oLoad (some 2) x1 h10 fun x11 =>
      oBuildP [.s (.int .i64 0), .s (.slice none 0 0)] [] fun x12 =>
      oBuildP [.s (.int .i64 0), .s (.slice none 0 0), .s (.int .i64 0), .s (.slice none 0 0)] [(0, (some 2), x11), (2, (some 2), x12)] fun x13 =>
      oLend ref09_IDs [x13] h10 (fun v16 h17 => finish objs.length (.pan v16) h17) fun w64 h65 => oFrz w64 h65 fun x14 h15 =>
      oLen x14 fun x18 =>
      oLoop (ref09_Form_l2 x18 x14 x1 x8 h15) ([(.s (.int .i64 0))], h15) (ref09_Form_k3 x8 x3 objs)
| _ => none

def ref09_Exact_l1 (x24 : A) (x1 : A) (x3 : A) (h18 : Heap) : List A × Heap → Option ((List A × Heap) ⊕ (Ex × List A × Heap)) := fun s25 =>
      oCmp .lss (s25.1.getD 0 .any) x24 fun x26 =>
      oCond x26 (oFieldA 1 x1 fun x27 =>
      oLoadD s25.2.length [] none x27 s25.2 fun x28 h29 =>
      oIdxA 2 x28 (s25.1.getD 0 .any) fun x30 =>
      oLoadD s25.2.length [] (some 2) x30 h29 fun x31 h32 =>
      oFieldA 1 x3 fun x33 =>
      oLoadD s25.2.length [] none x33 h32 fun x34 h35 =>
      oIdxA 2 x34 (s25.1.getD 0 .any) fun x36 =>
      oLoadD s25.2.length [] (some 2) x36 h35 fun x37 h38 =>
      oEqAgg [true, true] true x31 x37 fun x39 =>
      oCond x39 ((trim true h18.length [(.s (.bool false))] h38).map fun p => .inr (Ex.ret, p.1, p.2))
      (oAr .add (s25.1.getD 0 .any) (.s (.int .i64 1)) fun x40 =>
      (trim true h18.length [x40] h38).map .inl))
      ((trim true h18.length [.any] s25.2).map fun p => .inr (Ex.exit 0, p.1, p.2))

def ref09_Exact_k2 (objs : Heap) : Ex → List A → Heap → Option (Out × Heap) := fun e41 vs42 h43 =>
      (match e41 with
  | .normal => none
  | .exit i44 => if i44 = 0 then finish objs.length (.ok (.s (.bool true))) h43 else none
  | .ret => finish objs.length (.ok (vs42.getD 0 .any)) h43
  | .panic v45 => finish objs.length (.pan v45) h43)

def ref09_Exact_k3 (objs : Heap) (x1 : A) (x3 : A) : Ex → List A → Heap → Option (Out × Heap) := fun e19 vs17 h18 =>
      (match e19 with
  | .normal => oCond (vs17.getD 0 .any) (finish objs.length (.ok (.s (.bool false))) h18)
      (oFieldA 1 x1 fun x22 =>
      oLoad none x22 h18 fun x23 =>
      oLen x23 fun x24 =>
      oLoop (ref09_Exact_l1 x24 x1 x3 h18) ([(.s (.int .i64 0))], h18) (ref09_Exact_k2 objs))
  | .exit i20 => none
  | .ret => finish objs.length (.ok (.s (.bool false))) h18
  | .panic v21 => finish objs.length (.pan v21) h18)

/-- bailey/baileyref09.Exact -/
def ref09_Exact : CallFn := fun args objs =>
match args with
| [a0, a1] =>
oNew none (some 2) a0 objs fun x1 h2 =>
      oNew none (some 2) a1 h2 fun x3 h4 =>
      oJoin (oFieldA 0 x1 fun x5 =>
      oLoad none x5 h4 fun x6 =>
      oFieldA 0 x3 fun x7 =>
      oLoad none x7 h4 fun x8 =>
      oCmp .neq x6 x8 fun x9 =>
      oGuard x9 false (fun _ => oFieldA 1 x1 fun x10 =>
      oLoad none x10 h4 fun x11 =>
      oLen x11 fun x12 =>
      oFieldA 1 x3 fun x13 =>
      oLoad none x13 h4 fun x14 =>
      oLen x14 fun x15 =>
      oCmp .neq x12 x15 fun x16 =>
      (trim true h4.length [x16] h4).map fun p => (Ex.normal, p.1, p.2))
      (fun _ => (trim true h4.length [(.s (.bool true))] h4).map fun p => (Ex.normal, p.1, p.2))) (ref09_Exact_k3 objs x1 x3)
| _ => none

def ref09_Right_k1 (h30 : Heap) (s37 : List A × Heap) : Ex → List A → Heap → Option ((List A × Heap) ⊕ (Ex × List A × Heap)) := fun e58 vs56 h57 =>
      (match e58 with
  | .normal => oCond (vs56.getD 0 .any) ((trim true h30.length [(.s (.bool false))] h57).map fun p => .inr (Ex.ret, p.1, p.2))
      (oAr .add (s37.1.getD 0 .any) (.s (.int .i64 1)) fun x61 =>
      (trim true h30.length [x61] h57).map .inl)
  | .exit i59 => if i59 = 1 then oAr .add (s37.1.getD 0 .any) (.s (.int .i64 1)) fun x62 =>
      (trim true h30.length [x62] h57).map .inl else (trim true h30.length [.any] h57).map fun p => .inr (Ex.exit i59, p.1, p.2)
  | .ret => (trim true h30.length [.any] h57).map fun p => .inr (Ex.ret, p.1, p.2)
  | .panic v60 => some (.inr (Ex.panic v60, [.any], h57)))

def ref09_Right_l2 (x36 : A) (x35 : A) (h30 : Heap) : List A × Heap → Option ((List A × Heap) ⊕ (Ex × List A × Heap)) := fun s37 =>
      oCmp .lss (s37.1.getD 0 .any) x36 fun x38 =>
      oCond x38 (oIdxA 2 x35 (s37.1.getD 0 .any) fun x39 =>
      oLoad (some 2) x39 s37.2 fun x40 =>
      oNew none (some 2) (.agg [.s (.int .u64 0), .s (.int .i64 0)]) s37.2 fun x41 h42 =>
      oStore (some 2) x41 x40 h42 fun h43 =>
      oJoin (oFieldA 0 x41 fun x44 =>
      oLoad none x44 h43 fun x45 =>
      oCmp .lss x45 (.s (.int .u64 1)) fun x46 =>
      oGuard x46 false (fun _ => oFieldA 0 x41 fun x47 =>
      oLoad none x47 h43 fun x48 =>
      oCmp .gtr x48 (.s (.int .u64 2305843009213693951)) fun x49 =>
      oGuard x49 false (fun _ => oFieldA 1 x41 fun x50 =>
      oLoad none x50 h43 fun x51 =>
      oCmp .lss x51 (.s (.int .i64 0)) fun x52 =>
      oGuard x52 false (fun _ => oFieldA 1 x41 fun x53 =>
      oLoad none x53 h43 fun x54 =>
      oCmp .gtr x54 (.s (.int .i64 4)) fun x55 =>
      (trim true h43.length [x55] h43).map fun p => (Ex.normal, p.1, p.2))
      (fun _ => (trim true h43.length [(.s (.bool true))] h43).map fun p => (Ex.normal, p.1, p.2)))
      (fun _ => (trim true h43.length [(.s (.bool true))] h43).map fun p => (Ex.normal, p.1, p.2)))
      (fun _ => (trim true h43.length [(.s (.bool true))] h43).map fun p => (Ex.normal, p.1, p.2))) (ref09_Right_k1 h30 s37))
      ((trim true h30.length [.any] s37.2).map fun p => .inr (Ex.exit 0, p.1, p.2))

def ref09_Right_k3 (objs : Heap) : Ex → List A → Heap → Option (Out × Heap) := fun e63 vs64 h65 =>
      (match e63 with
  | .normal => none
  | .exit i66 => if i66 = 0 then finish objs.length (.ok (.s (.bool true))) h65 else none
  | .ret => finish objs.length (.ok (vs64.getD 0 .any)) h65
  | .panic v67 => finish objs.length (.pan v67) h65)

def ref09_Right_k4 (objs : Heap) (x1 : A) : Ex → List A → Heap → Option (Out × Heap) := fun e31 vs29 h30 =>
      (match e31 with
  | .normal => oCond (vs29.getD 0 .any) (finish objs.length (.ok (.s (.bool false))) h30)
      (oFieldA 1 x1 fun x34 =>
      oLoad none x34 h30 fun x35 =>
      oLen x35 fun x36 =>
      oLoop (ref09_Right_l2 x36 x35 h30) ([(.s (.int .i64 0))], h30) (ref09_Right_k3 objs))
  | .exit i32 => none
  | .ret => finish objs.length (.ok (.s (.bool false))) h30
  | .panic v33 => finish objs.length (.pan v33) h30)

/-- bailey/baileyref09.Right -/
def ref09_Right : CallFn := fun args objs =>
match args with
| [a0] =>
oNew none (some 2) a0 objs fun x1 h2 =>
      oJoin (oFieldA 0 x1 fun x3 =>
      oLoadD h2.length [] none x3 h2 fun x4 h5 =>
      oCmp .lss x4 (.s (.int .i64 1)) fun x6 =>
      oGuard x6 false (fun _ => oFieldA 0 x1 fun x7 =>
      oLoadD h2.length [] none x7 h5 fun x8 h9 =>
      oCmp .gtr x8 (.s (.int .i64 4)) fun x10 =>
      oGuard x10 false (fun _ => oFieldA 1 x1 fun x11 =>
      oLoadD h2.length [] none x11 h9 fun x12 h13 =>
      oLen x12 fun x14 =>
      oCmp .gtr x14 (.s (.int .i64 6)) fun x15 =>
      oGuard x15 false (fun _ => oLoadD h2.length [] (some 2) x1 h13 fun x16 h17 =>
      oLoadD h2.length [] (some 2) x1 h17 fun x18 h19 =>
      oCallF h2.length [] ref09_Form [x18] h19 fun w27 h28 => oFrz w27 h28 fun x20 h21 =>
      oCallF h2.length [] ref09_Exact [x16, x20] h21 fun w25 h26 => oFrz w25 h26 fun x22 h23 =>
      oNot x22 fun x24 =>
      (trim true h2.length [x24] h23).map fun p => (Ex.normal, p.1, p.2))
      (fun _ => (trim true h2.length [(.s (.bool true))] h13).map fun p => (Ex.normal, p.1, p.2)))
      (fun _ => (trim true h2.length [(.s (.bool true))] h9).map fun p => (Ex.normal, p.1, p.2)))
      (fun _ => (trim true h2.length [(.s (.bool true))] h5).map fun p => (Ex.normal, p.1, p.2))) (ref09_Right_k4 objs x1)
| _ => none

def ref10_Pure_l1 (x8 : A) (x7 : A) (h2 : Heap) : List A × Heap → Option ((List A × Heap) ⊕ (Ex × List A × Heap)) := fun s9 =>
      oCmp .lss (s9.1.getD 0 .any) x8 fun x10 =>
      oCond x10 (oIdxA 2 x7 (s9.1.getD 0 .any) fun x11 =>
      oLoad (some 2) x11 s9.2 fun x12 =>
      oNew none (some 2) (.agg [.s (.int .u64 0), .s (.int .i64 0)]) s9.2 fun x13 h14 =>
      oStore (some 2) x13 x12 h14 fun h15 =>
      oFieldA 1 x13 fun x16 =>
      oLoad none x16 h15 fun x17 =>
      oCmp .eql x17 (.s (.int .i64 0)) fun x18 =>
      oCond x18 ((trim true h2.length [(.s (.bool false))] h15).map fun p => .inr (Ex.ret, p.1, p.2))
      (oAr .add (s9.1.getD 0 .any) (.s (.int .i64 1)) fun x19 =>
      (trim true h2.length [x19] h15).map .inl))
      ((trim true h2.length [.any] s9.2).map fun p => .inr (Ex.exit 0, p.1, p.2))

def ref10_Pure_k2 (objs : Heap) : Ex → List A → Heap → Option (Out × Heap) := fun e20 vs21 h22 =>
      (match e20 with
  | .normal => none
  | .exit i23 => if i23 = 0 then finish objs.length (.ok (.s (.bool true))) h22 else none
  | .ret => finish objs.length (.ok (vs21.getD 0 .any)) h22
  | .panic v24 => finish objs.length (.pan v24) h22)

/-- bailey/baileyref10.Pure -/
def ref10_Pure : CallFn := fun args objs =>
match args with
| [a0] =>
oNew none (some 2) a0 objs fun x1 h2 =>
      oFieldA 0 x1 fun x3 =>
      oLoad none x3 h2 fun x4 =>
      oCmp .eql x4 (.s (.int .i64 0)) fun x5 =>
      oCond x5 (finish objs.length (.ok (.s (.bool false))) h2)
      (oFieldA 1 x1 fun x6 =>
      oLoad none x6 h2 fun x7 =>
      oLen x7 fun x8 =>
      oLoop (ref10_Pure_l1 x8 x7 h2) ([(.s (.int .i64 0))], h2) (ref10_Pure_k2 objs))
| _ => none

/-- bailey/baileyref01.parts -/
def ref01_parts : CallFn := fun args objs =>
match args with
| [a0] =>
oShift .shr a0 (.s (.int .u64 63)) fun x1 =>
      oShift .shr a0 (.s (.int .u64 52)) fun x2 =>
      oAr .and x2 (.s (.int .u64 2047)) fun x3 =>
      oAr .and a0 (.s (.int .u64 4503599627370495)) fun x4 =>
      finish objs.length (.ok (.tup [x1, x3, x4])) objs
| _ => none

def ref01_Canon_k1 (objs : Heap) (a0 : A) : Ex → List A → Heap → Option (Out × Heap) := fun e12 vs10 h11 =>
      (match e12 with
  | .normal => oCond (vs10.getD 0 .any) (finish objs.length (.ok (.s (.int .u64 9221120237041090561))) h11)
      (finish objs.length (.ok a0) h11)
  | .exit i13 => none
  | .ret => finish objs.length (.ok (.s (.int .u64 0))) h11
  | .panic v14 => finish objs.length (.pan v14) h11)

/-- bailey/baileyref01.Canon -/
def ref01_Canon : CallFn := fun args objs =>
match args with
| [a0] =>
oLend ref01_parts [a0] objs (fun v3 h4 => finish objs.length (.pan v3) h4) fun w15 h16 => oFrz w15 h16 fun x1 h2 =>
      oExtract 0 x1 fun x5 =>
      oExtract 1 x1 fun x6 =>
      oExtract 2 x1 fun x7 =>
      oJoin (oCmp .eql x6 (.s (.int .u64 2047)) fun x8 =>
      oGuard x8 true (fun _ => oCmp .neq x7 (.s (.int .u64 0)) fun x9 =>
      (trim true h2.length [x9] h2).map fun p => (Ex.normal, p.1, p.2))
      (fun _ => (trim true h2.length [(.s (.bool false))] h2).map fun p => (Ex.normal, p.1, p.2))) (ref01_Canon_k1 objs a0)
| _ => none

/-- bailey/baileyref11.clean -/
def ref11_clean : CallFn := fun args objs =>
match args with
| [a0] =>
oNew none (some 2) a0 objs fun x1 h2 =>
      oLoad (some 2) x1 h2 fun x3 =>
      oLend ref09_Right [x3] h2 (fun v6 h7 => finish objs.length (.pan v6) h7) fun w15 h16 => oFrz w15 h16 fun x4 h5 =>
      oGuard x4 true (fun _ => oLoad (some 2) x1 h5 fun x8 =>
      oLend ref10_Pure [x8] h5 (fun v11 h12 => finish objs.length (.pan v11) h12) fun w13 h14 => oFrz w13 h14 fun x9 h10 =>
      finish objs.length (.ok x9) h10)
      (fun _ => finish objs.length (.ok (.s (.bool false))) h5)
| _ => none

def ref11_Same_l1 (x103 : A) (x1 : A) (x3 : A) (h97 : Heap) : List A × Heap → Option ((List A × Heap) ⊕ (Ex × List A × Heap)) := fun s104 =>
      oCmp .lss (s104.1.getD 0 .any) x103 fun x105 =>
      oCond x105 (oFieldA 8 x1 fun x106 =>
      oLoadD s104.2.length [] none x106 s104.2 fun x107 h108 =>
      oIdxA 2 x107 (s104.1.getD 0 .any) fun x109 =>
      oLoadD s104.2.length [] (some 2) x109 h108 fun x110 h111 =>
      oFieldA 8 x3 fun x112 =>
      oLoadD s104.2.length [] none x112 h111 fun x113 h114 =>
      oIdxA 2 x113 (s104.1.getD 0 .any) fun x115 =>
      oLoadD s104.2.length [] (some 2) x115 h114 fun x116 h117 =>
      oEqAgg [true, true] true x110 x116 fun x118 =>
      oCond x118 ((trim true h97.length [(.s (.bool false))] h117).map fun p => .inr (Ex.ret, p.1, p.2))
      (oAr .add (s104.1.getD 0 .any) (.s (.int .i64 1)) fun x119 =>
      (trim true h97.length [x119] h117).map .inl))
      ((trim true h97.length [.any] s104.2).map fun p => .inr (Ex.exit 0, p.1, p.2))

def ref11_Same_k2 (objs : Heap) : Ex → List A → Heap → Option (Out × Heap) := fun e120 vs121 h122 =>
      (match e120 with
  | .normal => none
  | .exit i123 => if i123 = 0 then finish objs.length (.ok (.s (.bool true))) h122 else none
  | .ret => finish objs.length (.ok (vs121.getD 0 .any)) h122
  | .panic v124 => finish objs.length (.pan v124) h122)

def ref11_Same_k3 (objs : Heap) (x1 : A) (x3 : A) : Ex → List A → Heap → Option (Out × Heap) := fun e98 vs96 h97 =>
      (match e98 with
  | .normal => oCond (vs96.getD 0 .any) (finish objs.length (.ok (.s (.bool false))) h97)
      (oFieldA 8 x1 fun x101 =>
      oLoad none x101 h97 fun x102 =>
      oLen x102 fun x103 =>
      oLoop (ref11_Same_l1 x103 x1 x3 h97) ([(.s (.int .i64 0))], h97) (ref11_Same_k2 objs))
  | .exit i99 => none
  | .ret => finish objs.length (.ok (.s (.bool false))) h97
  | .panic v100 => finish objs.length (.pan v100) h97)

def ref11_Same_k4 (objs : Heap) (x1 : A) (x3 : A) : Ex → List A → Heap → Option (Out × Heap) := fun e57 vs55 h56 =>
      (match e57 with
  | .normal => oCond (vs55.getD 0 .any) (finish objs.length (.ok (.s (.bool false))) h56)
      (oJoin (oFieldA 2 x1 fun x60 =>
      oLoad (some 2) x60 h56 fun x61 =>
      oFieldA 2 x3 fun x62 =>
      oLoad (some 2) x62 h56 fun x63 =>
      oLend ref09_Exact [x61, x63] h56 (fun v66 h67 => some (Ex.panic v66, [], h67)) fun w94 h95 => oFrz w94 h95 fun x64 h65 =>
      oNot x64 fun x68 =>
      oGuard x68 false (fun _ => oFieldA 4 x1 fun x69 =>
      oLoad (some 2) x69 h65 fun x70 =>
      oFieldA 4 x3 fun x71 =>
      oLoad (some 2) x71 h65 fun x72 =>
      oLend ref09_Exact [x70, x72] h65 (fun v75 h76 => some (Ex.panic v75, [], h76)) fun w92 h93 => oFrz w92 h93 fun x73 h74 =>
      oNot x73 fun x77 =>
      oGuard x77 false (fun _ => oFieldA 9 x1 fun x78 =>
      oLoad none x78 h74 fun x79 =>
      oBytesStr x79 h74 fun x80 =>
      oFieldA 9 x3 fun x81 =>
      oLoad none x81 h74 fun x82 =>
      oBytesStr x82 h74 fun x83 =>
      oEqStr true x80 x83 fun x84 =>
      oGuard x84 false (fun _ => oFieldA 8 x1 fun x85 =>
      oLoad none x85 h74 fun x86 =>
      oLen x86 fun x87 =>
      oFieldA 8 x3 fun x88 =>
      oLoad none x88 h74 fun x89 =>
      oLen x89 fun x90 =>
      oCmp .neq x87 x90 fun x91 =>
      (trim true h56.length [x91] h74).map fun p => (Ex.normal, p.1, p.2))
      (fun _ => (trim true h56.length [(.s (.bool true))] h74).map fun p => (Ex.normal, p.1, p.2)))
      (fun _ => (trim true h56.length [(.s (.bool true))] h74).map fun p => (Ex.normal, p.1, p.2)))
      (fun _ => (trim true h56.length [(.s (.bool true))] h65).map fun p => (Ex.normal, p.1, p.2))) (ref11_Same_k3 objs x1 x3))
  | .exit i58 => none
  | .ret => finish objs.length (.ok (.s (.bool false))) h56
  | .panic v59 => finish objs.length (.pan v59) h56)

/-- bailey/baileyref11.Same -/
def ref11_Same : CallFn := fun args objs =>
match args with
| [a0, a1] =>
oNew none (some 26) a0 objs fun x1 h2 =>
      oNew none (some 26) a1 h2 fun x3 h4 =>
      oJoin (oFieldA 0 x1 fun x5 =>
      oLoad none x5 h4 fun x6 =>
      oFieldA 0 x3 fun x7 =>
      oLoad none x7 h4 fun x8 =>
      oCmp .neq x6 x8 fun x9 =>
      oGuard x9 false (fun _ => oFieldA 1 x1 fun x10 =>
      oLoad none x10 h4 fun x11 =>
      oFieldA 1 x3 fun x12 =>
      oLoad none x12 h4 fun x13 =>
      oCmp .neq x11 x13 fun x14 =>
      oGuard x14 false (fun _ => oFieldA 6 x1 fun x15 =>
      oLoad none x15 h4 fun x16 =>
      oFieldA 6 x3 fun x17 =>
      oLoad none x17 h4 fun x18 =>
      oCmp .neq x16 x18 fun x19 =>
      oGuard x19 false (fun _ => oFieldA 7 x1 fun x20 =>
      oLoad none x20 h4 fun x21 =>
      oFieldA 7 x3 fun x22 =>
      oLoad none x22 h4 fun x23 =>
      oCmp .neq x21 x23 fun x24 =>
      oGuard x24 false (fun _ => oFieldA 10 x1 fun x25 =>
      oLoad (some 4) x25 h4 fun x26 =>
      oFieldA 10 x3 fun x27 =>
      oLoad (some 4) x27 h4 fun x28 =>
      oEqAgg [true, true, true, true] true x26 x28 fun x29 =>
      oGuard x29 false (fun _ => oFieldA 14 x1 fun x30 =>
      oLoad none x30 h4 fun x31 =>
      oFieldA 14 x3 fun x32 =>
      oLoad none x32 h4 fun x33 =>
      oCmp .neq x31 x33 fun x34 =>
      oGuard x34 false (fun _ => oFieldA 15 x1 fun x35 =>
      oLoad none x35 h4 fun x36 =>
      oFieldA 15 x3 fun x37 =>
      oLoad none x37 h4 fun x38 =>
      oCmp .neq x36 x38 fun x39 =>
      oGuard x39 false (fun _ => oFieldA 16 x1 fun x40 =>
      oLoad none x40 h4 fun x41 =>
      oFieldA 16 x3 fun x42 =>
      oLoad none x42 h4 fun x43 =>
      oEqBool true x41 x43 fun x44 =>
      oGuard x44 false (fun _ => oFieldA 17 x1 fun x45 =>
      oLoad none x45 h4 fun x46 =>
      oFieldA 17 x3 fun x47 =>
      oLoad none x47 h4 fun x48 =>
      oCmp .neq x46 x48 fun x49 =>
      oGuard x49 false (fun _ => oFieldA 18 x1 fun x50 =>
      oLoad (some 8) x50 h4 fun x51 =>
      oFieldA 18 x3 fun x52 =>
      oLoad (some 8) x52 h4 fun x53 =>
      oEqAgg [true, true, true, true, true, true, true, true] true x51 x53 fun x54 =>
      (trim true h4.length [x54] h4).map fun p => (Ex.normal, p.1, p.2))
      (fun _ => (trim true h4.length [(.s (.bool true))] h4).map fun p => (Ex.normal, p.1, p.2)))
      (fun _ => (trim true h4.length [(.s (.bool true))] h4).map fun p => (Ex.normal, p.1, p.2)))
      (fun _ => (trim true h4.length [(.s (.bool true))] h4).map fun p => (Ex.normal, p.1, p.2)))
      (fun _ => (trim true h4.length [(.s (.bool true))] h4).map fun p => (Ex.normal, p.1, p.2)))
      (fun _ => (trim true h4.length [(.s (.bool true))] h4).map fun p => (Ex.normal, p.1, p.2)))
      (fun _ => (trim true h4.length [(.s (.bool true))] h4).map fun p => (Ex.normal, p.1, p.2)))
      (fun _ => (trim true h4.length [(.s (.bool true))] h4).map fun p => (Ex.normal, p.1, p.2)))
      (fun _ => (trim true h4.length [(.s (.bool true))] h4).map fun p => (Ex.normal, p.1, p.2)))
      (fun _ => (trim true h4.length [(.s (.bool true))] h4).map fun p => (Ex.normal, p.1, p.2))) (ref11_Same_k4 objs x1 x3)
| _ => none

def ref11_Right_k1 (h51 : Heap) (s57 : List A × Heap) (x61 : A) : Ex → List A → Heap → Option ((List A × Heap) ⊕ (Ex × List A × Heap)) := fun e97 vs95 h96 =>
      (match e97 with
  | .normal => oCond (vs95.getD 0 .any) ((trim true h51.length [(.s (.bool false)), (s57.1.getD 0 .any)] h96).map fun p => .inr (Ex.ret, p.1, p.2))
      (oFieldA 1 x61 fun x100 =>
      oLoad none x100 h96 fun x101 =>
      oAr .add (s57.1.getD 0 .any) x101 fun x102 =>
      oAr .add (s57.1.getD 1 .any) (.s (.int .i64 1)) fun x103 =>
      (trim true h51.length [x102, x103] h96).map .inl)
  | .exit i98 => if i98 = 2 then oAr .add (s57.1.getD 1 .any) (.s (.int .i64 1)) fun x104 =>
      (trim true h51.length [(s57.1.getD 0 .any), x104] h96).map .inl else (trim true h51.length [.any, (s57.1.getD 0 .any)] h96).map fun p => .inr (Ex.exit i98, p.1, p.2)
  | .ret => (trim true h51.length [.any, (s57.1.getD 0 .any)] h96).map fun p => .inr (Ex.ret, p.1, p.2)
  | .panic v99 => some (.inr (Ex.panic v99, [.any, .any], h96)))

def ref11_Right_l2 (x56 : A) (x55 : A) (x1 : A) (h51 : Heap) : List A × Heap → Option ((List A × Heap) ⊕ (Ex × List A × Heap)) := fun s57 =>
      oCmp .lss (s57.1.getD 1 .any) x56 fun x58 =>
      oCond x58 (oIdxA 2 x55 (s57.1.getD 1 .any) fun x59 =>
      oLoad (some 2) x59 s57.2 fun x60 =>
      oNew none (some 2) (.agg [.s (.int .u64 0), .s (.int .i64 0)]) s57.2 fun x61 h62 =>
      oStore (some 2) x61 x60 h62 fun h63 =>
      oJoin (oFieldA 0 x61 fun x64 =>
      oLoadD h63.length [] none x64 h63 fun x65 h66 =>
      oCallF h63.length [] ref11_id [x65] h66 fun w93 h94 => oFrz w93 h94 fun x67 h68 =>
      oNot x67 fun x69 =>
      oGuard x69 false (fun _ => oFieldA 1 x61 fun x70 =>
      oLoadD h63.length [] none x70 h68 fun x71 h72 =>
      oCmp .lss x71 (.s (.int .i64 1)) fun x73 =>
      oGuard x73 false (fun _ => oFieldA 1 x61 fun x74 =>
      oLoadD h63.length [] none x74 h72 fun x75 h76 =>
      oCmp .gtr x75 (.s (.int .i64 48)) fun x77 =>
      oGuard x77 false (fun _ => oCmp .gtr (s57.1.getD 1 .any) (.s (.int .i64 0)) fun x78 =>
      oGuard x78 true (fun _ => oFieldA 8 x1 fun x79 =>
      oLoadD h63.length [] none x79 h76 fun x80 h81 =>
      oAr .sub (s57.1.getD 1 .any) (.s (.int .i64 1)) fun x82 =>
      oIdxA 2 x80 x82 fun x83 =>
      oFieldA 0 x83 fun x84 =>
      oLoadD h63.length [] none x84 h81 fun x85 h86 =>
      oFieldA 0 x61 fun x87 =>
      oLoadD h63.length [] none x87 h86 fun x88 h89 =>
      oCmp .geq x85 x88 fun x90 =>
      oGuard x90 false (fun _ => oCmp .geq (s57.1.getD 1 .any) (.s (.int .i64 16)) fun x91 =>
      (trim true h63.length [x91] h89).map fun p => (Ex.normal, p.1, p.2))
      (fun _ => (trim true h63.length [(.s (.bool true))] h89).map fun p => (Ex.normal, p.1, p.2)))
      (fun _ => oCmp .geq (s57.1.getD 1 .any) (.s (.int .i64 16)) fun x92 =>
      (trim true h63.length [x92] h76).map fun p => (Ex.normal, p.1, p.2)))
      (fun _ => (trim true h63.length [(.s (.bool true))] h76).map fun p => (Ex.normal, p.1, p.2)))
      (fun _ => (trim true h63.length [(.s (.bool true))] h72).map fun p => (Ex.normal, p.1, p.2)))
      (fun _ => (trim true h63.length [(.s (.bool true))] h68).map fun p => (Ex.normal, p.1, p.2))) (ref11_Right_k1 h51 s57 x61))
      ((trim true h51.length [.any, (s57.1.getD 0 .any)] s57.2).map fun p => .inr (Ex.exit 1, p.1, p.2))

def ref11_Right_k3 (h44 : Heap) (x53 : A) (vs106 : List A) : Ex → List A → Heap → Option (Ex × List A × Heap) := fun e127 vs125 h126 =>
      (match e127 with
  | .normal => oCond (vs125.getD 0 .any) ((trim true h44.length [(.s (.bool false)), x53] h126).map fun p => (Ex.ret, p.1, p.2))
      ((trim true h44.length [(vs106.getD 0 .any), x53] h126).map fun p => (Ex.normal, p.1, p.2))
  | .exit i128 => if i128 = 0 then (trim true h44.length [(vs106.getD 0 .any), x53] h126).map fun p => (Ex.normal, p.1, p.2) else (trim true h44.length [(vs106.getD 0 .any), x53] h126).map fun p => (Ex.exit i128, p.1, p.2)
  | .ret => (trim true h44.length [(vs106.getD 0 .any), x53] h126).map fun p => (Ex.ret, p.1, p.2)
  | .panic v129 => some (Ex.panic v129, [], h126))

def ref11_Right_k4 (x1 : A) (h44 : Heap) (x53 : A) : Ex → List A → Heap → Option (Ex × List A × Heap) := fun e105 vs106 h107 =>
      (match e105 with
  | .normal => none
  | .exit i108 => if i108 = 1 then oJoin (oFieldA 6 x1 fun x110 =>
      oLoad none x110 h107 fun x111 =>
      oCmp .lss x111 (.s (.int .i64 1)) fun x112 =>
      oGuard x112 false (fun _ => oFieldA 6 x1 fun x113 =>
      oLoad none x113 h107 fun x114 =>
      oCmp .gtr x114 (.s (.int .i64 48)) fun x115 =>
      oGuard x115 false (fun _ => oFieldA 6 x1 fun x116 =>
      oLoad none x116 h107 fun x117 =>
      oCmp .gtr (vs106.getD 1 .any) x117 fun x118 =>
      oGuard x118 false (fun _ => oFieldA 7 x1 fun x119 =>
      oLoad none x119 h107 fun x120 =>
      oCmp .lss x120 (.s (.int .i64 0)) fun x121 =>
      oGuard x121 false (fun _ => oFieldA 7 x1 fun x122 =>
      oLoad none x122 h107 fun x123 =>
      oCmp .gtr x123 (.s (.int .i64 63)) fun x124 =>
      (trim true h107.length [x124] h107).map fun p => (Ex.normal, p.1, p.2))
      (fun _ => (trim true h107.length [(.s (.bool true))] h107).map fun p => (Ex.normal, p.1, p.2)))
      (fun _ => (trim true h107.length [(.s (.bool true))] h107).map fun p => (Ex.normal, p.1, p.2)))
      (fun _ => (trim true h107.length [(.s (.bool true))] h107).map fun p => (Ex.normal, p.1, p.2)))
      (fun _ => (trim true h107.length [(.s (.bool true))] h107).map fun p => (Ex.normal, p.1, p.2))) (ref11_Right_k3 h44 x53 vs106) else if i108 = 0 then (trim true h44.length [(vs106.getD 0 .any), x53] h107).map fun p => (Ex.normal, p.1, p.2) else (trim true h44.length [(vs106.getD 0 .any), x53] h107).map fun p => (Ex.exit i108, p.1, p.2)
  | .ret => (trim true h44.length [(vs106.getD 0 .any), x53] h107).map fun p => (Ex.ret, p.1, p.2)
  | .panic v109 => some (Ex.panic v109, [], h107))

def ref11_Right_l5 (x132 : A) (h44 : Heap) : List A × Heap → Option ((List A × Heap) ⊕ (Ex × List A × Heap)) := fun s133 =>
      oCmp .lss (s133.1.getD 0 .any) (.s (.int .i64 4)) fun x134 =>
      oCond x134 (oIndex 4 1 none x132 (s133.1.getD 0 .any) fun x135 =>
      oLend ref01_Canon [x135] s133.2 (fun v138 h139 => some (.inr (Ex.panic v138, [.any], h139))) fun w142 h143 => oFrz w142 h143 fun x136 h137 =>
      oCmp .neq x136 x135 fun x140 =>
      oCond x140 ((trim true h44.length [(.s (.bool false))] h137).map fun p => .inr (Ex.ret, p.1, p.2))
      (oAr .add (s133.1.getD 0 .any) (.s (.int .i64 1)) fun x141 =>
      (trim true h44.length [x141] h137).map .inl))
      ((trim true h44.length [.any] s133.2).map fun p => .inr (Ex.exit 3, p.1, p.2))

def ref11_Right_k6 (h44 : Heap) (x42 : A) (vs145 : List A) : Ex → List A → Heap → Option (Ex × List A × Heap) := fun e172 vs170 h171 =>
      (match e172 with
  | .normal => oCond (vs170.getD 0 .any) ((trim true h44.length [(.s (.bool false)), (.s (.int .i64 1))] h171).map fun p => (Ex.ret, p.1, p.2))
      (oBuildP [.s (.int .i64 0), .s (.slice none 0 0)] [] fun x175 =>
      oFieldA 4 x42 fun x176 =>
      oStore (some 2) x176 x175 h171 fun h177 =>
      oBuildP [.s (.int .u64 0), .s (.int .u64 0), .s (.int .u64 0), .s (.int .u64 0)] [] fun x178 =>
      oFieldA 10 x42 fun x179 =>
      oStore (some 4) x179 x178 h177 fun h180 =>
      oFieldA 14 x42 fun x181 =>
      oStore none x181 (.s (.int .i64 0)) h180 fun h182 =>
      oFieldA 15 x42 fun x183 =>
      oStore none x183 (.s (.int .i64 0)) h182 fun h184 =>
      oFieldA 16 x42 fun x185 =>
      oStore none x185 (.s (.bool false)) h184 fun h186 =>
      (trim true h44.length [(vs145.getD 0 .any), (.s (.int .i64 1))] h186).map fun p => (Ex.normal, p.1, p.2))
  | .exit i173 => if i173 = 0 then (trim true h44.length [(vs145.getD 0 .any), (.s (.int .i64 1))] h171).map fun p => (Ex.normal, p.1, p.2) else (trim true h44.length [(vs145.getD 0 .any), (.s (.int .i64 1))] h171).map fun p => (Ex.exit i173, p.1, p.2)
  | .ret => (trim true h44.length [(vs145.getD 0 .any), (.s (.int .i64 1))] h171).map fun p => (Ex.ret, p.1, p.2)
  | .panic v174 => some (Ex.panic v174, [], h171))

def ref11_Right_k7 (x1 : A) (h44 : Heap) (x42 : A) : Ex → List A → Heap → Option (Ex × List A × Heap) := fun e144 vs145 h146 =>
      (match e144 with
  | .normal => none
  | .exit i147 => if i147 = 3 then oJoin (oFieldA 4 x1 fun x149 =>
      oLoad (some 2) x149 h146 fun x150 =>
      oLend ref11_clean [x150] h146 (fun v153 h154 => some (Ex.panic v153, [], h154)) fun w168 h169 => oFrz w168 h169 fun x151 h152 =>
      oNot x151 fun x155 =>
      oGuard x155 false (fun _ => oFieldA 14 x1 fun x156 =>
      oLoad none x156 h152 fun x157 =>
      oCmp .lss x157 (.s (.int .i64 0)) fun x158 =>
      oGuard x158 false (fun _ => oFieldA 14 x1 fun x159 =>
      oLoad none x159 h152 fun x160 =>
      oCmp .gtr x160 (.s (.int .i64 31)) fun x161 =>
      oGuard x161 false (fun _ => oFieldA 15 x1 fun x162 =>
      oLoad none x162 h152 fun x163 =>
      oCmp .lss x163 (.s (.int .i64 0)) fun x164 =>
      oGuard x164 false (fun _ => oFieldA 15 x1 fun x165 =>
      oLoad none x165 h152 fun x166 =>
      oCmp .gtr x166 (.s (.int .i64 255)) fun x167 =>
      (trim true h146.length [x167] h152).map fun p => (Ex.normal, p.1, p.2))
      (fun _ => (trim true h146.length [(.s (.bool true))] h152).map fun p => (Ex.normal, p.1, p.2)))
      (fun _ => (trim true h146.length [(.s (.bool true))] h152).map fun p => (Ex.normal, p.1, p.2)))
      (fun _ => (trim true h146.length [(.s (.bool true))] h152).map fun p => (Ex.normal, p.1, p.2)))
      (fun _ => (trim true h146.length [(.s (.bool true))] h152).map fun p => (Ex.normal, p.1, p.2))) (ref11_Right_k6 h44 x42 vs145) else if i147 = 0 then (trim true h44.length [(vs145.getD 0 .any), (.s (.int .i64 1))] h146).map fun p => (Ex.normal, p.1, p.2) else (trim true h44.length [(vs145.getD 0 .any), (.s (.int .i64 1))] h146).map fun p => (Ex.exit i147, p.1, p.2)
  | .ret => (trim true h44.length [(vs145.getD 0 .any), (.s (.int .i64 1))] h146).map fun p => (Ex.ret, p.1, p.2)
  | .panic v148 => some (Ex.panic v148, [], h146))

def ref11_Right_k8 (h44 : Heap) (x42 : A) : Ex → List A → Heap → Option (Ex × List A × Heap) := fun e209 vs207 h208 =>
      (match e209 with
  | .normal => oCond (vs207.getD 0 .any) ((trim true h44.length [(.s (.bool false)), (.s (.int .i64 1))] h208).map fun p => (Ex.ret, p.1, p.2))
      (oBuildP [.s (.int .i64 0), .s (.slice none 0 0)] [] fun x212 =>
      oFieldA 4 x42 fun x213 =>
      oStore (some 2) x213 x212 h208 fun h214 =>
      oFieldA 17 x42 fun x215 =>
      oStore none x215 (.s (.int .u64 0)) h214 fun h216 =>
      (trim true h44.length [(.s (.bool false)), (.s (.int .i64 1))] h216).map fun p => (Ex.normal, p.1, p.2))
  | .exit i210 => if i210 = 0 then (trim true h44.length [(.s (.bool false)), (.s (.int .i64 1))] h208).map fun p => (Ex.normal, p.1, p.2) else (trim true h44.length [(.s (.bool false)), (.s (.int .i64 1))] h208).map fun p => (Ex.exit i210, p.1, p.2)
  | .ret => (trim true h44.length [(.s (.bool false)), (.s (.int .i64 1))] h208).map fun p => (Ex.ret, p.1, p.2)
  | .panic v211 => some (Ex.panic v211, [], h208))

def ref11_Right_k9 (h44 : Heap) (x222 : A) (x42 : A) : Ex → List A → Heap → Option (Ex × List A × Heap) := fun e238 vs236 h237 =>
      (match e238 with
  | .normal => oCond (vs236.getD 0 .any) ((trim true h44.length [(.s (.bool false)), x222] h237).map fun p => (Ex.ret, p.1, p.2))
      (oFieldA 9 x42 fun x241 =>
      oStore none x241 (.s (.slice none 0 0)) h237 fun h242 =>
      (trim true h44.length [(.s (.bool false)), x222] h242).map fun p => (Ex.normal, p.1, p.2))
  | .exit i239 => if i239 = 0 then (trim true h44.length [(.s (.bool false)), x222] h237).map fun p => (Ex.normal, p.1, p.2) else (trim true h44.length [(.s (.bool false)), x222] h237).map fun p => (Ex.exit i239, p.1, p.2)
  | .ret => (trim true h44.length [(.s (.bool false)), x222] h237).map fun p => (Ex.ret, p.1, p.2)
  | .panic v240 => some (Ex.panic v240, [], h237))

def ref11_Right_k10 (h44 : Heap) (s246 : List A × Heap) : Ex → List A → Heap → Option ((List A × Heap) ⊕ (Ex × List A × Heap)) := fun e275 vs273 h274 =>
      (match e275 with
  | .normal => oCond (vs273.getD 0 .any) ((trim true h44.length [(.s (.bool false))] h274).map fun p => .inr (Ex.ret, p.1, p.2))
      (oAr .add (s246.1.getD 0 .any) (.s (.int .i64 1)) fun x278 =>
      (trim true h44.length [x278] h274).map .inl)
  | .exit i276 => if i276 = 6 then oAr .add (s246.1.getD 0 .any) (.s (.int .i64 1)) fun x279 =>
      (trim true h44.length [x279] h274).map .inl else (trim true h44.length [.any] h274).map fun p => .inr (Ex.exit i276, p.1, p.2)
  | .ret => (trim true h44.length [.any] h274).map fun p => .inr (Ex.ret, p.1, p.2)
  | .panic v277 => some (.inr (Ex.panic v277, [.any], h274)))

def ref11_Right_l11 (x245 : A) (h44 : Heap) : List A × Heap → Option ((List A × Heap) ⊕ (Ex × List A × Heap)) := fun s246 =>
      oCmp .lss (s246.1.getD 0 .any) (.s (.int .i64 4)) fun x247 =>
      oCond x247 (oIndex 4 2 (some 2) x245 (s246.1.getD 0 .any) fun x248 =>
      oNew none (some 2) (.agg [.s (.int .u64 0), .s (.int .u64 0)]) s246.2 fun x249 h250 =>
      oStore (some 2) x249 x248 h250 fun h251 =>
      oJoin (oLoad (some 2) x249 h251 fun x252 =>
      oBuildP [.s (.int .u64 0), .s (.int .u64 0)] [] fun x253 =>
      oEqAgg [true, true] true x252 x253 fun x254 =>
      oGuard x254 true (fun _ => oFieldA 0 x249 fun x255 =>
      oLoad none x255 h251 fun x256 =>
      oLend ref11_id [x256] h251 (fun v259 h260 => some (Ex.panic v259, [], h260)) fun w271 h272 => oFrz w271 h272 fun x257 h258 =>
      oNot x257 fun x261 =>
      oGuard x261 false (fun _ => oFieldA 1 x249 fun x262 =>
      oLoad none x262 h258 fun x263 =>
      oLend ref11_id [x263] h258 (fun v266 h267 => some (Ex.panic v266, [], h267)) fun w269 h270 => oFrz w269 h270 fun x264 h265 =>
      oNot x264 fun x268 =>
      (trim true h251.length [x268] h265).map fun p => (Ex.normal, p.1, p.2))
      (fun _ => (trim true h251.length [(.s (.bool true))] h258).map fun p => (Ex.normal, p.1, p.2)))
      (fun _ => (trim true h251.length [(.s (.bool false))] h251).map fun p => (Ex.normal, p.1, p.2))) (ref11_Right_k10 h44 s246))
      ((trim true h44.length [.any] s246.2).map fun p => .inr (Ex.exit 5, p.1, p.2))

def ref11_Right_k12 (x42 : A) (h44 : Heap) : Ex → List A → Heap → Option (Ex × List A × Heap) := fun e280 vs281 h282 =>
      (match e280 with
  | .normal => none
  | .exit i283 => if i283 = 5 then oBuildP [.s (.int .u64 0), .s (.int .u64 0), .s (.int .u64 0), .s (.int .u64 0), .s (.int .u64 0), .s (.int .u64 0), .s (.int .u64 0), .s (.int .u64 0)] [] fun x285 =>
      oFieldA 18 x42 fun x286 =>
      oStore (some 8) x286 x285 h282 fun h287 =>
      (trim true h44.length [(vs281.getD 0 .any), (.s (.int .i64 1))] h287).map fun p => (Ex.normal, p.1, p.2) else if i283 = 0 then (trim true h44.length [(vs281.getD 0 .any), (.s (.int .i64 1))] h282).map fun p => (Ex.normal, p.1, p.2) else (trim true h44.length [(vs281.getD 0 .any), (.s (.int .i64 1))] h282).map fun p => (Ex.exit i283, p.1, p.2)
  | .ret => (trim true h44.length [(vs281.getD 0 .any), (.s (.int .i64 1))] h282).map fun p => (Ex.ret, p.1, p.2)
  | .panic v284 => some (Ex.panic v284, [], h282))

def ref11_Right_k13 (x1 : A) (x42 : A) (objs : Heap) : Ex → List A → Heap → Option (Out × Heap) := fun e291 vs289 h290 =>
      (match e291 with
  | .normal => oFieldA 6 x1 fun x294 =>
      oLoad none x294 h290 fun x295 =>
      oCmp .eql x295 (vs289.getD 1 .any) fun x296 =>
      oGuard x296 true (fun _ => oLoad (some 26) x42 h290 fun x297 =>
      oFieldA 0 x1 fun x298 =>
      oLoad none x298 h290 fun x299 =>
      oFieldA 1 x1 fun x300 =>
      oLoad none x300 h290 fun x301 =>
      oFieldA 2 x1 fun x302 =>
      oLoad (some 2) x302 h290 fun x303 =>
      oFieldA 6 x1 fun x304 =>
      oLoad none x304 h290 fun x305 =>
      oBuildP [.s (.int .u64 0), .s (.int .i64 0), .s (.int .i64 0), .s (.slice none 0 0), .s (.int .i64 0), .s (.slice none 0 0), .s (.int .i64 0), .s (.int .i64 0), .s (.slice none 0 0), .s (.slice none 0 0), .s (.int .u64 0), .s (.int .u64 0), .s (.int .u64 0), .s (.int .u64 0), .s (.int .i64 0), .s (.int .i64 0), .s (.bool false), .s (.int .u64 0), .s (.int .u64 0), .s (.int .u64 0), .s (.int .u64 0), .s (.int .u64 0), .s (.int .u64 0), .s (.int .u64 0), .s (.int .u64 0), .s (.int .u64 0)] [(0, none, x299), (1, none, x301), (2, (some 2), x303), (6, none, x305)] fun x306 =>
      oLend ref11_Same [x297, x306] h290 (fun v309 h310 => finish objs.length (.pan v309) h310) fun w311 h312 => oFrz w311 h312 fun x307 h308 =>
      finish objs.length (.ok x307) h308)
      (fun _ => finish objs.length (.ok (.s (.bool false))) h290)
  | .exit i292 => none
  | .ret => finish objs.length (.ok (vs289.getD 0 .any)) h290
  | .panic v293 => finish objs.length (.pan v293) h290)

def ref11_Right_k14 (objs : Heap) (x1 : A) : Ex → List A → Heap → Option (Out × Heap) := fun e38 vs36 h37 =>
      (match e38 with
  | .normal => oCond (vs36.getD 0 .any) (finish objs.length (.ok (.s (.bool false))) h37)
      (oLoad (some 26) x1 h37 fun x41 =>
      oNew none (some 26) (.agg [.s (.int .u64 0), .s (.int .i64 0), .s (.int .i64 0), .s (.slice none 0 0), .s (.int .i64 0), .s (.slice none 0 0), .s (.int .i64 0), .s (.int .i64 0), .s (.slice none 0 0), .s (.slice none 0 0), .s (.int .u64 0), .s (.int .u64 0), .s (.int .u64 0), .s (.int .u64 0), .s (.int .i64 0), .s (.int .i64 0), .s (.bool false), .s (.int .u64 0), .s (.int .u64 0), .s (.int .u64 0), .s (.int .u64 0), .s (.int .u64 0), .s (.int .u64 0), .s (.int .u64 0), .s (.int .u64 0), .s (.int .u64 0)]) h37 fun x42 h43 =>
      oStore (some 26) x42 x41 h43 fun h44 =>
      oJoin (oFieldA 1 x1 fun x45 =>
      oLoad none x45 h44 fun x46 =>
      oCmp .eql x46 (.s (.int .i64 1)) fun x47 =>
      oCond x47 (oFieldA 7 x42 fun x48 =>
      oStore none x48 (.s (.int .i64 0)) h44 fun h49 =>
      oFieldA 8 x42 fun x50 =>
      oStore none x50 (.s (.slice none 0 0)) h49 fun h51 =>
      oFieldA 6 x1 fun x52 =>
      oLoad none x52 h51 fun x53 =>
      oFieldA 8 x1 fun x54 =>
      oLoad none x54 h51 fun x55 =>
      oLen x55 fun x56 =>
      oLoop (ref11_Right_l2 x56 x55 x1 h51) ([(.s (.int .i64 1)), (.s (.int .i64 0))], h51) (ref11_Right_k4 x1 h44 x53))
      (oCmp .eql x46 (.s (.int .i64 2)) fun x130 =>
      oCond x130 (oFieldA 10 x1 fun x131 =>
      oLoad (some 4) x131 h44 fun x132 =>
      oLoop (ref11_Right_l5 x132 h44) ([(.s (.int .i64 0))], h44) (ref11_Right_k7 x1 h44 x42))
      (oCmp .eql x46 (.s (.int .i64 3)) fun x187 =>
      oCond x187 (oJoin (oFieldA 4 x1 fun x188 =>
      oLoadD h44.length [] (some 2) x188 h44 fun x189 h190 =>
      oCallF h44.length [] ref11_clean [x189] h190 fun w205 h206 => oFrz w205 h206 fun x191 h192 =>
      oNot x191 fun x193 =>
      oGuard x193 false (fun _ => oFieldA 17 x1 fun x194 =>
      oLoadD h44.length [] none x194 h192 fun x195 h196 =>
      oCallF h44.length [] ref01_Canon [x195] h196 fun w203 h204 => oFrz w203 h204 fun x197 h198 =>
      oFieldA 17 x1 fun x199 =>
      oLoadD h44.length [] none x199 h198 fun x200 h201 =>
      oCmp .neq x197 x200 fun x202 =>
      (trim true h44.length [x202] h201).map fun p => (Ex.normal, p.1, p.2))
      (fun _ => (trim true h44.length [(.s (.bool true))] h192).map fun p => (Ex.normal, p.1, p.2))) (ref11_Right_k8 h44 x42))
      (oCmp .eql x46 (.s (.int .i64 4)) fun x217 =>
      oCond x217 (oFieldA 9 x1 fun x218 =>
      oLoad none x218 h44 fun x219 =>
      oLen x219 fun x220 =>
      oAr .quo x220 (.s (.int .i64 32)) fun x221 =>
      oAr .add (.s (.int .i64 1)) x221 fun x222 =>
      oJoin (oFieldA 9 x1 fun x223 =>
      oLoad none x223 h44 fun x224 =>
      oLen x224 fun x225 =>
      oCmp .lss x225 (.s (.int .i64 32)) fun x226 =>
      oGuard x226 false (fun _ => oFieldA 9 x1 fun x227 =>
      oLoad none x227 h44 fun x228 =>
      oLen x228 fun x229 =>
      oCmp .gtr x229 (.s (.int .i64 128)) fun x230 =>
      oGuard x230 false (fun _ => oFieldA 9 x1 fun x231 =>
      oLoad none x231 h44 fun x232 =>
      oLen x232 fun x233 =>
      oAr .rem x233 (.s (.int .i64 32)) fun x234 =>
      oCmp .neq x234 (.s (.int .i64 0)) fun x235 =>
      (trim true h44.length [x235] h44).map fun p => (Ex.normal, p.1, p.2))
      (fun _ => (trim true h44.length [(.s (.bool true))] h44).map fun p => (Ex.normal, p.1, p.2)))
      (fun _ => (trim true h44.length [(.s (.bool true))] h44).map fun p => (Ex.normal, p.1, p.2))) (ref11_Right_k9 h44 x222 x42))
      (oCmp .eql x46 (.s (.int .i64 5)) fun x243 =>
      oCond x243 (oFieldA 18 x1 fun x244 =>
      oLoad (some 8) x244 h44 fun x245 =>
      oLoop (ref11_Right_l11 x245 h44) ([(.s (.int .i64 0))], h44) (ref11_Right_k12 x42 h44))
      (oCmp .eql x46 (.s (.int .i64 6)) fun x288 =>
      oCond x288 ((trim true h44.length [(.s (.bool false)), (.s (.int .i64 1))] h44).map fun p => (Ex.normal, p.1, p.2))
      ((trim true h44.length [(.s (.bool false)), (.s (.int .i64 1))] h44).map fun p => (Ex.ret, p.1, p.2)))))))) (ref11_Right_k13 x1 x42 objs))
  | .exit i39 => none
  | .ret => finish objs.length (.ok (.s (.bool false))) h37
  | .panic v40 => finish objs.length (.pan v40) h37)

/-- bailey/baileyref11.Right -/
def ref11_Right : CallFn := fun args objs =>
match args with
| [a0] =>
oNew none (some 26) a0 objs fun x1 h2 =>
      oJoin (oFieldA 0 x1 fun x3 =>
      oLoad none x3 h2 fun x4 =>
      oLend ref11_id [x4] h2 (fun v7 h8 => some (Ex.panic v7, [], h8)) fun w34 h35 => oFrz w34 h35 fun x5 h6 =>
      oNot x5 fun x9 =>
      oGuard x9 false (fun _ => oFieldA 2 x1 fun x10 =>
      oLoad (some 2) x10 h6 fun x11 =>
      oLend ref09_Right [x11] h6 (fun v14 h15 => some (Ex.panic v14, [], h15)) fun w32 h33 => oFrz w32 h33 fun x12 h13 =>
      oNot x12 fun x16 =>
      oGuard x16 false (fun _ => oFieldA 1 x1 fun x17 =>
      oLoad none x17 h13 fun x18 =>
      oCmp .neq x18 (.s (.int .i64 2)) fun x19 =>
      oGuard x19 true (fun _ => oFieldA 1 x1 fun x20 =>
      oLoad none x20 h13 fun x21 =>
      oCmp .neq x21 (.s (.int .i64 3)) fun x22 =>
      oGuard x22 true (fun _ => oFieldA 2 x1 fun x23 =>
      oLoad (some 2) x23 h13 fun x24 =>
      oLend ref10_Pure [x24] h13 (fun v27 h28 => some (Ex.panic v27, [], h28)) fun w30 h31 => oFrz w30 h31 fun x25 h26 =>
      oNot x25 fun x29 =>
      (trim true h2.length [x29] h26).map fun p => (Ex.normal, p.1, p.2))
      (fun _ => (trim true h2.length [(.s (.bool false))] h13).map fun p => (Ex.normal, p.1, p.2)))
      (fun _ => (trim true h2.length [(.s (.bool false))] h13).map fun p => (Ex.normal, p.1, p.2)))
      (fun _ => (trim true h2.length [(.s (.bool true))] h13).map fun p => (Ex.normal, p.1, p.2)))
      (fun _ => (trim true h2.length [(.s (.bool true))] h6).map fun p => (Ex.normal, p.1, p.2))) (ref11_Right_k14 objs x1)
| _ => none

def ref13_Find_l1 (x3 : A) (a0 : A) (a1 : A) (x1 : A) (h2 : Heap) : List A × Heap → Option ((List A × Heap) ⊕ (Ex × List A × Heap)) := fun s4 =>
      oCmp .lss (s4.1.getD 0 .any) x3 fun x5 =>
      oCond x5 (oIdxA 26 a0 (s4.1.getD 0 .any) fun x6 =>
      oLoad (some 26) x6 s4.2 fun x7 =>
      oNew none (some 26) (.agg [.s (.int .u64 0), .s (.int .i64 0), .s (.int .i64 0), .s (.slice none 0 0), .s (.int .i64 0), .s (.slice none 0 0), .s (.int .i64 0), .s (.int .i64 0), .s (.slice none 0 0), .s (.slice none 0 0), .s (.int .u64 0), .s (.int .u64 0), .s (.int .u64 0), .s (.int .u64 0), .s (.int .i64 0), .s (.int .i64 0), .s (.bool false), .s (.int .u64 0), .s (.int .u64 0), .s (.int .u64 0), .s (.int .u64 0), .s (.int .u64 0), .s (.int .u64 0), .s (.int .u64 0), .s (.int .u64 0), .s (.int .u64 0)]) s4.2 fun x8 h9 =>
      oStore (some 26) x8 x7 h9 fun h10 =>
      oFieldA 0 x8 fun x11 =>
      oLoad none x11 h10 fun x12 =>
      oCmp .eql x12 a1 fun x13 =>
      oCond x13 (oLoad (some 26) x8 h10 fun x14 =>
      oStore (some 26) x1 x14 h10 fun h15 =>
      (trim true h2.length [(.s (.bool true))] h15).map fun p => .inr (Ex.ret, p.1, p.2))
      (oAr .add (s4.1.getD 0 .any) (.s (.int .i64 1)) fun x16 =>
      (trim true h2.length [x16] h10).map .inl))
      ((trim true h2.length [.any] s4.2).map fun p => .inr (Ex.exit 0, p.1, p.2))

def ref13_Find_k2 (x1 : A) (objs : Heap) : Ex → List A → Heap → Option (Out × Heap) := fun e17 vs18 h19 =>
      (match e17 with
  | .normal => none
  | .exit i20 => if i20 = 0 then oBuildP [.s (.int .u64 0), .s (.int .i64 0), .s (.int .i64 0), .s (.slice none 0 0), .s (.int .i64 0), .s (.slice none 0 0), .s (.int .i64 0), .s (.int .i64 0), .s (.slice none 0 0), .s (.slice none 0 0), .s (.int .u64 0), .s (.int .u64 0), .s (.int .u64 0), .s (.int .u64 0), .s (.int .i64 0), .s (.int .i64 0), .s (.bool false), .s (.int .u64 0), .s (.int .u64 0), .s (.int .u64 0), .s (.int .u64 0), .s (.int .u64 0), .s (.int .u64 0), .s (.int .u64 0), .s (.int .u64 0), .s (.int .u64 0)] [] fun x22 =>
      oStore (some 26) x1 x22 h19 fun h23 =>
      oLoad (some 26) x1 h23 fun r24 =>
      finish objs.length (.ok (.tup [r24, (.s (.bool false))])) h23 else none
  | .ret => oLoad (some 26) x1 h19 fun r25 =>
      finish objs.length (.ok (.tup [r25, (vs18.getD 0 .any)])) h19
  | .panic v21 => finish objs.length (.pan v21) h19)

/-- bailey/baileyref13.Find -/
def ref13_Find : CallFn := fun args objs =>
match args with
| [a0, a1] =>
oNew none (some 26) (.agg [.s (.int .u64 0), .s (.int .i64 0), .s (.int .i64 0), .s (.slice none 0 0), .s (.int .i64 0), .s (.slice none 0 0), .s (.int .i64 0), .s (.int .i64 0), .s (.slice none 0 0), .s (.slice none 0 0), .s (.int .u64 0), .s (.int .u64 0), .s (.int .u64 0), .s (.int .u64 0), .s (.int .i64 0), .s (.int .i64 0), .s (.bool false), .s (.int .u64 0), .s (.int .u64 0), .s (.int .u64 0), .s (.int .u64 0), .s (.int .u64 0), .s (.int .u64 0), .s (.int .u64 0), .s (.int .u64 0), .s (.int .u64 0)]) objs fun x1 h2 =>
      oLen a0 fun x3 =>
      oLoop (ref13_Find_l1 x3 a0 a1 x1 h2) ([(.s (.int .i64 0))], h2) (ref13_Find_k2 x1 objs)
| _ => none

def ref13_Fits_k1 (objs : Heap) (x13 : A) (x1 : A) : Ex → List A → Heap → Option (Out × Heap) := fun e24 vs22 h23 =>
      (match e24 with
  | .normal => oCond (vs22.getD 0 .any) (finish objs.length (.ok (.s (.bool false))) h23)
      (oFieldA 1 x13 fun x27 =>
      oLoad none x27 h23 fun x28 =>
      oCmp .neq x28 (.s (.int .i64 1)) fun x29 =>
      oGuard x29 false (fun _ => oFieldA 0 x13 fun x30 =>
      oLoad none x30 h23 fun x31 =>
      oAr .quo x31 (.s (.int .u64 64)) fun x32 =>
      oFieldA 0 x1 fun x33 =>
      oLoad none x33 h23 fun x34 =>
      oCmp .eql x32 x34 fun x35 =>
      finish objs.length (.ok x35) h23)
      (fun _ => finish objs.length (.ok (.s (.bool true))) h23))
  | .exit i25 => none
  | .ret => finish objs.length (.ok (.s (.bool false))) h23
  | .panic v26 => finish objs.length (.pan v26) h23)

/-- bailey/baileyref13.Fits -/
def ref13_Fits : CallFn := fun args objs =>
match args with
| [a0, a1, a2] =>
oNew none (some 26) a1 objs fun x1 h2 =>
      oNew none (some 2) a2 h2 fun x3 h4 =>
      oFieldA 0 x3 fun x5 =>
      oLoad none x5 h4 fun x6 =>
      oLend ref13_Find [a0, x6] h4 (fun v9 h10 => finish objs.length (.pan v9) h10) fun w36 h37 => oFrz w36 h37 fun x7 h8 =>
      oExtract 0 x7 fun x11 =>
      oExtract 1 x7 fun x12 =>
      oNew none (some 26) (.agg [.s (.int .u64 0), .s (.int .i64 0), .s (.int .i64 0), .s (.slice none 0 0), .s (.int .i64 0), .s (.slice none 0 0), .s (.int .i64 0), .s (.int .i64 0), .s (.slice none 0 0), .s (.slice none 0 0), .s (.int .u64 0), .s (.int .u64 0), .s (.int .u64 0), .s (.int .u64 0), .s (.int .i64 0), .s (.int .i64 0), .s (.bool false), .s (.int .u64 0), .s (.int .u64 0), .s (.int .u64 0), .s (.int .u64 0), .s (.int .u64 0), .s (.int .u64 0), .s (.int .u64 0), .s (.int .u64 0), .s (.int .u64 0)]) h8 fun x13 h14 =>
      oStore (some 26) x13 x11 h14 fun h15 =>
      oJoin (oNot x12 fun x16 =>
      oGuard x16 false (fun _ => oFieldA 6 x13 fun x17 =>
      oLoad none x17 h15 fun x18 =>
      oFieldA 1 x3 fun x19 =>
      oLoad none x19 h15 fun x20 =>
      oCmp .neq x18 x20 fun x21 =>
      (trim true h15.length [x21] h15).map fun p => (Ex.normal, p.1, p.2))
      (fun _ => (trim true h15.length [(.s (.bool true))] h15).map fun p => (Ex.normal, p.1, p.2))) (ref13_Fits_k1 objs x13 x1)
| _ => none

/-- bailey/baileyref13.Above -/
def ref13_Above_step (self : CallFn) : CallFn := fun args objs =>
match args with
| [a0] =>
oCmp .eql a0 (.s (.int .u64 0)) fun x1 =>
      oCond x1 (oNewSlice none 1 (asRows none []) objs fun x2 h3 =>
      finish objs.length (.ok x2) h3)
      (oNewSlice none 1 (asRows none [a0]) objs fun x4 h5 =>
      oAr .quo a0 (.s (.int .u64 64)) fun x6 =>
      oLend self [x6] h5 (fun v9 h10 => finish objs.length (.pan v9) h10) fun w13 h14 => oFrz w13 h14 fun x7 h8 =>
      oAppend none 1 8 x4 x7 h8 fun x11 h12 =>
      finish objs.length (.ok x11) h12)
| _ => none

def ref13_Above : Nat → CallFn
| 0 => fun _ _ => none
| n + 1 => ref13_Above_step (ref13_Above n)

def ref13_Given_k1 (x19 : A) (s16 : List A × Heap) : Ex → List A → Heap → Option (Ex × List A × Heap) := fun e27 vs25 h26 =>
      (match e27 with
  | .normal => oCond (vs25.getD 0 .any) (oAr .rem x19 (.s (.int .u64 64)) fun x30 =>
      oConv .i64 x30 fun x31 =>
      (trim true s16.2.length [x31] h26).map fun p => (Ex.normal, p.1, p.2))
      ((trim true s16.2.length [(s16.1.getD 0 .any)] h26).map fun p => (Ex.normal, p.1, p.2))
  | .exit i28 => if i28 = 3 then (trim true s16.2.length [(s16.1.getD 0 .any)] h26).map fun p => (Ex.normal, p.1, p.2) else (trim true s16.2.length [(s16.1.getD 0 .any)] h26).map fun p => (Ex.exit i28, p.1, p.2)
  | .ret => (trim true s16.2.length [(s16.1.getD 0 .any)] h26).map fun p => (Ex.ret, p.1, p.2)
  | .panic v29 => some (Ex.panic v29, [], h26))

def ref13_Given_k2 (s16 : List A × Heap) (h12 : Heap) : Ex → List A → Heap → Option ((List A × Heap) ⊕ (Ex × List A × Heap)) := fun e34 vs32 h33 =>
      (match e34 with
  | .normal => oAr .add (s16.1.getD 1 .any) (.s (.int .i64 1)) fun x37 =>
      (trim true h12.length [(vs32.getD 0 .any), x37] h33).map .inl
  | .exit i35 => (trim true h12.length [(vs32.getD 0 .any)] h33).map fun p => .inr (Ex.exit i35, p.1, p.2)
  | .ret => (trim true h12.length [(vs32.getD 0 .any)] h33).map fun p => .inr (Ex.ret, p.1, p.2)
  | .panic v36 => some (.inr (Ex.panic v36, [.any], h33)))

def ref13_Given_l3 (x15 : A) (x11 : A) (a1 : A) (h12 : Heap) : List A × Heap → Option ((List A × Heap) ⊕ (Ex × List A × Heap)) := fun s16 =>
      oCmp .lss (s16.1.getD 1 .any) x15 fun x17 =>
      oCond x17 (oJoin (oIdxA 1 x11 (s16.1.getD 1 .any) fun x18 =>
      oLoad none x18 s16.2 fun x19 =>
      oJoin (oAr .quo x19 (.s (.int .u64 64)) fun x20 =>
      oCmp .eql x20 a1 fun x21 =>
      oGuard x21 true (fun _ => oAr .rem x19 (.s (.int .u64 64)) fun x22 =>
      oConv .i64 x22 fun x23 =>
      oCmp .gtr x23 (s16.1.getD 0 .any) fun x24 =>
      (trim true s16.2.length [x24] s16.2).map fun p => (Ex.normal, p.1, p.2))
      (fun _ => (trim true s16.2.length [(.s (.bool false))] s16.2).map fun p => (Ex.normal, p.1, p.2))) (ref13_Given_k1 x19 s16)) (ref13_Given_k2 s16 h12))
      ((trim true h12.length [(s16.1.getD 0 .any)] s16.2).map fun p => .inr (Ex.exit 2, p.1, p.2))

def ref13_Given_k4 (s2 : List A × Heap) (objs : Heap) : Ex → List A → Heap → Option ((List A × Heap) ⊕ (Ex × List A × Heap)) := fun e38 vs39 h40 =>
      (match e38 with
  | .normal => none
  | .exit i41 => if i41 = 2 then oAr .add (s2.1.getD 1 .any) (.s (.int .i64 1)) fun x43 =>
      (trim true objs.length [(vs39.getD 0 .any), x43] h40).map .inl else if i41 = 1 then oAr .add (s2.1.getD 1 .any) (.s (.int .i64 1)) fun x44 =>
      (trim true objs.length [(vs39.getD 0 .any), x44] h40).map .inl else (trim true objs.length [(vs39.getD 0 .any)] h40).map fun p => .inr (Ex.exit i41, p.1, p.2)
  | .ret => (trim true objs.length [(vs39.getD 0 .any)] h40).map fun p => .inr (Ex.ret, p.1, p.2)
  | .panic v42 => some (.inr (Ex.panic v42, [.any], h40)))

def ref13_Given_l5 (x1 : A) (a0 : A) (a1 : A) (objs : Heap) : List A × Heap → Option ((List A × Heap) ⊕ (Ex × List A × Heap)) := fun s2 =>
      oCmp .lss (s2.1.getD 1 .any) x1 fun x3 =>
      oCond x3 (oIdxA 26 a0 (s2.1.getD 1 .any) fun x4 =>
      oLoad (some 26) x4 s2.2 fun x5 =>
      oNew none (some 26) (.agg [.s (.int .u64 0), .s (.int .i64 0), .s (.int .i64 0), .s (.slice none 0 0), .s (.int .i64 0), .s (.slice none 0 0), .s (.int .i64 0), .s (.int .i64 0), .s (.slice none 0 0), .s (.slice none 0 0), .s (.int .u64 0), .s (.int .u64 0), .s (.int .u64 0), .s (.int .u64 0), .s (.int .i64 0), .s (.int .i64 0), .s (.bool false), .s (.int .u64 0), .s (.int .u64 0), .s (.int .u64 0), .s (.int .u64 0), .s (.int .u64 0), .s (.int .u64 0), .s (.int .u64 0), .s (.int .u64 0), .s (.int .u64 0)]) s2.2 fun x6 h7 =>
      oStore (some 26) x6 x5 h7 fun h8 =>
      oFieldA 0 x6 fun x9 =>
      oLoad none x9 h8 fun x10 =>
      oLend (ref13_Above big) [x10] h8 (fun v13 h14 => some (.inr (Ex.panic v13, [.any], h14))) fun w45 h46 => oFrz w45 h46 fun x11 h12 =>
      oLen x11 fun x15 =>
      oLoop (ref13_Given_l3 x15 x11 a1 h12) ([(s2.1.getD 0 .any), (.s (.int .i64 0))], h12) (ref13_Given_k4 s2 objs))
      ((trim true objs.length [(s2.1.getD 0 .any)] s2.2).map fun p => .inr (Ex.exit 0, p.1, p.2))

def ref13_Given_k6 (objs : Heap) : Ex → List A → Heap → Option (Out × Heap) := fun e47 vs48 h49 =>
      (match e47 with
  | .normal => none
  | .exit i50 => if i50 = 0 then finish objs.length (.ok (vs48.getD 0 .any)) h49 else none
  | .ret => finish objs.length (.ok (.s (.int .i64 0))) h49
  | .panic v51 => finish objs.length (.pan v51) h49)

/-- bailey/baileyref13.Given -/
def ref13_Given : CallFn := fun args objs =>
match args with
| [a0, a1] =>
oLen a0 fun x1 =>
      oLoop (ref13_Given_l5 x1 a0 a1 objs) ([(.s (.int .i64 0)), (.s (.int .i64 0))], objs) (ref13_Given_k6 objs)
| _ => none

def ref13_Sound_l1 (x69 : A) (x68 : A) (x35 : A) (a0 : A) (h63 : Heap) : List A × Heap → Option ((List A × Heap) ⊕ (Ex × List A × Heap)) := fun s70 =>
      oCmp .lss (s70.1.getD 0 .any) x69 fun x71 =>
      oCond x71 (oIdxA 2 x68 (s70.1.getD 0 .any) fun x72 =>
      oLoad (some 2) x72 s70.2 fun x73 =>
      oNew none (some 2) (.agg [.s (.int .u64 0), .s (.int .i64 0)]) s70.2 fun x74 h75 =>
      oStore (some 2) x74 x73 h75 fun h76 =>
      oLoad (some 26) x35 h76 fun x77 =>
      oLoad (some 2) x74 h76 fun x78 =>
      oLend ref13_Fits [a0, x77, x78] h76 (fun v81 h82 => some (.inr (Ex.panic v81, [.any], h82))) fun w85 h86 => oFrz w85 h86 fun x79 h80 =>
      oNot x79 fun x83 =>
      oCond x83 ((trim true h63.length [(.s (.bool false))] h80).map fun p => .inr (Ex.ret, p.1, p.2))
      (oAr .add (s70.1.getD 0 .any) (.s (.int .i64 1)) fun x84 =>
      (trim true h63.length [x84] h80).map .inl))
      ((trim true h63.length [.any] s70.2).map fun p => .inr (Ex.exit 2, p.1, p.2))

def ref13_Sound_k2 (h26 : Heap) (s31 : List A × Heap) (vs88 : List A) : Ex → List A → Heap → Option ((List A × Heap) ⊕ (Ex × List A × Heap)) := fun e109 vs107 h108 =>
      (match e109 with
  | .normal => oCond (vs107.getD 0 .any) ((trim true h26.length [(.s (.bool false))] h108).map fun p => .inr (Ex.ret, p.1, p.2))
      (oAr .add (s31.1.getD 0 .any) (.s (.int .i64 1)) fun x112 =>
      (trim true h26.length [x112] h108).map .inl)
  | .exit i110 => if i110 = 1 then oAr .add (s31.1.getD 0 .any) (.s (.int .i64 1)) fun x113 =>
      (trim true h26.length [x113] h108).map .inl else (trim true h26.length [(vs88.getD 0 .any)] h108).map fun p => .inr (Ex.exit i110, p.1, p.2)
  | .ret => (trim true h26.length [(vs88.getD 0 .any)] h108).map fun p => .inr (Ex.ret, p.1, p.2)
  | .panic v111 => some (.inr (Ex.panic v111, [.any], h108)))

def ref13_Sound_k3 (x35 : A) (a0 : A) (h26 : Heap) (s31 : List A × Heap) : Ex → List A → Heap → Option ((List A × Heap) ⊕ (Ex × List A × Heap)) := fun e87 vs88 h89 =>
      (match e87 with
  | .normal => none
  | .exit i90 => if i90 = 2 then oJoin (oFieldA 1 x35 fun x92 =>
      oLoadD h89.length [] none x92 h89 fun x93 h94 =>
      oCmp .eql x93 (.s (.int .i64 1)) fun x95 =>
      oGuard x95 true (fun _ => oFieldA 0 x35 fun x96 =>
      oLoadD h89.length [] none x96 h94 fun x97 h98 =>
      oCallF h89.length [] ref13_Given [a0, x97] h98 fun w105 h106 => oFrz w105 h106 fun x99 h100 =>
      oFieldA 7 x35 fun x101 =>
      oLoadD h89.length [] none x101 h100 fun x102 h103 =>
      oCmp .gtr x99 x102 fun x104 =>
      (trim true h89.length [x104] h103).map fun p => (Ex.normal, p.1, p.2))
      (fun _ => (trim true h89.length [(.s (.bool false))] h94).map fun p => (Ex.normal, p.1, p.2))) (ref13_Sound_k2 h26 s31 vs88) else if i90 = 1 then oAr .add (s31.1.getD 0 .any) (.s (.int .i64 1)) fun x114 =>
      (trim true h26.length [x114] h89).map .inl else (trim true h26.length [(vs88.getD 0 .any)] h89).map fun p => .inr (Ex.exit i90, p.1, p.2)
  | .ret => (trim true h26.length [(vs88.getD 0 .any)] h89).map fun p => .inr (Ex.ret, p.1, p.2)
  | .panic v91 => some (.inr (Ex.panic v91, [.any], h89)))

def ref13_Sound_k4 (h26 : Heap) (x35 : A) (a0 : A) (s31 : List A × Heap) : Ex → List A → Heap → Option ((List A × Heap) ⊕ (Ex × List A × Heap)) := fun e64 vs62 h63 =>
      (match e64 with
  | .normal => oCond (vs62.getD 0 .any) ((trim true h26.length [(.s (.bool false))] h63).map fun p => .inr (Ex.ret, p.1, p.2))
      (oFieldA 8 x35 fun x67 =>
      oLoad none x67 h63 fun x68 =>
      oLen x68 fun x69 =>
      oLoop (ref13_Sound_l1 x69 x68 x35 a0 h63) ([(.s (.int .i64 0))], h63) (ref13_Sound_k3 x35 a0 h26 s31))
  | .exit i65 => if i65 = 1 then oAr .add (s31.1.getD 0 .any) (.s (.int .i64 1)) fun x115 =>
      (trim true h26.length [x115] h63).map .inl else (trim true h26.length [.any] h63).map fun p => .inr (Ex.exit i65, p.1, p.2)
  | .ret => (trim true h26.length [.any] h63).map fun p => .inr (Ex.ret, p.1, p.2)
  | .panic v66 => some (.inr (Ex.panic v66, [.any], h63)))

def ref13_Sound_l5 (x30 : A) (a0 : A) (h26 : Heap) : List A × Heap → Option ((List A × Heap) ⊕ (Ex × List A × Heap)) := fun s31 =>
      oCmp .lss (s31.1.getD 0 .any) x30 fun x32 =>
      oCond x32 (oIdxA 26 a0 (s31.1.getD 0 .any) fun x33 =>
      oLoad (some 26) x33 s31.2 fun x34 =>
      oNew none (some 26) (.agg [.s (.int .u64 0), .s (.int .i64 0), .s (.int .i64 0), .s (.slice none 0 0), .s (.int .i64 0), .s (.slice none 0 0), .s (.int .i64 0), .s (.int .i64 0), .s (.slice none 0 0), .s (.slice none 0 0), .s (.int .u64 0), .s (.int .u64 0), .s (.int .u64 0), .s (.int .u64 0), .s (.int .i64 0), .s (.int .i64 0), .s (.bool false), .s (.int .u64 0), .s (.int .u64 0), .s (.int .u64 0), .s (.int .u64 0), .s (.int .u64 0), .s (.int .u64 0), .s (.int .u64 0), .s (.int .u64 0), .s (.int .u64 0)]) s31.2 fun x35 h36 =>
      oStore (some 26) x35 x34 h36 fun h37 =>
      oFieldA 0 x35 fun x38 =>
      oLoad none x38 h37 fun x39 =>
      oLend ref13_Refs [a0, x39] h37 (fun v42 h43 => some (.inr (Ex.panic v42, [.any], h43))) fun w116 h117 => oFrz w116 h117 fun x40 h41 =>
      oJoin (oLoad (some 26) x35 h41 fun x44 =>
      oLend ref11_Right [x44] h41 (fun v47 h48 => some (Ex.panic v47, [], h48)) fun w60 h61 => oFrz w60 h61 fun x45 h46 =>
      oNot x45 fun x49 =>
      oGuard x49 false (fun _ => oCmp .gtr (s31.1.getD 0 .any) (.s (.int .i64 0)) fun x50 =>
      oGuard x50 true (fun _ => oCmp .lss x40 (.s (.int .i64 1)) fun x51 =>
      oGuard x51 false (fun _ => oFieldA 1 x35 fun x52 =>
      oLoad none x52 h46 fun x53 =>
      oCmp .eql x53 (.s (.int .i64 1)) fun x54 =>
      oGuard x54 true (fun _ => oCmp .gtr x40 (.s (.int .i64 1)) fun x55 =>
      (trim true h41.length [x55] h46).map fun p => (Ex.normal, p.1, p.2))
      (fun _ => (trim true h41.length [(.s (.bool false))] h46).map fun p => (Ex.normal, p.1, p.2)))
      (fun _ => (trim true h41.length [(.s (.bool true))] h46).map fun p => (Ex.normal, p.1, p.2)))
      (fun _ => oFieldA 1 x35 fun x56 =>
      oLoad none x56 h46 fun x57 =>
      oCmp .eql x57 (.s (.int .i64 1)) fun x58 =>
      oGuard x58 true (fun _ => oCmp .gtr x40 (.s (.int .i64 1)) fun x59 =>
      (trim true h41.length [x59] h46).map fun p => (Ex.normal, p.1, p.2))
      (fun _ => (trim true h41.length [(.s (.bool false))] h46).map fun p => (Ex.normal, p.1, p.2))))
      (fun _ => (trim true h41.length [(.s (.bool true))] h46).map fun p => (Ex.normal, p.1, p.2))) (ref13_Sound_k4 h26 x35 a0 s31))
      ((trim true h26.length [.any] s31.2).map fun p => .inr (Ex.exit 0, p.1, p.2))

def ref13_Sound_k6 (objs : Heap) : Ex → List A → Heap → Option (Out × Heap) := fun e118 vs119 h120 =>
      (match e118 with
  | .normal => none
  | .exit i121 => if i121 = 0 then finish objs.length (.ok (.s (.bool true))) h120 else none
  | .ret => finish objs.length (.ok (vs119.getD 0 .any)) h120
  | .panic v122 => finish objs.length (.pan v122) h120)

def ref13_Sound_k7 (objs : Heap) (a0 : A) : Ex → List A → Heap → Option (Out × Heap) := fun e27 vs25 h26 =>
      (match e27 with
  | .normal => oCond (vs25.getD 0 .any) (finish objs.length (.ok (.s (.bool false))) h26)
      (oLen a0 fun x30 =>
      oLoop (ref13_Sound_l5 x30 a0 h26) ([(.s (.int .i64 0))], h26) (ref13_Sound_k6 objs))
  | .exit i28 => none
  | .ret => finish objs.length (.ok (.s (.bool false))) h26
  | .panic v29 => finish objs.length (.pan v29) h26)

/-- bailey/baileyref13.Sound -/
def ref13_Sound : CallFn := fun args objs =>
match args with
| [a0] =>
oJoin (oLend ref13_Graph [a0] objs (fun v3 h4 => some (Ex.panic v3, [], h4)) fun w23 h24 => oFrz w23 h24 fun x1 h2 =>
      oNot x1 fun x5 =>
      oGuard x5 false (fun _ => oLen a0 fun x6 =>
      oCmp .eql x6 (.s (.int .i64 0)) fun x7 =>
      oGuard x7 false (fun _ => oIdxA 26 a0 (.s (.int .i64 0)) fun x8 =>
      oFieldA 0 x8 fun x9 =>
      oLoad none x9 h2 fun x10 =>
      oCmp .neq x10 (.s (.int .u64 1)) fun x11 =>
      oGuard x11 false (fun _ => oIdxA 26 a0 (.s (.int .i64 0)) fun x12 =>
      oFieldA 1 x12 fun x13 =>
      oLoad none x13 h2 fun x14 =>
      oCmp .neq x14 (.s (.int .i64 1)) fun x15 =>
      oGuard x15 false (fun _ => oLend ref13_Refs [a0, (.s (.int .u64 1))] h2 (fun v18 h19 => some (Ex.panic v18, [], h19)) fun w21 h22 => oFrz w21 h22 fun x16 h17 =>
      oCmp .gtr x16 (.s (.int .i64 0)) fun x20 =>
      (trim true objs.length [x20] h17).map fun p => (Ex.normal, p.1, p.2))
      (fun _ => (trim true objs.length [(.s (.bool true))] h2).map fun p => (Ex.normal, p.1, p.2)))
      (fun _ => (trim true objs.length [(.s (.bool true))] h2).map fun p => (Ex.normal, p.1, p.2)))
      (fun _ => (trim true objs.length [(.s (.bool true))] h2).map fun p => (Ex.normal, p.1, p.2)))
      (fun _ => (trim true objs.length [(.s (.bool true))] h2).map fun p => (Ex.normal, p.1, p.2))) (ref13_Sound_k7 objs a0)
| _ => none

def ref24_Hidden_l1 (x3 : A) (a1 : A) (x1 : A) (h2 : Heap) : List A × Heap → Option ((List A × Heap) ⊕ (Ex × List A × Heap)) := fun s4 =>
      oCmp .lss (s4.1.getD 0 .any) x3 fun x5 =>
      oCond x5 (oIdxA 1 a1 (s4.1.getD 0 .any) fun x6 =>
      oLoad none x6 s4.2 fun x7 =>
      oFieldA 2 x1 fun x8 =>
      oLoad (some 2) x8 s4.2 fun x9 =>
      oLend ref09_Level [x9, x7] s4.2 (fun v12 h13 => some (.inr (Ex.panic v12, [.any], h13))) fun w16 h17 => oFrz w16 h17 fun x10 h11 =>
      oCmp .gtr x10 (.s (.int .i64 3)) fun x14 =>
      oCond x14 ((trim true h2.length [(.s (.bool true))] h11).map fun p => .inr (Ex.ret, p.1, p.2))
      (oAr .add (s4.1.getD 0 .any) (.s (.int .i64 1)) fun x15 =>
      (trim true h2.length [x15] h11).map .inl))
      ((trim true h2.length [.any] s4.2).map fun p => .inr (Ex.exit 0, p.1, p.2))

def ref24_Hidden_k2 (objs : Heap) : Ex → List A → Heap → Option (Out × Heap) := fun e18 vs19 h20 =>
      (match e18 with
  | .normal => none
  | .exit i21 => if i21 = 0 then finish objs.length (.ok (.s (.bool false))) h20 else none
  | .ret => finish objs.length (.ok (vs19.getD 0 .any)) h20
  | .panic v22 => finish objs.length (.pan v22) h20)

/-- bailey/baileyref24.Hidden -/
def ref24_Hidden : CallFn := fun args objs =>
match args with
| [a0, a1] =>
oNew none (some 26) a0 objs fun x1 h2 =>
      oLen a1 fun x3 =>
      oLoop (ref24_Hidden_l1 x3 a1 x1 h2) ([(.s (.int .i64 0))], h2) (ref24_Hidden_k2 objs)
| _ => none

def ref24_Owned_l1 (x9 : A) (a1 : A) (x6 : A) (h8 : Heap) : List A × Heap → Option ((List A × Heap) ⊕ (Ex × List A × Heap)) := fun s10 =>
      oCmp .lss (s10.1.getD 0 .any) x9 fun x11 =>
      oCond x11 (oIdxA 1 a1 (s10.1.getD 0 .any) fun x12 =>
      oLoad none x12 s10.2 fun x13 =>
      oFieldA 2 x6 fun x14 =>
      oLoad (some 2) x14 s10.2 fun x15 =>
      oLend ref09_Level [x15, x13] s10.2 (fun v18 h19 => some (.inr (Ex.panic v18, [.any], h19))) fun w22 h23 => oFrz w22 h23 fun x16 h17 =>
      oCmp .eql x16 (.s (.int .i64 0)) fun x20 =>
      oCond x20 ((trim true h8.length [(.s (.bool true))] h17).map fun p => .inr (Ex.ret, p.1, p.2))
      (oAr .add (s10.1.getD 0 .any) (.s (.int .i64 1)) fun x21 =>
      (trim true h8.length [x21] h17).map .inl))
      ((trim true h8.length [.any] s10.2).map fun p => .inr (Ex.exit 2, p.1, p.2))

def ref24_Owned_k2 (s2 : List A × Heap) (objs : Heap) : Ex → List A → Heap → Option ((List A × Heap) ⊕ (Ex × List A × Heap)) := fun e24 vs25 h26 =>
      (match e24 with
  | .normal => none
  | .exit i27 => if i27 = 2 then oAr .add (s2.1.getD 0 .any) (.s (.int .i64 1)) fun x29 =>
      (trim true objs.length [x29] h26).map .inl else if i27 = 1 then oAr .add (s2.1.getD 0 .any) (.s (.int .i64 1)) fun x30 =>
      (trim true objs.length [x30] h26).map .inl else (trim true objs.length [(vs25.getD 0 .any)] h26).map fun p => .inr (Ex.exit i27, p.1, p.2)
  | .ret => (trim true objs.length [(vs25.getD 0 .any)] h26).map fun p => .inr (Ex.ret, p.1, p.2)
  | .panic v28 => some (.inr (Ex.panic v28, [.any], h26)))

def ref24_Owned_l3 (x1 : A) (a0 : A) (a1 : A) (objs : Heap) : List A × Heap → Option ((List A × Heap) ⊕ (Ex × List A × Heap)) := fun s2 =>
      oCmp .lss (s2.1.getD 0 .any) x1 fun x3 =>
      oCond x3 (oIdxA 26 a0 (s2.1.getD 0 .any) fun x4 =>
      oLoad (some 26) x4 s2.2 fun x5 =>
      oNew none (some 26) (.agg [.s (.int .u64 0), .s (.int .i64 0), .s (.int .i64 0), .s (.slice none 0 0), .s (.int .i64 0), .s (.slice none 0 0), .s (.int .i64 0), .s (.int .i64 0), .s (.slice none 0 0), .s (.slice none 0 0), .s (.int .u64 0), .s (.int .u64 0), .s (.int .u64 0), .s (.int .u64 0), .s (.int .i64 0), .s (.int .i64 0), .s (.bool false), .s (.int .u64 0), .s (.int .u64 0), .s (.int .u64 0), .s (.int .u64 0), .s (.int .u64 0), .s (.int .u64 0), .s (.int .u64 0), .s (.int .u64 0), .s (.int .u64 0)]) s2.2 fun x6 h7 =>
      oStore (some 26) x6 x5 h7 fun h8 =>
      oLen a1 fun x9 =>
      oLoop (ref24_Owned_l1 x9 a1 x6 h8) ([(.s (.int .i64 0))], h8) (ref24_Owned_k2 s2 objs))
      ((trim true objs.length [.any] s2.2).map fun p => .inr (Ex.exit 0, p.1, p.2))

def ref24_Owned_k4 (objs : Heap) : Ex → List A → Heap → Option (Out × Heap) := fun e31 vs32 h33 =>
      (match e31 with
  | .normal => none
  | .exit i34 => if i34 = 0 then finish objs.length (.ok (.s (.bool false))) h33 else none
  | .ret => finish objs.length (.ok (vs32.getD 0 .any)) h33
  | .panic v35 => finish objs.length (.pan v35) h33)

/-- bailey/baileyref24.Owned -/
def ref24_Owned : CallFn := fun args objs =>
match args with
| [a0, a1] =>
oLen a0 fun x1 =>
      oLoop (ref24_Owned_l3 x1 a0 a1 objs) ([(.s (.int .i64 0))], objs) (ref24_Owned_k4 objs)
| _ => none

def ref24_Nested_k1 (h8 : Heap) (s10 : List A × Heap) : Ex → List A → Heap → Option ((List A × Heap) ⊕ (Ex × List A × Heap)) := fun e43 vs41 h42 =>
      (match e43 with
  | .normal => oCond (vs41.getD 0 .any) ((trim true h8.length [(.s (.bool false))] h42).map fun p => .inr (Ex.ret, p.1, p.2))
      (oAr .add (s10.1.getD 0 .any) (.s (.int .i64 1)) fun x46 =>
      (trim true h8.length [x46] h42).map .inl)
  | .exit i44 => if i44 = 3 then oAr .add (s10.1.getD 0 .any) (.s (.int .i64 1)) fun x47 =>
      (trim true h8.length [x47] h42).map .inl else (trim true h8.length [.any] h42).map fun p => .inr (Ex.exit i44, p.1, p.2)
  | .ret => (trim true h8.length [.any] h42).map fun p => .inr (Ex.ret, p.1, p.2)
  | .panic v45 => some (.inr (Ex.panic v45, [.any], h42)))

def ref24_Nested_l2 (x9 : A) (a0 : A) (x6 : A) (a1 : A) (h8 : Heap) : List A × Heap → Option ((List A × Heap) ⊕ (Ex × List A × Heap)) := fun s10 =>
      oCmp .lss (s10.1.getD 0 .any) x9 fun x11 =>
      oCond x11 (oIdxA 26 a0 (s10.1.getD 0 .any) fun x12 =>
      oLoad (some 26) x12 s10.2 fun x13 =>
      oNew none (some 26) (.agg [.s (.int .u64 0), .s (.int .i64 0), .s (.int .i64 0), .s (.slice none 0 0), .s (.int .i64 0), .s (.slice none 0 0), .s (.int .i64 0), .s (.int .i64 0), .s (.slice none 0 0), .s (.slice none 0 0), .s (.int .u64 0), .s (.int .u64 0), .s (.int .u64 0), .s (.int .u64 0), .s (.int .i64 0), .s (.int .i64 0), .s (.bool false), .s (.int .u64 0), .s (.int .u64 0), .s (.int .u64 0), .s (.int .u64 0), .s (.int .u64 0), .s (.int .u64 0), .s (.int .u64 0), .s (.int .u64 0), .s (.int .u64 0)]) s10.2 fun x14 h15 =>
      oStore (some 26) x14 x13 h15 fun h16 =>
      oJoin (oLoad (some 26) x6 h16 fun x17 =>
      oLend ref24_Hidden [x17, a1] h16 (fun v20 h21 => some (Ex.panic v20, [], h21)) fun w39 h40 => oFrz w39 h40 fun x18 h19 =>
      oGuard x18 true (fun _ => oLoad (some 26) x6 h19 fun x22 =>
      oFieldA 0 x14 fun x23 =>
      oLoad none x23 h19 fun x24 =>
      oLend ref12_Has [x22, x24] h19 (fun v27 h28 => some (Ex.panic v27, [], h28)) fun w37 h38 => oFrz w37 h38 fun x25 h26 =>
      oGuard x25 true (fun _ => oLoad (some 26) x14 h26 fun x29 =>
      oLend ref24_Hidden [x29, a1] h26 (fun v32 h33 => some (Ex.panic v32, [], h33)) fun w35 h36 => oFrz w35 h36 fun x30 h31 =>
      oNot x30 fun x34 =>
      (trim true h16.length [x34] h31).map fun p => (Ex.normal, p.1, p.2))
      (fun _ => (trim true h16.length [(.s (.bool false))] h26).map fun p => (Ex.normal, p.1, p.2)))
      (fun _ => (trim true h16.length [(.s (.bool false))] h19).map fun p => (Ex.normal, p.1, p.2))) (ref24_Nested_k1 h8 s10))
      ((trim true h8.length [.any] s10.2).map fun p => .inr (Ex.exit 2, p.1, p.2))

def ref24_Nested_k3 (s2 : List A × Heap) (objs : Heap) : Ex → List A → Heap → Option ((List A × Heap) ⊕ (Ex × List A × Heap)) := fun e48 vs49 h50 =>
      (match e48 with
  | .normal => none
  | .exit i51 => if i51 = 2 then oAr .add (s2.1.getD 0 .any) (.s (.int .i64 1)) fun x53 =>
      (trim true objs.length [x53] h50).map .inl else if i51 = 1 then oAr .add (s2.1.getD 0 .any) (.s (.int .i64 1)) fun x54 =>
      (trim true objs.length [x54] h50).map .inl else (trim true objs.length [(vs49.getD 0 .any)] h50).map fun p => .inr (Ex.exit i51, p.1, p.2)
  | .ret => (trim true objs.length [(vs49.getD 0 .any)] h50).map fun p => .inr (Ex.ret, p.1, p.2)
  | .panic v52 => some (.inr (Ex.panic v52, [.any], h50)))

def ref24_Nested_l4 (x1 : A) (a0 : A) (a1 : A) (objs : Heap) : List A × Heap → Option ((List A × Heap) ⊕ (Ex × List A × Heap)) := fun s2 =>
      oCmp .lss (s2.1.getD 0 .any) x1 fun x3 =>
      oCond x3 (oIdxA 26 a0 (s2.1.getD 0 .any) fun x4 =>
      oLoad (some 26) x4 s2.2 fun x5 =>
      oNew none (some 26) (.agg [.s (.int .u64 0), .s (.int .i64 0), .s (.int .i64 0), .s (.slice none 0 0), .s (.int .i64 0), .s (.slice none 0 0), .s (.int .i64 0), .s (.int .i64 0), .s (.slice none 0 0), .s (.slice none 0 0), .s (.int .u64 0), .s (.int .u64 0), .s (.int .u64 0), .s (.int .u64 0), .s (.int .i64 0), .s (.int .i64 0), .s (.bool false), .s (.int .u64 0), .s (.int .u64 0), .s (.int .u64 0), .s (.int .u64 0), .s (.int .u64 0), .s (.int .u64 0), .s (.int .u64 0), .s (.int .u64 0), .s (.int .u64 0)]) s2.2 fun x6 h7 =>
      oStore (some 26) x6 x5 h7 fun h8 =>
      oLen a0 fun x9 =>
      oLoop (ref24_Nested_l2 x9 a0 x6 a1 h8) ([(.s (.int .i64 0))], h8) (ref24_Nested_k3 s2 objs))
      ((trim true objs.length [.any] s2.2).map fun p => .inr (Ex.exit 0, p.1, p.2))

def ref24_Nested_k5 (objs : Heap) : Ex → List A → Heap → Option (Out × Heap) := fun e55 vs56 h57 =>
      (match e55 with
  | .normal => none
  | .exit i58 => if i58 = 0 then finish objs.length (.ok (.s (.bool true))) h57 else none
  | .ret => finish objs.length (.ok (vs56.getD 0 .any)) h57
  | .panic v59 => finish objs.length (.pan v59) h57)

/-- bailey/baileyref24.Nested -/
def ref24_Nested : CallFn := fun args objs =>
match args with
| [a0, a1] =>
oLen a0 fun x1 =>
      oLoop (ref24_Nested_l4 x1 a0 a1 objs) ([(.s (.int .i64 0))], objs) (ref24_Nested_k5 objs)
| _ => none

def ref24_View_k1 (s12 : List A × Heap) (h10 : Heap) : Ex → List A → Heap → Option ((List A × Heap) ⊕ (Ex × List A × Heap)) := fun e38 vs36 h37 =>
      (match e38 with
  | .normal => oAr .add (s12.1.getD 1 .any) (.s (.int .i64 1)) fun x41 =>
      (trim true h10.length [(vs36.getD 0 .any), x41] h37).map .inl
  | .exit i39 => (trim true h10.length [(vs36.getD 0 .any)] h37).map fun p => .inr (Ex.exit i39, p.1, p.2)
  | .ret => (trim true h10.length [(vs36.getD 0 .any)] h37).map fun p => .inr (Ex.ret, p.1, p.2)
  | .panic v40 => some (.inr (Ex.panic v40, [.any], h37)))

def ref24_View_l2 (x11 : A) (a0 : A) (a1 : A) (x8 : A) (h10 : Heap) : List A × Heap → Option ((List A × Heap) ⊕ (Ex × List A × Heap)) := fun s12 =>
      oCmp .lss (s12.1.getD 1 .any) x11 fun x13 =>
      oCond x13 (oJoin (oIdxA 26 a0 (s12.1.getD 1 .any) fun x14 =>
      oLoad (some 26) x14 s12.2 fun x15 =>
      oNew none (some 26) (.agg [.s (.int .u64 0), .s (.int .i64 0), .s (.int .i64 0), .s (.slice none 0 0), .s (.int .i64 0), .s (.slice none 0 0), .s (.int .i64 0), .s (.int .i64 0), .s (.slice none 0 0), .s (.slice none 0 0), .s (.int .u64 0), .s (.int .u64 0), .s (.int .u64 0), .s (.int .u64 0), .s (.int .i64 0), .s (.int .i64 0), .s (.bool false), .s (.int .u64 0), .s (.int .u64 0), .s (.int .u64 0), .s (.int .u64 0), .s (.int .u64 0), .s (.int .u64 0), .s (.int .u64 0), .s (.int .u64 0), .s (.int .u64 0)]) s12.2 fun x16 h17 =>
      oStore (some 26) x16 x15 h17 fun h18 =>
      oGuard (s12.1.getD 0 .any) false (fun _ => oLoad (some 26) x16 h18 fun x19 =>
      oLend ref24_Hidden [x19, a1] h18 (fun v22 h23 => some (Ex.panic v22, [], h23)) fun w34 h35 => oFrz w34 h35 fun x20 h21 =>
      oNot x20 fun x24 =>
      oGuard x24 true (fun _ => oLoad (some 26) x16 h21 fun x25 =>
      oFieldA 0 x8 fun x26 =>
      oLoad none x26 h21 fun x27 =>
      oLend ref12_Has [x25, x27] h21 (fun v30 h31 => some (Ex.panic v30, [], h31)) fun w32 h33 => oFrz w32 h33 fun x28 h29 =>
      (trim true s12.2.length [x28] h29).map fun p => (Ex.normal, p.1, p.2))
      (fun _ => (trim true s12.2.length [(.s (.bool false))] h21).map fun p => (Ex.normal, p.1, p.2)))
      (fun _ => (trim true s12.2.length [(.s (.bool true))] h18).map fun p => (Ex.normal, p.1, p.2))) (ref24_View_k1 s12 h10))
      ((trim true h10.length [(s12.1.getD 0 .any)] s12.2).map fun p => .inr (Ex.exit 2, p.1, p.2))

def ref24_View_k3 (x8 : A) (s4 : List A × Heap) (vs43 : List A) : Ex → List A → Heap → Option (Ex × List A × Heap) := fun e63 vs61 h62 =>
      (match e63 with
  | .normal => oCond (vs61.getD 0 .any) (oLoad (some 26) x8 h62 fun x66 =>
      oNewSlice none 26 (asRows (some 26) [x66]) h62 fun x67 h68 =>
      oAppend none 26 272 (s4.1.getD 0 .any) x67 h68 fun x69 h70 =>
      (trim true s4.2.length [x69] h70).map fun p => (Ex.normal, p.1, p.2))
      (oCond (vs43.getD 0 .any) (oFieldA 0 x8 fun x71 =>
      oLoad none x71 h62 fun x72 =>
      oFieldA 1 x8 fun x73 =>
      oLoad none x73 h62 fun x74 =>
      oFieldA 6 x8 fun x75 =>
      oLoad none x75 h62 fun x76 =>
      oBuildP [.s (.int .u64 0), .s (.int .i64 0), .s (.int .i64 0), .s (.slice none 0 0), .s (.int .i64 0), .s (.slice none 0 0), .s (.int .i64 0), .s (.int .i64 0), .s (.slice none 0 0), .s (.slice none 0 0), .s (.int .u64 0), .s (.int .u64 0), .s (.int .u64 0), .s (.int .u64 0), .s (.int .i64 0), .s (.int .i64 0), .s (.bool false), .s (.int .u64 0), .s (.int .u64 0), .s (.int .u64 0), .s (.int .u64 0), .s (.int .u64 0), .s (.int .u64 0), .s (.int .u64 0), .s (.int .u64 0), .s (.int .u64 0)] [(0, none, x72), (1, none, x74), (6, none, x76)] fun x77 =>
      oNewSlice none 26 (asRows (some 26) [x77]) h62 fun x78 h79 =>
      oAppend none 26 272 (s4.1.getD 0 .any) x78 h79 fun x80 h81 =>
      (trim true s4.2.length [x80] h81).map fun p => (Ex.normal, p.1, p.2))
      ((trim true s4.2.length [(s4.1.getD 0 .any)] h62).map fun p => (Ex.normal, p.1, p.2)))
  | .exit i64 => if i64 = 1 then (trim true s4.2.length [(s4.1.getD 0 .any)] h62).map fun p => (Ex.normal, p.1, p.2) else (trim true s4.2.length [(s4.1.getD 0 .any)] h62).map fun p => (Ex.exit i64, p.1, p.2)
  | .ret => (trim true s4.2.length [(s4.1.getD 0 .any)] h62).map fun p => (Ex.ret, p.1, p.2)
  | .panic v65 => some (Ex.panic v65, [], h62))

def ref24_View_k4 (x8 : A) (a1 : A) (s4 : List A × Heap) : Ex → List A → Heap → Option (Ex × List A × Heap) := fun e42 vs43 h44 =>
      (match e42 with
  | .normal => none
  | .exit i45 => if i45 = 2 then oLoad (some 26) x8 h44 fun x47 =>
      oLend ref24_Hidden [x47, a1] h44 (fun v50 h51 => some (Ex.panic v50, [], h51)) fun w82 h83 => oFrz w82 h83 fun x48 h49 =>
      oNot x48 fun x52 =>
      oCond x52 (oLoad (some 26) x8 h49 fun x53 =>
      oNewSlice none 26 (asRows (some 26) [x53]) h49 fun x54 h55 =>
      oAppend none 26 272 (s4.1.getD 0 .any) x54 h55 fun x56 h57 =>
      (trim true s4.2.length [x56] h57).map fun p => (Ex.normal, p.1, p.2))
      (oJoin (oGuard (vs43.getD 0 .any) true (fun _ => oFieldA 1 x8 fun x58 =>
      oLoad none x58 h49 fun x59 =>
      oCmp .eql x59 (.s (.int .i64 3)) fun x60 =>
      (trim true h49.length [x60] h49).map fun p => (Ex.normal, p.1, p.2))
      (fun _ => (trim true h49.length [(.s (.bool false))] h49).map fun p => (Ex.normal, p.1, p.2))) (ref24_View_k3 x8 s4 vs43)) else if i45 = 1 then (trim true s4.2.length [(s4.1.getD 0 .any)] h44).map fun p => (Ex.normal, p.1, p.2) else (trim true s4.2.length [(s4.1.getD 0 .any)] h44).map fun p => (Ex.exit i45, p.1, p.2)
  | .ret => (trim true s4.2.length [(s4.1.getD 0 .any)] h44).map fun p => (Ex.ret, p.1, p.2)
  | .panic v46 => some (Ex.panic v46, [], h44))

def ref24_View_k5 (s4 : List A × Heap) (h2 : Heap) : Ex → List A → Heap → Option ((List A × Heap) ⊕ (Ex × List A × Heap)) := fun e86 vs84 h85 =>
      (match e86 with
  | .normal => oAr .add (s4.1.getD 1 .any) (.s (.int .i64 1)) fun x89 =>
      (trim true h2.length [(vs84.getD 0 .any), x89] h85).map .inl
  | .exit i87 => (trim true h2.length [(vs84.getD 0 .any)] h85).map fun p => .inr (Ex.exit i87, p.1, p.2)
  | .ret => (trim true h2.length [(vs84.getD 0 .any)] h85).map fun p => .inr (Ex.ret, p.1, p.2)
  | .panic v88 => some (.inr (Ex.panic v88, [.any], h85)))

def ref24_View_l6 (x3 : A) (a0 : A) (a1 : A) (h2 : Heap) : List A × Heap → Option ((List A × Heap) ⊕ (Ex × List A × Heap)) := fun s4 =>
      oCmp .lss (s4.1.getD 1 .any) x3 fun x5 =>
      oCond x5 (oJoin (oIdxA 26 a0 (s4.1.getD 1 .any) fun x6 =>
      oLoad (some 26) x6 s4.2 fun x7 =>
      oNew none (some 26) (.agg [.s (.int .u64 0), .s (.int .i64 0), .s (.int .i64 0), .s (.slice none 0 0), .s (.int .i64 0), .s (.slice none 0 0), .s (.int .i64 0), .s (.int .i64 0), .s (.slice none 0 0), .s (.slice none 0 0), .s (.int .u64 0), .s (.int .u64 0), .s (.int .u64 0), .s (.int .u64 0), .s (.int .i64 0), .s (.int .i64 0), .s (.bool false), .s (.int .u64 0), .s (.int .u64 0), .s (.int .u64 0), .s (.int .u64 0), .s (.int .u64 0), .s (.int .u64 0), .s (.int .u64 0), .s (.int .u64 0), .s (.int .u64 0)]) s4.2 fun x8 h9 =>
      oStore (some 26) x8 x7 h9 fun h10 =>
      oLen a0 fun x11 =>
      oLoop (ref24_View_l2 x11 a0 a1 x8 h10) ([(.s (.bool false)), (.s (.int .i64 0))], h10) (ref24_View_k4 x8 a1 s4)) (ref24_View_k5 s4 h2))
      ((trim true h2.length [(s4.1.getD 0 .any)] s4.2).map fun p => .inr (Ex.exit 0, p.1, p.2))

def ref24_View_k7 (objs : Heap) : Ex → List A → Heap → Option (Out × Heap) := fun e90 vs91 h92 =>
      (match e90 with
  | .normal => none
  | .exit i93 => if i93 = 0 then finish objs.length (.ok (vs91.getD 0 .any)) h92 else none
  | .ret => finish objs.length (.ok (.s (.slice none 0 0))) h92
  | .panic v94 => finish objs.length (.pan v94) h92)

/-- bailey/baileyref24.View -/
def ref24_View : CallFn := fun args objs =>
match args with
| [a0, a1] =>
oNewSlice none 26 (asRows (some 26) []) objs fun x1 h2 =>
      oLen a0 fun x3 =>
      oLoop (ref24_View_l6 x3 a0 a1 h2) ([x1, (.s (.int .i64 0))], h2) (ref24_View_k7 objs)
| _ => none

def ref13_Same_l1 (x4 : A) (a0 : A) (a1 : A) (objs : Heap) : List A × Heap → Option ((List A × Heap) ⊕ (Ex × List A × Heap)) := fun s5 =>
      oCmp .lss (s5.1.getD 0 .any) x4 fun x6 =>
      oCond x6 (oIdxA 26 a0 (s5.1.getD 0 .any) fun x7 =>
      oLoadD s5.2.length [] (some 26) x7 s5.2 fun x8 h9 =>
      oIdxA 26 a1 (s5.1.getD 0 .any) fun x10 =>
      oLoadD s5.2.length [] (some 26) x10 h9 fun x11 h12 =>
      oCallF s5.2.length [] ref11_Same [x8, x11] h12 fun w17 h18 => oFrz w17 h18 fun x13 h14 =>
      oNot x13 fun x15 =>
      oCond x15 ((trim true objs.length [(.s (.bool false))] h14).map fun p => .inr (Ex.ret, p.1, p.2))
      (oAr .add (s5.1.getD 0 .any) (.s (.int .i64 1)) fun x16 =>
      (trim true objs.length [x16] h14).map .inl))
      ((trim true objs.length [.any] s5.2).map fun p => .inr (Ex.exit 0, p.1, p.2))

def ref13_Same_k2 (objs : Heap) : Ex → List A → Heap → Option (Out × Heap) := fun e19 vs20 h21 =>
      (match e19 with
  | .normal => none
  | .exit i22 => if i22 = 0 then finish objs.length (.ok (.s (.bool true))) h21 else none
  | .ret => finish objs.length (.ok (vs20.getD 0 .any)) h21
  | .panic v23 => finish objs.length (.pan v23) h21)

/-- bailey/baileyref13.Same -/
def ref13_Same : CallFn := fun args objs =>
match args with
| [a0, a1] =>
oLen a0 fun x1 =>
      oLen a1 fun x2 =>
      oCmp .neq x1 x2 fun x3 =>
      oCond x3 (finish objs.length (.ok (.s (.bool false))) objs)
      (oLen a0 fun x4 =>
      oLoop (ref13_Same_l1 x4 a0 a1 objs) ([(.s (.int .i64 0))], objs) (ref13_Same_k2 objs))
| _ => none

def law24_TwinTells_l1 (x22 : A) (a0 : A) (a1 : A) (h18 : Heap) : List A × Heap → Option ((List A × Heap) ⊕ (Ex × List A × Heap)) := fun s23 =>
      oCmp .lss (s23.1.getD 0 .any) x22 fun x24 =>
      oCond x24 (oIdxA 26 a0 (s23.1.getD 0 .any) fun x25 =>
      oLoad (some 26) x25 s23.2 fun x26 =>
      oNew none (some 26) (.agg [.s (.int .u64 0), .s (.int .i64 0), .s (.int .i64 0), .s (.slice none 0 0), .s (.int .i64 0), .s (.slice none 0 0), .s (.int .i64 0), .s (.int .i64 0), .s (.slice none 0 0), .s (.slice none 0 0), .s (.int .u64 0), .s (.int .u64 0), .s (.int .u64 0), .s (.int .u64 0), .s (.int .i64 0), .s (.int .i64 0), .s (.bool false), .s (.int .u64 0), .s (.int .u64 0), .s (.int .u64 0), .s (.int .u64 0), .s (.int .u64 0), .s (.int .u64 0), .s (.int .u64 0), .s (.int .u64 0), .s (.int .u64 0)]) s23.2 fun x27 h28 =>
      oStore (some 26) x27 x26 h28 fun h29 =>
      oLoadD h29.length [] (some 26) x27 h29 fun x30 h31 =>
      oCallF h29.length [] twin_Hidden [x30, a1] h31 fun w42 h43 => oFrz w42 h43 fun x32 h33 =>
      oLoadD h29.length [] (some 26) x27 h33 fun x34 h35 =>
      oCallF h29.length [] ref24_Hidden [x34, a1] h35 fun w40 h41 => oFrz w40 h41 fun x36 h37 =>
      oEqBool true x32 x36 fun x38 =>
      oCond x38 ((trim true h18.length [(.s (.bool false))] h37).map fun p => .inr (Ex.ret, p.1, p.2))
      (oAr .add (s23.1.getD 0 .any) (.s (.int .i64 1)) fun x39 =>
      (trim true h18.length [x39] h37).map .inl))
      ((trim true h18.length [.any] s23.2).map fun p => .inr (Ex.exit 0, p.1, p.2))

def law24_TwinTells_k2 (a0 : A) (a1 : A) (objs : Heap) : Ex → List A → Heap → Option (Out × Heap) := fun e44 vs45 h46 =>
      (match e44 with
  | .normal => none
  | .exit i47 => if i47 = 0 then oLend twin_Owned [a0, a1] h46 (fun v51 h52 => finish objs.length (.pan v51) h52) fun w91 h92 => oFrz w91 h92 fun x49 h50 =>
      oLend ref24_Owned [a0, a1] h50 (fun v55 h56 => finish objs.length (.pan v55) h56) fun w89 h90 => oFrz w89 h90 fun x53 h54 =>
      oEqBool false x49 x53 fun x57 =>
      oGuard x57 true (fun _ => oLend twin_Nested [a0, a1] h54 (fun v60 h61 => finish objs.length (.pan v60) h61) fun w87 h88 => oFrz w87 h88 fun x58 h59 =>
      oLend ref24_Nested [a0, a1] h59 (fun v64 h65 => finish objs.length (.pan v64) h65) fun w85 h86 => oFrz w85 h86 fun x62 h63 =>
      oEqBool false x58 x62 fun x66 =>
      oGuard x66 true (fun _ => oLend twin_View [a0, a1] h63 (fun v69 h70 => finish objs.length (.pan v69) h70) fun w83 h84 => oFrz w83 h84 fun x67 h68 =>
      oLend ref24_View [a0, a1] h68 (fun v73 h74 => finish objs.length (.pan v73) h74) fun w81 h82 => oFrz w81 h82 fun x71 h72 =>
      oLend ref13_Same [x67, x71] h72 (fun v77 h78 => finish objs.length (.pan v77) h78) fun w79 h80 => oFrz w79 h80 fun x75 h76 =>
      finish objs.length (.ok x75) h76)
      (fun _ => finish objs.length (.ok (.s (.bool false))) h63))
      (fun _ => finish objs.length (.ok (.s (.bool false))) h54) else none
  | .ret => finish objs.length (.ok (vs45.getD 0 .any)) h46
  | .panic v48 => finish objs.length (.pan v48) h46)

def law24_TwinTells_k3 (objs : Heap) (a0 : A) (a1 : A) : Ex → List A → Heap → Option (Out × Heap) := fun e19 vs17 h18 =>
      (match e19 with
  | .normal => oCond (vs17.getD 0 .any) (finish objs.length (.ok (.s (.bool true))) h18)
      (oLen a0 fun x22 =>
      oLoop (law24_TwinTells_l1 x22 a0 a1 h18) ([(.s (.int .i64 0))], h18) (law24_TwinTells_k2 a0 a1 objs))
  | .exit i20 => none
  | .ret => finish objs.length (.ok (.s (.bool false))) h18
  | .panic v21 => finish objs.length (.pan v21) h18)

/-- bailey/baileylaw24.TwinTells -/
def law24_TwinTells : CallFn := fun args objs =>
match args with
| [a0, a1] =>
oLend law24_twinAlive [] objs (fun v3 h4 => finish objs.length (.pan v3) h4) fun w93 h94 => oFrz w93 h94 fun x1 h2 =>
      oNot x1 fun x5 =>
      oCond x5 (finish objs.length (.ok (.s (.bool false))) h2)
      (oJoin (oLen a0 fun x6 =>
      oCmp .gtr x6 (.s (.int .i64 60)) fun x7 =>
      oGuard x7 false (fun _ => oLen a1 fun x8 =>
      oCmp .gtr x8 (.s (.int .i64 10)) fun x9 =>
      oGuard x9 false (fun _ => oLend ref13_Sound [a0] h2 (fun v12 h13 => some (Ex.panic v12, [], h13)) fun w15 h16 => oFrz w15 h16 fun x10 h11 =>
      oNot x10 fun x14 =>
      (trim true h2.length [x14] h11).map fun p => (Ex.normal, p.1, p.2))
      (fun _ => (trim true h2.length [(.s (.bool true))] h2).map fun p => (Ex.normal, p.1, p.2)))
      (fun _ => (trim true h2.length [(.s (.bool true))] h2).map fun p => (Ex.normal, p.1, p.2))) (law24_TwinTells_k3 objs a0 a1))
| _ => none

def law24_TwinLess_k1 (h23 : Heap) (s27 : List A × Heap) : Ex → List A → Heap → Option ((List A × Heap) ⊕ (Ex × List A × Heap)) := fun e69 vs67 h68 =>
      (match e69 with
  | .normal => oCond (vs67.getD 0 .any) ((trim true h23.length [(.s (.bool false))] h68).map fun p => .inr (Ex.ret, p.1, p.2))
      (oAr .add (s27.1.getD 0 .any) (.s (.int .i64 1)) fun x72 =>
      (trim true h23.length [x72] h68).map .inl)
  | .exit i70 => if i70 = 1 then oAr .add (s27.1.getD 0 .any) (.s (.int .i64 1)) fun x73 =>
      (trim true h23.length [x73] h68).map .inl else (trim true h23.length [.any] h68).map fun p => .inr (Ex.exit i70, p.1, p.2)
  | .ret => (trim true h23.length [.any] h68).map fun p => .inr (Ex.ret, p.1, p.2)
  | .panic v71 => some (.inr (Ex.panic v71, [.any], h68)))

def law24_TwinLess_l2 (x26 : A) (a0 : A) (x22 : A) (a1 : A) (h23 : Heap) : List A × Heap → Option ((List A × Heap) ⊕ (Ex × List A × Heap)) := fun s27 =>
      oCmp .lss (s27.1.getD 0 .any) x26 fun x28 =>
      oCond x28 (oIdxA 26 a0 (s27.1.getD 0 .any) fun x29 =>
      oLoad (some 26) x29 s27.2 fun x30 =>
      oNew none (some 26) (.agg [.s (.int .u64 0), .s (.int .i64 0), .s (.int .i64 0), .s (.slice none 0 0), .s (.int .i64 0), .s (.slice none 0 0), .s (.int .i64 0), .s (.int .i64 0), .s (.slice none 0 0), .s (.slice none 0 0), .s (.int .u64 0), .s (.int .u64 0), .s (.int .u64 0), .s (.int .u64 0), .s (.int .i64 0), .s (.int .i64 0), .s (.bool false), .s (.int .u64 0), .s (.int .u64 0), .s (.int .u64 0), .s (.int .u64 0), .s (.int .u64 0), .s (.int .u64 0), .s (.int .u64 0), .s (.int .u64 0), .s (.int .u64 0)]) s27.2 fun x31 h32 =>
      oStore (some 26) x31 x30 h32 fun h33 =>
      oFieldA 0 x31 fun x34 =>
      oLoad none x34 h33 fun x35 =>
      oLend ref13_Find [x22, x35] h33 (fun v38 h39 => some (.inr (Ex.panic v38, [.any], h39))) fun w74 h75 => oFrz w74 h75 fun x36 h37 =>
      oExtract 0 x36 fun x40 =>
      oExtract 1 x36 fun x41 =>
      oNew none (some 26) (.agg [.s (.int .u64 0), .s (.int .i64 0), .s (.int .i64 0), .s (.slice none 0 0), .s (.int .i64 0), .s (.slice none 0 0), .s (.int .i64 0), .s (.int .i64 0), .s (.slice none 0 0), .s (.slice none 0 0), .s (.int .u64 0), .s (.int .u64 0), .s (.int .u64 0), .s (.int .u64 0), .s (.int .i64 0), .s (.int .i64 0), .s (.bool false), .s (.int .u64 0), .s (.int .u64 0), .s (.int .u64 0), .s (.int .u64 0), .s (.int .u64 0), .s (.int .u64 0), .s (.int .u64 0), .s (.int .u64 0), .s (.int .u64 0)]) h37 fun x42 h43 =>
      oStore (some 26) x42 x40 h43 fun h44 =>
      oJoin (oLoad (some 26) x31 h44 fun x45 =>
      oLend twin_Hidden [x45, a1] h44 (fun v48 h49 => some (Ex.panic v48, [], h49)) fun w65 h66 => oFrz w65 h66 fun x46 h47 =>
      oNot x46 fun x50 =>
      oGuard x50 true (fun _ => oNot x41 fun x51 =>
      oGuard x51 false (fun _ => oLoad (some 26) x42 h47 fun x52 =>
      oNewSlice none 26 (asRows (some 26) [x52]) h47 fun x53 h54 =>
      oLoad (some 26) x31 h54 fun x55 =>
      oNewSlice none 26 (asRows (some 26) [x55]) h54 fun x56 h57 =>
      oLend ref13_Same [x53, x56] h57 (fun v60 h61 => some (Ex.panic v60, [], h61)) fun w63 h64 => oFrz w63 h64 fun x58 h59 =>
      oNot x58 fun x62 =>
      (trim true h44.length [x62] h59).map fun p => (Ex.normal, p.1, p.2))
      (fun _ => (trim true h44.length [(.s (.bool true))] h47).map fun p => (Ex.normal, p.1, p.2)))
      (fun _ => (trim true h44.length [(.s (.bool false))] h47).map fun p => (Ex.normal, p.1, p.2))) (law24_TwinLess_k1 h23 s27))
      ((trim true h23.length [.any] s27.2).map fun p => .inr (Ex.exit 0, p.1, p.2))

def law24_TwinLess_l3 (x81 : A) (x22 : A) (a0 : A) (h78 : Heap) : List A × Heap → Option ((List A × Heap) ⊕ (Ex × List A × Heap)) := fun s82 =>
      oCmp .lss (s82.1.getD 0 .any) x81 fun x83 =>
      oCond x83 (oIdxA 26 x22 (s82.1.getD 0 .any) fun x84 =>
      oLoad (some 26) x84 s82.2 fun x85 =>
      oNew none (some 26) (.agg [.s (.int .u64 0), .s (.int .i64 0), .s (.int .i64 0), .s (.slice none 0 0), .s (.int .i64 0), .s (.slice none 0 0), .s (.int .i64 0), .s (.int .i64 0), .s (.slice none 0 0), .s (.slice none 0 0), .s (.int .u64 0), .s (.int .u64 0), .s (.int .u64 0), .s (.int .u64 0), .s (.int .i64 0), .s (.int .i64 0), .s (.bool false), .s (.int .u64 0), .s (.int .u64 0), .s (.int .u64 0), .s (.int .u64 0), .s (.int .u64 0), .s (.int .u64 0), .s (.int .u64 0), .s (.int .u64 0), .s (.int .u64 0)]) s82.2 fun x86 h87 =>
      oStore (some 26) x86 x85 h87 fun h88 =>
      oFieldA 0 x86 fun x89 =>
      oLoad none x89 h88 fun x90 =>
      oLend ref13_Find [a0, x90] h88 (fun v93 h94 => some (.inr (Ex.panic v93, [.any], h94))) fun w102 h103 => oFrz w102 h103 fun x91 h92 =>
      oExtract 0 x91 fun x95 =>
      oExtract 1 x91 fun x96 =>
      oNew none (some 26) (.agg [.s (.int .u64 0), .s (.int .i64 0), .s (.int .i64 0), .s (.slice none 0 0), .s (.int .i64 0), .s (.slice none 0 0), .s (.int .i64 0), .s (.int .i64 0), .s (.slice none 0 0), .s (.slice none 0 0), .s (.int .u64 0), .s (.int .u64 0), .s (.int .u64 0), .s (.int .u64 0), .s (.int .i64 0), .s (.int .i64 0), .s (.bool false), .s (.int .u64 0), .s (.int .u64 0), .s (.int .u64 0), .s (.int .u64 0), .s (.int .u64 0), .s (.int .u64 0), .s (.int .u64 0), .s (.int .u64 0), .s (.int .u64 0)]) h92 fun x97 h98 =>
      oStore (some 26) x97 x95 h98 fun h99 =>
      oNot x96 fun x100 =>
      oCond x100 ((trim true h78.length [(.s (.bool false))] h99).map fun p => .inr (Ex.ret, p.1, p.2))
      (oAr .add (s82.1.getD 0 .any) (.s (.int .i64 1)) fun x101 =>
      (trim true h78.length [x101] h99).map .inl))
      ((trim true h78.length [.any] s82.2).map fun p => .inr (Ex.exit 2, p.1, p.2))

def law24_TwinLess_k4 (a1 : A) (x22 : A) (a0 : A) (objs : Heap) : Ex → List A → Heap → Option (Out × Heap) := fun e104 vs105 h106 =>
      (match e104 with
  | .normal => none
  | .exit i107 => if i107 = 2 then oLen a1 fun x109 =>
      oCmp .eql x109 (.s (.int .i64 0)) fun x110 =>
      oGuard x110 true (fun _ => oLend ref13_Same [x22, a0] h106 (fun v113 h114 => finish objs.length (.pan v113) h114) fun w133 h134 => oFrz w133 h134 fun x111 h112 =>
      oGuard x111 false (fun _ => oLen a1 fun x115 =>
      oCmp .gtr x115 (.s (.int .i64 0)) fun x116 =>
      oGuard x116 true (fun _ => oNewSlice none 1 (asRows none []) h112 fun x117 h118 =>
      oSlice 1 a1 (some (.s (.int .i64 1))) none fun x119 =>
      oAppend none 1 8 x117 x119 h118 fun w122 h123 => oFrz w122 h123 fun x120 h121 =>
      oLend twin_View [a0, x120] h121 (fun v126 h127 => finish objs.length (.pan v126) h127) fun w131 h132 => oFrz w131 h132 fun x124 h125 =>
      oLen x124 fun x128 =>
      oLen x22 fun x129 =>
      oCmp .geq x128 x129 fun x130 =>
      finish objs.length (.ok x130) h125)
      (fun _ => finish objs.length (.ok (.s (.bool false))) h112))
      (fun _ => finish objs.length (.ok (.s (.bool true))) h112))
      (fun _ => oLen a1 fun x135 =>
      oCmp .gtr x135 (.s (.int .i64 0)) fun x136 =>
      oGuard x136 true (fun _ => oNewSlice none 1 (asRows none []) h106 fun x137 h138 =>
      oSlice 1 a1 (some (.s (.int .i64 1))) none fun x139 =>
      oAppend none 1 8 x137 x139 h138 fun w142 h143 => oFrz w142 h143 fun x140 h141 =>
      oLend twin_View [a0, x140] h141 (fun v146 h147 => finish objs.length (.pan v146) h147) fun w151 h152 => oFrz w151 h152 fun x144 h145 =>
      oLen x144 fun x148 =>
      oLen x22 fun x149 =>
      oCmp .geq x148 x149 fun x150 =>
      finish objs.length (.ok x150) h145)
      (fun _ => finish objs.length (.ok (.s (.bool false))) h106)) else none
  | .ret => finish objs.length (.ok (vs105.getD 0 .any)) h106
  | .panic v108 => finish objs.length (.pan v108) h106)

def law24_TwinLess_k5 (x22 : A) (a0 : A) (a1 : A) (objs : Heap) : Ex → List A → Heap → Option (Out × Heap) := fun e76 vs77 h78 =>
      (match e76 with
  | .normal => none
  | .exit i79 => if i79 = 0 then oLen x22 fun x81 =>
      oLoop (law24_TwinLess_l3 x81 x22 a0 h78) ([(.s (.int .i64 0))], h78) (law24_TwinLess_k4 a1 x22 a0 objs) else none
  | .ret => finish objs.length (.ok (vs77.getD 0 .any)) h78
  | .panic v80 => finish objs.length (.pan v80) h78)

def law24_TwinLess_k6 (objs : Heap) (a0 : A) (a1 : A) : Ex → List A → Heap → Option (Out × Heap) := fun e19 vs17 h18 =>
      (match e19 with
  | .normal => oCond (vs17.getD 0 .any) (finish objs.length (.ok (.s (.bool true))) h18)
      (oLend twin_View [a0, a1] h18 (fun v24 h25 => finish objs.length (.pan v24) h25) fun w153 h154 => oFrz w153 h154 fun x22 h23 =>
      oLen a0 fun x26 =>
      oLoop (law24_TwinLess_l2 x26 a0 x22 a1 h23) ([(.s (.int .i64 0))], h23) (law24_TwinLess_k5 x22 a0 a1 objs))
  | .exit i20 => none
  | .ret => finish objs.length (.ok (.s (.bool false))) h18
  | .panic v21 => finish objs.length (.pan v21) h18)

/-- bailey/baileylaw24.TwinLess -/
def law24_TwinLess : CallFn := fun args objs =>
match args with
| [a0, a1] =>
oLend law24_twinAlive [] objs (fun v3 h4 => finish objs.length (.pan v3) h4) fun w155 h156 => oFrz w155 h156 fun x1 h2 =>
      oNot x1 fun x5 =>
      oCond x5 (finish objs.length (.ok (.s (.bool false))) h2)
      (oJoin (oLen a0 fun x6 =>
      oCmp .gtr x6 (.s (.int .i64 60)) fun x7 =>
      oGuard x7 false (fun _ => oLen a1 fun x8 =>
      oCmp .gtr x8 (.s (.int .i64 10)) fun x9 =>
      oGuard x9 false (fun _ => oLend ref13_Sound [a0] h2 (fun v12 h13 => some (Ex.panic v12, [], h13)) fun w15 h16 => oFrz w15 h16 fun x10 h11 =>
      oNot x10 fun x14 =>
      (trim true h2.length [x14] h11).map fun p => (Ex.normal, p.1, p.2))
      (fun _ => (trim true h2.length [(.s (.bool true))] h2).map fun p => (Ex.normal, p.1, p.2)))
      (fun _ => (trim true h2.length [(.s (.bool true))] h2).map fun p => (Ex.normal, p.1, p.2))) (law24_TwinLess_k6 objs a0 a1))
| _ => none

/-- bailey/baileylaw12.small -/
def law12_small : CallFn := fun args objs =>
match args with
| [a0, a1] =>
oNew none (some 26) (.agg [.s (.int .u64 0), .s (.int .i64 0), .s (.int .i64 0), .s (.slice none 0 0), .s (.int .i64 0), .s (.slice none 0 0), .s (.int .i64 0), .s (.int .i64 0), .s (.slice none 0 0), .s (.slice none 0 0), .s (.int .u64 0), .s (.int .u64 0), .s (.int .u64 0), .s (.int .u64 0), .s (.int .i64 0), .s (.int .i64 0), .s (.bool false), .s (.int .u64 0), .s (.int .u64 0), .s (.int .u64 0), .s (.int .u64 0), .s (.int .u64 0), .s (.int .u64 0), .s (.int .u64 0), .s (.int .u64 0), .s (.int .u64 0)]) objs fun x1 h2 =>
      oBuildP [.s (.int .i64 0), .s (.slice none 0 0)] [(0, none, (.s (.int .i64 2)))] fun x3 =>
      oBuildP [.s (.int .u64 0), .s (.int .i64 0), .s (.int .i64 0), .s (.slice none 0 0), .s (.int .i64 0), .s (.slice none 0 0), .s (.int .i64 0), .s (.int .i64 0), .s (.slice none 0 0), .s (.slice none 0 0), .s (.int .u64 0), .s (.int .u64 0), .s (.int .u64 0), .s (.int .u64 0), .s (.int .i64 0), .s (.int .i64 0), .s (.bool false), .s (.int .u64 0), .s (.int .u64 0), .s (.int .u64 0), .s (.int .u64 0), .s (.int .u64 0), .s (.int .u64 0), .s (.int .u64 0), .s (.int .u64 0), .s (.int .u64 0)] [(0, none, a0), (1, none, (.s (.int .i64 1))), (2, (some 2), x3), (6, none, a1)] fun x4 =>
      oStore (some 26) x1 x4 h2 fun h5 =>
      oLoad (some 26) x1 h5 fun r6 =>
      finish objs.length (.ok r6) h5
| _ => none

def dir_Fresh_k1 (objs : Heap) (x1 : A) : Ex → List A → Heap → Option (Out × Heap) := fun e11 vs9 h10 =>
      (match e11 with
  | .normal => oCond (vs9.getD 0 .any) (finish objs.length (.ok (.tup [(.s (.int .u64 0)), (.s (.int .i64 125))])) h10)
      (oFieldA 0 x1 fun x14 =>
      oLoad none x14 h10 fun x15 =>
      oAr .mul x15 (.s (.int .u64 64)) fun x16 =>
      oFieldA 7 x1 fun x17 =>
      oLoad none x17 h10 fun x18 =>
      oConv .u64 x18 fun x19 =>
      oAr .add x16 x19 fun x20 =>
      oAr .add x20 (.s (.int .u64 1)) fun x21 =>
      finish objs.length (.ok (.tup [x21, (.s (.int .i64 0))])) h10)
  | .exit i12 => none
  | .ret => finish objs.length (.ok (.tup [(.s (.int .u64 0)), (.s (.int .i64 0))])) h10
  | .panic v13 => finish objs.length (.pan v13) h10)

/-- bailey/dir.Fresh -/
def dir_Fresh : CallFn := fun args objs =>
match args with
| [a0] =>
oNew none (some 26) a0 objs fun x1 h2 =>
      oJoin (oFieldA 7 x1 fun x3 =>
      oLoad none x3 h2 fun x4 =>
      oCmp .geq x4 (.s (.int .i64 63)) fun x5 =>
      oGuard x5 false (fun _ => oFieldA 0 x1 fun x6 =>
      oLoad none x6 h2 fun x7 =>
      oCmp .geq x7 (.s (.int .u64 4398046511104)) fun x8 =>
      (trim true h2.length [x8] h2).map fun p => (Ex.normal, p.1, p.2))
      (fun _ => (trim true h2.length [(.s (.bool true))] h2).map fun p => (Ex.normal, p.1, p.2))) (dir_Fresh_k1 objs x1)
| _ => none

def dir_Used_l1 (x5 : A) (x4 : A) (h2 : Heap) : List A × Heap → Option ((List A × Heap) ⊕ (Ex × List A × Heap)) := fun s6 =>
      oCmp .lss (s6.1.getD 1 .any) x5 fun x7 =>
      oCond x7 (oIdxA 2 x4 (s6.1.getD 1 .any) fun x8 =>
      oLoad (some 2) x8 s6.2 fun x9 =>
      oNew none (some 2) (.agg [.s (.int .u64 0), .s (.int .i64 0)]) s6.2 fun x10 h11 =>
      oStore (some 2) x10 x9 h11 fun h12 =>
      oFieldA 1 x10 fun x13 =>
      oLoad none x13 h12 fun x14 =>
      oAr .add (s6.1.getD 0 .any) x14 fun x15 =>
      oAr .add (s6.1.getD 1 .any) (.s (.int .i64 1)) fun x16 =>
      (trim true h2.length [x15, x16] h12).map .inl)
      ((trim true h2.length [(s6.1.getD 0 .any)] s6.2).map fun p => .inr (Ex.exit 0, p.1, p.2))

def dir_Used_k2 (objs : Heap) : Ex → List A → Heap → Option (Out × Heap) := fun e17 vs18 h19 =>
      (match e17 with
  | .normal => none
  | .exit i20 => if i20 = 0 then finish objs.length (.ok (vs18.getD 0 .any)) h19 else none
  | .ret => finish objs.length (.ok (.s (.int .i64 0))) h19
  | .panic v21 => finish objs.length (.pan v21) h19)

/-- bailey/dir.Used -/
def dir_Used : CallFn := fun args objs =>
match args with
| [a0] =>
oNew none (some 26) a0 objs fun x1 h2 =>
      oFieldA 8 x1 fun x3 =>
      oLoad none x3 h2 fun x4 =>
      oLen x4 fun x5 =>
      oLoop (dir_Used_l1 x5 x4 h2) ([(.s (.int .i64 1)), (.s (.int .i64 0))], h2) (dir_Used_k2 objs)
| _ => none

def dir_Add_k1 (x1 : A) (x3 : A) (objs : Heap) (a1 : A) (a2 : A) (x10 : A) : Ex → List A → Heap → Option (Out × Heap) := fun e36 vs34 h35 =>
      (match e36 with
  | .normal => oCond (vs34.getD 0 .any) (oLoad (some 26) x1 h35 fun x39 =>
      oStore (some 26) x3 x39 h35 fun h40 =>
      oLoad (some 26) x3 h40 fun r41 =>
      finish objs.length (.ok (.tup [r41, (.s (.int .i64 121))])) h40)
      (oLoad (some 26) x1 h35 fun x42 =>
      oLend thing_Copy [x42] h35 (fun v45 h46 => finish objs.length (.pan v45) h46) fun x43 h44 =>
      oStore (some 26) x1 x43 h44 fun h47 =>
      oFieldA 8 x1 fun x48 =>
      oLoad none x48 h47 fun x49 =>
      oBuildP [.s (.int .u64 0), .s (.int .i64 0)] [(0, none, a1), (1, none, a2)] fun x50 =>
      oNewSlice none 2 (asRows (some 2) [x50]) h47 fun x51 h52 =>
      oCall (primInsert 2 16) [x49, x10, x51] h52 (fun v55 h56 => finish objs.length (.pan v55) h56) fun x53 h54 =>
      oFieldA 8 x1 fun x57 =>
      oStore none x57 x53 h54 fun h58 =>
      oLoad (some 26) x1 h58 fun x59 =>
      oStore (some 26) x3 x59 h58 fun h60 =>
      oLoad (some 26) x3 h60 fun r61 =>
      finish objs.length (.ok (.tup [r61, (.s (.int .i64 0))])) h60)
  | .exit i37 => if i37 = 0 then oLoad (some 26) x1 h35 fun x62 =>
      oLend thing_Copy [x62] h35 (fun v65 h66 => finish objs.length (.pan v65) h66) fun x63 h64 =>
      oStore (some 26) x1 x63 h64 fun h67 =>
      oFieldA 8 x1 fun x68 =>
      oLoad none x68 h67 fun x69 =>
      oBuildP [.s (.int .u64 0), .s (.int .i64 0)] [(0, none, a1), (1, none, a2)] fun x70 =>
      oNewSlice none 2 (asRows (some 2) [x70]) h67 fun x71 h72 =>
      oCall (primInsert 2 16) [x69, x10, x71] h72 (fun v75 h76 => finish objs.length (.pan v75) h76) fun x73 h74 =>
      oFieldA 8 x1 fun x77 =>
      oStore none x77 x73 h74 fun h78 =>
      oLoad (some 26) x1 h78 fun x79 =>
      oStore (some 26) x3 x79 h78 fun h80 =>
      oLoad (some 26) x3 h80 fun r81 =>
      finish objs.length (.ok (.tup [r81, (.s (.int .i64 0))])) h80 else none
  | .ret => oLoad (some 26) x3 h35 fun r82 =>
      finish objs.length (.ok (.tup [r82, (.s (.int .i64 0))])) h35
  | .panic v38 => finish objs.length (.pan v38) h35)

/-- bailey/dir.Add -/
def dir_Add : CallFn := fun args objs =>
match args with
| [a0, a1, a2] =>
oNew none (some 26) a0 objs fun x1 h2 =>
      oNew none (some 26) (.agg [.s (.int .u64 0), .s (.int .i64 0), .s (.int .i64 0), .s (.slice none 0 0), .s (.int .i64 0), .s (.slice none 0 0), .s (.int .i64 0), .s (.int .i64 0), .s (.slice none 0 0), .s (.slice none 0 0), .s (.int .u64 0), .s (.int .u64 0), .s (.int .u64 0), .s (.int .u64 0), .s (.int .i64 0), .s (.int .i64 0), .s (.bool false), .s (.int .u64 0), .s (.int .u64 0), .s (.int .u64 0), .s (.int .u64 0), .s (.int .u64 0), .s (.int .u64 0), .s (.int .u64 0), .s (.int .u64 0), .s (.int .u64 0)]) h2 fun x3 h4 =>
      oLoad (some 26) x1 h4 fun x5 =>
      oLend dir_place [x5, a1] h4 (fun v8 h9 => finish objs.length (.pan v8) h9) fun w83 h84 => oFrz w83 h84 fun x6 h7 =>
      oExtract 0 x6 fun x10 =>
      oExtract 1 x6 fun x11 =>
      oCond x11 (oLoad (some 26) x1 h7 fun x12 =>
      oStore (some 26) x3 x12 h7 fun h13 =>
      oLoad (some 26) x3 h13 fun r14 =>
      finish objs.length (.ok (.tup [r14, (.s (.int .i64 123))])) h13)
      (oFieldA 8 x1 fun x15 =>
      oLoad none x15 h7 fun x16 =>
      oLen x16 fun x17 =>
      oCmp .geq x17 (.s (.int .i64 16)) fun x18 =>
      oCond x18 (oLoad (some 26) x1 h7 fun x19 =>
      oStore (some 26) x3 x19 h7 fun h20 =>
      oLoad (some 26) x3 h20 fun r21 =>
      finish objs.length (.ok (.tup [r21, (.s (.int .i64 122))])) h20)
      (oJoin (oCmp .lss a2 (.s (.int .i64 1)) fun x22 =>
      oGuard x22 false (fun _ => oFieldA 6 x1 fun x23 =>
      oLoadD h7.length [] none x23 h7 fun x24 h25 =>
      oLoadD h7.length [] (some 26) x1 h25 fun x26 h27 =>
      oCallF h7.length [] dir_Used [x26] h27 fun w32 h33 => oFrz w32 h33 fun x28 h29 =>
      oAr .sub x24 x28 fun x30 =>
      oCmp .gtr a2 x30 fun x31 =>
      (trim true h7.length [x31] h29).map fun p => (Ex.normal, p.1, p.2))
      (fun _ => (trim true h7.length [(.s (.bool true))] h7).map fun p => (Ex.normal, p.1, p.2))) (dir_Add_k1 x1 x3 objs a1 a2 x10)))
| _ => none

/-- bailey/dir.Born -/
def dir_Born : CallFn := fun args objs =>
match args with
| [a0, a1] =>
oNew none (some 26) a0 objs fun x1 h2 =>
      oNew none (some 26) (.agg [.s (.int .u64 0), .s (.int .i64 0), .s (.int .i64 0), .s (.slice none 0 0), .s (.int .i64 0), .s (.slice none 0 0), .s (.int .i64 0), .s (.int .i64 0), .s (.slice none 0 0), .s (.slice none 0 0), .s (.int .u64 0), .s (.int .u64 0), .s (.int .u64 0), .s (.int .u64 0), .s (.int .i64 0), .s (.int .i64 0), .s (.bool false), .s (.int .u64 0), .s (.int .u64 0), .s (.int .u64 0), .s (.int .u64 0), .s (.int .u64 0), .s (.int .u64 0), .s (.int .u64 0), .s (.int .u64 0), .s (.int .u64 0)]) h2 fun x3 h4 =>
      oLoad (some 26) x1 h4 fun x5 =>
      oLend dir_Fresh [x5] h4 (fun v8 h9 => finish objs.length (.pan v8) h9) fun w40 h41 => oFrz w40 h41 fun x6 h7 =>
      oExtract 0 x6 fun x10 =>
      oExtract 1 x6 fun x11 =>
      oCmp .neq x11 (.s (.int .i64 0)) fun x12 =>
      oCond x12 (oLoad (some 26) x1 h7 fun x13 =>
      oStore (some 26) x3 x13 h7 fun h14 =>
      oLoad (some 26) x3 h14 fun r15 =>
      finish objs.length (.ok (.tup [r15, (.s (.int .u64 0)), x11])) h14)
      (oLoad (some 26) x1 h7 fun x16 =>
      oLend dir_Add [x16, x10, a1] h7 (fun v19 h20 => finish objs.length (.pan v19) h20) fun w38 h39 => oFrz w38 h39 fun x17 h18 =>
      oExtract 0 x17 fun x21 =>
      oExtract 1 x17 fun x22 =>
      oNew none (some 26) (.agg [.s (.int .u64 0), .s (.int .i64 0), .s (.int .i64 0), .s (.slice none 0 0), .s (.int .i64 0), .s (.slice none 0 0), .s (.int .i64 0), .s (.int .i64 0), .s (.slice none 0 0), .s (.slice none 0 0), .s (.int .u64 0), .s (.int .u64 0), .s (.int .u64 0), .s (.int .u64 0), .s (.int .i64 0), .s (.int .i64 0), .s (.bool false), .s (.int .u64 0), .s (.int .u64 0), .s (.int .u64 0), .s (.int .u64 0), .s (.int .u64 0), .s (.int .u64 0), .s (.int .u64 0), .s (.int .u64 0), .s (.int .u64 0)]) h18 fun x23 h24 =>
      oStore (some 26) x23 x21 h24 fun h25 =>
      oCmp .neq x22 (.s (.int .i64 0)) fun x26 =>
      oCond x26 (oLoad (some 26) x1 h25 fun x27 =>
      oStore (some 26) x3 x27 h25 fun h28 =>
      oLoad (some 26) x3 h28 fun r29 =>
      finish objs.length (.ok (.tup [r29, (.s (.int .u64 0)), x22])) h28)
      (oFieldA 7 x23 fun x30 =>
      oLoad none x30 h25 fun x31 =>
      oAr .add x31 (.s (.int .i64 1)) fun x32 =>
      oFieldA 7 x23 fun x33 =>
      oStore none x33 x32 h25 fun h34 =>
      oLoad (some 26) x23 h34 fun x35 =>
      oStore (some 26) x3 x35 h34 fun h36 =>
      oLoad (some 26) x3 h36 fun r37 =>
      finish objs.length (.ok (.tup [r37, x10, (.s (.int .i64 0))])) h36))
| _ => none

/-- bailey/baileylaw12.dirAlive -/
def law12_dirAlive : CallFn := fun args objs =>
match args with
| [] =>
oLend law12_small [(.s (.int .u64 1)), (.s (.int .i64 4))] objs (fun v3 h4 => finish objs.length (.pan v3) h4) fun w49 h50 => oFrz w49 h50 fun x1 h2 =>
      oLend dir_Born [x1, (.s (.int .i64 3))] h2 (fun v7 h8 => finish objs.length (.pan v7) h8) fun w47 h48 => oFrz w47 h48 fun x5 h6 =>
      oExtract 0 x5 fun x9 =>
      oExtract 1 x5 fun x10 =>
      oExtract 2 x5 fun x11 =>
      oNew none (some 26) (.agg [.s (.int .u64 0), .s (.int .i64 0), .s (.int .i64 0), .s (.slice none 0 0), .s (.int .i64 0), .s (.slice none 0 0), .s (.int .i64 0), .s (.int .i64 0), .s (.slice none 0 0), .s (.slice none 0 0), .s (.int .u64 0), .s (.int .u64 0), .s (.int .u64 0), .s (.int .u64 0), .s (.int .i64 0), .s (.int .i64 0), .s (.bool false), .s (.int .u64 0), .s (.int .u64 0), .s (.int .u64 0), .s (.int .u64 0), .s (.int .u64 0), .s (.int .u64 0), .s (.int .u64 0), .s (.int .u64 0), .s (.int .u64 0)]) h6 fun x12 h13 =>
      oStore (some 26) x12 x9 h13 fun h14 =>
      oLoad (some 26) x12 h14 fun x15 =>
      oLend dir_Born [x15, (.s (.int .i64 1))] h14 (fun v18 h19 => finish objs.length (.pan v18) h19) fun w45 h46 => oFrz w45 h46 fun x16 h17 =>
      oExtract 0 x16 fun x20 =>
      oExtract 1 x16 fun x21 =>
      oExtract 2 x16 fun x22 =>
      oNew none (some 26) (.agg [.s (.int .u64 0), .s (.int .i64 0), .s (.int .i64 0), .s (.slice none 0 0), .s (.int .i64 0), .s (.slice none 0 0), .s (.int .i64 0), .s (.int .i64 0), .s (.slice none 0 0), .s (.slice none 0 0), .s (.int .u64 0), .s (.int .u64 0), .s (.int .u64 0), .s (.int .u64 0), .s (.int .i64 0), .s (.int .i64 0), .s (.bool false), .s (.int .u64 0), .s (.int .u64 0), .s (.int .u64 0), .s (.int .u64 0), .s (.int .u64 0), .s (.int .u64 0), .s (.int .u64 0), .s (.int .u64 0), .s (.int .u64 0)]) h17 fun x23 h24 =>
      oStore (some 26) x23 x20 h24 fun h25 =>
      oCmp .eql x11 (.s (.int .i64 0)) fun x26 =>
      oGuard x26 true (fun _ => oCmp .eql x10 (.s (.int .u64 65)) fun x27 =>
      oGuard x27 true (fun _ => oCmp .eql x22 (.s (.int .i64 121)) fun x28 =>
      oGuard x28 true (fun _ => oCmp .eql x21 (.s (.int .u64 0)) fun x29 =>
      oGuard x29 true (fun _ => oLoad (some 26) x12 h25 fun x30 =>
      oLend dir_Used [x30] h25 (fun v33 h34 => finish objs.length (.pan v33) h34) fun w43 h44 => oFrz w43 h44 fun x31 h32 =>
      oCmp .eql x31 (.s (.int .i64 4)) fun x35 =>
      oGuard x35 true (fun _ => oLoad (some 26) x12 h32 fun x36 =>
      oLend dir_Has [x36, (.s (.int .u64 65))] h32 (fun v39 h40 => finish objs.length (.pan v39) h40) fun w41 h42 => oFrz w41 h42 fun x37 h38 =>
      finish objs.length (.ok x37) h38)
      (fun _ => finish objs.length (.ok (.s (.bool false))) h32))
      (fun _ => finish objs.length (.ok (.s (.bool false))) h25))
      (fun _ => finish objs.length (.ok (.s (.bool false))) h25))
      (fun _ => finish objs.length (.ok (.s (.bool false))) h25))
      (fun _ => finish objs.length (.ok (.s (.bool false))) h25)
| _ => none

/-- bailey/baileylaw12.DirNames -/
def law12_DirNames : CallFn := fun args objs =>
match args with
| [] =>
oLend law12_dirAlive [] objs (fun v3 h4 => finish objs.length (.pan v3) h4) fun w11 h12 => oFrz w11 h12 fun x1 h2 =>
      oPick x1 (.s (.bool true)) (.s (.bool false)) fun x5 =>
      oPick x5 (.s (.bool true)) (.s (.bool false)) fun x6 =>
      oPick x6 (.s (.bool true)) (.s (.bool false)) fun x7 =>
      oPick x7 (.s (.bool true)) (.s (.bool false)) fun x8 =>
      oPick x8 (.s (.bool true)) (.s (.bool false)) fun x9 =>
      oPick x9 (.s (.bool true)) (.s (.bool false)) fun x10 =>
      finish objs.length (.ok x10) h2
| _ => none

/-- bailey/baileylaw12.directory -/
def law12_directory : CallFn := fun args objs =>
match args with
| [a0] =>
oNew none (some 26) a0 objs fun x1 h2 =>
      oFieldA 1 x1 fun x3 =>
      oLoad none x3 h2 fun x4 =>
      oCmp .eql x4 (.s (.int .i64 1)) fun x5 =>
      oGuard x5 true (fun _ => oLoad (some 26) x1 h2 fun x6 =>
      oLend ref11_Right [x6] h2 (fun v9 h10 => finish objs.length (.pan v9) h10) fun w11 h12 => oFrz w11 h12 fun x7 h8 =>
      finish objs.length (.ok x7) h8)
      (fun _ => finish objs.length (.ok (.s (.bool false))) h2)
| _ => none

def ref12_Fresh_k1 (objs : Heap) (x1 : A) : Ex → List A → Heap → Option (Out × Heap) := fun e11 vs9 h10 =>
      (match e11 with
  | .normal => oCond (vs9.getD 0 .any) (finish objs.length (.ok (.tup [(.s (.int .u64 0)), (.s (.int .i64 125))])) h10)
      (oFieldA 0 x1 fun x14 =>
      oLoad none x14 h10 fun x15 =>
      oAr .mul (.s (.int .u64 64)) x15 fun x16 =>
      oFieldA 7 x1 fun x17 =>
      oLoad none x17 h10 fun x18 =>
      oAr .add x18 (.s (.int .i64 1)) fun x19 =>
      oConv .u64 x19 fun x20 =>
      oAr .add x16 x20 fun x21 =>
      finish objs.length (.ok (.tup [x21, (.s (.int .i64 0))])) h10)
  | .exit i12 => none
  | .ret => finish objs.length (.ok (.tup [(.s (.int .u64 0)), (.s (.int .i64 0))])) h10
  | .panic v13 => finish objs.length (.pan v13) h10)

/-- bailey/baileyref12.Fresh -/
def ref12_Fresh : CallFn := fun args objs =>
match args with
| [a0] =>
oNew none (some 26) a0 objs fun x1 h2 =>
      oJoin (oFieldA 7 x1 fun x3 =>
      oLoad none x3 h2 fun x4 =>
      oCmp .eql x4 (.s (.int .i64 63)) fun x5 =>
      oGuard x5 false (fun _ => oFieldA 0 x1 fun x6 =>
      oLoad none x6 h2 fun x7 =>
      oCmp .gtr x7 (.s (.int .u64 4398046511103)) fun x8 =>
      (trim true h2.length [x8] h2).map fun p => (Ex.normal, p.1, p.2))
      (fun _ => (trim true h2.length [(.s (.bool true))] h2).map fun p => (Ex.normal, p.1, p.2))) (ref12_Fresh_k1 objs x1)
| _ => none

def ref12_Used_l1 (x5 : A) (x4 : A) (h2 : Heap) : List A × Heap → Option ((List A × Heap) ⊕ (Ex × List A × Heap)) := fun s6 =>
      oCmp .lss (s6.1.getD 1 .any) x5 fun x7 =>
      oCond x7 (oIdxA 2 x4 (s6.1.getD 1 .any) fun x8 =>
      oLoad (some 2) x8 s6.2 fun x9 =>
      oNew none (some 2) (.agg [.s (.int .u64 0), .s (.int .i64 0)]) s6.2 fun x10 h11 =>
      oStore (some 2) x10 x9 h11 fun h12 =>
      oFieldA 1 x10 fun x13 =>
      oLoad none x13 h12 fun x14 =>
      oAr .add (s6.1.getD 0 .any) x14 fun x15 =>
      oAr .add (s6.1.getD 1 .any) (.s (.int .i64 1)) fun x16 =>
      (trim true h2.length [x15, x16] h12).map .inl)
      ((trim true h2.length [(s6.1.getD 0 .any)] s6.2).map fun p => .inr (Ex.exit 0, p.1, p.2))

def ref12_Used_k2 (objs : Heap) : Ex → List A → Heap → Option (Out × Heap) := fun e17 vs18 h19 =>
      (match e17 with
  | .normal => none
  | .exit i20 => if i20 = 0 then finish objs.length (.ok (vs18.getD 0 .any)) h19 else none
  | .ret => finish objs.length (.ok (.s (.int .i64 0))) h19
  | .panic v21 => finish objs.length (.pan v21) h19)

/-- bailey/baileyref12.Used -/
def ref12_Used : CallFn := fun args objs =>
match args with
| [a0] =>
oNew none (some 26) a0 objs fun x1 h2 =>
      oFieldA 8 x1 fun x3 =>
      oLoad none x3 h2 fun x4 =>
      oLen x4 fun x5 =>
      oLoop (ref12_Used_l1 x5 x4 h2) ([(.s (.int .i64 1)), (.s (.int .i64 0))], h2) (ref12_Used_k2 objs)
| _ => none

/-- bailey/baileylaw12.DirTells -/
def law12_DirTells : CallFn := fun args objs =>
match args with
| [a0, a1] =>
oNew none (some 26) a0 objs fun x1 h2 =>
      oLend law12_dirAlive [] h2 (fun v5 h6 => finish objs.length (.pan v5) h6) fun w62 h63 => oFrz w62 h63 fun x3 h4 =>
      oNot x3 fun x7 =>
      oCond x7 (finish objs.length (.ok (.s (.bool false))) h4)
      (oLoad (some 26) x1 h4 fun x8 =>
      oLend law12_directory [x8] h4 (fun v11 h12 => finish objs.length (.pan v11) h12) fun w60 h61 => oFrz w60 h61 fun x9 h10 =>
      oNot x9 fun x13 =>
      oCond x13 (finish objs.length (.ok (.s (.bool true))) h10)
      (oLoad (some 26) x1 h10 fun x14 =>
      oLend dir_Fresh [x14] h10 (fun v17 h18 => finish objs.length (.pan v17) h18) fun w58 h59 => oFrz w58 h59 fun x15 h16 =>
      oExtract 0 x15 fun x19 =>
      oExtract 1 x15 fun x20 =>
      oLoad (some 26) x1 h16 fun x21 =>
      oLend ref12_Fresh [x21] h16 (fun v24 h25 => finish objs.length (.pan v24) h25) fun w56 h57 => oFrz w56 h57 fun x22 h23 =>
      oExtract 0 x22 fun x26 =>
      oExtract 1 x22 fun x27 =>
      oLoadD h23.length [] (some 26) x1 h23 fun x28 h29 =>
      oCallF h23.length [] dir_Used [x28] h29 fun w54 h55 => oFrz w54 h55 fun x30 h31 =>
      oLoadD h23.length [] (some 26) x1 h31 fun x32 h33 =>
      oCallF h23.length [] ref12_Used [x32] h33 fun w52 h53 => oFrz w52 h53 fun x34 h35 =>
      oCmp .eql x30 x34 fun x36 =>
      oGuard x36 true (fun _ => oLoadD h23.length [] (some 26) x1 h35 fun x37 h38 =>
      oCallF h23.length [] dir_Has [x37, a1] h38 fun w50 h51 => oFrz w50 h51 fun x39 h40 =>
      oLoadD h23.length [] (some 26) x1 h40 fun x41 h42 =>
      oCallF h23.length [] ref12_Has [x41, a1] h42 fun w48 h49 => oFrz w48 h49 fun x43 h44 =>
      oEqBool false x39 x43 fun x45 =>
      oGuard x45 true (fun _ => oCmp .eql x19 x26 fun x46 =>
      oGuard x46 true (fun _ => oCmp .eql x20 x27 fun x47 =>
      finish objs.length (.ok x47) h44)
      (fun _ => finish objs.length (.ok (.s (.bool false))) h44))
      (fun _ => finish objs.length (.ok (.s (.bool false))) h44))
      (fun _ => finish objs.length (.ok (.s (.bool false))) h35)))
| _ => none

/-- bailey/baileyref09.Copy -/
def ref09_Copy : CallFn := fun args objs =>
match args with
| [a0] =>
oNew none (some 2) a0 objs fun x1 h2 =>
      oNew none (some 2) (.agg [.s (.int .i64 0), .s (.slice none 0 0)]) h2 fun x3 h4 =>
      oFieldA 0 x1 fun x5 =>
      oLoadD h4.length [] none x5 (h4 ++ List.replicate 2 .res) fun x6 h7 =>
      oNewSlice (some h4.length) 2 (asRows (some 2) []) h7 fun x8 h9 =>
      oFieldA 1 x1 fun x10 =>
      oLoadD h4.length [] none x10 h9 fun x11 h12 =>
      oAppendD h4.length [] (h4.length + 1) 2 16 x8 x11 h12 fun x13 h14 =>
      oBuildP [.s (.int .i64 0), .s (.slice none 0 0)] [(0, none, x6), (1, none, x13)] fun x15 =>
      oStore (some 2) x3 x15 h14 fun h16 =>
      oLoad (some 2) x3 h16 fun r17 =>
      finish objs.length (.ok r17) h16
| _ => none

/-- bailey/baileyref11.Copy -/
def ref11_Copy : CallFn := fun args objs =>
match args with
| [a0] =>
oNew none (some 26) a0 objs fun x1 h2 =>
      oNew none (some 26) (.agg [.s (.int .u64 0), .s (.int .i64 0), .s (.int .i64 0), .s (.slice none 0 0), .s (.int .i64 0), .s (.slice none 0 0), .s (.int .i64 0), .s (.int .i64 0), .s (.slice none 0 0), .s (.slice none 0 0), .s (.int .u64 0), .s (.int .u64 0), .s (.int .u64 0), .s (.int .u64 0), .s (.int .i64 0), .s (.int .i64 0), .s (.bool false), .s (.int .u64 0), .s (.int .u64 0), .s (.int .u64 0), .s (.int .u64 0), .s (.int .u64 0), .s (.int .u64 0), .s (.int .u64 0), .s (.int .u64 0), .s (.int .u64 0)]) h2 fun x3 h4 =>
      oFieldA 2 x1 fun x5 =>
      oLoad (some 2) x5 h4 fun x6 =>
      oLend ref09_Copy [x6] h4 (fun v9 h10 => finish objs.length (.pan v9) h10) fun w42 h43 => oFrz w42 h43 fun x7 h8 =>
      oFieldA 2 x1 fun x11 =>
      oStore (some 2) x11 x7 h8 fun h12 =>
      oFieldA 4 x1 fun x13 =>
      oLoad (some 2) x13 h12 fun x14 =>
      oLend ref09_Copy [x14] h12 (fun v17 h18 => finish objs.length (.pan v17) h18) fun w40 h41 => oFrz w40 h41 fun x15 h16 =>
      oFieldA 4 x1 fun x19 =>
      oStore (some 2) x19 x15 h16 fun h20 =>
      oNewSlice none 2 (asRows (some 2) []) h20 fun x21 h22 =>
      oFieldA 8 x1 fun x23 =>
      oLoad none x23 h22 fun x24 =>
      oAppend none 2 16 x21 x24 h22 fun x25 h26 =>
      oFieldA 8 x1 fun x27 =>
      oStore none x27 x25 h26 fun h28 =>
      oNewSlice none 1 (asRows none []) h28 fun x29 h30 =>
      oFieldA 9 x1 fun x31 =>
      oLoad none x31 h30 fun x32 =>
      oAppend none 1 1 x29 x32 h30 fun x33 h34 =>
      oFieldA 9 x1 fun x35 =>
      oStore none x35 x33 h34 fun h36 =>
      oLoad (some 26) x1 h36 fun x37 =>
      oStore (some 26) x3 x37 h36 fun h38 =>
      oLoad (some 26) x3 h38 fun r39 =>
      finish objs.length (.ok r39) h38
| _ => none

def ref12_Add_k1 (a1 : A) (a2 : A) (s45 : List A × Heap) (h51 : Heap) : Ex → List A → Heap → Option (Ex × List A × Heap) := fun e58 vs56 h57 =>
      (match e58 with
  | .normal => oCond (vs56.getD 0 .any) (oBuildP [.s (.int .u64 0), .s (.int .i64 0)] [(0, none, a1), (1, none, a2)] fun x61 =>
      oNewSlice none 2 (asRows (some 2) [x61]) h57 fun x62 h63 =>
      oAppend none 2 16 (s45.1.getD 0 .any) x62 h63 fun x64 h65 =>
      (trim true h51.length [x64, (.s (.bool true))] h65).map fun p => (Ex.normal, p.1, p.2))
      ((trim true h51.length [(s45.1.getD 0 .any), (s45.1.getD 1 .any)] h57).map fun p => (Ex.normal, p.1, p.2))
  | .exit i59 => (trim true h51.length [(s45.1.getD 0 .any), (s45.1.getD 1 .any)] h57).map fun p => (Ex.exit i59, p.1, p.2)
  | .ret => (trim true h51.length [(s45.1.getD 0 .any), (s45.1.getD 1 .any)] h57).map fun p => (Ex.ret, p.1, p.2)
  | .panic v60 => some (Ex.panic v60, [], h57))

def ref12_Add_k2 (x49 : A) (s45 : List A × Heap) (h41 : Heap) : Ex → List A → Heap → Option ((List A × Heap) ⊕ (Ex × List A × Heap)) := fun e68 vs66 h67 =>
      (match e68 with
  | .normal => oLoad (some 2) x49 h67 fun x71 =>
      oNewSlice none 2 (asRows (some 2) [x71]) h67 fun x72 h73 =>
      oAppend none 2 16 (vs66.getD 0 .any) x72 h73 fun x74 h75 =>
      oAr .add (s45.1.getD 2 .any) (.s (.int .i64 1)) fun x76 =>
      (trim true h41.length [x74, (vs66.getD 1 .any), x76] h75).map .inl
  | .exit i69 => if i69 = 1 then oAr .add (s45.1.getD 2 .any) (.s (.int .i64 1)) fun x77 =>
      (trim true h41.length [(vs66.getD 0 .any), (vs66.getD 1 .any), x77] h67).map .inl else (trim true h41.length [(vs66.getD 0 .any), (vs66.getD 1 .any)] h67).map fun p => .inr (Ex.exit i69, p.1, p.2)
  | .ret => (trim true h41.length [(vs66.getD 0 .any), (vs66.getD 1 .any)] h67).map fun p => .inr (Ex.ret, p.1, p.2)
  | .panic v70 => some (.inr (Ex.panic v70, [.any, .any], h67)))

def ref12_Add_l3 (x44 : A) (x43 : A) (a1 : A) (a2 : A) (h41 : Heap) : List A × Heap → Option ((List A × Heap) ⊕ (Ex × List A × Heap)) := fun s45 =>
      oCmp .lss (s45.1.getD 2 .any) x44 fun x46 =>
      oCond x46 (oIdxA 2 x43 (s45.1.getD 2 .any) fun x47 =>
      oLoad (some 2) x47 s45.2 fun x48 =>
      oNew none (some 2) (.agg [.s (.int .u64 0), .s (.int .i64 0)]) s45.2 fun x49 h50 =>
      oStore (some 2) x49 x48 h50 fun h51 =>
      oJoin (oJoin (oNot (s45.1.getD 1 .any) fun x52 =>
      oGuard x52 true (fun _ => oFieldA 0 x49 fun x53 =>
      oLoad none x53 h51 fun x54 =>
      oCmp .gtr x54 a1 fun x55 =>
      (trim true h51.length [x55] h51).map fun p => (Ex.normal, p.1, p.2))
      (fun _ => (trim true h51.length [(.s (.bool false))] h51).map fun p => (Ex.normal, p.1, p.2))) (ref12_Add_k1 a1 a2 s45 h51)) (ref12_Add_k2 x49 s45 h41))
      ((trim true h41.length [(s45.1.getD 0 .any), (s45.1.getD 1 .any)] s45.2).map fun p => .inr (Ex.exit 0, p.1, p.2))

def ref12_Add_k4 (x1 : A) (x3 : A) (objs : Heap) : Ex → List A → Heap → Option (Out × Heap) := fun e91 vs89 h90 =>
      (match e91 with
  | .normal => oFieldA 8 x1 fun x94 =>
      oStore none x94 (vs89.getD 0 .any) h90 fun h95 =>
      oLoad (some 26) x1 h95 fun x96 =>
      oStore (some 26) x3 x96 h95 fun h97 =>
      oLoad (some 26) x3 h97 fun r98 =>
      finish objs.length (.ok (.tup [r98, (.s (.int .i64 0))])) h97
  | .exit i92 => none
  | .ret => oLoad (some 26) x3 h90 fun r99 =>
      finish objs.length (.ok (.tup [r99, (.s (.int .i64 0))])) h90
  | .panic v93 => finish objs.length (.pan v93) h90)

def ref12_Add_k5 (a1 : A) (a2 : A) (x1 : A) (x3 : A) (objs : Heap) : Ex → List A → Heap → Option (Out × Heap) := fun e78 vs79 h80 =>
      (match e78 with
  | .normal => none
  | .exit i81 => if i81 = 0 then oJoin (oNot (vs79.getD 1 .any) fun x83 =>
      oCond x83 (oBuildP [.s (.int .u64 0), .s (.int .i64 0)] [(0, none, a1), (1, none, a2)] fun x84 =>
      oNewSlice none 2 (asRows (some 2) [x84]) h80 fun x85 h86 =>
      oAppend none 2 16 (vs79.getD 0 .any) x85 h86 fun x87 h88 =>
      (trim true h80.length [x87] h88).map fun p => (Ex.normal, p.1, p.2))
      ((trim true h80.length [(vs79.getD 0 .any)] h80).map fun p => (Ex.normal, p.1, p.2))) (ref12_Add_k4 x1 x3 objs) else none
  | .ret => oLoad (some 26) x3 h80 fun r100 =>
      finish objs.length (.ok (.tup [r100, (.s (.int .i64 0))])) h80
  | .panic v82 => finish objs.length (.pan v82) h80)

def ref12_Add_k6 (x1 : A) (x3 : A) (objs : Heap) (a1 : A) (a2 : A) : Ex → List A → Heap → Option (Out × Heap) := fun e34 vs32 h33 =>
      (match e34 with
  | .normal => oCond (vs32.getD 0 .any) (oLoad (some 26) x1 h33 fun x37 =>
      oStore (some 26) x3 x37 h33 fun h38 =>
      oLoad (some 26) x3 h38 fun r39 =>
      finish objs.length (.ok (.tup [r39, (.s (.int .i64 121))])) h38)
      (oNewSlice none 2 (asRows (some 2) []) h33 fun x40 h41 =>
      oFieldA 8 x1 fun x42 =>
      oLoad none x42 h41 fun x43 =>
      oLen x43 fun x44 =>
      oLoop (ref12_Add_l3 x44 x43 a1 a2 h41) ([x40, (.s (.bool false)), (.s (.int .i64 0))], h41) (ref12_Add_k5 a1 a2 x1 x3 objs))
  | .exit i35 => none
  | .ret => oLoad (some 26) x3 h33 fun r101 =>
      finish objs.length (.ok (.tup [r101, (.s (.int .i64 0))])) h33
  | .panic v36 => finish objs.length (.pan v36) h33)

/-- bailey/baileyref12.Add -/
def ref12_Add : CallFn := fun args objs =>
match args with
| [a0, a1, a2] =>
oNew none (some 26) a0 objs fun x1 h2 =>
      oNew none (some 26) (.agg [.s (.int .u64 0), .s (.int .i64 0), .s (.int .i64 0), .s (.slice none 0 0), .s (.int .i64 0), .s (.slice none 0 0), .s (.int .i64 0), .s (.int .i64 0), .s (.slice none 0 0), .s (.slice none 0 0), .s (.int .u64 0), .s (.int .u64 0), .s (.int .u64 0), .s (.int .u64 0), .s (.int .i64 0), .s (.int .i64 0), .s (.bool false), .s (.int .u64 0), .s (.int .u64 0), .s (.int .u64 0), .s (.int .u64 0), .s (.int .u64 0), .s (.int .u64 0), .s (.int .u64 0), .s (.int .u64 0), .s (.int .u64 0)]) h2 fun x3 h4 =>
      oLoad (some 26) x1 h4 fun x5 =>
      oLend ref12_Has [x5, a1] h4 (fun v8 h9 => finish objs.length (.pan v8) h9) fun w102 h103 => oFrz w102 h103 fun x6 h7 =>
      oCond x6 (oLoad (some 26) x1 h7 fun x10 =>
      oStore (some 26) x3 x10 h7 fun h11 =>
      oLoad (some 26) x3 h11 fun r12 =>
      finish objs.length (.ok (.tup [r12, (.s (.int .i64 123))])) h11)
      (oFieldA 8 x1 fun x13 =>
      oLoad none x13 h7 fun x14 =>
      oLen x14 fun x15 =>
      oCmp .geq x15 (.s (.int .i64 16)) fun x16 =>
      oCond x16 (oLoad (some 26) x1 h7 fun x17 =>
      oStore (some 26) x3 x17 h7 fun h18 =>
      oLoad (some 26) x3 h18 fun r19 =>
      finish objs.length (.ok (.tup [r19, (.s (.int .i64 122))])) h18)
      (oJoin (oCmp .lss a2 (.s (.int .i64 1)) fun x20 =>
      oGuard x20 false (fun _ => oFieldA 6 x1 fun x21 =>
      oLoadD h7.length [] none x21 h7 fun x22 h23 =>
      oLoadD h7.length [] (some 26) x1 h23 fun x24 h25 =>
      oCallF h7.length [] ref12_Used [x24] h25 fun w30 h31 => oFrz w30 h31 fun x26 h27 =>
      oAr .sub x22 x26 fun x28 =>
      oCmp .gtr a2 x28 fun x29 =>
      (trim true h7.length [x29] h27).map fun p => (Ex.normal, p.1, p.2))
      (fun _ => (trim true h7.length [(.s (.bool true))] h7).map fun p => (Ex.normal, p.1, p.2))) (ref12_Add_k6 x1 x3 objs a1 a2)))
| _ => none

/-- bailey/baileyref12.Born -/
def ref12_Born : CallFn := fun args objs =>
match args with
| [a0, a1] =>
oNew none (some 26) a0 objs fun x1 h2 =>
      oNew none (some 26) (.agg [.s (.int .u64 0), .s (.int .i64 0), .s (.int .i64 0), .s (.slice none 0 0), .s (.int .i64 0), .s (.slice none 0 0), .s (.int .i64 0), .s (.int .i64 0), .s (.slice none 0 0), .s (.slice none 0 0), .s (.int .u64 0), .s (.int .u64 0), .s (.int .u64 0), .s (.int .u64 0), .s (.int .i64 0), .s (.int .i64 0), .s (.bool false), .s (.int .u64 0), .s (.int .u64 0), .s (.int .u64 0), .s (.int .u64 0), .s (.int .u64 0), .s (.int .u64 0), .s (.int .u64 0), .s (.int .u64 0), .s (.int .u64 0)]) h2 fun x3 h4 =>
      oLoad (some 26) x1 h4 fun x5 =>
      oLend ref12_Fresh [x5] h4 (fun v8 h9 => finish objs.length (.pan v8) h9) fun w40 h41 => oFrz w40 h41 fun x6 h7 =>
      oExtract 0 x6 fun x10 =>
      oExtract 1 x6 fun x11 =>
      oCmp .neq x11 (.s (.int .i64 0)) fun x12 =>
      oCond x12 (oLoad (some 26) x1 h7 fun x13 =>
      oStore (some 26) x3 x13 h7 fun h14 =>
      oLoad (some 26) x3 h14 fun r15 =>
      finish objs.length (.ok (.tup [r15, (.s (.int .u64 0)), x11])) h14)
      (oLoad (some 26) x1 h7 fun x16 =>
      oLend ref12_Add [x16, x10, a1] h7 (fun v19 h20 => finish objs.length (.pan v19) h20) fun w38 h39 => oFrz w38 h39 fun x17 h18 =>
      oExtract 0 x17 fun x21 =>
      oExtract 1 x17 fun x22 =>
      oNew none (some 26) (.agg [.s (.int .u64 0), .s (.int .i64 0), .s (.int .i64 0), .s (.slice none 0 0), .s (.int .i64 0), .s (.slice none 0 0), .s (.int .i64 0), .s (.int .i64 0), .s (.slice none 0 0), .s (.slice none 0 0), .s (.int .u64 0), .s (.int .u64 0), .s (.int .u64 0), .s (.int .u64 0), .s (.int .i64 0), .s (.int .i64 0), .s (.bool false), .s (.int .u64 0), .s (.int .u64 0), .s (.int .u64 0), .s (.int .u64 0), .s (.int .u64 0), .s (.int .u64 0), .s (.int .u64 0), .s (.int .u64 0), .s (.int .u64 0)]) h18 fun x23 h24 =>
      oStore (some 26) x23 x21 h24 fun h25 =>
      oCmp .neq x22 (.s (.int .i64 0)) fun x26 =>
      oCond x26 (oLoad (some 26) x1 h25 fun x27 =>
      oStore (some 26) x3 x27 h25 fun h28 =>
      oLoad (some 26) x3 h28 fun r29 =>
      finish objs.length (.ok (.tup [r29, (.s (.int .u64 0)), x22])) h28)
      (oFieldA 7 x23 fun x30 =>
      oLoad none x30 h25 fun x31 =>
      oAr .add x31 (.s (.int .i64 1)) fun x32 =>
      oFieldA 7 x23 fun x33 =>
      oStore none x33 x32 h25 fun h34 =>
      oLoad (some 26) x23 h34 fun x35 =>
      oStore (some 26) x3 x35 h34 fun h36 =>
      oLoad (some 26) x3 h36 fun r37 =>
      finish objs.length (.ok (.tup [r37, x10, (.s (.int .i64 0))])) h36))
| _ => none

/-- bailey/dir.Drop -/
def dir_Drop : CallFn := fun args objs =>
match args with
| [a0, a1] =>
oNew none (some 26) a0 objs fun x1 h2 =>
      oNew none (some 26) (.agg [.s (.int .u64 0), .s (.int .i64 0), .s (.int .i64 0), .s (.slice none 0 0), .s (.int .i64 0), .s (.slice none 0 0), .s (.int .i64 0), .s (.int .i64 0), .s (.slice none 0 0), .s (.slice none 0 0), .s (.int .u64 0), .s (.int .u64 0), .s (.int .u64 0), .s (.int .u64 0), .s (.int .i64 0), .s (.int .i64 0), .s (.bool false), .s (.int .u64 0), .s (.int .u64 0), .s (.int .u64 0), .s (.int .u64 0), .s (.int .u64 0), .s (.int .u64 0), .s (.int .u64 0), .s (.int .u64 0), .s (.int .u64 0)]) h2 fun x3 h4 =>
      oLoad (some 26) x1 h4 fun x5 =>
      oLend dir_place [x5, a1] h4 (fun v8 h9 => finish objs.length (.pan v8) h9) fun w34 h35 => oFrz w34 h35 fun x6 h7 =>
      oExtract 0 x6 fun x10 =>
      oExtract 1 x6 fun x11 =>
      oNot x11 fun x12 =>
      oCond x12 (oLoad (some 26) x1 h7 fun x13 =>
      oStore (some 26) x3 x13 h7 fun h14 =>
      oLoad (some 26) x3 h14 fun r15 =>
      finish objs.length (.ok (.tup [r15, (.s (.int .i64 124))])) h14)
      (oLoad (some 26) x1 h7 fun x16 =>
      oLend thing_Copy [x16] h7 (fun v19 h20 => finish objs.length (.pan v19) h20) fun x17 h18 =>
      oStore (some 26) x1 x17 h18 fun h21 =>
      oFieldA 8 x1 fun x22 =>
      oLoad none x22 h21 fun x23 =>
      oAr .add x10 (.s (.int .i64 1)) fun x24 =>
      oCall (primDelete 2 16) [x23, x10, x24] h21 (fun v27 h28 => finish objs.length (.pan v27) h28) fun x25 h26 =>
      oFieldA 8 x1 fun x29 =>
      oStore none x29 x25 h26 fun h30 =>
      oLoad (some 26) x1 h30 fun x31 =>
      oStore (some 26) x3 x31 h30 fun h32 =>
      oLoad (some 26) x3 h32 fun r33 =>
      finish objs.length (.ok (.tup [r33, (.s (.int .i64 0))])) h32)
| _ => none

def ref12_Drop_k1 (s19 : List A × Heap) (h15 : Heap) : Ex → List A → Heap → Option ((List A × Heap) ⊕ (Ex × List A × Heap)) := fun e36 vs34 h35 =>
      (match e36 with
  | .normal => oAr .add (s19.1.getD 1 .any) (.s (.int .i64 1)) fun x39 =>
      (trim true h15.length [(vs34.getD 0 .any), x39] h35).map .inl
  | .exit i37 => (trim true h15.length [(vs34.getD 0 .any)] h35).map fun p => .inr (Ex.exit i37, p.1, p.2)
  | .ret => (trim true h15.length [(vs34.getD 0 .any)] h35).map fun p => .inr (Ex.ret, p.1, p.2)
  | .panic v38 => some (.inr (Ex.panic v38, [.any], h35)))

def ref12_Drop_l2 (x18 : A) (x17 : A) (a1 : A) (h15 : Heap) : List A × Heap → Option ((List A × Heap) ⊕ (Ex × List A × Heap)) := fun s19 =>
      oCmp .lss (s19.1.getD 1 .any) x18 fun x20 =>
      oCond x20 (oJoin (oIdxA 2 x17 (s19.1.getD 1 .any) fun x21 =>
      oLoad (some 2) x21 s19.2 fun x22 =>
      oNew none (some 2) (.agg [.s (.int .u64 0), .s (.int .i64 0)]) s19.2 fun x23 h24 =>
      oStore (some 2) x23 x22 h24 fun h25 =>
      oFieldA 0 x23 fun x26 =>
      oLoad none x26 h25 fun x27 =>
      oCmp .neq x27 a1 fun x28 =>
      oCond x28 (oLoad (some 2) x23 h25 fun x29 =>
      oNewSlice none 2 (asRows (some 2) [x29]) h25 fun x30 h31 =>
      oAppend none 2 16 (s19.1.getD 0 .any) x30 h31 fun x32 h33 =>
      (trim true s19.2.length [x32] h33).map fun p => (Ex.normal, p.1, p.2))
      ((trim true s19.2.length [(s19.1.getD 0 .any)] h25).map fun p => (Ex.normal, p.1, p.2))) (ref12_Drop_k1 s19 h15))
      ((trim true h15.length [(s19.1.getD 0 .any)] s19.2).map fun p => .inr (Ex.exit 0, p.1, p.2))

def ref12_Drop_k3 (x1 : A) (x3 : A) (objs : Heap) : Ex → List A → Heap → Option (Out × Heap) := fun e40 vs41 h42 =>
      (match e40 with
  | .normal => none
  | .exit i43 => if i43 = 0 then oFieldA 8 x1 fun x45 =>
      oStore none x45 (vs41.getD 0 .any) h42 fun h46 =>
      oLoad (some 26) x1 h46 fun x47 =>
      oStore (some 26) x3 x47 h46 fun h48 =>
      oLoad (some 26) x3 h48 fun r49 =>
      finish objs.length (.ok (.tup [r49, (.s (.int .i64 0))])) h48 else none
  | .ret => oLoad (some 26) x3 h42 fun r50 =>
      finish objs.length (.ok (.tup [r50, (.s (.int .i64 0))])) h42
  | .panic v44 => finish objs.length (.pan v44) h42)

/-- bailey/baileyref12.Drop -/
def ref12_Drop : CallFn := fun args objs =>
match args with
| [a0, a1] =>
oNew none (some 26) a0 objs fun x1 h2 =>
      oNew none (some 26) (.agg [.s (.int .u64 0), .s (.int .i64 0), .s (.int .i64 0), .s (.slice none 0 0), .s (.int .i64 0), .s (.slice none 0 0), .s (.int .i64 0), .s (.int .i64 0), .s (.slice none 0 0), .s (.slice none 0 0), .s (.int .u64 0), .s (.int .u64 0), .s (.int .u64 0), .s (.int .u64 0), .s (.int .i64 0), .s (.int .i64 0), .s (.bool false), .s (.int .u64 0), .s (.int .u64 0), .s (.int .u64 0), .s (.int .u64 0), .s (.int .u64 0), .s (.int .u64 0), .s (.int .u64 0), .s (.int .u64 0), .s (.int .u64 0)]) h2 fun x3 h4 =>
      oLoad (some 26) x1 h4 fun x5 =>
      oLend ref12_Has [x5, a1] h4 (fun v8 h9 => finish objs.length (.pan v8) h9) fun w51 h52 => oFrz w51 h52 fun x6 h7 =>
      oNot x6 fun x10 =>
      oCond x10 (oLoad (some 26) x1 h7 fun x11 =>
      oStore (some 26) x3 x11 h7 fun h12 =>
      oLoad (some 26) x3 h12 fun r13 =>
      finish objs.length (.ok (.tup [r13, (.s (.int .i64 124))])) h12)
      (oNewSlice none 2 (asRows (some 2) []) h7 fun x14 h15 =>
      oFieldA 8 x1 fun x16 =>
      oLoad none x16 h15 fun x17 =>
      oLen x17 fun x18 =>
      oLoop (ref12_Drop_l2 x18 x17 a1 h15) ([x14, (.s (.int .i64 0))], h15) (ref12_Drop_k3 x1 x3 objs))
| _ => none

def law12_DirChanges_k1 (x38 : A) (x48 : A) (objs : Heap) (x59 : A) (x70 : A) (x80 : A) (x90 : A) (x28 : A) (x1 : A) : Ex → List A → Heap → Option (Out × Heap) := fun e99 vs97 h98 =>
      (match e99 with
  | .normal => oGuard (vs97.getD 0 .any) true (fun _ => oLoad (some 26) x38 h98 fun x102 =>
      oLoad (some 26) x48 h98 fun x103 =>
      oLend ref11_Same [x102, x103] h98 (fun v106 h107 => finish objs.length (.pan v106) h107) fun w132 h133 => oFrz w132 h133 fun x104 h105 =>
      oGuard x104 true (fun _ => oLoad (some 26) x59 h105 fun x108 =>
      oLoad (some 26) x70 h105 fun x109 =>
      oLend ref11_Same [x108, x109] h105 (fun v112 h113 => finish objs.length (.pan v112) h113) fun w130 h131 => oFrz w130 h131 fun x110 h111 =>
      oGuard x110 true (fun _ => oLoad (some 26) x80 h111 fun x114 =>
      oLoad (some 26) x90 h111 fun x115 =>
      oLend ref11_Same [x114, x115] h111 (fun v118 h119 => finish objs.length (.pan v118) h119) fun w128 h129 => oFrz w128 h129 fun x116 h117 =>
      oGuard x116 true (fun _ => oLoad (some 26) x28 h117 fun x120 =>
      oLoad (some 26) x1 h117 fun x121 =>
      oLend ref11_Same [x120, x121] h117 (fun v124 h125 => finish objs.length (.pan v124) h125) fun w126 h127 => oFrz w126 h127 fun x122 h123 =>
      finish objs.length (.ok x122) h123)
      (fun _ => finish objs.length (.ok (.s (.bool false))) h117))
      (fun _ => finish objs.length (.ok (.s (.bool false))) h111))
      (fun _ => finish objs.length (.ok (.s (.bool false))) h105))
      (fun _ => finish objs.length (.ok (.s (.bool false))) h98)
  | .exit i100 => none
  | .ret => finish objs.length (.ok (.s (.bool false))) h98
  | .panic v101 => finish objs.length (.pan v101) h98)

def law12_DirChanges_k2 (objs : Heap) (x1 : A) (a1 : A) (a2 : A) : Ex → List A → Heap → Option (Out × Heap) := fun e20 vs18 h19 =>
      (match e20 with
  | .normal => oCond (vs18.getD 0 .any) (finish objs.length (.ok (.s (.bool true))) h19)
      (oLoad (some 26) x1 h19 fun x23 =>
      oLend ref11_Copy [x23] h19 (fun v26 h27 => finish objs.length (.pan v26) h27) fun w146 h147 => oFrz w146 h147 fun x24 h25 =>
      oNew none (some 26) (.agg [.s (.int .u64 0), .s (.int .i64 0), .s (.int .i64 0), .s (.slice none 0 0), .s (.int .i64 0), .s (.slice none 0 0), .s (.int .i64 0), .s (.int .i64 0), .s (.slice none 0 0), .s (.slice none 0 0), .s (.int .u64 0), .s (.int .u64 0), .s (.int .u64 0), .s (.int .u64 0), .s (.int .i64 0), .s (.int .i64 0), .s (.bool false), .s (.int .u64 0), .s (.int .u64 0), .s (.int .u64 0), .s (.int .u64 0), .s (.int .u64 0), .s (.int .u64 0), .s (.int .u64 0), .s (.int .u64 0), .s (.int .u64 0)]) h25 fun x28 h29 =>
      oStore (some 26) x28 x24 h29 fun h30 =>
      oLoad (some 26) x28 h30 fun x31 =>
      oLend dir_Add [x31, a1, a2] h30 (fun v34 h35 => finish objs.length (.pan v34) h35) fun w144 h145 => oFrz w144 h145 fun x32 h33 =>
      oExtract 0 x32 fun x36 =>
      oExtract 1 x32 fun x37 =>
      oNew none (some 26) (.agg [.s (.int .u64 0), .s (.int .i64 0), .s (.int .i64 0), .s (.slice none 0 0), .s (.int .i64 0), .s (.slice none 0 0), .s (.int .i64 0), .s (.int .i64 0), .s (.slice none 0 0), .s (.slice none 0 0), .s (.int .u64 0), .s (.int .u64 0), .s (.int .u64 0), .s (.int .u64 0), .s (.int .i64 0), .s (.int .i64 0), .s (.bool false), .s (.int .u64 0), .s (.int .u64 0), .s (.int .u64 0), .s (.int .u64 0), .s (.int .u64 0), .s (.int .u64 0), .s (.int .u64 0), .s (.int .u64 0), .s (.int .u64 0)]) h33 fun x38 h39 =>
      oStore (some 26) x38 x36 h39 fun h40 =>
      oLoad (some 26) x1 h40 fun x41 =>
      oLend ref12_Add [x41, a1, a2] h40 (fun v44 h45 => finish objs.length (.pan v44) h45) fun w142 h143 => oFrz w142 h143 fun x42 h43 =>
      oExtract 0 x42 fun x46 =>
      oExtract 1 x42 fun x47 =>
      oNew none (some 26) (.agg [.s (.int .u64 0), .s (.int .i64 0), .s (.int .i64 0), .s (.slice none 0 0), .s (.int .i64 0), .s (.slice none 0 0), .s (.int .i64 0), .s (.int .i64 0), .s (.slice none 0 0), .s (.slice none 0 0), .s (.int .u64 0), .s (.int .u64 0), .s (.int .u64 0), .s (.int .u64 0), .s (.int .i64 0), .s (.int .i64 0), .s (.bool false), .s (.int .u64 0), .s (.int .u64 0), .s (.int .u64 0), .s (.int .u64 0), .s (.int .u64 0), .s (.int .u64 0), .s (.int .u64 0), .s (.int .u64 0), .s (.int .u64 0)]) h43 fun x48 h49 =>
      oStore (some 26) x48 x46 h49 fun h50 =>
      oLoad (some 26) x28 h50 fun x51 =>
      oLend dir_Born [x51, a2] h50 (fun v54 h55 => finish objs.length (.pan v54) h55) fun w140 h141 => oFrz w140 h141 fun x52 h53 =>
      oExtract 0 x52 fun x56 =>
      oExtract 1 x52 fun x57 =>
      oExtract 2 x52 fun x58 =>
      oNew none (some 26) (.agg [.s (.int .u64 0), .s (.int .i64 0), .s (.int .i64 0), .s (.slice none 0 0), .s (.int .i64 0), .s (.slice none 0 0), .s (.int .i64 0), .s (.int .i64 0), .s (.slice none 0 0), .s (.slice none 0 0), .s (.int .u64 0), .s (.int .u64 0), .s (.int .u64 0), .s (.int .u64 0), .s (.int .i64 0), .s (.int .i64 0), .s (.bool false), .s (.int .u64 0), .s (.int .u64 0), .s (.int .u64 0), .s (.int .u64 0), .s (.int .u64 0), .s (.int .u64 0), .s (.int .u64 0), .s (.int .u64 0), .s (.int .u64 0)]) h53 fun x59 h60 =>
      oStore (some 26) x59 x56 h60 fun h61 =>
      oLoad (some 26) x1 h61 fun x62 =>
      oLend ref12_Born [x62, a2] h61 (fun v65 h66 => finish objs.length (.pan v65) h66) fun w138 h139 => oFrz w138 h139 fun x63 h64 =>
      oExtract 0 x63 fun x67 =>
      oExtract 1 x63 fun x68 =>
      oExtract 2 x63 fun x69 =>
      oNew none (some 26) (.agg [.s (.int .u64 0), .s (.int .i64 0), .s (.int .i64 0), .s (.slice none 0 0), .s (.int .i64 0), .s (.slice none 0 0), .s (.int .i64 0), .s (.int .i64 0), .s (.slice none 0 0), .s (.slice none 0 0), .s (.int .u64 0), .s (.int .u64 0), .s (.int .u64 0), .s (.int .u64 0), .s (.int .i64 0), .s (.int .i64 0), .s (.bool false), .s (.int .u64 0), .s (.int .u64 0), .s (.int .u64 0), .s (.int .u64 0), .s (.int .u64 0), .s (.int .u64 0), .s (.int .u64 0), .s (.int .u64 0), .s (.int .u64 0)]) h64 fun x70 h71 =>
      oStore (some 26) x70 x67 h71 fun h72 =>
      oLoad (some 26) x28 h72 fun x73 =>
      oLend dir_Drop [x73, a1] h72 (fun v76 h77 => finish objs.length (.pan v76) h77) fun w136 h137 => oFrz w136 h137 fun x74 h75 =>
      oExtract 0 x74 fun x78 =>
      oExtract 1 x74 fun x79 =>
      oNew none (some 26) (.agg [.s (.int .u64 0), .s (.int .i64 0), .s (.int .i64 0), .s (.slice none 0 0), .s (.int .i64 0), .s (.slice none 0 0), .s (.int .i64 0), .s (.int .i64 0), .s (.slice none 0 0), .s (.slice none 0 0), .s (.int .u64 0), .s (.int .u64 0), .s (.int .u64 0), .s (.int .u64 0), .s (.int .i64 0), .s (.int .i64 0), .s (.bool false), .s (.int .u64 0), .s (.int .u64 0), .s (.int .u64 0), .s (.int .u64 0), .s (.int .u64 0), .s (.int .u64 0), .s (.int .u64 0), .s (.int .u64 0), .s (.int .u64 0)]) h75 fun x80 h81 =>
      oStore (some 26) x80 x78 h81 fun h82 =>
      oLoad (some 26) x1 h82 fun x83 =>
      oLend ref12_Drop [x83, a1] h82 (fun v86 h87 => finish objs.length (.pan v86) h87) fun w134 h135 => oFrz w134 h135 fun x84 h85 =>
      oExtract 0 x84 fun x88 =>
      oExtract 1 x84 fun x89 =>
      oNew none (some 26) (.agg [.s (.int .u64 0), .s (.int .i64 0), .s (.int .i64 0), .s (.slice none 0 0), .s (.int .i64 0), .s (.slice none 0 0), .s (.int .i64 0), .s (.int .i64 0), .s (.slice none 0 0), .s (.slice none 0 0), .s (.int .u64 0), .s (.int .u64 0), .s (.int .u64 0), .s (.int .u64 0), .s (.int .i64 0), .s (.int .i64 0), .s (.bool false), .s (.int .u64 0), .s (.int .u64 0), .s (.int .u64 0), .s (.int .u64 0), .s (.int .u64 0), .s (.int .u64 0), .s (.int .u64 0), .s (.int .u64 0), .s (.int .u64 0)]) h85 fun x90 h91 =>
      oStore (some 26) x90 x88 h91 fun h92 =>
      oJoin (oCmp .eql x37 x47 fun x93 =>
      oGuard x93 true (fun _ => oCmp .eql x58 x69 fun x94 =>
      oGuard x94 true (fun _ => oCmp .eql x79 x89 fun x95 =>
      oGuard x95 true (fun _ => oCmp .eql x57 x68 fun x96 =>
      (trim true h92.length [x96] h92).map fun p => (Ex.normal, p.1, p.2))
      (fun _ => (trim true h92.length [(.s (.bool false))] h92).map fun p => (Ex.normal, p.1, p.2)))
      (fun _ => (trim true h92.length [(.s (.bool false))] h92).map fun p => (Ex.normal, p.1, p.2)))
      (fun _ => (trim true h92.length [(.s (.bool false))] h92).map fun p => (Ex.normal, p.1, p.2))) (law12_DirChanges_k1 x38 x48 objs x59 x70 x80 x90 x28 x1))
  | .exit i21 => none
  | .ret => finish objs.length (.ok (.s (.bool false))) h19
  | .panic v22 => finish objs.length (.pan v22) h19)

/-- bailey/baileylaw12.DirChanges -/
def law12_DirChanges : CallFn := fun args objs =>
match args with
| [a0, a1, a2] =>
oNew none (some 26) a0 objs fun x1 h2 =>
      oLend law12_dirAlive [] h2 (fun v5 h6 => finish objs.length (.pan v5) h6) fun w148 h149 => oFrz w148 h149 fun x3 h4 =>
      oNot x3 fun x7 =>
      oCond x7 (finish objs.length (.ok (.s (.bool false))) h4)
      (oJoin (oLoad (some 26) x1 h4 fun x8 =>
      oLend law12_directory [x8] h4 (fun v11 h12 => some (Ex.panic v11, [], h12)) fun w16 h17 => oFrz w16 h17 fun x9 h10 =>
      oNot x9 fun x13 =>
      oGuard x13 false (fun _ => oCmp .lss a1 (.s (.int .u64 1)) fun x14 =>
      oGuard x14 false (fun _ => oCmp .geq a1 (.s (.int .u64 281474976710656)) fun x15 =>
      (trim true h4.length [x15] h10).map fun p => (Ex.normal, p.1, p.2))
      (fun _ => (trim true h4.length [(.s (.bool true))] h10).map fun p => (Ex.normal, p.1, p.2)))
      (fun _ => (trim true h4.length [(.s (.bool true))] h10).map fun p => (Ex.normal, p.1, p.2))) (law12_DirChanges_k2 objs x1 a1 a2))
| _ => none

def law12_DirHolds_l1 (x60 : A) (s31 : List A × Heap) (x54 : A) (h58 : Heap) : List A × Heap → Option ((List A × Heap) ⊕ (Ex × List A × Heap)) := fun s61 =>
      oCmp .lss (s61.1.getD 0 .any) x60 fun x62 =>
      oCond x62 (oIdxA 1 (s31.1.getD 0 .any) (s61.1.getD 0 .any) fun x63 =>
      oLoad none x63 s61.2 fun x64 =>
      oCmp .eql x64 x54 fun x65 =>
      oCond x65 ((trim true h58.length [(.s (.bool false))] s61.2).map fun p => .inr (Ex.ret, p.1, p.2))
      (oAr .add (s61.1.getD 0 .any) (.s (.int .i64 1)) fun x66 =>
      (trim true h58.length [x66] s61.2).map .inl))
      ((trim true h58.length [.any] s61.2).map fun p => .inr (Ex.exit 3, p.1, p.2))

def law12_DirHolds_k2 (h58 : Heap) (x74 : A) (vs68 : List A) : Ex → List A → Heap → Option (Ex × List A × Heap) := fun e98 vs96 h97 =>
      (match e98 with
  | .normal => oCond (vs96.getD 0 .any) ((trim true h58.length [(.s (.bool false)), x74] h97).map fun p => (Ex.ret, p.1, p.2))
      ((trim true h58.length [(vs68.getD 0 .any), x74] h97).map fun p => (Ex.normal, p.1, p.2))
  | .exit i99 => (trim true h58.length [(vs68.getD 0 .any), x74] h97).map fun p => (Ex.exit i99, p.1, p.2)
  | .ret => (trim true h58.length [(vs68.getD 0 .any), x74] h97).map fun p => (Ex.ret, p.1, p.2)
  | .panic v100 => some (Ex.panic v100, [], h97))

def law12_DirHolds_k3 (x54 : A) (s31 : List A × Heap) (a0 : A) (x56 : A) (x35 : A) (x39 : A) (h58 : Heap) : Ex → List A → Heap → Option (Ex × List A × Heap) := fun e67 vs68 h69 =>
      (match e67 with
  | .normal => none
  | .exit i70 => if i70 = 3 then oNewSlice none 1 (asRows none [x54]) h69 fun x72 h73 =>
      oAppend none 1 8 (s31.1.getD 0 .any) x72 h73 fun x74 h75 =>
      oJoin (oAr .quo x54 (.s (.int .u64 64)) fun x76 =>
      oCmp .neq x76 a0 fun x77 =>
      oGuard x77 false (fun _ => oLoadD h75.length [] (some 26) x56 h75 fun x78 h79 =>
      oCallF h75.length [] dir_Used [x78] h79 fun w94 h95 => oFrz w94 h95 fun x80 h81 =>
      oFieldA 1 x35 fun x82 =>
      oLoadD h75.length [] none x82 h81 fun x83 h84 =>
      oAr .add x39 x83 fun x85 =>
      oCmp .neq x80 x85 fun x86 =>
      oGuard x86 false (fun _ => oLoadD h75.length [] (some 26) x56 h84 fun x87 h88 =>
      oCallF h75.length [] dir_Has [x87, x54] h88 fun w92 h93 => oFrz w92 h93 fun x89 h90 =>
      oNot x89 fun x91 =>
      (trim true h75.length [x91] h90).map fun p => (Ex.normal, p.1, p.2))
      (fun _ => (trim true h75.length [(.s (.bool true))] h84).map fun p => (Ex.normal, p.1, p.2)))
      (fun _ => (trim true h75.length [(.s (.bool true))] h75).map fun p => (Ex.normal, p.1, p.2))) (law12_DirHolds_k2 h58 x74 vs68) else (trim true h58.length [(vs68.getD 0 .any), (s31.1.getD 0 .any)] h69).map fun p => (Ex.exit i70, p.1, p.2)
  | .ret => (trim true h58.length [(vs68.getD 0 .any), (s31.1.getD 0 .any)] h69).map fun p => (Ex.ret, p.1, p.2)
  | .panic v71 => some (Ex.panic v71, [], h69))

def law12_DirHolds_k4 (x56 : A) (x10 : A) (h40 : Heap) : Ex → List A → Heap → Option (Ex × List A × Heap) := fun e103 vs101 h102 =>
      (match e103 with
  | .normal => oLoad (some 26) x56 h102 fun x106 =>
      oStore (some 26) x10 x106 h102 fun h107 =>
      (trim true h40.length [(vs101.getD 0 .any), (vs101.getD 1 .any)] h107).map fun p => (Ex.normal, p.1, p.2)
  | .exit i104 => if i104 = 2 then (trim true h40.length [(vs101.getD 0 .any), (vs101.getD 1 .any)] h102).map fun p => (Ex.normal, p.1, p.2) else (trim true h40.length [(vs101.getD 0 .any), (vs101.getD 1 .any)] h102).map fun p => (Ex.exit i104, p.1, p.2)
  | .ret => (trim true h40.length [(vs101.getD 0 .any), (vs101.getD 1 .any)] h102).map fun p => (Ex.ret, p.1, p.2)
  | .panic v105 => some (Ex.panic v105, [], h102))

def law12_DirHolds_k5 (h40 : Heap) : Ex → List A → Heap → Option (Ex × List A × Heap) := fun e119 vs117 h118 =>
      (match e119 with
  | .normal => oCond (vs117.getD 0 .any) ((trim true h40.length [(vs117.getD 0 .any)] h118).map fun p => (Ex.exit 1, p.1, p.2))
      ((trim true h40.length [(vs117.getD 0 .any)] h118).map fun p => (Ex.normal, p.1, p.2))
  | .exit i120 => (trim true h40.length [(vs117.getD 0 .any)] h118).map fun p => (Ex.exit i120, p.1, p.2)
  | .ret => (trim true h40.length [(vs117.getD 0 .any)] h118).map fun p => (Ex.ret, p.1, p.2)
  | .panic v121 => some (Ex.panic v121, [], h118))

def law12_DirHolds_k6 (h40 : Heap) (s31 : List A × Heap) (x138 : A) (x10 : A) : Ex → List A → Heap → Option (Ex × List A × Heap) := fun e165 vs163 h164 =>
      (match e165 with
  | .normal => oCond (vs163.getD 0 .any) ((trim true h40.length [(.s (.bool false)), (s31.1.getD 0 .any)] h164).map fun p => (Ex.ret, p.1, p.2))
      (oLoad (some 26) x138 h164 fun x168 =>
      oStore (some 26) x10 x168 h164 fun h169 =>
      (trim true h40.length [.any, (s31.1.getD 0 .any)] h169).map fun p => (Ex.normal, p.1, p.2))
  | .exit i166 => if i166 = 2 then (trim true h40.length [.any, (s31.1.getD 0 .any)] h164).map fun p => (Ex.normal, p.1, p.2) else (trim true h40.length [.any, (s31.1.getD 0 .any)] h164).map fun p => (Ex.exit i166, p.1, p.2)
  | .ret => (trim true h40.length [.any, (s31.1.getD 0 .any)] h164).map fun p => (Ex.ret, p.1, p.2)
  | .panic v167 => some (Ex.panic v167, [], h164))

def law12_DirHolds_k7 (x10 : A) (x35 : A) (x39 : A) (h40 : Heap) (s31 : List A × Heap) : Ex → List A → Heap → Option (Ex × List A × Heap) := fun e124 vs122 h123 =>
      (match e124 with
  | .normal => oLoad (some 26) x10 h123 fun x127 =>
      oFieldA 2 x35 fun x128 =>
      oLoad none x128 h123 fun x129 =>
      oFieldA 1 x35 fun x130 =>
      oLoad none x130 h123 fun x131 =>
      oLend dir_Add [x127, x129, x131] h123 (fun v134 h135 => some (Ex.panic v134, [], h135)) fun w170 h171 => oFrz w170 h171 fun x132 h133 =>
      oExtract 0 x132 fun x136 =>
      oExtract 1 x132 fun x137 =>
      oNew none (some 26) (.agg [.s (.int .u64 0), .s (.int .i64 0), .s (.int .i64 0), .s (.slice none 0 0), .s (.int .i64 0), .s (.slice none 0 0), .s (.int .i64 0), .s (.int .i64 0), .s (.slice none 0 0), .s (.slice none 0 0), .s (.int .u64 0), .s (.int .u64 0), .s (.int .u64 0), .s (.int .u64 0), .s (.int .i64 0), .s (.int .i64 0), .s (.bool false), .s (.int .u64 0), .s (.int .u64 0), .s (.int .u64 0), .s (.int .u64 0), .s (.int .u64 0), .s (.int .u64 0), .s (.int .u64 0), .s (.int .u64 0), .s (.int .u64 0)]) h133 fun x138 h139 =>
      oStore (some 26) x138 x136 h139 fun h140 =>
      oJoin (oCmp .eql x137 (.s (.int .i64 0)) fun x141 =>
      oGuard x141 true (fun _ => oLoadD h140.length [] (some 26) x138 h140 fun x142 h143 =>
      oCallF h140.length [] dir_Used [x142] h143 fun w161 h162 => oFrz w161 h162 fun x144 h145 =>
      oFieldA 1 x35 fun x146 =>
      oLoadD h140.length [] none x146 h145 fun x147 h148 =>
      oAr .add x39 x147 fun x149 =>
      oCmp .neq x144 x149 fun x150 =>
      oGuard x150 false (fun _ => oLoadD h140.length [] (some 26) x138 h148 fun x151 h152 =>
      oFieldA 2 x35 fun x153 =>
      oLoadD h140.length [] none x153 h152 fun x154 h155 =>
      oCallF h140.length [] dir_Has [x151, x154] h155 fun w159 h160 => oFrz w159 h160 fun x156 h157 =>
      oNot x156 fun x158 =>
      (trim true h140.length [x158] h157).map fun p => (Ex.normal, p.1, p.2))
      (fun _ => (trim true h140.length [(.s (.bool true))] h148).map fun p => (Ex.normal, p.1, p.2)))
      (fun _ => (trim true h140.length [(.s (.bool false))] h140).map fun p => (Ex.normal, p.1, p.2))) (law12_DirHolds_k6 h40 s31 x138 x10)
  | .exit i125 => if i125 = 2 then (trim true h40.length [.any, (s31.1.getD 0 .any)] h123).map fun p => (Ex.normal, p.1, p.2) else (trim true h40.length [.any, (s31.1.getD 0 .any)] h123).map fun p => (Ex.exit i125, p.1, p.2)
  | .ret => (trim true h40.length [.any, (s31.1.getD 0 .any)] h123).map fun p => (Ex.ret, p.1, p.2)
  | .panic v126 => some (Ex.panic v126, [], h123))

def law12_DirHolds_k8 (h40 : Heap) (s31 : List A × Heap) (x182 : A) (x10 : A) : Ex → List A → Heap → Option (Ex × List A × Heap) := fun e207 vs205 h206 =>
      (match e207 with
  | .normal => oCond (vs205.getD 0 .any) ((trim true h40.length [(.s (.bool false)), (s31.1.getD 0 .any)] h206).map fun p => (Ex.ret, p.1, p.2))
      (oLoad (some 26) x182 h206 fun x210 =>
      oStore (some 26) x10 x210 h206 fun h211 =>
      (trim true h40.length [.any, (s31.1.getD 0 .any)] h211).map fun p => (Ex.normal, p.1, p.2))
  | .exit i208 => if i208 = 2 then (trim true h40.length [.any, (s31.1.getD 0 .any)] h206).map fun p => (Ex.normal, p.1, p.2) else (trim true h40.length [.any, (s31.1.getD 0 .any)] h206).map fun p => (Ex.exit i208, p.1, p.2)
  | .ret => (trim true h40.length [.any, (s31.1.getD 0 .any)] h206).map fun p => (Ex.ret, p.1, p.2)
  | .panic v209 => some (Ex.panic v209, [], h206))

def law12_DirHolds_k9 (s31 : List A × Heap) (vs214 : List A) : Ex → List A → Heap → Option (Ex × List A × Heap) := fun e243 vs241 h242 =>
      (match e243 with
  | .normal => oCond (vs241.getD 0 .any) ((trim true s31.2.length [(.s (.bool false)), (vs214.getD 1 .any)] h242).map fun p => (Ex.ret, p.1, p.2))
      ((trim true s31.2.length [(vs214.getD 0 .any), (vs214.getD 1 .any)] h242).map fun p => (Ex.normal, p.1, p.2))
  | .exit i244 => if i244 = 1 then (trim true s31.2.length [(vs214.getD 0 .any), (vs214.getD 1 .any)] h242).map fun p => (Ex.normal, p.1, p.2) else (trim true s31.2.length [(vs214.getD 0 .any), (vs214.getD 1 .any)] h242).map fun p => (Ex.exit i244, p.1, p.2)
  | .ret => (trim true s31.2.length [(vs214.getD 0 .any), (vs214.getD 1 .any)] h242).map fun p => (Ex.ret, p.1, p.2)
  | .panic v245 => some (Ex.panic v245, [], h242))

def law12_DirHolds_k10 (x10 : A) (a1 : A) (a0 : A) (s31 : List A × Heap) : Ex → List A → Heap → Option (Ex × List A × Heap) := fun e216 vs214 h215 =>
      (match e216 with
  | .normal => oJoin (oLoad (some 26) x10 h215 fun x219 =>
      oLend law12_directory [x219] h215 (fun v222 h223 => some (Ex.panic v222, [], h223)) fun w239 h240 => oFrz w239 h240 fun x220 h221 =>
      oNot x220 fun x224 =>
      oGuard x224 false (fun _ => oLoad (some 26) x10 h221 fun x225 =>
      oLend dir_Used [x225] h221 (fun v228 h229 => some (Ex.panic v228, [], h229)) fun w237 h238 => oFrz w237 h238 fun x226 h227 =>
      oCmp .gtr x226 a1 fun x230 =>
      oGuard x230 false (fun _ => oFieldA 0 x10 fun x231 =>
      oLoad none x231 h227 fun x232 =>
      oCmp .neq x232 a0 fun x233 =>
      oGuard x233 false (fun _ => oFieldA 6 x10 fun x234 =>
      oLoad none x234 h227 fun x235 =>
      oCmp .neq x235 a1 fun x236 =>
      (trim true h215.length [x236] h227).map fun p => (Ex.normal, p.1, p.2))
      (fun _ => (trim true h215.length [(.s (.bool true))] h227).map fun p => (Ex.normal, p.1, p.2)))
      (fun _ => (trim true h215.length [(.s (.bool true))] h227).map fun p => (Ex.normal, p.1, p.2)))
      (fun _ => (trim true h215.length [(.s (.bool true))] h221).map fun p => (Ex.normal, p.1, p.2))) (law12_DirHolds_k9 s31 vs214)
  | .exit i217 => if i217 = 1 then (trim true s31.2.length [(vs214.getD 0 .any), (vs214.getD 1 .any)] h215).map fun p => (Ex.normal, p.1, p.2) else (trim true s31.2.length [(vs214.getD 0 .any), (vs214.getD 1 .any)] h215).map fun p => (Ex.exit i217, p.1, p.2)
  | .ret => (trim true s31.2.length [(vs214.getD 0 .any), (vs214.getD 1 .any)] h215).map fun p => (Ex.ret, p.1, p.2)
  | .panic v218 => some (Ex.panic v218, [], h215))

def law12_DirHolds_k11 (s31 : List A × Heap) (h29 : Heap) : Ex → List A → Heap → Option ((List A × Heap) ⊕ (Ex × List A × Heap)) := fun e250 vs248 h249 =>
      (match e250 with
  | .normal => oAr .add (s31.1.getD 1 .any) (.s (.int .i64 1)) fun x253 =>
      (trim true h29.length [(vs248.getD 1 .any), x253] h249).map .inl
  | .exit i251 => (trim true h29.length [(vs248.getD 0 .any)] h249).map fun p => .inr (Ex.exit i251, p.1, p.2)
  | .ret => (trim true h29.length [(vs248.getD 0 .any)] h249).map fun p => .inr (Ex.ret, p.1, p.2)
  | .panic v252 => some (.inr (Ex.panic v252, [.any], h249)))

def law12_DirHolds_l12 (x30 : A) (a2 : A) (x10 : A) (a0 : A) (a1 : A) (h29 : Heap) : List A × Heap → Option ((List A × Heap) ⊕ (Ex × List A × Heap)) := fun s31 =>
      oCmp .lss (s31.1.getD 1 .any) x30 fun x32 =>
      oCond x32 (oJoin (oIdxA 3 a2 (s31.1.getD 1 .any) fun x33 =>
      oLoad (some 3) x33 s31.2 fun x34 =>
      oNew none (some 3) (.agg [.s (.int .i64 0), .s (.int .i64 0), .s (.int .u64 0)]) s31.2 fun x35 h36 =>
      oStore (some 3) x35 x34 h36 fun h37 =>
      oLoad (some 26) x10 h37 fun x38 =>
      oLend dir_Used [x38] h37 (fun v41 h42 => some (Ex.panic v41, [], h42)) fun w246 h247 => oFrz w246 h247 fun x39 h40 =>
      oJoin (oFieldA 0 x35 fun x43 =>
      oLoad none x43 h40 fun x44 =>
      oCmp .eql x44 (.s (.int .i64 0)) fun x45 =>
      oCond x45 (oLoad (some 26) x10 h40 fun x46 =>
      oFieldA 1 x35 fun x47 =>
      oLoad none x47 h40 fun x48 =>
      oLend dir_Born [x46, x48] h40 (fun v51 h52 => some (Ex.panic v51, [], h52)) fun w108 h109 => oFrz w108 h109 fun x49 h50 =>
      oExtract 0 x49 fun x53 =>
      oExtract 1 x49 fun x54 =>
      oExtract 2 x49 fun x55 =>
      oNew none (some 26) (.agg [.s (.int .u64 0), .s (.int .i64 0), .s (.int .i64 0), .s (.slice none 0 0), .s (.int .i64 0), .s (.slice none 0 0), .s (.int .i64 0), .s (.int .i64 0), .s (.slice none 0 0), .s (.slice none 0 0), .s (.int .u64 0), .s (.int .u64 0), .s (.int .u64 0), .s (.int .u64 0), .s (.int .i64 0), .s (.int .i64 0), .s (.bool false), .s (.int .u64 0), .s (.int .u64 0), .s (.int .u64 0), .s (.int .u64 0), .s (.int .u64 0), .s (.int .u64 0), .s (.int .u64 0), .s (.int .u64 0), .s (.int .u64 0)]) h50 fun x56 h57 =>
      oStore (some 26) x56 x53 h57 fun h58 =>
      oJoin (oCmp .eql x55 (.s (.int .i64 0)) fun x59 =>
      oCond x59 (oLen (s31.1.getD 0 .any) fun x60 =>
      oLoop (law12_DirHolds_l1 x60 s31 x54 h58) ([(.s (.int .i64 0))], h58) (law12_DirHolds_k3 x54 s31 a0 x56 x35 x39 h58))
      ((trim true h58.length [.any, (s31.1.getD 0 .any)] h58).map fun p => (Ex.normal, p.1, p.2))) (law12_DirHolds_k4 x56 x10 h40))
      (oCmp .eql x44 (.s (.int .i64 1)) fun x110 =>
      oCond x110 (oJoin (oJoin (oFieldA 2 x35 fun x111 =>
      oLoad none x111 h40 fun x112 =>
      oCmp .lss x112 (.s (.int .u64 1)) fun x113 =>
      oGuard x113 false (fun _ => oFieldA 2 x35 fun x114 =>
      oLoad none x114 h40 fun x115 =>
      oCmp .geq x115 (.s (.int .u64 281474976710656)) fun x116 =>
      (trim true h40.length [x116] h40).map fun p => (Ex.normal, p.1, p.2))
      (fun _ => (trim true h40.length [(.s (.bool true))] h40).map fun p => (Ex.normal, p.1, p.2))) (law12_DirHolds_k5 h40)) (law12_DirHolds_k7 x10 x35 x39 h40 s31))
      (oCmp .eql x44 (.s (.int .i64 2)) fun x172 =>
      oCond x172 (oLoad (some 26) x10 h40 fun x173 =>
      oFieldA 2 x35 fun x174 =>
      oLoad none x174 h40 fun x175 =>
      oLend dir_Drop [x173, x175] h40 (fun v178 h179 => some (Ex.panic v178, [], h179)) fun w212 h213 => oFrz w212 h213 fun x176 h177 =>
      oExtract 0 x176 fun x180 =>
      oExtract 1 x176 fun x181 =>
      oNew none (some 26) (.agg [.s (.int .u64 0), .s (.int .i64 0), .s (.int .i64 0), .s (.slice none 0 0), .s (.int .i64 0), .s (.slice none 0 0), .s (.int .i64 0), .s (.int .i64 0), .s (.slice none 0 0), .s (.slice none 0 0), .s (.int .u64 0), .s (.int .u64 0), .s (.int .u64 0), .s (.int .u64 0), .s (.int .i64 0), .s (.int .i64 0), .s (.bool false), .s (.int .u64 0), .s (.int .u64 0), .s (.int .u64 0), .s (.int .u64 0), .s (.int .u64 0), .s (.int .u64 0), .s (.int .u64 0), .s (.int .u64 0), .s (.int .u64 0)]) h177 fun x182 h183 =>
      oStore (some 26) x182 x180 h183 fun h184 =>
      oJoin (oCmp .eql x181 (.s (.int .i64 0)) fun x185 =>
      oLoad (some 26) x10 h184 fun x186 =>
      oFieldA 2 x35 fun x187 =>
      oLoad none x187 h184 fun x188 =>
      oLend dir_Has [x186, x188] h184 (fun v191 h192 => some (Ex.panic v191, [], h192)) fun w203 h204 => oFrz w203 h204 fun x189 h190 =>
      oEqBool true x185 x189 fun x193 =>
      oGuard x193 false (fun _ => oLoad (some 26) x182 h190 fun x194 =>
      oFieldA 2 x35 fun x195 =>
      oLoad none x195 h190 fun x196 =>
      oLend dir_Has [x194, x196] h190 (fun v199 h200 => some (Ex.panic v199, [], h200)) fun w201 h202 => oFrz w201 h202 fun x197 h198 =>
      (trim true h184.length [x197] h198).map fun p => (Ex.normal, p.1, p.2))
      (fun _ => (trim true h184.length [(.s (.bool true))] h190).map fun p => (Ex.normal, p.1, p.2))) (law12_DirHolds_k8 h40 s31 x182 x10))
      ((trim true h40.length [.any, (s31.1.getD 0 .any)] h40).map fun p => (Ex.normal, p.1, p.2))))) (law12_DirHolds_k10 x10 a1 a0 s31)) (law12_DirHolds_k11 s31 h29))
      ((trim true h29.length [.any] s31.2).map fun p => .inr (Ex.exit 0, p.1, p.2))

def law12_DirHolds_k13 (objs : Heap) : Ex → List A → Heap → Option (Out × Heap) := fun e254 vs255 h256 =>
      (match e254 with
  | .normal => none
  | .exit i257 => if i257 = 0 then finish objs.length (.ok (.s (.bool true))) h256 else none
  | .ret => finish objs.length (.ok (vs255.getD 0 .any)) h256
  | .panic v258 => finish objs.length (.pan v258) h256)

def law12_DirHolds_k14 (objs : Heap) (a2 : A) (x10 : A) (a0 : A) (a1 : A) : Ex → List A → Heap → Option (Out × Heap) := fun e25 vs23 h24 =>
      (match e25 with
  | .normal => oCond (vs23.getD 0 .any) (finish objs.length (.ok (.s (.bool true))) h24)
      (oNewSlice none 1 (asRows none []) h24 fun x28 h29 =>
      oLen a2 fun x30 =>
      oLoop (law12_DirHolds_l12 x30 a2 x10 a0 a1 h29) ([x28, (.s (.int .i64 0))], h29) (law12_DirHolds_k13 objs))
  | .exit i26 => none
  | .ret => finish objs.length (.ok (.s (.bool false))) h24
  | .panic v27 => finish objs.length (.pan v27) h24)

/-- bailey/baileylaw12.DirHolds -/
def law12_DirHolds : CallFn := fun args objs =>
match args with
| [a0, a1, a2] =>
oLend law12_dirAlive [] objs (fun v3 h4 => finish objs.length (.pan v3) h4) fun w261 h262 => oFrz w261 h262 fun x1 h2 =>
      oNot x1 fun x5 =>
      oCond x5 (finish objs.length (.ok (.s (.bool false))) h2)
      (oLend law12_small [a0, a1] h2 (fun v8 h9 => finish objs.length (.pan v8) h9) fun w259 h260 => oFrz w259 h260 fun x6 h7 =>
      oNew none (some 26) (.agg [.s (.int .u64 0), .s (.int .i64 0), .s (.int .i64 0), .s (.slice none 0 0), .s (.int .i64 0), .s (.slice none 0 0), .s (.int .i64 0), .s (.int .i64 0), .s (.slice none 0 0), .s (.slice none 0 0), .s (.int .u64 0), .s (.int .u64 0), .s (.int .u64 0), .s (.int .u64 0), .s (.int .i64 0), .s (.int .i64 0), .s (.bool false), .s (.int .u64 0), .s (.int .u64 0), .s (.int .u64 0), .s (.int .u64 0), .s (.int .u64 0), .s (.int .u64 0), .s (.int .u64 0), .s (.int .u64 0), .s (.int .u64 0)]) h7 fun x10 h11 =>
      oStore (some 26) x10 x6 h11 fun h12 =>
      oJoin (oLoad (some 26) x10 h12 fun x13 =>
      oLend law12_directory [x13] h12 (fun v16 h17 => some (Ex.panic v16, [], h17)) fun w21 h22 => oFrz w21 h22 fun x14 h15 =>
      oNot x14 fun x18 =>
      oGuard x18 false (fun _ => oLen a2 fun x19 =>
      oCmp .gtr x19 (.s (.int .i64 200)) fun x20 =>
      (trim true h12.length [x20] h15).map fun p => (Ex.normal, p.1, p.2))
      (fun _ => (trim true h12.length [(.s (.bool true))] h15).map fun p => (Ex.normal, p.1, p.2))) (law12_DirHolds_k14 objs a2 x10 a0 a1))
| _ => none

def law12_DirBack_k1 (h19 : Heap) : Ex → List A → Heap → Option (Ex × List A × Heap) := fun e56 vs54 h55 =>
      (match e56 with
  | .normal => oCond (vs54.getD 0 .any) ((trim true h19.length [(.s (.bool false))] h55).map fun p => (Ex.ret, p.1, p.2))
      ((trim true h19.length [(.s (.bool false))] h55).map fun p => (Ex.normal, p.1, p.2))
  | .exit i57 => (trim true h19.length [(.s (.bool false))] h55).map fun p => (Ex.exit i57, p.1, p.2)
  | .ret => (trim true h19.length [(.s (.bool false))] h55).map fun p => (Ex.ret, p.1, p.2)
  | .panic v58 => some (Ex.panic v58, [], h55))

def law12_DirBack_k2 (x1 : A) (a2 : A) (objs : Heap) : Ex → List A → Heap → Option (Out × Heap) := fun e65 vs63 h64 =>
      (match e65 with
  | .normal => oLoad (some 26) x1 h64 fun x68 =>
      oLend dir_Born [x68, a2] h64 (fun v71 h72 => finish objs.length (.pan v71) h72) fun w121 h122 => oFrz w121 h122 fun x69 h70 =>
      oExtract 0 x69 fun x73 =>
      oExtract 1 x69 fun x74 =>
      oExtract 2 x69 fun x75 =>
      oNew none (some 26) (.agg [.s (.int .u64 0), .s (.int .i64 0), .s (.int .i64 0), .s (.slice none 0 0), .s (.int .i64 0), .s (.slice none 0 0), .s (.int .i64 0), .s (.int .i64 0), .s (.slice none 0 0), .s (.slice none 0 0), .s (.int .u64 0), .s (.int .u64 0), .s (.int .u64 0), .s (.int .u64 0), .s (.int .i64 0), .s (.int .i64 0), .s (.bool false), .s (.int .u64 0), .s (.int .u64 0), .s (.int .u64 0), .s (.int .u64 0), .s (.int .u64 0), .s (.int .u64 0), .s (.int .u64 0), .s (.int .u64 0), .s (.int .u64 0)]) h70 fun x76 h77 =>
      oStore (some 26) x76 x73 h77 fun h78 =>
      oCmp .neq x75 (.s (.int .i64 0)) fun x79 =>
      oCond x79 (oLoad (some 26) x76 h78 fun x80 =>
      oLoad (some 26) x1 h78 fun x81 =>
      oLend ref11_Same [x80, x81] h78 (fun v84 h85 => finish objs.length (.pan v84) h85) fun w86 h87 => oFrz w86 h87 fun x82 h83 =>
      finish objs.length (.ok x82) h83)
      (oLoad (some 26) x76 h78 fun x88 =>
      oLend dir_Drop [x88, x74] h78 (fun v91 h92 => finish objs.length (.pan v91) h92) fun w119 h120 => oFrz w119 h120 fun x89 h90 =>
      oExtract 0 x89 fun x93 =>
      oExtract 1 x89 fun x94 =>
      oNew none (some 26) (.agg [.s (.int .u64 0), .s (.int .i64 0), .s (.int .i64 0), .s (.slice none 0 0), .s (.int .i64 0), .s (.slice none 0 0), .s (.int .i64 0), .s (.int .i64 0), .s (.slice none 0 0), .s (.slice none 0 0), .s (.int .u64 0), .s (.int .u64 0), .s (.int .u64 0), .s (.int .u64 0), .s (.int .i64 0), .s (.int .i64 0), .s (.bool false), .s (.int .u64 0), .s (.int .u64 0), .s (.int .u64 0), .s (.int .u64 0), .s (.int .u64 0), .s (.int .u64 0), .s (.int .u64 0), .s (.int .u64 0), .s (.int .u64 0)]) h90 fun x95 h96 =>
      oStore (some 26) x95 x93 h96 fun h97 =>
      oLoad (some 26) x95 h97 fun x98 =>
      oLend dir_Born [x98, a2] h97 (fun v101 h102 => finish objs.length (.pan v101) h102) fun w117 h118 => oFrz w117 h118 fun x99 h100 =>
      oExtract 0 x99 fun x103 =>
      oExtract 1 x99 fun x104 =>
      oExtract 2 x99 fun x105 =>
      oNew none (some 26) (.agg [.s (.int .u64 0), .s (.int .i64 0), .s (.int .i64 0), .s (.slice none 0 0), .s (.int .i64 0), .s (.slice none 0 0), .s (.int .i64 0), .s (.int .i64 0), .s (.slice none 0 0), .s (.slice none 0 0), .s (.int .u64 0), .s (.int .u64 0), .s (.int .u64 0), .s (.int .u64 0), .s (.int .i64 0), .s (.int .i64 0), .s (.bool false), .s (.int .u64 0), .s (.int .u64 0), .s (.int .u64 0), .s (.int .u64 0), .s (.int .u64 0), .s (.int .u64 0), .s (.int .u64 0), .s (.int .u64 0), .s (.int .u64 0)]) h100 fun x106 h107 =>
      oStore (some 26) x106 x103 h107 fun h108 =>
      oCmp .eql x94 (.s (.int .i64 0)) fun x109 =>
      oGuard x109 true (fun _ => oFieldA 7 x95 fun x110 =>
      oLoad none x110 h108 fun x111 =>
      oFieldA 7 x1 fun x112 =>
      oLoad none x112 h108 fun x113 =>
      oAr .add x113 (.s (.int .i64 1)) fun x114 =>
      oCmp .eql x111 x114 fun x115 =>
      oGuard x115 true (fun _ => oCmp .neq x104 x74 fun x116 =>
      finish objs.length (.ok x116) h108)
      (fun _ => finish objs.length (.ok (.s (.bool false))) h108))
      (fun _ => finish objs.length (.ok (.s (.bool false))) h108))
  | .exit i66 => none
  | .ret => finish objs.length (.ok (vs63.getD 0 .any)) h64
  | .panic v67 => finish objs.length (.pan v67) h64)

def law12_DirBack_k3 (objs : Heap) (x1 : A) (a1 : A) (a2 : A) : Ex → List A → Heap → Option (Out × Heap) := fun e20 vs18 h19 =>
      (match e20 with
  | .normal => oCond (vs18.getD 0 .any) (finish objs.length (.ok (.s (.bool true))) h19)
      (oJoin (oLoad (some 26) x1 h19 fun x23 =>
      oLend dir_Add [x23, a1, a2] h19 (fun v26 h27 => some (Ex.panic v26, [], h27)) fun w61 h62 => oFrz w61 h62 fun x24 h25 =>
      oExtract 0 x24 fun x28 =>
      oExtract 1 x24 fun x29 =>
      oNew none (some 26) (.agg [.s (.int .u64 0), .s (.int .i64 0), .s (.int .i64 0), .s (.slice none 0 0), .s (.int .i64 0), .s (.slice none 0 0), .s (.int .i64 0), .s (.int .i64 0), .s (.slice none 0 0), .s (.slice none 0 0), .s (.int .u64 0), .s (.int .u64 0), .s (.int .u64 0), .s (.int .u64 0), .s (.int .i64 0), .s (.int .i64 0), .s (.bool false), .s (.int .u64 0), .s (.int .u64 0), .s (.int .u64 0), .s (.int .u64 0), .s (.int .u64 0), .s (.int .u64 0), .s (.int .u64 0), .s (.int .u64 0), .s (.int .u64 0)]) h25 fun x30 h31 =>
      oStore (some 26) x30 x28 h31 fun h32 =>
      oCmp .eql x29 (.s (.int .i64 0)) fun x33 =>
      oCond x33 (oLoad (some 26) x30 h32 fun x34 =>
      oLend dir_Drop [x34, a1] h32 (fun v37 h38 => some (Ex.panic v37, [], h38)) fun w59 h60 => oFrz w59 h60 fun x35 h36 =>
      oExtract 0 x35 fun x39 =>
      oExtract 1 x35 fun x40 =>
      oNew none (some 26) (.agg [.s (.int .u64 0), .s (.int .i64 0), .s (.int .i64 0), .s (.slice none 0 0), .s (.int .i64 0), .s (.slice none 0 0), .s (.int .i64 0), .s (.int .i64 0), .s (.slice none 0 0), .s (.slice none 0 0), .s (.int .u64 0), .s (.int .u64 0), .s (.int .u64 0), .s (.int .u64 0), .s (.int .i64 0), .s (.int .i64 0), .s (.bool false), .s (.int .u64 0), .s (.int .u64 0), .s (.int .u64 0), .s (.int .u64 0), .s (.int .u64 0), .s (.int .u64 0), .s (.int .u64 0), .s (.int .u64 0), .s (.int .u64 0)]) h36 fun x41 h42 =>
      oStore (some 26) x41 x39 h42 fun h43 =>
      oJoin (oCmp .neq x40 (.s (.int .i64 0)) fun x44 =>
      oGuard x44 false (fun _ => oLoad (some 26) x41 h43 fun x45 =>
      oLoad (some 26) x1 h43 fun x46 =>
      oLend ref11_Same [x45, x46] h43 (fun v49 h50 => some (Ex.panic v49, [], h50)) fun w52 h53 => oFrz w52 h53 fun x47 h48 =>
      oNot x47 fun x51 =>
      (trim true h43.length [x51] h48).map fun p => (Ex.normal, p.1, p.2))
      (fun _ => (trim true h43.length [(.s (.bool true))] h43).map fun p => (Ex.normal, p.1, p.2))) (law12_DirBack_k1 h19))
      ((trim true h19.length [(.s (.bool false))] h32).map fun p => (Ex.normal, p.1, p.2))) (law12_DirBack_k2 x1 a2 objs))
  | .exit i21 => none
  | .ret => finish objs.length (.ok (.s (.bool false))) h19
  | .panic v22 => finish objs.length (.pan v22) h19)

/-- bailey/baileylaw12.DirBack -/
def law12_DirBack : CallFn := fun args objs =>
match args with
| [a0, a1, a2] =>
oNew none (some 26) a0 objs fun x1 h2 =>
      oLend law12_dirAlive [] h2 (fun v5 h6 => finish objs.length (.pan v5) h6) fun w123 h124 => oFrz w123 h124 fun x3 h4 =>
      oNot x3 fun x7 =>
      oCond x7 (finish objs.length (.ok (.s (.bool false))) h4)
      (oJoin (oLoad (some 26) x1 h4 fun x8 =>
      oLend law12_directory [x8] h4 (fun v11 h12 => some (Ex.panic v11, [], h12)) fun w16 h17 => oFrz w16 h17 fun x9 h10 =>
      oNot x9 fun x13 =>
      oGuard x13 false (fun _ => oCmp .lss a1 (.s (.int .u64 1)) fun x14 =>
      oGuard x14 false (fun _ => oCmp .geq a1 (.s (.int .u64 281474976710656)) fun x15 =>
      (trim true h4.length [x15] h10).map fun p => (Ex.normal, p.1, p.2))
      (fun _ => (trim true h4.length [(.s (.bool true))] h10).map fun p => (Ex.normal, p.1, p.2)))
      (fun _ => (trim true h4.length [(.s (.bool true))] h10).map fun p => (Ex.normal, p.1, p.2))) (law12_DirBack_k3 objs x1 a1 a2))
| _ => none

def law12_DirApart_k1 (x65 : A) (x64 : A) (x72 : A) (x71 : A) (objs : Heap) (x22 : A) (x24 : A) (x1 : A) (x3 : A) : Ex → List A → Heap → Option (Out × Heap) := fun e77 vs75 h76 =>
      (match e77 with
  | .normal => oCond (vs75.getD 0 .any) (oCmp .eql x65 (.s (.int .i64 0)) fun x80 =>
      oGuard x80 false (fun _ => oCmp .eql x64 (.s (.int .u64 0)) fun x81 =>
      oGuard x81 true (fun _ => oCmp .eql x72 (.s (.int .i64 0)) fun x82 =>
      oGuard x82 false (fun _ => oCmp .eql x71 (.s (.int .u64 0)) fun x83 =>
      finish objs.length (.ok x83) h76)
      (fun _ => finish objs.length (.ok (.s (.bool true))) h76))
      (fun _ => finish objs.length (.ok (.s (.bool false))) h76))
      (fun _ => oCmp .eql x72 (.s (.int .i64 0)) fun x84 =>
      oGuard x84 false (fun _ => oCmp .eql x71 (.s (.int .u64 0)) fun x85 =>
      finish objs.length (.ok x85) h76)
      (fun _ => finish objs.length (.ok (.s (.bool true))) h76)))
      (oFieldA 0 x22 fun x86 =>
      oLoad none x86 h76 fun x87 =>
      oCmp .gtr x64 x87 fun x88 =>
      oGuard x88 true (fun _ => oFieldA 0 x24 fun x89 =>
      oLoad none x89 h76 fun x90 =>
      oCmp .gtr x71 x90 fun x91 =>
      oGuard x91 true (fun _ => oCmp .eql x64 x71 fun x92 =>
      oLoad (some 2) x1 h76 fun x93 =>
      oLoad (some 2) x3 h76 fun x94 =>
      oEqAgg [true, true] false x93 x94 fun x95 =>
      oEqBool false x92 x95 fun x96 =>
      oGuard x96 true (fun _ => oCmp .lss x64 (.s (.int .u64 281474976710656)) fun x97 =>
      finish objs.length (.ok x97) h76)
      (fun _ => finish objs.length (.ok (.s (.bool false))) h76))
      (fun _ => finish objs.length (.ok (.s (.bool false))) h76))
      (fun _ => finish objs.length (.ok (.s (.bool false))) h76))
  | .exit i78 => none
  | .ret => finish objs.length (.ok (.s (.bool false))) h76
  | .panic v79 => finish objs.length (.pan v79) h76)

def law12_DirApart_k2 (objs : Heap) (x22 : A) (x24 : A) (x1 : A) (x3 : A) : Ex → List A → Heap → Option (Out × Heap) := fun e56 vs54 h55 =>
      (match e56 with
  | .normal => oCond (vs54.getD 0 .any) (finish objs.length (.ok (.s (.bool true))) h55)
      (oLoad (some 26) x22 h55 fun x59 =>
      oLend dir_Fresh [x59] h55 (fun v62 h63 => finish objs.length (.pan v62) h63) fun w100 h101 => oFrz w100 h101 fun x60 h61 =>
      oExtract 0 x60 fun x64 =>
      oExtract 1 x60 fun x65 =>
      oLoad (some 26) x24 h61 fun x66 =>
      oLend dir_Fresh [x66] h61 (fun v69 h70 => finish objs.length (.pan v69) h70) fun w98 h99 => oFrz w98 h99 fun x67 h68 =>
      oExtract 0 x67 fun x71 =>
      oExtract 1 x67 fun x72 =>
      oJoin (oCmp .neq x65 (.s (.int .i64 0)) fun x73 =>
      oGuard x73 false (fun _ => oCmp .neq x72 (.s (.int .i64 0)) fun x74 =>
      (trim true h68.length [x74] h68).map fun p => (Ex.normal, p.1, p.2))
      (fun _ => (trim true h68.length [(.s (.bool true))] h68).map fun p => (Ex.normal, p.1, p.2))) (law12_DirApart_k1 x65 x64 x72 x71 objs x22 x24 x1 x3))
  | .exit i57 => none
  | .ret => finish objs.length (.ok (.s (.bool false))) h55
  | .panic v58 => finish objs.length (.pan v58) h55)

/-- bailey/baileylaw12.DirApart -/
def law12_DirApart : CallFn := fun args objs =>
match args with
| [a0, a1] =>
oNew none (some 2) a0 objs fun x1 h2 =>
      oNew none (some 2) a1 h2 fun x3 h4 =>
      oLend law12_dirAlive [] h4 (fun v7 h8 => finish objs.length (.pan v7) h8) fun w106 h107 => oFrz w106 h107 fun x5 h6 =>
      oNot x5 fun x9 =>
      oCond x9 (finish objs.length (.ok (.s (.bool false))) h6)
      (oIdxArr 2 1 x1 (.s (.int .i64 0)) fun x10 =>
      oLoadD h6.length [] none x10 (h6 ++ List.replicate 2 .res) fun x11 h12 =>
      oConv .u64 x11 fun x13 =>
      oCallF h6.length [] law12_small [x13, (.s (.int .i64 48))] h12 fun w104 h105 => oFrz w104 h105 fun x14 h15 =>
      oIdxArr 2 1 x3 (.s (.int .i64 0)) fun x16 =>
      oLoadD h6.length [] none x16 h15 fun x17 h18 =>
      oConv .u64 x17 fun x19 =>
      oCallF h6.length [] law12_small [x19, (.s (.int .i64 48))] h18 fun w102 h103 => oFrz w102 h103 fun x20 h21 =>
      oNew (some h6.length) (some 26) (.agg [.s (.int .u64 0), .s (.int .i64 0), .s (.int .i64 0), .s (.slice none 0 0), .s (.int .i64 0), .s (.slice none 0 0), .s (.int .i64 0), .s (.int .i64 0), .s (.slice none 0 0), .s (.slice none 0 0), .s (.int .u64 0), .s (.int .u64 0), .s (.int .u64 0), .s (.int .u64 0), .s (.int .i64 0), .s (.int .i64 0), .s (.bool false), .s (.int .u64 0), .s (.int .u64 0), .s (.int .u64 0), .s (.int .u64 0), .s (.int .u64 0), .s (.int .u64 0), .s (.int .u64 0), .s (.int .u64 0), .s (.int .u64 0)]) h21 fun x22 h23 =>
      oNew (some (h6.length + 1)) (some 26) (.agg [.s (.int .u64 0), .s (.int .i64 0), .s (.int .i64 0), .s (.slice none 0 0), .s (.int .i64 0), .s (.slice none 0 0), .s (.int .i64 0), .s (.int .i64 0), .s (.slice none 0 0), .s (.slice none 0 0), .s (.int .u64 0), .s (.int .u64 0), .s (.int .u64 0), .s (.int .u64 0), .s (.int .i64 0), .s (.int .i64 0), .s (.bool false), .s (.int .u64 0), .s (.int .u64 0), .s (.int .u64 0), .s (.int .u64 0), .s (.int .u64 0), .s (.int .u64 0), .s (.int .u64 0), .s (.int .u64 0), .s (.int .u64 0)]) h23 fun x24 h25 =>
      oStore (some 26) x22 x14 h25 fun h26 =>
      oStore (some 26) x24 x20 h26 fun h27 =>
      oIdxArr 2 1 x1 (.s (.int .i64 1)) fun x28 =>
      oLoadD h27.length (wrL h27 [(x22, false), (x24, false)]) none x28 h27 fun x29 h30 =>
      oIdxArr 2 1 x3 (.s (.int .i64 1)) fun x31 =>
      oLoadD h27.length (wrL h27 [(x22, false), (x24, false)]) none x31 h30 fun x32 h33 =>
      oFieldA 7 x22 fun x34 =>
      oStoreD h27.length (wrL h27 [(x22, false), (x24, false)]) none x34 x29 h33 fun h35 =>
      oFieldA 7 x24 fun x36 =>
      oStoreD h27.length (wrL h27 [(x22, false), (x24, false)]) none x36 x32 h35 fun h37 =>
      oJoin (oLoad (some 26) x22 h37 fun x38 =>
      oLend law12_directory [x38] h37 (fun v41 h42 => some (Ex.panic v41, [], h42)) fun w52 h53 => oFrz w52 h53 fun x39 h40 =>
      oNot x39 fun x43 =>
      oGuard x43 false (fun _ => oLoad (some 26) x24 h40 fun x44 =>
      oLend law12_directory [x44] h40 (fun v47 h48 => some (Ex.panic v47, [], h48)) fun w50 h51 => oFrz w50 h51 fun x45 h46 =>
      oNot x45 fun x49 =>
      (trim true h37.length [x49] h46).map fun p => (Ex.normal, p.1, p.2))
      (fun _ => (trim true h37.length [(.s (.bool true))] h40).map fun p => (Ex.normal, p.1, p.2))) (law12_DirApart_k2 objs x22 x24 x1 x3))
| _ => none

end Go.Ab.F
