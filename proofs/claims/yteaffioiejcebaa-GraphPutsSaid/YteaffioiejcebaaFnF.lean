/-
  THE PROGRAM'S FUNCTIONS OVER VALUES WITHOUT ADDRESSES. Written by a program (emit.py).
-/
import Derived.Test.YteaffioiejcebaaAbsPrim
set_option maxRecDepth 100000
set_option linter.unusedVariables false
namespace Go.Ab.F
open Go Go.Ab

/-- bailey/baileylaw13.nest -/
def law13_nest : CallFn := fun args objs =>
match args with
| [] =>
oBuildP [.s (.int .i64 0), .s (.slice none 0 0)] [(0, none, (.s (.int .i64 2)))] fun x1 =>
      oNew none (some 2) (.agg [.s (.int .i64 0), .s (.slice none 0 0)]) objs fun x2 h3 =>
      oStore (some 2) x2 x1 h3 fun h4 =>
      oLoadD h4.length [] (some 2) x2 (h4 ++ List.replicate 4 .res) fun x5 h6 =>
      oBuildP [.s (.int .u64 0), .s (.int .i64 0)] [(0, none, (.s (.int .u64 65))), (1, none, (.s (.int .i64 4)))] fun x7 =>
      oNewSlice (some h4.length) 2 (asRows (some 2) [x7]) h6 fun x8 h9 =>
      oBuildP [.s (.int .u64 0), .s (.int .i64 0), .s (.int .i64 0), .s (.slice none 0 0), .s (.int .i64 0), .s (.slice none 0 0), .s (.int .i64 0), .s (.int .i64 0), .s (.slice none 0 0), .s (.slice none 0 0), .s (.int .u64 0), .s (.int .u64 0), .s (.int .u64 0), .s (.int .u64 0), .s (.int .i64 0), .s (.int .i64 0), .s (.bool false), .s (.int .u64 0), .s (.int .u64 0), .s (.int .u64 0), .s (.int .u64 0), .s (.int .u64 0), .s (.int .u64 0), .s (.int .u64 0), .s (.int .u64 0), .s (.int .u64 0)] [(0, none, (.s (.int .u64 1))), (1, none, (.s (.int .i64 1))), (2, (some 2), x5), (6, none, (.s (.int .i64 9))), (7, none, (.s (.int .i64 1))), (8, none, x8)] fun x10 =>
      oLoadD h4.length [] (some 2) x2 h9 fun x11 h12 =>
      oBuildP [.s (.int .u64 0), .s (.int .i64 0)] [(0, none, (.s (.int .u64 4161))), (1, none, (.s (.int .i64 2)))] fun x13 =>
      oNewSlice (some (h4.length + 1)) 2 (asRows (some 2) [x13]) h12 fun x14 h15 =>
      oBuildP [.s (.int .u64 0), .s (.int .i64 0), .s (.int .i64 0), .s (.slice none 0 0), .s (.int .i64 0), .s (.slice none 0 0), .s (.int .i64 0), .s (.int .i64 0), .s (.slice none 0 0), .s (.slice none 0 0), .s (.int .u64 0), .s (.int .u64 0), .s (.int .u64 0), .s (.int .u64 0), .s (.int .i64 0), .s (.int .i64 0), .s (.bool false), .s (.int .u64 0), .s (.int .u64 0), .s (.int .u64 0), .s (.int .u64 0), .s (.int .u64 0), .s (.int .u64 0), .s (.int .u64 0), .s (.int .u64 0), .s (.int .u64 0)] [(0, none, (.s (.int .u64 65))), (1, none, (.s (.int .i64 1))), (2, (some 2), x11), (6, none, (.s (.int .i64 4))), (7, none, (.s (.int .i64 1))), (8, none, x14)] fun x16 =>
      oLoadD h4.length [] (some 2) x2 h15 fun x17 h18 =>
      oMake (some (h4.length + 2)) 1 1 [.s (.int .u8 0)] (.s (.int .i64 32)) (.s (.int .i64 32)) h18 fun x19 h20 =>
      oBuildP [.s (.int .u64 0), .s (.int .i64 0), .s (.int .i64 0), .s (.slice none 0 0), .s (.int .i64 0), .s (.slice none 0 0), .s (.int .i64 0), .s (.int .i64 0), .s (.slice none 0 0), .s (.slice none 0 0), .s (.int .u64 0), .s (.int .u64 0), .s (.int .u64 0), .s (.int .u64 0), .s (.int .i64 0), .s (.int .i64 0), .s (.bool false), .s (.int .u64 0), .s (.int .u64 0), .s (.int .u64 0), .s (.int .u64 0), .s (.int .u64 0), .s (.int .u64 0), .s (.int .u64 0), .s (.int .u64 0), .s (.int .u64 0)] [(0, none, (.s (.int .u64 4161))), (1, none, (.s (.int .i64 4))), (2, (some 2), x17), (6, none, (.s (.int .i64 2))), (9, none, x19)] fun x21 =>
      oNewSlice (some (h4.length + 3)) 26 (asRows (some 26) [x10, x16, x21]) h20 fun x22 h23 =>
      finish objs.length (.ok x22) h23
| _ => none

def slices_BinarySearchFunc_Sapi_Thing_api_Thing_uint64_l1 (En : String → CallFn) (a0 : A) (a2 : A) (a1 : A) (objs : Heap) : List A × Heap → Option ((List A × Heap) ⊕ (Ex × List A × Heap)) := fun s2 =>
      oCmp .lss (s2.1.getD 0 .any) (s2.1.getD 1 .any) fun x3 =>
      oCond x3 (oAr .add (s2.1.getD 0 .any) (s2.1.getD 1 .any) fun x4 =>
      oConv .u64 x4 fun x5 =>
      oShift .shr x5 (.s (.int .u64 1)) fun x6 =>
      oConv .i64 x6 fun x7 =>
      oIdxA 26 a0 x7 fun x8 =>
      oLoad (some 26) x8 s2.2 fun x9 =>
      oLendV En a2 [x9, a1] s2.2 (fun v12 h13 => some (.inr (Ex.panic v12, [.any], h13))) fun w16 h17 => oFrz w16 h17 fun x10 h11 =>
      oCmp .lss x10 (.s (.int .i64 0)) fun x14 =>
      oCond x14 (oAr .add x7 (.s (.int .i64 1)) fun x15 =>
      (trim true objs.length [x15, (s2.1.getD 1 .any)] h11).map .inl)
      ((trim true objs.length [(s2.1.getD 0 .any), x7] h11).map .inl))
      ((trim true objs.length [(s2.1.getD 0 .any)] s2.2).map fun p => .inr (Ex.exit 0, p.1, p.2))

def slices_BinarySearchFunc_Sapi_Thing_api_Thing_uint64_k2 (En : String → CallFn) (x1 : A) (a0 : A) (a2 : A) (a1 : A) (objs : Heap) : Ex → List A → Heap → Option (Out × Heap) := fun e18 vs19 h20 =>
      (match e18 with
  | .normal => none
  | .exit i21 => if i21 = 0 then oCmp .lss (vs19.getD 0 .any) x1 fun x23 =>
      oGuard x23 true (fun _ => oIdxA 26 a0 (vs19.getD 0 .any) fun x24 =>
      oLoad (some 26) x24 h20 fun x25 =>
      oLendV En a2 [x25, a1] h20 (fun v28 h29 => finish objs.length (.pan v28) h29) fun w31 h32 => oFrz w31 h32 fun x26 h27 =>
      oCmp .eql x26 (.s (.int .i64 0)) fun x30 =>
      finish objs.length (.ok (.tup [(vs19.getD 0 .any), x30])) h27)
      (fun _ => finish objs.length (.ok (.tup [(vs19.getD 0 .any), (.s (.bool false))])) h20) else none
  | .ret => finish objs.length (.ok (.tup [(.s (.int .i64 0)), (.s (.bool false))])) h20
  | .panic v22 => finish objs.length (.pan v22) h20)

/-- slices.BinarySearchFunc[[]bailey/api.Thing,bailey/api.Thing,uint64] -/
def slices_BinarySearchFunc_Sapi_Thing_api_Thing_uint64 (En : String → CallFn) : CallFn := fun args objs =>
match args with
| [a0, a1, a2] =>
oLen a0 fun x1 =>
      oLoop (slices_BinarySearchFunc_Sapi_Thing_api_Thing_uint64_l1 En a0 a2 a1 objs) ([(.s (.int .i64 0)), x1], objs) (slices_BinarySearchFunc_Sapi_Thing_api_Thing_uint64_k2 En x1 a0 a2 a1 objs)
| _ => none

/-- cmp.isNaN[uint64] -/
def cmp_isNaN_uint64 : CallFn := fun args objs =>
match args with
| [a0] =>
oCmp .neq a0 a0 fun x1 =>
      finish objs.length (.ok x1) objs
| _ => none

/-- cmp.Compare[uint64] -/
def cmp_Compare_uint64 : CallFn := fun args objs =>
match args with
| [a0, a1] =>
oLend cmp_isNaN_uint64 [a0] objs (fun v3 h4 => finish objs.length (.pan v3) h4) fun w13 h14 => oFrz w13 h14 fun x1 h2 =>
      oLend cmp_isNaN_uint64 [a1] h2 (fun v7 h8 => finish objs.length (.pan v7) h8) fun w11 h12 => oFrz w11 h12 fun x5 h6 =>
      oCond x1 (oCond x5 (finish objs.length (.ok (.s (.int .i64 0))) h6)
      (finish objs.length (.ok (.s (.int .i64 (-1)))) h6))
      (oCond x5 (finish objs.length (.ok (.s (.int .i64 1))) h6)
      (oCmp .lss a0 a1 fun x9 =>
      oCond x9 (finish objs.length (.ok (.s (.int .i64 (-1)))) h6)
      (oCmp .gtr a0 a1 fun x10 =>
      oCond x10 (finish objs.length (.ok (.s (.int .i64 1))) h6)
      (finish objs.length (.ok (.s (.int .i64 0))) h6))))
| _ => none

/-- bailey/graph.place$1 -/
def graph_place_c1 : CallFn := fun args objs =>
match args with
| [a0, a1] =>
oNew none (some 26) a0 objs fun x1 h2 =>
      oFieldA 0 x1 fun x3 =>
      oLoad none x3 h2 fun x4 =>
      oLend cmp_Compare_uint64 [x4, a1] h2 (fun v7 h8 => finish objs.length (.pan v7) h8) fun w9 h10 => oFrz w9 h10 fun x5 h6 =>
      finish objs.length (.ok x5) h6
| _ => none

def En_graph_place : String → CallFn := fun n => if n = "bailey/graph.place$1" then graph_place_c1 else (fun _ _ => none)

/-- bailey/graph.place -/
def graph_place : CallFn := fun args objs =>
match args with
| [a0, a1] =>
oLend (slices_BinarySearchFunc_Sapi_Thing_api_Thing_uint64 (En_graph_place)) [a0, a1, (.fn "bailey/graph.place$1" [])] objs (fun v3 h4 => finish objs.length (.pan v3) h4) fun w7 h8 => oFrz w7 h8 fun x1 h2 =>
      oExtract 0 x1 fun x5 =>
      oExtract 1 x1 fun x6 =>
      finish objs.length (.ok (.tup [x5, x6])) h2
| _ => none

/-- bailey/thing.Copy -/
def thing_Copy : CallFn := fun args objs =>
match args with
| [a0] =>
oNew none (some 26) a0 objs fun x1 h2 =>
      oNew none (some 26) (.agg [.s (.int .u64 0), .s (.int .i64 0), .s (.int .i64 0), .s (.slice none 0 0), .s (.int .i64 0), .s (.slice none 0 0), .s (.int .i64 0), .s (.int .i64 0), .s (.slice none 0 0), .s (.slice none 0 0), .s (.int .u64 0), .s (.int .u64 0), .s (.int .u64 0), .s (.int .u64 0), .s (.int .i64 0), .s (.int .i64 0), .s (.bool false), .s (.int .u64 0), .s (.int .u64 0), .s (.int .u64 0), .s (.int .u64 0), .s (.int .u64 0), .s (.int .u64 0), .s (.int .u64 0), .s (.int .u64 0), .s (.int .u64 0)]) h2 fun x3 h4 =>
      oFieldA 2 x1 fun x5 =>
      oFieldA 1 x5 fun x6 =>
      oLoadD h4.length [] none x6 h4 fun x7 h8 =>
      oCallF h4.length [] (primClone 2 16) [x7] h8 fun x9 h10 =>
      oFieldA 4 x1 fun x11 =>
      oFieldA 1 x11 fun x12 =>
      oLoadD h4.length [] none x12 h10 fun x13 h14 =>
      oCallF h4.length [] (primClone 2 16) [x13] h14 fun x15 h16 =>
      oFieldA 2 x1 fun x17 =>
      oFieldA 1 x17 fun x18 =>
      oStore none x18 x9 h16 fun h19 =>
      oFieldA 4 x1 fun x20 =>
      oFieldA 1 x20 fun x21 =>
      oStore none x21 x15 h19 fun h22 =>
      oFieldA 8 x1 fun x23 =>
      oLoadD h22.length [] none x23 h22 fun x24 h25 =>
      oCallF h22.length [] (primClone 2 16) [x24] h25 fun x26 h27 =>
      oFieldA 9 x1 fun x28 =>
      oLoadD h22.length [] none x28 h27 fun x29 h30 =>
      oCallF h22.length [] (primClone 1 1) [x29] h30 fun x31 h32 =>
      oFieldA 8 x1 fun x33 =>
      oStore none x33 x26 h32 fun h34 =>
      oFieldA 9 x1 fun x35 =>
      oStore none x35 x31 h34 fun h36 =>
      oLoad (some 26) x1 h36 fun x37 =>
      oStore (some 26) x3 x37 h36 fun h38 =>
      oLoad (some 26) x3 h38 fun r39 =>
      finish objs.length (.ok r39) h38
| _ => none

/-- bailey/graph.Find -/
def graph_Find : CallFn := fun args objs =>
match args with
| [a0, a1] =>
oNew none (some 26) (.agg [.s (.int .u64 0), .s (.int .i64 0), .s (.int .i64 0), .s (.slice none 0 0), .s (.int .i64 0), .s (.slice none 0 0), .s (.int .i64 0), .s (.int .i64 0), .s (.slice none 0 0), .s (.slice none 0 0), .s (.int .u64 0), .s (.int .u64 0), .s (.int .u64 0), .s (.int .u64 0), .s (.int .i64 0), .s (.int .i64 0), .s (.bool false), .s (.int .u64 0), .s (.int .u64 0), .s (.int .u64 0), .s (.int .u64 0), .s (.int .u64 0), .s (.int .u64 0), .s (.int .u64 0), .s (.int .u64 0), .s (.int .u64 0)]) objs fun x1 h2 =>
      oLend graph_place [a0, a1] h2 (fun v5 h6 => finish objs.length (.pan v5) h6) fun w22 h23 => oFrz w22 h23 fun x3 h4 =>
      oExtract 0 x3 fun x7 =>
      oExtract 1 x3 fun x8 =>
      oCond x8 (oIdxA 26 a0 x7 fun x9 =>
      oLoad (some 26) x9 h4 fun x10 =>
      oLend thing_Copy [x10] h4 (fun v13 h14 => finish objs.length (.pan v13) h14) fun w17 h18 => oFrz w17 h18 fun x11 h12 =>
      oStore (some 26) x1 x11 h12 fun h15 =>
      oLoad (some 26) x1 h15 fun r16 =>
      finish objs.length (.ok (.tup [r16, (.s (.bool true))])) h15)
      (oBuildP [.s (.int .u64 0), .s (.int .i64 0), .s (.int .i64 0), .s (.slice none 0 0), .s (.int .i64 0), .s (.slice none 0 0), .s (.int .i64 0), .s (.int .i64 0), .s (.slice none 0 0), .s (.slice none 0 0), .s (.int .u64 0), .s (.int .u64 0), .s (.int .u64 0), .s (.int .u64 0), .s (.int .i64 0), .s (.int .i64 0), .s (.bool false), .s (.int .u64 0), .s (.int .u64 0), .s (.int .u64 0), .s (.int .u64 0), .s (.int .u64 0), .s (.int .u64 0), .s (.int .u64 0), .s (.int .u64 0), .s (.int .u64 0)] [] fun x19 =>
      oStore (some 26) x1 x19 h4 fun h20 =>
      oLoad (some 26) x1 h20 fun r21 =>
      finish objs.length (.ok (.tup [r21, (.s (.bool false))])) h20)
| _ => none

def graph_copyAll_l1 (x1 : A) (a0 : A) (h3 : Heap) : List A × Heap → Option ((List A × Heap) ⊕ (Ex × List A × Heap)) := fun s4 =>
      oCmp .lss (s4.1.getD 1 .any) x1 fun x5 =>
      oCond x5 (oIdxA 26 a0 (s4.1.getD 1 .any) fun x6 =>
      oLoad (some 26) x6 s4.2 fun x7 =>
      oNew none (some 26) (.agg [.s (.int .u64 0), .s (.int .i64 0), .s (.int .i64 0), .s (.slice none 0 0), .s (.int .i64 0), .s (.slice none 0 0), .s (.int .i64 0), .s (.int .i64 0), .s (.slice none 0 0), .s (.slice none 0 0), .s (.int .u64 0), .s (.int .u64 0), .s (.int .u64 0), .s (.int .u64 0), .s (.int .i64 0), .s (.int .i64 0), .s (.bool false), .s (.int .u64 0), .s (.int .u64 0), .s (.int .u64 0), .s (.int .u64 0), .s (.int .u64 0), .s (.int .u64 0), .s (.int .u64 0), .s (.int .u64 0), .s (.int .u64 0)]) s4.2 fun x8 h9 =>
      oStore (some 26) x8 x7 h9 fun h10 =>
      oLoad (some 26) x8 h10 fun x11 =>
      oLend thing_Copy [x11] h10 (fun v14 h15 => some (.inr (Ex.panic v14, [.any], h15))) fun w21 h22 => oFrz w21 h22 fun x12 h13 =>
      oNewSlice none 26 (asRows (some 26) [x12]) h13 fun x16 h17 =>
      oAppend none 26 272 (s4.1.getD 0 .any) x16 h17 fun x18 h19 =>
      oAr .add (s4.1.getD 1 .any) (.s (.int .i64 1)) fun x20 =>
      (trim true h3.length [x18, x20] h19).map .inl)
      ((trim true h3.length [(s4.1.getD 0 .any)] s4.2).map fun p => .inr (Ex.exit 0, p.1, p.2))

def graph_copyAll_k2 (objs : Heap) : Ex → List A → Heap → Option (Out × Heap) := fun e23 vs24 h25 =>
      (match e23 with
  | .normal => none
  | .exit i26 => if i26 = 0 then finish objs.length (.ok (vs24.getD 0 .any)) h25 else none
  | .ret => finish objs.length (.ok (.s (.slice none 0 0))) h25
  | .panic v27 => finish objs.length (.pan v27) h25)

/-- bailey/graph.copyAll -/
def graph_copyAll : CallFn := fun args objs =>
match args with
| [a0] =>
oLen a0 fun x1 =>
      oProm 26 (.s (.slice none 0 0)) objs fun x2 h3 =>
      oLoop (graph_copyAll_l1 x1 a0 h3) ([x2, (.s (.int .i64 0))], h3) (graph_copyAll_k2 objs)
| _ => none

def slices_BinarySearchFunc_Sapi_Link_api_Link_uint64_l1 (En : String → CallFn) (a0 : A) (a2 : A) (a1 : A) (objs : Heap) : List A × Heap → Option ((List A × Heap) ⊕ (Ex × List A × Heap)) := fun s2 =>
      oCmp .lss (s2.1.getD 0 .any) (s2.1.getD 1 .any) fun x3 =>
      oCond x3 (oAr .add (s2.1.getD 0 .any) (s2.1.getD 1 .any) fun x4 =>
      oConv .u64 x4 fun x5 =>
      oShift .shr x5 (.s (.int .u64 1)) fun x6 =>
      oConv .i64 x6 fun x7 =>
      oIdxA 2 a0 x7 fun x8 =>
      oLoad (some 2) x8 s2.2 fun x9 =>
      oLendV En a2 [x9, a1] s2.2 (fun v12 h13 => some (.inr (Ex.panic v12, [.any], h13))) fun w16 h17 => oFrz w16 h17 fun x10 h11 =>
      oCmp .lss x10 (.s (.int .i64 0)) fun x14 =>
      oCond x14 (oAr .add x7 (.s (.int .i64 1)) fun x15 =>
      (trim true objs.length [x15, (s2.1.getD 1 .any)] h11).map .inl)
      ((trim true objs.length [(s2.1.getD 0 .any), x7] h11).map .inl))
      ((trim true objs.length [(s2.1.getD 0 .any)] s2.2).map fun p => .inr (Ex.exit 0, p.1, p.2))

def slices_BinarySearchFunc_Sapi_Link_api_Link_uint64_k2 (En : String → CallFn) (x1 : A) (a0 : A) (a2 : A) (a1 : A) (objs : Heap) : Ex → List A → Heap → Option (Out × Heap) := fun e18 vs19 h20 =>
      (match e18 with
  | .normal => none
  | .exit i21 => if i21 = 0 then oCmp .lss (vs19.getD 0 .any) x1 fun x23 =>
      oGuard x23 true (fun _ => oIdxA 2 a0 (vs19.getD 0 .any) fun x24 =>
      oLoad (some 2) x24 h20 fun x25 =>
      oLendV En a2 [x25, a1] h20 (fun v28 h29 => finish objs.length (.pan v28) h29) fun w31 h32 => oFrz w31 h32 fun x26 h27 =>
      oCmp .eql x26 (.s (.int .i64 0)) fun x30 =>
      finish objs.length (.ok (.tup [(vs19.getD 0 .any), x30])) h27)
      (fun _ => finish objs.length (.ok (.tup [(vs19.getD 0 .any), (.s (.bool false))])) h20) else none
  | .ret => finish objs.length (.ok (.tup [(.s (.int .i64 0)), (.s (.bool false))])) h20
  | .panic v22 => finish objs.length (.pan v22) h20)

/-- slices.BinarySearchFunc[[]bailey/api.Link,bailey/api.Link,uint64] -/
def slices_BinarySearchFunc_Sapi_Link_api_Link_uint64 (En : String → CallFn) : CallFn := fun args objs =>
match args with
| [a0, a1, a2] =>
oLen a0 fun x1 =>
      oLoop (slices_BinarySearchFunc_Sapi_Link_api_Link_uint64_l1 En a0 a2 a1 objs) ([(.s (.int .i64 0)), x1], objs) (slices_BinarySearchFunc_Sapi_Link_api_Link_uint64_k2 En x1 a0 a2 a1 objs)
| _ => none

/-- bailey/dir.place$1 -/
def dir_place_c1 : CallFn := fun args objs =>
match args with
| [a0, a1] =>
oNew none (some 2) a0 objs fun x1 h2 =>
      oFieldA 0 x1 fun x3 =>
      oLoad none x3 h2 fun x4 =>
      oLend cmp_Compare_uint64 [x4, a1] h2 (fun v7 h8 => finish objs.length (.pan v7) h8) fun w9 h10 => oFrz w9 h10 fun x5 h6 =>
      finish objs.length (.ok x5) h6
| _ => none

def En_dir_place : String → CallFn := fun n => if n = "bailey/dir.place$1" then dir_place_c1 else (fun _ _ => none)

/-- bailey/dir.place -/
def dir_place : CallFn := fun args objs =>
match args with
| [a0, a1] =>
oNew none (some 26) a0 objs fun x1 h2 =>
      oFieldA 8 x1 fun x3 =>
      oLoad none x3 h2 fun x4 =>
      oLend (slices_BinarySearchFunc_Sapi_Link_api_Link_uint64 (En_dir_place)) [x4, a1, (.fn "bailey/dir.place$1" [])] h2 (fun v7 h8 => finish objs.length (.pan v7) h8) fun w11 h12 => oFrz w11 h12 fun x5 h6 =>
      oExtract 0 x5 fun x9 =>
      oExtract 1 x5 fun x10 =>
      finish objs.length (.ok (.tup [x9, x10])) h6
| _ => none

/-- bailey/dir.Drop -/
def dir_Drop : CallFn := fun args objs =>
match args with
| [a0, a1] =>
oNew none (some 26) a0 objs fun x1 h2 =>
      oNew none (some 26) (.agg [.s (.int .u64 0), .s (.int .i64 0), .s (.int .i64 0), .s (.slice none 0 0), .s (.int .i64 0), .s (.slice none 0 0), .s (.int .i64 0), .s (.int .i64 0), .s (.slice none 0 0), .s (.slice none 0 0), .s (.int .u64 0), .s (.int .u64 0), .s (.int .u64 0), .s (.int .u64 0), .s (.int .i64 0), .s (.int .i64 0), .s (.bool false), .s (.int .u64 0), .s (.int .u64 0), .s (.int .u64 0), .s (.int .u64 0), .s (.int .u64 0), .s (.int .u64 0), .s (.int .u64 0), .s (.int .u64 0), .s (.int .u64 0)]) h2 fun x3 h4 =>
      oLoad (some 26) x1 h4 fun x5 =>
      oLend dir_place [x5, a1] h4 (fun v8 h9 => finish objs.length (.pan v8) h9) fun w34 h35 => oFrz w34 h35 fun x6 h7 =>
      oExtract 0 x6 fun x10 =>
      oExtract 1 x6 fun x11 =>
      oNot x11 fun x12 =>
      oCond x12 (oLoad (some 26) x1 h7 fun x13 =>
      oStore (some 26) x3 x13 h7 fun h14 =>
      oLoad (some 26) x3 h14 fun r15 =>
      finish objs.length (.ok (.tup [r15, (.s (.int .i64 124))])) h14)
      (oLoad (some 26) x1 h7 fun x16 =>
      oLend thing_Copy [x16] h7 (fun v19 h20 => finish objs.length (.pan v19) h20) fun x17 h18 =>
      oStore (some 26) x1 x17 h18 fun h21 =>
      oFieldA 8 x1 fun x22 =>
      oLoad none x22 h21 fun x23 =>
      oAr .add x10 (.s (.int .i64 1)) fun x24 =>
      oCall (primDelete 2 16) [x23, x10, x24] h21 (fun v27 h28 => finish objs.length (.pan v27) h28) fun x25 h26 =>
      oFieldA 8 x1 fun x29 =>
      oStore none x29 x25 h26 fun h30 =>
      oLoad (some 26) x1 h30 fun x31 =>
      oStore (some 26) x3 x31 h30 fun h32 =>
      oLoad (some 26) x3 h32 fun r33 =>
      finish objs.length (.ok (.tup [r33, (.s (.int .i64 0))])) h32)
| _ => none

/-- bailey/graph.Put -/
def graph_Put : CallFn := fun args objs =>
match args with
| [a0, a1] =>
oNew none (some 26) a1 objs fun x1 h2 =>
      oLend graph_copyAll [a0] h2 (fun v5 h6 => finish objs.length (.pan v5) h6) fun x3 h4 =>
      oFieldA 0 x1 fun x7 =>
      oLoad none x7 h4 fun x8 =>
      oLend graph_place [x3, x8] h4 (fun v11 h12 => finish objs.length (.pan v11) h12) fun w37 h38 => oFrz w37 h38 fun x9 h10 =>
      oExtract 0 x9 fun x13 =>
      oExtract 1 x9 fun x14 =>
      oCond x14 (oLoad (some 26) x1 h10 fun x15 =>
      oLend thing_Copy [x15] h10 (fun v18 h19 => finish objs.length (.pan v18) h19) fun w22 h23 => oFrz w22 h23 fun x16 h17 =>
      oIdxA 26 x3 x13 fun x20 =>
      oStore (some 26) x20 x16 h17 fun h21 =>
      finish objs.length (.ok x3) h21)
      (oLoad (some 26) x1 h10 fun x24 =>
      oLend thing_Copy [x24] h10 (fun v27 h28 => finish objs.length (.pan v27) h28) fun w35 h36 => oFrz w35 h36 fun x25 h26 =>
      oNewSlice none 26 (asRows (some 26) [x25]) h26 fun x29 h30 =>
      oCall (primInsert 26 272) [x3, x13, x29] h30 (fun v33 h34 => finish objs.length (.pan v33) h34) fun x31 h32 =>
      finish objs.length (.ok x31) h32)
| _ => none

/-- bailey/dir.Has -/
def dir_Has : CallFn := fun args objs =>
match args with
| [a0, a1] =>
oNew none (some 26) a0 objs fun x1 h2 =>
      oLoad (some 26) x1 h2 fun x3 =>
      oLend dir_place [x3, a1] h2 (fun v6 h7 => finish objs.length (.pan v6) h7) fun w10 h11 => oFrz w10 h11 fun x4 h5 =>
      oExtract 0 x4 fun x8 =>
      oExtract 1 x4 fun x9 =>
      finish objs.length (.ok x9) h5
| _ => none

def graph_Refs_k1 (s2 : List A × Heap) (objs : Heap) : Ex → List A → Heap → Option ((List A × Heap) ⊕ (Ex × List A × Heap)) := fun e19 vs17 h18 =>
      (match e19 with
  | .normal => oAr .add (s2.1.getD 1 .any) (.s (.int .i64 1)) fun x22 =>
      (trim true objs.length [(vs17.getD 0 .any), x22] h18).map .inl
  | .exit i20 => (trim true objs.length [(vs17.getD 0 .any)] h18).map fun p => .inr (Ex.exit i20, p.1, p.2)
  | .ret => (trim true objs.length [(vs17.getD 0 .any)] h18).map fun p => .inr (Ex.ret, p.1, p.2)
  | .panic v21 => some (.inr (Ex.panic v21, [.any], h18)))

def graph_Refs_l2 (x1 : A) (a0 : A) (a1 : A) (objs : Heap) : List A × Heap → Option ((List A × Heap) ⊕ (Ex × List A × Heap)) := fun s2 =>
      oCmp .lss (s2.1.getD 1 .any) x1 fun x3 =>
      oCond x3 (oJoin (oIdxA 26 a0 (s2.1.getD 1 .any) fun x4 =>
      oLoad (some 26) x4 s2.2 fun x5 =>
      oNew none (some 26) (.agg [.s (.int .u64 0), .s (.int .i64 0), .s (.int .i64 0), .s (.slice none 0 0), .s (.int .i64 0), .s (.slice none 0 0), .s (.int .i64 0), .s (.int .i64 0), .s (.slice none 0 0), .s (.slice none 0 0), .s (.int .u64 0), .s (.int .u64 0), .s (.int .u64 0), .s (.int .u64 0), .s (.int .i64 0), .s (.int .i64 0), .s (.bool false), .s (.int .u64 0), .s (.int .u64 0), .s (.int .u64 0), .s (.int .u64 0), .s (.int .u64 0), .s (.int .u64 0), .s (.int .u64 0), .s (.int .u64 0), .s (.int .u64 0)]) s2.2 fun x6 h7 =>
      oStore (some 26) x6 x5 h7 fun h8 =>
      oLoad (some 26) x6 h8 fun x9 =>
      oLend dir_Has [x9, a1] h8 (fun v12 h13 => some (Ex.panic v12, [], h13)) fun w15 h16 => oFrz w15 h16 fun x10 h11 =>
      oCond x10 (oAr .add (s2.1.getD 0 .any) (.s (.int .i64 1)) fun x14 =>
      (trim true s2.2.length [x14] h11).map fun p => (Ex.normal, p.1, p.2))
      ((trim true s2.2.length [(s2.1.getD 0 .any)] h11).map fun p => (Ex.normal, p.1, p.2))) (graph_Refs_k1 s2 objs))
      ((trim true objs.length [(s2.1.getD 0 .any)] s2.2).map fun p => .inr (Ex.exit 0, p.1, p.2))

def graph_Refs_k3 (objs : Heap) : Ex → List A → Heap → Option (Out × Heap) := fun e23 vs24 h25 =>
      (match e23 with
  | .normal => none
  | .exit i26 => if i26 = 0 then finish objs.length (.ok (vs24.getD 0 .any)) h25 else none
  | .ret => finish objs.length (.ok (.s (.int .i64 0))) h25
  | .panic v27 => finish objs.length (.pan v27) h25)

/-- bailey/graph.Refs -/
def graph_Refs : CallFn := fun args objs =>
match args with
| [a0, a1] =>
oLen a0 fun x1 =>
      oLoop (graph_Refs_l2 x1 a0 a1 objs) ([(.s (.int .i64 0)), (.s (.int .i64 0))], objs) (graph_Refs_k3 objs)
| _ => none

def math_bits_Len32_k1 (objs : Heap) : Ex → List A → Heap → Option (Out × Heap) := fun e13 vs11 h12 =>
      (match e13 with
  | .normal => oConv .u8 (vs11.getD 0 .any) fun x16 =>
      oIndexStr (.s (.string ((ByteArray.mk #[0, 1, 2, 2, 3, 3, 3, 3, 4, 4, 4, 4, 4, 4, 4, 4, 5, 5, 5, 5, 5, 5, 5, 5, 5, 5, 5, 5, 5, 5, 5, 5, 6, 6, 6, 6, 6, 6, 6, 6, 6, 6, 6, 6, 6, 6, 6, 6, 6, 6, 6, 6, 6, 6, 6, 6, 6, 6, 6, 6, 6, 6, 6, 6, 7, 7, 7, 7, 7, 7, 7, 7, 7, 7, 7, 7, 7, 7, 7, 7, 7, 7, 7, 7, 7, 7, 7, 7, 7, 7, 7, 7, 7, 7, 7, 7, 7, 7, 7, 7, 7, 7, 7, 7, 7, 7, 7, 7, 7, 7, 7, 7, 7, 7, 7, 7, 7, 7, 7, 7, 7, 7, 7, 7, 7, 7, 7, 7, 8, 8, 8, 8, 8, 8, 8, 8, 8, 8, 8, 8, 8, 8, 8, 8, 8, 8, 8, 8, 8, 8, 8, 8, 8, 8, 8, 8, 8, 8, 8, 8, 8, 8, 8, 8, 8, 8, 8, 8, 8, 8, 8, 8, 8, 8, 8, 8, 8, 8, 8, 8, 8, 8, 8, 8, 8, 8, 8, 8, 8, 8, 8, 8, 8, 8, 8, 8, 8, 8, 8, 8, 8, 8, 8, 8, 8, 8, 8, 8, 8, 8, 8, 8, 8, 8, 8, 8, 8, 8, 8, 8, 8, 8, 8, 8, 8, 8, 8, 8, 8, 8, 8, 8, 8, 8, 8, 8, 8, 8, 8, 8, 8, 8, 8, 8, 8, 8, 8, 8, 8, 8, 8, 8, 8, 8, 8, 8])))) x16 fun x17 =>
      oConv .i64 x17 fun x18 =>
      oAr .add (vs11.getD 1 .any) x18 fun x19 =>
      finish objs.length (.ok x19) h12
  | .exit i14 => none
  | .ret => finish objs.length (.ok (vs11.getD 1 .any)) h12
  | .panic v15 => finish objs.length (.pan v15) h12)

def math_bits_Len32_k2 (objs : Heap) : Ex → List A → Heap → Option (Out × Heap) := fun e5 vs3 h4 =>
      (match e5 with
  | .normal => oJoin (oCmp .geq (vs3.getD 0 .any) (.s (.int .u32 256)) fun x8 =>
      oCond x8 (oShift .shr (vs3.getD 0 .any) (.s (.int .u64 8)) fun x9 =>
      oAr .add (vs3.getD 1 .any) (.s (.int .i64 8)) fun x10 =>
      (trim true h4.length [x9, x10] h4).map fun p => (Ex.normal, p.1, p.2))
      ((trim true h4.length [(vs3.getD 0 .any), (vs3.getD 1 .any)] h4).map fun p => (Ex.normal, p.1, p.2))) (math_bits_Len32_k1 objs)
  | .exit i6 => none
  | .ret => finish objs.length (.ok (vs3.getD 1 .any)) h4
  | .panic v7 => finish objs.length (.pan v7) h4)

/-- math/bits.Len32 -/
def math_bits_Len32 : CallFn := fun args objs =>
match args with
| [a0] =>
oJoin (oCmp .geq a0 (.s (.int .u32 65536)) fun x1 =>
      oCond x1 (oShift .shr a0 (.s (.int .u64 16)) fun x2 =>
      (trim true objs.length [x2, (.s (.int .i64 16))] objs).map fun p => (Ex.normal, p.1, p.2))
      ((trim true objs.length [a0, (.s (.int .i64 0))] objs).map fun p => (Ex.normal, p.1, p.2))) (math_bits_Len32_k2 objs)
| _ => none

def math_bits_Len64_k1 (objs : Heap) : Ex → List A → Heap → Option (Out × Heap) := fun e21 vs19 h20 =>
      (match e21 with
  | .normal => oConv .u8 (vs19.getD 0 .any) fun x24 =>
      oIndexStr (.s (.string ((ByteArray.mk #[0, 1, 2, 2, 3, 3, 3, 3, 4, 4, 4, 4, 4, 4, 4, 4, 5, 5, 5, 5, 5, 5, 5, 5, 5, 5, 5, 5, 5, 5, 5, 5, 6, 6, 6, 6, 6, 6, 6, 6, 6, 6, 6, 6, 6, 6, 6, 6, 6, 6, 6, 6, 6, 6, 6, 6, 6, 6, 6, 6, 6, 6, 6, 6, 7, 7, 7, 7, 7, 7, 7, 7, 7, 7, 7, 7, 7, 7, 7, 7, 7, 7, 7, 7, 7, 7, 7, 7, 7, 7, 7, 7, 7, 7, 7, 7, 7, 7, 7, 7, 7, 7, 7, 7, 7, 7, 7, 7, 7, 7, 7, 7, 7, 7, 7, 7, 7, 7, 7, 7, 7, 7, 7, 7, 7, 7, 7, 7, 8, 8, 8, 8, 8, 8, 8, 8, 8, 8, 8, 8, 8, 8, 8, 8, 8, 8, 8, 8, 8, 8, 8, 8, 8, 8, 8, 8, 8, 8, 8, 8, 8, 8, 8, 8, 8, 8, 8, 8, 8, 8, 8, 8, 8, 8, 8, 8, 8, 8, 8, 8, 8, 8, 8, 8, 8, 8, 8, 8, 8, 8, 8, 8, 8, 8, 8, 8, 8, 8, 8, 8, 8, 8, 8, 8, 8, 8, 8, 8, 8, 8, 8, 8, 8, 8, 8, 8, 8, 8, 8, 8, 8, 8, 8, 8, 8, 8, 8, 8, 8, 8, 8, 8, 8, 8, 8, 8, 8, 8, 8, 8, 8, 8, 8, 8, 8, 8, 8, 8, 8, 8, 8, 8, 8, 8, 8, 8])))) x24 fun x25 =>
      oConv .i64 x25 fun x26 =>
      oAr .add (vs19.getD 1 .any) x26 fun x27 =>
      finish objs.length (.ok x27) h20
  | .exit i22 => none
  | .ret => finish objs.length (.ok (vs19.getD 1 .any)) h20
  | .panic v23 => finish objs.length (.pan v23) h20)

def math_bits_Len64_k2 (objs : Heap) : Ex → List A → Heap → Option (Out × Heap) := fun e13 vs11 h12 =>
      (match e13 with
  | .normal => oJoin (oCmp .geq (vs11.getD 0 .any) (.s (.int .u64 256)) fun x16 =>
      oCond x16 (oShift .shr (vs11.getD 0 .any) (.s (.int .u64 8)) fun x17 =>
      oAr .add (vs11.getD 1 .any) (.s (.int .i64 8)) fun x18 =>
      (trim true h12.length [x17, x18] h12).map fun p => (Ex.normal, p.1, p.2))
      ((trim true h12.length [(vs11.getD 0 .any), (vs11.getD 1 .any)] h12).map fun p => (Ex.normal, p.1, p.2))) (math_bits_Len64_k1 objs)
  | .exit i14 => none
  | .ret => finish objs.length (.ok (vs11.getD 1 .any)) h12
  | .panic v15 => finish objs.length (.pan v15) h12)

def math_bits_Len64_k3 (objs : Heap) : Ex → List A → Heap → Option (Out × Heap) := fun e5 vs3 h4 =>
      (match e5 with
  | .normal => oJoin (oCmp .geq (vs3.getD 0 .any) (.s (.int .u64 65536)) fun x8 =>
      oCond x8 (oShift .shr (vs3.getD 0 .any) (.s (.int .u64 16)) fun x9 =>
      oAr .add (vs3.getD 1 .any) (.s (.int .i64 16)) fun x10 =>
      (trim true h4.length [x9, x10] h4).map fun p => (Ex.normal, p.1, p.2))
      ((trim true h4.length [(vs3.getD 0 .any), (vs3.getD 1 .any)] h4).map fun p => (Ex.normal, p.1, p.2))) (math_bits_Len64_k2 objs)
  | .exit i6 => none
  | .ret => finish objs.length (.ok (vs3.getD 1 .any)) h4
  | .panic v7 => finish objs.length (.pan v7) h4)

/-- math/bits.Len64 -/
def math_bits_Len64 : CallFn := fun args objs =>
match args with
| [a0] =>
oJoin (oCmp .geq a0 (.s (.int .u64 4294967296)) fun x1 =>
      oCond x1 (oShift .shr a0 (.s (.int .u64 32)) fun x2 =>
      (trim true objs.length [x2, (.s (.int .i64 32))] objs).map fun p => (Ex.normal, p.1, p.2))
      ((trim true objs.length [a0, (.s (.int .i64 0))] objs).map fun p => (Ex.normal, p.1, p.2))) (math_bits_Len64_k3 objs)
| _ => none

/-- math/bits.Len -/
def math_bits_Len : CallFn := fun args objs =>
match args with
| [a0] =>
oLend math_bits_Len64 [a0] objs (fun v3 h4 => finish objs.length (.pan v3) h4) fun w5 h6 => oFrz w5 h6 fun x1 h2 =>
      finish objs.length (.ok x1) h2
| _ => none

/-- cmp.Less[uint64] -/
def cmp_Less_uint64 : CallFn := fun args objs =>
match args with
| [a0, a1] =>
oLend cmp_isNaN_uint64 [a0] objs (fun v3 h4 => finish objs.length (.pan v3) h4) fun w14 h15 => oFrz w14 h15 fun x1 h2 =>
      oGuard x1 true (fun _ => oLend cmp_isNaN_uint64 [a1] h2 (fun v7 h8 => finish objs.length (.pan v7) h8) fun w11 h12 => oFrz w11 h12 fun x5 h6 =>
      oNot x5 fun x9 =>
      oGuard x9 false (fun _ => oCmp .lss a0 a1 fun x10 =>
      finish objs.length (.ok x10) h6)
      (fun _ => finish objs.length (.ok (.s (.bool true))) h6))
      (fun _ => oCmp .lss a0 a1 fun x13 =>
      finish objs.length (.ok x13) h2)
| _ => none

def slices_insertionSortOrdered_uint64_k1 (s4 : List A × Heap) : Ex → List A → Heap → Option (Ex × List A × Heap) := fun e19 vs17 h18 =>
      (match e19 with
  | .normal => oCond (vs17.getD 0 .any) ((trim true s4.2.length [(vs17.getD 0 .any)] h18).map fun p => (Ex.normal, p.1, p.2))
      ((trim true s4.2.length [(vs17.getD 0 .any)] h18).map fun p => (Ex.exit 2, p.1, p.2))
  | .exit i20 => (trim true s4.2.length [(vs17.getD 0 .any)] h18).map fun p => (Ex.exit i20, p.1, p.2)
  | .ret => (trim true s4.2.length [(vs17.getD 0 .any)] h18).map fun p => (Ex.ret, p.1, p.2)
  | .panic v21 => some (Ex.panic v21, [], h18))

def slices_insertionSortOrdered_uint64_k2 (s4 : List A × Heap) (a0 : A) (s2 : List A × Heap) : Ex → List A → Heap → Option ((List A × Heap) ⊕ (Ex × List A × Heap)) := fun e24 vs22 h23 =>
      (match e24 with
  | .normal => oAr .sub (s4.1.getD 0 .any) (.s (.int .i64 1)) fun x27 =>
      oAr .sub (s4.1.getD 0 .any) (.s (.int .i64 1)) fun x28 =>
      oIdxA 1 a0 x28 fun x29 =>
      oLoadD h23.length [] none x29 h23 fun x30 h31 =>
      oIdxA 1 a0 (s4.1.getD 0 .any) fun x32 =>
      oLoadD h23.length [] none x32 h31 fun x33 h34 =>
      oIdxA 1 a0 (s4.1.getD 0 .any) fun x35 =>
      oStore none x35 x30 h34 fun h36 =>
      oIdxA 1 a0 x27 fun x37 =>
      oStore none x37 x33 h36 fun h38 =>
      oAr .sub (s4.1.getD 0 .any) (.s (.int .i64 1)) fun x39 =>
      (trim true s2.2.length [x39] h38).map .inl
  | .exit i25 => (trim true s2.2.length [] h23).map fun p => .inr (Ex.exit i25, p.1, p.2)
  | .ret => (trim true s2.2.length [] h23).map fun p => .inr (Ex.ret, p.1, p.2)
  | .panic v26 => some (.inr (Ex.panic v26, [], h23)))

def slices_insertionSortOrdered_uint64_l3 (a1 : A) (a0 : A) (s2 : List A × Heap) : List A × Heap → Option ((List A × Heap) ⊕ (Ex × List A × Heap)) := fun s4 =>
      oJoin (oJoin (oCmp .gtr (s4.1.getD 0 .any) a1 fun x5 =>
      oGuard x5 true (fun _ => oIdxA 1 a0 (s4.1.getD 0 .any) fun x6 =>
      oLoadD s4.2.length [] none x6 s4.2 fun x7 h8 =>
      oAr .sub (s4.1.getD 0 .any) (.s (.int .i64 1)) fun x9 =>
      oIdxA 1 a0 x9 fun x10 =>
      oLoadD s4.2.length [] none x10 h8 fun x11 h12 =>
      oCallF s4.2.length [] cmp_Less_uint64 [x7, x11] h12 fun w15 h16 => oFrz w15 h16 fun x13 h14 =>
      (trim true s4.2.length [x13] h14).map fun p => (Ex.normal, p.1, p.2))
      (fun _ => (trim true s4.2.length [(.s (.bool false))] s4.2).map fun p => (Ex.normal, p.1, p.2))) (slices_insertionSortOrdered_uint64_k1 s4)) (slices_insertionSortOrdered_uint64_k2 s4 a0 s2)

def slices_insertionSortOrdered_uint64_k4 (s2 : List A × Heap) (objs : Heap) : Ex → List A → Heap → Option ((List A × Heap) ⊕ (Ex × List A × Heap)) := fun e40 vs41 h42 =>
      (match e40 with
  | .normal => none
  | .exit i43 => if i43 = 2 then oAr .add (s2.1.getD 0 .any) (.s (.int .i64 1)) fun x45 =>
      (trim true objs.length [x45] h42).map .inl else if i43 = 1 then oAr .add (s2.1.getD 0 .any) (.s (.int .i64 1)) fun x46 =>
      (trim true objs.length [x46] h42).map .inl else (trim true objs.length [] h42).map fun p => .inr (Ex.exit i43, p.1, p.2)
  | .ret => (trim true objs.length [] h42).map fun p => .inr (Ex.ret, p.1, p.2)
  | .panic v44 => some (.inr (Ex.panic v44, [], h42)))

def slices_insertionSortOrdered_uint64_l5 (a2 : A) (a1 : A) (a0 : A) (objs : Heap) : List A × Heap → Option ((List A × Heap) ⊕ (Ex × List A × Heap)) := fun s2 =>
      oCmp .lss (s2.1.getD 0 .any) a2 fun x3 =>
      oCond x3 (oLoop (slices_insertionSortOrdered_uint64_l3 a1 a0 s2) ([(s2.1.getD 0 .any)], s2.2) (slices_insertionSortOrdered_uint64_k4 s2 objs))
      ((trim true objs.length [] s2.2).map fun p => .inr (Ex.exit 0, p.1, p.2))

def slices_insertionSortOrdered_uint64_k6 (objs : Heap) : Ex → List A → Heap → Option (Out × Heap) := fun e47 vs48 h49 =>
      (match e47 with
  | .normal => none
  | .exit i50 => if i50 = 0 then finish objs.length (.ok (.s (.tuple #[]))) h49 else none
  | .ret => finish objs.length (.ok (.s (.tuple #[]))) h49
  | .panic v51 => finish objs.length (.pan v51) h49)

/-- slices.insertionSortOrdered[uint64] -/
def slices_insertionSortOrdered_uint64 : CallFn := fun args objs =>
match args with
| [a0, a1, a2] =>
oAr .add a1 (.s (.int .i64 1)) fun x1 =>
      oLoop (slices_insertionSortOrdered_uint64_l5 a2 a1 a0 objs) ([x1], objs) (slices_insertionSortOrdered_uint64_k6 objs)
| _ => none

def slices_pdqsortOrdered_uint64_k1 (a0 : A) (s1 : List A × Heap) (h47 : Heap) : Ex → List A → Heap → Option (Ex × List A × Heap) := fun e54 vs52 h53 =>
      (match e54 with
  | .normal => oCond (vs52.getD 0 .any) (oLend (fun _ _ => none) [a0, (s1.1.getD 0 .any), (s1.1.getD 1 .any)] h53 (fun v59 h60 => some (Ex.panic v59, [], h60)) fun w61 h62 => oFrz w61 h62 fun x57 h58 =>
      oCond x57 ((trim true h47.length [] h58).map fun p => (Ex.ret, p.1, p.2))
      ((trim true h47.length [] h58).map fun p => (Ex.normal, p.1, p.2)))
      ((trim true h47.length [] h53).map fun p => (Ex.normal, p.1, p.2))
  | .exit i55 => (trim true h47.length [] h53).map fun p => (Ex.exit i55, p.1, p.2)
  | .ret => (trim true h47.length [] h53).map fun p => (Ex.ret, p.1, p.2)
  | .panic v56 => some (Ex.panic v56, [], h53))

def slices_pdqsortOrdered_uint64_k2 (self : CallFn) (a0 : A) (s1 : List A × Heap) (vs46 : List A) (objs : Heap) (vs25 : List A) (x2 : A) : Ex → List A → Heap → Option ((List A × Heap) ⊕ (Ex × List A × Heap)) := fun e83 vs81 h82 =>
      (match e83 with
  | .normal => oCond (vs81.getD 0 .any) (oLend (fun _ _ => none) [a0, (s1.1.getD 0 .any), (s1.1.getD 1 .any), (vs46.getD 0 .any)] h82 (fun v88 h89 => some (.inr (Ex.panic v88, [], h89))) fun w90 h91 => oFrz w90 h91 fun x86 h87 =>
      (trim true objs.length [x86, (s1.1.getD 1 .any), (vs25.getD 0 .any), (s1.1.getD 3 .any), (s1.1.getD 4 .any)] h87).map .inl)
      (oLend (fun _ _ => none) [a0, (s1.1.getD 0 .any), (s1.1.getD 1 .any), (vs46.getD 0 .any)] h82 (fun v94 h95 => some (.inr (Ex.panic v94, [], h95))) fun w118 h119 => oFrz w118 h119 fun x92 h93 =>
      oExtract 0 x92 fun x96 =>
      oExtract 1 x92 fun x97 =>
      oAr .sub x96 (s1.1.getD 0 .any) fun x98 =>
      oAr .sub (s1.1.getD 1 .any) x96 fun x99 =>
      oAr .quo x2 (.s (.int .i64 8)) fun x100 =>
      oCmp .lss x98 x99 fun x101 =>
      oCond x101 (oCmp .geq x98 x100 fun x102 =>
      oCall self [a0, (s1.1.getD 0 .any), x96, (vs25.getD 0 .any)] h93 (fun v105 h106 => some (.inr (Ex.panic v105, [], h106))) fun w108 h109 => oFrz w108 h109 fun x103 h104 =>
      oAr .add x96 (.s (.int .i64 1)) fun x107 =>
      (trim true objs.length [x107, (s1.1.getD 1 .any), (vs25.getD 0 .any), x102, x97] h104).map .inl)
      (oCmp .geq x99 x100 fun x110 =>
      oAr .add x96 (.s (.int .i64 1)) fun x111 =>
      oCall self [a0, x111, (s1.1.getD 1 .any), (vs25.getD 0 .any)] h93 (fun v114 h115 => some (.inr (Ex.panic v114, [], h115))) fun w116 h117 => oFrz w116 h117 fun x112 h113 =>
      (trim true objs.length [(s1.1.getD 0 .any), x96, (vs25.getD 0 .any), x110, x97] h113).map .inl))
  | .exit i84 => if i84 = 1 then (trim true objs.length [(s1.1.getD 0 .any), (s1.1.getD 1 .any), (vs25.getD 0 .any), (s1.1.getD 3 .any), (s1.1.getD 4 .any)] h82).map .inl else (trim true objs.length [] h82).map fun p => .inr (Ex.exit i84, p.1, p.2)
  | .ret => (trim true objs.length [] h82).map fun p => .inr (Ex.ret, p.1, p.2)
  | .panic v85 => some (.inr (Ex.panic v85, [], h82)))

def slices_pdqsortOrdered_uint64_k3 (self : CallFn) (s1 : List A × Heap) (a0 : A) (vs46 : List A) (objs : Heap) (vs25 : List A) (x2 : A) : Ex → List A → Heap → Option ((List A × Heap) ⊕ (Ex × List A × Heap)) := fun e65 vs63 h64 =>
      (match e65 with
  | .normal => oJoin (oCmp .gtr (s1.1.getD 0 .any) (.s (.int .i64 0)) fun x68 =>
      oGuard x68 true (fun _ => oAr .sub (s1.1.getD 0 .any) (.s (.int .i64 1)) fun x69 =>
      oIdxA 1 a0 x69 fun x70 =>
      oLoadD h64.length [] none x70 h64 fun x71 h72 =>
      oIdxA 1 a0 (vs46.getD 0 .any) fun x73 =>
      oLoadD h64.length [] none x73 h72 fun x74 h75 =>
      oCallF h64.length [] cmp_Less_uint64 [x71, x74] h75 fun w79 h80 => oFrz w79 h80 fun x76 h77 =>
      oNot x76 fun x78 =>
      (trim true h64.length [x78] h77).map fun p => (Ex.normal, p.1, p.2))
      (fun _ => (trim true h64.length [(.s (.bool false))] h64).map fun p => (Ex.normal, p.1, p.2))) (slices_pdqsortOrdered_uint64_k2 self a0 s1 vs46 objs vs25 x2)
  | .exit i66 => if i66 = 1 then (trim true objs.length [(s1.1.getD 0 .any), (s1.1.getD 1 .any), (vs25.getD 0 .any), (s1.1.getD 3 .any), (s1.1.getD 4 .any)] h64).map .inl else (trim true objs.length [] h64).map fun p => .inr (Ex.exit i66, p.1, p.2)
  | .ret => (trim true objs.length [] h64).map fun p => .inr (Ex.ret, p.1, p.2)
  | .panic v67 => some (.inr (Ex.panic v67, [], h64)))

def slices_pdqsortOrdered_uint64_k4 (self : CallFn) (s1 : List A × Heap) (a0 : A) (objs : Heap) (vs25 : List A) (x2 : A) : Ex → List A → Heap → Option ((List A × Heap) ⊕ (Ex × List A × Heap)) := fun e48 vs46 h47 =>
      (match e48 with
  | .normal => oJoin (oJoin (oGuard (s1.1.getD 3 .any) true (fun _ => oGuard (s1.1.getD 4 .any) true (fun _ => oCmp .eql (vs46.getD 1 .any) (.s (.int .i64 1)) fun x51 =>
      (trim true h47.length [x51] h47).map fun p => (Ex.normal, p.1, p.2))
      (fun _ => (trim true h47.length [(.s (.bool false))] h47).map fun p => (Ex.normal, p.1, p.2)))
      (fun _ => (trim true h47.length [(.s (.bool false))] h47).map fun p => (Ex.normal, p.1, p.2))) (slices_pdqsortOrdered_uint64_k1 a0 s1 h47)) (slices_pdqsortOrdered_uint64_k3 self s1 a0 vs46 objs vs25 x2)
  | .exit i49 => if i49 = 1 then (trim true objs.length [(s1.1.getD 0 .any), (s1.1.getD 1 .any), (vs25.getD 0 .any), (s1.1.getD 3 .any), (s1.1.getD 4 .any)] h47).map .inl else (trim true objs.length [] h47).map fun p => .inr (Ex.exit i49, p.1, p.2)
  | .ret => (trim true objs.length [] h47).map fun p => .inr (Ex.ret, p.1, p.2)
  | .panic v50 => some (.inr (Ex.panic v50, [], h47)))

def slices_pdqsortOrdered_uint64_k5 (self : CallFn) (a0 : A) (s1 : List A × Heap) (objs : Heap) (x2 : A) : Ex → List A → Heap → Option ((List A × Heap) ⊕ (Ex × List A × Heap)) := fun e27 vs25 h26 =>
      (match e27 with
  | .normal => oLend (fun _ _ => none) [a0, (s1.1.getD 0 .any), (s1.1.getD 1 .any)] h26 (fun v32 h33 => some (.inr (Ex.panic v32, [], h33))) fun w120 h121 => oFrz w120 h121 fun x30 h31 =>
      oExtract 0 x30 fun x34 =>
      oExtract 1 x30 fun x35 =>
      oJoin (oCmp .eql x35 (.s (.int .i64 2)) fun x36 =>
      oCond x36 (oLend (fun _ _ => none) [a0, (s1.1.getD 0 .any), (s1.1.getD 1 .any)] h31 (fun v39 h40 => some (Ex.panic v39, [], h40)) fun w44 h45 => oFrz w44 h45 fun x37 h38 =>
      oAr .sub (s1.1.getD 1 .any) (.s (.int .i64 1)) fun x41 =>
      oAr .sub x34 (s1.1.getD 0 .any) fun x42 =>
      oAr .sub x41 x42 fun x43 =>
      (trim true h31.length [x43, (.s (.int .i64 1))] h38).map fun p => (Ex.normal, p.1, p.2))
      ((trim true h31.length [x34, x35] h31).map fun p => (Ex.normal, p.1, p.2))) (slices_pdqsortOrdered_uint64_k4 self s1 a0 objs vs25 x2)
  | .exit i28 => if i28 = 1 then (trim true objs.length [(s1.1.getD 0 .any), (s1.1.getD 1 .any), (vs25.getD 0 .any), (s1.1.getD 3 .any), (s1.1.getD 4 .any)] h26).map .inl else (trim true objs.length [] h26).map fun p => .inr (Ex.exit i28, p.1, p.2)
  | .ret => (trim true objs.length [] h26).map fun p => .inr (Ex.ret, p.1, p.2)
  | .panic v29 => some (.inr (Ex.panic v29, [], h26)))

def slices_pdqsortOrdered_uint64_l6 (self : CallFn) (a0 : A) (objs : Heap) : List A × Heap → Option ((List A × Heap) ⊕ (Ex × List A × Heap)) := fun s1 =>
      oAr .sub (s1.1.getD 1 .any) (s1.1.getD 0 .any) fun x2 =>
      oCmp .leq x2 (.s (.int .i64 12)) fun x3 =>
      oCond x3 (oCall slices_insertionSortOrdered_uint64 [a0, (s1.1.getD 0 .any), (s1.1.getD 1 .any)] s1.2 (fun v6 h7 => some (.inr (Ex.panic v6, [], h7))) fun w8 h9 => oFrz w8 h9 fun x4 h5 =>
      (trim true objs.length [] h5).map fun p => .inr (Ex.ret, p.1, p.2))
      (oCmp .eql (s1.1.getD 2 .any) (.s (.int .i64 0)) fun x10 =>
      oCond x10 (oLend (fun _ _ => none) [a0, (s1.1.getD 0 .any), (s1.1.getD 1 .any)] s1.2 (fun v13 h14 => some (.inr (Ex.panic v13, [], h14))) fun w15 h16 => oFrz w15 h16 fun x11 h12 =>
      (trim true objs.length [] h12).map fun p => .inr (Ex.ret, p.1, p.2))
      (oJoin (oNot (s1.1.getD 3 .any) fun x17 =>
      oCond x17 (oLend (fun _ _ => none) [a0, (s1.1.getD 0 .any), (s1.1.getD 1 .any)] s1.2 (fun v20 h21 => some (Ex.panic v20, [], h21)) fun w23 h24 => oFrz w23 h24 fun x18 h19 =>
      oAr .sub (s1.1.getD 2 .any) (.s (.int .i64 1)) fun x22 =>
      (trim true s1.2.length [x22] h19).map fun p => (Ex.normal, p.1, p.2))
      ((trim true s1.2.length [(s1.1.getD 2 .any)] s1.2).map fun p => (Ex.normal, p.1, p.2))) (slices_pdqsortOrdered_uint64_k5 self a0 s1 objs x2)))

def slices_pdqsortOrdered_uint64_k7 (objs : Heap) : Ex → List A → Heap → Option (Out × Heap) := fun e122 vs123 h124 =>
      (match e122 with
  | .normal => none
  | .exit i125 => if i125 = 0 then finish objs.length (.ok (.s (.tuple #[]))) h124 else none
  | .ret => finish objs.length (.ok (.s (.tuple #[]))) h124
  | .panic v126 => finish objs.length (.pan v126) h124)

/-- slices.pdqsortOrdered[uint64] -/
def slices_pdqsortOrdered_uint64_step (self : CallFn) : CallFn := fun args objs =>
match args with
| [a0, a1, a2, a3] =>
oLoop (slices_pdqsortOrdered_uint64_l6 self a0 objs) ([a1, a2, a3, (.s (.bool true)), (.s (.bool true))], objs) (slices_pdqsortOrdered_uint64_k7 objs)
| _ => none

def slices_pdqsortOrdered_uint64 : Nat → CallFn
| 0 => fun _ _ => none
| n + 1 => slices_pdqsortOrdered_uint64_step (slices_pdqsortOrdered_uint64 n)

/-- slices.Sort[[]uint64,uint64] -/
def slices_Sort_Suint64_uint64 : CallFn := fun args objs =>
match args with
| [a0] =>
oLen a0 fun x1 =>
      oConv .u64 x1 fun x2 =>
      oLend math_bits_Len [x2] objs (fun v5 h6 => finish objs.length (.pan v5) h6) fun w13 h14 => oFrz w13 h14 fun x3 h4 =>
      oCall (slices_pdqsortOrdered_uint64 big) [a0, (.s (.int .i64 0)), x1, x3] h4 (fun v9 h10 => finish objs.length (.pan v9) h10) fun w11 h12 => oFrz w11 h12 fun x7 h8 =>
      finish objs.length (.ok (.s (.tuple #[]))) h8
| _ => none

def graph_Unlink_k1 (h56 : Heap) : Ex → List A → Heap → Option (Ex × List A × Heap) := fun e71 vs69 h70 =>
      (match e71 with
  | .normal => oCond (vs69.getD 0 .any) ((trim true h56.length [(vs69.getD 0 .any)] h70).map fun p => (Ex.exit 1, p.1, p.2))
      ((trim true h56.length [(vs69.getD 0 .any)] h70).map fun p => (Ex.normal, p.1, p.2))
  | .exit i72 => (trim true h56.length [(vs69.getD 0 .any)] h70).map fun p => (Ex.exit i72, p.1, p.2)
  | .ret => (trim true h56.length [(vs69.getD 0 .any)] h70).map fun p => (Ex.ret, p.1, p.2)
  | .panic v73 => some (Ex.panic v73, [], h70))

def graph_Unlink_l2 (x82 : A) (x81 : A) (h75 : Heap) : List A × Heap → Option ((List A × Heap) ⊕ (Ex × List A × Heap)) := fun s83 =>
      oCmp .lss (s83.1.getD 1 .any) x82 fun x84 =>
      oCond x84 (oIdxA 2 x81 (s83.1.getD 1 .any) fun x85 =>
      oLoad (some 2) x85 s83.2 fun x86 =>
      oNew none (some 2) (.agg [.s (.int .u64 0), .s (.int .i64 0)]) s83.2 fun x87 h88 =>
      oStore (some 2) x87 x86 h88 fun h89 =>
      oFieldA 0 x87 fun x90 =>
      oLoad none x90 h89 fun x91 =>
      oNewSlice none 1 (asRows none [x91]) h89 fun x92 h93 =>
      oAppend none 1 8 (s83.1.getD 0 .any) x92 h93 fun x94 h95 =>
      oAr .add (s83.1.getD 1 .any) (.s (.int .i64 1)) fun x96 =>
      (trim true h75.length [x94, x96] h95).map .inl)
      ((trim true h75.length [(s83.1.getD 0 .any)] s83.2).map fun p => .inr (Ex.exit 2, p.1, p.2))

def graph_Unlink_k3 (x59 : A) (s45 : List A × Heap) (x51 : A) (h44 : Heap) : Ex → List A → Heap → Option ((List A × Heap) ⊕ (Ex × List A × Heap)) := fun e97 vs98 h99 =>
      (match e97 with
  | .normal => none
  | .exit i100 => if i100 = 2 then oAr .add x59 (.s (.int .i64 1)) fun x102 =>
      oCall (primDelete 26 272) [(s45.1.getD 0 .any), x59, x102] h99 (fun v105 h106 => some (.inr (Ex.panic v105, [.any, .any], h106))) fun x103 h104 =>
      oNewSlice none 1 (asRows none [x51]) h104 fun x107 h108 =>
      oAppend none 1 8 (s45.1.getD 1 .any) x107 h108 fun x109 h110 =>
      (trim true h44.length [x103, x109, (vs98.getD 0 .any)] h110).map .inl else if i100 = 1 then (trim true h44.length [(s45.1.getD 0 .any), (s45.1.getD 1 .any), (vs98.getD 0 .any)] h99).map .inl else (trim true h44.length [(s45.1.getD 0 .any), (s45.1.getD 1 .any)] h99).map fun p => .inr (Ex.exit i100, p.1, p.2)
  | .ret => (trim true h44.length [(s45.1.getD 0 .any), (s45.1.getD 1 .any)] h99).map fun p => .inr (Ex.ret, p.1, p.2)
  | .panic v101 => some (.inr (Ex.panic v101, [.any, .any], h99)))

def graph_Unlink_k4 (s45 : List A × Heap) (x59 : A) (x54 : A) (x51 : A) (h44 : Heap) : Ex → List A → Heap → Option ((List A × Heap) ⊕ (Ex × List A × Heap)) := fun e76 vs74 h75 =>
      (match e76 with
  | .normal => oIdxA 26 (s45.1.getD 0 .any) x59 fun x79 =>
      oFieldA 8 x79 fun x80 =>
      oLoad none x80 h75 fun x81 =>
      oLen x81 fun x82 =>
      oLoop (graph_Unlink_l2 x82 x81 h75) ([x54, (.s (.int .i64 0))], h75) (graph_Unlink_k3 x59 s45 x51 h44)
  | .exit i77 => if i77 = 1 then (trim true h44.length [(s45.1.getD 0 .any), (s45.1.getD 1 .any), x54] h75).map .inl else (trim true h44.length [(s45.1.getD 0 .any), (s45.1.getD 1 .any)] h75).map fun p => .inr (Ex.exit i77, p.1, p.2)
  | .ret => (trim true h44.length [(s45.1.getD 0 .any), (s45.1.getD 1 .any)] h75).map fun p => .inr (Ex.ret, p.1, p.2)
  | .panic v78 => some (.inr (Ex.panic v78, [.any, .any], h75)))

def graph_Unlink_l5 (h44 : Heap) : List A × Heap → Option ((List A × Heap) ⊕ (Ex × List A × Heap)) := fun s45 =>
      oLen (s45.1.getD 2 .any) fun x46 =>
      oCmp .gtr x46 (.s (.int .i64 0)) fun x47 =>
      oCond x47 (oLen (s45.1.getD 2 .any) fun x48 =>
      oAr .sub x48 (.s (.int .i64 1)) fun x49 =>
      oIdxA 1 (s45.1.getD 2 .any) x49 fun x50 =>
      oLoad none x50 s45.2 fun x51 =>
      oLen (s45.1.getD 2 .any) fun x52 =>
      oAr .sub x52 (.s (.int .i64 1)) fun x53 =>
      oSlice 1 (s45.1.getD 2 .any) none (some x53) fun x54 =>
      oLend graph_place [(s45.1.getD 0 .any), x51] s45.2 (fun v57 h58 => some (.inr (Ex.panic v57, [.any, .any], h58))) fun w111 h112 => oFrz w111 h112 fun x55 h56 =>
      oExtract 0 x55 fun x59 =>
      oExtract 1 x55 fun x60 =>
      oJoin (oJoin (oNot x60 fun x61 =>
      oGuard x61 false (fun _ => oLend graph_Refs [(s45.1.getD 0 .any), x51] h56 (fun v64 h65 => some (Ex.panic v64, [], h65)) fun w67 h68 => oFrz w67 h68 fun x62 h63 =>
      oCmp .gtr x62 (.s (.int .i64 0)) fun x66 =>
      (trim true h56.length [x66] h63).map fun p => (Ex.normal, p.1, p.2))
      (fun _ => (trim true h56.length [(.s (.bool true))] h56).map fun p => (Ex.normal, p.1, p.2))) (graph_Unlink_k1 h56)) (graph_Unlink_k4 s45 x59 x54 x51 h44))
      ((trim true h44.length [(s45.1.getD 0 .any), (s45.1.getD 1 .any)] s45.2).map fun p => .inr (Ex.exit 0, p.1, p.2))

def graph_Unlink_k6 (objs : Heap) : Ex → List A → Heap → Option (Out × Heap) := fun e113 vs114 h115 =>
      (match e113 with
  | .normal => none
  | .exit i116 => if i116 = 0 then oCall slices_Sort_Suint64_uint64 [(vs114.getD 1 .any)] h115 (fun v120 h121 => finish objs.length (.pan v120) h121) fun w122 h123 => oFrz w122 h123 fun x118 h119 =>
      finish objs.length (.ok (.tup [(vs114.getD 0 .any), (vs114.getD 1 .any), (.s (.int .i64 0))])) h119 else none
  | .ret => finish objs.length (.ok (.tup [(.s (.slice none 0 0)), (.s (.slice none 0 0)), (.s (.int .i64 0))])) h115
  | .panic v117 => finish objs.length (.pan v117) h115)

def graph_Unlink_k7 (a0 : A) (objs : Heap) (x7 : A) (a2 : A) : Ex → List A → Heap → Option (Out × Heap) := fun e16 vs14 h15 =>
      (match e16 with
  | .normal => oCond (vs14.getD 0 .any) (oLend graph_copyAll [a0] h15 (fun v21 h22 => finish objs.length (.pan v21) h22) fun x19 h20 =>
      finish objs.length (.ok (.tup [x19, (.s (.slice none 0 0)), (.s (.int .i64 131))])) h20)
      (oLoad (some 26) x7 h15 fun x23 =>
      oLend dir_Drop [x23, a2] h15 (fun v26 h27 => finish objs.length (.pan v26) h27) fun w124 h125 => oFrz w124 h125 fun x24 h25 =>
      oExtract 0 x24 fun x28 =>
      oExtract 1 x24 fun x29 =>
      oStore (some 26) x7 x28 h25 fun h30 =>
      oCmp .neq x29 (.s (.int .i64 0)) fun x31 =>
      oCond x31 (oLend graph_copyAll [a0] h30 (fun v34 h35 => finish objs.length (.pan v34) h35) fun x32 h33 =>
      finish objs.length (.ok (.tup [x32, (.s (.slice none 0 0)), x29])) h33)
      (oLoad (some 26) x7 h30 fun x36 =>
      oLend graph_Put [a0, x36] h30 (fun v39 h40 => finish objs.length (.pan v39) h40) fun x37 h38 =>
      oNewSlice none 1 (asRows none [a2]) h38 fun x41 h42 =>
      oProm 1 (.s (.slice none 0 0)) h42 fun x43 h44 =>
      oLoop (graph_Unlink_l5 h44) ([x37, x43, x41], h44) (graph_Unlink_k6 objs)))
  | .exit i17 => none
  | .ret => finish objs.length (.ok (.tup [(.s (.slice none 0 0)), (.s (.slice none 0 0)), (.s (.int .i64 0))])) h15
  | .panic v18 => finish objs.length (.pan v18) h15)

/-- bailey/graph.Unlink -/
def graph_Unlink : CallFn := fun args objs =>
match args with
| [a0, a1, a2] =>
oLend graph_Find [a0, a1] objs (fun v3 h4 => finish objs.length (.pan v3) h4) fun w126 h127 => oFrz w126 h127 fun x1 h2 =>
      oExtract 0 x1 fun x5 =>
      oExtract 1 x1 fun x6 =>
      oNew none (some 26) (.agg [.s (.int .u64 0), .s (.int .i64 0), .s (.int .i64 0), .s (.slice none 0 0), .s (.int .i64 0), .s (.slice none 0 0), .s (.int .i64 0), .s (.int .i64 0), .s (.slice none 0 0), .s (.slice none 0 0), .s (.int .u64 0), .s (.int .u64 0), .s (.int .u64 0), .s (.int .u64 0), .s (.int .i64 0), .s (.int .i64 0), .s (.bool false), .s (.int .u64 0), .s (.int .u64 0), .s (.int .u64 0), .s (.int .u64 0), .s (.int .u64 0), .s (.int .u64 0), .s (.int .u64 0), .s (.int .u64 0), .s (.int .u64 0)]) h2 fun x7 h8 =>
      oStore (some 26) x7 x5 h8 fun h9 =>
      oJoin (oNot x6 fun x10 =>
      oGuard x10 false (fun _ => oFieldA 1 x7 fun x11 =>
      oLoad none x11 h9 fun x12 =>
      oCmp .neq x12 (.s (.int .i64 1)) fun x13 =>
      (trim true h9.length [x13] h9).map fun p => (Ex.normal, p.1, p.2))
      (fun _ => (trim true h9.length [(.s (.bool true))] h9).map fun p => (Ex.normal, p.1, p.2))) (graph_Unlink_k7 a0 objs x7 a2)
| _ => none

def graph_rising_l1 (a0 : A) (objs : Heap) : List A × Heap → Option ((List A × Heap) ⊕ (Ex × List A × Heap)) := fun s1 =>
      oLen a0 fun x2 =>
      oCmp .lss (s1.1.getD 0 .any) x2 fun x3 =>
      oCond x3 (oAr .sub (s1.1.getD 0 .any) (.s (.int .i64 1)) fun x4 =>
      oIdxA 26 a0 x4 fun x5 =>
      oFieldA 0 x5 fun x6 =>
      oLoadD s1.2.length [] none x6 s1.2 fun x7 h8 =>
      oIdxA 26 a0 (s1.1.getD 0 .any) fun x9 =>
      oFieldA 0 x9 fun x10 =>
      oLoadD s1.2.length [] none x10 h8 fun x11 h12 =>
      oCmp .geq x7 x11 fun x13 =>
      oCond x13 ((trim true objs.length [(.s (.bool false))] h12).map fun p => .inr (Ex.ret, p.1, p.2))
      (oAr .add (s1.1.getD 0 .any) (.s (.int .i64 1)) fun x14 =>
      (trim true objs.length [x14] h12).map .inl))
      ((trim true objs.length [.any] s1.2).map fun p => .inr (Ex.exit 0, p.1, p.2))

def graph_rising_k2 (objs : Heap) : Ex → List A → Heap → Option (Out × Heap) := fun e15 vs16 h17 =>
      (match e15 with
  | .normal => none
  | .exit i18 => if i18 = 0 then finish objs.length (.ok (.s (.bool true))) h17 else none
  | .ret => finish objs.length (.ok (vs16.getD 0 .any)) h17
  | .panic v19 => finish objs.length (.pan v19) h17)

/-- bailey/graph.rising -/
def graph_rising : CallFn := fun args objs =>
match args with
| [a0] =>
oLoop (graph_rising_l1 a0 objs) ([(.s (.int .i64 1))], objs) (graph_rising_k2 objs)
| _ => none

/-- bailey/thing.named -/
def thing_named : CallFn := fun args objs =>
match args with
| [a0] =>
oCmp .geq a0 (.s (.int .u64 1)) fun x1 =>
      oGuard x1 true (fun _ => oCmp .leq a0 (.s (.int .u64 281474976710655)) fun x2 =>
      finish objs.length (.ok x2) objs)
      (fun _ => finish objs.length (.ok (.s (.bool false))) objs)
| _ => none

def slices_insertionSortCmpFunc_api_Cat_k1 (s4 : List A × Heap) : Ex → List A → Heap → Option (Ex × List A × Heap) := fun e20 vs18 h19 =>
      (match e20 with
  | .normal => oCond (vs18.getD 0 .any) ((trim true s4.2.length [(vs18.getD 0 .any)] h19).map fun p => (Ex.normal, p.1, p.2))
      ((trim true s4.2.length [(vs18.getD 0 .any)] h19).map fun p => (Ex.exit 2, p.1, p.2))
  | .exit i21 => (trim true s4.2.length [(vs18.getD 0 .any)] h19).map fun p => (Ex.exit i21, p.1, p.2)
  | .ret => (trim true s4.2.length [(vs18.getD 0 .any)] h19).map fun p => (Ex.ret, p.1, p.2)
  | .panic v22 => some (Ex.panic v22, [], h19))

def slices_insertionSortCmpFunc_api_Cat_k2 (s4 : List A × Heap) (a0 : A) (s2 : List A × Heap) : Ex → List A → Heap → Option ((List A × Heap) ⊕ (Ex × List A × Heap)) := fun e25 vs23 h24 =>
      (match e25 with
  | .normal => oAr .sub (s4.1.getD 0 .any) (.s (.int .i64 1)) fun x28 =>
      oAr .sub (s4.1.getD 0 .any) (.s (.int .i64 1)) fun x29 =>
      oIdxA 2 a0 x29 fun x30 =>
      oLoadD h24.length [] (some 2) x30 h24 fun x31 h32 =>
      oIdxA 2 a0 (s4.1.getD 0 .any) fun x33 =>
      oLoadD h24.length [] (some 2) x33 h32 fun x34 h35 =>
      oIdxA 2 a0 (s4.1.getD 0 .any) fun x36 =>
      oStore (some 2) x36 x31 h35 fun h37 =>
      oIdxA 2 a0 x28 fun x38 =>
      oStore (some 2) x38 x34 h37 fun h39 =>
      oAr .sub (s4.1.getD 0 .any) (.s (.int .i64 1)) fun x40 =>
      (trim true s2.2.length [x40] h39).map .inl
  | .exit i26 => (trim true s2.2.length [] h24).map fun p => .inr (Ex.exit i26, p.1, p.2)
  | .ret => (trim true s2.2.length [] h24).map fun p => .inr (Ex.ret, p.1, p.2)
  | .panic v27 => some (.inr (Ex.panic v27, [], h24)))

def slices_insertionSortCmpFunc_api_Cat_l3 (En : String → CallFn) (a1 : A) (a0 : A) (a3 : A) (s2 : List A × Heap) : List A × Heap → Option ((List A × Heap) ⊕ (Ex × List A × Heap)) := fun s4 =>
      oJoin (oJoin (oCmp .gtr (s4.1.getD 0 .any) a1 fun x5 =>
      oGuard x5 true (fun _ => oIdxA 2 a0 (s4.1.getD 0 .any) fun x6 =>
      oLoadD s4.2.length [] (some 2) x6 s4.2 fun x7 h8 =>
      oAr .sub (s4.1.getD 0 .any) (.s (.int .i64 1)) fun x9 =>
      oIdxA 2 a0 x9 fun x10 =>
      oLoadD s4.2.length [] (some 2) x10 h8 fun x11 h12 =>
      oCallVF s4.2.length [] En a3 [x7, x11] h12 fun w16 h17 => oFrz w16 h17 fun x13 h14 =>
      oCmp .lss x13 (.s (.int .i64 0)) fun x15 =>
      (trim true s4.2.length [x15] h14).map fun p => (Ex.normal, p.1, p.2))
      (fun _ => (trim true s4.2.length [(.s (.bool false))] s4.2).map fun p => (Ex.normal, p.1, p.2))) (slices_insertionSortCmpFunc_api_Cat_k1 s4)) (slices_insertionSortCmpFunc_api_Cat_k2 s4 a0 s2)

def slices_insertionSortCmpFunc_api_Cat_k4 (s2 : List A × Heap) (objs : Heap) : Ex → List A → Heap → Option ((List A × Heap) ⊕ (Ex × List A × Heap)) := fun e41 vs42 h43 =>
      (match e41 with
  | .normal => none
  | .exit i44 => if i44 = 2 then oAr .add (s2.1.getD 0 .any) (.s (.int .i64 1)) fun x46 =>
      (trim true objs.length [x46] h43).map .inl else if i44 = 1 then oAr .add (s2.1.getD 0 .any) (.s (.int .i64 1)) fun x47 =>
      (trim true objs.length [x47] h43).map .inl else (trim true objs.length [] h43).map fun p => .inr (Ex.exit i44, p.1, p.2)
  | .ret => (trim true objs.length [] h43).map fun p => .inr (Ex.ret, p.1, p.2)
  | .panic v45 => some (.inr (Ex.panic v45, [], h43)))

def slices_insertionSortCmpFunc_api_Cat_l5 (En : String → CallFn) (a2 : A) (a1 : A) (a0 : A) (a3 : A) (objs : Heap) : List A × Heap → Option ((List A × Heap) ⊕ (Ex × List A × Heap)) := fun s2 =>
      oCmp .lss (s2.1.getD 0 .any) a2 fun x3 =>
      oCond x3 (oLoop (slices_insertionSortCmpFunc_api_Cat_l3 En a1 a0 a3 s2) ([(s2.1.getD 0 .any)], s2.2) (slices_insertionSortCmpFunc_api_Cat_k4 s2 objs))
      ((trim true objs.length [] s2.2).map fun p => .inr (Ex.exit 0, p.1, p.2))

def slices_insertionSortCmpFunc_api_Cat_k6 (objs : Heap) : Ex → List A → Heap → Option (Out × Heap) := fun e48 vs49 h50 =>
      (match e48 with
  | .normal => none
  | .exit i51 => if i51 = 0 then finish objs.length (.ok (.s (.tuple #[]))) h50 else none
  | .ret => finish objs.length (.ok (.s (.tuple #[]))) h50
  | .panic v52 => finish objs.length (.pan v52) h50)

/-- slices.insertionSortCmpFunc[bailey/api.Cat] -/
def slices_insertionSortCmpFunc_api_Cat (En : String → CallFn) : CallFn := fun args objs =>
match args with
| [a0, a1, a2, a3] =>
oAr .add a1 (.s (.int .i64 1)) fun x1 =>
      oLoop (slices_insertionSortCmpFunc_api_Cat_l5 En a2 a1 a0 a3 objs) ([x1], objs) (slices_insertionSortCmpFunc_api_Cat_k6 objs)
| _ => none

def slices_stableCmpFunc_api_Cat_l1 (En : String → CallFn) (a1 : A) (a0 : A) (a2 : A) (objs : Heap) : List A × Heap → Option ((List A × Heap) ⊕ (Ex × List A × Heap)) := fun s1 =>
      oCmp .leq (s1.1.getD 1 .any) a1 fun x2 =>
      oCond x2 (oCall (slices_insertionSortCmpFunc_api_Cat En) [a0, (s1.1.getD 0 .any), (s1.1.getD 1 .any), a2] s1.2 (fun v5 h6 => some (.inr (Ex.panic v5, [.any], h6))) fun w8 h9 => oFrz w8 h9 fun x3 h4 =>
      oAr .add (s1.1.getD 1 .any) (.s (.int .i64 20)) fun x7 =>
      (trim true objs.length [(s1.1.getD 1 .any), x7] h4).map .inl)
      ((trim true objs.length [(s1.1.getD 0 .any)] s1.2).map fun p => .inr (Ex.exit 0, p.1, p.2))

def slices_stableCmpFunc_api_Cat_l2 (a1 : A) (s19 : List A × Heap) (a0 : A) (a2 : A) : List A × Heap → Option ((List A × Heap) ⊕ (Ex × List A × Heap)) := fun s22 =>
      oCmp .leq (s22.1.getD 1 .any) a1 fun x23 =>
      oCond x23 (oAr .add (s22.1.getD 0 .any) (s19.1.getD 0 .any) fun x24 =>
      oCall (fun _ _ => none) [a0, (s22.1.getD 0 .any), x24, (s22.1.getD 1 .any), a2] s22.2 (fun v27 h28 => some (.inr (Ex.panic v27, [.any], h28))) fun w31 h32 => oFrz w31 h32 fun x25 h26 =>
      oAr .mul (.s (.int .i64 2)) (s19.1.getD 0 .any) fun x29 =>
      oAr .add (s22.1.getD 1 .any) x29 fun x30 =>
      (trim true s19.2.length [(s22.1.getD 1 .any), x30] h26).map .inl)
      ((trim true s19.2.length [(s22.1.getD 0 .any)] s22.2).map fun p => .inr (Ex.exit 4, p.1, p.2))

def slices_stableCmpFunc_api_Cat_k3 (s19 : List A × Heap) (h16 : Heap) : Ex → List A → Heap → Option ((List A × Heap) ⊕ (Ex × List A × Heap)) := fun e48 vs46 h47 =>
      (match e48 with
  | .normal => oAr .mul (s19.1.getD 0 .any) (.s (.int .i64 2)) fun x51 =>
      (trim true h16.length [x51] h47).map .inl
  | .exit i49 => if i49 = 3 then (trim true h16.length [(s19.1.getD 0 .any)] h47).map .inl else (trim true h16.length [] h47).map fun p => .inr (Ex.exit i49, p.1, p.2)
  | .ret => (trim true h16.length [] h47).map fun p => .inr (Ex.ret, p.1, p.2)
  | .panic v50 => some (.inr (Ex.panic v50, [], h47)))

def slices_stableCmpFunc_api_Cat_k4 (s19 : List A × Heap) (a1 : A) (a0 : A) (a2 : A) (h16 : Heap) : Ex → List A → Heap → Option ((List A × Heap) ⊕ (Ex × List A × Heap)) := fun e33 vs34 h35 =>
      (match e33 with
  | .normal => none
  | .exit i36 => if i36 = 4 then oJoin (oAr .add (vs34.getD 0 .any) (s19.1.getD 0 .any) fun x38 =>
      oCmp .lss x38 a1 fun x39 =>
      oCond x39 (oCall (fun _ _ => none) [a0, (vs34.getD 0 .any), x38, a1, a2] h35 (fun v42 h43 => some (Ex.panic v42, [], h43)) fun w44 h45 => oFrz w44 h45 fun x40 h41 =>
      (trim true h35.length [] h41).map fun p => (Ex.normal, p.1, p.2))
      ((trim true h35.length [] h35).map fun p => (Ex.normal, p.1, p.2))) (slices_stableCmpFunc_api_Cat_k3 s19 h16) else if i36 = 3 then (trim true h16.length [(s19.1.getD 0 .any)] h35).map .inl else (trim true h16.length [] h35).map fun p => .inr (Ex.exit i36, p.1, p.2)
  | .ret => (trim true h16.length [] h35).map fun p => .inr (Ex.ret, p.1, p.2)
  | .panic v37 => some (.inr (Ex.panic v37, [], h35)))

def slices_stableCmpFunc_api_Cat_l5 (a1 : A) (a0 : A) (a2 : A) (h16 : Heap) : List A × Heap → Option ((List A × Heap) ⊕ (Ex × List A × Heap)) := fun s19 =>
      oCmp .lss (s19.1.getD 0 .any) a1 fun x20 =>
      oCond x20 (oAr .mul (.s (.int .i64 2)) (s19.1.getD 0 .any) fun x21 =>
      oLoop (slices_stableCmpFunc_api_Cat_l2 a1 s19 a0 a2) ([(.s (.int .i64 0)), x21], s19.2) (slices_stableCmpFunc_api_Cat_k4 s19 a1 a0 a2 h16))
      ((trim true h16.length [] s19.2).map fun p => .inr (Ex.exit 2, p.1, p.2))

def slices_stableCmpFunc_api_Cat_k6 (objs : Heap) : Ex → List A → Heap → Option (Out × Heap) := fun e52 vs53 h54 =>
      (match e52 with
  | .normal => none
  | .exit i55 => if i55 = 2 then finish objs.length (.ok (.s (.tuple #[]))) h54 else none
  | .ret => finish objs.length (.ok (.s (.tuple #[]))) h54
  | .panic v56 => finish objs.length (.pan v56) h54)

def slices_stableCmpFunc_api_Cat_k7 (En : String → CallFn) (a0 : A) (a1 : A) (a2 : A) (objs : Heap) : Ex → List A → Heap → Option (Out × Heap) := fun e10 vs11 h12 =>
      (match e10 with
  | .normal => none
  | .exit i13 => if i13 = 0 then oCall (slices_insertionSortCmpFunc_api_Cat En) [a0, (vs11.getD 0 .any), a1, a2] h12 (fun v17 h18 => finish objs.length (.pan v17) h18) fun w57 h58 => oFrz w57 h58 fun x15 h16 =>
      oLoop (slices_stableCmpFunc_api_Cat_l5 a1 a0 a2 h16) ([(.s (.int .i64 20))], h16) (slices_stableCmpFunc_api_Cat_k6 objs) else none
  | .ret => finish objs.length (.ok (.s (.tuple #[]))) h12
  | .panic v14 => finish objs.length (.pan v14) h12)

/-- slices.stableCmpFunc[bailey/api.Cat] -/
def slices_stableCmpFunc_api_Cat (En : String → CallFn) : CallFn := fun args objs =>
match args with
| [a0, a1, a2] =>
oLoop (slices_stableCmpFunc_api_Cat_l1 En a1 a0 a2 objs) ([(.s (.int .i64 0)), (.s (.int .i64 20))], objs) (slices_stableCmpFunc_api_Cat_k7 En a0 a1 a2 objs)
| _ => none

/-- slices.SortStableFunc[[]bailey/api.Cat,bailey/api.Cat] -/
def slices_SortStableFunc_Sapi_Cat_api_Cat (En : String → CallFn) : CallFn := fun args objs =>
match args with
| [a0, a1] =>
oLen a0 fun x1 =>
      oCall (slices_stableCmpFunc_api_Cat En) [a0, x1, a1] objs (fun v4 h5 => finish objs.length (.pan v4) h5) fun w6 h7 => oFrz w6 h7 fun x2 h3 =>
      finish objs.length (.ok (.s (.tuple #[]))) h3
| _ => none

/-- bailey/label.Make$1 -/
def label_Make_c1 : CallFn := fun args objs =>
match args with
| [a0, a1] =>
oNew none (some 2) a0 objs fun x1 h2 =>
      oNew none (some 2) a1 h2 fun x3 h4 =>
      oFieldA 0 x1 fun x5 =>
      oLoad none x5 h4 fun x6 =>
      oFieldA 0 x3 fun x7 =>
      oLoad none x7 h4 fun x8 =>
      oLend cmp_Compare_uint64 [x6, x8] h4 (fun v11 h12 => finish objs.length (.pan v11) h12) fun w13 h14 => oFrz w13 h14 fun x9 h10 =>
      finish objs.length (.ok x9) h10
| _ => none

def slices_CompactFunc_Sapi_Cat_api_Cat_k1 (s16 : List A × Heap) (h14 : Heap) : Ex → List A → Heap → Option ((List A × Heap) ⊕ (Ex × List A × Heap)) := fun e38 vs36 h37 =>
      (match e38 with
  | .normal => oAr .add (s16.1.getD 1 .any) (.s (.int .i64 1)) fun x41 =>
      (trim true h14.length [(vs36.getD 0 .any), x41] h37).map .inl
  | .exit i39 => (trim true h14.length [(vs36.getD 0 .any)] h37).map fun p => .inr (Ex.exit i39, p.1, p.2)
  | .ret => (trim true h14.length [(vs36.getD 0 .any)] h37).map fun p => .inr (Ex.ret, p.1, p.2)
  | .panic v40 => some (.inr (Ex.panic v40, [.any], h37)))

def slices_CompactFunc_Sapi_Cat_api_Cat_l2 (En : String → CallFn) (x15 : A) (a1 : A) (a0 : A) (h14 : Heap) : List A × Heap → Option ((List A × Heap) ⊕ (Ex × List A × Heap)) := fun s16 =>
      oLen x15 fun x17 =>
      oCmp .lss (s16.1.getD 1 .any) x17 fun x18 =>
      oCond x18 (oJoin (oIdxA 2 x15 (s16.1.getD 1 .any) fun x19 =>
      oLoadD s16.2.length [] (some 2) x19 s16.2 fun x20 h21 =>
      oAr .sub (s16.1.getD 1 .any) (.s (.int .i64 1)) fun x22 =>
      oIdxA 2 x15 x22 fun x23 =>
      oLoadD s16.2.length [] (some 2) x23 h21 fun x24 h25 =>
      oCallVF s16.2.length [] En a1 [x20, x24] h25 fun w34 h35 => oFrz w34 h35 fun x26 h27 =>
      oNot x26 fun x28 =>
      oCond x28 (oIdxA 2 x15 (s16.1.getD 1 .any) fun x29 =>
      oLoad (some 2) x29 h27 fun x30 =>
      oIdxA 2 a0 (s16.1.getD 0 .any) fun x31 =>
      oStore (some 2) x31 x30 h27 fun h32 =>
      oAr .add (s16.1.getD 0 .any) (.s (.int .i64 1)) fun x33 =>
      (trim true s16.2.length [x33] h32).map fun p => (Ex.normal, p.1, p.2))
      ((trim true s16.2.length [(s16.1.getD 0 .any)] h27).map fun p => (Ex.normal, p.1, p.2))) (slices_CompactFunc_Sapi_Cat_api_Cat_k1 s16 h14))
      ((trim true h14.length [(s16.1.getD 0 .any)] s16.2).map fun p => .inr (Ex.exit 2, p.1, p.2))

def slices_CompactFunc_Sapi_Cat_api_Cat_k3 (a0 : A) (objs : Heap) : Ex → List A → Heap → Option ((List A × Heap) ⊕ (Ex × List A × Heap)) := fun e42 vs43 h44 =>
      (match e42 with
  | .normal => none
  | .exit i45 => if i45 = 2 then oSlice 2 a0 (some (vs43.getD 0 .any)) none fun x47 =>
      none else if i45 = 1 then oAr .add (vs43.getD 0 .any) (.s (.int .i64 1)) fun x48 =>
      (trim true objs.length [x48] h44).map .inl else (trim true objs.length [.any] h44).map fun p => .inr (Ex.exit i45, p.1, p.2)
  | .ret => (trim true objs.length [.any] h44).map fun p => .inr (Ex.ret, p.1, p.2)
  | .panic v46 => some (.inr (Ex.panic v46, [.any], h44)))

def slices_CompactFunc_Sapi_Cat_api_Cat_l4 (En : String → CallFn) (a0 : A) (a1 : A) (objs : Heap) : List A × Heap → Option ((List A × Heap) ⊕ (Ex × List A × Heap)) := fun s3 =>
      oLen a0 fun x4 =>
      oCmp .lss (s3.1.getD 0 .any) x4 fun x5 =>
      oCond x5 (oIdxA 2 a0 (s3.1.getD 0 .any) fun x6 =>
      oLoadD s3.2.length [] (some 2) x6 s3.2 fun x7 h8 =>
      oAr .sub (s3.1.getD 0 .any) (.s (.int .i64 1)) fun x9 =>
      oIdxA 2 a0 x9 fun x10 =>
      oLoadD s3.2.length [] (some 2) x10 h8 fun x11 h12 =>
      oCallVF s3.2.length [] En a1 [x7, x11] h12 fun w50 h51 => oFrz w50 h51 fun x13 h14 =>
      oCond x13 (oSlice 2 a0 (some (s3.1.getD 0 .any)) none fun x15 =>
      oLoop (slices_CompactFunc_Sapi_Cat_api_Cat_l2 En x15 a1 a0 h14) ([(s3.1.getD 0 .any), (.s (.int .i64 1))], h14) (slices_CompactFunc_Sapi_Cat_api_Cat_k3 a0 objs))
      (oAr .add (s3.1.getD 0 .any) (.s (.int .i64 1)) fun x49 =>
      (trim true objs.length [x49] h14).map .inl))
      ((trim true objs.length [.any] s3.2).map fun p => .inr (Ex.exit 0, p.1, p.2))

def slices_CompactFunc_Sapi_Cat_api_Cat_k5 (objs : Heap) (a0 : A) : Ex → List A → Heap → Option (Out × Heap) := fun e52 vs53 h54 =>
      (match e52 with
  | .normal => none
  | .exit i55 => if i55 = 0 then finish objs.length (.ok a0) h54 else none
  | .ret => finish objs.length (.ok (vs53.getD 0 .any)) h54
  | .panic v56 => finish objs.length (.pan v56) h54)

/-- slices.CompactFunc[[]bailey/api.Cat,bailey/api.Cat] -/
def slices_CompactFunc_Sapi_Cat_api_Cat (En : String → CallFn) : CallFn := fun args objs =>
match args with
| [a0, a1] =>
oLen a0 fun x1 =>
      oCmp .lss x1 (.s (.int .i64 2)) fun x2 =>
      oCond x2 (finish objs.length (.ok a0) objs)
      (oLoop (slices_CompactFunc_Sapi_Cat_api_Cat_l4 En a0 a1 objs) ([(.s (.int .i64 1))], objs) (slices_CompactFunc_Sapi_Cat_api_Cat_k5 objs a0))
| _ => none

/-- bailey/label.Make$2 -/
def label_Make_c2 : CallFn := fun args objs =>
match args with
| [a0, a1] =>
oNew none (some 2) a0 objs fun x1 h2 =>
      oNew none (some 2) a1 h2 fun x3 h4 =>
      oFieldA 0 x1 fun x5 =>
      oLoad none x5 h4 fun x6 =>
      oFieldA 0 x3 fun x7 =>
      oLoad none x7 h4 fun x8 =>
      oCmp .eql x6 x8 fun x9 =>
      finish objs.length (.ok x9) h4
| _ => none

/-- bailey/label.Make$3 -/
def label_Make_c3 : CallFn := fun args objs =>
match args with
| [a0, a1] =>
oNew none (some 2) a0 objs fun x1 h2 =>
      oFieldA 1 x1 fun x3 =>
      oLoad none x3 h2 fun x4 =>
      oLoad none a1 h2 fun x5 =>
      oCmp .eql x4 x5 fun x6 =>
      finish objs.length (.ok x6) h2
| _ => none

def slices_IndexFunc_Sapi_Cat_api_Cat_l1 (En : String → CallFn) (x1 : A) (a0 : A) (a1 : A) (objs : Heap) : List A × Heap → Option ((List A × Heap) ⊕ (Ex × List A × Heap)) := fun s2 =>
      oCmp .lss (s2.1.getD 0 .any) x1 fun x3 =>
      oCond x3 (oIdxA 2 a0 (s2.1.getD 0 .any) fun x4 =>
      oLoad (some 2) x4 s2.2 fun x5 =>
      oLendV En a1 [x5] s2.2 (fun v8 h9 => some (.inr (Ex.panic v8, [.any], h9))) fun w11 h12 => oFrz w11 h12 fun x6 h7 =>
      oCond x6 ((trim true objs.length [(s2.1.getD 0 .any)] h7).map fun p => .inr (Ex.ret, p.1, p.2))
      (oAr .add (s2.1.getD 0 .any) (.s (.int .i64 1)) fun x10 =>
      (trim true objs.length [x10] h7).map .inl))
      ((trim true objs.length [.any] s2.2).map fun p => .inr (Ex.exit 0, p.1, p.2))

def slices_IndexFunc_Sapi_Cat_api_Cat_k2 (objs : Heap) : Ex → List A → Heap → Option (Out × Heap) := fun e13 vs14 h15 =>
      (match e13 with
  | .normal => none
  | .exit i16 => if i16 = 0 then finish objs.length (.ok (.s (.int .i64 (-1)))) h15 else none
  | .ret => finish objs.length (.ok (vs14.getD 0 .any)) h15
  | .panic v17 => finish objs.length (.pan v17) h15)

/-- slices.IndexFunc[[]bailey/api.Cat,bailey/api.Cat] -/
def slices_IndexFunc_Sapi_Cat_api_Cat (En : String → CallFn) : CallFn := fun args objs =>
match args with
| [a0, a1] =>
oLen a0 fun x1 =>
      oLoop (slices_IndexFunc_Sapi_Cat_api_Cat_l1 En x1 a0 a1 objs) ([(.s (.int .i64 0))], objs) (slices_IndexFunc_Sapi_Cat_api_Cat_k2 objs)
| _ => none

def slices_DeleteFunc_Sapi_Cat_api_Cat_k1 (s7 : List A × Heap) (h2 : Heap) : Ex → List A → Heap → Option ((List A × Heap) ⊕ (Ex × List A × Heap)) := fun e29 vs27 h28 =>
      (match e29 with
  | .normal => oAr .add (s7.1.getD 1 .any) (.s (.int .i64 1)) fun x32 =>
      (trim true h2.length [(vs27.getD 0 .any), x32] h28).map .inl
  | .exit i30 => (trim true h2.length [(vs27.getD 0 .any)] h28).map fun p => .inr (Ex.exit i30, p.1, p.2)
  | .ret => (trim true h2.length [(vs27.getD 0 .any)] h28).map fun p => .inr (Ex.ret, p.1, p.2)
  | .panic v31 => some (.inr (Ex.panic v31, [.any], h28)))

def slices_DeleteFunc_Sapi_Cat_api_Cat_l2 (En : String → CallFn) (a0 : A) (a1 : A) (h2 : Heap) : List A × Heap → Option ((List A × Heap) ⊕ (Ex × List A × Heap)) := fun s7 =>
      oLen a0 fun x8 =>
      oCmp .lss (s7.1.getD 1 .any) x8 fun x9 =>
      oCond x9 (oJoin (oIdxA 2 a0 (s7.1.getD 1 .any) fun x10 =>
      oLoad (some 2) x10 s7.2 fun x11 =>
      oNew none (some 2) (.agg [.s (.int .u64 0), .s (.int .i64 0)]) s7.2 fun x12 h13 =>
      oStore (some 2) x12 x11 h13 fun h14 =>
      oLoad (some 2) x12 h14 fun x15 =>
      oLendV En a1 [x15] h14 (fun v18 h19 => some (Ex.panic v18, [], h19)) fun w25 h26 => oFrz w25 h26 fun x16 h17 =>
      oNot x16 fun x20 =>
      oCond x20 (oLoad (some 2) x12 h17 fun x21 =>
      oIdxA 2 a0 (s7.1.getD 0 .any) fun x22 =>
      oStore (some 2) x22 x21 h17 fun h23 =>
      oAr .add (s7.1.getD 0 .any) (.s (.int .i64 1)) fun x24 =>
      (trim true s7.2.length [x24] h23).map fun p => (Ex.normal, p.1, p.2))
      ((trim true s7.2.length [(s7.1.getD 0 .any)] h17).map fun p => (Ex.normal, p.1, p.2))) (slices_DeleteFunc_Sapi_Cat_api_Cat_k1 s7 h2))
      ((trim true h2.length [(s7.1.getD 0 .any)] s7.2).map fun p => .inr (Ex.exit 0, p.1, p.2))

def slices_DeleteFunc_Sapi_Cat_api_Cat_k3 (a0 : A) (objs : Heap) : Ex → List A → Heap → Option (Out × Heap) := fun e33 vs34 h35 =>
      (match e33 with
  | .normal => none
  | .exit i36 => if i36 = 0 then oSlice 2 a0 (some (vs34.getD 0 .any)) none fun x38 =>
      none else none
  | .ret => finish objs.length (.ok (.s (.slice none 0 0))) h35
  | .panic v37 => finish objs.length (.pan v37) h35)

/-- slices.DeleteFunc[[]bailey/api.Cat,bailey/api.Cat] -/
def slices_DeleteFunc_Sapi_Cat_api_Cat (En : String → CallFn) : CallFn := fun args objs =>
match args with
| [a0, a1] =>
oLend (slices_IndexFunc_Sapi_Cat_api_Cat En) [a0, a1] objs (fun v3 h4 => finish objs.length (.pan v3) h4) fun w39 h40 => oFrz w39 h40 fun x1 h2 =>
      oCmp .eql x1 (.s (.int .i64 (-1))) fun x5 =>
      oCond x5 (finish objs.length (.ok a0) h2)
      (oAr .add x1 (.s (.int .i64 1)) fun x6 =>
      oLoop (slices_DeleteFunc_Sapi_Cat_api_Cat_l2 En a0 a1 h2) ([x1, x6], h2) (slices_DeleteFunc_Sapi_Cat_api_Cat_k3 a0 objs))
| _ => none

def En_label_Make : String → CallFn := fun n => if n = "bailey/label.Make$1" then label_Make_c1 else if n = "bailey/label.Make$2" then label_Make_c2 else if n = "bailey/label.Make$3" then label_Make_c3 else (fun _ _ => none)

/-- bailey/label.Make -/
def label_Make : CallFn := fun args objs =>
match args with
| [a0, a1] =>
oNew none none a0 objs fun x1 h2 =>
      oNew none (some 2) (.agg [.s (.int .i64 0), .s (.slice none 0 0)]) h2 fun x3 h4 =>
      oLend (primClone 2 16) [a1] h4 (fun v7 h8 => finish objs.length (.pan v7) h8) fun x5 h6 =>
      oCall (slices_SortStableFunc_Sapi_Cat_api_Cat (En_label_Make)) [x5, (.fn "bailey/label.Make$1" [])] h6 (fun v11 h12 => finish objs.length (.pan v11) h12) fun x9 h10 =>
      oCall (slices_CompactFunc_Sapi_Cat_api_Cat (En_label_Make)) [x5, (.fn "bailey/label.Make$2" [])] h10 (fun v15 h16 => finish objs.length (.pan v15) h16) fun x13 h14 =>
      oLoadD h14.length [] none x1 h14 fun x17 h18 =>
      oCallF h14.length [] (slices_DeleteFunc_Sapi_Cat_api_Cat (En_label_Make)) [x13, (.fn "bailey/label.Make$3" [x1])] h18 fun w24 h25 => oFrz w24 h25 fun x19 h20 =>
      oBuildP [.s (.int .i64 0), .s (.slice none 0 0)] [(0, none, x17), (1, none, x19)] fun x21 =>
      oStore (some 2) x3 x21 h20 fun h22 =>
      oLoad (some 2) x3 h22 fun r23 =>
      finish objs.length (.ok r23) h22
| _ => none

def slices_Equal_Sapi_Cat_api_Cat_l1 (x4 : A) (a0 : A) (a1 : A) (objs : Heap) : List A × Heap → Option ((List A × Heap) ⊕ (Ex × List A × Heap)) := fun s5 =>
      oCmp .lss (s5.1.getD 0 .any) x4 fun x6 =>
      oCond x6 (oIdxA 2 a0 (s5.1.getD 0 .any) fun x7 =>
      oLoadD s5.2.length [] (some 2) x7 s5.2 fun x8 h9 =>
      oIdxA 2 a1 (s5.1.getD 0 .any) fun x10 =>
      oLoadD s5.2.length [] (some 2) x10 h9 fun x11 h12 =>
      oEqAgg [true, true] true x8 x11 fun x13 =>
      oCond x13 ((trim true objs.length [(.s (.bool false))] h12).map fun p => .inr (Ex.ret, p.1, p.2))
      (oAr .add (s5.1.getD 0 .any) (.s (.int .i64 1)) fun x14 =>
      (trim true objs.length [x14] h12).map .inl))
      ((trim true objs.length [.any] s5.2).map fun p => .inr (Ex.exit 0, p.1, p.2))

def slices_Equal_Sapi_Cat_api_Cat_k2 (objs : Heap) : Ex → List A → Heap → Option (Out × Heap) := fun e15 vs16 h17 =>
      (match e15 with
  | .normal => none
  | .exit i18 => if i18 = 0 then finish objs.length (.ok (.s (.bool true))) h17 else none
  | .ret => finish objs.length (.ok (vs16.getD 0 .any)) h17
  | .panic v19 => finish objs.length (.pan v19) h17)

/-- slices.Equal[[]bailey/api.Cat,bailey/api.Cat] -/
def slices_Equal_Sapi_Cat_api_Cat : CallFn := fun args objs =>
match args with
| [a0, a1] =>
oLen a0 fun x1 =>
      oLen a1 fun x2 =>
      oCmp .neq x1 x2 fun x3 =>
      oCond x3 (finish objs.length (.ok (.s (.bool false))) objs)
      (oLen a0 fun x4 =>
      oLoop (slices_Equal_Sapi_Cat_api_Cat_l1 x4 a0 a1 objs) ([(.s (.int .i64 0))], objs) (slices_Equal_Sapi_Cat_api_Cat_k2 objs))
| _ => none

/-- slices.ContainsFunc[[]bailey/api.Cat,bailey/api.Cat] -/
def slices_ContainsFunc_Sapi_Cat_api_Cat (En : String → CallFn) : CallFn := fun args objs =>
match args with
| [a0, a1] =>
oLend (slices_IndexFunc_Sapi_Cat_api_Cat En) [a0, a1] objs (fun v3 h4 => finish objs.length (.pan v3) h4) fun w6 h7 => oFrz w6 h7 fun x1 h2 =>
      oCmp .geq x1 (.s (.int .i64 0)) fun x5 =>
      finish objs.length (.ok x5) h2
| _ => none

/-- bailey/label.Right$1 -/
def label_Right_c1 : CallFn := fun args objs =>
match args with
| [a0] =>
oNew none (some 2) a0 objs fun x1 h2 =>
      oFieldA 0 x1 fun x3 =>
      oLoad none x3 h2 fun x4 =>
      oCmp .lss x4 (.s (.int .u64 1)) fun x5 =>
      oGuard x5 false (fun _ => oFieldA 0 x1 fun x6 =>
      oLoad none x6 h2 fun x7 =>
      oCmp .gtr x7 (.s (.int .u64 2305843009213693951)) fun x8 =>
      oGuard x8 false (fun _ => oFieldA 1 x1 fun x9 =>
      oLoad none x9 h2 fun x10 =>
      oCmp .lss x10 (.s (.int .i64 0)) fun x11 =>
      oGuard x11 false (fun _ => oFieldA 1 x1 fun x12 =>
      oLoad none x12 h2 fun x13 =>
      oCmp .gtr x13 (.s (.int .i64 4)) fun x14 =>
      finish objs.length (.ok x14) h2)
      (fun _ => finish objs.length (.ok (.s (.bool true))) h2))
      (fun _ => finish objs.length (.ok (.s (.bool true))) h2))
      (fun _ => finish objs.length (.ok (.s (.bool true))) h2)
| _ => none

def En_label_Right : String → CallFn := fun n => if n = "bailey/label.Right$1" then label_Right_c1 else (fun _ _ => none)

def label_Right_k1 (En : String → CallFn) (objs : Heap) (x1 : A) : Ex → List A → Heap → Option (Out × Heap) := fun e37 vs35 h36 =>
      (match e37 with
  | .normal => oCond (vs35.getD 0 .any) (finish objs.length (.ok (.s (.bool false))) h36)
      (oFieldA 1 x1 fun x40 =>
      oLoad none x40 h36 fun x41 =>
      oLend (slices_ContainsFunc_Sapi_Cat_api_Cat En) [x41, (.fn "bailey/label.Right$1" [])] h36 (fun v44 h45 => finish objs.length (.pan v44) h45) fun w47 h48 => oFrz w47 h48 fun x42 h43 =>
      oNot x42 fun x46 =>
      finish objs.length (.ok x46) h43)
  | .exit i38 => none
  | .ret => finish objs.length (.ok (.s (.bool false))) h36
  | .panic v39 => finish objs.length (.pan v39) h36)

/-- bailey/label.Right -/
def label_Right : CallFn := fun args objs =>
match args with
| [a0] =>
oNew none (some 2) a0 objs fun x1 h2 =>
      oJoin (oFieldA 0 x1 fun x3 =>
      oLoadD h2.length [] none x3 h2 fun x4 h5 =>
      oCmp .lss x4 (.s (.int .i64 1)) fun x6 =>
      oGuard x6 false (fun _ => oFieldA 0 x1 fun x7 =>
      oLoadD h2.length [] none x7 h5 fun x8 h9 =>
      oCmp .gtr x8 (.s (.int .i64 4)) fun x10 =>
      oGuard x10 false (fun _ => oFieldA 1 x1 fun x11 =>
      oLoadD h2.length [] none x11 h9 fun x12 h13 =>
      oLen x12 fun x14 =>
      oCmp .gtr x14 (.s (.int .i64 6)) fun x15 =>
      oGuard x15 false (fun _ => oFieldA 1 x1 fun x16 =>
      oLoadD h2.length [] none x16 h13 fun x17 h18 =>
      oFieldA 0 x1 fun x19 =>
      oLoadD h2.length [] none x19 h18 fun x20 h21 =>
      oFieldA 1 x1 fun x22 =>
      oLoadD h2.length [] none x22 h21 fun x23 h24 =>
      oCallF h2.length [] label_Make [x20, x23] h24 fun w33 h34 => oFrz w33 h34 fun x25 h26 =>
      oField 1 none x25 fun x27 =>
      oCallF h2.length [] slices_Equal_Sapi_Cat_api_Cat [x17, x27] h26 fun w31 h32 => oFrz w31 h32 fun x28 h29 =>
      oNot x28 fun x30 =>
      (trim true h2.length [x30] h29).map fun p => (Ex.normal, p.1, p.2))
      (fun _ => (trim true h2.length [(.s (.bool true))] h13).map fun p => (Ex.normal, p.1, p.2)))
      (fun _ => (trim true h2.length [(.s (.bool true))] h9).map fun p => (Ex.normal, p.1, p.2)))
      (fun _ => (trim true h2.length [(.s (.bool true))] h5).map fun p => (Ex.normal, p.1, p.2))) (label_Right_k1 (En_label_Right) objs x1)
| _ => none

/-- bailey/thing.plainOf -/
def thing_plainOf : CallFn := fun args objs =>
match args with
| [a0] =>
oNew none (some 26) a0 objs fun x1 h2 =>
      oNew none (some 20) (.agg [.s (.int .u64 0), .s (.int .i64 0), .s (.int .i64 0), .s (.int .i64 0), .s (.int .i64 0), .s (.int .i64 0), .s (.int .u64 0), .s (.int .u64 0), .s (.int .u64 0), .s (.int .u64 0), .s (.bool false), .s (.int .u64 0), .s (.int .u64 0), .s (.int .u64 0), .s (.int .u64 0), .s (.int .u64 0), .s (.int .u64 0), .s (.int .u64 0), .s (.int .u64 0), .s (.int .u64 0)]) h2 fun x3 h4 =>
      oFieldA 0 x1 fun x5 =>
      oLoad none x5 h4 fun x6 =>
      oFieldA 1 x1 fun x7 =>
      oLoad none x7 h4 fun x8 =>
      oFieldA 6 x1 fun x9 =>
      oLoad none x9 h4 fun x10 =>
      oFieldA 7 x1 fun x11 =>
      oLoad none x11 h4 fun x12 =>
      oFieldA 14 x1 fun x13 =>
      oLoad none x13 h4 fun x14 =>
      oFieldA 15 x1 fun x15 =>
      oLoad none x15 h4 fun x16 =>
      oFieldA 10 x1 fun x17 =>
      oLoad (some 4) x17 h4 fun x18 =>
      oFieldA 16 x1 fun x19 =>
      oLoad none x19 h4 fun x20 =>
      oFieldA 17 x1 fun x21 =>
      oLoad none x21 h4 fun x22 =>
      oFieldA 18 x1 fun x23 =>
      oLoad (some 8) x23 h4 fun x24 =>
      oBuildP [.s (.int .u64 0), .s (.int .i64 0), .s (.int .i64 0), .s (.int .i64 0), .s (.int .i64 0), .s (.int .i64 0), .s (.int .u64 0), .s (.int .u64 0), .s (.int .u64 0), .s (.int .u64 0), .s (.bool false), .s (.int .u64 0), .s (.int .u64 0), .s (.int .u64 0), .s (.int .u64 0), .s (.int .u64 0), .s (.int .u64 0), .s (.int .u64 0), .s (.int .u64 0), .s (.int .u64 0)] [(0, none, x6), (1, none, x8), (2, none, x10), (3, none, x12), (4, none, x14), (5, none, x16), (6, (some 4), x18), (10, none, x20), (11, none, x22), (12, (some 8), x24)] fun x25 =>
      oStore (some 20) x3 x25 h4 fun h26 =>
      oLoad (some 20) x3 h26 fun r27 =>
      finish objs.length (.ok r27) h26
| _ => none

/-- bailey/thing.sameLabel -/
def thing_sameLabel : CallFn := fun args objs =>
match args with
| [a0, a1] =>
oNew none (some 2) a0 objs fun x1 h2 =>
      oNew none (some 2) a1 h2 fun x3 h4 =>
      oFieldA 0 x1 fun x5 =>
      oLoad none x5 h4 fun x6 =>
      oFieldA 0 x3 fun x7 =>
      oLoad none x7 h4 fun x8 =>
      oCmp .eql x6 x8 fun x9 =>
      oGuard x9 true (fun _ => oFieldA 1 x1 fun x10 =>
      oLoad none x10 h4 fun x11 =>
      oFieldA 1 x3 fun x12 =>
      oLoad none x12 h4 fun x13 =>
      oLend slices_Equal_Sapi_Cat_api_Cat [x11, x13] h4 (fun v16 h17 => finish objs.length (.pan v16) h17) fun w18 h19 => oFrz w18 h19 fun x14 h15 =>
      finish objs.length (.ok x14) h15)
      (fun _ => finish objs.length (.ok (.s (.bool false))) h4)
| _ => none

def slices_Equal_Sapi_Link_api_Link_l1 (x4 : A) (a0 : A) (a1 : A) (objs : Heap) : List A × Heap → Option ((List A × Heap) ⊕ (Ex × List A × Heap)) := fun s5 =>
      oCmp .lss (s5.1.getD 0 .any) x4 fun x6 =>
      oCond x6 (oIdxA 2 a0 (s5.1.getD 0 .any) fun x7 =>
      oLoadD s5.2.length [] (some 2) x7 s5.2 fun x8 h9 =>
      oIdxA 2 a1 (s5.1.getD 0 .any) fun x10 =>
      oLoadD s5.2.length [] (some 2) x10 h9 fun x11 h12 =>
      oEqAgg [true, true] true x8 x11 fun x13 =>
      oCond x13 ((trim true objs.length [(.s (.bool false))] h12).map fun p => .inr (Ex.ret, p.1, p.2))
      (oAr .add (s5.1.getD 0 .any) (.s (.int .i64 1)) fun x14 =>
      (trim true objs.length [x14] h12).map .inl))
      ((trim true objs.length [.any] s5.2).map fun p => .inr (Ex.exit 0, p.1, p.2))

def slices_Equal_Sapi_Link_api_Link_k2 (objs : Heap) : Ex → List A → Heap → Option (Out × Heap) := fun e15 vs16 h17 =>
      (match e15 with
  | .normal => none
  | .exit i18 => if i18 = 0 then finish objs.length (.ok (.s (.bool true))) h17 else none
  | .ret => finish objs.length (.ok (vs16.getD 0 .any)) h17
  | .panic v19 => finish objs.length (.pan v19) h17)

/-- slices.Equal[[]bailey/api.Link,bailey/api.Link] -/
def slices_Equal_Sapi_Link_api_Link : CallFn := fun args objs =>
match args with
| [a0, a1] =>
oLen a0 fun x1 =>
      oLen a1 fun x2 =>
      oCmp .neq x1 x2 fun x3 =>
      oCond x3 (finish objs.length (.ok (.s (.bool false))) objs)
      (oLen a0 fun x4 =>
      oLoop (slices_Equal_Sapi_Link_api_Link_l1 x4 a0 a1 objs) ([(.s (.int .i64 0))], objs) (slices_Equal_Sapi_Link_api_Link_k2 objs))
| _ => none

def slices_Equal_Sbyte_byte_l1 (x4 : A) (a0 : A) (a1 : A) (objs : Heap) : List A × Heap → Option ((List A × Heap) ⊕ (Ex × List A × Heap)) := fun s5 =>
      oCmp .lss (s5.1.getD 0 .any) x4 fun x6 =>
      oCond x6 (oIdxA 1 a0 (s5.1.getD 0 .any) fun x7 =>
      oLoadD s5.2.length [] none x7 s5.2 fun x8 h9 =>
      oIdxA 1 a1 (s5.1.getD 0 .any) fun x10 =>
      oLoadD s5.2.length [] none x10 h9 fun x11 h12 =>
      oCmp .neq x8 x11 fun x13 =>
      oCond x13 ((trim true objs.length [(.s (.bool false))] h12).map fun p => .inr (Ex.ret, p.1, p.2))
      (oAr .add (s5.1.getD 0 .any) (.s (.int .i64 1)) fun x14 =>
      (trim true objs.length [x14] h12).map .inl))
      ((trim true objs.length [.any] s5.2).map fun p => .inr (Ex.exit 0, p.1, p.2))

def slices_Equal_Sbyte_byte_k2 (objs : Heap) : Ex → List A → Heap → Option (Out × Heap) := fun e15 vs16 h17 =>
      (match e15 with
  | .normal => none
  | .exit i18 => if i18 = 0 then finish objs.length (.ok (.s (.bool true))) h17 else none
  | .ret => finish objs.length (.ok (vs16.getD 0 .any)) h17
  | .panic v19 => finish objs.length (.pan v19) h17)

/-- slices.Equal[[]byte,byte] -/
def slices_Equal_Sbyte_byte : CallFn := fun args objs =>
match args with
| [a0, a1] =>
oLen a0 fun x1 =>
      oLen a1 fun x2 =>
      oCmp .neq x1 x2 fun x3 =>
      oCond x3 (finish objs.length (.ok (.s (.bool false))) objs)
      (oLen a0 fun x4 =>
      oLoop (slices_Equal_Sbyte_byte_l1 x4 a0 a1 objs) ([(.s (.int .i64 0))], objs) (slices_Equal_Sbyte_byte_k2 objs))
| _ => none

/-- bailey/thing.Same -/
def thing_Same : CallFn := fun args objs =>
match args with
| [a0, a1] =>
oNew none (some 26) a0 objs fun x1 h2 =>
      oNew none (some 26) a1 h2 fun x3 h4 =>
      oLoadD h4.length [] (some 26) x1 h4 fun x5 h6 =>
      oCallF h4.length [] thing_plainOf [x5] h6 fun w56 h57 => oFrz w56 h57 fun x7 h8 =>
      oLoadD h4.length [] (some 26) x3 h8 fun x9 h10 =>
      oCallF h4.length [] thing_plainOf [x9] h10 fun w54 h55 => oFrz w54 h55 fun x11 h12 =>
      oEqAgg [true, true, true, true, true, true, true, true, true, true, false, true, true, true, true, true, true, true, true, true] false x7 x11 fun x13 =>
      oGuard x13 true (fun _ => oFieldA 2 x1 fun x14 =>
      oLoadD h4.length [] (some 2) x14 h12 fun x15 h16 =>
      oFieldA 2 x3 fun x17 =>
      oLoadD h4.length [] (some 2) x17 h16 fun x18 h19 =>
      oCallF h4.length [] thing_sameLabel [x15, x18] h19 fun w52 h53 => oFrz w52 h53 fun x20 h21 =>
      oGuard x20 true (fun _ => oFieldA 4 x1 fun x22 =>
      oLoadD h4.length [] (some 2) x22 h21 fun x23 h24 =>
      oFieldA 4 x3 fun x25 =>
      oLoadD h4.length [] (some 2) x25 h24 fun x26 h27 =>
      oCallF h4.length [] thing_sameLabel [x23, x26] h27 fun w50 h51 => oFrz w50 h51 fun x28 h29 =>
      oGuard x28 true (fun _ => oFieldA 8 x1 fun x30 =>
      oLoadD h4.length [] none x30 h29 fun x31 h32 =>
      oFieldA 8 x3 fun x33 =>
      oLoadD h4.length [] none x33 h32 fun x34 h35 =>
      oCallF h4.length [] slices_Equal_Sapi_Link_api_Link [x31, x34] h35 fun w48 h49 => oFrz w48 h49 fun x36 h37 =>
      oGuard x36 true (fun _ => oFieldA 9 x1 fun x38 =>
      oLoadD h4.length [] none x38 h37 fun x39 h40 =>
      oFieldA 9 x3 fun x41 =>
      oLoadD h4.length [] none x41 h40 fun x42 h43 =>
      oCallF h4.length [] slices_Equal_Sbyte_byte [x39, x42] h43 fun w46 h47 => oFrz w46 h47 fun x44 h45 =>
      finish objs.length (.ok x44) h45)
      (fun _ => finish objs.length (.ok (.s (.bool false))) h37))
      (fun _ => finish objs.length (.ok (.s (.bool false))) h29))
      (fun _ => finish objs.length (.ok (.s (.bool false))) h21))
      (fun _ => finish objs.length (.ok (.s (.bool false))) h12)
| _ => none

def thing_only_k1 (x12 : A) (x1 : A) (objs : Heap) : Ex → List A → Heap → Option (Out × Heap) := fun e76 vs74 h75 =>
      (match e76 with
  | .normal => oLoad (some 26) x12 h75 fun x79 =>
      oLoad (some 26) x1 h75 fun x80 =>
      oLend thing_Same [x79, x80] h75 (fun v83 h84 => finish objs.length (.pan v83) h84) fun w85 h86 => oFrz w85 h86 fun x81 h82 =>
      finish objs.length (.ok x81) h82
  | .exit i77 => none
  | .ret => finish objs.length (.ok (.s (.bool false))) h75
  | .panic v78 => finish objs.length (.pan v78) h75)

/-- bailey/thing.only -/
def thing_only : CallFn := fun args objs =>
match args with
| [a0] =>
oNew none (some 26) a0 objs fun x1 h2 =>
      oFieldA 0 x1 fun x3 =>
      oLoad none x3 h2 fun x4 =>
      oFieldA 1 x1 fun x5 =>
      oLoad none x5 h2 fun x6 =>
      oFieldA 2 x1 fun x7 =>
      oLoad (some 2) x7 h2 fun x8 =>
      oFieldA 6 x1 fun x9 =>
      oLoad none x9 h2 fun x10 =>
      oBuildP [.s (.int .u64 0), .s (.int .i64 0), .s (.int .i64 0), .s (.slice none 0 0), .s (.int .i64 0), .s (.slice none 0 0), .s (.int .i64 0), .s (.int .i64 0), .s (.slice none 0 0), .s (.slice none 0 0), .s (.int .u64 0), .s (.int .u64 0), .s (.int .u64 0), .s (.int .u64 0), .s (.int .i64 0), .s (.int .i64 0), .s (.bool false), .s (.int .u64 0), .s (.int .u64 0), .s (.int .u64 0), .s (.int .u64 0), .s (.int .u64 0), .s (.int .u64 0), .s (.int .u64 0), .s (.int .u64 0), .s (.int .u64 0)] [(0, none, x4), (1, none, x6), (2, (some 2), x8), (6, none, x10)] fun x11 =>
      oNew none (some 26) (.agg [.s (.int .u64 0), .s (.int .i64 0), .s (.int .i64 0), .s (.slice none 0 0), .s (.int .i64 0), .s (.slice none 0 0), .s (.int .i64 0), .s (.int .i64 0), .s (.slice none 0 0), .s (.slice none 0 0), .s (.int .u64 0), .s (.int .u64 0), .s (.int .u64 0), .s (.int .u64 0), .s (.int .i64 0), .s (.int .i64 0), .s (.bool false), .s (.int .u64 0), .s (.int .u64 0), .s (.int .u64 0), .s (.int .u64 0), .s (.int .u64 0), .s (.int .u64 0), .s (.int .u64 0), .s (.int .u64 0), .s (.int .u64 0)]) h2 fun x12 h13 =>
      oStore (some 26) x12 x11 h13 fun h14 =>
      oJoin (oFieldA 1 x1 fun x15 =>
      oLoad none x15 h14 fun x16 =>
      oCmp .eql x16 (.s (.int .i64 1)) fun x17 =>
      oCond x17 (oFieldA 7 x1 fun x18 =>
      oLoadD h14.length (wrL h14 [(x12, false)]) none x18 h14 fun x19 h20 =>
      oFieldA 8 x1 fun x21 =>
      oLoadD h14.length (wrL h14 [(x12, false)]) none x21 h20 fun x22 h23 =>
      oFieldA 7 x12 fun x24 =>
      oStoreD h14.length (wrL h14 [(x12, false)]) none x24 x19 h23 fun h25 =>
      oFieldA 8 x12 fun x26 =>
      oStoreD h14.length (wrL h14 [(x12, false)]) none x26 x22 h25 fun h27 =>
      (trim true h14.length [] h27).map fun p => (Ex.normal, p.1, p.2))
      (oCmp .eql x16 (.s (.int .i64 2)) fun x28 =>
      oCond x28 (oFieldA 10 x1 fun x29 =>
      oLoadD h14.length (wrL h14 [(x12, false)]) (some 4) x29 h14 fun x30 h31 =>
      oFieldA 14 x1 fun x32 =>
      oLoadD h14.length (wrL h14 [(x12, false)]) none x32 h31 fun x33 h34 =>
      oFieldA 15 x1 fun x35 =>
      oLoadD h14.length (wrL h14 [(x12, false)]) none x35 h34 fun x36 h37 =>
      oFieldA 16 x1 fun x38 =>
      oLoadD h14.length (wrL h14 [(x12, false)]) none x38 h37 fun x39 h40 =>
      oFieldA 10 x12 fun x41 =>
      oStoreD h14.length (wrL h14 [(x12, false)]) (some 4) x41 x30 h40 fun h42 =>
      oFieldA 14 x12 fun x43 =>
      oStoreD h14.length (wrL h14 [(x12, false)]) none x43 x33 h42 fun h44 =>
      oFieldA 15 x12 fun x45 =>
      oStoreD h14.length (wrL h14 [(x12, false)]) none x45 x36 h44 fun h46 =>
      oFieldA 16 x12 fun x47 =>
      oStoreD h14.length (wrL h14 [(x12, false)]) none x47 x39 h46 fun h48 =>
      oFieldA 4 x1 fun x49 =>
      oLoad (some 2) x49 h48 fun x50 =>
      oFieldA 4 x12 fun x51 =>
      oStore (some 2) x51 x50 h48 fun h52 =>
      (trim true h14.length [] h52).map fun p => (Ex.normal, p.1, p.2))
      (oCmp .eql x16 (.s (.int .i64 3)) fun x53 =>
      oCond x53 (oFieldA 4 x1 fun x54 =>
      oLoadD h14.length (wrL h14 [(x12, false)]) (some 2) x54 h14 fun x55 h56 =>
      oFieldA 17 x1 fun x57 =>
      oLoadD h14.length (wrL h14 [(x12, false)]) none x57 h56 fun x58 h59 =>
      oFieldA 4 x12 fun x60 =>
      oStoreD h14.length (wrL h14 [(x12, false)]) (some 2) x60 x55 h59 fun h61 =>
      oFieldA 17 x12 fun x62 =>
      oStoreD h14.length (wrL h14 [(x12, false)]) none x62 x58 h61 fun h63 =>
      (trim true h14.length [] h63).map fun p => (Ex.normal, p.1, p.2))
      (oCmp .eql x16 (.s (.int .i64 4)) fun x64 =>
      oCond x64 (oFieldA 9 x1 fun x65 =>
      oLoad none x65 h14 fun x66 =>
      oFieldA 9 x12 fun x67 =>
      oStore none x67 x66 h14 fun h68 =>
      (trim true h14.length [] h68).map fun p => (Ex.normal, p.1, p.2))
      (oCmp .eql x16 (.s (.int .i64 5)) fun x69 =>
      oCond x69 (oFieldA 18 x1 fun x70 =>
      oLoad (some 8) x70 h14 fun x71 =>
      oFieldA 18 x12 fun x72 =>
      oStore (some 8) x72 x71 h14 fun h73 =>
      (trim true h14.length [] h73).map fun p => (Ex.normal, p.1, p.2))
      ((trim true h14.length [] h14).map fun p => (Ex.normal, p.1, p.2))))))) (thing_only_k1 x12 x1 objs)
| _ => none

/-- bailey/thing.pure$1 -/
def thing_pure_c1 : CallFn := fun args objs =>
match args with
| [a0] =>
oNew none (some 2) a0 objs fun x1 h2 =>
      oFieldA 1 x1 fun x3 =>
      oLoad none x3 h2 fun x4 =>
      oCmp .eql x4 (.s (.int .i64 0)) fun x5 =>
      finish objs.length (.ok x5) h2
| _ => none

def En_thing_pure : String → CallFn := fun n => if n = "bailey/thing.pure$1" then thing_pure_c1 else (fun _ _ => none)

/-- bailey/thing.pure -/
def thing_pure : CallFn := fun args objs =>
match args with
| [a0] =>
oNew none (some 2) a0 objs fun x1 h2 =>
      oLoad (some 2) x1 h2 fun x3 =>
      oLend label_Right [x3] h2 (fun v6 h7 => finish objs.length (.pan v6) h7) fun w17 h18 => oFrz w17 h18 fun x4 h5 =>
      oGuard x4 true (fun _ => oFieldA 1 x1 fun x8 =>
      oLoad none x8 h5 fun x9 =>
      oLend (slices_ContainsFunc_Sapi_Cat_api_Cat (En_thing_pure)) [x9, (.fn "bailey/thing.pure$1" [])] h5 (fun v12 h13 => finish objs.length (.pan v12) h13) fun w15 h16 => oFrz w15 h16 fun x10 h11 =>
      oNot x10 fun x14 =>
      finish objs.length (.ok x14) h11)
      (fun _ => finish objs.length (.ok (.s (.bool false))) h5)
| _ => none

def thing_links_k1 (objs : Heap) (s4 : List A × Heap) (x8 : A) : Ex → List A → Heap → Option ((List A × Heap) ⊕ (Ex × List A × Heap)) := fun e39 vs37 h38 =>
      (match e39 with
  | .normal => oCond (vs37.getD 0 .any) ((trim true objs.length [(.s (.bool false)), (s4.1.getD 0 .any)] h38).map fun p => .inr (Ex.ret, p.1, p.2))
      (oFieldA 1 x8 fun x42 =>
      oLoad none x42 h38 fun x43 =>
      oAr .add (s4.1.getD 0 .any) x43 fun x44 =>
      oAr .add (s4.1.getD 1 .any) (.s (.int .i64 1)) fun x45 =>
      (trim true objs.length [x44, x45] h38).map .inl)
  | .exit i40 => if i40 = 1 then oAr .add (s4.1.getD 1 .any) (.s (.int .i64 1)) fun x46 =>
      (trim true objs.length [(s4.1.getD 0 .any), x46] h38).map .inl else (trim true objs.length [.any, (s4.1.getD 0 .any)] h38).map fun p => .inr (Ex.exit i40, p.1, p.2)
  | .ret => (trim true objs.length [.any, (s4.1.getD 0 .any)] h38).map fun p => .inr (Ex.ret, p.1, p.2)
  | .panic v41 => some (.inr (Ex.panic v41, [.any, .any], h38)))

def thing_links_l2 (x3 : A) (a0 : A) (objs : Heap) : List A × Heap → Option ((List A × Heap) ⊕ (Ex × List A × Heap)) := fun s4 =>
      oCmp .lss (s4.1.getD 1 .any) x3 fun x5 =>
      oCond x5 (oIdxA 2 a0 (s4.1.getD 1 .any) fun x6 =>
      oLoad (some 2) x6 s4.2 fun x7 =>
      oNew none (some 2) (.agg [.s (.int .u64 0), .s (.int .i64 0)]) s4.2 fun x8 h9 =>
      oStore (some 2) x8 x7 h9 fun h10 =>
      oJoin (oFieldA 0 x8 fun x11 =>
      oLoadD h10.length [] none x11 h10 fun x12 h13 =>
      oCallF h10.length [] thing_named [x12] h13 fun w35 h36 => oFrz w35 h36 fun x14 h15 =>
      oNot x14 fun x16 =>
      oGuard x16 false (fun _ => oFieldA 1 x8 fun x17 =>
      oLoadD h10.length [] none x17 h15 fun x18 h19 =>
      oCmp .lss x18 (.s (.int .i64 1)) fun x20 =>
      oGuard x20 false (fun _ => oFieldA 1 x8 fun x21 =>
      oLoadD h10.length [] none x21 h19 fun x22 h23 =>
      oCmp .gtr x22 (.s (.int .i64 48)) fun x24 =>
      oGuard x24 false (fun _ => oCmp .gtr (s4.1.getD 1 .any) (.s (.int .i64 0)) fun x25 =>
      oGuard x25 true (fun _ => oAr .sub (s4.1.getD 1 .any) (.s (.int .i64 1)) fun x26 =>
      oIdxA 2 a0 x26 fun x27 =>
      oFieldA 0 x27 fun x28 =>
      oLoadD h10.length [] none x28 h23 fun x29 h30 =>
      oFieldA 0 x8 fun x31 =>
      oLoadD h10.length [] none x31 h30 fun x32 h33 =>
      oCmp .geq x29 x32 fun x34 =>
      (trim true h10.length [x34] h33).map fun p => (Ex.normal, p.1, p.2))
      (fun _ => (trim true h10.length [(.s (.bool false))] h23).map fun p => (Ex.normal, p.1, p.2)))
      (fun _ => (trim true h10.length [(.s (.bool true))] h23).map fun p => (Ex.normal, p.1, p.2)))
      (fun _ => (trim true h10.length [(.s (.bool true))] h19).map fun p => (Ex.normal, p.1, p.2)))
      (fun _ => (trim true h10.length [(.s (.bool true))] h15).map fun p => (Ex.normal, p.1, p.2))) (thing_links_k1 objs s4 x8))
      ((trim true objs.length [.any, (s4.1.getD 0 .any)] s4.2).map fun p => .inr (Ex.exit 0, p.1, p.2))

def thing_links_k3 (a1 : A) (objs : Heap) : Ex → List A → Heap → Option (Out × Heap) := fun e47 vs48 h49 =>
      (match e47 with
  | .normal => none
  | .exit i50 => if i50 = 0 then oCmp .leq (vs48.getD 1 .any) a1 fun x52 =>
      finish objs.length (.ok x52) h49 else none
  | .ret => finish objs.length (.ok (vs48.getD 0 .any)) h49
  | .panic v51 => finish objs.length (.pan v51) h49)

/-- bailey/thing.links -/
def thing_links : CallFn := fun args objs =>
match args with
| [a0, a1] =>
oLen a0 fun x1 =>
      oCmp .gtr x1 (.s (.int .i64 16)) fun x2 =>
      oCond x2 (finish objs.length (.ok (.s (.bool false))) objs)
      (oLen a0 fun x3 =>
      oLoop (thing_links_l2 x3 a0 objs) ([(.s (.int .i64 1)), (.s (.int .i64 0))], objs) (thing_links_k3 a1 objs))
| _ => none

/-- bailey/thing.cost -/
def thing_cost : CallFn := fun args objs =>
match args with
| [a0] =>
oNew none (some 26) a0 objs fun x1 h2 =>
      oFieldA 1 x1 fun x3 =>
      oLoad none x3 h2 fun x4 =>
      oCmp .eql x4 (.s (.int .i64 4)) fun x5 =>
      oCond x5 (oFieldA 9 x1 fun x6 =>
      oLoad none x6 h2 fun x7 =>
      oLen x7 fun x8 =>
      oAr .quo x8 (.s (.int .i64 32)) fun x9 =>
      oAr .add (.s (.int .i64 1)) x9 fun x10 =>
      finish objs.length (.ok x10) h2)
      (finish objs.length (.ok (.s (.int .i64 1))) h2)
| _ => none

def slices_IndexFunc_Suint64_uint64_l1 (En : String → CallFn) (x1 : A) (a0 : A) (a1 : A) (objs : Heap) : List A × Heap → Option ((List A × Heap) ⊕ (Ex × List A × Heap)) := fun s2 =>
      oCmp .lss (s2.1.getD 0 .any) x1 fun x3 =>
      oCond x3 (oIdxA 1 a0 (s2.1.getD 0 .any) fun x4 =>
      oLoad none x4 s2.2 fun x5 =>
      oLendV En a1 [x5] s2.2 (fun v8 h9 => some (.inr (Ex.panic v8, [.any], h9))) fun w11 h12 => oFrz w11 h12 fun x6 h7 =>
      oCond x6 ((trim true objs.length [(s2.1.getD 0 .any)] h7).map fun p => .inr (Ex.ret, p.1, p.2))
      (oAr .add (s2.1.getD 0 .any) (.s (.int .i64 1)) fun x10 =>
      (trim true objs.length [x10] h7).map .inl))
      ((trim true objs.length [.any] s2.2).map fun p => .inr (Ex.exit 0, p.1, p.2))

def slices_IndexFunc_Suint64_uint64_k2 (objs : Heap) : Ex → List A → Heap → Option (Out × Heap) := fun e13 vs14 h15 =>
      (match e13 with
  | .normal => none
  | .exit i16 => if i16 = 0 then finish objs.length (.ok (.s (.int .i64 (-1)))) h15 else none
  | .ret => finish objs.length (.ok (vs14.getD 0 .any)) h15
  | .panic v17 => finish objs.length (.pan v17) h15)

/-- slices.IndexFunc[[]uint64,uint64] -/
def slices_IndexFunc_Suint64_uint64 (En : String → CallFn) : CallFn := fun args objs =>
match args with
| [a0, a1] =>
oLen a0 fun x1 =>
      oLoop (slices_IndexFunc_Suint64_uint64_l1 En x1 a0 a1 objs) ([(.s (.int .i64 0))], objs) (slices_IndexFunc_Suint64_uint64_k2 objs)
| _ => none

/-- slices.ContainsFunc[[]uint64,uint64] -/
def slices_ContainsFunc_Suint64_uint64 (En : String → CallFn) : CallFn := fun args objs =>
match args with
| [a0, a1] =>
oLend (slices_IndexFunc_Suint64_uint64 En) [a0, a1] objs (fun v3 h4 => finish objs.length (.pan v3) h4) fun w6 h7 => oFrz w6 h7 fun x1 h2 =>
      oCmp .geq x1 (.s (.int .i64 0)) fun x5 =>
      finish objs.length (.ok x5) h2
| _ => none

/-- bailey/num.Canon -/
def num_Canon : CallFn := fun args objs =>
match args with
| [a0] =>
oLend (fun _ _ => none) [a0] objs (fun v3 h4 => finish objs.length (.pan v3) h4) fun w5 h6 => oFrz w5 h6 fun x1 h2 =>
      none
| _ => none

def slices_IndexFunc_Sapi_Slot_api_Slot_l1 (En : String → CallFn) (x1 : A) (a0 : A) (a1 : A) (objs : Heap) : List A × Heap → Option ((List A × Heap) ⊕ (Ex × List A × Heap)) := fun s2 =>
      oCmp .lss (s2.1.getD 0 .any) x1 fun x3 =>
      oCond x3 (oIdxA 2 a0 (s2.1.getD 0 .any) fun x4 =>
      oLoad (some 2) x4 s2.2 fun x5 =>
      oLendV En a1 [x5] s2.2 (fun v8 h9 => some (.inr (Ex.panic v8, [.any], h9))) fun w11 h12 => oFrz w11 h12 fun x6 h7 =>
      oCond x6 ((trim true objs.length [(s2.1.getD 0 .any)] h7).map fun p => .inr (Ex.ret, p.1, p.2))
      (oAr .add (s2.1.getD 0 .any) (.s (.int .i64 1)) fun x10 =>
      (trim true objs.length [x10] h7).map .inl))
      ((trim true objs.length [.any] s2.2).map fun p => .inr (Ex.exit 0, p.1, p.2))

def slices_IndexFunc_Sapi_Slot_api_Slot_k2 (objs : Heap) : Ex → List A → Heap → Option (Out × Heap) := fun e13 vs14 h15 =>
      (match e13 with
  | .normal => none
  | .exit i16 => if i16 = 0 then finish objs.length (.ok (.s (.int .i64 (-1)))) h15 else none
  | .ret => finish objs.length (.ok (vs14.getD 0 .any)) h15
  | .panic v17 => finish objs.length (.pan v17) h15)

/-- slices.IndexFunc[[]bailey/api.Slot,bailey/api.Slot] -/
def slices_IndexFunc_Sapi_Slot_api_Slot (En : String → CallFn) : CallFn := fun args objs =>
match args with
| [a0, a1] =>
oLen a0 fun x1 =>
      oLoop (slices_IndexFunc_Sapi_Slot_api_Slot_l1 En x1 a0 a1 objs) ([(.s (.int .i64 0))], objs) (slices_IndexFunc_Sapi_Slot_api_Slot_k2 objs)
| _ => none

/-- slices.ContainsFunc[[]bailey/api.Slot,bailey/api.Slot] -/
def slices_ContainsFunc_Sapi_Slot_api_Slot (En : String → CallFn) : CallFn := fun args objs =>
match args with
| [a0, a1] =>
oLend (slices_IndexFunc_Sapi_Slot_api_Slot En) [a0, a1] objs (fun v3 h4 => finish objs.length (.pan v3) h4) fun w6 h7 => oFrz w6 h7 fun x1 h2 =>
      oCmp .geq x1 (.s (.int .i64 0)) fun x5 =>
      finish objs.length (.ok x5) h2
| _ => none

/-- bailey/thing.inside$2 -/
def thing_inside_c2 : CallFn := fun args objs =>
match args with
| [a0] =>
oNew none (some 2) a0 objs fun x1 h2 =>
      oLoad (some 2) x1 h2 fun x3 =>
      oBuildP [.s (.int .u64 0), .s (.int .u64 0)] [] fun x4 =>
      oEqAgg [true, true] true x3 x4 fun x5 =>
      oGuard x5 true (fun _ => oFieldA 0 x1 fun x6 =>
      oLoad none x6 h2 fun x7 =>
      oLend thing_named [x7] h2 (fun v10 h11 => finish objs.length (.pan v10) h11) fun w22 h23 => oFrz w22 h23 fun x8 h9 =>
      oNot x8 fun x12 =>
      oGuard x12 false (fun _ => oFieldA 1 x1 fun x13 =>
      oLoad none x13 h9 fun x14 =>
      oLend thing_named [x14] h9 (fun v17 h18 => finish objs.length (.pan v17) h18) fun w20 h21 => oFrz w20 h21 fun x15 h16 =>
      oNot x15 fun x19 =>
      finish objs.length (.ok x19) h16)
      (fun _ => finish objs.length (.ok (.s (.bool true))) h9))
      (fun _ => finish objs.length (.ok (.s (.bool false))) h2)
| _ => none

/-- bailey/thing.inside -/
def thing_inside : CallFn := fun args objs =>
match args with
| [a0] =>
oNew none (some 26) a0 objs fun x1 h2 =>
      oFieldA 1 x1 fun x3 =>
      oLoad none x3 h2 fun x4 =>
      oCmp .eql x4 (.s (.int .i64 2)) fun x5 =>
      oCond x5 (oFieldA 10 x1 fun x6 =>
      none)
      (oCmp .eql x4 (.s (.int .i64 3)) fun x7 =>
      oCond x7 (oFieldA 17 x1 fun x8 =>
      oLoadD h2.length [] none x8 h2 fun x9 h10 =>
      oCallF h2.length [] num_Canon [x9] h10 fun w17 h18 => oFrz w17 h18 fun x11 h12 =>
      oFieldA 17 x1 fun x13 =>
      oLoadD h2.length [] none x13 h12 fun x14 h15 =>
      oCmp .eql x11 x14 fun x16 =>
      finish objs.length (.ok x16) h15)
      (oCmp .eql x4 (.s (.int .i64 4)) fun x19 =>
      oCond x19 (oFieldA 9 x1 fun x20 =>
      oLoad none x20 h2 fun x21 =>
      oLen x21 fun x22 =>
      oAr .quo x22 (.s (.int .i64 32)) fun x23 =>
      oFieldA 9 x1 fun x24 =>
      oLoad none x24 h2 fun x25 =>
      oLen x25 fun x26 =>
      oAr .rem x26 (.s (.int .i64 32)) fun x27 =>
      oCmp .eql x27 (.s (.int .i64 0)) fun x28 =>
      oGuard x28 true (fun _ => oCmp .geq x23 (.s (.int .i64 1)) fun x29 =>
      oGuard x29 true (fun _ => oCmp .leq x23 (.s (.int .i64 4)) fun x30 =>
      finish objs.length (.ok x30) h2)
      (fun _ => finish objs.length (.ok (.s (.bool false))) h2))
      (fun _ => finish objs.length (.ok (.s (.bool false))) h2))
      (oCmp .eql x4 (.s (.int .i64 5)) fun x31 =>
      oCond x31 (oFieldA 18 x1 fun x32 =>
      none)
      (finish objs.length (.ok (.s (.bool true))) h2))))
| _ => none

def thing_Right_k1 (objs : Heap) (x1 : A) : Ex → List A → Heap → Option (Out × Heap) := fun e81 vs79 h80 =>
      (match e81 with
  | .normal => oCond (vs79.getD 0 .any) (finish objs.length (.ok (.s (.bool false))) h80)
      (oFieldA 1 x1 fun x84 =>
      oLoad none x84 h80 fun x85 =>
      oCmp .eql x85 (.s (.int .i64 1)) fun x86 =>
      oCond x86 (oFieldA 6 x1 fun x87 =>
      oLoad none x87 h80 fun x88 =>
      oCmp .geq x88 (.s (.int .i64 1)) fun x89 =>
      oGuard x89 true (fun _ => oFieldA 6 x1 fun x90 =>
      oLoad none x90 h80 fun x91 =>
      oCmp .leq x91 (.s (.int .i64 48)) fun x92 =>
      oGuard x92 true (fun _ => oFieldA 7 x1 fun x93 =>
      oLoad none x93 h80 fun x94 =>
      oCmp .geq x94 (.s (.int .i64 0)) fun x95 =>
      oGuard x95 true (fun _ => oFieldA 7 x1 fun x96 =>
      oLoad none x96 h80 fun x97 =>
      oCmp .leq x97 (.s (.int .i64 63)) fun x98 =>
      oGuard x98 true (fun _ => oFieldA 8 x1 fun x99 =>
      oLoad none x99 h80 fun x100 =>
      oFieldA 6 x1 fun x101 =>
      oLoad none x101 h80 fun x102 =>
      oLend thing_links [x100, x102] h80 (fun v105 h106 => finish objs.length (.pan v105) h106) fun w107 h108 => oFrz w107 h108 fun x103 h104 =>
      finish objs.length (.ok x103) h104)
      (fun _ => finish objs.length (.ok (.s (.bool false))) h80))
      (fun _ => finish objs.length (.ok (.s (.bool false))) h80))
      (fun _ => finish objs.length (.ok (.s (.bool false))) h80))
      (fun _ => finish objs.length (.ok (.s (.bool false))) h80))
      (oFieldA 6 x1 fun x109 =>
      oLoadD h80.length [] none x109 h80 fun x110 h111 =>
      oLoadD h80.length [] (some 26) x1 h111 fun x112 h113 =>
      oCallF h80.length [] thing_cost [x112] h113 fun w123 h124 => oFrz w123 h124 fun x114 h115 =>
      oCmp .eql x110 x114 fun x116 =>
      oGuard x116 true (fun _ => oLoadD h80.length [] (some 26) x1 h115 fun x117 h118 =>
      oCallF h80.length [] thing_inside [x117] h118 fun w121 h122 => oFrz w121 h122 fun x119 h120 =>
      finish objs.length (.ok x119) h120)
      (fun _ => finish objs.length (.ok (.s (.bool false))) h115)))
  | .exit i82 => none
  | .ret => finish objs.length (.ok (.s (.bool false))) h80
  | .panic v83 => finish objs.length (.pan v83) h80)

def thing_Right_k2 (x1 : A) (objs : Heap) : Ex → List A → Heap → Option (Out × Heap) := fun e48 vs46 h47 =>
      (match e48 with
  | .normal => oJoin (oNot (vs46.getD 0 .any) fun x51 =>
      oGuard x51 true (fun _ => oFieldA 2 x1 fun x52 =>
      oLoad (some 2) x52 h47 fun x53 =>
      oLend thing_pure [x53] h47 (fun v56 h57 => some (Ex.panic v56, [], h57)) fun w68 h69 => oFrz w68 h69 fun x54 h55 =>
      oNot x54 fun x58 =>
      oGuard x58 false (fun _ => oGuard (vs46.getD 0 .any) true (fun _ => oFieldA 4 x1 fun x59 =>
      oLoad (some 2) x59 h55 fun x60 =>
      oLend thing_pure [x60] h55 (fun v63 h64 => some (Ex.panic v63, [], h64)) fun w66 h67 => oFrz w66 h67 fun x61 h62 =>
      oNot x61 fun x65 =>
      (trim true h47.length [x65] h62).map fun p => (Ex.normal, p.1, p.2))
      (fun _ => (trim true h47.length [(.s (.bool false))] h55).map fun p => (Ex.normal, p.1, p.2)))
      (fun _ => (trim true h47.length [(.s (.bool true))] h55).map fun p => (Ex.normal, p.1, p.2)))
      (fun _ => oGuard (vs46.getD 0 .any) true (fun _ => oFieldA 4 x1 fun x70 =>
      oLoad (some 2) x70 h47 fun x71 =>
      oLend thing_pure [x71] h47 (fun v74 h75 => some (Ex.panic v74, [], h75)) fun w77 h78 => oFrz w77 h78 fun x72 h73 =>
      oNot x72 fun x76 =>
      (trim true h47.length [x76] h73).map fun p => (Ex.normal, p.1, p.2))
      (fun _ => (trim true h47.length [(.s (.bool false))] h47).map fun p => (Ex.normal, p.1, p.2)))) (thing_Right_k1 objs x1)
  | .exit i49 => none
  | .ret => finish objs.length (.ok (.s (.bool false))) h47
  | .panic v50 => finish objs.length (.pan v50) h47)

def thing_Right_k3 (objs : Heap) (x1 : A) : Ex → List A → Heap → Option (Out × Heap) := fun e37 vs35 h36 =>
      (match e37 with
  | .normal => oCond (vs35.getD 0 .any) (finish objs.length (.ok (.s (.bool false))) h36)
      (oJoin (oFieldA 1 x1 fun x40 =>
      oLoad none x40 h36 fun x41 =>
      oCmp .eql x41 (.s (.int .i64 2)) fun x42 =>
      oGuard x42 false (fun _ => oFieldA 1 x1 fun x43 =>
      oLoad none x43 h36 fun x44 =>
      oCmp .eql x44 (.s (.int .i64 3)) fun x45 =>
      (trim true h36.length [x45] h36).map fun p => (Ex.normal, p.1, p.2))
      (fun _ => (trim true h36.length [(.s (.bool true))] h36).map fun p => (Ex.normal, p.1, p.2))) (thing_Right_k2 x1 objs))
  | .exit i38 => none
  | .ret => finish objs.length (.ok (.s (.bool false))) h36
  | .panic v39 => finish objs.length (.pan v39) h36)

/-- bailey/thing.Right -/
def thing_Right : CallFn := fun args objs =>
match args with
| [a0] =>
oNew none (some 26) a0 objs fun x1 h2 =>
      oJoin (oFieldA 0 x1 fun x3 =>
      oLoad none x3 h2 fun x4 =>
      oLend thing_named [x4] h2 (fun v7 h8 => some (Ex.panic v7, [], h8)) fun w33 h34 => oFrz w33 h34 fun x5 h6 =>
      oNot x5 fun x9 =>
      oGuard x9 false (fun _ => oFieldA 1 x1 fun x10 =>
      oLoad none x10 h6 fun x11 =>
      oCmp .lss x11 (.s (.int .i64 1)) fun x12 =>
      oGuard x12 false (fun _ => oFieldA 1 x1 fun x13 =>
      oLoad none x13 h6 fun x14 =>
      oCmp .gtr x14 (.s (.int .i64 6)) fun x15 =>
      oGuard x15 false (fun _ => oFieldA 2 x1 fun x16 =>
      oLoad (some 2) x16 h6 fun x17 =>
      oLend label_Right [x17] h6 (fun v20 h21 => some (Ex.panic v20, [], h21)) fun w31 h32 => oFrz w31 h32 fun x18 h19 =>
      oNot x18 fun x22 =>
      oGuard x22 false (fun _ => oLoad (some 26) x1 h19 fun x23 =>
      oLend thing_only [x23] h19 (fun v26 h27 => some (Ex.panic v26, [], h27)) fun w29 h30 => oFrz w29 h30 fun x24 h25 =>
      oNot x24 fun x28 =>
      (trim true h2.length [x28] h25).map fun p => (Ex.normal, p.1, p.2))
      (fun _ => (trim true h2.length [(.s (.bool true))] h19).map fun p => (Ex.normal, p.1, p.2)))
      (fun _ => (trim true h2.length [(.s (.bool true))] h6).map fun p => (Ex.normal, p.1, p.2)))
      (fun _ => (trim true h2.length [(.s (.bool true))] h6).map fun p => (Ex.normal, p.1, p.2)))
      (fun _ => (trim true h2.length [(.s (.bool true))] h6).map fun p => (Ex.normal, p.1, p.2))) (thing_Right_k3 objs x1)
| _ => none

/-- bailey/graph.fits -/
def graph_fits : CallFn := fun args objs =>
match args with
| [a0, a1, a2] =>
oNew none (some 26) a1 objs fun x1 h2 =>
      oNew none (some 2) a2 h2 fun x3 h4 =>
      oFieldA 0 x3 fun x5 =>
      oLoad none x5 h4 fun x6 =>
      oLend graph_Find [a0, x6] h4 (fun v9 h10 => finish objs.length (.pan v9) h10) fun w30 h31 => oFrz w30 h31 fun x7 h8 =>
      oExtract 0 x7 fun x11 =>
      oExtract 1 x7 fun x12 =>
      oNew none (some 26) (.agg [.s (.int .u64 0), .s (.int .i64 0), .s (.int .i64 0), .s (.slice none 0 0), .s (.int .i64 0), .s (.slice none 0 0), .s (.int .i64 0), .s (.int .i64 0), .s (.slice none 0 0), .s (.slice none 0 0), .s (.int .u64 0), .s (.int .u64 0), .s (.int .u64 0), .s (.int .u64 0), .s (.int .i64 0), .s (.int .i64 0), .s (.bool false), .s (.int .u64 0), .s (.int .u64 0), .s (.int .u64 0), .s (.int .u64 0), .s (.int .u64 0), .s (.int .u64 0), .s (.int .u64 0), .s (.int .u64 0), .s (.int .u64 0)]) h8 fun x13 h14 =>
      oStore (some 26) x13 x11 h14 fun h15 =>
      oGuard x12 true (fun _ => oFieldA 6 x13 fun x16 =>
      oLoad none x16 h15 fun x17 =>
      oFieldA 1 x3 fun x18 =>
      oLoad none x18 h15 fun x19 =>
      oCmp .eql x17 x19 fun x20 =>
      oGuard x20 true (fun _ => oFieldA 1 x13 fun x21 =>
      oLoad none x21 h15 fun x22 =>
      oCmp .neq x22 (.s (.int .i64 1)) fun x23 =>
      oGuard x23 false (fun _ => oFieldA 0 x13 fun x24 =>
      oLoad none x24 h15 fun x25 =>
      oAr .quo x25 (.s (.int .u64 64)) fun x26 =>
      oFieldA 0 x1 fun x27 =>
      oLoad none x27 h15 fun x28 =>
      oCmp .eql x26 x28 fun x29 =>
      finish objs.length (.ok x29) h15)
      (fun _ => finish objs.length (.ok (.s (.bool true))) h15))
      (fun _ => finish objs.length (.ok (.s (.bool false))) h15))
      (fun _ => finish objs.length (.ok (.s (.bool false))) h15)
| _ => none

/-- bailey/graph.Sound$1 -/
def graph_Sound_c1 : CallFn := fun args objs =>
match args with
| [a0, a1, a2] =>
oNew none (some 2) a0 objs fun x1 h2 =>
      oLoad none a1 h2 fun x3 =>
      oLoad (some 26) a2 h2 fun x4 =>
      oLoad (some 2) x1 h2 fun x5 =>
      oLend graph_fits [x3, x4, x5] h2 (fun v8 h9 => finish objs.length (.pan v8) h9) fun w11 h12 => oFrz w11 h12 fun x6 h7 =>
      oNot x6 fun x10 =>
      finish objs.length (.ok x10) h7
| _ => none

def slices_IndexFunc_Sapi_Link_api_Link_l1 (En : String → CallFn) (x1 : A) (a0 : A) (a1 : A) (objs : Heap) : List A × Heap → Option ((List A × Heap) ⊕ (Ex × List A × Heap)) := fun s2 =>
      oCmp .lss (s2.1.getD 0 .any) x1 fun x3 =>
      oCond x3 (oIdxA 2 a0 (s2.1.getD 0 .any) fun x4 =>
      oLoad (some 2) x4 s2.2 fun x5 =>
      oLendV En a1 [x5] s2.2 (fun v8 h9 => some (.inr (Ex.panic v8, [.any], h9))) fun w11 h12 => oFrz w11 h12 fun x6 h7 =>
      oCond x6 ((trim true objs.length [(s2.1.getD 0 .any)] h7).map fun p => .inr (Ex.ret, p.1, p.2))
      (oAr .add (s2.1.getD 0 .any) (.s (.int .i64 1)) fun x10 =>
      (trim true objs.length [x10] h7).map .inl))
      ((trim true objs.length [.any] s2.2).map fun p => .inr (Ex.exit 0, p.1, p.2))

def slices_IndexFunc_Sapi_Link_api_Link_k2 (objs : Heap) : Ex → List A → Heap → Option (Out × Heap) := fun e13 vs14 h15 =>
      (match e13 with
  | .normal => none
  | .exit i16 => if i16 = 0 then finish objs.length (.ok (.s (.int .i64 (-1)))) h15 else none
  | .ret => finish objs.length (.ok (vs14.getD 0 .any)) h15
  | .panic v17 => finish objs.length (.pan v17) h15)

/-- slices.IndexFunc[[]bailey/api.Link,bailey/api.Link] -/
def slices_IndexFunc_Sapi_Link_api_Link (En : String → CallFn) : CallFn := fun args objs =>
match args with
| [a0, a1] =>
oLen a0 fun x1 =>
      oLoop (slices_IndexFunc_Sapi_Link_api_Link_l1 En x1 a0 a1 objs) ([(.s (.int .i64 0))], objs) (slices_IndexFunc_Sapi_Link_api_Link_k2 objs)
| _ => none

/-- slices.ContainsFunc[[]bailey/api.Link,bailey/api.Link] -/
def slices_ContainsFunc_Sapi_Link_api_Link (En : String → CallFn) : CallFn := fun args objs =>
match args with
| [a0, a1] =>
oLend (slices_IndexFunc_Sapi_Link_api_Link En) [a0, a1] objs (fun v3 h4 => finish objs.length (.pan v3) h4) fun w6 h7 => oFrz w6 h7 fun x1 h2 =>
      oCmp .geq x1 (.s (.int .i64 0)) fun x5 =>
      finish objs.length (.ok x5) h2
| _ => none

def graph_given_k1 (s13 : List A × Heap) (h10 : Heap) : Ex → List A → Heap → Option ((List A × Heap) ⊕ (Ex × List A × Heap)) := fun e24 vs22 h23 =>
      (match e24 with
  | .normal => oAr .quo (s13.1.getD 1 .any) (.s (.int .u64 64)) fun x27 =>
      (trim true h10.length [(vs22.getD 0 .any), x27] h23).map .inl
  | .exit i25 => (trim true h10.length [(vs22.getD 0 .any)] h23).map fun p => .inr (Ex.exit i25, p.1, p.2)
  | .ret => (trim true h10.length [(vs22.getD 0 .any)] h23).map fun p => .inr (Ex.ret, p.1, p.2)
  | .panic v26 => some (.inr (Ex.panic v26, [.any], h23)))

def graph_given_l2 (x1 : A) (h10 : Heap) : List A × Heap → Option ((List A × Heap) ⊕ (Ex × List A × Heap)) := fun s13 =>
      oCmp .gtr (s13.1.getD 1 .any) (.s (.int .u64 0)) fun x14 =>
      oCond x14 (oJoin (oAr .quo (s13.1.getD 1 .any) (.s (.int .u64 64)) fun x15 =>
      oFieldA 0 x1 fun x16 =>
      oLoad none x16 s13.2 fun x17 =>
      oCmp .eql x15 x17 fun x18 =>
      oCond x18 (oAr .rem (s13.1.getD 1 .any) (.s (.int .u64 64)) fun x19 =>
      oConv .i64 x19 fun x20 =>
      oMax (s13.1.getD 0 .any) x20 fun x21 =>
      (trim true s13.2.length [x21] s13.2).map fun p => (Ex.normal, p.1, p.2))
      ((trim true s13.2.length [(s13.1.getD 0 .any)] s13.2).map fun p => (Ex.normal, p.1, p.2))) (graph_given_k1 s13 h10))
      ((trim true h10.length [(s13.1.getD 0 .any)] s13.2).map fun p => .inr (Ex.exit 2, p.1, p.2))

def graph_given_k3 (s4 : List A × Heap) (h2 : Heap) : Ex → List A → Heap → Option ((List A × Heap) ⊕ (Ex × List A × Heap)) := fun e28 vs29 h30 =>
      (match e28 with
  | .normal => none
  | .exit i31 => if i31 = 2 then oAr .add (s4.1.getD 1 .any) (.s (.int .i64 1)) fun x33 =>
      (trim true h2.length [(vs29.getD 0 .any), x33] h30).map .inl else if i31 = 1 then oAr .add (s4.1.getD 1 .any) (.s (.int .i64 1)) fun x34 =>
      (trim true h2.length [(vs29.getD 0 .any), x34] h30).map .inl else (trim true h2.length [(vs29.getD 0 .any)] h30).map fun p => .inr (Ex.exit i31, p.1, p.2)
  | .ret => (trim true h2.length [(vs29.getD 0 .any)] h30).map fun p => .inr (Ex.ret, p.1, p.2)
  | .panic v32 => some (.inr (Ex.panic v32, [.any], h30)))

def graph_given_l4 (x3 : A) (a0 : A) (x1 : A) (h2 : Heap) : List A × Heap → Option ((List A × Heap) ⊕ (Ex × List A × Heap)) := fun s4 =>
      oCmp .lss (s4.1.getD 1 .any) x3 fun x5 =>
      oCond x5 (oIdxA 26 a0 (s4.1.getD 1 .any) fun x6 =>
      oLoad (some 26) x6 s4.2 fun x7 =>
      oNew none (some 26) (.agg [.s (.int .u64 0), .s (.int .i64 0), .s (.int .i64 0), .s (.slice none 0 0), .s (.int .i64 0), .s (.slice none 0 0), .s (.int .i64 0), .s (.int .i64 0), .s (.slice none 0 0), .s (.slice none 0 0), .s (.int .u64 0), .s (.int .u64 0), .s (.int .u64 0), .s (.int .u64 0), .s (.int .i64 0), .s (.int .i64 0), .s (.bool false), .s (.int .u64 0), .s (.int .u64 0), .s (.int .u64 0), .s (.int .u64 0), .s (.int .u64 0), .s (.int .u64 0), .s (.int .u64 0), .s (.int .u64 0), .s (.int .u64 0)]) s4.2 fun x8 h9 =>
      oStore (some 26) x8 x7 h9 fun h10 =>
      oFieldA 0 x8 fun x11 =>
      oLoad none x11 h10 fun x12 =>
      oLoop (graph_given_l2 x1 h10) ([(s4.1.getD 0 .any), x12], h10) (graph_given_k3 s4 h2))
      ((trim true h2.length [(s4.1.getD 0 .any)] s4.2).map fun p => .inr (Ex.exit 0, p.1, p.2))

def graph_given_k5 (objs : Heap) : Ex → List A → Heap → Option (Out × Heap) := fun e35 vs36 h37 =>
      (match e35 with
  | .normal => none
  | .exit i38 => if i38 = 0 then finish objs.length (.ok (vs36.getD 0 .any)) h37 else none
  | .ret => finish objs.length (.ok (.s (.int .i64 0))) h37
  | .panic v39 => finish objs.length (.pan v39) h37)

/-- bailey/graph.given -/
def graph_given : CallFn := fun args objs =>
match args with
| [a0, a1] =>
oNew none (some 26) a1 objs fun x1 h2 =>
      oLen a0 fun x3 =>
      oLoop (graph_given_l4 x3 a0 x1 h2) ([(.s (.int .i64 0)), (.s (.int .i64 0))], h2) (graph_given_k5 objs)
| _ => none

def En_graph_Sound : String → CallFn := fun n => if n = "bailey/graph.Sound$1" then graph_Sound_c1 else (fun _ _ => none)

def graph_Sound_k1 (h25 : Heap) (s31 : List A × Heap) : Ex → List A → Heap → Option ((List A × Heap) ⊕ (Ex × List A × Heap)) := fun e101 vs99 h100 =>
      (match e101 with
  | .normal => oCond (vs99.getD 0 .any) ((trim true h25.length [(.s (.bool false))] h100).map fun p => .inr (Ex.ret, p.1, p.2))
      (oAr .add (s31.1.getD 0 .any) (.s (.int .i64 1)) fun x104 =>
      (trim true h25.length [x104] h100).map .inl)
  | .exit i102 => if i102 = 1 then oAr .add (s31.1.getD 0 .any) (.s (.int .i64 1)) fun x105 =>
      (trim true h25.length [x105] h100).map .inl else (trim true h25.length [.any] h100).map fun p => .inr (Ex.exit i102, p.1, p.2)
  | .ret => (trim true h25.length [.any] h100).map fun p => .inr (Ex.ret, p.1, p.2)
  | .panic v103 => some (.inr (Ex.panic v103, [.any], h100)))

def graph_Sound_k2 (En : String → CallFn) (h25 : Heap) (x35 : A) (x1 : A) (s31 : List A × Heap) : Ex → List A → Heap → Option ((List A × Heap) ⊕ (Ex × List A × Heap)) := fun e73 vs71 h72 =>
      (match e73 with
  | .normal => oCond (vs71.getD 0 .any) ((trim true h25.length [(.s (.bool false))] h72).map fun p => .inr (Ex.ret, p.1, p.2))
      (oFieldA 8 x35 fun x76 =>
      oLoad none x76 h72 fun x77 =>
      oLend (slices_ContainsFunc_Sapi_Link_api_Link En) [x77, (.fn "bailey/graph.Sound$1" [x1, x35])] h72 (fun v80 h81 => some (.inr (Ex.panic v80, [.any], h81))) fun w106 h107 => oFrz w106 h107 fun x78 h79 =>
      oCond x78 ((trim true h25.length [(.s (.bool false))] h79).map fun p => .inr (Ex.ret, p.1, p.2))
      (oJoin (oCmp .gtr (s31.1.getD 0 .any) (.s (.int .i64 0)) fun x82 =>
      oGuard x82 true (fun _ => oFieldA 1 x35 fun x83 =>
      oLoadD h79.length [] none x83 h79 fun x84 h85 =>
      oCmp .eql x84 (.s (.int .i64 1)) fun x86 =>
      oGuard x86 true (fun _ => oLoadD h79.length [] none x1 h85 fun x87 h88 =>
      oLoadD h79.length [] (some 26) x35 h88 fun x89 h90 =>
      oCallF h79.length [] graph_given [x87, x89] h90 fun w97 h98 => oFrz w97 h98 fun x91 h92 =>
      oFieldA 7 x35 fun x93 =>
      oLoadD h79.length [] none x93 h92 fun x94 h95 =>
      oCmp .gtr x91 x94 fun x96 =>
      (trim true h79.length [x96] h95).map fun p => (Ex.normal, p.1, p.2))
      (fun _ => (trim true h79.length [(.s (.bool false))] h85).map fun p => (Ex.normal, p.1, p.2)))
      (fun _ => (trim true h79.length [(.s (.bool false))] h79).map fun p => (Ex.normal, p.1, p.2))) (graph_Sound_k1 h25 s31)))
  | .exit i74 => if i74 = 1 then oAr .add (s31.1.getD 0 .any) (.s (.int .i64 1)) fun x108 =>
      (trim true h25.length [x108] h72).map .inl else (trim true h25.length [.any] h72).map fun p => .inr (Ex.exit i74, p.1, p.2)
  | .ret => (trim true h25.length [.any] h72).map fun p => .inr (Ex.ret, p.1, p.2)
  | .panic v75 => some (.inr (Ex.panic v75, [.any], h72)))

def graph_Sound_l3 (En : String → CallFn) (x30 : A) (x29 : A) (x1 : A) (h25 : Heap) : List A × Heap → Option ((List A × Heap) ⊕ (Ex × List A × Heap)) := fun s31 =>
      oCmp .lss (s31.1.getD 0 .any) x30 fun x32 =>
      oCond x32 (oIdxA 26 x29 (s31.1.getD 0 .any) fun x33 =>
      oLoad (some 26) x33 s31.2 fun x34 =>
      oNew none (some 26) (.agg [.s (.int .u64 0), .s (.int .i64 0), .s (.int .i64 0), .s (.slice none 0 0), .s (.int .i64 0), .s (.slice none 0 0), .s (.int .i64 0), .s (.int .i64 0), .s (.slice none 0 0), .s (.slice none 0 0), .s (.int .u64 0), .s (.int .u64 0), .s (.int .u64 0), .s (.int .u64 0), .s (.int .i64 0), .s (.int .i64 0), .s (.bool false), .s (.int .u64 0), .s (.int .u64 0), .s (.int .u64 0), .s (.int .u64 0), .s (.int .u64 0), .s (.int .u64 0), .s (.int .u64 0), .s (.int .u64 0), .s (.int .u64 0)]) s31.2 fun x35 h36 =>
      oStore (some 26) x35 x34 h36 fun h37 =>
      oLoad none x1 h37 fun x38 =>
      oFieldA 0 x35 fun x39 =>
      oLoad none x39 h37 fun x40 =>
      oLend graph_Refs [x38, x40] h37 (fun v43 h44 => some (.inr (Ex.panic v43, [.any], h44))) fun w109 h110 => oFrz w109 h110 fun x41 h42 =>
      oJoin (oLoad (some 26) x35 h42 fun x45 =>
      oLend thing_Right [x45] h42 (fun v48 h49 => some (Ex.panic v48, [], h49)) fun w69 h70 => oFrz w69 h70 fun x46 h47 =>
      oNot x46 fun x50 =>
      oGuard x50 false (fun _ => oCmp .gtr (s31.1.getD 0 .any) (.s (.int .i64 0)) fun x51 =>
      oGuard x51 true (fun _ => oCmp .eql x41 (.s (.int .i64 0)) fun x52 =>
      oGuard x52 false (fun _ => oFieldA 1 x35 fun x53 =>
      oLoad none x53 h47 fun x54 =>
      oCmp .eql x54 (.s (.int .i64 1)) fun x55 =>
      oGuard x55 true (fun _ => oCmp .gtr x41 (.s (.int .i64 1)) fun x56 =>
      oGuard x56 false (fun _ => oCmp .eql (s31.1.getD 0 .any) (.s (.int .i64 0)) fun x57 =>
      oGuard x57 true (fun _ => oCmp .gtr x41 (.s (.int .i64 0)) fun x58 =>
      (trim true h42.length [x58] h47).map fun p => (Ex.normal, p.1, p.2))
      (fun _ => (trim true h42.length [(.s (.bool false))] h47).map fun p => (Ex.normal, p.1, p.2)))
      (fun _ => (trim true h42.length [(.s (.bool true))] h47).map fun p => (Ex.normal, p.1, p.2)))
      (fun _ => oCmp .eql (s31.1.getD 0 .any) (.s (.int .i64 0)) fun x59 =>
      oGuard x59 true (fun _ => oCmp .gtr x41 (.s (.int .i64 0)) fun x60 =>
      (trim true h42.length [x60] h47).map fun p => (Ex.normal, p.1, p.2))
      (fun _ => (trim true h42.length [(.s (.bool false))] h47).map fun p => (Ex.normal, p.1, p.2))))
      (fun _ => (trim true h42.length [(.s (.bool true))] h47).map fun p => (Ex.normal, p.1, p.2)))
      (fun _ => oFieldA 1 x35 fun x61 =>
      oLoad none x61 h47 fun x62 =>
      oCmp .eql x62 (.s (.int .i64 1)) fun x63 =>
      oGuard x63 true (fun _ => oCmp .gtr x41 (.s (.int .i64 1)) fun x64 =>
      oGuard x64 false (fun _ => oCmp .eql (s31.1.getD 0 .any) (.s (.int .i64 0)) fun x65 =>
      oGuard x65 true (fun _ => oCmp .gtr x41 (.s (.int .i64 0)) fun x66 =>
      (trim true h42.length [x66] h47).map fun p => (Ex.normal, p.1, p.2))
      (fun _ => (trim true h42.length [(.s (.bool false))] h47).map fun p => (Ex.normal, p.1, p.2)))
      (fun _ => (trim true h42.length [(.s (.bool true))] h47).map fun p => (Ex.normal, p.1, p.2)))
      (fun _ => oCmp .eql (s31.1.getD 0 .any) (.s (.int .i64 0)) fun x67 =>
      oGuard x67 true (fun _ => oCmp .gtr x41 (.s (.int .i64 0)) fun x68 =>
      (trim true h42.length [x68] h47).map fun p => (Ex.normal, p.1, p.2))
      (fun _ => (trim true h42.length [(.s (.bool false))] h47).map fun p => (Ex.normal, p.1, p.2)))))
      (fun _ => (trim true h42.length [(.s (.bool true))] h47).map fun p => (Ex.normal, p.1, p.2))) (graph_Sound_k2 En h25 x35 x1 s31))
      ((trim true h25.length [.any] s31.2).map fun p => .inr (Ex.exit 0, p.1, p.2))

def graph_Sound_k4 (x1 : A) (objs : Heap) : Ex → List A → Heap → Option (Out × Heap) := fun e111 vs112 h113 =>
      (match e111 with
  | .normal => none
  | .exit i114 => if i114 = 0 then oLoadD h113.length [] none x1 h113 fun x116 h117 =>
      oLoadD h113.length [] none x1 h117 fun x118 h119 =>
      oIdxA 26 x118 (.s (.int .i64 0)) fun x120 =>
      oLoadD h113.length [] (some 26) x120 h119 fun x121 h122 =>
      oCallF h113.length [] graph_given [x116, x121] h122 fun w132 h133 => oFrz w132 h133 fun x123 h124 =>
      oLoadD h113.length [] none x1 h124 fun x125 h126 =>
      oIdxA 26 x125 (.s (.int .i64 0)) fun x127 =>
      oFieldA 7 x127 fun x128 =>
      oLoadD h113.length [] none x128 h126 fun x129 h130 =>
      oCmp .leq x123 x129 fun x131 =>
      finish objs.length (.ok x131) h130 else none
  | .ret => finish objs.length (.ok (vs112.getD 0 .any)) h113
  | .panic v115 => finish objs.length (.pan v115) h113)

def graph_Sound_k5 (En : String → CallFn) (objs : Heap) (x1 : A) : Ex → List A → Heap → Option (Out × Heap) := fun e26 vs24 h25 =>
      (match e26 with
  | .normal => oCond (vs24.getD 0 .any) (finish objs.length (.ok (.s (.bool false))) h25)
      (oLoad none x1 h25 fun x29 =>
      oLen x29 fun x30 =>
      oLoop (graph_Sound_l3 En x30 x29 x1 h25) ([(.s (.int .i64 0))], h25) (graph_Sound_k4 x1 objs))
  | .exit i27 => none
  | .ret => finish objs.length (.ok (.s (.bool false))) h25
  | .panic v28 => finish objs.length (.pan v28) h25)

/-- bailey/graph.Sound -/
def graph_Sound : CallFn := fun args objs =>
match args with
| [a0] =>
oNew none none a0 objs fun x1 h2 =>
      oJoin (oLoad none x1 h2 fun x3 =>
      oLen x3 fun x4 =>
      oCmp .eql x4 (.s (.int .i64 0)) fun x5 =>
      oGuard x5 false (fun _ => oLoad none x1 h2 fun x6 =>
      oIdxA 26 x6 (.s (.int .i64 0)) fun x7 =>
      oFieldA 0 x7 fun x8 =>
      oLoad none x8 h2 fun x9 =>
      oCmp .neq x9 (.s (.int .u64 1)) fun x10 =>
      oGuard x10 false (fun _ => oLoad none x1 h2 fun x11 =>
      oIdxA 26 x11 (.s (.int .i64 0)) fun x12 =>
      oFieldA 1 x12 fun x13 =>
      oLoad none x13 h2 fun x14 =>
      oCmp .neq x14 (.s (.int .i64 1)) fun x15 =>
      oGuard x15 false (fun _ => oLoad none x1 h2 fun x16 =>
      oLend graph_rising [x16] h2 (fun v19 h20 => some (Ex.panic v19, [], h20)) fun w22 h23 => oFrz w22 h23 fun x17 h18 =>
      oNot x17 fun x21 =>
      (trim true h2.length [x21] h18).map fun p => (Ex.normal, p.1, p.2))
      (fun _ => (trim true h2.length [(.s (.bool true))] h2).map fun p => (Ex.normal, p.1, p.2)))
      (fun _ => (trim true h2.length [(.s (.bool true))] h2).map fun p => (Ex.normal, p.1, p.2)))
      (fun _ => (trim true h2.length [(.s (.bool true))] h2).map fun p => (Ex.normal, p.1, p.2))) (graph_Sound_k5 (En_graph_Sound) objs x1)
| _ => none

def ref13_SameIDs_l1 (x4 : A) (a0 : A) (a1 : A) (objs : Heap) : List A × Heap → Option ((List A × Heap) ⊕ (Ex × List A × Heap)) := fun s5 =>
      oCmp .lss (s5.1.getD 0 .any) x4 fun x6 =>
      oCond x6 (oIdxA 1 a0 (s5.1.getD 0 .any) fun x7 =>
      oLoadD s5.2.length [] none x7 s5.2 fun x8 h9 =>
      oIdxA 1 a1 (s5.1.getD 0 .any) fun x10 =>
      oLoadD s5.2.length [] none x10 h9 fun x11 h12 =>
      oCmp .neq x8 x11 fun x13 =>
      oCond x13 ((trim true objs.length [(.s (.bool false))] h12).map fun p => .inr (Ex.ret, p.1, p.2))
      (oAr .add (s5.1.getD 0 .any) (.s (.int .i64 1)) fun x14 =>
      (trim true objs.length [x14] h12).map .inl))
      ((trim true objs.length [.any] s5.2).map fun p => .inr (Ex.exit 0, p.1, p.2))

def ref13_SameIDs_k2 (objs : Heap) : Ex → List A → Heap → Option (Out × Heap) := fun e15 vs16 h17 =>
      (match e15 with
  | .normal => none
  | .exit i18 => if i18 = 0 then finish objs.length (.ok (.s (.bool true))) h17 else none
  | .ret => finish objs.length (.ok (vs16.getD 0 .any)) h17
  | .panic v19 => finish objs.length (.pan v19) h17)

/-- bailey/baileyref13.SameIDs -/
def ref13_SameIDs : CallFn := fun args objs =>
match args with
| [a0, a1] =>
oLen a0 fun x1 =>
      oLen a1 fun x2 =>
      oCmp .neq x1 x2 fun x3 =>
      oCond x3 (finish objs.length (.ok (.s (.bool false))) objs)
      (oLen a0 fun x4 =>
      oLoop (ref13_SameIDs_l1 x4 a0 a1 objs) ([(.s (.int .i64 0))], objs) (ref13_SameIDs_k2 objs))
| _ => none

/-- bailey/baileylaw13.graphAlive -/
def law13_graphAlive : CallFn := fun args objs =>
match args with
| [] =>
oLend law13_nest [] objs (fun v3 h4 => finish objs.length (.pan v3) h4) fun w43 h44 => oFrz w43 h44 fun x1 h2 =>
      oLend graph_Unlink [x1, (.s (.int .u64 1)), (.s (.int .u64 65))] h2 (fun v7 h8 => finish objs.length (.pan v7) h8) fun w41 h42 => oFrz w41 h42 fun x5 h6 =>
      oExtract 0 x5 fun x9 =>
      oExtract 1 x5 fun x10 =>
      oExtract 2 x5 fun x11 =>
      oLend law13_nest [] h6 (fun v14 h15 => finish objs.length (.pan v14) h15) fun w39 h40 => oFrz w39 h40 fun x12 h13 =>
      oLend graph_Sound [x12] h13 (fun v18 h19 => finish objs.length (.pan v18) h19) fun w37 h38 => oFrz w37 h38 fun x16 h17 =>
      oGuard x16 true (fun _ => oCmp .eql x11 (.s (.int .i64 0)) fun x20 =>
      oGuard x20 true (fun _ => oLen x9 fun x21 =>
      oCmp .eql x21 (.s (.int .i64 1)) fun x22 =>
      oGuard x22 true (fun _ => oNewSlice none 1 (asRows none [(.s (.int .u64 65)), (.s (.int .u64 4161))]) h17 fun x23 h24 =>
      oLend ref13_SameIDs [x10, x23] h24 (fun v27 h28 => finish objs.length (.pan v27) h28) fun w35 h36 => oFrz w35 h36 fun x25 h26 =>
      oGuard x25 true (fun _ => oLend graph_Sound [x9] h26 (fun v31 h32 => finish objs.length (.pan v31) h32) fun w33 h34 => oFrz w33 h34 fun x29 h30 =>
      finish objs.length (.ok x29) h30)
      (fun _ => finish objs.length (.ok (.s (.bool false))) h26))
      (fun _ => finish objs.length (.ok (.s (.bool false))) h17))
      (fun _ => finish objs.length (.ok (.s (.bool false))) h17))
      (fun _ => finish objs.length (.ok (.s (.bool false))) h17)
| _ => none

def ref13_Graph_l1 (a0 : A) (objs : Heap) : List A × Heap → Option ((List A × Heap) ⊕ (Ex × List A × Heap)) := fun s1 =>
      oLen a0 fun x2 =>
      oCmp .lss (s1.1.getD 0 .any) x2 fun x3 =>
      oCond x3 (oIdxA 26 a0 (s1.1.getD 0 .any) fun x4 =>
      oFieldA 0 x4 fun x5 =>
      oLoadD s1.2.length [] none x5 s1.2 fun x6 h7 =>
      oAr .sub (s1.1.getD 0 .any) (.s (.int .i64 1)) fun x8 =>
      oIdxA 26 a0 x8 fun x9 =>
      oFieldA 0 x9 fun x10 =>
      oLoadD s1.2.length [] none x10 h7 fun x11 h12 =>
      oCmp .leq x6 x11 fun x13 =>
      oCond x13 ((trim true objs.length [(.s (.bool false))] h12).map fun p => .inr (Ex.ret, p.1, p.2))
      (oAr .add (s1.1.getD 0 .any) (.s (.int .i64 1)) fun x14 =>
      (trim true objs.length [x14] h12).map .inl))
      ((trim true objs.length [.any] s1.2).map fun p => .inr (Ex.exit 0, p.1, p.2))

def ref13_Graph_k2 (objs : Heap) : Ex → List A → Heap → Option (Out × Heap) := fun e15 vs16 h17 =>
      (match e15 with
  | .normal => none
  | .exit i18 => if i18 = 0 then finish objs.length (.ok (.s (.bool true))) h17 else none
  | .ret => finish objs.length (.ok (vs16.getD 0 .any)) h17
  | .panic v19 => finish objs.length (.pan v19) h17)

/-- bailey/baileyref13.Graph -/
def ref13_Graph : CallFn := fun args objs =>
match args with
| [a0] =>
oLoop (ref13_Graph_l1 a0 objs) ([(.s (.int .i64 1))], objs) (ref13_Graph_k2 objs)
| _ => none

def ref09_Exact_l1 (x24 : A) (x1 : A) (x3 : A) (h18 : Heap) : List A × Heap → Option ((List A × Heap) ⊕ (Ex × List A × Heap)) := fun s25 =>
      oCmp .lss (s25.1.getD 0 .any) x24 fun x26 =>
      oCond x26 (oFieldA 1 x1 fun x27 =>
      oLoadD s25.2.length [] none x27 s25.2 fun x28 h29 =>
      oIdxA 2 x28 (s25.1.getD 0 .any) fun x30 =>
      oLoadD s25.2.length [] (some 2) x30 h29 fun x31 h32 =>
      oFieldA 1 x3 fun x33 =>
      oLoadD s25.2.length [] none x33 h32 fun x34 h35 =>
      oIdxA 2 x34 (s25.1.getD 0 .any) fun x36 =>
      oLoadD s25.2.length [] (some 2) x36 h35 fun x37 h38 =>
      oEqAgg [true, true] true x31 x37 fun x39 =>
      oCond x39 ((trim true h18.length [(.s (.bool false))] h38).map fun p => .inr (Ex.ret, p.1, p.2))
      (oAr .add (s25.1.getD 0 .any) (.s (.int .i64 1)) fun x40 =>
      (trim true h18.length [x40] h38).map .inl))
      ((trim true h18.length [.any] s25.2).map fun p => .inr (Ex.exit 0, p.1, p.2))

def ref09_Exact_k2 (objs : Heap) : Ex → List A → Heap → Option (Out × Heap) := fun e41 vs42 h43 =>
      (match e41 with
  | .normal => none
  | .exit i44 => if i44 = 0 then finish objs.length (.ok (.s (.bool true))) h43 else none
  | .ret => finish objs.length (.ok (vs42.getD 0 .any)) h43
  | .panic v45 => finish objs.length (.pan v45) h43)

def ref09_Exact_k3 (objs : Heap) (x1 : A) (x3 : A) : Ex → List A → Heap → Option (Out × Heap) := fun e19 vs17 h18 =>
      (match e19 with
  | .normal => oCond (vs17.getD 0 .any) (finish objs.length (.ok (.s (.bool false))) h18)
      (oFieldA 1 x1 fun x22 =>
      oLoad none x22 h18 fun x23 =>
      oLen x23 fun x24 =>
      oLoop (ref09_Exact_l1 x24 x1 x3 h18) ([(.s (.int .i64 0))], h18) (ref09_Exact_k2 objs))
  | .exit i20 => none
  | .ret => finish objs.length (.ok (.s (.bool false))) h18
  | .panic v21 => finish objs.length (.pan v21) h18)

/-- bailey/baileyref09.Exact -/
def ref09_Exact : CallFn := fun args objs =>
match args with
| [a0, a1] =>
oNew none (some 2) a0 objs fun x1 h2 =>
      oNew none (some 2) a1 h2 fun x3 h4 =>
      oJoin (oFieldA 0 x1 fun x5 =>
      oLoad none x5 h4 fun x6 =>
      oFieldA 0 x3 fun x7 =>
      oLoad none x7 h4 fun x8 =>
      oCmp .neq x6 x8 fun x9 =>
      oGuard x9 false (fun _ => oFieldA 1 x1 fun x10 =>
      oLoad none x10 h4 fun x11 =>
      oLen x11 fun x12 =>
      oFieldA 1 x3 fun x13 =>
      oLoad none x13 h4 fun x14 =>
      oLen x14 fun x15 =>
      oCmp .neq x12 x15 fun x16 =>
      (trim true h4.length [x16] h4).map fun p => (Ex.normal, p.1, p.2))
      (fun _ => (trim true h4.length [(.s (.bool true))] h4).map fun p => (Ex.normal, p.1, p.2))) (ref09_Exact_k3 objs x1 x3)
| _ => none

def ref11_Same_l1 (x103 : A) (x1 : A) (x3 : A) (h97 : Heap) : List A × Heap → Option ((List A × Heap) ⊕ (Ex × List A × Heap)) := fun s104 =>
      oCmp .lss (s104.1.getD 0 .any) x103 fun x105 =>
      oCond x105 (oFieldA 8 x1 fun x106 =>
      oLoadD s104.2.length [] none x106 s104.2 fun x107 h108 =>
      oIdxA 2 x107 (s104.1.getD 0 .any) fun x109 =>
      oLoadD s104.2.length [] (some 2) x109 h108 fun x110 h111 =>
      oFieldA 8 x3 fun x112 =>
      oLoadD s104.2.length [] none x112 h111 fun x113 h114 =>
      oIdxA 2 x113 (s104.1.getD 0 .any) fun x115 =>
      oLoadD s104.2.length [] (some 2) x115 h114 fun x116 h117 =>
      oEqAgg [true, true] true x110 x116 fun x118 =>
      oCond x118 ((trim true h97.length [(.s (.bool false))] h117).map fun p => .inr (Ex.ret, p.1, p.2))
      (oAr .add (s104.1.getD 0 .any) (.s (.int .i64 1)) fun x119 =>
      (trim true h97.length [x119] h117).map .inl))
      ((trim true h97.length [.any] s104.2).map fun p => .inr (Ex.exit 0, p.1, p.2))

def ref11_Same_k2 (objs : Heap) : Ex → List A → Heap → Option (Out × Heap) := fun e120 vs121 h122 =>
      (match e120 with
  | .normal => none
  | .exit i123 => if i123 = 0 then finish objs.length (.ok (.s (.bool true))) h122 else none
  | .ret => finish objs.length (.ok (vs121.getD 0 .any)) h122
  | .panic v124 => finish objs.length (.pan v124) h122)

def ref11_Same_k3 (objs : Heap) (x1 : A) (x3 : A) : Ex → List A → Heap → Option (Out × Heap) := fun e98 vs96 h97 =>
      (match e98 with
  | .normal => oCond (vs96.getD 0 .any) (finish objs.length (.ok (.s (.bool false))) h97)
      (oFieldA 8 x1 fun x101 =>
      oLoad none x101 h97 fun x102 =>
      oLen x102 fun x103 =>
      oLoop (ref11_Same_l1 x103 x1 x3 h97) ([(.s (.int .i64 0))], h97) (ref11_Same_k2 objs))
  | .exit i99 => none
  | .ret => finish objs.length (.ok (.s (.bool false))) h97
  | .panic v100 => finish objs.length (.pan v100) h97)

def ref11_Same_k4 (objs : Heap) (x1 : A) (x3 : A) : Ex → List A → Heap → Option (Out × Heap) := fun e57 vs55 h56 =>
      (match e57 with
  | .normal => oCond (vs55.getD 0 .any) (finish objs.length (.ok (.s (.bool false))) h56)
      (oJoin (oFieldA 2 x1 fun x60 =>
      oLoad (some 2) x60 h56 fun x61 =>
      oFieldA 2 x3 fun x62 =>
      oLoad (some 2) x62 h56 fun x63 =>
      oLend ref09_Exact [x61, x63] h56 (fun v66 h67 => some (Ex.panic v66, [], h67)) fun w94 h95 => oFrz w94 h95 fun x64 h65 =>
      oNot x64 fun x68 =>
      oGuard x68 false (fun _ => oFieldA 4 x1 fun x69 =>
      oLoad (some 2) x69 h65 fun x70 =>
      oFieldA 4 x3 fun x71 =>
      oLoad (some 2) x71 h65 fun x72 =>
      oLend ref09_Exact [x70, x72] h65 (fun v75 h76 => some (Ex.panic v75, [], h76)) fun w92 h93 => oFrz w92 h93 fun x73 h74 =>
      oNot x73 fun x77 =>
      oGuard x77 false (fun _ => oFieldA 9 x1 fun x78 =>
      oLoad none x78 h74 fun x79 =>
      oBytesStr x79 h74 fun x80 =>
      oFieldA 9 x3 fun x81 =>
      oLoad none x81 h74 fun x82 =>
      oBytesStr x82 h74 fun x83 =>
      oEqStr true x80 x83 fun x84 =>
      oGuard x84 false (fun _ => oFieldA 8 x1 fun x85 =>
      oLoad none x85 h74 fun x86 =>
      oLen x86 fun x87 =>
      oFieldA 8 x3 fun x88 =>
      oLoad none x88 h74 fun x89 =>
      oLen x89 fun x90 =>
      oCmp .neq x87 x90 fun x91 =>
      (trim true h56.length [x91] h74).map fun p => (Ex.normal, p.1, p.2))
      (fun _ => (trim true h56.length [(.s (.bool true))] h74).map fun p => (Ex.normal, p.1, p.2)))
      (fun _ => (trim true h56.length [(.s (.bool true))] h74).map fun p => (Ex.normal, p.1, p.2)))
      (fun _ => (trim true h56.length [(.s (.bool true))] h65).map fun p => (Ex.normal, p.1, p.2))) (ref11_Same_k3 objs x1 x3))
  | .exit i58 => none
  | .ret => finish objs.length (.ok (.s (.bool false))) h56
  | .panic v59 => finish objs.length (.pan v59) h56)

/-- bailey/baileyref11.Same -/
def ref11_Same : CallFn := fun args objs =>
match args with
| [a0, a1] =>
oNew none (some 26) a0 objs fun x1 h2 =>
      oNew none (some 26) a1 h2 fun x3 h4 =>
      oJoin (oFieldA 0 x1 fun x5 =>
      oLoad none x5 h4 fun x6 =>
      oFieldA 0 x3 fun x7 =>
      oLoad none x7 h4 fun x8 =>
      oCmp .neq x6 x8 fun x9 =>
      oGuard x9 false (fun _ => oFieldA 1 x1 fun x10 =>
      oLoad none x10 h4 fun x11 =>
      oFieldA 1 x3 fun x12 =>
      oLoad none x12 h4 fun x13 =>
      oCmp .neq x11 x13 fun x14 =>
      oGuard x14 false (fun _ => oFieldA 6 x1 fun x15 =>
      oLoad none x15 h4 fun x16 =>
      oFieldA 6 x3 fun x17 =>
      oLoad none x17 h4 fun x18 =>
      oCmp .neq x16 x18 fun x19 =>
      oGuard x19 false (fun _ => oFieldA 7 x1 fun x20 =>
      oLoad none x20 h4 fun x21 =>
      oFieldA 7 x3 fun x22 =>
      oLoad none x22 h4 fun x23 =>
      oCmp .neq x21 x23 fun x24 =>
      oGuard x24 false (fun _ => oFieldA 10 x1 fun x25 =>
      oLoad (some 4) x25 h4 fun x26 =>
      oFieldA 10 x3 fun x27 =>
      oLoad (some 4) x27 h4 fun x28 =>
      oEqAgg [true, true, true, true] true x26 x28 fun x29 =>
      oGuard x29 false (fun _ => oFieldA 14 x1 fun x30 =>
      oLoad none x30 h4 fun x31 =>
      oFieldA 14 x3 fun x32 =>
      oLoad none x32 h4 fun x33 =>
      oCmp .neq x31 x33 fun x34 =>
      oGuard x34 false (fun _ => oFieldA 15 x1 fun x35 =>
      oLoad none x35 h4 fun x36 =>
      oFieldA 15 x3 fun x37 =>
      oLoad none x37 h4 fun x38 =>
      oCmp .neq x36 x38 fun x39 =>
      oGuard x39 false (fun _ => oFieldA 16 x1 fun x40 =>
      oLoad none x40 h4 fun x41 =>
      oFieldA 16 x3 fun x42 =>
      oLoad none x42 h4 fun x43 =>
      oEqBool true x41 x43 fun x44 =>
      oGuard x44 false (fun _ => oFieldA 17 x1 fun x45 =>
      oLoad none x45 h4 fun x46 =>
      oFieldA 17 x3 fun x47 =>
      oLoad none x47 h4 fun x48 =>
      oCmp .neq x46 x48 fun x49 =>
      oGuard x49 false (fun _ => oFieldA 18 x1 fun x50 =>
      oLoad (some 8) x50 h4 fun x51 =>
      oFieldA 18 x3 fun x52 =>
      oLoad (some 8) x52 h4 fun x53 =>
      oEqAgg [true, true, true, true, true, true, true, true] true x51 x53 fun x54 =>
      (trim true h4.length [x54] h4).map fun p => (Ex.normal, p.1, p.2))
      (fun _ => (trim true h4.length [(.s (.bool true))] h4).map fun p => (Ex.normal, p.1, p.2)))
      (fun _ => (trim true h4.length [(.s (.bool true))] h4).map fun p => (Ex.normal, p.1, p.2)))
      (fun _ => (trim true h4.length [(.s (.bool true))] h4).map fun p => (Ex.normal, p.1, p.2)))
      (fun _ => (trim true h4.length [(.s (.bool true))] h4).map fun p => (Ex.normal, p.1, p.2)))
      (fun _ => (trim true h4.length [(.s (.bool true))] h4).map fun p => (Ex.normal, p.1, p.2)))
      (fun _ => (trim true h4.length [(.s (.bool true))] h4).map fun p => (Ex.normal, p.1, p.2)))
      (fun _ => (trim true h4.length [(.s (.bool true))] h4).map fun p => (Ex.normal, p.1, p.2)))
      (fun _ => (trim true h4.length [(.s (.bool true))] h4).map fun p => (Ex.normal, p.1, p.2)))
      (fun _ => (trim true h4.length [(.s (.bool true))] h4).map fun p => (Ex.normal, p.1, p.2))) (ref11_Same_k4 objs x1 x3)
| _ => none

def law13_GraphPuts_k1 (objs : Heap) (x23 : A) (a2 : A) (a0 : A) (x1 : A) : Ex → List A → Heap → Option (Out × Heap) := fun e57 vs55 h56 =>
      (match e57 with
  | .normal => oCond (vs55.getD 0 .any) (finish objs.length (.ok (.s (.bool false))) h56)
      (oLend graph_Find [x23, a2] h56 (fun v62 h63 => finish objs.length (.pan v62) h63) fun w92 h93 => oFrz w92 h93 fun x60 h61 =>
      oExtract 0 x60 fun x64 =>
      oExtract 1 x60 fun x65 =>
      oNew none (some 26) (.agg [.s (.int .u64 0), .s (.int .i64 0), .s (.int .i64 0), .s (.slice none 0 0), .s (.int .i64 0), .s (.slice none 0 0), .s (.int .i64 0), .s (.int .i64 0), .s (.slice none 0 0), .s (.slice none 0 0), .s (.int .u64 0), .s (.int .u64 0), .s (.int .u64 0), .s (.int .u64 0), .s (.int .i64 0), .s (.int .i64 0), .s (.bool false), .s (.int .u64 0), .s (.int .u64 0), .s (.int .u64 0), .s (.int .u64 0), .s (.int .u64 0), .s (.int .u64 0), .s (.int .u64 0), .s (.int .u64 0), .s (.int .u64 0)]) h61 fun x66 h67 =>
      oStore (some 26) x66 x64 h67 fun h68 =>
      oLend graph_Find [a0, a2] h68 (fun v71 h72 => finish objs.length (.pan v71) h72) fun w90 h91 => oFrz w90 h91 fun x69 h70 =>
      oExtract 0 x69 fun x73 =>
      oExtract 1 x69 fun x74 =>
      oNew none (some 26) (.agg [.s (.int .u64 0), .s (.int .i64 0), .s (.int .i64 0), .s (.slice none 0 0), .s (.int .i64 0), .s (.slice none 0 0), .s (.int .i64 0), .s (.int .i64 0), .s (.slice none 0 0), .s (.slice none 0 0), .s (.int .u64 0), .s (.int .u64 0), .s (.int .u64 0), .s (.int .u64 0), .s (.int .i64 0), .s (.int .i64 0), .s (.bool false), .s (.int .u64 0), .s (.int .u64 0), .s (.int .u64 0), .s (.int .u64 0), .s (.int .u64 0), .s (.int .u64 0), .s (.int .u64 0), .s (.int .u64 0), .s (.int .u64 0)]) h70 fun x75 h76 =>
      oStore (some 26) x75 x73 h76 fun h77 =>
      oFieldA 0 x1 fun x78 =>
      oLoad none x78 h77 fun x79 =>
      oCmp .eql a2 x79 fun x80 =>
      oGuard x80 false (fun _ => oEqBool false x65 x74 fun x81 =>
      oGuard x81 true (fun _ => oLoad (some 26) x66 h77 fun x82 =>
      oLoad (some 26) x75 h77 fun x83 =>
      oLend ref11_Same [x82, x83] h77 (fun v86 h87 => finish objs.length (.pan v86) h87) fun w88 h89 => oFrz w88 h89 fun x84 h85 =>
      finish objs.length (.ok x84) h85)
      (fun _ => finish objs.length (.ok (.s (.bool false))) h77))
      (fun _ => finish objs.length (.ok (.s (.bool true))) h77))
  | .exit i58 => none
  | .ret => finish objs.length (.ok (.s (.bool false))) h56
  | .panic v59 => finish objs.length (.pan v59) h56)

def law13_GraphPuts_k2 (objs : Heap) (x1 : A) (a0 : A) (a2 : A) : Ex → List A → Heap → Option (Out × Heap) := fun e19 vs17 h18 =>
      (match e19 with
  | .normal => oCond (vs17.getD 0 .any) (finish objs.length (.ok (.s (.bool true))) h18)
      (oLoad (some 26) x1 h18 fun x22 =>
      oLend graph_Put [a0, x22] h18 (fun v25 h26 => finish objs.length (.pan v25) h26) fun w96 h97 => oFrz w96 h97 fun x23 h24 =>
      oFieldA 0 x1 fun x27 =>
      oLoad none x27 h24 fun x28 =>
      oLend graph_Find [x23, x28] h24 (fun v31 h32 => finish objs.length (.pan v31) h32) fun w94 h95 => oFrz w94 h95 fun x29 h30 =>
      oExtract 0 x29 fun x33 =>
      oExtract 1 x29 fun x34 =>
      oNew none (some 26) (.agg [.s (.int .u64 0), .s (.int .i64 0), .s (.int .i64 0), .s (.slice none 0 0), .s (.int .i64 0), .s (.slice none 0 0), .s (.int .i64 0), .s (.int .i64 0), .s (.slice none 0 0), .s (.slice none 0 0), .s (.int .u64 0), .s (.int .u64 0), .s (.int .u64 0), .s (.int .u64 0), .s (.int .i64 0), .s (.int .i64 0), .s (.bool false), .s (.int .u64 0), .s (.int .u64 0), .s (.int .u64 0), .s (.int .u64 0), .s (.int .u64 0), .s (.int .u64 0), .s (.int .u64 0), .s (.int .u64 0), .s (.int .u64 0)]) h30 fun x35 h36 =>
      oStore (some 26) x35 x33 h36 fun h37 =>
      oJoin (oNot x34 fun x38 =>
      oGuard x38 false (fun _ => oLoad (some 26) x35 h37 fun x39 =>
      oLoad (some 26) x1 h37 fun x40 =>
      oLend ref11_Same [x39, x40] h37 (fun v43 h44 => some (Ex.panic v43, [], h44)) fun w53 h54 => oFrz w53 h54 fun x41 h42 =>
      oNot x41 fun x45 =>
      oGuard x45 false (fun _ => oLend ref13_Graph [x23] h42 (fun v48 h49 => some (Ex.panic v48, [], h49)) fun w51 h52 => oFrz w51 h52 fun x46 h47 =>
      oNot x46 fun x50 =>
      (trim true h37.length [x50] h47).map fun p => (Ex.normal, p.1, p.2))
      (fun _ => (trim true h37.length [(.s (.bool true))] h42).map fun p => (Ex.normal, p.1, p.2)))
      (fun _ => (trim true h37.length [(.s (.bool true))] h37).map fun p => (Ex.normal, p.1, p.2))) (law13_GraphPuts_k1 objs x23 a2 a0 x1))
  | .exit i20 => none
  | .ret => finish objs.length (.ok (.s (.bool false))) h18
  | .panic v21 => finish objs.length (.pan v21) h18)

/-- bailey/baileylaw13.GraphPuts -/
def law13_GraphPuts : CallFn := fun args objs =>
match args with
| [a0, a1, a2] =>
oNew none (some 26) a1 objs fun x1 h2 =>
      oLend law13_graphAlive [] h2 (fun v5 h6 => finish objs.length (.pan v5) h6) fun w98 h99 => oFrz w98 h99 fun x3 h4 =>
      oNot x3 fun x7 =>
      oCond x7 (finish objs.length (.ok (.s (.bool false))) h4)
      (oJoin (oLen a0 fun x8 =>
      oCmp .gtr x8 (.s (.int .i64 60)) fun x9 =>
      oGuard x9 false (fun _ => oLend ref13_Graph [a0] h4 (fun v12 h13 => some (Ex.panic v12, [], h13)) fun w15 h16 => oFrz w15 h16 fun x10 h11 =>
      oNot x10 fun x14 =>
      (trim true h4.length [x14] h11).map fun p => (Ex.normal, p.1, p.2))
      (fun _ => (trim true h4.length [(.s (.bool true))] h4).map fun p => (Ex.normal, p.1, p.2))) (law13_GraphPuts_k2 objs x1 a0 a2))
| _ => none

end Go.Ab.F
