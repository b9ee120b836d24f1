/-
  THE PROGRAM'S FUNCTIONS OVER VALUES WITHOUT ADDRESSES. Written by a program (emit.py).
-/
import Derived.Test.YtiogidfeboeenaaGreatAbsPrim
set_option maxRecDepth 100000
set_option linter.unusedVariables false
namespace Go.Ab.F
open Go Go.Ab

def kern_World_k1 (objs : Heap) (a0 : A) : Ex → List A → Heap → Option (Out × Heap) := fun e5 vs3 h4 =>
      (match e5 with
  | .normal => oCond (vs3.getD 0 .any) (finish objs.length (.ok (.tup [(.s (.slice none 0 0)), (.s (.int .i64 205))])) h4)
      (oBuildP [.s (.int .i64 0), .s (.slice none 0 0)] [(0, none, (.s (.int .i64 2)))] fun x8 =>
      oNew none (some 2) (.agg [.s (.int .i64 0), .s (.slice none 0 0)]) h4 fun x9 h10 =>
      oStore (some 2) x9 x8 h10 fun h11 =>
      oLoad (some 2) x9 h11 fun x12 =>
      oBuildP [.s (.int .u64 0), .s (.int .i64 0)] [(0, none, (.s (.int .u64 65))), (1, none, (.s (.int .i64 1)))] fun x13 =>
      oBuildP [.s (.int .u64 0), .s (.int .i64 0)] [(0, none, (.s (.int .u64 66))), (1, none, (.s (.int .i64 1)))] fun x14 =>
      oNewSlice none 2 (asRows (some 2) [x13, x14]) h11 fun x15 h16 =>
      oBuildP [.s (.int .u64 0), .s (.int .i64 0), .s (.int .i64 0), .s (.slice none 0 0), .s (.int .i64 0), .s (.slice none 0 0), .s (.int .i64 0), .s (.int .i64 0), .s (.slice none 0 0), .s (.slice none 0 0), .s (.int .u64 0), .s (.int .u64 0), .s (.int .u64 0), .s (.int .u64 0), .s (.int .i64 0), .s (.int .i64 0), .s (.bool false), .s (.int .u64 0), .s (.int .u64 0), .s (.int .u64 0), .s (.int .u64 0), .s (.int .u64 0), .s (.int .u64 0), .s (.int .u64 0), .s (.int .u64 0), .s (.int .u64 0)] [(0, none, (.s (.int .u64 1))), (1, none, (.s (.int .i64 1))), (2, (some 2), x12), (6, none, a0), (7, none, (.s (.int .i64 2))), (8, none, x15)] fun x17 =>
      oLoad (some 2) x9 h16 fun x18 =>
      oBuildP [.s (.int .u64 0), .s (.int .i64 0), .s (.int .i64 0), .s (.slice none 0 0), .s (.int .i64 0), .s (.slice none 0 0), .s (.int .i64 0), .s (.int .i64 0), .s (.slice none 0 0), .s (.slice none 0 0), .s (.int .u64 0), .s (.int .u64 0), .s (.int .u64 0), .s (.int .u64 0), .s (.int .i64 0), .s (.int .i64 0), .s (.bool false), .s (.int .u64 0), .s (.int .u64 0), .s (.int .u64 0), .s (.int .u64 0), .s (.int .u64 0), .s (.int .u64 0), .s (.int .u64 0), .s (.int .u64 0), .s (.int .u64 0)] [(0, none, (.s (.int .u64 65))), (1, none, (.s (.int .i64 6))), (2, (some 2), x18), (6, none, (.s (.int .i64 1)))] fun x19 =>
      oLoad (some 2) x9 h16 fun x20 =>
      oLoad (some 2) x9 h16 fun x21 =>
      oBuildP [.s (.int .u64 0), .s (.int .i64 0), .s (.int .i64 0), .s (.slice none 0 0), .s (.int .i64 0), .s (.slice none 0 0), .s (.int .i64 0), .s (.int .i64 0), .s (.slice none 0 0), .s (.slice none 0 0), .s (.int .u64 0), .s (.int .u64 0), .s (.int .u64 0), .s (.int .u64 0), .s (.int .i64 0), .s (.int .i64 0), .s (.bool false), .s (.int .u64 0), .s (.int .u64 0), .s (.int .u64 0), .s (.int .u64 0), .s (.int .u64 0), .s (.int .u64 0), .s (.int .u64 0), .s (.int .u64 0), .s (.int .u64 0)] [(0, none, (.s (.int .u64 66))), (1, none, (.s (.int .i64 2))), (2, (some 2), x20), (4, (some 2), x21), (6, none, (.s (.int .i64 1)))] fun x22 =>
      oNewSlice none 26 (asRows (some 26) [x17, x19, x22]) h16 fun x23 h24 =>
      finish objs.length (.ok (.tup [x23, (.s (.int .i64 0))])) h24)
  | .exit i6 => none
  | .ret => finish objs.length (.ok (.tup [(.s (.slice none 0 0)), (.s (.int .i64 0))])) h4
  | .panic v7 => finish objs.length (.pan v7) h4)

/-- bailey/kern.World -/
def kern_World : CallFn := fun args objs =>
match args with
| [a0] =>
oJoin (oCmp .lss a0 (.s (.int .i64 4)) fun x1 =>
      oGuard x1 false (fun _ => oCmp .gtr a0 (.s (.int .i64 48)) fun x2 =>
      (trim true objs.length [x2] objs).map fun p => (Ex.normal, p.1, p.2))
      (fun _ => (trim true objs.length [(.s (.bool true))] objs).map fun p => (Ex.normal, p.1, p.2))) (kern_World_k1 objs a0)
| _ => none

def slices_BinarySearchFunc_Sapi_Thing_api_Thing_uint64_l1 (En : String → CallFn) (a0 : A) (a2 : A) (a1 : A) (objs : Heap) : List A × Heap → Option ((List A × Heap) ⊕ (Ex × List A × Heap)) := fun s2 =>
      oCmp .lss (s2.1.getD 0 .any) (s2.1.getD 1 .any) fun x3 =>
      oCond x3 (oAr .add (s2.1.getD 0 .any) (s2.1.getD 1 .any) fun x4 =>
      oConv .u64 x4 fun x5 =>
      oShift .shr x5 (.s (.int .u64 1)) fun x6 =>
      oConv .i64 x6 fun x7 =>
      oIdxA 26 a0 x7 fun x8 =>
      oLoad (some 26) x8 s2.2 fun x9 =>
      oLendV En a2 [x9, a1] s2.2 (fun v12 h13 => some (.inr (Ex.panic v12, [.any], h13))) fun w16 h17 => oFrz w16 h17 fun x10 h11 =>
      oCmp .lss x10 (.s (.int .i64 0)) fun x14 =>
      oCond x14 (oAr .add x7 (.s (.int .i64 1)) fun x15 =>
      (trim true objs.length [x15, (s2.1.getD 1 .any)] h11).map .inl)
      ((trim true objs.length [(s2.1.getD 0 .any), x7] h11).map .inl))
      ((trim true objs.length [(s2.1.getD 0 .any)] s2.2).map fun p => .inr (Ex.exit 0, p.1, p.2))

def slices_BinarySearchFunc_Sapi_Thing_api_Thing_uint64_k2 (En : String → CallFn) (x1 : A) (a0 : A) (a2 : A) (a1 : A) (objs : Heap) : Ex → List A → Heap → Option (Out × Heap) := fun e18 vs19 h20 =>
      (match e18 with
  | .normal => none
  | .exit i21 => if i21 = 0 then oCmp .lss (vs19.getD 0 .any) x1 fun x23 =>
      oGuard x23 true (fun _ => oIdxA 26 a0 (vs19.getD 0 .any) fun x24 =>
      oLoad (some 26) x24 h20 fun x25 =>
      oLendV En a2 [x25, a1] h20 (fun v28 h29 => finish objs.length (.pan v28) h29) fun w31 h32 => oFrz w31 h32 fun x26 h27 =>
      oCmp .eql x26 (.s (.int .i64 0)) fun x30 =>
      finish objs.length (.ok (.tup [(vs19.getD 0 .any), x30])) h27)
      (fun _ => finish objs.length (.ok (.tup [(vs19.getD 0 .any), (.s (.bool false))])) h20) else none
  | .ret => finish objs.length (.ok (.tup [(.s (.int .i64 0)), (.s (.bool false))])) h20
  | .panic v22 => finish objs.length (.pan v22) h20)

/-- slices.BinarySearchFunc[[]bailey/api.Thing,bailey/api.Thing,uint64] -/
def slices_BinarySearchFunc_Sapi_Thing_api_Thing_uint64 (En : String → CallFn) : CallFn := fun args objs =>
match args with
| [a0, a1, a2] =>
oLen a0 fun x1 =>
      oLoop (slices_BinarySearchFunc_Sapi_Thing_api_Thing_uint64_l1 En a0 a2 a1 objs) ([(.s (.int .i64 0)), x1], objs) (slices_BinarySearchFunc_Sapi_Thing_api_Thing_uint64_k2 En x1 a0 a2 a1 objs)
| _ => none

/-- cmp.isNaN[uint64] -/
def cmp_isNaN_uint64 : CallFn := fun args objs =>
match args with
| [a0] =>
oCmp .neq a0 a0 fun x1 =>
      finish objs.length (.ok x1) objs
| _ => none

/-- cmp.Compare[uint64] -/
def cmp_Compare_uint64 : CallFn := fun args objs =>
match args with
| [a0, a1] =>
oLend cmp_isNaN_uint64 [a0] objs (fun v3 h4 => finish objs.length (.pan v3) h4) fun w13 h14 => oFrz w13 h14 fun x1 h2 =>
      oLend cmp_isNaN_uint64 [a1] h2 (fun v7 h8 => finish objs.length (.pan v7) h8) fun w11 h12 => oFrz w11 h12 fun x5 h6 =>
      oCond x1 (oCond x5 (finish objs.length (.ok (.s (.int .i64 0))) h6)
      (finish objs.length (.ok (.s (.int .i64 (-1)))) h6))
      (oCond x5 (finish objs.length (.ok (.s (.int .i64 1))) h6)
      (oCmp .lss a0 a1 fun x9 =>
      oCond x9 (finish objs.length (.ok (.s (.int .i64 (-1)))) h6)
      (oCmp .gtr a0 a1 fun x10 =>
      oCond x10 (finish objs.length (.ok (.s (.int .i64 1))) h6)
      (finish objs.length (.ok (.s (.int .i64 0))) h6))))
| _ => none

/-- bailey/graph.place$1 -/
def graph_place_c1 : CallFn := fun args objs =>
match args with
| [a0, a1] =>
oNew none (some 26) a0 objs fun x1 h2 =>
      oFieldA 0 x1 fun x3 =>
      oLoad none x3 h2 fun x4 =>
      oLend cmp_Compare_uint64 [x4, a1] h2 (fun v7 h8 => finish objs.length (.pan v7) h8) fun w9 h10 => oFrz w9 h10 fun x5 h6 =>
      finish objs.length (.ok x5) h6
| _ => none

def En_graph_place : String → CallFn := fun n => if n = "bailey/graph.place$1" then graph_place_c1 else (fun _ _ => none)

/-- bailey/graph.place -/
def graph_place : CallFn := fun args objs =>
match args with
| [a0, a1] =>
oLend (slices_BinarySearchFunc_Sapi_Thing_api_Thing_uint64 (En_graph_place)) [a0, a1, (.fn "bailey/graph.place$1" [])] objs (fun v3 h4 => finish objs.length (.pan v3) h4) fun w7 h8 => oFrz w7 h8 fun x1 h2 =>
      oExtract 0 x1 fun x5 =>
      oExtract 1 x1 fun x6 =>
      finish objs.length (.ok (.tup [x5, x6])) h2
| _ => none

/-- bailey/thing.Copy -/
def thing_Copy : CallFn := fun args objs =>
match args with
| [a0] =>
oNew none (some 26) a0 objs fun x1 h2 =>
      oNew none (some 26) (.agg [.s (.int .u64 0), .s (.int .i64 0), .s (.int .i64 0), .s (.slice none 0 0), .s (.int .i64 0), .s (.slice none 0 0), .s (.int .i64 0), .s (.int .i64 0), .s (.slice none 0 0), .s (.slice none 0 0), .s (.int .u64 0), .s (.int .u64 0), .s (.int .u64 0), .s (.int .u64 0), .s (.int .i64 0), .s (.int .i64 0), .s (.bool false), .s (.int .u64 0), .s (.int .u64 0), .s (.int .u64 0), .s (.int .u64 0), .s (.int .u64 0), .s (.int .u64 0), .s (.int .u64 0), .s (.int .u64 0), .s (.int .u64 0)]) h2 fun x3 h4 =>
      oFieldA 2 x1 fun x5 =>
      oFieldA 1 x5 fun x6 =>
      oLoadD h4.length [] none x6 h4 fun x7 h8 =>
      oCallF h4.length [] (primClone 2 16) [x7] h8 fun x9 h10 =>
      oFieldA 4 x1 fun x11 =>
      oFieldA 1 x11 fun x12 =>
      oLoadD h4.length [] none x12 h10 fun x13 h14 =>
      oCallF h4.length [] (primClone 2 16) [x13] h14 fun x15 h16 =>
      oFieldA 2 x1 fun x17 =>
      oFieldA 1 x17 fun x18 =>
      oStore none x18 x9 h16 fun h19 =>
      oFieldA 4 x1 fun x20 =>
      oFieldA 1 x20 fun x21 =>
      oStore none x21 x15 h19 fun h22 =>
      oFieldA 8 x1 fun x23 =>
      oLoadD h22.length [] none x23 h22 fun x24 h25 =>
      oCallF h22.length [] (primClone 2 16) [x24] h25 fun x26 h27 =>
      oFieldA 9 x1 fun x28 =>
      oLoadD h22.length [] none x28 h27 fun x29 h30 =>
      oCallF h22.length [] (primClone 1 1) [x29] h30 fun x31 h32 =>
      oFieldA 8 x1 fun x33 =>
      oStore none x33 x26 h32 fun h34 =>
      oFieldA 9 x1 fun x35 =>
      oStore none x35 x31 h34 fun h36 =>
      oLoad (some 26) x1 h36 fun x37 =>
      oStore (some 26) x3 x37 h36 fun h38 =>
      oLoad (some 26) x3 h38 fun r39 =>
      finish objs.length (.ok r39) h38
| _ => none

/-- bailey/graph.Find -/
def graph_Find : CallFn := fun args objs =>
match args with
| [a0, a1] =>
oNew none (some 26) (.agg [.s (.int .u64 0), .s (.int .i64 0), .s (.int .i64 0), .s (.slice none 0 0), .s (.int .i64 0), .s (.slice none 0 0), .s (.int .i64 0), .s (.int .i64 0), .s (.slice none 0 0), .s (.slice none 0 0), .s (.int .u64 0), .s (.int .u64 0), .s (.int .u64 0), .s (.int .u64 0), .s (.int .i64 0), .s (.int .i64 0), .s (.bool false), .s (.int .u64 0), .s (.int .u64 0), .s (.int .u64 0), .s (.int .u64 0), .s (.int .u64 0), .s (.int .u64 0), .s (.int .u64 0), .s (.int .u64 0), .s (.int .u64 0)]) objs fun x1 h2 =>
      oLend graph_place [a0, a1] h2 (fun v5 h6 => finish objs.length (.pan v5) h6) fun w22 h23 => oFrz w22 h23 fun x3 h4 =>
      oExtract 0 x3 fun x7 =>
      oExtract 1 x3 fun x8 =>
      oCond x8 (oIdxA 26 a0 x7 fun x9 =>
      oLoad (some 26) x9 h4 fun x10 =>
      oLend thing_Copy [x10] h4 (fun v13 h14 => finish objs.length (.pan v13) h14) fun w17 h18 => oFrz w17 h18 fun x11 h12 =>
      oStore (some 26) x1 x11 h12 fun h15 =>
      oLoad (some 26) x1 h15 fun r16 =>
      finish objs.length (.ok (.tup [r16, (.s (.bool true))])) h15)
      (oBuildP [.s (.int .u64 0), .s (.int .i64 0), .s (.int .i64 0), .s (.slice none 0 0), .s (.int .i64 0), .s (.slice none 0 0), .s (.int .i64 0), .s (.int .i64 0), .s (.slice none 0 0), .s (.slice none 0 0), .s (.int .u64 0), .s (.int .u64 0), .s (.int .u64 0), .s (.int .u64 0), .s (.int .i64 0), .s (.int .i64 0), .s (.bool false), .s (.int .u64 0), .s (.int .u64 0), .s (.int .u64 0), .s (.int .u64 0), .s (.int .u64 0), .s (.int .u64 0), .s (.int .u64 0), .s (.int .u64 0), .s (.int .u64 0)] [] fun x19 =>
      oStore (some 26) x1 x19 h4 fun h20 =>
      oLoad (some 26) x1 h20 fun r21 =>
      finish objs.length (.ok (.tup [r21, (.s (.bool false))])) h20)
| _ => none

/-- bailey/kern.check -/
def kern_check : CallFn := fun args objs =>
match args with
| [a0, a1] =>
oNot a0 fun x1 =>
      oCond x1 (none)
      (finish objs.length (.ok (.s (.tuple #[]))) objs)
| _ => none

/-- (*bailey/kern.act).find -/
def kern_act_find : CallFn := fun args objs =>
match args with
| [a0, a1] =>
oNew none (some 26) (.agg [.s (.int .u64 0), .s (.int .i64 0), .s (.int .i64 0), .s (.slice none 0 0), .s (.int .i64 0), .s (.slice none 0 0), .s (.int .i64 0), .s (.int .i64 0), .s (.slice none 0 0), .s (.slice none 0 0), .s (.int .u64 0), .s (.int .u64 0), .s (.int .u64 0), .s (.int .u64 0), .s (.int .i64 0), .s (.int .i64 0), .s (.bool false), .s (.int .u64 0), .s (.int .u64 0), .s (.int .u64 0), .s (.int .u64 0), .s (.int .u64 0), .s (.int .u64 0), .s (.int .u64 0), .s (.int .u64 0), .s (.int .u64 0)]) objs fun x1 h2 =>
      oNilCheck a0 fun x3 =>
      oFieldA 12 x3 fun x4 =>
      oLoad none x4 h2 fun x5 =>
      oLend graph_Find [x5, a1] h2 (fun v8 h9 => finish objs.length (.pan v8) h9) fun w18 h19 => oFrz w18 h19 fun x6 h7 =>
      oExtract 0 x6 fun x10 =>
      oExtract 1 x6 fun x11 =>
      oNew none (some 26) (.agg [.s (.int .u64 0), .s (.int .i64 0), .s (.int .i64 0), .s (.slice none 0 0), .s (.int .i64 0), .s (.slice none 0 0), .s (.int .i64 0), .s (.int .i64 0), .s (.slice none 0 0), .s (.slice none 0 0), .s (.int .u64 0), .s (.int .u64 0), .s (.int .u64 0), .s (.int .u64 0), .s (.int .i64 0), .s (.int .i64 0), .s (.bool false), .s (.int .u64 0), .s (.int .u64 0), .s (.int .u64 0), .s (.int .u64 0), .s (.int .u64 0), .s (.int .u64 0), .s (.int .u64 0), .s (.int .u64 0), .s (.int .u64 0)]) h7 fun x12 h13 =>
      oStore (some 26) x12 x10 h13 fun h14 =>
      oLoad (some 26) x12 h14 fun x15 =>
      oStore (some 26) x1 x15 h14 fun h16 =>
      oLoad (some 26) x1 h16 fun r17 =>
      finish objs.length (.ok r17) h16
| _ => none

/-- bailey/gate.Who -/
def gate_Who : CallFn := fun args objs =>
match args with
| [a0] =>
oNew none (some 26) a0 objs fun x1 h2 =>
      oNew none (some 4) (.agg [.s (.int .i64 0), .s (.slice none 0 0), .s (.int .i64 0), .s (.slice none 0 0)]) h2 fun x3 h4 =>
      oFieldA 2 x1 fun x5 =>
      oLoad (some 2) x5 h4 fun x6 =>
      oFieldA 4 x1 fun x7 =>
      oLoad (some 2) x7 h4 fun x8 =>
      oBuildP [.s (.int .i64 0), .s (.slice none 0 0), .s (.int .i64 0), .s (.slice none 0 0)] [(0, (some 2), x6), (2, (some 2), x8)] fun x9 =>
      oStore (some 4) x3 x9 h4 fun h10 =>
      oLoad (some 4) x3 h10 fun r11 =>
      finish objs.length (.ok r11) h10
| _ => none

/-- bailey/label.turn$1 -/
def label_turn_c1 : CallFn := fun args objs =>
match args with
| [a0, a1, a2, a3] =>
oLoad none a2 objs fun x1 =>
      oCmp .eql a0 x1 fun x2 =>
      oCond x2 (oLoad none a3 objs fun x3 =>
      finish objs.length (.ok x3) objs)
      (finish objs.length (.ok a0) objs)
| _ => none

def slices_Grow_Sapi_Cat_api_Cat_k1 (objs : Heap) : Ex → List A → Heap → Option (Out × Heap) := fun e16 vs14 h15 =>
      (match e16 with
  | .normal => finish objs.length (.ok (vs14.getD 0 .any)) h15
  | .exit i17 => none
  | .ret => finish objs.length (.ok (.s (.slice none 0 0))) h15
  | .panic v18 => finish objs.length (.pan v18) h15)

def slices_Grow_Sapi_Cat_api_Cat_k2 (a0 : A) (a1 : A) (objs : Heap) : Ex → List A → Heap → Option (Out × Heap) := fun e4 vs2 h3 =>
      (match e4 with
  | .normal => oJoin (oCap a0 fun x7 =>
      oLen a0 fun x8 =>
      oAr .sub x7 x8 fun x9 =>
      oAr .sub a1 x9 fun x10 =>
      oCmp .gtr x10 (.s (.int .i64 0)) fun x11 =>
      oCond x11 (oCap a0 fun x12 =>
      oSlice 2 a0 none (some x12) fun x13 =>
      none)
      ((trim true h3.length [a0] h3).map fun p => (Ex.normal, p.1, p.2))) (slices_Grow_Sapi_Cat_api_Cat_k1 objs)
  | .exit i5 => none
  | .ret => finish objs.length (.ok (.s (.slice none 0 0))) h3
  | .panic v6 => finish objs.length (.pan v6) h3)

/-- slices.Grow[[]bailey/api.Cat,bailey/api.Cat] -/
def slices_Grow_Sapi_Cat_api_Cat : CallFn := fun args objs =>
match args with
| [a0, a1] =>
oJoin (oCmp .lss a1 (.s (.int .i64 0)) fun x1 =>
      oCond x1 (none)
      ((trim true objs.length [] objs).map fun p => (Ex.normal, p.1, p.2))) (slices_Grow_Sapi_Cat_api_Cat_k2 a0 a1 objs)
| _ => none

def slices_Concat_Sapi_Cat_api_Cat_k1 (s2 : List A × Heap) (objs : Heap) : Ex → List A → Heap → Option ((List A × Heap) ⊕ (Ex × List A × Heap)) := fun e11 vs9 h10 =>
      (match e11 with
  | .normal => oAr .add (s2.1.getD 1 .any) (.s (.int .i64 1)) fun x14 =>
      (trim true objs.length [(vs9.getD 0 .any), x14] h10).map .inl
  | .exit i12 => (trim true objs.length [(vs9.getD 0 .any)] h10).map fun p => .inr (Ex.exit i12, p.1, p.2)
  | .ret => (trim true objs.length [(vs9.getD 0 .any)] h10).map fun p => .inr (Ex.ret, p.1, p.2)
  | .panic v13 => some (.inr (Ex.panic v13, [.any], h10)))

def slices_Concat_Sapi_Cat_api_Cat_l2 (x1 : A) (a0 : A) (objs : Heap) : List A × Heap → Option ((List A × Heap) ⊕ (Ex × List A × Heap)) := fun s2 =>
      oCmp .lss (s2.1.getD 1 .any) x1 fun x3 =>
      oCond x3 (oJoin (oIdxA 1 a0 (s2.1.getD 1 .any) fun x4 =>
      oLoad none x4 s2.2 fun x5 =>
      oLen x5 fun x6 =>
      oAr .add (s2.1.getD 0 .any) x6 fun x7 =>
      oCmp .lss x7 (.s (.int .i64 0)) fun x8 =>
      oCond x8 (none)
      ((trim true s2.2.length [x7] s2.2).map fun p => (Ex.normal, p.1, p.2))) (slices_Concat_Sapi_Cat_api_Cat_k1 s2 objs))
      ((trim true objs.length [(s2.1.getD 0 .any)] s2.2).map fun p => .inr (Ex.exit 0, p.1, p.2))

def slices_Concat_Sapi_Cat_api_Cat_l3 (x24 : A) (a0 : A) (h21 : Heap) : List A × Heap → Option ((List A × Heap) ⊕ (Ex × List A × Heap)) := fun s25 =>
      oCmp .lss (s25.1.getD 1 .any) x24 fun x26 =>
      oCond x26 (oIdxA 1 a0 (s25.1.getD 1 .any) fun x27 =>
      oLoad none x27 s25.2 fun x28 =>
      oAppend none 2 16 (s25.1.getD 0 .any) x28 s25.2 fun x29 h30 =>
      oAr .add (s25.1.getD 1 .any) (.s (.int .i64 1)) fun x31 =>
      (trim true h21.length [x29, x31] h30).map .inl)
      ((trim true h21.length [(s25.1.getD 0 .any)] s25.2).map fun p => .inr (Ex.exit 2, p.1, p.2))

def slices_Concat_Sapi_Cat_api_Cat_k4 (objs : Heap) : Ex → List A → Heap → Option (Out × Heap) := fun e32 vs33 h34 =>
      (match e32 with
  | .normal => none
  | .exit i35 => if i35 = 2 then finish objs.length (.ok (vs33.getD 0 .any)) h34 else none
  | .ret => finish objs.length (.ok (.s (.slice none 0 0))) h34
  | .panic v36 => finish objs.length (.pan v36) h34)

def slices_Concat_Sapi_Cat_api_Cat_k5 (objs : Heap) (a0 : A) : Ex → List A → Heap → Option (Out × Heap) := fun e15 vs16 h17 =>
      (match e15 with
  | .normal => none
  | .exit i18 => if i18 = 0 then oCall slices_Grow_Sapi_Cat_api_Cat [(.s (.slice none 0 0)), (vs16.getD 0 .any)] h17 (fun v22 h23 => finish objs.length (.pan v22) h23) fun x20 h21 =>
      oLen a0 fun x24 =>
      oLoop (slices_Concat_Sapi_Cat_api_Cat_l3 x24 a0 h21) ([x20, (.s (.int .i64 0))], h21) (slices_Concat_Sapi_Cat_api_Cat_k4 objs) else none
  | .ret => finish objs.length (.ok (.s (.slice none 0 0))) h17
  | .panic v19 => finish objs.length (.pan v19) h17)

/-- slices.Concat[[]bailey/api.Cat,bailey/api.Cat] -/
def slices_Concat_Sapi_Cat_api_Cat : CallFn := fun args objs =>
match args with
| [a0] =>
oLen a0 fun x1 =>
      oLoop (slices_Concat_Sapi_Cat_api_Cat_l2 x1 a0 objs) ([(.s (.int .i64 0)), (.s (.int .i64 0))], objs) (slices_Concat_Sapi_Cat_api_Cat_k5 objs a0)
| _ => none

def label_Level_l1 (x5 : A) (x4 : A) (a1 : A) (h2 : Heap) : List A × Heap → Option ((List A × Heap) ⊕ (Ex × List A × Heap)) := fun s6 =>
      oCmp .lss (s6.1.getD 0 .any) x5 fun x7 =>
      oCond x7 (oIdxA 2 x4 (s6.1.getD 0 .any) fun x8 =>
      oLoad (some 2) x8 s6.2 fun x9 =>
      oNew none (some 2) (.agg [.s (.int .u64 0), .s (.int .i64 0)]) s6.2 fun x10 h11 =>
      oStore (some 2) x10 x9 h11 fun h12 =>
      oFieldA 0 x10 fun x13 =>
      oLoad none x13 h12 fun x14 =>
      oCmp .eql x14 a1 fun x15 =>
      oCond x15 (oFieldA 1 x10 fun x16 =>
      oLoad none x16 h12 fun x17 =>
      (trim true h2.length [x17] h12).map fun p => .inr (Ex.ret, p.1, p.2))
      (oAr .add (s6.1.getD 0 .any) (.s (.int .i64 1)) fun x18 =>
      (trim true h2.length [x18] h12).map .inl))
      ((trim true h2.length [.any] s6.2).map fun p => .inr (Ex.exit 0, p.1, p.2))

def label_Level_k2 (x1 : A) (objs : Heap) : Ex → List A → Heap → Option (Out × Heap) := fun e19 vs20 h21 =>
      (match e19 with
  | .normal => none
  | .exit i22 => if i22 = 0 then oFieldA 0 x1 fun x24 =>
      oLoad none x24 h21 fun x25 =>
      finish objs.length (.ok x25) h21 else none
  | .ret => finish objs.length (.ok (vs20.getD 0 .any)) h21
  | .panic v23 => finish objs.length (.pan v23) h21)

/-- bailey/label.Level -/
def label_Level : CallFn := fun args objs =>
match args with
| [a0, a1] =>
oNew none (some 2) a0 objs fun x1 h2 =>
      oFieldA 1 x1 fun x3 =>
      oLoad none x3 h2 fun x4 =>
      oLen x4 fun x5 =>
      oLoop (label_Level_l1 x5 x4 a1 h2) ([(.s (.int .i64 0))], h2) (label_Level_k2 x1 objs)
| _ => none

def slices_insertionSortCmpFunc_api_Cat_k1 (s4 : List A × Heap) : Ex → List A → Heap → Option (Ex × List A × Heap) := fun e20 vs18 h19 =>
      (match e20 with
  | .normal => oCond (vs18.getD 0 .any) ((trim true s4.2.length [(vs18.getD 0 .any)] h19).map fun p => (Ex.normal, p.1, p.2))
      ((trim true s4.2.length [(vs18.getD 0 .any)] h19).map fun p => (Ex.exit 2, p.1, p.2))
  | .exit i21 => (trim true s4.2.length [(vs18.getD 0 .any)] h19).map fun p => (Ex.exit i21, p.1, p.2)
  | .ret => (trim true s4.2.length [(vs18.getD 0 .any)] h19).map fun p => (Ex.ret, p.1, p.2)
  | .panic v22 => some (Ex.panic v22, [], h19))

def slices_insertionSortCmpFunc_api_Cat_k2 (s4 : List A × Heap) (a0 : A) (s2 : List A × Heap) : Ex → List A → Heap → Option ((List A × Heap) ⊕ (Ex × List A × Heap)) := fun e25 vs23 h24 =>
      (match e25 with
  | .normal => oAr .sub (s4.1.getD 0 .any) (.s (.int .i64 1)) fun x28 =>
      oAr .sub (s4.1.getD 0 .any) (.s (.int .i64 1)) fun x29 =>
      oIdxA 2 a0 x29 fun x30 =>
      oLoadD h24.length [] (some 2) x30 h24 fun x31 h32 =>
      oIdxA 2 a0 (s4.1.getD 0 .any) fun x33 =>
      oLoadD h24.length [] (some 2) x33 h32 fun x34 h35 =>
      oIdxA 2 a0 (s4.1.getD 0 .any) fun x36 =>
      oStore (some 2) x36 x31 h35 fun h37 =>
      oIdxA 2 a0 x28 fun x38 =>
      oStore (some 2) x38 x34 h37 fun h39 =>
      oAr .sub (s4.1.getD 0 .any) (.s (.int .i64 1)) fun x40 =>
      (trim true s2.2.length [x40] h39).map .inl
  | .exit i26 => (trim true s2.2.length [] h24).map fun p => .inr (Ex.exit i26, p.1, p.2)
  | .ret => (trim true s2.2.length [] h24).map fun p => .inr (Ex.ret, p.1, p.2)
  | .panic v27 => some (.inr (Ex.panic v27, [], h24)))

def slices_insertionSortCmpFunc_api_Cat_l3 (En : String → CallFn) (a1 : A) (a0 : A) (a3 : A) (s2 : List A × Heap) : List A × Heap → Option ((List A × Heap) ⊕ (Ex × List A × Heap)) := fun s4 =>
      oJoin (oJoin (oCmp .gtr (s4.1.getD 0 .any) a1 fun x5 =>
      oGuard x5 true (fun _ => oIdxA 2 a0 (s4.1.getD 0 .any) fun x6 =>
      oLoadD s4.2.length [] (some 2) x6 s4.2 fun x7 h8 =>
      oAr .sub (s4.1.getD 0 .any) (.s (.int .i64 1)) fun x9 =>
      oIdxA 2 a0 x9 fun x10 =>
      oLoadD s4.2.length [] (some 2) x10 h8 fun x11 h12 =>
      oCallVF s4.2.length [] En a3 [x7, x11] h12 fun w16 h17 => oFrz w16 h17 fun x13 h14 =>
      oCmp .lss x13 (.s (.int .i64 0)) fun x15 =>
      (trim true s4.2.length [x15] h14).map fun p => (Ex.normal, p.1, p.2))
      (fun _ => (trim true s4.2.length [(.s (.bool false))] s4.2).map fun p => (Ex.normal, p.1, p.2))) (slices_insertionSortCmpFunc_api_Cat_k1 s4)) (slices_insertionSortCmpFunc_api_Cat_k2 s4 a0 s2)

def slices_insertionSortCmpFunc_api_Cat_k4 (s2 : List A × Heap) (objs : Heap) : Ex → List A → Heap → Option ((List A × Heap) ⊕ (Ex × List A × Heap)) := fun e41 vs42 h43 =>
      (match e41 with
  | .normal => none
  | .exit i44 => if i44 = 2 then oAr .add (s2.1.getD 0 .any) (.s (.int .i64 1)) fun x46 =>
      (trim true objs.length [x46] h43).map .inl else if i44 = 1 then oAr .add (s2.1.getD 0 .any) (.s (.int .i64 1)) fun x47 =>
      (trim true objs.length [x47] h43).map .inl else (trim true objs.length [] h43).map fun p => .inr (Ex.exit i44, p.1, p.2)
  | .ret => (trim true objs.length [] h43).map fun p => .inr (Ex.ret, p.1, p.2)
  | .panic v45 => some (.inr (Ex.panic v45, [], h43)))

def slices_insertionSortCmpFunc_api_Cat_l5 (En : String → CallFn) (a2 : A) (a1 : A) (a0 : A) (a3 : A) (objs : Heap) : List A × Heap → Option ((List A × Heap) ⊕ (Ex × List A × Heap)) := fun s2 =>
      oCmp .lss (s2.1.getD 0 .any) a2 fun x3 =>
      oCond x3 (oLoop (slices_insertionSortCmpFunc_api_Cat_l3 En a1 a0 a3 s2) ([(s2.1.getD 0 .any)], s2.2) (slices_insertionSortCmpFunc_api_Cat_k4 s2 objs))
      ((trim true objs.length [] s2.2).map fun p => .inr (Ex.exit 0, p.1, p.2))

def slices_insertionSortCmpFunc_api_Cat_k6 (objs : Heap) : Ex → List A → Heap → Option (Out × Heap) := fun e48 vs49 h50 =>
      (match e48 with
  | .normal => none
  | .exit i51 => if i51 = 0 then finish objs.length (.ok (.s (.tuple #[]))) h50 else none
  | .ret => finish objs.length (.ok (.s (.tuple #[]))) h50
  | .panic v52 => finish objs.length (.pan v52) h50)

/-- slices.insertionSortCmpFunc[bailey/api.Cat] -/
def slices_insertionSortCmpFunc_api_Cat (En : String → CallFn) : CallFn := fun args objs =>
match args with
| [a0, a1, a2, a3] =>
oAr .add a1 (.s (.int .i64 1)) fun x1 =>
      oLoop (slices_insertionSortCmpFunc_api_Cat_l5 En a2 a1 a0 a3 objs) ([x1], objs) (slices_insertionSortCmpFunc_api_Cat_k6 objs)
| _ => none

def slices_stableCmpFunc_api_Cat_l1 (En : String → CallFn) (a1 : A) (a0 : A) (a2 : A) (objs : Heap) : List A × Heap → Option ((List A × Heap) ⊕ (Ex × List A × Heap)) := fun s1 =>
      oCmp .leq (s1.1.getD 1 .any) a1 fun x2 =>
      oCond x2 (oCall (slices_insertionSortCmpFunc_api_Cat En) [a0, (s1.1.getD 0 .any), (s1.1.getD 1 .any), a2] s1.2 (fun v5 h6 => some (.inr (Ex.panic v5, [.any], h6))) fun w8 h9 => oFrz w8 h9 fun x3 h4 =>
      oAr .add (s1.1.getD 1 .any) (.s (.int .i64 20)) fun x7 =>
      (trim true objs.length [(s1.1.getD 1 .any), x7] h4).map .inl)
      ((trim true objs.length [(s1.1.getD 0 .any)] s1.2).map fun p => .inr (Ex.exit 0, p.1, p.2))

def slices_stableCmpFunc_api_Cat_l2 (a1 : A) (s19 : List A × Heap) (a0 : A) (a2 : A) : List A × Heap → Option ((List A × Heap) ⊕ (Ex × List A × Heap)) := fun s22 =>
      oCmp .leq (s22.1.getD 1 .any) a1 fun x23 =>
      oCond x23 (oAr .add (s22.1.getD 0 .any) (s19.1.getD 0 .any) fun x24 =>
      oCall (fun _ _ => none) [a0, (s22.1.getD 0 .any), x24, (s22.1.getD 1 .any), a2] s22.2 (fun v27 h28 => some (.inr (Ex.panic v27, [.any], h28))) fun w31 h32 => oFrz w31 h32 fun x25 h26 =>
      oAr .mul (.s (.int .i64 2)) (s19.1.getD 0 .any) fun x29 =>
      oAr .add (s22.1.getD 1 .any) x29 fun x30 =>
      (trim true s19.2.length [(s22.1.getD 1 .any), x30] h26).map .inl)
      ((trim true s19.2.length [(s22.1.getD 0 .any)] s22.2).map fun p => .inr (Ex.exit 4, p.1, p.2))

def slices_stableCmpFunc_api_Cat_k3 (s19 : List A × Heap) (h16 : Heap) : Ex → List A → Heap → Option ((List A × Heap) ⊕ (Ex × List A × Heap)) := fun e48 vs46 h47 =>
      (match e48 with
  | .normal => oAr .mul (s19.1.getD 0 .any) (.s (.int .i64 2)) fun x51 =>
      (trim true h16.length [x51] h47).map .inl
  | .exit i49 => if i49 = 3 then (trim true h16.length [(s19.1.getD 0 .any)] h47).map .inl else (trim true h16.length [] h47).map fun p => .inr (Ex.exit i49, p.1, p.2)
  | .ret => (trim true h16.length [] h47).map fun p => .inr (Ex.ret, p.1, p.2)
  | .panic v50 => some (.inr (Ex.panic v50, [], h47)))

def slices_stableCmpFunc_api_Cat_k4 (s19 : List A × Heap) (a1 : A) (a0 : A) (a2 : A) (h16 : Heap) : Ex → List A → Heap → Option ((List A × Heap) ⊕ (Ex × List A × Heap)) := fun e33 vs34 h35 =>
      (match e33 with
  | .normal => none
  | .exit i36 => if i36 = 4 then oJoin (oAr .add (vs34.getD 0 .any) (s19.1.getD 0 .any) fun x38 =>
      oCmp .lss x38 a1 fun x39 =>
      oCond x39 (oCall (fun _ _ => none) [a0, (vs34.getD 0 .any), x38, a1, a2] h35 (fun v42 h43 => some (Ex.panic v42, [], h43)) fun w44 h45 => oFrz w44 h45 fun x40 h41 =>
      (trim true h35.length [] h41).map fun p => (Ex.normal, p.1, p.2))
      ((trim true h35.length [] h35).map fun p => (Ex.normal, p.1, p.2))) (slices_stableCmpFunc_api_Cat_k3 s19 h16) else if i36 = 3 then (trim true h16.length [(s19.1.getD 0 .any)] h35).map .inl else (trim true h16.length [] h35).map fun p => .inr (Ex.exit i36, p.1, p.2)
  | .ret => (trim true h16.length [] h35).map fun p => .inr (Ex.ret, p.1, p.2)
  | .panic v37 => some (.inr (Ex.panic v37, [], h35)))

def slices_stableCmpFunc_api_Cat_l5 (a1 : A) (a0 : A) (a2 : A) (h16 : Heap) : List A × Heap → Option ((List A × Heap) ⊕ (Ex × List A × Heap)) := fun s19 =>
      oCmp .lss (s19.1.getD 0 .any) a1 fun x20 =>
      oCond x20 (oAr .mul (.s (.int .i64 2)) (s19.1.getD 0 .any) fun x21 =>
      oLoop (slices_stableCmpFunc_api_Cat_l2 a1 s19 a0 a2) ([(.s (.int .i64 0)), x21], s19.2) (slices_stableCmpFunc_api_Cat_k4 s19 a1 a0 a2 h16))
      ((trim true h16.length [] s19.2).map fun p => .inr (Ex.exit 2, p.1, p.2))

def slices_stableCmpFunc_api_Cat_k6 (objs : Heap) : Ex → List A → Heap → Option (Out × Heap) := fun e52 vs53 h54 =>
      (match e52 with
  | .normal => none
  | .exit i55 => if i55 = 2 then finish objs.length (.ok (.s (.tuple #[]))) h54 else none
  | .ret => finish objs.length (.ok (.s (.tuple #[]))) h54
  | .panic v56 => finish objs.length (.pan v56) h54)

def slices_stableCmpFunc_api_Cat_k7 (En : String → CallFn) (a0 : A) (a1 : A) (a2 : A) (objs : Heap) : Ex → List A → Heap → Option (Out × Heap) := fun e10 vs11 h12 =>
      (match e10 with
  | .normal => none
  | .exit i13 => if i13 = 0 then oCall (slices_insertionSortCmpFunc_api_Cat En) [a0, (vs11.getD 0 .any), a1, a2] h12 (fun v17 h18 => finish objs.length (.pan v17) h18) fun w57 h58 => oFrz w57 h58 fun x15 h16 =>
      oLoop (slices_stableCmpFunc_api_Cat_l5 a1 a0 a2 h16) ([(.s (.int .i64 20))], h16) (slices_stableCmpFunc_api_Cat_k6 objs) else none
  | .ret => finish objs.length (.ok (.s (.tuple #[]))) h12
  | .panic v14 => finish objs.length (.pan v14) h12)

/-- slices.stableCmpFunc[bailey/api.Cat] -/
def slices_stableCmpFunc_api_Cat (En : String → CallFn) : CallFn := fun args objs =>
match args with
| [a0, a1, a2] =>
oLoop (slices_stableCmpFunc_api_Cat_l1 En a1 a0 a2 objs) ([(.s (.int .i64 0)), (.s (.int .i64 20))], objs) (slices_stableCmpFunc_api_Cat_k7 En a0 a1 a2 objs)
| _ => none

/-- slices.SortStableFunc[[]bailey/api.Cat,bailey/api.Cat] -/
def slices_SortStableFunc_Sapi_Cat_api_Cat (En : String → CallFn) : CallFn := fun args objs =>
match args with
| [a0, a1] =>
oLen a0 fun x1 =>
      oCall (slices_stableCmpFunc_api_Cat En) [a0, x1, a1] objs (fun v4 h5 => finish objs.length (.pan v4) h5) fun w6 h7 => oFrz w6 h7 fun x2 h3 =>
      finish objs.length (.ok (.s (.tuple #[]))) h3
| _ => none

/-- bailey/label.Make$1 -/
def label_Make_c1 : CallFn := fun args objs =>
match args with
| [a0, a1] =>
oNew none (some 2) a0 objs fun x1 h2 =>
      oNew none (some 2) a1 h2 fun x3 h4 =>
      oFieldA 0 x1 fun x5 =>
      oLoad none x5 h4 fun x6 =>
      oFieldA 0 x3 fun x7 =>
      oLoad none x7 h4 fun x8 =>
      oLend cmp_Compare_uint64 [x6, x8] h4 (fun v11 h12 => finish objs.length (.pan v11) h12) fun w13 h14 => oFrz w13 h14 fun x9 h10 =>
      finish objs.length (.ok x9) h10
| _ => none

def slices_CompactFunc_Sapi_Cat_api_Cat_k1 (s16 : List A × Heap) (h14 : Heap) : Ex → List A → Heap → Option ((List A × Heap) ⊕ (Ex × List A × Heap)) := fun e38 vs36 h37 =>
      (match e38 with
  | .normal => oAr .add (s16.1.getD 1 .any) (.s (.int .i64 1)) fun x41 =>
      (trim true h14.length [(vs36.getD 0 .any), x41] h37).map .inl
  | .exit i39 => (trim true h14.length [(vs36.getD 0 .any)] h37).map fun p => .inr (Ex.exit i39, p.1, p.2)
  | .ret => (trim true h14.length [(vs36.getD 0 .any)] h37).map fun p => .inr (Ex.ret, p.1, p.2)
  | .panic v40 => some (.inr (Ex.panic v40, [.any], h37)))

def slices_CompactFunc_Sapi_Cat_api_Cat_l2 (En : String → CallFn) (x15 : A) (a1 : A) (a0 : A) (h14 : Heap) : List A × Heap → Option ((List A × Heap) ⊕ (Ex × List A × Heap)) := fun s16 =>
      oLen x15 fun x17 =>
      oCmp .lss (s16.1.getD 1 .any) x17 fun x18 =>
      oCond x18 (oJoin (oIdxA 2 x15 (s16.1.getD 1 .any) fun x19 =>
      oLoadD s16.2.length [] (some 2) x19 s16.2 fun x20 h21 =>
      oAr .sub (s16.1.getD 1 .any) (.s (.int .i64 1)) fun x22 =>
      oIdxA 2 x15 x22 fun x23 =>
      oLoadD s16.2.length [] (some 2) x23 h21 fun x24 h25 =>
      oCallVF s16.2.length [] En a1 [x20, x24] h25 fun w34 h35 => oFrz w34 h35 fun x26 h27 =>
      oNot x26 fun x28 =>
      oCond x28 (oIdxA 2 x15 (s16.1.getD 1 .any) fun x29 =>
      oLoad (some 2) x29 h27 fun x30 =>
      oIdxA 2 a0 (s16.1.getD 0 .any) fun x31 =>
      oStore (some 2) x31 x30 h27 fun h32 =>
      oAr .add (s16.1.getD 0 .any) (.s (.int .i64 1)) fun x33 =>
      (trim true s16.2.length [x33] h32).map fun p => (Ex.normal, p.1, p.2))
      ((trim true s16.2.length [(s16.1.getD 0 .any)] h27).map fun p => (Ex.normal, p.1, p.2))) (slices_CompactFunc_Sapi_Cat_api_Cat_k1 s16 h14))
      ((trim true h14.length [(s16.1.getD 0 .any)] s16.2).map fun p => .inr (Ex.exit 2, p.1, p.2))

def slices_CompactFunc_Sapi_Cat_api_Cat_k3 (a0 : A) (objs : Heap) : Ex → List A → Heap → Option ((List A × Heap) ⊕ (Ex × List A × Heap)) := fun e42 vs43 h44 =>
      (match e42 with
  | .normal => none
  | .exit i45 => if i45 = 2 then oSlice 2 a0 (some (vs43.getD 0 .any)) none fun x47 =>
      none else if i45 = 1 then oAr .add (vs43.getD 0 .any) (.s (.int .i64 1)) fun x48 =>
      (trim true objs.length [x48] h44).map .inl else (trim true objs.length [.any] h44).map fun p => .inr (Ex.exit i45, p.1, p.2)
  | .ret => (trim true objs.length [.any] h44).map fun p => .inr (Ex.ret, p.1, p.2)
  | .panic v46 => some (.inr (Ex.panic v46, [.any], h44)))

def slices_CompactFunc_Sapi_Cat_api_Cat_l4 (En : String → CallFn) (a0 : A) (a1 : A) (objs : Heap) : List A × Heap → Option ((List A × Heap) ⊕ (Ex × List A × Heap)) := fun s3 =>
      oLen a0 fun x4 =>
      oCmp .lss (s3.1.getD 0 .any) x4 fun x5 =>
      oCond x5 (oIdxA 2 a0 (s3.1.getD 0 .any) fun x6 =>
      oLoadD s3.2.length [] (some 2) x6 s3.2 fun x7 h8 =>
      oAr .sub (s3.1.getD 0 .any) (.s (.int .i64 1)) fun x9 =>
      oIdxA 2 a0 x9 fun x10 =>
      oLoadD s3.2.length [] (some 2) x10 h8 fun x11 h12 =>
      oCallVF s3.2.length [] En a1 [x7, x11] h12 fun w50 h51 => oFrz w50 h51 fun x13 h14 =>
      oCond x13 (oSlice 2 a0 (some (s3.1.getD 0 .any)) none fun x15 =>
      oLoop (slices_CompactFunc_Sapi_Cat_api_Cat_l2 En x15 a1 a0 h14) ([(s3.1.getD 0 .any), (.s (.int .i64 1))], h14) (slices_CompactFunc_Sapi_Cat_api_Cat_k3 a0 objs))
      (oAr .add (s3.1.getD 0 .any) (.s (.int .i64 1)) fun x49 =>
      (trim true objs.length [x49] h14).map .inl))
      ((trim true objs.length [.any] s3.2).map fun p => .inr (Ex.exit 0, p.1, p.2))

def slices_CompactFunc_Sapi_Cat_api_Cat_k5 (objs : Heap) (a0 : A) : Ex → List A → Heap → Option (Out × Heap) := fun e52 vs53 h54 =>
      (match e52 with
  | .normal => none
  | .exit i55 => if i55 = 0 then finish objs.length (.ok a0) h54 else none
  | .ret => finish objs.length (.ok (vs53.getD 0 .any)) h54
  | .panic v56 => finish objs.length (.pan v56) h54)

/-- slices.CompactFunc[[]bailey/api.Cat,bailey/api.Cat] -/
def slices_CompactFunc_Sapi_Cat_api_Cat (En : String → CallFn) : CallFn := fun args objs =>
match args with
| [a0, a1] =>
oLen a0 fun x1 =>
      oCmp .lss x1 (.s (.int .i64 2)) fun x2 =>
      oCond x2 (finish objs.length (.ok a0) objs)
      (oLoop (slices_CompactFunc_Sapi_Cat_api_Cat_l4 En a0 a1 objs) ([(.s (.int .i64 1))], objs) (slices_CompactFunc_Sapi_Cat_api_Cat_k5 objs a0))
| _ => none

/-- bailey/label.Make$2 -/
def label_Make_c2 : CallFn := fun args objs =>
match args with
| [a0, a1] =>
oNew none (some 2) a0 objs fun x1 h2 =>
      oNew none (some 2) a1 h2 fun x3 h4 =>
      oFieldA 0 x1 fun x5 =>
      oLoad none x5 h4 fun x6 =>
      oFieldA 0 x3 fun x7 =>
      oLoad none x7 h4 fun x8 =>
      oCmp .eql x6 x8 fun x9 =>
      finish objs.length (.ok x9) h4
| _ => none

/-- bailey/label.Make$3 -/
def label_Make_c3 : CallFn := fun args objs =>
match args with
| [a0, a1] =>
oNew none (some 2) a0 objs fun x1 h2 =>
      oFieldA 1 x1 fun x3 =>
      oLoad none x3 h2 fun x4 =>
      oLoad none a1 h2 fun x5 =>
      oCmp .eql x4 x5 fun x6 =>
      finish objs.length (.ok x6) h2
| _ => none

def slices_IndexFunc_Sapi_Cat_api_Cat_l1 (En : String → CallFn) (x1 : A) (a0 : A) (a1 : A) (objs : Heap) : List A × Heap → Option ((List A × Heap) ⊕ (Ex × List A × Heap)) := fun s2 =>
      oCmp .lss (s2.1.getD 0 .any) x1 fun x3 =>
      oCond x3 (oIdxA 2 a0 (s2.1.getD 0 .any) fun x4 =>
      oLoad (some 2) x4 s2.2 fun x5 =>
      oLendV En a1 [x5] s2.2 (fun v8 h9 => some (.inr (Ex.panic v8, [.any], h9))) fun w11 h12 => oFrz w11 h12 fun x6 h7 =>
      oCond x6 ((trim true objs.length [(s2.1.getD 0 .any)] h7).map fun p => .inr (Ex.ret, p.1, p.2))
      (oAr .add (s2.1.getD 0 .any) (.s (.int .i64 1)) fun x10 =>
      (trim true objs.length [x10] h7).map .inl))
      ((trim true objs.length [.any] s2.2).map fun p => .inr (Ex.exit 0, p.1, p.2))

def slices_IndexFunc_Sapi_Cat_api_Cat_k2 (objs : Heap) : Ex → List A → Heap → Option (Out × Heap) := fun e13 vs14 h15 =>
      (match e13 with
  | .normal => none
  | .exit i16 => if i16 = 0 then finish objs.length (.ok (.s (.int .i64 (-1)))) h15 else none
  | .ret => finish objs.length (.ok (vs14.getD 0 .any)) h15
  | .panic v17 => finish objs.length (.pan v17) h15)

/-- slices.IndexFunc[[]bailey/api.Cat,bailey/api.Cat] -/
def slices_IndexFunc_Sapi_Cat_api_Cat (En : String → CallFn) : CallFn := fun args objs =>
match args with
| [a0, a1] =>
oLen a0 fun x1 =>
      oLoop (slices_IndexFunc_Sapi_Cat_api_Cat_l1 En x1 a0 a1 objs) ([(.s (.int .i64 0))], objs) (slices_IndexFunc_Sapi_Cat_api_Cat_k2 objs)
| _ => none

def slices_DeleteFunc_Sapi_Cat_api_Cat_k1 (s7 : List A × Heap) (h2 : Heap) : Ex → List A → Heap → Option ((List A × Heap) ⊕ (Ex × List A × Heap)) := fun e29 vs27 h28 =>
      (match e29 with
  | .normal => oAr .add (s7.1.getD 1 .any) (.s (.int .i64 1)) fun x32 =>
      (trim true h2.length [(vs27.getD 0 .any), x32] h28).map .inl
  | .exit i30 => (trim true h2.length [(vs27.getD 0 .any)] h28).map fun p => .inr (Ex.exit i30, p.1, p.2)
  | .ret => (trim true h2.length [(vs27.getD 0 .any)] h28).map fun p => .inr (Ex.ret, p.1, p.2)
  | .panic v31 => some (.inr (Ex.panic v31, [.any], h28)))

def slices_DeleteFunc_Sapi_Cat_api_Cat_l2 (En : String → CallFn) (a0 : A) (a1 : A) (h2 : Heap) : List A × Heap → Option ((List A × Heap) ⊕ (Ex × List A × Heap)) := fun s7 =>
      oLen a0 fun x8 =>
      oCmp .lss (s7.1.getD 1 .any) x8 fun x9 =>
      oCond x9 (oJoin (oIdxA 2 a0 (s7.1.getD 1 .any) fun x10 =>
      oLoad (some 2) x10 s7.2 fun x11 =>
      oNew none (some 2) (.agg [.s (.int .u64 0), .s (.int .i64 0)]) s7.2 fun x12 h13 =>
      oStore (some 2) x12 x11 h13 fun h14 =>
      oLoad (some 2) x12 h14 fun x15 =>
      oLendV En a1 [x15] h14 (fun v18 h19 => some (Ex.panic v18, [], h19)) fun w25 h26 => oFrz w25 h26 fun x16 h17 =>
      oNot x16 fun x20 =>
      oCond x20 (oLoad (some 2) x12 h17 fun x21 =>
      oIdxA 2 a0 (s7.1.getD 0 .any) fun x22 =>
      oStore (some 2) x22 x21 h17 fun h23 =>
      oAr .add (s7.1.getD 0 .any) (.s (.int .i64 1)) fun x24 =>
      (trim true s7.2.length [x24] h23).map fun p => (Ex.normal, p.1, p.2))
      ((trim true s7.2.length [(s7.1.getD 0 .any)] h17).map fun p => (Ex.normal, p.1, p.2))) (slices_DeleteFunc_Sapi_Cat_api_Cat_k1 s7 h2))
      ((trim true h2.length [(s7.1.getD 0 .any)] s7.2).map fun p => .inr (Ex.exit 0, p.1, p.2))

def slices_DeleteFunc_Sapi_Cat_api_Cat_k3 (a0 : A) (objs : Heap) : Ex → List A → Heap → Option (Out × Heap) := fun e33 vs34 h35 =>
      (match e33 with
  | .normal => none
  | .exit i36 => if i36 = 0 then oSlice 2 a0 (some (vs34.getD 0 .any)) none fun x38 =>
      none else none
  | .ret => finish objs.length (.ok (.s (.slice none 0 0))) h35
  | .panic v37 => finish objs.length (.pan v37) h35)

/-- slices.DeleteFunc[[]bailey/api.Cat,bailey/api.Cat] -/
def slices_DeleteFunc_Sapi_Cat_api_Cat (En : String → CallFn) : CallFn := fun args objs =>
match args with
| [a0, a1] =>
oLend (slices_IndexFunc_Sapi_Cat_api_Cat En) [a0, a1] objs (fun v3 h4 => finish objs.length (.pan v3) h4) fun w39 h40 => oFrz w39 h40 fun x1 h2 =>
      oCmp .eql x1 (.s (.int .i64 (-1))) fun x5 =>
      oCond x5 (finish objs.length (.ok a0) h2)
      (oAr .add x1 (.s (.int .i64 1)) fun x6 =>
      oLoop (slices_DeleteFunc_Sapi_Cat_api_Cat_l2 En a0 a1 h2) ([x1, x6], h2) (slices_DeleteFunc_Sapi_Cat_api_Cat_k3 a0 objs))
| _ => none

def En_label_Make : String → CallFn := fun n => if n = "bailey/label.Make$1" then label_Make_c1 else if n = "bailey/label.Make$2" then label_Make_c2 else if n = "bailey/label.Make$3" then label_Make_c3 else (fun _ _ => none)

/-- bailey/label.Make -/
def label_Make : CallFn := fun args objs =>
match args with
| [a0, a1] =>
oNew none none a0 objs fun x1 h2 =>
      oNew none (some 2) (.agg [.s (.int .i64 0), .s (.slice none 0 0)]) h2 fun x3 h4 =>
      oLend (primClone 2 16) [a1] h4 (fun v7 h8 => finish objs.length (.pan v7) h8) fun x5 h6 =>
      oCall (slices_SortStableFunc_Sapi_Cat_api_Cat (En_label_Make)) [x5, (.fn "bailey/label.Make$1" [])] h6 (fun v11 h12 => finish objs.length (.pan v11) h12) fun x9 h10 =>
      oCall (slices_CompactFunc_Sapi_Cat_api_Cat (En_label_Make)) [x5, (.fn "bailey/label.Make$2" [])] h10 (fun v15 h16 => finish objs.length (.pan v15) h16) fun x13 h14 =>
      oLoadD h14.length [] none x1 h14 fun x17 h18 =>
      oCallF h14.length [] (slices_DeleteFunc_Sapi_Cat_api_Cat (En_label_Make)) [x13, (.fn "bailey/label.Make$3" [x1])] h18 fun w24 h25 => oFrz w24 h25 fun x19 h20 =>
      oBuildP [.s (.int .i64 0), .s (.slice none 0 0)] [(0, none, x17), (1, none, x19)] fun x21 =>
      oStore (some 2) x3 x21 h20 fun h22 =>
      oLoad (some 2) x3 h22 fun r23 =>
      finish objs.length (.ok r23) h22
| _ => none

def label_merge_l1 (En : String → CallFn) (x17 : A) (x13 : A) (x1 : A) (x3 : A) (a2 : A) (h19 : Heap) : List A × Heap → Option ((List A × Heap) ⊕ (Ex × List A × Heap)) := fun s20 =>
      oCmp .lss (s20.1.getD 1 .any) x17 fun x21 =>
      oCond x21 (oIdxA 2 x13 (s20.1.getD 1 .any) fun x22 =>
      oLoad (some 2) x22 s20.2 fun x23 =>
      oNew none (some 2) (.agg [.s (.int .u64 0), .s (.int .i64 0)]) s20.2 fun x24 h25 =>
      oStore (some 2) x24 x23 h25 fun h26 =>
      oFieldA 0 x24 fun x27 =>
      oLoadD h26.length (wrL h26 [((s20.1.getD 0 .any), false)]) none x27 (h26 ++ List.replicate 2 .res) fun x28 h29 =>
      oLoadD h26.length (wrL h26 [((s20.1.getD 0 .any), false)]) (some 2) x1 h29 fun x30 h31 =>
      oFieldA 0 x24 fun x32 =>
      oLoadD h26.length (wrL h26 [((s20.1.getD 0 .any), false)]) none x32 h31 fun x33 h34 =>
      oCallF h26.length (wrL h26 [((s20.1.getD 0 .any), false)]) label_Level [x30, x33] h34 fun w56 h57 => oFrz w56 h57 fun x35 h36 =>
      oLoadD h26.length (wrL h26 [((s20.1.getD 0 .any), false)]) (some 2) x3 h36 fun x37 h38 =>
      oFieldA 0 x24 fun x39 =>
      oLoadD h26.length (wrL h26 [((s20.1.getD 0 .any), false)]) none x39 h38 fun x40 h41 =>
      oCallF h26.length (wrL h26 [((s20.1.getD 0 .any), false)]) label_Level [x37, x40] h41 fun w54 h55 => oFrz w54 h55 fun x42 h43 =>
      oCallVF h26.length (wrL h26 [((s20.1.getD 0 .any), false)]) En a2 [x35, x42] h43 fun w52 h53 => oFrz w52 h53 fun x44 h45 =>
      oBuildP [.s (.int .u64 0), .s (.int .i64 0)] [(0, none, x28), (1, none, x44)] fun x46 =>
      oNewSlice (some h26.length) 2 (asRows (some 2) [x46]) h45 fun x47 h48 =>
      oAppendD h26.length (wrL h26 [((s20.1.getD 0 .any), false)]) (h26.length + 1) 2 16 (s20.1.getD 0 .any) x47 h48 fun x49 h50 =>
      oAr .add (s20.1.getD 1 .any) (.s (.int .i64 1)) fun x51 =>
      (trim true h19.length [x49, x51] h50).map .inl)
      ((trim true h19.length [(s20.1.getD 0 .any)] s20.2).map fun p => .inr (Ex.exit 0, p.1, p.2))

def label_merge_k2 (En : String → CallFn) (x1 : A) (x3 : A) (a2 : A) (objs : Heap) (x5 : A) : Ex → List A → Heap → Option (Out × Heap) := fun e58 vs59 h60 =>
      (match e58 with
  | .normal => none
  | .exit i61 => if i61 = 0 then oFieldA 0 x1 fun x63 =>
      oLoad none x63 h60 fun x64 =>
      oFieldA 0 x3 fun x65 =>
      oLoad none x65 h60 fun x66 =>
      oLendV En a2 [x64, x66] h60 (fun v69 h70 => finish objs.length (.pan v69) h70) fun w79 h80 => oFrz w79 h80 fun x67 h68 =>
      oLend label_Make [x67, (vs59.getD 0 .any)] h68 (fun v73 h74 => finish objs.length (.pan v73) h74) fun w77 h78 => oFrz w77 h78 fun x71 h72 =>
      oStore (some 2) x5 x71 h72 fun h75 =>
      oLoad (some 2) x5 h75 fun r76 =>
      finish objs.length (.ok r76) h75 else none
  | .ret => oLoad (some 2) x5 h60 fun r81 =>
      finish objs.length (.ok r81) h60
  | .panic v62 => finish objs.length (.pan v62) h60)

/-- bailey/label.merge -/
def label_merge (En : String → CallFn) : CallFn := fun args objs =>
match args with
| [a0, a1, a2] =>
oNew none (some 2) a0 objs fun x1 h2 =>
      oNew none (some 2) a1 h2 fun x3 h4 =>
      oNew none (some 2) (.agg [.s (.int .i64 0), .s (.slice none 0 0)]) h4 fun x5 h6 =>
      oFieldA 1 x1 fun x7 =>
      oLoad none x7 h6 fun x8 =>
      oFieldA 1 x3 fun x9 =>
      oLoad none x9 h6 fun x10 =>
      oNewSlice none 1 (asRows none [x8, x10]) h6 fun x11 h12 =>
      oLend slices_Concat_Sapi_Cat_api_Cat [x11] h12 (fun v15 h16 => finish objs.length (.pan v15) h16) fun x13 h14 =>
      oLen x13 fun x17 =>
      oProm 2 (.s (.slice none 0 0)) h14 fun x18 h19 =>
      oLoop (label_merge_l1 En x17 x13 x1 x3 a2 h19) ([x18, (.s (.int .i64 0))], h19) (label_merge_k2 En x1 x3 a2 objs x5)
| _ => none

def En_label_turn : String → CallFn := fun n => if n = "bailey/label.turn$1" then label_turn_c1 else (fun _ _ => none)

/-- bailey/label.turn -/
def label_turn : CallFn := fun args objs =>
match args with
| [a0, a1, a2] =>
oNew none (some 2) a0 objs fun x1 h2 =>
      oNew none none a1 h2 fun x3 h4 =>
      oNew none none a2 h4 fun x5 h6 =>
      oNew none (some 2) (.agg [.s (.int .i64 0), .s (.slice none 0 0)]) h6 fun x7 h8 =>
      oLoad (some 2) x1 h8 fun x9 =>
      oLoad (some 2) x1 h8 fun x10 =>
      oLend (label_merge (En_label_turn)) [x9, x10, (.fn "bailey/label.turn$1" [x3, x5])] h8 (fun v13 h14 => finish objs.length (.pan v13) h14) fun w17 h18 => oFrz w17 h18 fun x11 h12 =>
      oStore (some 2) x7 x11 h12 fun h15 =>
      oLoad (some 2) x7 h15 fun r16 =>
      finish objs.length (.ok r16) h15
| _ => none

/-- bailey/label.Raise -/
def label_Raise : CallFn := fun args objs =>
match args with
| [a0] =>
oNew none (some 2) a0 objs fun x1 h2 =>
      oNew none (some 2) (.agg [.s (.int .i64 0), .s (.slice none 0 0)]) h2 fun x3 h4 =>
      oLoad (some 2) x1 h4 fun x5 =>
      oLend label_turn [x5, (.s (.int .i64 0)), (.s (.int .i64 5))] h4 (fun v8 h9 => finish objs.length (.pan v8) h9) fun w12 h13 => oFrz w12 h13 fun x6 h7 =>
      oStore (some 2) x3 x6 h7 fun h10 =>
      oLoad (some 2) x3 h10 fun r11 =>
      finish objs.length (.ok r11) h10
| _ => none

/-- bailey/label.Leq$1 -/
def label_Leq_c1 : CallFn := fun args objs =>
match args with
| [a0, a1, a2] =>
oNew none (some 2) a0 objs fun x1 h2 =>
      oLoadD h2.length [] (some 2) a1 h2 fun x3 h4 =>
      oFieldA 0 x1 fun x5 =>
      oLoadD h2.length [] none x5 h4 fun x6 h7 =>
      oCallF h2.length [] label_Level [x3, x6] h7 fun w20 h21 => oFrz w20 h21 fun x8 h9 =>
      oLoadD h2.length [] (some 2) a2 h9 fun x10 h11 =>
      oFieldA 0 x1 fun x12 =>
      oLoadD h2.length [] none x12 h11 fun x13 h14 =>
      oCallF h2.length [] label_Level [x10, x13] h14 fun w18 h19 => oFrz w18 h19 fun x15 h16 =>
      oCmp .gtr x8 x15 fun x17 =>
      finish objs.length (.ok x17) h16
| _ => none

/-- slices.ContainsFunc[[]bailey/api.Cat,bailey/api.Cat] -/
def slices_ContainsFunc_Sapi_Cat_api_Cat (En : String → CallFn) : CallFn := fun args objs =>
match args with
| [a0, a1] =>
oLend (slices_IndexFunc_Sapi_Cat_api_Cat En) [a0, a1] objs (fun v3 h4 => finish objs.length (.pan v3) h4) fun w6 h7 => oFrz w6 h7 fun x1 h2 =>
      oCmp .geq x1 (.s (.int .i64 0)) fun x5 =>
      finish objs.length (.ok x5) h2
| _ => none

def En_label_Leq : String → CallFn := fun n => if n = "bailey/label.Leq$1" then label_Leq_c1 else (fun _ _ => none)

/-- bailey/label.Leq -/
def label_Leq : CallFn := fun args objs =>
match args with
| [a0, a1] =>
oNew none (some 2) a0 objs fun x1 h2 =>
      oNew none (some 2) a1 h2 fun x3 h4 =>
      oFieldA 0 x1 fun x5 =>
      oLoad none x5 h4 fun x6 =>
      oFieldA 0 x3 fun x7 =>
      oLoad none x7 h4 fun x8 =>
      oCmp .leq x6 x8 fun x9 =>
      oGuard x9 true (fun _ => oFieldA 1 x1 fun x10 =>
      oLoad none x10 h4 fun x11 =>
      oLend (slices_ContainsFunc_Sapi_Cat_api_Cat (En_label_Leq)) [x11, (.fn "bailey/label.Leq$1" [x1, x3])] h4 (fun v14 h15 => finish objs.length (.pan v14) h15) fun w26 h27 => oFrz w26 h27 fun x12 h13 =>
      oNot x12 fun x16 =>
      oGuard x16 true (fun _ => oFieldA 1 x3 fun x17 =>
      oLoad none x17 h13 fun x18 =>
      oLend (slices_ContainsFunc_Sapi_Cat_api_Cat (En_label_Leq)) [x18, (.fn "bailey/label.Leq$1" [x1, x3])] h13 (fun v21 h22 => finish objs.length (.pan v21) h22) fun w24 h25 => oFrz w24 h25 fun x19 h20 =>
      oNot x19 fun x23 =>
      finish objs.length (.ok x23) h20)
      (fun _ => finish objs.length (.ok (.s (.bool false))) h13))
      (fun _ => finish objs.length (.ok (.s (.bool false))) h4)
| _ => none

def flow_rises_l1 (a0 : A) (objs : Heap) : List A × Heap → Option ((List A × Heap) ⊕ (Ex × List A × Heap)) := fun s1 =>
      oLen a0 fun x2 =>
      oCmp .lss (s1.1.getD 0 .any) x2 fun x3 =>
      oCond x3 (oAr .sub (s1.1.getD 0 .any) (.s (.int .i64 1)) fun x4 =>
      oIdxA 2 a0 x4 fun x5 =>
      oLoadD s1.2.length [] (some 2) x5 s1.2 fun x6 h7 =>
      oIdxA 2 a0 (s1.1.getD 0 .any) fun x8 =>
      oLoadD s1.2.length [] (some 2) x8 h7 fun x9 h10 =>
      oCallF s1.2.length [] label_Leq [x6, x9] h10 fun w15 h16 => oFrz w15 h16 fun x11 h12 =>
      oNot x11 fun x13 =>
      oCond x13 ((trim true objs.length [(.s (.bool false))] h12).map fun p => .inr (Ex.ret, p.1, p.2))
      (oAr .add (s1.1.getD 0 .any) (.s (.int .i64 1)) fun x14 =>
      (trim true objs.length [x14] h12).map .inl))
      ((trim true objs.length [.any] s1.2).map fun p => .inr (Ex.exit 0, p.1, p.2))

def flow_rises_k2 (objs : Heap) : Ex → List A → Heap → Option (Out × Heap) := fun e17 vs18 h19 =>
      (match e17 with
  | .normal => none
  | .exit i20 => if i20 = 0 then finish objs.length (.ok (.s (.bool true))) h19 else none
  | .ret => finish objs.length (.ok (vs18.getD 0 .any)) h19
  | .panic v21 => finish objs.length (.pan v21) h19)

/-- bailey/flow.rises -/
def flow_rises : CallFn := fun args objs =>
match args with
| [a0] =>
oLoop (flow_rises_l1 a0 objs) ([(.s (.int .i64 1))], objs) (flow_rises_k2 objs)
| _ => none

/-- bailey/flow.Reads -/
def flow_Reads : CallFn := fun args objs =>
match args with
| [a0, a1] =>
oNew none (some 4) a0 objs fun x1 h2 =>
      oNew none (some 2) a1 h2 fun x3 h4 =>
      oLoadD h4.length [] (some 2) x3 (h4 ++ List.replicate 1 .res) fun x5 h6 =>
      oFieldA 0 x1 fun x7 =>
      oLoadD h4.length [] (some 2) x7 h6 fun x8 h9 =>
      oCallF h4.length [] label_Raise [x8] h9 fun w18 h19 => oFrz w18 h19 fun x10 h11 =>
      oNewFz h4.length 2 (asRows (some 2) [x5, x10]) h11 fun x12 h13 =>
      oCallF h4.length [] flow_rises [x12] h13 fun w16 h17 => oFrz w16 h17 fun x14 h15 =>
      finish objs.length (.ok x14) h15
| _ => none

def kern_act_open_k1 (x7 : A) (x1 : A) (objs : Heap) : Ex → List A → Heap → Option (Out × Heap) := fun e39 vs37 h38 =>
      (match e39 with
  | .normal => oLoad (some 26) x7 h38 fun x42 =>
      oStore (some 26) x1 x42 h38 fun h43 =>
      oLoad (some 26) x1 h43 fun r44 =>
      finish objs.length (.ok r44) h43
  | .exit i40 => none
  | .ret => oLoad (some 26) x1 h38 fun r45 =>
      finish objs.length (.ok r45) h38
  | .panic v41 => finish objs.length (.pan v41) h38)

/-- (*bailey/kern.act).open -/
def kern_act_open : CallFn := fun args objs =>
match args with
| [a0, a1] =>
oNew none (some 26) (.agg [.s (.int .u64 0), .s (.int .i64 0), .s (.int .i64 0), .s (.slice none 0 0), .s (.int .i64 0), .s (.slice none 0 0), .s (.int .i64 0), .s (.int .i64 0), .s (.slice none 0 0), .s (.slice none 0 0), .s (.int .u64 0), .s (.int .u64 0), .s (.int .u64 0), .s (.int .u64 0), .s (.int .i64 0), .s (.int .i64 0), .s (.bool false), .s (.int .u64 0), .s (.int .u64 0), .s (.int .u64 0), .s (.int .u64 0), .s (.int .u64 0), .s (.int .u64 0), .s (.int .u64 0), .s (.int .u64 0), .s (.int .u64 0)]) objs fun x1 h2 =>
      oCall kern_act_find [a0, a1] h2 (fun v5 h6 => finish objs.length (.pan v5) h6) fun w46 h47 => oFrz w46 h47 fun x3 h4 =>
      oNew none (some 26) (.agg [.s (.int .u64 0), .s (.int .i64 0), .s (.int .i64 0), .s (.slice none 0 0), .s (.int .i64 0), .s (.slice none 0 0), .s (.int .i64 0), .s (.int .i64 0), .s (.slice none 0 0), .s (.slice none 0 0), .s (.int .u64 0), .s (.int .u64 0), .s (.int .u64 0), .s (.int .u64 0), .s (.int .i64 0), .s (.int .i64 0), .s (.bool false), .s (.int .u64 0), .s (.int .u64 0), .s (.int .u64 0), .s (.int .u64 0), .s (.int .u64 0), .s (.int .u64 0), .s (.int .u64 0), .s (.int .u64 0), .s (.int .u64 0)]) h4 fun x7 h8 =>
      oStore (some 26) x7 x3 h8 fun h9 =>
      oJoin (oFieldA 1 x7 fun x10 =>
      oLoadD h9.length [] none x10 h9 fun x11 h12 =>
      oCmp .eql x11 (.s (.int .i64 1)) fun x13 =>
      oGuard x13 true (fun _ => oNilCheck a0 fun x14 =>
      oFieldA 14 x14 fun x15 =>
      oLoadD h9.length [] (some 26) x15 h12 fun x16 h17 =>
      oCallF h9.length [] gate_Who [x16] h17 fun w31 h32 => oFrz w31 h32 fun x18 h19 =>
      oFieldA 2 x7 fun x20 =>
      oLoadD h9.length [] (some 2) x20 h19 fun x21 h22 =>
      oCallF h9.length [] flow_Reads [x18, x21] h22 fun w29 h30 => oFrz w29 h30 fun x23 h24 =>
      oCallF h9.length [] kern_check [x23, (.s (.int .i64 201))] h24 fun w27 h28 => oFrz w27 h28 fun x25 h26 =>
      (trim true h9.length [] h26).map fun p => (Ex.normal, p.1, p.2))
      (fun _ => oCallF h9.length [] kern_check [(.s (.bool false)), (.s (.int .i64 201))] h12 fun w35 h36 => oFrz w35 h36 fun x33 h34 =>
      (trim true h9.length [] h34).map fun p => (Ex.normal, p.1, p.2))) (kern_act_open_k1 x7 x1 objs)
| _ => none

/-- bailey/flow.Writes -/
def flow_Writes : CallFn := fun args objs =>
match args with
| [a0, a1] =>
oNew none (some 4) a0 objs fun x1 h2 =>
      oNew none (some 2) a1 h2 fun x3 h4 =>
      oFieldA 0 x1 fun x5 =>
      oLoadD h4.length [] (some 2) x5 (h4 ++ List.replicate 1 .res) fun x6 h7 =>
      oLoadD h4.length [] (some 2) x3 h7 fun x8 h9 =>
      oFieldA 0 x1 fun x10 =>
      oLoadD h4.length [] (some 2) x10 h9 fun x11 h12 =>
      oCallF h4.length [] label_Raise [x11] h12 fun w21 h22 => oFrz w21 h22 fun x13 h14 =>
      oNewFz h4.length 2 (asRows (some 2) [x6, x8, x13]) h14 fun x15 h16 =>
      oCallF h4.length [] flow_rises [x15] h16 fun w19 h20 => oFrz w19 h20 fun x17 h18 =>
      finish objs.length (.ok x17) h18
| _ => none

/-- (*bailey/kern.act).writes -/
def kern_act_writes : CallFn := fun args objs =>
match args with
| [a0, a1] =>
oNew none (some 26) a1 objs fun x1 h2 =>
      oNilCheck a0 fun x3 =>
      oFieldA 14 x3 fun x4 =>
      oLoadD h2.length [] (some 26) x4 h2 fun x5 h6 =>
      oCallF h2.length [] gate_Who [x5] h6 fun w20 h21 => oFrz w20 h21 fun x7 h8 =>
      oFieldA 2 x1 fun x9 =>
      oLoadD h2.length [] (some 2) x9 h8 fun x10 h11 =>
      oCallF h2.length [] flow_Writes [x7, x10] h11 fun w18 h19 => oFrz w18 h19 fun x12 h13 =>
      oCallF h2.length [] kern_check [x12, (.s (.int .i64 204))] h13 fun w16 h17 => oFrz w16 h17 fun x14 h15 =>
      finish objs.length (.ok (.s (.tuple #[]))) h15
| _ => none

/-- bailey/num.Canon -/
def num_Canon : CallFn := fun args objs =>
match args with
| [a0] =>
oLend (fun _ _ => none) [a0] objs (fun v3 h4 => finish objs.length (.pan v3) h4) fun w5 h6 => oFrz w5 h6 fun x1 h2 =>
      none
| _ => none

def slices_Equal_Sapi_Cat_api_Cat_l1 (x4 : A) (a0 : A) (a1 : A) (objs : Heap) : List A × Heap → Option ((List A × Heap) ⊕ (Ex × List A × Heap)) := fun s5 =>
      oCmp .lss (s5.1.getD 0 .any) x4 fun x6 =>
      oCond x6 (oIdxA 2 a0 (s5.1.getD 0 .any) fun x7 =>
      oLoadD s5.2.length [] (some 2) x7 s5.2 fun x8 h9 =>
      oIdxA 2 a1 (s5.1.getD 0 .any) fun x10 =>
      oLoadD s5.2.length [] (some 2) x10 h9 fun x11 h12 =>
      oEqAgg [true, true] true x8 x11 fun x13 =>
      oCond x13 ((trim true objs.length [(.s (.bool false))] h12).map fun p => .inr (Ex.ret, p.1, p.2))
      (oAr .add (s5.1.getD 0 .any) (.s (.int .i64 1)) fun x14 =>
      (trim true objs.length [x14] h12).map .inl))
      ((trim true objs.length [.any] s5.2).map fun p => .inr (Ex.exit 0, p.1, p.2))

def slices_Equal_Sapi_Cat_api_Cat_k2 (objs : Heap) : Ex → List A → Heap → Option (Out × Heap) := fun e15 vs16 h17 =>
      (match e15 with
  | .normal => none
  | .exit i18 => if i18 = 0 then finish objs.length (.ok (.s (.bool true))) h17 else none
  | .ret => finish objs.length (.ok (vs16.getD 0 .any)) h17
  | .panic v19 => finish objs.length (.pan v19) h17)

/-- slices.Equal[[]bailey/api.Cat,bailey/api.Cat] -/
def slices_Equal_Sapi_Cat_api_Cat : CallFn := fun args objs =>
match args with
| [a0, a1] =>
oLen a0 fun x1 =>
      oLen a1 fun x2 =>
      oCmp .neq x1 x2 fun x3 =>
      oCond x3 (finish objs.length (.ok (.s (.bool false))) objs)
      (oLen a0 fun x4 =>
      oLoop (slices_Equal_Sapi_Cat_api_Cat_l1 x4 a0 a1 objs) ([(.s (.int .i64 0))], objs) (slices_Equal_Sapi_Cat_api_Cat_k2 objs))
| _ => none

/-- bailey/label.Right$1 -/
def label_Right_c1 : CallFn := fun args objs =>
match args with
| [a0] =>
oNew none (some 2) a0 objs fun x1 h2 =>
      oFieldA 0 x1 fun x3 =>
      oLoad none x3 h2 fun x4 =>
      oCmp .lss x4 (.s (.int .u64 1)) fun x5 =>
      oGuard x5 false (fun _ => oFieldA 0 x1 fun x6 =>
      oLoad none x6 h2 fun x7 =>
      oCmp .gtr x7 (.s (.int .u64 2305843009213693951)) fun x8 =>
      oGuard x8 false (fun _ => oFieldA 1 x1 fun x9 =>
      oLoad none x9 h2 fun x10 =>
      oCmp .lss x10 (.s (.int .i64 0)) fun x11 =>
      oGuard x11 false (fun _ => oFieldA 1 x1 fun x12 =>
      oLoad none x12 h2 fun x13 =>
      oCmp .gtr x13 (.s (.int .i64 4)) fun x14 =>
      finish objs.length (.ok x14) h2)
      (fun _ => finish objs.length (.ok (.s (.bool true))) h2))
      (fun _ => finish objs.length (.ok (.s (.bool true))) h2))
      (fun _ => finish objs.length (.ok (.s (.bool true))) h2)
| _ => none

def En_label_Right : String → CallFn := fun n => if n = "bailey/label.Right$1" then label_Right_c1 else (fun _ _ => none)

def label_Right_k1 (En : String → CallFn) (objs : Heap) (x1 : A) : Ex → List A → Heap → Option (Out × Heap) := fun e37 vs35 h36 =>
      (match e37 with
  | .normal => oCond (vs35.getD 0 .any) (finish objs.length (.ok (.s (.bool false))) h36)
      (oFieldA 1 x1 fun x40 =>
      oLoad none x40 h36 fun x41 =>
      oLend (slices_ContainsFunc_Sapi_Cat_api_Cat En) [x41, (.fn "bailey/label.Right$1" [])] h36 (fun v44 h45 => finish objs.length (.pan v44) h45) fun w47 h48 => oFrz w47 h48 fun x42 h43 =>
      oNot x42 fun x46 =>
      finish objs.length (.ok x46) h43)
  | .exit i38 => none
  | .ret => finish objs.length (.ok (.s (.bool false))) h36
  | .panic v39 => finish objs.length (.pan v39) h36)

/-- bailey/label.Right -/
def label_Right : CallFn := fun args objs =>
match args with
| [a0] =>
oNew none (some 2) a0 objs fun x1 h2 =>
      oJoin (oFieldA 0 x1 fun x3 =>
      oLoadD h2.length [] none x3 h2 fun x4 h5 =>
      oCmp .lss x4 (.s (.int .i64 1)) fun x6 =>
      oGuard x6 false (fun _ => oFieldA 0 x1 fun x7 =>
      oLoadD h2.length [] none x7 h5 fun x8 h9 =>
      oCmp .gtr x8 (.s (.int .i64 4)) fun x10 =>
      oGuard x10 false (fun _ => oFieldA 1 x1 fun x11 =>
      oLoadD h2.length [] none x11 h9 fun x12 h13 =>
      oLen x12 fun x14 =>
      oCmp .gtr x14 (.s (.int .i64 6)) fun x15 =>
      oGuard x15 false (fun _ => oFieldA 1 x1 fun x16 =>
      oLoadD h2.length [] none x16 h13 fun x17 h18 =>
      oFieldA 0 x1 fun x19 =>
      oLoadD h2.length [] none x19 h18 fun x20 h21 =>
      oFieldA 1 x1 fun x22 =>
      oLoadD h2.length [] none x22 h21 fun x23 h24 =>
      oCallF h2.length [] label_Make [x20, x23] h24 fun w33 h34 => oFrz w33 h34 fun x25 h26 =>
      oField 1 none x25 fun x27 =>
      oCallF h2.length [] slices_Equal_Sapi_Cat_api_Cat [x17, x27] h26 fun w31 h32 => oFrz w31 h32 fun x28 h29 =>
      oNot x28 fun x30 =>
      (trim true h2.length [x30] h29).map fun p => (Ex.normal, p.1, p.2))
      (fun _ => (trim true h2.length [(.s (.bool true))] h13).map fun p => (Ex.normal, p.1, p.2)))
      (fun _ => (trim true h2.length [(.s (.bool true))] h9).map fun p => (Ex.normal, p.1, p.2)))
      (fun _ => (trim true h2.length [(.s (.bool true))] h5).map fun p => (Ex.normal, p.1, p.2))) (label_Right_k1 (En_label_Right) objs x1)
| _ => none

/-- bailey/flow.pure$1 -/
def flow_pure_c1 : CallFn := fun args objs =>
match args with
| [a0] =>
oNew none (some 2) a0 objs fun x1 h2 =>
      oFieldA 1 x1 fun x3 =>
      oLoad none x3 h2 fun x4 =>
      oCmp .eql x4 (.s (.int .i64 0)) fun x5 =>
      finish objs.length (.ok x5) h2
| _ => none

def En_flow_pure : String → CallFn := fun n => if n = "bailey/flow.pure$1" then flow_pure_c1 else (fun _ _ => none)

/-- bailey/flow.pure -/
def flow_pure : CallFn := fun args objs =>
match args with
| [a0] =>
oNew none (some 2) a0 objs fun x1 h2 =>
      oLoad (some 2) x1 h2 fun x3 =>
      oLend label_Right [x3] h2 (fun v6 h7 => finish objs.length (.pan v6) h7) fun w17 h18 => oFrz w17 h18 fun x4 h5 =>
      oGuard x4 true (fun _ => oFieldA 1 x1 fun x8 =>
      oLoad none x8 h5 fun x9 =>
      oLend (slices_ContainsFunc_Sapi_Cat_api_Cat (En_flow_pure)) [x9, (.fn "bailey/flow.pure$1" [])] h5 (fun v12 h13 => finish objs.length (.pan v12) h13) fun w15 h16 => oFrz w15 h16 fun x10 h11 =>
      oNot x10 fun x14 =>
      finish objs.length (.ok x14) h11)
      (fun _ => finish objs.length (.ok (.s (.bool false))) h5)
| _ => none

/-- (bailey/flow.Who).right -/
def flow_Who_right : CallFn := fun args objs =>
match args with
| [a0] =>
oNew none (some 4) a0 objs fun x1 h2 =>
      oFieldA 0 x1 fun x3 =>
      oLoad (some 2) x3 h2 fun x4 =>
      oLend label_Right [x4] h2 (fun v7 h8 => finish objs.length (.pan v7) h8) fun w17 h18 => oFrz w17 h18 fun x5 h6 =>
      oGuard x5 true (fun _ => oFieldA 2 x1 fun x9 =>
      oLoad (some 2) x9 h6 fun x10 =>
      oLend flow_pure [x10] h6 (fun v13 h14 => finish objs.length (.pan v13) h14) fun w15 h16 => oFrz w15 h16 fun x11 h12 =>
      finish objs.length (.ok x11) h12)
      (fun _ => finish objs.length (.ok (.s (.bool false))) h6)
| _ => none

/-- bailey/flow.Spawns -/
def flow_Spawns : CallFn := fun args objs =>
match args with
| [a0, a1, a2] =>
oNew none (some 4) a0 objs fun x1 h2 =>
      oNew none (some 2) a1 h2 fun x3 h4 =>
      oNew none (some 2) a2 h4 fun x5 h6 =>
      oLoad (some 2) x3 h6 fun x7 =>
      oLoad (some 2) x5 h6 fun x8 =>
      oBuildP [.s (.int .i64 0), .s (.slice none 0 0), .s (.int .i64 0), .s (.slice none 0 0)] [(0, (some 2), x7), (2, (some 2), x8)] fun x9 =>
      oLend flow_Who_right [x9] h6 (fun v12 h13 => finish objs.length (.pan v12) h13) fun w30 h31 => oFrz w30 h31 fun x10 h11 =>
      oGuard x10 true (fun _ => oFieldA 0 x1 fun x14 =>
      oLoad (some 2) x14 h11 fun x15 =>
      oLoad (some 2) x3 h11 fun x16 =>
      oLoad (some 2) x5 h11 fun x17 =>
      oFieldA 2 x1 fun x18 =>
      oLoad (some 2) x18 h11 fun x19 =>
      oNewSlice none 2 (asRows (some 2) [x15, x16, x17, x19]) h11 fun w22 h23 => oFrz w22 h23 fun x20 h21 =>
      oLend flow_rises [x20] h21 (fun v26 h27 => finish objs.length (.pan v26) h27) fun w28 h29 => oFrz w28 h29 fun x24 h25 =>
      finish objs.length (.ok x24) h25)
      (fun _ => finish objs.length (.ok (.s (.bool false))) h11)
| _ => none

/-- bailey/flow.Makes -/
def flow_Makes : CallFn := fun args objs =>
match args with
| [a0, a1] =>
oNew none (some 4) a0 objs fun x1 h2 =>
      oNew none (some 2) a1 h2 fun x3 h4 =>
      oLoad (some 2) x3 h4 fun x5 =>
      oLend flow_pure [x5] h4 (fun v8 h9 => finish objs.length (.pan v8) h9) fun w25 h26 => oFrz w25 h26 fun x6 h7 =>
      oGuard x6 true (fun _ => oFieldA 0 x1 fun x10 =>
      oLoad (some 2) x10 h7 fun x11 =>
      oLoad (some 2) x3 h7 fun x12 =>
      oFieldA 2 x1 fun x13 =>
      oLoad (some 2) x13 h7 fun x14 =>
      oNewSlice none 2 (asRows (some 2) [x11, x12, x14]) h7 fun w17 h18 => oFrz w17 h18 fun x15 h16 =>
      oLend flow_rises [x15] h16 (fun v21 h22 => finish objs.length (.pan v21) h22) fun w23 h24 => oFrz w23 h24 fun x19 h20 =>
      finish objs.length (.ok x19) h20)
      (fun _ => finish objs.length (.ok (.s (.bool false))) h7)
| _ => none

def dir_Fresh_k1 (objs : Heap) (x1 : A) : Ex → List A → Heap → Option (Out × Heap) := fun e11 vs9 h10 =>
      (match e11 with
  | .normal => oCond (vs9.getD 0 .any) (finish objs.length (.ok (.tup [(.s (.int .u64 0)), (.s (.int .i64 125))])) h10)
      (oFieldA 0 x1 fun x14 =>
      oLoad none x14 h10 fun x15 =>
      oAr .mul x15 (.s (.int .u64 64)) fun x16 =>
      oFieldA 7 x1 fun x17 =>
      oLoad none x17 h10 fun x18 =>
      oConv .u64 x18 fun x19 =>
      oAr .add x16 x19 fun x20 =>
      oAr .add x20 (.s (.int .u64 1)) fun x21 =>
      finish objs.length (.ok (.tup [x21, (.s (.int .i64 0))])) h10)
  | .exit i12 => none
  | .ret => finish objs.length (.ok (.tup [(.s (.int .u64 0)), (.s (.int .i64 0))])) h10
  | .panic v13 => finish objs.length (.pan v13) h10)

/-- bailey/dir.Fresh -/
def dir_Fresh : CallFn := fun args objs =>
match args with
| [a0] =>
oNew none (some 26) a0 objs fun x1 h2 =>
      oJoin (oFieldA 7 x1 fun x3 =>
      oLoad none x3 h2 fun x4 =>
      oCmp .geq x4 (.s (.int .i64 63)) fun x5 =>
      oGuard x5 false (fun _ => oFieldA 0 x1 fun x6 =>
      oLoad none x6 h2 fun x7 =>
      oCmp .geq x7 (.s (.int .u64 4398046511104)) fun x8 =>
      (trim true h2.length [x8] h2).map fun p => (Ex.normal, p.1, p.2))
      (fun _ => (trim true h2.length [(.s (.bool true))] h2).map fun p => (Ex.normal, p.1, p.2))) (dir_Fresh_k1 objs x1)
| _ => none

def slices_BinarySearchFunc_Sapi_Link_api_Link_uint64_l1 (En : String → CallFn) (a0 : A) (a2 : A) (a1 : A) (objs : Heap) : List A × Heap → Option ((List A × Heap) ⊕ (Ex × List A × Heap)) := fun s2 =>
      oCmp .lss (s2.1.getD 0 .any) (s2.1.getD 1 .any) fun x3 =>
      oCond x3 (oAr .add (s2.1.getD 0 .any) (s2.1.getD 1 .any) fun x4 =>
      oConv .u64 x4 fun x5 =>
      oShift .shr x5 (.s (.int .u64 1)) fun x6 =>
      oConv .i64 x6 fun x7 =>
      oIdxA 2 a0 x7 fun x8 =>
      oLoad (some 2) x8 s2.2 fun x9 =>
      oLendV En a2 [x9, a1] s2.2 (fun v12 h13 => some (.inr (Ex.panic v12, [.any], h13))) fun w16 h17 => oFrz w16 h17 fun x10 h11 =>
      oCmp .lss x10 (.s (.int .i64 0)) fun x14 =>
      oCond x14 (oAr .add x7 (.s (.int .i64 1)) fun x15 =>
      (trim true objs.length [x15, (s2.1.getD 1 .any)] h11).map .inl)
      ((trim true objs.length [(s2.1.getD 0 .any), x7] h11).map .inl))
      ((trim true objs.length [(s2.1.getD 0 .any)] s2.2).map fun p => .inr (Ex.exit 0, p.1, p.2))

def slices_BinarySearchFunc_Sapi_Link_api_Link_uint64_k2 (En : String → CallFn) (x1 : A) (a0 : A) (a2 : A) (a1 : A) (objs : Heap) : Ex → List A → Heap → Option (Out × Heap) := fun e18 vs19 h20 =>
      (match e18 with
  | .normal => none
  | .exit i21 => if i21 = 0 then oCmp .lss (vs19.getD 0 .any) x1 fun x23 =>
      oGuard x23 true (fun _ => oIdxA 2 a0 (vs19.getD 0 .any) fun x24 =>
      oLoad (some 2) x24 h20 fun x25 =>
      oLendV En a2 [x25, a1] h20 (fun v28 h29 => finish objs.length (.pan v28) h29) fun w31 h32 => oFrz w31 h32 fun x26 h27 =>
      oCmp .eql x26 (.s (.int .i64 0)) fun x30 =>
      finish objs.length (.ok (.tup [(vs19.getD 0 .any), x30])) h27)
      (fun _ => finish objs.length (.ok (.tup [(vs19.getD 0 .any), (.s (.bool false))])) h20) else none
  | .ret => finish objs.length (.ok (.tup [(.s (.int .i64 0)), (.s (.bool false))])) h20
  | .panic v22 => finish objs.length (.pan v22) h20)

/-- slices.BinarySearchFunc[[]bailey/api.Link,bailey/api.Link,uint64] -/
def slices_BinarySearchFunc_Sapi_Link_api_Link_uint64 (En : String → CallFn) : CallFn := fun args objs =>
match args with
| [a0, a1, a2] =>
oLen a0 fun x1 =>
      oLoop (slices_BinarySearchFunc_Sapi_Link_api_Link_uint64_l1 En a0 a2 a1 objs) ([(.s (.int .i64 0)), x1], objs) (slices_BinarySearchFunc_Sapi_Link_api_Link_uint64_k2 En x1 a0 a2 a1 objs)
| _ => none

/-- bailey/dir.place$1 -/
def dir_place_c1 : CallFn := fun args objs =>
match args with
| [a0, a1] =>
oNew none (some 2) a0 objs fun x1 h2 =>
      oFieldA 0 x1 fun x3 =>
      oLoad none x3 h2 fun x4 =>
      oLend cmp_Compare_uint64 [x4, a1] h2 (fun v7 h8 => finish objs.length (.pan v7) h8) fun w9 h10 => oFrz w9 h10 fun x5 h6 =>
      finish objs.length (.ok x5) h6
| _ => none

def En_dir_place : String → CallFn := fun n => if n = "bailey/dir.place$1" then dir_place_c1 else (fun _ _ => none)

/-- bailey/dir.place -/
def dir_place : CallFn := fun args objs =>
match args with
| [a0, a1] =>
oNew none (some 26) a0 objs fun x1 h2 =>
      oFieldA 8 x1 fun x3 =>
      oLoad none x3 h2 fun x4 =>
      oLend (slices_BinarySearchFunc_Sapi_Link_api_Link_uint64 (En_dir_place)) [x4, a1, (.fn "bailey/dir.place$1" [])] h2 (fun v7 h8 => finish objs.length (.pan v7) h8) fun w11 h12 => oFrz w11 h12 fun x5 h6 =>
      oExtract 0 x5 fun x9 =>
      oExtract 1 x5 fun x10 =>
      finish objs.length (.ok (.tup [x9, x10])) h6
| _ => none

def dir_Used_l1 (x5 : A) (x4 : A) (h2 : Heap) : List A × Heap → Option ((List A × Heap) ⊕ (Ex × List A × Heap)) := fun s6 =>
      oCmp .lss (s6.1.getD 1 .any) x5 fun x7 =>
      oCond x7 (oIdxA 2 x4 (s6.1.getD 1 .any) fun x8 =>
      oLoad (some 2) x8 s6.2 fun x9 =>
      oNew none (some 2) (.agg [.s (.int .u64 0), .s (.int .i64 0)]) s6.2 fun x10 h11 =>
      oStore (some 2) x10 x9 h11 fun h12 =>
      oFieldA 1 x10 fun x13 =>
      oLoad none x13 h12 fun x14 =>
      oAr .add (s6.1.getD 0 .any) x14 fun x15 =>
      oAr .add (s6.1.getD 1 .any) (.s (.int .i64 1)) fun x16 =>
      (trim true h2.length [x15, x16] h12).map .inl)
      ((trim true h2.length [(s6.1.getD 0 .any)] s6.2).map fun p => .inr (Ex.exit 0, p.1, p.2))

def dir_Used_k2 (objs : Heap) : Ex → List A → Heap → Option (Out × Heap) := fun e17 vs18 h19 =>
      (match e17 with
  | .normal => none
  | .exit i20 => if i20 = 0 then finish objs.length (.ok (vs18.getD 0 .any)) h19 else none
  | .ret => finish objs.length (.ok (.s (.int .i64 0))) h19
  | .panic v21 => finish objs.length (.pan v21) h19)

/-- bailey/dir.Used -/
def dir_Used : CallFn := fun args objs =>
match args with
| [a0] =>
oNew none (some 26) a0 objs fun x1 h2 =>
      oFieldA 8 x1 fun x3 =>
      oLoad none x3 h2 fun x4 =>
      oLen x4 fun x5 =>
      oLoop (dir_Used_l1 x5 x4 h2) ([(.s (.int .i64 1)), (.s (.int .i64 0))], h2) (dir_Used_k2 objs)
| _ => none

def dir_Add_k1 (x1 : A) (x3 : A) (objs : Heap) (a1 : A) (a2 : A) (x10 : A) : Ex → List A → Heap → Option (Out × Heap) := fun e36 vs34 h35 =>
      (match e36 with
  | .normal => oCond (vs34.getD 0 .any) (oLoad (some 26) x1 h35 fun x39 =>
      oStore (some 26) x3 x39 h35 fun h40 =>
      oLoad (some 26) x3 h40 fun r41 =>
      finish objs.length (.ok (.tup [r41, (.s (.int .i64 121))])) h40)
      (oLoad (some 26) x1 h35 fun x42 =>
      oLend thing_Copy [x42] h35 (fun v45 h46 => finish objs.length (.pan v45) h46) fun x43 h44 =>
      oStore (some 26) x1 x43 h44 fun h47 =>
      oFieldA 8 x1 fun x48 =>
      oLoad none x48 h47 fun x49 =>
      oBuildP [.s (.int .u64 0), .s (.int .i64 0)] [(0, none, a1), (1, none, a2)] fun x50 =>
      oNewSlice none 2 (asRows (some 2) [x50]) h47 fun x51 h52 =>
      oCall (primInsert 2 16) [x49, x10, x51] h52 (fun v55 h56 => finish objs.length (.pan v55) h56) fun x53 h54 =>
      oFieldA 8 x1 fun x57 =>
      oStore none x57 x53 h54 fun h58 =>
      oLoad (some 26) x1 h58 fun x59 =>
      oStore (some 26) x3 x59 h58 fun h60 =>
      oLoad (some 26) x3 h60 fun r61 =>
      finish objs.length (.ok (.tup [r61, (.s (.int .i64 0))])) h60)
  | .exit i37 => if i37 = 0 then oLoad (some 26) x1 h35 fun x62 =>
      oLend thing_Copy [x62] h35 (fun v65 h66 => finish objs.length (.pan v65) h66) fun x63 h64 =>
      oStore (some 26) x1 x63 h64 fun h67 =>
      oFieldA 8 x1 fun x68 =>
      oLoad none x68 h67 fun x69 =>
      oBuildP [.s (.int .u64 0), .s (.int .i64 0)] [(0, none, a1), (1, none, a2)] fun x70 =>
      oNewSlice none 2 (asRows (some 2) [x70]) h67 fun x71 h72 =>
      oCall (primInsert 2 16) [x69, x10, x71] h72 (fun v75 h76 => finish objs.length (.pan v75) h76) fun x73 h74 =>
      oFieldA 8 x1 fun x77 =>
      oStore none x77 x73 h74 fun h78 =>
      oLoad (some 26) x1 h78 fun x79 =>
      oStore (some 26) x3 x79 h78 fun h80 =>
      oLoad (some 26) x3 h80 fun r81 =>
      finish objs.length (.ok (.tup [r81, (.s (.int .i64 0))])) h80 else none
  | .ret => oLoad (some 26) x3 h35 fun r82 =>
      finish objs.length (.ok (.tup [r82, (.s (.int .i64 0))])) h35
  | .panic v38 => finish objs.length (.pan v38) h35)

/-- bailey/dir.Add -/
def dir_Add : CallFn := fun args objs =>
match args with
| [a0, a1, a2] =>
oNew none (some 26) a0 objs fun x1 h2 =>
      oNew none (some 26) (.agg [.s (.int .u64 0), .s (.int .i64 0), .s (.int .i64 0), .s (.slice none 0 0), .s (.int .i64 0), .s (.slice none 0 0), .s (.int .i64 0), .s (.int .i64 0), .s (.slice none 0 0), .s (.slice none 0 0), .s (.int .u64 0), .s (.int .u64 0), .s (.int .u64 0), .s (.int .u64 0), .s (.int .i64 0), .s (.int .i64 0), .s (.bool false), .s (.int .u64 0), .s (.int .u64 0), .s (.int .u64 0), .s (.int .u64 0), .s (.int .u64 0), .s (.int .u64 0), .s (.int .u64 0), .s (.int .u64 0), .s (.int .u64 0)]) h2 fun x3 h4 =>
      oLoad (some 26) x1 h4 fun x5 =>
      oLend dir_place [x5, a1] h4 (fun v8 h9 => finish objs.length (.pan v8) h9) fun w83 h84 => oFrz w83 h84 fun x6 h7 =>
      oExtract 0 x6 fun x10 =>
      oExtract 1 x6 fun x11 =>
      oCond x11 (oLoad (some 26) x1 h7 fun x12 =>
      oStore (some 26) x3 x12 h7 fun h13 =>
      oLoad (some 26) x3 h13 fun r14 =>
      finish objs.length (.ok (.tup [r14, (.s (.int .i64 123))])) h13)
      (oFieldA 8 x1 fun x15 =>
      oLoad none x15 h7 fun x16 =>
      oLen x16 fun x17 =>
      oCmp .geq x17 (.s (.int .i64 16)) fun x18 =>
      oCond x18 (oLoad (some 26) x1 h7 fun x19 =>
      oStore (some 26) x3 x19 h7 fun h20 =>
      oLoad (some 26) x3 h20 fun r21 =>
      finish objs.length (.ok (.tup [r21, (.s (.int .i64 122))])) h20)
      (oJoin (oCmp .lss a2 (.s (.int .i64 1)) fun x22 =>
      oGuard x22 false (fun _ => oFieldA 6 x1 fun x23 =>
      oLoadD h7.length [] none x23 h7 fun x24 h25 =>
      oLoadD h7.length [] (some 26) x1 h25 fun x26 h27 =>
      oCallF h7.length [] dir_Used [x26] h27 fun w32 h33 => oFrz w32 h33 fun x28 h29 =>
      oAr .sub x24 x28 fun x30 =>
      oCmp .gtr a2 x30 fun x31 =>
      (trim true h7.length [x31] h29).map fun p => (Ex.normal, p.1, p.2))
      (fun _ => (trim true h7.length [(.s (.bool true))] h7).map fun p => (Ex.normal, p.1, p.2))) (dir_Add_k1 x1 x3 objs a1 a2 x10)))
| _ => none

/-- bailey/dir.Born -/
def dir_Born : CallFn := fun args objs =>
match args with
| [a0, a1] =>
oNew none (some 26) a0 objs fun x1 h2 =>
      oNew none (some 26) (.agg [.s (.int .u64 0), .s (.int .i64 0), .s (.int .i64 0), .s (.slice none 0 0), .s (.int .i64 0), .s (.slice none 0 0), .s (.int .i64 0), .s (.int .i64 0), .s (.slice none 0 0), .s (.slice none 0 0), .s (.int .u64 0), .s (.int .u64 0), .s (.int .u64 0), .s (.int .u64 0), .s (.int .i64 0), .s (.int .i64 0), .s (.bool false), .s (.int .u64 0), .s (.int .u64 0), .s (.int .u64 0), .s (.int .u64 0), .s (.int .u64 0), .s (.int .u64 0), .s (.int .u64 0), .s (.int .u64 0), .s (.int .u64 0)]) h2 fun x3 h4 =>
      oLoad (some 26) x1 h4 fun x5 =>
      oLend dir_Fresh [x5] h4 (fun v8 h9 => finish objs.length (.pan v8) h9) fun w40 h41 => oFrz w40 h41 fun x6 h7 =>
      oExtract 0 x6 fun x10 =>
      oExtract 1 x6 fun x11 =>
      oCmp .neq x11 (.s (.int .i64 0)) fun x12 =>
      oCond x12 (oLoad (some 26) x1 h7 fun x13 =>
      oStore (some 26) x3 x13 h7 fun h14 =>
      oLoad (some 26) x3 h14 fun r15 =>
      finish objs.length (.ok (.tup [r15, (.s (.int .u64 0)), x11])) h14)
      (oLoad (some 26) x1 h7 fun x16 =>
      oLend dir_Add [x16, x10, a1] h7 (fun v19 h20 => finish objs.length (.pan v19) h20) fun w38 h39 => oFrz w38 h39 fun x17 h18 =>
      oExtract 0 x17 fun x21 =>
      oExtract 1 x17 fun x22 =>
      oNew none (some 26) (.agg [.s (.int .u64 0), .s (.int .i64 0), .s (.int .i64 0), .s (.slice none 0 0), .s (.int .i64 0), .s (.slice none 0 0), .s (.int .i64 0), .s (.int .i64 0), .s (.slice none 0 0), .s (.slice none 0 0), .s (.int .u64 0), .s (.int .u64 0), .s (.int .u64 0), .s (.int .u64 0), .s (.int .i64 0), .s (.int .i64 0), .s (.bool false), .s (.int .u64 0), .s (.int .u64 0), .s (.int .u64 0), .s (.int .u64 0), .s (.int .u64 0), .s (.int .u64 0), .s (.int .u64 0), .s (.int .u64 0), .s (.int .u64 0)]) h18 fun x23 h24 =>
      oStore (some 26) x23 x21 h24 fun h25 =>
      oCmp .neq x22 (.s (.int .i64 0)) fun x26 =>
      oCond x26 (oLoad (some 26) x1 h25 fun x27 =>
      oStore (some 26) x3 x27 h25 fun h28 =>
      oLoad (some 26) x3 h28 fun r29 =>
      finish objs.length (.ok (.tup [r29, (.s (.int .u64 0)), x22])) h28)
      (oFieldA 7 x23 fun x30 =>
      oLoad none x30 h25 fun x31 =>
      oAr .add x31 (.s (.int .i64 1)) fun x32 =>
      oFieldA 7 x23 fun x33 =>
      oStore none x33 x32 h25 fun h34 =>
      oLoad (some 26) x23 h34 fun x35 =>
      oStore (some 26) x3 x35 h34 fun h36 =>
      oLoad (some 26) x3 h36 fun r37 =>
      finish objs.length (.ok (.tup [r37, x10, (.s (.int .i64 0))])) h36))
| _ => none

/-- bailey/kern.done -/
def kern_done : CallFn := fun args objs =>
match args with
| [a0] =>
oCmp .eql a0 (.s (.int .i64 0)) fun x1 =>
      oLend kern_check [x1, a0] objs (fun v4 h5 => finish objs.length (.pan v4) h5) fun w6 h7 => oFrz w6 h7 fun x2 h3 =>
      finish objs.length (.ok (.s (.tuple #[]))) h3
| _ => none

def graph_copyAll_l1 (x1 : A) (a0 : A) (h3 : Heap) : List A × Heap → Option ((List A × Heap) ⊕ (Ex × List A × Heap)) := fun s4 =>
      oCmp .lss (s4.1.getD 1 .any) x1 fun x5 =>
      oCond x5 (oIdxA 26 a0 (s4.1.getD 1 .any) fun x6 =>
      oLoad (some 26) x6 s4.2 fun x7 =>
      oNew none (some 26) (.agg [.s (.int .u64 0), .s (.int .i64 0), .s (.int .i64 0), .s (.slice none 0 0), .s (.int .i64 0), .s (.slice none 0 0), .s (.int .i64 0), .s (.int .i64 0), .s (.slice none 0 0), .s (.slice none 0 0), .s (.int .u64 0), .s (.int .u64 0), .s (.int .u64 0), .s (.int .u64 0), .s (.int .i64 0), .s (.int .i64 0), .s (.bool false), .s (.int .u64 0), .s (.int .u64 0), .s (.int .u64 0), .s (.int .u64 0), .s (.int .u64 0), .s (.int .u64 0), .s (.int .u64 0), .s (.int .u64 0), .s (.int .u64 0)]) s4.2 fun x8 h9 =>
      oStore (some 26) x8 x7 h9 fun h10 =>
      oLoad (some 26) x8 h10 fun x11 =>
      oLend thing_Copy [x11] h10 (fun v14 h15 => some (.inr (Ex.panic v14, [.any], h15))) fun x12 h13 =>
      oNewSlice none 26 (asRows (some 26) [x12]) h13 fun x16 h17 =>
      oAppend none 26 272 (s4.1.getD 0 .any) x16 h17 fun x18 h19 =>
      oAr .add (s4.1.getD 1 .any) (.s (.int .i64 1)) fun x20 =>
      (trim true h3.length [x18, x20] h19).map .inl)
      ((trim true h3.length [(s4.1.getD 0 .any)] s4.2).map fun p => .inr (Ex.exit 0, p.1, p.2))

def graph_copyAll_k2 (objs : Heap) : Ex → List A → Heap → Option (Out × Heap) := fun e21 vs22 h23 =>
      (match e21 with
  | .normal => none
  | .exit i24 => if i24 = 0 then finish objs.length (.ok (vs22.getD 0 .any)) h23 else none
  | .ret => finish objs.length (.ok (.s (.slice none 0 0))) h23
  | .panic v25 => finish objs.length (.pan v25) h23)

/-- bailey/graph.copyAll -/
def graph_copyAll : CallFn := fun args objs =>
match args with
| [a0] =>
oLen a0 fun x1 =>
      oProm 26 (.s (.slice none 0 0)) objs fun x2 h3 =>
      oLoop (graph_copyAll_l1 x1 a0 h3) ([x2, (.s (.int .i64 0))], h3) (graph_copyAll_k2 objs)
| _ => none

/-- bailey/graph.Put -/
def graph_Put : CallFn := fun args objs =>
match args with
| [a0, a1] =>
oNew none (some 26) a1 objs fun x1 h2 =>
      oLend graph_copyAll [a0] h2 (fun v5 h6 => finish objs.length (.pan v5) h6) fun x3 h4 =>
      oFieldA 0 x1 fun x7 =>
      oLoad none x7 h4 fun x8 =>
      oLend graph_place [x3, x8] h4 (fun v11 h12 => finish objs.length (.pan v11) h12) fun w33 h34 => oFrz w33 h34 fun x9 h10 =>
      oExtract 0 x9 fun x13 =>
      oExtract 1 x9 fun x14 =>
      oCond x14 (oLoad (some 26) x1 h10 fun x15 =>
      oLend thing_Copy [x15] h10 (fun v18 h19 => finish objs.length (.pan v18) h19) fun x16 h17 =>
      oIdxA 26 x3 x13 fun x20 =>
      oStore (some 26) x20 x16 h17 fun h21 =>
      finish objs.length (.ok x3) h21)
      (oLoad (some 26) x1 h10 fun x22 =>
      oLend thing_Copy [x22] h10 (fun v25 h26 => finish objs.length (.pan v25) h26) fun x23 h24 =>
      oNewSlice none 26 (asRows (some 26) [x23]) h24 fun x27 h28 =>
      oCall (primInsert 26 272) [x3, x13, x27] h28 (fun v31 h32 => finish objs.length (.pan v31) h32) fun x29 h30 =>
      finish objs.length (.ok x29) h30)
| _ => none

/-- (*bailey/kern.act).put -/
def kern_act_put : CallFn := fun args objs =>
match args with
| [a0, a1] =>
oNew none (some 26) a1 objs fun x1 h2 =>
      oNilCheck a0 fun x3 =>
      oFieldA 12 x3 fun x4 =>
      oLoadD h2.length [] none x4 h2 fun x5 h6 =>
      oLoadD h2.length [] (some 26) x1 h6 fun x7 h8 =>
      oCallF h2.length [] graph_Put [x5, x7] h8 fun w14 h15 => oFrz w14 h15 fun x9 h10 =>
      oNilCheck a0 fun x11 =>
      oFieldA 12 x11 fun x12 =>
      oStore none x12 x9 h10 fun h13 =>
      finish objs.length (.ok (.s (.tuple #[]))) h13
| _ => none

def kern_act_make_k1 (a0 : A) (x28 : A) (h40 : Heap) : Ex → List A → Heap → Option (Ex × List A × Heap) := fun e102 vs100 h101 =>
      (match e102 with
  | .normal => oNilCheck a0 fun x105 =>
      oFieldA 0 x105 fun x106 =>
      oFieldA 1 x106 fun x107 =>
      oLoadD h101.length (wrL h101 [(x28, false)]) none x107 (h101 ++ List.replicate 1 .res) fun x108 h109 =>
      oAr .add x108 (.s (.int .i64 1)) fun x110 =>
      oNilCheck a0 fun x111 =>
      oFieldA 0 x111 fun x112 =>
      oFieldA 1 x112 fun x113 =>
      oLoadD h101.length (wrL h101 [(x28, false)]) none x113 h109 fun x114 h115 =>
      oAr .mul x114 (.s (.int .i64 32)) fun x116 =>
      oMake (some h101.length) 1 1 [.s (.int .u8 0)] x116 x116 h115 fun x117 h118 =>
      oFieldA 1 x28 fun x119 =>
      oStoreD h101.length (wrL h101 [(x28, false)]) none x119 (.s (.int .i64 4)) h118 fun h120 =>
      oFieldA 6 x28 fun x121 =>
      oStoreD h101.length (wrL h101 [(x28, false)]) none x121 x110 h120 fun h122 =>
      oFieldA 9 x28 fun x123 =>
      oStoreD h101.length (wrL h101 [(x28, false)]) none x123 x117 h122 fun h124 =>
      (trim true h40.length [] h124).map fun p => (Ex.normal, p.1, p.2)
  | .exit i103 => if i103 = 0 then (trim true h40.length [] h101).map fun p => (Ex.normal, p.1, p.2) else (trim true h40.length [] h101).map fun p => (Ex.exit i103, p.1, p.2)
  | .ret => (trim true h40.length [] h101).map fun p => (Ex.ret, p.1, p.2)
  | .panic v104 => some (Ex.panic v104, [], h101))

def kern_act_make_k2 (x38 : A) (a0 : A) (h166 : Heap) : Ex → List A → Heap → Option (Ex × List A × Heap) := fun e182 vs180 h181 =>
      (match e182 with
  | .normal => oCond (vs180.getD 0 .any) (oLoadD h181.length [] (some 4) x38 h181 fun x185 h186 =>
      oNilCheck a0 fun x187 =>
      oFieldA 0 x187 fun x188 =>
      oFieldA 6 x188 fun x189 =>
      oLoadD h181.length [] (some 2) x189 h186 fun x190 h191 =>
      oNilCheck a0 fun x192 =>
      oFieldA 0 x192 fun x193 =>
      oFieldA 8 x193 fun x194 =>
      oLoadD h181.length [] (some 2) x194 h191 fun x195 h196 =>
      oCallF h181.length [] flow_Spawns [x185, x190, x195] h196 fun w203 h204 => oFrz w203 h204 fun x197 h198 =>
      oCallF h181.length [] kern_check [x197, (.s (.int .i64 204))] h198 fun w201 h202 => oFrz w201 h202 fun x199 h200 =>
      (trim true h166.length [] h200).map fun p => (Ex.normal, p.1, p.2))
      (oLoadD h181.length [] (some 4) x38 h181 fun x205 h206 =>
      oNilCheck a0 fun x207 =>
      oFieldA 0 x207 fun x208 =>
      oFieldA 6 x208 fun x209 =>
      oLoadD h181.length [] (some 2) x209 h206 fun x210 h211 =>
      oCallF h181.length [] flow_Makes [x205, x210] h211 fun w218 h219 => oFrz w218 h219 fun x212 h213 =>
      oCallF h181.length [] kern_check [x212, (.s (.int .i64 204))] h213 fun w216 h217 => oFrz w216 h217 fun x214 h215 =>
      (trim true h166.length [] h215).map fun p => (Ex.normal, p.1, p.2))
  | .exit i183 => (trim true h166.length [] h181).map fun p => (Ex.exit i183, p.1, p.2)
  | .ret => (trim true h166.length [] h181).map fun p => (Ex.ret, p.1, p.2)
  | .panic v184 => some (Ex.panic v184, [], h181))

def kern_act_make_k3 (x9 : A) (x28 : A) (objs : Heap) (a0 : A) : Ex → List A → Heap → Option (Out × Heap) := fun e222 vs220 h221 =>
      (match e222 with
  | .normal => oLoad (some 26) x9 h221 fun x225 =>
      oFieldA 6 x28 fun x226 =>
      oLoad none x226 h221 fun x227 =>
      oLend dir_Born [x225, x227] h221 (fun v230 h231 => finish objs.length (.pan v230) h231) fun w262 h263 => oFrz w262 h263 fun x228 h229 =>
      oExtract 0 x228 fun x232 =>
      oExtract 1 x228 fun x233 =>
      oExtract 2 x228 fun x234 =>
      oStore (some 26) x9 x232 h229 fun h235 =>
      oLend kern_done [x234] h235 (fun v238 h239 => finish objs.length (.pan v238) h239) fun w260 h261 => oFrz w260 h261 fun x236 h237 =>
      oFieldA 0 x28 fun x240 =>
      oStore none x240 x233 h237 fun h241 =>
      oLoad (some 26) x9 h241 fun x242 =>
      oCall kern_act_put [a0, x242] h241 (fun v245 h246 => finish objs.length (.pan v245) h246) fun w258 h259 => oFrz w258 h259 fun x243 h244 =>
      oLoad (some 26) x28 h244 fun x247 =>
      oCall kern_act_put [a0, x247] h244 (fun v250 h251 => finish objs.length (.pan v250) h251) fun w256 h257 => oFrz w256 h257 fun x248 h249 =>
      oNilCheck a0 fun x252 =>
      oFieldA 40 x252 fun x253 =>
      oFieldA 1 x253 fun x254 =>
      oStore none x254 x233 h249 fun h255 =>
      finish objs.length (.ok (.s (.tuple #[]))) h255
  | .exit i223 => none
  | .ret => finish objs.length (.ok (.s (.tuple #[]))) h221
  | .panic v224 => finish objs.length (.pan v224) h221)

def kern_act_make_k4 (a0 : A) (x38 : A) (x9 : A) (x28 : A) (objs : Heap) : Ex → List A → Heap → Option (Out × Heap) := fun e167 vs165 h166 =>
      (match e167 with
  | .normal => oJoin (oJoin (oNilCheck a0 fun x170 =>
      oFieldA 0 x170 fun x171 =>
      oFieldA 0 x171 fun x172 =>
      oLoad none x172 h166 fun x173 =>
      oCmp .eql x173 (.s (.int .i64 3)) fun x174 =>
      oGuard x174 false (fun _ => oNilCheck a0 fun x175 =>
      oFieldA 0 x175 fun x176 =>
      oFieldA 0 x176 fun x177 =>
      oLoad none x177 h166 fun x178 =>
      oCmp .eql x178 (.s (.int .i64 4)) fun x179 =>
      (trim true h166.length [x179] h166).map fun p => (Ex.normal, p.1, p.2))
      (fun _ => (trim true h166.length [(.s (.bool true))] h166).map fun p => (Ex.normal, p.1, p.2))) (kern_act_make_k2 x38 a0 h166)) (kern_act_make_k3 x9 x28 objs a0)
  | .exit i168 => none
  | .ret => finish objs.length (.ok (.s (.tuple #[]))) h166
  | .panic v169 => finish objs.length (.pan v169) h166)

/-- (*bailey/kern.act).make -/
def kern_act_make : CallFn := fun args objs =>
match args with
| [a0] =>
oNilCheck a0 fun x1 =>
      oFieldA 0 x1 fun x2 =>
      oFieldA 3 x2 fun x3 =>
      oLoad none x3 objs fun x4 =>
      oCall kern_act_open [a0, x4] objs (fun v7 h8 => finish objs.length (.pan v7) h8) fun w268 h269 => oFrz w268 h269 fun x5 h6 =>
      oNew none (some 26) (.agg [.s (.int .u64 0), .s (.int .i64 0), .s (.int .i64 0), .s (.slice none 0 0), .s (.int .i64 0), .s (.slice none 0 0), .s (.int .i64 0), .s (.int .i64 0), .s (.slice none 0 0), .s (.slice none 0 0), .s (.int .u64 0), .s (.int .u64 0), .s (.int .u64 0), .s (.int .u64 0), .s (.int .i64 0), .s (.int .i64 0), .s (.bool false), .s (.int .u64 0), .s (.int .u64 0), .s (.int .u64 0), .s (.int .u64 0), .s (.int .u64 0), .s (.int .u64 0), .s (.int .u64 0), .s (.int .u64 0), .s (.int .u64 0)]) h6 fun x9 h10 =>
      oStore (some 26) x9 x5 h10 fun h11 =>
      oLoad (some 26) x9 h11 fun x12 =>
      oLend kern_act_writes [a0, x12] h11 (fun v15 h16 => finish objs.length (.pan v15) h16) fun w266 h267 => oFrz w266 h267 fun x13 h14 =>
      oNilCheck a0 fun x17 =>
      oFieldA 0 x17 fun x18 =>
      oFieldA 0 x18 fun x19 =>
      oLoadD h14.length [] none x19 (h14 ++ List.replicate 1 .res) fun x20 h21 =>
      oNilCheck a0 fun x22 =>
      oFieldA 0 x22 fun x23 =>
      oFieldA 6 x23 fun x24 =>
      oLoadD h14.length [] (some 2) x24 h21 fun x25 h26 =>
      oBuildP [.s (.int .u64 0), .s (.int .i64 0), .s (.int .i64 0), .s (.slice none 0 0), .s (.int .i64 0), .s (.slice none 0 0), .s (.int .i64 0), .s (.int .i64 0), .s (.slice none 0 0), .s (.slice none 0 0), .s (.int .u64 0), .s (.int .u64 0), .s (.int .u64 0), .s (.int .u64 0), .s (.int .i64 0), .s (.int .i64 0), .s (.bool false), .s (.int .u64 0), .s (.int .u64 0), .s (.int .u64 0), .s (.int .u64 0), .s (.int .u64 0), .s (.int .u64 0), .s (.int .u64 0), .s (.int .u64 0), .s (.int .u64 0)] [(1, none, x20), (2, (some 2), x25), (6, none, (.s (.int .i64 1)))] fun x27 =>
      oNew (some h14.length) (some 26) (.agg [.s (.int .u64 0), .s (.int .i64 0), .s (.int .i64 0), .s (.slice none 0 0), .s (.int .i64 0), .s (.slice none 0 0), .s (.int .i64 0), .s (.int .i64 0), .s (.slice none 0 0), .s (.slice none 0 0), .s (.int .u64 0), .s (.int .u64 0), .s (.int .u64 0), .s (.int .u64 0), .s (.int .i64 0), .s (.int .i64 0), .s (.bool false), .s (.int .u64 0), .s (.int .u64 0), .s (.int .u64 0), .s (.int .u64 0), .s (.int .u64 0), .s (.int .u64 0), .s (.int .u64 0), .s (.int .u64 0), .s (.int .u64 0)]) h26 fun x28 h29 =>
      oStore (some 26) x28 x27 h29 fun h30 =>
      oNilCheck a0 fun x31 =>
      oFieldA 14 x31 fun x32 =>
      oLoad (some 26) x32 h30 fun x33 =>
      oLend gate_Who [x33] h30 (fun v36 h37 => finish objs.length (.pan v36) h37) fun w264 h265 => oFrz w264 h265 fun x34 h35 =>
      oNew none (some 4) (.agg [.s (.int .i64 0), .s (.slice none 0 0), .s (.int .i64 0), .s (.slice none 0 0)]) h35 fun x38 h39 =>
      oStore (some 4) x38 x34 h39 fun h40 =>
      oJoin (oNilCheck a0 fun x41 =>
      oFieldA 0 x41 fun x42 =>
      oFieldA 0 x42 fun x43 =>
      oLoad none x43 h40 fun x44 =>
      oCmp .eql x44 (.s (.int .i64 1)) fun x45 =>
      oCond x45 (oNilCheck a0 fun x46 =>
      oFieldA 0 x46 fun x47 =>
      oFieldA 1 x47 fun x48 =>
      oLoadD h40.length (wrL h40 [(x28, false)]) none x48 h40 fun x49 h50 =>
      oFieldA 1 x28 fun x51 =>
      oStoreD h40.length (wrL h40 [(x28, false)]) none x51 (.s (.int .i64 1)) h50 fun h52 =>
      oFieldA 6 x28 fun x53 =>
      oStoreD h40.length (wrL h40 [(x28, false)]) none x53 x49 h52 fun h54 =>
      oNilCheck a0 fun x55 =>
      oFieldA 0 x55 fun x56 =>
      oFieldA 1 x56 fun x57 =>
      oLoad none x57 h54 fun x58 =>
      oCmp .geq x58 (.s (.int .i64 1)) fun x59 =>
      oGuard x59 true (fun _ => oNilCheck a0 fun x60 =>
      oFieldA 0 x60 fun x61 =>
      oFieldA 1 x61 fun x62 =>
      oLoad none x62 h54 fun x63 =>
      oCmp .leq x63 (.s (.int .i64 48)) fun x64 =>
      oLend kern_check [x64, (.s (.int .i64 205))] h54 (fun v67 h68 => some (Ex.panic v67, [], h68)) fun w69 h70 => oFrz w69 h70 fun x65 h66 =>
      (trim true h40.length [] h66).map fun p => (Ex.normal, p.1, p.2))
      (fun _ => oLend kern_check [(.s (.bool false)), (.s (.int .i64 205))] h54 (fun v73 h74 => some (Ex.panic v73, [], h74)) fun w75 h76 => oFrz w75 h76 fun x71 h72 =>
      (trim true h40.length [] h72).map fun p => (Ex.normal, p.1, p.2)))
      (oCmp .eql x44 (.s (.int .i64 2)) fun x77 =>
      oCond x77 (oJoin (oNilCheck a0 fun x78 =>
      oFieldA 0 x78 fun x79 =>
      oFieldA 1 x79 fun x80 =>
      oLoad none x80 h40 fun x81 =>
      oCmp .geq x81 (.s (.int .i64 1)) fun x82 =>
      oGuard x82 true (fun _ => oNilCheck a0 fun x83 =>
      oFieldA 0 x83 fun x84 =>
      oFieldA 1 x84 fun x85 =>
      oLoad none x85 h40 fun x86 =>
      oCmp .leq x86 (.s (.int .i64 4)) fun x87 =>
      oLend kern_check [x87, (.s (.int .i64 205))] h40 (fun v90 h91 => some (Ex.panic v90, [], h91)) fun w92 h93 => oFrz w92 h93 fun x88 h89 =>
      (trim true h40.length [] h89).map fun p => (Ex.normal, p.1, p.2))
      (fun _ => oLend kern_check [(.s (.bool false)), (.s (.int .i64 205))] h40 (fun v96 h97 => some (Ex.panic v96, [], h97)) fun w98 h99 => oFrz w98 h99 fun x94 h95 =>
      (trim true h40.length [] h95).map fun p => (Ex.normal, p.1, p.2))) (kern_act_make_k1 a0 x28 h40))
      (oCmp .eql x44 (.s (.int .i64 3)) fun x125 =>
      oCond x125 (oNilCheck a0 fun x126 =>
      oFieldA 0 x126 fun x127 =>
      oFieldA 8 x127 fun x128 =>
      oLoadD h40.length (wrL h40 [(x28, false)]) (some 2) x128 h40 fun x129 h130 =>
      oNilCheck a0 fun x131 =>
      oFieldA 13 x131 fun x132 =>
      oLoadD h40.length (wrL h40 [(x28, false)]) none x132 h130 fun x133 h134 =>
      oFieldA 1 x28 fun x135 =>
      oStoreD h40.length (wrL h40 [(x28, false)]) none x135 (.s (.int .i64 2)) h134 fun h136 =>
      oFieldA 4 x28 fun x137 =>
      oStoreD h40.length (wrL h40 [(x28, false)]) (some 2) x137 x129 h136 fun h138 =>
      oFieldA 15 x28 fun x139 =>
      oStoreD h40.length (wrL h40 [(x28, false)]) none x139 x133 h138 fun h140 =>
      (trim true h40.length [] h140).map fun p => (Ex.normal, p.1, p.2))
      (oCmp .eql x44 (.s (.int .i64 4)) fun x141 =>
      oCond x141 (oNilCheck a0 fun x142 =>
      oFieldA 0 x142 fun x143 =>
      oFieldA 8 x143 fun x144 =>
      oLoadD h40.length (wrL h40 [(x28, false)]) (some 2) x144 h40 fun x145 h146 =>
      oNilCheck a0 fun x147 =>
      oFieldA 0 x147 fun x148 =>
      oFieldA 11 x148 fun x149 =>
      oLoadD h40.length (wrL h40 [(x28, false)]) none x149 h146 fun x150 h151 =>
      oCallF h40.length (wrL h40 [(x28, false)]) num_Canon [x150] h151 fun w160 h161 => oFrz w160 h161 fun x152 h153 =>
      oFieldA 1 x28 fun x154 =>
      oStoreD h40.length (wrL h40 [(x28, false)]) none x154 (.s (.int .i64 3)) h153 fun h155 =>
      oFieldA 4 x28 fun x156 =>
      oStoreD h40.length (wrL h40 [(x28, false)]) (some 2) x156 x145 h155 fun h157 =>
      oFieldA 17 x28 fun x158 =>
      oStoreD h40.length (wrL h40 [(x28, false)]) none x158 x152 h157 fun h159 =>
      (trim true h40.length [] h159).map fun p => (Ex.normal, p.1, p.2))
      (oCmp .eql x44 (.s (.int .i64 5)) fun x162 =>
      oCond x162 (oFieldA 1 x28 fun x163 =>
      oStore none x163 (.s (.int .i64 5)) h40 fun h164 =>
      (trim true h40.length [] h164).map fun p => (Ex.normal, p.1, p.2))
      ((trim true h40.length [] h40).map fun p => (Ex.normal, p.1, p.2))))))) (kern_act_make_k4 a0 x38 x9 x28 objs)
| _ => none

/-- bailey/dir.Has -/
def dir_Has : CallFn := fun args objs =>
match args with
| [a0, a1] =>
oNew none (some 26) a0 objs fun x1 h2 =>
      oLoad (some 26) x1 h2 fun x3 =>
      oLend dir_place [x3, a1] h2 (fun v6 h7 => finish objs.length (.pan v6) h7) fun w10 h11 => oFrz w10 h11 fun x4 h5 =>
      oExtract 0 x4 fun x8 =>
      oExtract 1 x4 fun x9 =>
      finish objs.length (.ok x9) h5
| _ => none

/-- (*bailey/kern.act).held -/
def kern_act_held : CallFn := fun args objs =>
match args with
| [a0, a1, a2] =>
oNew none (some 26) (.agg [.s (.int .u64 0), .s (.int .i64 0), .s (.int .i64 0), .s (.slice none 0 0), .s (.int .i64 0), .s (.slice none 0 0), .s (.int .i64 0), .s (.int .i64 0), .s (.slice none 0 0), .s (.slice none 0 0), .s (.int .u64 0), .s (.int .u64 0), .s (.int .u64 0), .s (.int .u64 0), .s (.int .i64 0), .s (.int .i64 0), .s (.bool false), .s (.int .u64 0), .s (.int .u64 0), .s (.int .u64 0), .s (.int .u64 0), .s (.int .u64 0), .s (.int .u64 0), .s (.int .u64 0), .s (.int .u64 0), .s (.int .u64 0)]) objs fun x1 h2 =>
      oCall kern_act_open [a0, a1] h2 (fun v5 h6 => finish objs.length (.pan v5) h6) fun w27 h28 => oFrz w27 h28 fun x3 h4 =>
      oLend dir_Has [x3, a2] h4 (fun v9 h10 => finish objs.length (.pan v9) h10) fun w25 h26 => oFrz w25 h26 fun x7 h8 =>
      oLend kern_check [x7, (.s (.int .i64 202))] h8 (fun v13 h14 => finish objs.length (.pan v13) h14) fun w23 h24 => oFrz w23 h24 fun x11 h12 =>
      oCall kern_act_find [a0, a2] h12 (fun v17 h18 => finish objs.length (.pan v17) h18) fun w21 h22 => oFrz w21 h22 fun x15 h16 =>
      oStore (some 26) x1 x15 h16 fun h19 =>
      oLoad (some 26) x1 h19 fun r20 =>
      finish objs.length (.ok r20) h19
| _ => none

def kern_act_run_k1 (a0 : A) (objs : Heap) : Ex → List A → Heap → Option (Out × Heap) := fun e153 vs151 h152 =>
      (match e153 with
  | .normal => oCond (vs151.getD 0 .any) (oCall (fun _ _ => none) [a0] h152 (fun v158 h159 => finish objs.length (.pan v158) h159) fun w160 h161 => oFrz w160 h161 fun x156 h157 =>
      finish objs.length (.ok (.s (.tuple #[]))) h157)
      (none)
  | .exit i154 => if i154 = 0 then finish objs.length (.ok (.s (.tuple #[]))) h152 else none
  | .ret => finish objs.length (.ok (.s (.tuple #[]))) h152
  | .panic v155 => finish objs.length (.pan v155) h152)

def kern_act_run_k2 (a0 : A) (objs : Heap) (x53 : A) : Ex → List A → Heap → Option (Out × Heap) := fun e119 vs117 h118 =>
      (match e119 with
  | .normal => oCond (vs117.getD 0 .any) (oCall (fun _ _ => none) [a0] h118 (fun v124 h125 => finish objs.length (.pan v124) h125) fun w126 h127 => oFrz w126 h127 fun x122 h123 =>
      finish objs.length (.ok (.s (.tuple #[]))) h123)
      (oCmp .eql x53 (.s (.int .i64 19)) fun x128 =>
      oCond x128 (oNilCheck a0 fun x129 =>
      oFieldA 0 x129 fun x130 =>
      oFieldA 3 x130 fun x131 =>
      oLoadD h118.length [] none x131 h118 fun x132 h133 =>
      oNilCheck a0 fun x134 =>
      oFieldA 0 x134 fun x135 =>
      oFieldA 4 x135 fun x136 =>
      oLoadD h118.length [] none x136 h133 fun x137 h138 =>
      oCall kern_act_held [a0, x132, x137] h138 (fun _ _ => none) fun w147 h148 => oFrz w147 h148 fun x139 h140 =>
      oField 1 none x139 fun x141 =>
      oConv .u64 x141 fun x142 =>
      oNilCheck a0 fun x143 =>
      oFieldA 40 x143 fun x144 =>
      oFieldA 1 x144 fun x145 =>
      oStore none x145 x142 h140 fun h146 =>
      finish objs.length (.ok (.s (.tuple #[]))) h146)
      (oJoin (oCmp .eql x53 (.s (.int .i64 20)) fun x149 =>
      oCond x149 ((trim true h118.length [x149] h118).map fun p => (Ex.normal, p.1, p.2))
      (oCmp .eql x53 (.s (.int .i64 21)) fun x150 =>
      (trim true h118.length [x150] h118).map fun p => (Ex.normal, p.1, p.2))) (kern_act_run_k1 a0 objs)))
  | .exit i120 => if i120 = 0 then finish objs.length (.ok (.s (.tuple #[]))) h118 else none
  | .ret => finish objs.length (.ok (.s (.tuple #[]))) h118
  | .panic v121 => finish objs.length (.pan v121) h118)

def kern_act_run_k3 (a0 : A) (objs : Heap) (x53 : A) : Ex → List A → Heap → Option (Out × Heap) := fun e105 vs103 h104 =>
      (match e105 with
  | .normal => oCond (vs103.getD 0 .any) (oCall (fun _ _ => none) [a0] h104 (fun v110 h111 => finish objs.length (.pan v110) h111) fun w112 h113 => oFrz w112 h113 fun x108 h109 =>
      finish objs.length (.ok (.s (.tuple #[]))) h109)
      (oJoin (oCmp .eql x53 (.s (.int .i64 16)) fun x114 =>
      oCond x114 ((trim true h104.length [x114] h104).map fun p => (Ex.normal, p.1, p.2))
      (oCmp .eql x53 (.s (.int .i64 17)) fun x115 =>
      oCond x115 ((trim true h104.length [x115] h104).map fun p => (Ex.normal, p.1, p.2))
      (oCmp .eql x53 (.s (.int .i64 18)) fun x116 =>
      (trim true h104.length [x116] h104).map fun p => (Ex.normal, p.1, p.2)))) (kern_act_run_k2 a0 objs x53))
  | .exit i106 => if i106 = 0 then finish objs.length (.ok (.s (.tuple #[]))) h104 else none
  | .ret => finish objs.length (.ok (.s (.tuple #[]))) h104
  | .panic v107 => finish objs.length (.pan v107) h104)

def kern_act_run_k4 (a0 : A) (objs : Heap) (x53 : A) : Ex → List A → Heap → Option (Out × Heap) := fun e88 vs86 h87 =>
      (match e88 with
  | .normal => oCond (vs86.getD 0 .any) (oCall (fun _ _ => none) [a0] h87 (fun v93 h94 => finish objs.length (.pan v93) h94) fun w95 h96 => oFrz w95 h96 fun x91 h92 =>
      finish objs.length (.ok (.s (.tuple #[]))) h92)
      (oJoin (oCmp .eql x53 (.s (.int .i64 11)) fun x97 =>
      oCond x97 ((trim true h87.length [x97] h87).map fun p => (Ex.normal, p.1, p.2))
      (oCmp .eql x53 (.s (.int .i64 12)) fun x98 =>
      oCond x98 ((trim true h87.length [x98] h87).map fun p => (Ex.normal, p.1, p.2))
      (oCmp .eql x53 (.s (.int .i64 13)) fun x99 =>
      oCond x99 ((trim true h87.length [x99] h87).map fun p => (Ex.normal, p.1, p.2))
      (oCmp .eql x53 (.s (.int .i64 14)) fun x100 =>
      oCond x100 ((trim true h87.length [x100] h87).map fun p => (Ex.normal, p.1, p.2))
      (oCmp .eql x53 (.s (.int .i64 15)) fun x101 =>
      oCond x101 ((trim true h87.length [x101] h87).map fun p => (Ex.normal, p.1, p.2))
      (oCmp .eql x53 (.s (.int .i64 22)) fun x102 =>
      (trim true h87.length [x102] h87).map fun p => (Ex.normal, p.1, p.2))))))) (kern_act_run_k3 a0 objs x53))
  | .exit i89 => if i89 = 0 then finish objs.length (.ok (.s (.tuple #[]))) h87 else none
  | .ret => finish objs.length (.ok (.s (.tuple #[]))) h87
  | .panic v90 => finish objs.length (.pan v90) h87)

def kern_act_run_k5 (a0 : A) (objs : Heap) (x53 : A) : Ex → List A → Heap → Option (Out × Heap) := fun e74 vs72 h73 =>
      (match e74 with
  | .normal => oCond (vs72.getD 0 .any) (oCall (fun _ _ => none) [a0] h73 (fun v79 h80 => finish objs.length (.pan v79) h80) fun w81 h82 => oFrz w81 h82 fun x77 h78 =>
      finish objs.length (.ok (.s (.tuple #[]))) h78)
      (oJoin (oCmp .eql x53 (.s (.int .i64 8)) fun x83 =>
      oCond x83 ((trim true h73.length [x83] h73).map fun p => (Ex.normal, p.1, p.2))
      (oCmp .eql x53 (.s (.int .i64 9)) fun x84 =>
      oCond x84 ((trim true h73.length [x84] h73).map fun p => (Ex.normal, p.1, p.2))
      (oCmp .eql x53 (.s (.int .i64 10)) fun x85 =>
      (trim true h73.length [x85] h73).map fun p => (Ex.normal, p.1, p.2)))) (kern_act_run_k4 a0 objs x53))
  | .exit i75 => if i75 = 0 then finish objs.length (.ok (.s (.tuple #[]))) h73 else none
  | .ret => finish objs.length (.ok (.s (.tuple #[]))) h73
  | .panic v76 => finish objs.length (.pan v76) h73)

def kern_act_run_k6 (a0 : A) (objs : Heap) (x53 : A) : Ex → List A → Heap → Option (Out × Heap) := fun e61 vs59 h60 =>
      (match e61 with
  | .normal => oCond (vs59.getD 0 .any) (oCall kern_act_make [a0] h60 (fun v66 h67 => finish objs.length (.pan v66) h67) fun w68 h69 => oFrz w68 h69 fun x64 h65 =>
      finish objs.length (.ok (.s (.tuple #[]))) h65)
      (oJoin (oCmp .eql x53 (.s (.int .i64 6)) fun x70 =>
      oCond x70 ((trim true h60.length [x70] h60).map fun p => (Ex.normal, p.1, p.2))
      (oCmp .eql x53 (.s (.int .i64 7)) fun x71 =>
      (trim true h60.length [x71] h60).map fun p => (Ex.normal, p.1, p.2))) (kern_act_run_k5 a0 objs x53))
  | .exit i62 => if i62 = 0 then finish objs.length (.ok (.s (.tuple #[]))) h60 else none
  | .ret => finish objs.length (.ok (.s (.tuple #[]))) h60
  | .panic v63 => finish objs.length (.pan v63) h60)

def kern_act_run_k7 (x14 : A) (a0 : A) (objs : Heap) : Ex → List A → Heap → Option (Out × Heap) := fun e43 vs41 h42 =>
      (match e43 with
  | .normal => oLoad (some 26) x14 h42 fun x46 =>
      oNilCheck a0 fun x47 =>
      oFieldA 14 x47 fun x48 =>
      oStore (some 26) x48 x46 h42 fun h49 =>
      oNilCheck a0 fun x50 =>
      oFieldA 0 x50 fun x51 =>
      oFieldA 0 x51 fun x52 =>
      oLoad none x52 h49 fun x53 =>
      oJoin (oCmp .eql x53 (.s (.int .i64 1)) fun x54 =>
      oCond x54 ((trim true h49.length [x54] h49).map fun p => (Ex.normal, p.1, p.2))
      (oCmp .eql x53 (.s (.int .i64 2)) fun x55 =>
      oCond x55 ((trim true h49.length [x55] h49).map fun p => (Ex.normal, p.1, p.2))
      (oCmp .eql x53 (.s (.int .i64 3)) fun x56 =>
      oCond x56 ((trim true h49.length [x56] h49).map fun p => (Ex.normal, p.1, p.2))
      (oCmp .eql x53 (.s (.int .i64 4)) fun x57 =>
      oCond x57 ((trim true h49.length [x57] h49).map fun p => (Ex.normal, p.1, p.2))
      (oCmp .eql x53 (.s (.int .i64 5)) fun x58 =>
      (trim true h49.length [x58] h49).map fun p => (Ex.normal, p.1, p.2)))))) (kern_act_run_k6 a0 objs x53)
  | .exit i44 => none
  | .ret => finish objs.length (.ok (.s (.tuple #[]))) h42
  | .panic v45 => finish objs.length (.pan v45) h42)

/-- (*bailey/kern.act).run -/
def kern_act_run : CallFn := fun args objs =>
match args with
| [a0] =>
oNilCheck a0 fun x1 =>
      oFieldA 12 x1 fun x2 =>
      oLoadD objs.length [] none x2 (objs ++ List.replicate 1 .res) fun x3 h4 =>
      oNilCheck a0 fun x5 =>
      oFieldA 14 x5 fun x6 =>
      oFieldA 0 x6 fun x7 =>
      oLoadD objs.length [] none x7 h4 fun x8 h9 =>
      oCallF objs.length [] graph_Find [x3, x8] h9 fun w162 h163 => oFrz w162 h163 fun x10 h11 =>
      oExtract 0 x10 fun x12 =>
      oExtract 1 x10 fun x13 =>
      oNew (some objs.length) (some 26) (.agg [.s (.int .u64 0), .s (.int .i64 0), .s (.int .i64 0), .s (.slice none 0 0), .s (.int .i64 0), .s (.slice none 0 0), .s (.int .i64 0), .s (.int .i64 0), .s (.slice none 0 0), .s (.slice none 0 0), .s (.int .u64 0), .s (.int .u64 0), .s (.int .u64 0), .s (.int .u64 0), .s (.int .i64 0), .s (.int .i64 0), .s (.bool false), .s (.int .u64 0), .s (.int .u64 0), .s (.int .u64 0), .s (.int .u64 0), .s (.int .u64 0), .s (.int .u64 0), .s (.int .u64 0), .s (.int .u64 0), .s (.int .u64 0)]) h11 fun x14 h15 =>
      oStore (some 26) x14 x12 h15 fun h16 =>
      oJoin (oGuard x13 true (fun _ => oFieldA 1 x14 fun x17 =>
      oLoad none x17 h16 fun x18 =>
      oCmp .eql x18 (.s (.int .i64 2)) fun x19 =>
      oGuard x19 true (fun _ => oFieldA 16 x14 fun x20 =>
      oLoad none x20 h16 fun x21 =>
      oNot x21 fun x22 =>
      oLend kern_check [x22, (.s (.int .i64 206))] h16 (fun v25 h26 => some (Ex.panic v25, [], h26)) fun w27 h28 => oFrz w27 h28 fun x23 h24 =>
      (trim true h16.length [] h24).map fun p => (Ex.normal, p.1, p.2))
      (fun _ => oLend kern_check [(.s (.bool false)), (.s (.int .i64 206))] h16 (fun v31 h32 => some (Ex.panic v31, [], h32)) fun w33 h34 => oFrz w33 h34 fun x29 h30 =>
      (trim true h16.length [] h30).map fun p => (Ex.normal, p.1, p.2)))
      (fun _ => oLend kern_check [(.s (.bool false)), (.s (.int .i64 206))] h16 (fun v37 h38 => some (Ex.panic v37, [], h38)) fun w39 h40 => oFrz w39 h40 fun x35 h36 =>
      (trim true h16.length [] h36).map fun p => (Ex.normal, p.1, p.2))) (kern_act_run_k7 x14 a0 objs)
| _ => none

def kern_Step_l1 (x22 : A) (x21 : A) (x5 : A) (h16 : Heap) : List A × Heap → Option ((List A × Heap) ⊕ (Ex × List A × Heap)) := fun s23 =>
      oCmp .lss (s23.1.getD 0 .any) x22 fun x24 =>
      oCond x24 (oIdxA 26 x21 (s23.1.getD 0 .any) fun x25 =>
      oLoad (some 26) x25 s23.2 fun x26 =>
      oNew none (some 26) (.agg [.s (.int .u64 0), .s (.int .i64 0), .s (.int .i64 0), .s (.slice none 0 0), .s (.int .i64 0), .s (.slice none 0 0), .s (.int .i64 0), .s (.int .i64 0), .s (.slice none 0 0), .s (.slice none 0 0), .s (.int .u64 0), .s (.int .u64 0), .s (.int .u64 0), .s (.int .u64 0), .s (.int .i64 0), .s (.int .i64 0), .s (.bool false), .s (.int .u64 0), .s (.int .u64 0), .s (.int .u64 0), .s (.int .u64 0), .s (.int .u64 0), .s (.int .u64 0), .s (.int .u64 0), .s (.int .u64 0), .s (.int .u64 0)]) s23.2 fun x27 h28 =>
      oStore (some 26) x27 x26 h28 fun h29 =>
      oLoadD h29.length (wrL h29 [(x5, true)]) none x5 (h29 ++ List.replicate 2 .res) fun x30 h31 =>
      oLoadD h29.length (wrL h29 [(x5, true)]) (some 26) x27 h31 fun x32 h33 =>
      oCallF h29.length (wrL h29 [(x5, true)]) thing_Copy [x32] h33 fun x34 h35 =>
      oNewSlice (some h29.length) 26 (asRows (some 26) [x34]) h35 fun x36 h37 =>
      oAppendD h29.length (wrL h29 [(x5, true)]) (h29.length + 1) 26 272 x30 x36 h37 fun x38 h39 =>
      oStore none x5 x38 h39 fun h40 =>
      oAr .add (s23.1.getD 0 .any) (.s (.int .i64 1)) fun x41 =>
      (trim true h16.length [x41] h40).map .inl)
      ((trim true h16.length [] s23.2).map fun p => .inr (Ex.exit 0, p.1, p.2))

def kern_Step_k2 (x7 : A) (x5 : A) (x13 : A) (objs : Heap) : Ex → List A → Heap → Option (Out × Heap) := fun e42 vs43 h44 =>
      (match e42 with
  | .normal => none
  | .exit i45 => if i45 = 0 then oLoadD h44.length (wrL h44 [(x7, false)]) none x5 h44 fun x47 h48 =>
      oNilCheck x13 fun x49 =>
      oFieldA 40 x49 fun x50 =>
      oLoadD h44.length (wrL h44 [(x7, false)]) (some 5) x50 h48 fun x51 h52 =>
      oStoreD h44.length (wrL h44 [(x7, false)]) none x5 x47 h52 fun h53 =>
      oStoreD h44.length (wrL h44 [(x7, false)]) (some 5) x7 x51 h53 fun h54 =>
      oLoad none x5 h54 fun r55 =>
      oLoad (some 5) x7 h54 fun r56 =>
      finish objs.length (.ok (.tup [r55, r56])) h54 else none
  | .ret => oLoad none x5 h44 fun r57 =>
      oLoad (some 5) x7 h44 fun r58 =>
      finish objs.length (.ok (.tup [r57, r58])) h44
  | .panic v46 => none)

/-- bailey/kern.Step -/
def kern_Step : CallFn := fun args objs =>
match args with
| [a0, a1, a2, a3] =>
oNew none none a0 objs fun x1 h2 =>
      oNew none (some 12) a3 h2 fun x3 h4 =>
      oNew none none (.s (.slice none 0 0)) h4 fun x5 h6 =>
      oNew none (some 5) (.agg [.s (.int .i64 0), .s (.int .u64 0), .s (.slice none 0 0), .s (.slice none 0 0), .s (.int .i64 0)]) h6 fun x7 h8 =>
      oLoad (some 12) x3 h8 fun x9 =>
      oLoad none x1 h8 fun x10 =>
      oBuildP [.s (.int .u64 0), .s (.int .i64 0), .s (.int .i64 0), .s (.slice none 0 0), .s (.int .i64 0), .s (.slice none 0 0), .s (.int .i64 0), .s (.int .i64 0), .s (.slice none 0 0), .s (.slice none 0 0), .s (.int .u64 0), .s (.int .u64 0), .s (.int .u64 0), .s (.int .u64 0), .s (.int .i64 0), .s (.int .i64 0), .s (.bool false), .s (.int .u64 0), .s (.int .u64 0), .s (.int .u64 0), .s (.int .u64 0), .s (.int .u64 0), .s (.int .u64 0), .s (.int .u64 0), .s (.int .u64 0), .s (.int .u64 0)] [(0, none, a2)] fun x11 =>
      oBuildP [.s (.int .i64 0), .s (.int .i64 0), .s (.int .i64 0), .s (.int .u64 0), .s (.int .u64 0), .s (.int .u64 0), .s (.int .i64 0), .s (.slice none 0 0), .s (.int .i64 0), .s (.slice none 0 0), .s (.slice none 0 0), .s (.int .u64 0), .s (.slice none 0 0), .s (.int .i64 0), .s (.int .u64 0), .s (.int .i64 0), .s (.int .i64 0), .s (.slice none 0 0), .s (.int .i64 0), .s (.slice none 0 0), .s (.int .i64 0), .s (.int .i64 0), .s (.slice none 0 0), .s (.slice none 0 0), .s (.int .u64 0), .s (.int .u64 0), .s (.int .u64 0), .s (.int .u64 0), .s (.int .i64 0), .s (.int .i64 0), .s (.bool false), .s (.int .u64 0), .s (.int .u64 0), .s (.int .u64 0), .s (.int .u64 0), .s (.int .u64 0), .s (.int .u64 0), .s (.int .u64 0), .s (.int .u64 0), .s (.int .u64 0), .s (.int .i64 0), .s (.int .u64 0), .s (.slice none 0 0), .s (.slice none 0 0), .s (.int .i64 0)] [(0, (some 12), x9), (12, none, x10), (13, none, a1), (14, (some 26), x11)] fun x12 =>
      oNew none (some 45) x12 h8 fun x13 h14 =>
      oCall kern_act_run [x13] h14 (fun v17 h18 => none) fun w59 h60 => oFrz w59 h60 fun x15 h16 =>
      oNilCheck x13 fun x19 =>
      oFieldA 12 x19 fun x20 =>
      oLoad none x20 h16 fun x21 =>
      oLen x21 fun x22 =>
      oLoop (kern_Step_l1 x22 x21 x5 h16) ([(.s (.int .i64 0))], h16) (kern_Step_k2 x7 x5 x13 objs)
| _ => none

def law20_kernAlive_k1 (objs : Heap) (x5 : A) : Ex → List A → Heap → Option (Out × Heap) := fun e12 vs10 h11 =>
      (match e12 with
  | .normal => oCond (vs10.getD 0 .any) (finish objs.length (.ok (.s (.bool false))) h11)
      (oBuildP [.s (.int .i64 0), .s (.slice none 0 0)] [(0, none, (.s (.int .i64 2)))] fun x15 =>
      oBuildP [.s (.int .i64 0), .s (.int .i64 0), .s (.int .i64 0), .s (.int .u64 0), .s (.int .u64 0), .s (.int .u64 0), .s (.int .i64 0), .s (.slice none 0 0), .s (.int .i64 0), .s (.slice none 0 0), .s (.slice none 0 0), .s (.int .u64 0)] [(0, none, (.s (.int .i64 2))), (1, none, (.s (.int .i64 1))), (3, none, (.s (.int .u64 1))), (6, (some 2), x15)] fun x16 =>
      oLend kern_Step [x5, (.s (.int .i64 0)), (.s (.int .u64 66)), x16] h11 (fun v19 h20 => finish objs.length (.pan v19) h20) fun w43 h44 => oFrz w43 h44 fun x17 h18 =>
      oExtract 0 x17 fun x21 =>
      oExtract 1 x17 fun x22 =>
      oNew none (some 5) (.agg [.s (.int .i64 0), .s (.int .u64 0), .s (.slice none 0 0), .s (.slice none 0 0), .s (.int .i64 0)]) h18 fun x23 h24 =>
      oStore (some 5) x23 x22 h24 fun h25 =>
      oFieldA 0 x23 fun x26 =>
      oLoad none x26 h25 fun x27 =>
      oCmp .eql x27 (.s (.int .i64 0)) fun x28 =>
      oGuard x28 true (fun _ => oFieldA 1 x23 fun x29 =>
      oLoad none x29 h25 fun x30 =>
      oCmp .eql x30 (.s (.int .u64 67)) fun x31 =>
      oGuard x31 true (fun _ => oLen x21 fun x32 =>
      oCmp .eql x32 (.s (.int .i64 4)) fun x33 =>
      oGuard x33 true (fun _ => oIdxA 26 x21 (.s (.int .i64 3)) fun x34 =>
      oFieldA 1 x34 fun x35 =>
      oLoad none x35 h25 fun x36 =>
      oCmp .eql x36 (.s (.int .i64 4)) fun x37 =>
      oGuard x37 true (fun _ => oIdxA 26 x21 (.s (.int .i64 3)) fun x38 =>
      oFieldA 9 x38 fun x39 =>
      oLoad none x39 h25 fun x40 =>
      oLen x40 fun x41 =>
      oCmp .eql x41 (.s (.int .i64 32)) fun x42 =>
      finish objs.length (.ok x42) h25)
      (fun _ => finish objs.length (.ok (.s (.bool false))) h25))
      (fun _ => finish objs.length (.ok (.s (.bool false))) h25))
      (fun _ => finish objs.length (.ok (.s (.bool false))) h25))
      (fun _ => finish objs.length (.ok (.s (.bool false))) h25))
  | .exit i13 => none
  | .ret => finish objs.length (.ok (.s (.bool false))) h11
  | .panic v14 => finish objs.length (.pan v14) h11)

/-- bailey/baileylaw20.kernAlive -/
def law20_kernAlive : CallFn := fun args objs =>
match args with
| [] =>
oLend kern_World [(.s (.int .i64 9))] objs (fun v3 h4 => finish objs.length (.pan v3) h4) fun w45 h46 => oFrz w45 h46 fun x1 h2 =>
      oExtract 0 x1 fun x5 =>
      oExtract 1 x1 fun x6 =>
      oJoin (oCmp .neq x6 (.s (.int .i64 0)) fun x7 =>
      oGuard x7 false (fun _ => oLen x5 fun x8 =>
      oCmp .neq x8 (.s (.int .i64 3)) fun x9 =>
      (trim true h2.length [x9] h2).map fun p => (Ex.normal, p.1, p.2))
      (fun _ => (trim true h2.length [(.s (.bool true))] h2).map fun p => (Ex.normal, p.1, p.2))) (law20_kernAlive_k1 objs x5)
| _ => none

/-- bailey/baileylaw20.KernNames -/
def law20_KernNames : CallFn := fun args objs =>
match args with
| [] =>
oLend law20_kernAlive [] objs (fun v3 h4 => finish objs.length (.pan v3) h4) fun w14 h15 => oFrz w14 h15 fun x1 h2 =>
      oPick x1 (.s (.bool true)) (.s (.bool false)) fun x5 =>
      oPick x5 (.s (.bool true)) (.s (.bool false)) fun x6 =>
      oPick x6 (.s (.bool true)) (.s (.bool false)) fun x7 =>
      oPick x7 (.s (.bool true)) (.s (.bool false)) fun x8 =>
      oPick x8 (.s (.bool true)) (.s (.bool false)) fun x9 =>
      oPick x9 (.s (.bool true)) (.s (.bool false)) fun x10 =>
      oPick x10 (.s (.bool true)) (.s (.bool false)) fun x11 =>
      oPick x11 (.s (.bool true)) (.s (.bool false)) fun x12 =>
      oPick x12 (.s (.bool true)) (.s (.bool false)) fun x13 =>
      finish objs.length (.ok x13) h2
| _ => none

def ref20_World_k1 (objs : Heap) (a0 : A) : Ex → List A → Heap → Option (Out × Heap) := fun e5 vs3 h4 =>
      (match e5 with
  | .normal => oCond (vs3.getD 0 .any) (finish objs.length (.ok (.tup [(.s (.slice none 0 0)), (.s (.int .i64 205))])) h4)
      (oBuildP [.s (.int .i64 0), .s (.slice none 0 0)] [(0, none, (.s (.int .i64 2)))] fun x8 =>
      oNew none (some 2) (.agg [.s (.int .i64 0), .s (.slice none 0 0)]) h4 fun x9 h10 =>
      oStore (some 2) x9 x8 h10 fun h11 =>
      oLoad (some 2) x9 h11 fun x12 =>
      oBuildP [.s (.int .u64 0), .s (.int .i64 0)] [(0, none, (.s (.int .u64 65))), (1, none, (.s (.int .i64 1)))] fun x13 =>
      oBuildP [.s (.int .u64 0), .s (.int .i64 0)] [(0, none, (.s (.int .u64 66))), (1, none, (.s (.int .i64 1)))] fun x14 =>
      oNewSlice none 2 (asRows (some 2) [x13, x14]) h11 fun x15 h16 =>
      oBuildP [.s (.int .u64 0), .s (.int .i64 0), .s (.int .i64 0), .s (.slice none 0 0), .s (.int .i64 0), .s (.slice none 0 0), .s (.int .i64 0), .s (.int .i64 0), .s (.slice none 0 0), .s (.slice none 0 0), .s (.int .u64 0), .s (.int .u64 0), .s (.int .u64 0), .s (.int .u64 0), .s (.int .i64 0), .s (.int .i64 0), .s (.bool false), .s (.int .u64 0), .s (.int .u64 0), .s (.int .u64 0), .s (.int .u64 0), .s (.int .u64 0), .s (.int .u64 0), .s (.int .u64 0), .s (.int .u64 0), .s (.int .u64 0)] [(0, none, (.s (.int .u64 1))), (1, none, (.s (.int .i64 1))), (2, (some 2), x12), (6, none, a0), (7, none, (.s (.int .i64 2))), (8, none, x15)] fun x17 =>
      oLoad (some 2) x9 h16 fun x18 =>
      oBuildP [.s (.int .u64 0), .s (.int .i64 0), .s (.int .i64 0), .s (.slice none 0 0), .s (.int .i64 0), .s (.slice none 0 0), .s (.int .i64 0), .s (.int .i64 0), .s (.slice none 0 0), .s (.slice none 0 0), .s (.int .u64 0), .s (.int .u64 0), .s (.int .u64 0), .s (.int .u64 0), .s (.int .i64 0), .s (.int .i64 0), .s (.bool false), .s (.int .u64 0), .s (.int .u64 0), .s (.int .u64 0), .s (.int .u64 0), .s (.int .u64 0), .s (.int .u64 0), .s (.int .u64 0), .s (.int .u64 0), .s (.int .u64 0)] [(0, none, (.s (.int .u64 65))), (1, none, (.s (.int .i64 6))), (2, (some 2), x18), (6, none, (.s (.int .i64 1)))] fun x19 =>
      oLoad (some 2) x9 h16 fun x20 =>
      oLoad (some 2) x9 h16 fun x21 =>
      oBuildP [.s (.int .u64 0), .s (.int .i64 0), .s (.int .i64 0), .s (.slice none 0 0), .s (.int .i64 0), .s (.slice none 0 0), .s (.int .i64 0), .s (.int .i64 0), .s (.slice none 0 0), .s (.slice none 0 0), .s (.int .u64 0), .s (.int .u64 0), .s (.int .u64 0), .s (.int .u64 0), .s (.int .i64 0), .s (.int .i64 0), .s (.bool false), .s (.int .u64 0), .s (.int .u64 0), .s (.int .u64 0), .s (.int .u64 0), .s (.int .u64 0), .s (.int .u64 0), .s (.int .u64 0), .s (.int .u64 0), .s (.int .u64 0)] [(0, none, (.s (.int .u64 66))), (1, none, (.s (.int .i64 2))), (2, (some 2), x20), (4, (some 2), x21), (6, none, (.s (.int .i64 1)))] fun x22 =>
      oNewSlice none 26 (asRows (some 26) [x17, x19, x22]) h16 fun x23 h24 =>
      finish objs.length (.ok (.tup [x23, (.s (.int .i64 0))])) h24)
  | .exit i6 => none
  | .ret => finish objs.length (.ok (.tup [(.s (.slice none 0 0)), (.s (.int .i64 0))])) h4
  | .panic v7 => finish objs.length (.pan v7) h4)

/-- bailey/baileyref20.World -/
def ref20_World : CallFn := fun args objs =>
match args with
| [a0] =>
oJoin (oCmp .lss a0 (.s (.int .i64 4)) fun x1 =>
      oGuard x1 false (fun _ => oCmp .gtr a0 (.s (.int .i64 48)) fun x2 =>
      (trim true objs.length [x2] objs).map fun p => (Ex.normal, p.1, p.2))
      (fun _ => (trim true objs.length [(.s (.bool true))] objs).map fun p => (Ex.normal, p.1, p.2))) (ref20_World_k1 objs a0)
| _ => none

def ref09_Exact_l1 (x24 : A) (x1 : A) (x3 : A) (h18 : Heap) : List A × Heap → Option ((List A × Heap) ⊕ (Ex × List A × Heap)) := fun s25 =>
      oCmp .lss (s25.1.getD 0 .any) x24 fun x26 =>
      oCond x26 (oFieldA 1 x1 fun x27 =>
      oLoadD s25.2.length [] none x27 s25.2 fun x28 h29 =>
      oIdxA 2 x28 (s25.1.getD 0 .any) fun x30 =>
      oLoadD s25.2.length [] (some 2) x30 h29 fun x31 h32 =>
      oFieldA 1 x3 fun x33 =>
      oLoadD s25.2.length [] none x33 h32 fun x34 h35 =>
      oIdxA 2 x34 (s25.1.getD 0 .any) fun x36 =>
      oLoadD s25.2.length [] (some 2) x36 h35 fun x37 h38 =>
      oEqAgg [true, true] true x31 x37 fun x39 =>
      oCond x39 ((trim true h18.length [(.s (.bool false))] h38).map fun p => .inr (Ex.ret, p.1, p.2))
      (oAr .add (s25.1.getD 0 .any) (.s (.int .i64 1)) fun x40 =>
      (trim true h18.length [x40] h38).map .inl))
      ((trim true h18.length [.any] s25.2).map fun p => .inr (Ex.exit 0, p.1, p.2))

def ref09_Exact_k2 (objs : Heap) : Ex → List A → Heap → Option (Out × Heap) := fun e41 vs42 h43 =>
      (match e41 with
  | .normal => none
  | .exit i44 => if i44 = 0 then finish objs.length (.ok (.s (.bool true))) h43 else none
  | .ret => finish objs.length (.ok (vs42.getD 0 .any)) h43
  | .panic v45 => finish objs.length (.pan v45) h43)

def ref09_Exact_k3 (objs : Heap) (x1 : A) (x3 : A) : Ex → List A → Heap → Option (Out × Heap) := fun e19 vs17 h18 =>
      (match e19 with
  | .normal => oCond (vs17.getD 0 .any) (finish objs.length (.ok (.s (.bool false))) h18)
      (oFieldA 1 x1 fun x22 =>
      oLoad none x22 h18 fun x23 =>
      oLen x23 fun x24 =>
      oLoop (ref09_Exact_l1 x24 x1 x3 h18) ([(.s (.int .i64 0))], h18) (ref09_Exact_k2 objs))
  | .exit i20 => none
  | .ret => finish objs.length (.ok (.s (.bool false))) h18
  | .panic v21 => finish objs.length (.pan v21) h18)

/-- bailey/baileyref09.Exact -/
def ref09_Exact : CallFn := fun args objs =>
match args with
| [a0, a1] =>
oNew none (some 2) a0 objs fun x1 h2 =>
      oNew none (some 2) a1 h2 fun x3 h4 =>
      oJoin (oFieldA 0 x1 fun x5 =>
      oLoad none x5 h4 fun x6 =>
      oFieldA 0 x3 fun x7 =>
      oLoad none x7 h4 fun x8 =>
      oCmp .neq x6 x8 fun x9 =>
      oGuard x9 false (fun _ => oFieldA 1 x1 fun x10 =>
      oLoad none x10 h4 fun x11 =>
      oLen x11 fun x12 =>
      oFieldA 1 x3 fun x13 =>
      oLoad none x13 h4 fun x14 =>
      oLen x14 fun x15 =>
      oCmp .neq x12 x15 fun x16 =>
      (trim true h4.length [x16] h4).map fun p => (Ex.normal, p.1, p.2))
      (fun _ => (trim true h4.length [(.s (.bool true))] h4).map fun p => (Ex.normal, p.1, p.2))) (ref09_Exact_k3 objs x1 x3)
| _ => none

def ref11_Same_l1 (x103 : A) (x1 : A) (x3 : A) (h97 : Heap) : List A × Heap → Option ((List A × Heap) ⊕ (Ex × List A × Heap)) := fun s104 =>
      oCmp .lss (s104.1.getD 0 .any) x103 fun x105 =>
      oCond x105 (oFieldA 8 x1 fun x106 =>
      oLoadD s104.2.length [] none x106 s104.2 fun x107 h108 =>
      oIdxA 2 x107 (s104.1.getD 0 .any) fun x109 =>
      oLoadD s104.2.length [] (some 2) x109 h108 fun x110 h111 =>
      oFieldA 8 x3 fun x112 =>
      oLoadD s104.2.length [] none x112 h111 fun x113 h114 =>
      oIdxA 2 x113 (s104.1.getD 0 .any) fun x115 =>
      oLoadD s104.2.length [] (some 2) x115 h114 fun x116 h117 =>
      oEqAgg [true, true] true x110 x116 fun x118 =>
      oCond x118 ((trim true h97.length [(.s (.bool false))] h117).map fun p => .inr (Ex.ret, p.1, p.2))
      (oAr .add (s104.1.getD 0 .any) (.s (.int .i64 1)) fun x119 =>
      (trim true h97.length [x119] h117).map .inl))
      ((trim true h97.length [.any] s104.2).map fun p => .inr (Ex.exit 0, p.1, p.2))

def ref11_Same_k2 (objs : Heap) : Ex → List A → Heap → Option (Out × Heap) := fun e120 vs121 h122 =>
      (match e120 with
  | .normal => none
  | .exit i123 => if i123 = 0 then finish objs.length (.ok (.s (.bool true))) h122 else none
  | .ret => finish objs.length (.ok (vs121.getD 0 .any)) h122
  | .panic v124 => finish objs.length (.pan v124) h122)

def ref11_Same_k3 (objs : Heap) (x1 : A) (x3 : A) : Ex → List A → Heap → Option (Out × Heap) := fun e98 vs96 h97 =>
      (match e98 with
  | .normal => oCond (vs96.getD 0 .any) (finish objs.length (.ok (.s (.bool false))) h97)
      (oFieldA 8 x1 fun x101 =>
      oLoad none x101 h97 fun x102 =>
      oLen x102 fun x103 =>
      oLoop (ref11_Same_l1 x103 x1 x3 h97) ([(.s (.int .i64 0))], h97) (ref11_Same_k2 objs))
  | .exit i99 => none
  | .ret => finish objs.length (.ok (.s (.bool false))) h97
  | .panic v100 => finish objs.length (.pan v100) h97)

def ref11_Same_k4 (objs : Heap) (x1 : A) (x3 : A) : Ex → List A → Heap → Option (Out × Heap) := fun e57 vs55 h56 =>
      (match e57 with
  | .normal => oCond (vs55.getD 0 .any) (finish objs.length (.ok (.s (.bool false))) h56)
      (oJoin (oFieldA 2 x1 fun x60 =>
      oLoad (some 2) x60 h56 fun x61 =>
      oFieldA 2 x3 fun x62 =>
      oLoad (some 2) x62 h56 fun x63 =>
      oLend ref09_Exact [x61, x63] h56 (fun v66 h67 => some (Ex.panic v66, [], h67)) fun w94 h95 => oFrz w94 h95 fun x64 h65 =>
      oNot x64 fun x68 =>
      oGuard x68 false (fun _ => oFieldA 4 x1 fun x69 =>
      oLoad (some 2) x69 h65 fun x70 =>
      oFieldA 4 x3 fun x71 =>
      oLoad (some 2) x71 h65 fun x72 =>
      oLend ref09_Exact [x70, x72] h65 (fun v75 h76 => some (Ex.panic v75, [], h76)) fun w92 h93 => oFrz w92 h93 fun x73 h74 =>
      oNot x73 fun x77 =>
      oGuard x77 false (fun _ => oFieldA 9 x1 fun x78 =>
      oLoad none x78 h74 fun x79 =>
      oBytesStr x79 h74 fun x80 =>
      oFieldA 9 x3 fun x81 =>
      oLoad none x81 h74 fun x82 =>
      oBytesStr x82 h74 fun x83 =>
      oEqStr true x80 x83 fun x84 =>
      oGuard x84 false (fun _ => oFieldA 8 x1 fun x85 =>
      oLoad none x85 h74 fun x86 =>
      oLen x86 fun x87 =>
      oFieldA 8 x3 fun x88 =>
      oLoad none x88 h74 fun x89 =>
      oLen x89 fun x90 =>
      oCmp .neq x87 x90 fun x91 =>
      (trim true h56.length [x91] h74).map fun p => (Ex.normal, p.1, p.2))
      (fun _ => (trim true h56.length [(.s (.bool true))] h74).map fun p => (Ex.normal, p.1, p.2)))
      (fun _ => (trim true h56.length [(.s (.bool true))] h74).map fun p => (Ex.normal, p.1, p.2)))
      (fun _ => (trim true h56.length [(.s (.bool true))] h65).map fun p => (Ex.normal, p.1, p.2))) (ref11_Same_k3 objs x1 x3))
  | .exit i58 => none
  | .ret => finish objs.length (.ok (.s (.bool false))) h56
  | .panic v59 => finish objs.length (.pan v59) h56)

/-- bailey/baileyref11.Same -/
def ref11_Same : CallFn := fun args objs =>
match args with
| [a0, a1] =>
oNew none (some 26) a0 objs fun x1 h2 =>
      oNew none (some 26) a1 h2 fun x3 h4 =>
      oJoin (oFieldA 0 x1 fun x5 =>
      oLoad none x5 h4 fun x6 =>
      oFieldA 0 x3 fun x7 =>
      oLoad none x7 h4 fun x8 =>
      oCmp .neq x6 x8 fun x9 =>
      oGuard x9 false (fun _ => oFieldA 1 x1 fun x10 =>
      oLoad none x10 h4 fun x11 =>
      oFieldA 1 x3 fun x12 =>
      oLoad none x12 h4 fun x13 =>
      oCmp .neq x11 x13 fun x14 =>
      oGuard x14 false (fun _ => oFieldA 6 x1 fun x15 =>
      oLoad none x15 h4 fun x16 =>
      oFieldA 6 x3 fun x17 =>
      oLoad none x17 h4 fun x18 =>
      oCmp .neq x16 x18 fun x19 =>
      oGuard x19 false (fun _ => oFieldA 7 x1 fun x20 =>
      oLoad none x20 h4 fun x21 =>
      oFieldA 7 x3 fun x22 =>
      oLoad none x22 h4 fun x23 =>
      oCmp .neq x21 x23 fun x24 =>
      oGuard x24 false (fun _ => oFieldA 10 x1 fun x25 =>
      oLoad (some 4) x25 h4 fun x26 =>
      oFieldA 10 x3 fun x27 =>
      oLoad (some 4) x27 h4 fun x28 =>
      oEqAgg [true, true, true, true] true x26 x28 fun x29 =>
      oGuard x29 false (fun _ => oFieldA 14 x1 fun x30 =>
      oLoad none x30 h4 fun x31 =>
      oFieldA 14 x3 fun x32 =>
      oLoad none x32 h4 fun x33 =>
      oCmp .neq x31 x33 fun x34 =>
      oGuard x34 false (fun _ => oFieldA 15 x1 fun x35 =>
      oLoad none x35 h4 fun x36 =>
      oFieldA 15 x3 fun x37 =>
      oLoad none x37 h4 fun x38 =>
      oCmp .neq x36 x38 fun x39 =>
      oGuard x39 false (fun _ => oFieldA 16 x1 fun x40 =>
      oLoad none x40 h4 fun x41 =>
      oFieldA 16 x3 fun x42 =>
      oLoad none x42 h4 fun x43 =>
      oEqBool true x41 x43 fun x44 =>
      oGuard x44 false (fun _ => oFieldA 17 x1 fun x45 =>
      oLoad none x45 h4 fun x46 =>
      oFieldA 17 x3 fun x47 =>
      oLoad none x47 h4 fun x48 =>
      oCmp .neq x46 x48 fun x49 =>
      oGuard x49 false (fun _ => oFieldA 18 x1 fun x50 =>
      oLoad (some 8) x50 h4 fun x51 =>
      oFieldA 18 x3 fun x52 =>
      oLoad (some 8) x52 h4 fun x53 =>
      oEqAgg [true, true, true, true, true, true, true, true] true x51 x53 fun x54 =>
      (trim true h4.length [x54] h4).map fun p => (Ex.normal, p.1, p.2))
      (fun _ => (trim true h4.length [(.s (.bool true))] h4).map fun p => (Ex.normal, p.1, p.2)))
      (fun _ => (trim true h4.length [(.s (.bool true))] h4).map fun p => (Ex.normal, p.1, p.2)))
      (fun _ => (trim true h4.length [(.s (.bool true))] h4).map fun p => (Ex.normal, p.1, p.2)))
      (fun _ => (trim true h4.length [(.s (.bool true))] h4).map fun p => (Ex.normal, p.1, p.2)))
      (fun _ => (trim true h4.length [(.s (.bool true))] h4).map fun p => (Ex.normal, p.1, p.2)))
      (fun _ => (trim true h4.length [(.s (.bool true))] h4).map fun p => (Ex.normal, p.1, p.2)))
      (fun _ => (trim true h4.length [(.s (.bool true))] h4).map fun p => (Ex.normal, p.1, p.2)))
      (fun _ => (trim true h4.length [(.s (.bool true))] h4).map fun p => (Ex.normal, p.1, p.2)))
      (fun _ => (trim true h4.length [(.s (.bool true))] h4).map fun p => (Ex.normal, p.1, p.2))) (ref11_Same_k4 objs x1 x3)
| _ => none

def ref13_Same_l1 (x4 : A) (a0 : A) (a1 : A) (objs : Heap) : List A × Heap → Option ((List A × Heap) ⊕ (Ex × List A × Heap)) := fun s5 =>
      oCmp .lss (s5.1.getD 0 .any) x4 fun x6 =>
      oCond x6 (oIdxA 26 a0 (s5.1.getD 0 .any) fun x7 =>
      oLoadD s5.2.length [] (some 26) x7 s5.2 fun x8 h9 =>
      oIdxA 26 a1 (s5.1.getD 0 .any) fun x10 =>
      oLoadD s5.2.length [] (some 26) x10 h9 fun x11 h12 =>
      oCallF s5.2.length [] ref11_Same [x8, x11] h12 fun w17 h18 => oFrz w17 h18 fun x13 h14 =>
      oNot x13 fun x15 =>
      oCond x15 ((trim true objs.length [(.s (.bool false))] h14).map fun p => .inr (Ex.ret, p.1, p.2))
      (oAr .add (s5.1.getD 0 .any) (.s (.int .i64 1)) fun x16 =>
      (trim true objs.length [x16] h14).map .inl))
      ((trim true objs.length [.any] s5.2).map fun p => .inr (Ex.exit 0, p.1, p.2))

def ref13_Same_k2 (objs : Heap) : Ex → List A → Heap → Option (Out × Heap) := fun e19 vs20 h21 =>
      (match e19 with
  | .normal => none
  | .exit i22 => if i22 = 0 then finish objs.length (.ok (.s (.bool true))) h21 else none
  | .ret => finish objs.length (.ok (vs20.getD 0 .any)) h21
  | .panic v23 => finish objs.length (.pan v23) h21)

/-- bailey/baileyref13.Same -/
def ref13_Same : CallFn := fun args objs =>
match args with
| [a0, a1] =>
oLen a0 fun x1 =>
      oLen a1 fun x2 =>
      oCmp .neq x1 x2 fun x3 =>
      oCond x3 (finish objs.length (.ok (.s (.bool false))) objs)
      (oLen a0 fun x4 =>
      oLoop (ref13_Same_l1 x4 a0 a1 objs) ([(.s (.int .i64 0))], objs) (ref13_Same_k2 objs))
| _ => none

def ref13_Graph_l1 (a0 : A) (objs : Heap) : List A × Heap → Option ((List A × Heap) ⊕ (Ex × List A × Heap)) := fun s1 =>
      oLen a0 fun x2 =>
      oCmp .lss (s1.1.getD 0 .any) x2 fun x3 =>
      oCond x3 (oIdxA 26 a0 (s1.1.getD 0 .any) fun x4 =>
      oFieldA 0 x4 fun x5 =>
      oLoadD s1.2.length [] none x5 s1.2 fun x6 h7 =>
      oAr .sub (s1.1.getD 0 .any) (.s (.int .i64 1)) fun x8 =>
      oIdxA 26 a0 x8 fun x9 =>
      oFieldA 0 x9 fun x10 =>
      oLoadD s1.2.length [] none x10 h7 fun x11 h12 =>
      oCmp .leq x6 x11 fun x13 =>
      oCond x13 ((trim true objs.length [(.s (.bool false))] h12).map fun p => .inr (Ex.ret, p.1, p.2))
      (oAr .add (s1.1.getD 0 .any) (.s (.int .i64 1)) fun x14 =>
      (trim true objs.length [x14] h12).map .inl))
      ((trim true objs.length [.any] s1.2).map fun p => .inr (Ex.exit 0, p.1, p.2))

def ref13_Graph_k2 (objs : Heap) : Ex → List A → Heap → Option (Out × Heap) := fun e15 vs16 h17 =>
      (match e15 with
  | .normal => none
  | .exit i18 => if i18 = 0 then finish objs.length (.ok (.s (.bool true))) h17 else none
  | .ret => finish objs.length (.ok (vs16.getD 0 .any)) h17
  | .panic v19 => finish objs.length (.pan v19) h17)

/-- bailey/baileyref13.Graph -/
def ref13_Graph : CallFn := fun args objs =>
match args with
| [a0] =>
oLoop (ref13_Graph_l1 a0 objs) ([(.s (.int .i64 1))], objs) (ref13_Graph_k2 objs)
| _ => none

def ref12_Has_l1 (x5 : A) (x4 : A) (a1 : A) (h2 : Heap) : List A × Heap → Option ((List A × Heap) ⊕ (Ex × List A × Heap)) := fun s6 =>
      oCmp .lss (s6.1.getD 0 .any) x5 fun x7 =>
      oCond x7 (oIdxA 2 x4 (s6.1.getD 0 .any) fun x8 =>
      oLoad (some 2) x8 s6.2 fun x9 =>
      oNew none (some 2) (.agg [.s (.int .u64 0), .s (.int .i64 0)]) s6.2 fun x10 h11 =>
      oStore (some 2) x10 x9 h11 fun h12 =>
      oFieldA 0 x10 fun x13 =>
      oLoad none x13 h12 fun x14 =>
      oCmp .eql x14 a1 fun x15 =>
      oCond x15 ((trim true h2.length [(.s (.bool true))] h12).map fun p => .inr (Ex.ret, p.1, p.2))
      (oAr .add (s6.1.getD 0 .any) (.s (.int .i64 1)) fun x16 =>
      (trim true h2.length [x16] h12).map .inl))
      ((trim true h2.length [.any] s6.2).map fun p => .inr (Ex.exit 0, p.1, p.2))

def ref12_Has_k2 (objs : Heap) : Ex → List A → Heap → Option (Out × Heap) := fun e17 vs18 h19 =>
      (match e17 with
  | .normal => none
  | .exit i20 => if i20 = 0 then finish objs.length (.ok (.s (.bool false))) h19 else none
  | .ret => finish objs.length (.ok (vs18.getD 0 .any)) h19
  | .panic v21 => finish objs.length (.pan v21) h19)

/-- bailey/baileyref12.Has -/
def ref12_Has : CallFn := fun args objs =>
match args with
| [a0, a1] =>
oNew none (some 26) a0 objs fun x1 h2 =>
      oFieldA 8 x1 fun x3 =>
      oLoad none x3 h2 fun x4 =>
      oLen x4 fun x5 =>
      oLoop (ref12_Has_l1 x5 x4 a1 h2) ([(.s (.int .i64 0))], h2) (ref12_Has_k2 objs)
| _ => none

def ref13_Refs_k1 (s2 : List A × Heap) (objs : Heap) : Ex → List A → Heap → Option ((List A × Heap) ⊕ (Ex × List A × Heap)) := fun e19 vs17 h18 =>
      (match e19 with
  | .normal => oAr .add (s2.1.getD 1 .any) (.s (.int .i64 1)) fun x22 =>
      (trim true objs.length [(vs17.getD 0 .any), x22] h18).map .inl
  | .exit i20 => (trim true objs.length [(vs17.getD 0 .any)] h18).map fun p => .inr (Ex.exit i20, p.1, p.2)
  | .ret => (trim true objs.length [(vs17.getD 0 .any)] h18).map fun p => .inr (Ex.ret, p.1, p.2)
  | .panic v21 => some (.inr (Ex.panic v21, [.any], h18)))

def ref13_Refs_l2 (x1 : A) (a0 : A) (a1 : A) (objs : Heap) : List A × Heap → Option ((List A × Heap) ⊕ (Ex × List A × Heap)) := fun s2 =>
      oCmp .lss (s2.1.getD 1 .any) x1 fun x3 =>
      oCond x3 (oJoin (oIdxA 26 a0 (s2.1.getD 1 .any) fun x4 =>
      oLoad (some 26) x4 s2.2 fun x5 =>
      oNew none (some 26) (.agg [.s (.int .u64 0), .s (.int .i64 0), .s (.int .i64 0), .s (.slice none 0 0), .s (.int .i64 0), .s (.slice none 0 0), .s (.int .i64 0), .s (.int .i64 0), .s (.slice none 0 0), .s (.slice none 0 0), .s (.int .u64 0), .s (.int .u64 0), .s (.int .u64 0), .s (.int .u64 0), .s (.int .i64 0), .s (.int .i64 0), .s (.bool false), .s (.int .u64 0), .s (.int .u64 0), .s (.int .u64 0), .s (.int .u64 0), .s (.int .u64 0), .s (.int .u64 0), .s (.int .u64 0), .s (.int .u64 0), .s (.int .u64 0)]) s2.2 fun x6 h7 =>
      oStore (some 26) x6 x5 h7 fun h8 =>
      oLoad (some 26) x6 h8 fun x9 =>
      oLend ref12_Has [x9, a1] h8 (fun v12 h13 => some (Ex.panic v12, [], h13)) fun w15 h16 => oFrz w15 h16 fun x10 h11 =>
      oCond x10 (oAr .add (s2.1.getD 0 .any) (.s (.int .i64 1)) fun x14 =>
      (trim true s2.2.length [x14] h11).map fun p => (Ex.normal, p.1, p.2))
      ((trim true s2.2.length [(s2.1.getD 0 .any)] h11).map fun p => (Ex.normal, p.1, p.2))) (ref13_Refs_k1 s2 objs))
      ((trim true objs.length [(s2.1.getD 0 .any)] s2.2).map fun p => .inr (Ex.exit 0, p.1, p.2))

def ref13_Refs_k3 (objs : Heap) : Ex → List A → Heap → Option (Out × Heap) := fun e23 vs24 h25 =>
      (match e23 with
  | .normal => none
  | .exit i26 => if i26 = 0 then finish objs.length (.ok (vs24.getD 0 .any)) h25 else none
  | .ret => finish objs.length (.ok (.s (.int .i64 0))) h25
  | .panic v27 => finish objs.length (.pan v27) h25)

/-- bailey/baileyref13.Refs -/
def ref13_Refs : CallFn := fun args objs =>
match args with
| [a0, a1] =>
oLen a0 fun x1 =>
      oLoop (ref13_Refs_l2 x1 a0 a1 objs) ([(.s (.int .i64 0)), (.s (.int .i64 0))], objs) (ref13_Refs_k3 objs)
| _ => none

/-- bailey/baileyref11.id -/
def ref11_id : CallFn := fun args objs =>
match args with
| [a0] =>
oCmp .geq a0 (.s (.int .u64 1)) fun x1 =>
      oGuard x1 true (fun _ => oCmp .lss a0 (.s (.int .u64 281474976710656)) fun x2 =>
      finish objs.length (.ok x2) objs)
      (fun _ => finish objs.length (.ok (.s (.bool false))) objs)
| _ => none

def ref09_IDs_k1 (x19 : A) (s25 : List A × Heap) : Ex → List A → Heap → Option (Ex × List A × Heap) := fun e35 vs33 h34 =>
      (match e35 with
  | .normal => oCond (vs33.getD 0 .any) (oFieldA 0 x19 fun x38 =>
      oLoad none x38 h34 fun x39 =>
      oNewSlice none 1 (asRows none [x39]) h34 fun x40 h41 =>
      oAppend none 1 8 (s25.1.getD 0 .any) x40 h41 fun x42 h43 =>
      (trim false s25.2.length [x42, (.s (.bool true))] h43).map fun p => (Ex.normal, p.1, p.2))
      ((trim false s25.2.length [(s25.1.getD 0 .any), (s25.1.getD 1 .any)] h34).map fun p => (Ex.normal, p.1, p.2))
  | .exit i36 => (trim false s25.2.length [(s25.1.getD 0 .any), (s25.1.getD 1 .any)] h34).map fun p => (Ex.exit i36, p.1, p.2)
  | .ret => (trim false s25.2.length [(s25.1.getD 0 .any), (s25.1.getD 1 .any)] h34).map fun p => (Ex.ret, p.1, p.2)
  | .panic v37 => some (Ex.panic v37, [], h34))

def ref09_IDs_k2 (x19 : A) (x28 : A) (s25 : List A × Heap) : Ex → List A → Heap → Option (Ex × List A × Heap) := fun e46 vs44 h45 =>
      (match e46 with
  | .normal => oFieldA 0 x19 fun x49 =>
      oLoad none x49 h45 fun x50 =>
      oCmp .neq x28 x50 fun x51 =>
      oCond x51 (oNewSlice none 1 (asRows none [x28]) h45 fun x52 h53 =>
      oAppend none 1 8 (vs44.getD 0 .any) x52 h53 fun x54 h55 =>
      (trim false s25.2.length [x54, (vs44.getD 1 .any)] h55).map fun p => (Ex.normal, p.1, p.2))
      ((trim false s25.2.length [(vs44.getD 0 .any), (vs44.getD 1 .any)] h45).map fun p => (Ex.normal, p.1, p.2))
  | .exit i47 => if i47 = 5 then (trim false s25.2.length [(vs44.getD 0 .any), (vs44.getD 1 .any)] h45).map fun p => (Ex.normal, p.1, p.2) else (trim false s25.2.length [(vs44.getD 0 .any), (vs44.getD 1 .any)] h45).map fun p => (Ex.exit i47, p.1, p.2)
  | .ret => (trim false s25.2.length [(vs44.getD 0 .any), (vs44.getD 1 .any)] h45).map fun p => (Ex.ret, p.1, p.2)
  | .panic v48 => some (Ex.panic v48, [], h45))

def ref09_IDs_k3 (s25 : List A × Heap) (h23 : Heap) : Ex → List A → Heap → Option ((List A × Heap) ⊕ (Ex × List A × Heap)) := fun e58 vs56 h57 =>
      (match e58 with
  | .normal => oAr .add (s25.1.getD 2 .any) (.s (.int .i64 1)) fun x61 =>
      (trim false h23.length [(vs56.getD 0 .any), (vs56.getD 1 .any), x61] h57).map .inl
  | .exit i59 => (trim false h23.length [(vs56.getD 0 .any), (vs56.getD 1 .any)] h57).map fun p => .inr (Ex.exit i59, p.1, p.2)
  | .ret => (trim false h23.length [(vs56.getD 0 .any), (vs56.getD 1 .any)] h57).map fun p => .inr (Ex.ret, p.1, p.2)
  | .panic v60 => some (.inr (Ex.panic v60, [.any, .any], h57)))

def ref09_IDs_l4 (x24 : A) (s15 : List A × Heap) (x19 : A) (h23 : Heap) : List A × Heap → Option ((List A × Heap) ⊕ (Ex × List A × Heap)) := fun s25 =>
      oCmp .lss (s25.1.getD 2 .any) x24 fun x26 =>
      oCond x26 (oJoin (oIdxA 1 (s15.1.getD 0 .any) (s25.1.getD 2 .any) fun x27 =>
      oLoad none x27 s25.2 fun x28 =>
      oJoin (oJoin (oNot (s25.1.getD 1 .any) fun x29 =>
      oGuard x29 true (fun _ => oFieldA 0 x19 fun x30 =>
      oLoad none x30 s25.2 fun x31 =>
      oCmp .geq x28 x31 fun x32 =>
      (trim false s25.2.length [x32] s25.2).map fun p => (Ex.normal, p.1, p.2))
      (fun _ => (trim false s25.2.length [(.s (.bool false))] s25.2).map fun p => (Ex.normal, p.1, p.2))) (ref09_IDs_k1 x19 s25)) (ref09_IDs_k2 x19 x28 s25)) (ref09_IDs_k3 s25 h23))
      ((trim false h23.length [(s25.1.getD 0 .any), (s25.1.getD 1 .any)] s25.2).map fun p => .inr (Ex.exit 4, p.1, p.2))

def ref09_IDs_k5 (s15 : List A × Heap) (h11 : Heap) : Ex → List A → Heap → Option ((List A × Heap) ⊕ (Ex × List A × Heap)) := fun e76 vs74 h75 =>
      (match e76 with
  | .normal => oAr .add (s15.1.getD 1 .any) (.s (.int .i64 1)) fun x79 =>
      (trim false h11.length [(vs74.getD 0 .any), x79] h75).map .inl
  | .exit i77 => if i77 = 3 then oAr .add (s15.1.getD 1 .any) (.s (.int .i64 1)) fun x80 =>
      (trim false h11.length [(s15.1.getD 0 .any), x80] h75).map .inl else (trim false h11.length [(s15.1.getD 0 .any)] h75).map fun p => .inr (Ex.exit i77, p.1, p.2)
  | .ret => (trim false h11.length [(s15.1.getD 0 .any)] h75).map fun p => .inr (Ex.ret, p.1, p.2)
  | .panic v78 => some (.inr (Ex.panic v78, [.any], h75)))

def ref09_IDs_k6 (x19 : A) (s15 : List A × Heap) (h11 : Heap) : Ex → List A → Heap → Option ((List A × Heap) ⊕ (Ex × List A × Heap)) := fun e62 vs63 h64 =>
      (match e62 with
  | .normal => none
  | .exit i65 => if i65 = 4 then oJoin (oNot (vs63.getD 1 .any) fun x67 =>
      oCond x67 (oFieldA 0 x19 fun x68 =>
      oLoad none x68 h64 fun x69 =>
      oNewSlice none 1 (asRows none [x69]) h64 fun x70 h71 =>
      oAppend none 1 8 (vs63.getD 0 .any) x70 h71 fun x72 h73 =>
      (trim false h64.length [x72] h73).map fun p => (Ex.normal, p.1, p.2))
      ((trim false h64.length [(vs63.getD 0 .any)] h64).map fun p => (Ex.normal, p.1, p.2))) (ref09_IDs_k5 s15 h11) else if i65 = 3 then oAr .add (s15.1.getD 1 .any) (.s (.int .i64 1)) fun x81 =>
      (trim false h11.length [(s15.1.getD 0 .any), x81] h64).map .inl else (trim false h11.length [(s15.1.getD 0 .any)] h64).map fun p => .inr (Ex.exit i65, p.1, p.2)
  | .ret => (trim false h11.length [(s15.1.getD 0 .any)] h64).map fun p => .inr (Ex.ret, p.1, p.2)
  | .panic v66 => some (.inr (Ex.panic v66, [.any], h64)))

def ref09_IDs_l7 (x14 : A) (x13 : A) (h11 : Heap) : List A × Heap → Option ((List A × Heap) ⊕ (Ex × List A × Heap)) := fun s15 =>
      oCmp .lss (s15.1.getD 1 .any) x14 fun x16 =>
      oCond x16 (oIdxA 2 x13 (s15.1.getD 1 .any) fun x17 =>
      oLoad (some 2) x17 s15.2 fun x18 =>
      oNew none (some 2) (.agg [.s (.int .u64 0), .s (.int .i64 0)]) s15.2 fun x19 h20 =>
      oStore (some 2) x19 x18 h20 fun h21 =>
      oNewSlice none 1 (asRows none []) h21 fun x22 h23 =>
      oLen (s15.1.getD 0 .any) fun x24 =>
      oLoop (ref09_IDs_l4 x24 s15 x19 h23) ([x22, (.s (.bool false)), (.s (.int .i64 0))], h23) (ref09_IDs_k6 x19 s15 h11))
      ((trim false h11.length [(s15.1.getD 0 .any)] s15.2).map fun p => .inr (Ex.exit 2, p.1, p.2))

def ref09_IDs_k8 (s6 : List A × Heap) (h4 : Heap) : Ex → List A → Heap → Option ((List A × Heap) ⊕ (Ex × List A × Heap)) := fun e82 vs83 h84 =>
      (match e82 with
  | .normal => none
  | .exit i85 => if i85 = 2 then oAr .add (s6.1.getD 1 .any) (.s (.int .i64 1)) fun x87 =>
      (trim false h4.length [(vs83.getD 0 .any), x87] h84).map .inl else if i85 = 1 then oAr .add (s6.1.getD 1 .any) (.s (.int .i64 1)) fun x88 =>
      (trim false h4.length [(vs83.getD 0 .any), x88] h84).map .inl else (trim false h4.length [(vs83.getD 0 .any)] h84).map fun p => .inr (Ex.exit i85, p.1, p.2)
  | .ret => (trim false h4.length [(vs83.getD 0 .any)] h84).map fun p => .inr (Ex.ret, p.1, p.2)
  | .panic v86 => some (.inr (Ex.panic v86, [.any], h84)))

def ref09_IDs_l9 (x5 : A) (h4 : Heap) : List A × Heap → Option ((List A × Heap) ⊕ (Ex × List A × Heap)) := fun s6 =>
      oCmp .lss (s6.1.getD 1 .any) (.s (.int .i64 2)) fun x7 =>
      oCond x7 (oIndex 2 2 (some 2) x5 (s6.1.getD 1 .any) fun x8 =>
      oNew none (some 2) (.agg [.s (.int .i64 0), .s (.slice none 0 0)]) s6.2 fun x9 h10 =>
      oStore (some 2) x9 x8 h10 fun h11 =>
      oFieldA 1 x9 fun x12 =>
      oLoad none x12 h11 fun x13 =>
      oLen x13 fun x14 =>
      oLoop (ref09_IDs_l7 x14 x13 h11) ([(s6.1.getD 0 .any), (.s (.int .i64 0))], h11) (ref09_IDs_k8 s6 h4))
      ((trim false h4.length [(s6.1.getD 0 .any)] s6.2).map fun p => .inr (Ex.exit 0, p.1, p.2))

def ref09_IDs_k10 (objs : Heap) : Ex → List A → Heap → Option (Out × Heap) := fun e89 vs90 h91 =>
      (match e89 with
  | .normal => none
  | .exit i92 => if i92 = 0 then finish objs.length (.ok (vs90.getD 0 .any)) h91 else none
  | .ret => finish objs.length (.ok (.s (.slice none 0 0))) h91
  | .panic v93 => finish objs.length (.pan v93) h91)

/-- bailey/baileyref09.IDs -/
def ref09_IDs : CallFn := fun args objs =>
match args with
| [a0] =>
oNew none (some 4) a0 objs fun x1 h2 =>
      oNewSlice none 1 (asRows none []) h2 fun x3 h4 =>
      oLoad (some 4) x1 h4 fun x5 =>
      oLoop (ref09_IDs_l9 x5 h4) ([x3, (.s (.int .i64 0))], h4) (ref09_IDs_k10 objs)
| _ => none

def ref09_Level_l1 (x5 : A) (x4 : A) (a1 : A) (h2 : Heap) : List A × Heap → Option ((List A × Heap) ⊕ (Ex × List A × Heap)) := fun s6 =>
      oCmp .lss (s6.1.getD 0 .any) x5 fun x7 =>
      oCond x7 (oIdxA 2 x4 (s6.1.getD 0 .any) fun x8 =>
      oLoad (some 2) x8 s6.2 fun x9 =>
      oNew none (some 2) (.agg [.s (.int .u64 0), .s (.int .i64 0)]) s6.2 fun x10 h11 =>
      oStore (some 2) x10 x9 h11 fun h12 =>
      oFieldA 0 x10 fun x13 =>
      oLoad none x13 h12 fun x14 =>
      oCmp .eql x14 a1 fun x15 =>
      oCond x15 (oFieldA 1 x10 fun x16 =>
      oLoad none x16 h12 fun x17 =>
      (trim true h2.length [x17] h12).map fun p => .inr (Ex.ret, p.1, p.2))
      (oAr .add (s6.1.getD 0 .any) (.s (.int .i64 1)) fun x18 =>
      (trim true h2.length [x18] h12).map .inl))
      ((trim true h2.length [.any] s6.2).map fun p => .inr (Ex.exit 0, p.1, p.2))

def ref09_Level_k2 (x1 : A) (objs : Heap) : Ex → List A → Heap → Option (Out × Heap) := fun e19 vs20 h21 =>
      (match e19 with
  | .normal => none
  | .exit i22 => if i22 = 0 then oFieldA 0 x1 fun x24 =>
      oLoad none x24 h21 fun x25 =>
      finish objs.length (.ok x25) h21 else none
  | .ret => finish objs.length (.ok (vs20.getD 0 .any)) h21
  | .panic v23 => finish objs.length (.pan v23) h21)

/-- bailey/baileyref09.Level -/
def ref09_Level : CallFn := fun args objs =>
match args with
| [a0, a1] =>
oNew none (some 2) a0 objs fun x1 h2 =>
      oFieldA 1 x1 fun x3 =>
      oLoad none x3 h2 fun x4 =>
      oLen x4 fun x5 =>
      oLoop (ref09_Level_l1 x5 x4 a1 h2) ([(.s (.int .i64 0))], h2) (ref09_Level_k2 x1 objs)
| _ => none

def ref09_Form_k1 (s19 : List A × Heap) (h15 : Heap) : Ex → List A → Heap → Option ((List A × Heap) ⊕ (Ex × List A × Heap)) := fun e51 vs49 h50 =>
      (match e51 with
  | .normal => oAr .add (s19.1.getD 0 .any) (.s (.int .i64 1)) fun x54 =>
      (trim false h15.length [x54] h50).map .inl
  | .exit i52 => (trim false h15.length [] h50).map fun p => .inr (Ex.exit i52, p.1, p.2)
  | .ret => (trim false h15.length [] h50).map fun p => .inr (Ex.ret, p.1, p.2)
  | .panic v53 => some (.inr (Ex.panic v53, [], h50)))

def ref09_Form_l2 (x18 : A) (x14 : A) (x1 : A) (x8 : A) (h15 : Heap) : List A × Heap → Option ((List A × Heap) ⊕ (Ex × List A × Heap)) := fun s19 =>
      oCmp .lss (s19.1.getD 0 .any) x18 fun x20 =>
      oCond x20 (oJoin (oIdxA 1 x14 (s19.1.getD 0 .any) fun x21 =>
      oLoad none x21 s19.2 fun x22 =>
      oLoadD s19.2.length [] (some 2) x1 s19.2 fun x23 h24 =>
      oCallF s19.2.length [] ref09_Level [x23, x22] h24 fun w47 h48 => oFrz w47 h48 fun x25 h26 =>
      oFieldA 0 x1 fun x27 =>
      oLoadD s19.2.length [] none x27 h26 fun x28 h29 =>
      oCmp .neq x25 x28 fun x30 =>
      oCond x30 (oFieldA 1 x8 fun x31 =>
      oLoadD h29.length (wrL h29 [(x8, true)]) none x31 (h29 ++ List.replicate 2 .res) fun x32 h33 =>
      oLoadD h29.length (wrL h29 [(x8, true)]) (some 2) x1 h33 fun x34 h35 =>
      oCallF h29.length (wrL h29 [(x8, true)]) ref09_Level [x34, x22] h35 fun w45 h46 => oFrz w45 h46 fun x36 h37 =>
      oBuildP [.s (.int .u64 0), .s (.int .i64 0)] [(0, none, x22), (1, none, x36)] fun x38 =>
      oNewSlice (some h29.length) 2 (asRows (some 2) [x38]) h37 fun x39 h40 =>
      oAppendD h29.length (wrL h29 [(x8, true)]) (h29.length + 1) 2 16 x32 x39 h40 fun x41 h42 =>
      oFieldA 1 x8 fun x43 =>
      oStore none x43 x41 h42 fun h44 =>
      (trim false s19.2.length [] h44).map fun p => (Ex.normal, p.1, p.2))
      ((trim false s19.2.length [] h29).map fun p => (Ex.normal, p.1, p.2))) (ref09_Form_k1 s19 h15))
      ((trim false h15.length [] s19.2).map fun p => .inr (Ex.exit 0, p.1, p.2))

def ref09_Form_k3 (x8 : A) (x3 : A) (objs : Heap) : Ex → List A → Heap → Option (Out × Heap) := fun e55 vs56 h57 =>
      (match e55 with
  | .normal => none
  | .exit i58 => if i58 = 0 then oLoad (some 2) x8 h57 fun x60 =>
      oStore (some 2) x3 x60 h57 fun h61 =>
      oLoad (some 2) x3 h61 fun r62 =>
      finish objs.length (.ok r62) h61 else none
  | .ret => oLoad (some 2) x3 h57 fun r63 =>
      finish objs.length (.ok r63) h57
  | .panic v59 => finish objs.length (.pan v59) h57)

/-- bailey/baileyref09.Form -/
def ref09_Form : CallFn := fun args objs =>
match args with
| [a0] =>
oNew none (some 2) a0 objs fun x1 h2 =>
      oNew none (some 2) (.agg [.s (.int .i64 0), .s (.slice none 0 0)]) h2 fun x3 h4 =>
      oFieldA 0 x1 fun x5 =>
      oLoad none x5 h4 fun x6 =>
      oBuildP [.s (.int .i64 0), .s (.slice none 0 0)] [(0, none, x6)] fun x7 =>
      oNew none (some 2) (.agg [.s (.int .i64 0), .s (.slice none 0 0)]) h4 fun x8 h9 =>
      oStore (some 2) x8 x7 h9 fun h10 =>
      oLoad (some 2) x1 h10 fun x11 =>
      oBuildP [.s (.int .i64 0), .s (.slice none 0 0)] [] fun x12 =>
      oBuildP [.s (.int .i64 0), .s (.slice none 0 0), .s (.int .i64 0), .s (.slice none 0 0)] [(0, (some 2), x11), (2, (some 2), x12)] fun x13 =>
      oLend ref09_IDs [x13] h10 (fun v16 h17 => finish objs.length (.pan v16) h17) fun w64 h65 => oFrz w64 h65 fun x14 h15 =>
      oLen x14 fun x18 =>
      oLoop (ref09_Form_l2 x18 x14 x1 x8 h15) ([(.s (.int .i64 0))], h15) (ref09_Form_k3 x8 x3 objs)
| _ => none

def ref09_Right_k1 (h30 : Heap) (s37 : List A × Heap) : Ex → List A → Heap → Option ((List A × Heap) ⊕ (Ex × List A × Heap)) := fun e58 vs56 h57 =>
      (match e58 with
  | .normal => oCond (vs56.getD 0 .any) ((trim true h30.length [(.s (.bool false))] h57).map fun p => .inr (Ex.ret, p.1, p.2))
      (oAr .add (s37.1.getD 0 .any) (.s (.int .i64 1)) fun x61 =>
      (trim true h30.length [x61] h57).map .inl)
  | .exit i59 => if i59 = 1 then oAr .add (s37.1.getD 0 .any) (.s (.int .i64 1)) fun x62 =>
      (trim true h30.length [x62] h57).map .inl else (trim true h30.length [.any] h57).map fun p => .inr (Ex.exit i59, p.1, p.2)
  | .ret => (trim true h30.length [.any] h57).map fun p => .inr (Ex.ret, p.1, p.2)
  | .panic v60 => some (.inr (Ex.panic v60, [.any], h57)))

def ref09_Right_l2 (x36 : A) (x35 : A) (h30 : Heap) : List A × Heap → Option ((List A × Heap) ⊕ (Ex × List A × Heap)) := fun s37 =>
      oCmp .lss (s37.1.getD 0 .any) x36 fun x38 =>
      oCond x38 (oIdxA 2 x35 (s37.1.getD 0 .any) fun x39 =>
      oLoad (some 2) x39 s37.2 fun x40 =>
      oNew none (some 2) (.agg [.s (.int .u64 0), .s (.int .i64 0)]) s37.2 fun x41 h42 =>
      oStore (some 2) x41 x40 h42 fun h43 =>
      oJoin (oFieldA 0 x41 fun x44 =>
      oLoad none x44 h43 fun x45 =>
      oCmp .lss x45 (.s (.int .u64 1)) fun x46 =>
      oGuard x46 false (fun _ => oFieldA 0 x41 fun x47 =>
      oLoad none x47 h43 fun x48 =>
      oCmp .gtr x48 (.s (.int .u64 2305843009213693951)) fun x49 =>
      oGuard x49 false (fun _ => oFieldA 1 x41 fun x50 =>
      oLoad none x50 h43 fun x51 =>
      oCmp .lss x51 (.s (.int .i64 0)) fun x52 =>
      oGuard x52 false (fun _ => oFieldA 1 x41 fun x53 =>
      oLoad none x53 h43 fun x54 =>
      oCmp .gtr x54 (.s (.int .i64 4)) fun x55 =>
      (trim true h43.length [x55] h43).map fun p => (Ex.normal, p.1, p.2))
      (fun _ => (trim true h43.length [(.s (.bool true))] h43).map fun p => (Ex.normal, p.1, p.2)))
      (fun _ => (trim true h43.length [(.s (.bool true))] h43).map fun p => (Ex.normal, p.1, p.2)))
      (fun _ => (trim true h43.length [(.s (.bool true))] h43).map fun p => (Ex.normal, p.1, p.2))) (ref09_Right_k1 h30 s37))
      ((trim true h30.length [.any] s37.2).map fun p => .inr (Ex.exit 0, p.1, p.2))

def ref09_Right_k3 (objs : Heap) : Ex → List A → Heap → Option (Out × Heap) := fun e63 vs64 h65 =>
      (match e63 with
  | .normal => none
  | .exit i66 => if i66 = 0 then finish objs.length (.ok (.s (.bool true))) h65 else none
  | .ret => finish objs.length (.ok (vs64.getD 0 .any)) h65
  | .panic v67 => finish objs.length (.pan v67) h65)

def ref09_Right_k4 (objs : Heap) (x1 : A) : Ex → List A → Heap → Option (Out × Heap) := fun e31 vs29 h30 =>
      (match e31 with
  | .normal => oCond (vs29.getD 0 .any) (finish objs.length (.ok (.s (.bool false))) h30)
      (oFieldA 1 x1 fun x34 =>
      oLoad none x34 h30 fun x35 =>
      oLen x35 fun x36 =>
      oLoop (ref09_Right_l2 x36 x35 h30) ([(.s (.int .i64 0))], h30) (ref09_Right_k3 objs))
  | .exit i32 => none
  | .ret => finish objs.length (.ok (.s (.bool false))) h30
  | .panic v33 => finish objs.length (.pan v33) h30)

/-- bailey/baileyref09.Right -/
def ref09_Right : CallFn := fun args objs =>
match args with
| [a0] =>
oNew none (some 2) a0 objs fun x1 h2 =>
      oJoin (oFieldA 0 x1 fun x3 =>
      oLoadD h2.length [] none x3 h2 fun x4 h5 =>
      oCmp .lss x4 (.s (.int .i64 1)) fun x6 =>
      oGuard x6 false (fun _ => oFieldA 0 x1 fun x7 =>
      oLoadD h2.length [] none x7 h5 fun x8 h9 =>
      oCmp .gtr x8 (.s (.int .i64 4)) fun x10 =>
      oGuard x10 false (fun _ => oFieldA 1 x1 fun x11 =>
      oLoadD h2.length [] none x11 h9 fun x12 h13 =>
      oLen x12 fun x14 =>
      oCmp .gtr x14 (.s (.int .i64 6)) fun x15 =>
      oGuard x15 false (fun _ => oLoadD h2.length [] (some 2) x1 h13 fun x16 h17 =>
      oLoadD h2.length [] (some 2) x1 h17 fun x18 h19 =>
      oCallF h2.length [] ref09_Form [x18] h19 fun w27 h28 => oFrz w27 h28 fun x20 h21 =>
      oCallF h2.length [] ref09_Exact [x16, x20] h21 fun w25 h26 => oFrz w25 h26 fun x22 h23 =>
      oNot x22 fun x24 =>
      (trim true h2.length [x24] h23).map fun p => (Ex.normal, p.1, p.2))
      (fun _ => (trim true h2.length [(.s (.bool true))] h13).map fun p => (Ex.normal, p.1, p.2)))
      (fun _ => (trim true h2.length [(.s (.bool true))] h9).map fun p => (Ex.normal, p.1, p.2)))
      (fun _ => (trim true h2.length [(.s (.bool true))] h5).map fun p => (Ex.normal, p.1, p.2))) (ref09_Right_k4 objs x1)
| _ => none

def ref10_Pure_l1 (x8 : A) (x7 : A) (h2 : Heap) : List A × Heap → Option ((List A × Heap) ⊕ (Ex × List A × Heap)) := fun s9 =>
      oCmp .lss (s9.1.getD 0 .any) x8 fun x10 =>
      oCond x10 (oIdxA 2 x7 (s9.1.getD 0 .any) fun x11 =>
      oLoad (some 2) x11 s9.2 fun x12 =>
      oNew none (some 2) (.agg [.s (.int .u64 0), .s (.int .i64 0)]) s9.2 fun x13 h14 =>
      oStore (some 2) x13 x12 h14 fun h15 =>
      oFieldA 1 x13 fun x16 =>
      oLoad none x16 h15 fun x17 =>
      oCmp .eql x17 (.s (.int .i64 0)) fun x18 =>
      oCond x18 ((trim true h2.length [(.s (.bool false))] h15).map fun p => .inr (Ex.ret, p.1, p.2))
      (oAr .add (s9.1.getD 0 .any) (.s (.int .i64 1)) fun x19 =>
      (trim true h2.length [x19] h15).map .inl))
      ((trim true h2.length [.any] s9.2).map fun p => .inr (Ex.exit 0, p.1, p.2))

def ref10_Pure_k2 (objs : Heap) : Ex → List A → Heap → Option (Out × Heap) := fun e20 vs21 h22 =>
      (match e20 with
  | .normal => none
  | .exit i23 => if i23 = 0 then finish objs.length (.ok (.s (.bool true))) h22 else none
  | .ret => finish objs.length (.ok (vs21.getD 0 .any)) h22
  | .panic v24 => finish objs.length (.pan v24) h22)

/-- bailey/baileyref10.Pure -/
def ref10_Pure : CallFn := fun args objs =>
match args with
| [a0] =>
oNew none (some 2) a0 objs fun x1 h2 =>
      oFieldA 0 x1 fun x3 =>
      oLoad none x3 h2 fun x4 =>
      oCmp .eql x4 (.s (.int .i64 0)) fun x5 =>
      oCond x5 (finish objs.length (.ok (.s (.bool false))) h2)
      (oFieldA 1 x1 fun x6 =>
      oLoad none x6 h2 fun x7 =>
      oLen x7 fun x8 =>
      oLoop (ref10_Pure_l1 x8 x7 h2) ([(.s (.int .i64 0))], h2) (ref10_Pure_k2 objs))
| _ => none

/-- bailey/baileyref01.parts -/
def ref01_parts : CallFn := fun args objs =>
match args with
| [a0] =>
oShift .shr a0 (.s (.int .u64 63)) fun x1 =>
      oShift .shr a0 (.s (.int .u64 52)) fun x2 =>
      oAr .and x2 (.s (.int .u64 2047)) fun x3 =>
      oAr .and a0 (.s (.int .u64 4503599627370495)) fun x4 =>
      finish objs.length (.ok (.tup [x1, x3, x4])) objs
| _ => none

def ref01_Canon_k1 (objs : Heap) (a0 : A) : Ex → List A → Heap → Option (Out × Heap) := fun e12 vs10 h11 =>
      (match e12 with
  | .normal => oCond (vs10.getD 0 .any) (finish objs.length (.ok (.s (.int .u64 9221120237041090561))) h11)
      (finish objs.length (.ok a0) h11)
  | .exit i13 => none
  | .ret => finish objs.length (.ok (.s (.int .u64 0))) h11
  | .panic v14 => finish objs.length (.pan v14) h11)

/-- bailey/baileyref01.Canon -/
def ref01_Canon : CallFn := fun args objs =>
match args with
| [a0] =>
oLend ref01_parts [a0] objs (fun v3 h4 => finish objs.length (.pan v3) h4) fun w15 h16 => oFrz w15 h16 fun x1 h2 =>
      oExtract 0 x1 fun x5 =>
      oExtract 1 x1 fun x6 =>
      oExtract 2 x1 fun x7 =>
      oJoin (oCmp .eql x6 (.s (.int .u64 2047)) fun x8 =>
      oGuard x8 true (fun _ => oCmp .neq x7 (.s (.int .u64 0)) fun x9 =>
      (trim true h2.length [x9] h2).map fun p => (Ex.normal, p.1, p.2))
      (fun _ => (trim true h2.length [(.s (.bool false))] h2).map fun p => (Ex.normal, p.1, p.2))) (ref01_Canon_k1 objs a0)
| _ => none

/-- bailey/baileyref11.clean -/
def ref11_clean : CallFn := fun args objs =>
match args with
| [a0] =>
oNew none (some 2) a0 objs fun x1 h2 =>
      oLoad (some 2) x1 h2 fun x3 =>
      oLend ref09_Right [x3] h2 (fun v6 h7 => finish objs.length (.pan v6) h7) fun w15 h16 => oFrz w15 h16 fun x4 h5 =>
      oGuard x4 true (fun _ => oLoad (some 2) x1 h5 fun x8 =>
      oLend ref10_Pure [x8] h5 (fun v11 h12 => finish objs.length (.pan v11) h12) fun w13 h14 => oFrz w13 h14 fun x9 h10 =>
      finish objs.length (.ok x9) h10)
      (fun _ => finish objs.length (.ok (.s (.bool false))) h5)
| _ => none

def ref11_Right_k1 (h51 : Heap) (s57 : List A × Heap) (x61 : A) : Ex → List A → Heap → Option ((List A × Heap) ⊕ (Ex × List A × Heap)) := fun e97 vs95 h96 =>
      (match e97 with
  | .normal => oCond (vs95.getD 0 .any) ((trim true h51.length [(.s (.bool false)), (s57.1.getD 0 .any)] h96).map fun p => .inr (Ex.ret, p.1, p.2))
      (oFieldA 1 x61 fun x100 =>
      oLoad none x100 h96 fun x101 =>
      oAr .add (s57.1.getD 0 .any) x101 fun x102 =>
      oAr .add (s57.1.getD 1 .any) (.s (.int .i64 1)) fun x103 =>
      (trim true h51.length [x102, x103] h96).map .inl)
  | .exit i98 => if i98 = 2 then oAr .add (s57.1.getD 1 .any) (.s (.int .i64 1)) fun x104 =>
      (trim true h51.length [(s57.1.getD 0 .any), x104] h96).map .inl else (trim true h51.length [.any, (s57.1.getD 0 .any)] h96).map fun p => .inr (Ex.exit i98, p.1, p.2)
  | .ret => (trim true h51.length [.any, (s57.1.getD 0 .any)] h96).map fun p => .inr (Ex.ret, p.1, p.2)
  | .panic v99 => some (.inr (Ex.panic v99, [.any, .any], h96)))

def ref11_Right_l2 (x56 : A) (x55 : A) (x1 : A) (h51 : Heap) : List A × Heap → Option ((List A × Heap) ⊕ (Ex × List A × Heap)) := fun s57 =>
      oCmp .lss (s57.1.getD 1 .any) x56 fun x58 =>
      oCond x58 (oIdxA 2 x55 (s57.1.getD 1 .any) fun x59 =>
      oLoad (some 2) x59 s57.2 fun x60 =>
      oNew none (some 2) (.agg [.s (.int .u64 0), .s (.int .i64 0)]) s57.2 fun x61 h62 =>
      oStore (some 2) x61 x60 h62 fun h63 =>
      oJoin (oFieldA 0 x61 fun x64 =>
      oLoadD h63.length [] none x64 h63 fun x65 h66 =>
      oCallF h63.length [] ref11_id [x65] h66 fun w93 h94 => oFrz w93 h94 fun x67 h68 =>
      oNot x67 fun x69 =>
      oGuard x69 false (fun _ => oFieldA 1 x61 fun x70 =>
      oLoadD h63.length [] none x70 h68 fun x71 h72 =>
      oCmp .lss x71 (.s (.int .i64 1)) fun x73 =>
      oGuard x73 false (fun _ => oFieldA 1 x61 fun x74 =>
      oLoadD h63.length [] none x74 h72 fun x75 h76 =>
      oCmp .gtr x75 (.s (.int .i64 48)) fun x77 =>
      oGuard x77 false (fun _ => oCmp .gtr (s57.1.getD 1 .any) (.s (.int .i64 0)) fun x78 =>
      oGuard x78 true (fun _ => oFieldA 8 x1 fun x79 =>
      oLoadD h63.length [] none x79 h76 fun x80 h81 =>
      oAr .sub (s57.1.getD 1 .any) (.s (.int .i64 1)) fun x82 =>
      oIdxA 2 x80 x82 fun x83 =>
      oFieldA 0 x83 fun x84 =>
      oLoadD h63.length [] none x84 h81 fun x85 h86 =>
      oFieldA 0 x61 fun x87 =>
      oLoadD h63.length [] none x87 h86 fun x88 h89 =>
      oCmp .geq x85 x88 fun x90 =>
      oGuard x90 false (fun _ => oCmp .geq (s57.1.getD 1 .any) (.s (.int .i64 16)) fun x91 =>
      (trim true h63.length [x91] h89).map fun p => (Ex.normal, p.1, p.2))
      (fun _ => (trim true h63.length [(.s (.bool true))] h89).map fun p => (Ex.normal, p.1, p.2)))
      (fun _ => oCmp .geq (s57.1.getD 1 .any) (.s (.int .i64 16)) fun x92 =>
      (trim true h63.length [x92] h76).map fun p => (Ex.normal, p.1, p.2)))
      (fun _ => (trim true h63.length [(.s (.bool true))] h76).map fun p => (Ex.normal, p.1, p.2)))
      (fun _ => (trim true h63.length [(.s (.bool true))] h72).map fun p => (Ex.normal, p.1, p.2)))
      (fun _ => (trim true h63.length [(.s (.bool true))] h68).map fun p => (Ex.normal, p.1, p.2))) (ref11_Right_k1 h51 s57 x61))
      ((trim true h51.length [.any, (s57.1.getD 0 .any)] s57.2).map fun p => .inr (Ex.exit 1, p.1, p.2))

def ref11_Right_k3 (h44 : Heap) (x53 : A) (vs106 : List A) : Ex → List A → Heap → Option (Ex × List A × Heap) := fun e127 vs125 h126 =>
      (match e127 with
  | .normal => oCond (vs125.getD 0 .any) ((trim true h44.length [(.s (.bool false)), x53] h126).map fun p => (Ex.ret, p.1, p.2))
      ((trim true h44.length [(vs106.getD 0 .any), x53] h126).map fun p => (Ex.normal, p.1, p.2))
  | .exit i128 => if i128 = 0 then (trim true h44.length [(vs106.getD 0 .any), x53] h126).map fun p => (Ex.normal, p.1, p.2) else (trim true h44.length [(vs106.getD 0 .any), x53] h126).map fun p => (Ex.exit i128, p.1, p.2)
  | .ret => (trim true h44.length [(vs106.getD 0 .any), x53] h126).map fun p => (Ex.ret, p.1, p.2)
  | .panic v129 => some (Ex.panic v129, [], h126))

def ref11_Right_k4 (x1 : A) (h44 : Heap) (x53 : A) : Ex → List A → Heap → Option (Ex × List A × Heap) := fun e105 vs106 h107 =>
      (match e105 with
  | .normal => none
  | .exit i108 => if i108 = 1 then oJoin (oFieldA 6 x1 fun x110 =>
      oLoad none x110 h107 fun x111 =>
      oCmp .lss x111 (.s (.int .i64 1)) fun x112 =>
      oGuard x112 false (fun _ => oFieldA 6 x1 fun x113 =>
      oLoad none x113 h107 fun x114 =>
      oCmp .gtr x114 (.s (.int .i64 48)) fun x115 =>
      oGuard x115 false (fun _ => oFieldA 6 x1 fun x116 =>
      oLoad none x116 h107 fun x117 =>
      oCmp .gtr (vs106.getD 1 .any) x117 fun x118 =>
      oGuard x118 false (fun _ => oFieldA 7 x1 fun x119 =>
      oLoad none x119 h107 fun x120 =>
      oCmp .lss x120 (.s (.int .i64 0)) fun x121 =>
      oGuard x121 false (fun _ => oFieldA 7 x1 fun x122 =>
      oLoad none x122 h107 fun x123 =>
      oCmp .gtr x123 (.s (.int .i64 63)) fun x124 =>
      (trim true h107.length [x124] h107).map fun p => (Ex.normal, p.1, p.2))
      (fun _ => (trim true h107.length [(.s (.bool true))] h107).map fun p => (Ex.normal, p.1, p.2)))
      (fun _ => (trim true h107.length [(.s (.bool true))] h107).map fun p => (Ex.normal, p.1, p.2)))
      (fun _ => (trim true h107.length [(.s (.bool true))] h107).map fun p => (Ex.normal, p.1, p.2)))
      (fun _ => (trim true h107.length [(.s (.bool true))] h107).map fun p => (Ex.normal, p.1, p.2))) (ref11_Right_k3 h44 x53 vs106) else if i108 = 0 then (trim true h44.length [(vs106.getD 0 .any), x53] h107).map fun p => (Ex.normal, p.1, p.2) else (trim true h44.length [(vs106.getD 0 .any), x53] h107).map fun p => (Ex.exit i108, p.1, p.2)
  | .ret => (trim true h44.length [(vs106.getD 0 .any), x53] h107).map fun p => (Ex.ret, p.1, p.2)
  | .panic v109 => some (Ex.panic v109, [], h107))

def ref11_Right_l5 (x132 : A) (h44 : Heap) : List A × Heap → Option ((List A × Heap) ⊕ (Ex × List A × Heap)) := fun s133 =>
      oCmp .lss (s133.1.getD 0 .any) (.s (.int .i64 4)) fun x134 =>
      oCond x134 (oIndex 4 1 none x132 (s133.1.getD 0 .any) fun x135 =>
      oLend ref01_Canon [x135] s133.2 (fun v138 h139 => some (.inr (Ex.panic v138, [.any], h139))) fun w142 h143 => oFrz w142 h143 fun x136 h137 =>
      oCmp .neq x136 x135 fun x140 =>
      oCond x140 ((trim true h44.length [(.s (.bool false))] h137).map fun p => .inr (Ex.ret, p.1, p.2))
      (oAr .add (s133.1.getD 0 .any) (.s (.int .i64 1)) fun x141 =>
      (trim true h44.length [x141] h137).map .inl))
      ((trim true h44.length [.any] s133.2).map fun p => .inr (Ex.exit 3, p.1, p.2))

def ref11_Right_k6 (h44 : Heap) (x42 : A) (vs145 : List A) : Ex → List A → Heap → Option (Ex × List A × Heap) := fun e172 vs170 h171 =>
      (match e172 with
  | .normal => oCond (vs170.getD 0 .any) ((trim true h44.length [(.s (.bool false)), (.s (.int .i64 1))] h171).map fun p => (Ex.ret, p.1, p.2))
      (oBuildP [.s (.int .i64 0), .s (.slice none 0 0)] [] fun x175 =>
      oFieldA 4 x42 fun x176 =>
      oStore (some 2) x176 x175 h171 fun h177 =>
      oBuildP [.s (.int .u64 0), .s (.int .u64 0), .s (.int .u64 0), .s (.int .u64 0)] [] fun x178 =>
      oFieldA 10 x42 fun x179 =>
      oStore (some 4) x179 x178 h177 fun h180 =>
      oFieldA 14 x42 fun x181 =>
      oStore none x181 (.s (.int .i64 0)) h180 fun h182 =>
      oFieldA 15 x42 fun x183 =>
      oStore none x183 (.s (.int .i64 0)) h182 fun h184 =>
      oFieldA 16 x42 fun x185 =>
      oStore none x185 (.s (.bool false)) h184 fun h186 =>
      (trim true h44.length [(vs145.getD 0 .any), (.s (.int .i64 1))] h186).map fun p => (Ex.normal, p.1, p.2))
  | .exit i173 => if i173 = 0 then (trim true h44.length [(vs145.getD 0 .any), (.s (.int .i64 1))] h171).map fun p => (Ex.normal, p.1, p.2) else (trim true h44.length [(vs145.getD 0 .any), (.s (.int .i64 1))] h171).map fun p => (Ex.exit i173, p.1, p.2)
  | .ret => (trim true h44.length [(vs145.getD 0 .any), (.s (.int .i64 1))] h171).map fun p => (Ex.ret, p.1, p.2)
  | .panic v174 => some (Ex.panic v174, [], h171))

def ref11_Right_k7 (x1 : A) (h44 : Heap) (x42 : A) : Ex → List A → Heap → Option (Ex × List A × Heap) := fun e144 vs145 h146 =>
      (match e144 with
  | .normal => none
  | .exit i147 => if i147 = 3 then oJoin (oFieldA 4 x1 fun x149 =>
      oLoad (some 2) x149 h146 fun x150 =>
      oLend ref11_clean [x150] h146 (fun v153 h154 => some (Ex.panic v153, [], h154)) fun w168 h169 => oFrz w168 h169 fun x151 h152 =>
      oNot x151 fun x155 =>
      oGuard x155 false (fun _ => oFieldA 14 x1 fun x156 =>
      oLoad none x156 h152 fun x157 =>
      oCmp .lss x157 (.s (.int .i64 0)) fun x158 =>
      oGuard x158 false (fun _ => oFieldA 14 x1 fun x159 =>
      oLoad none x159 h152 fun x160 =>
      oCmp .gtr x160 (.s (.int .i64 31)) fun x161 =>
      oGuard x161 false (fun _ => oFieldA 15 x1 fun x162 =>
      oLoad none x162 h152 fun x163 =>
      oCmp .lss x163 (.s (.int .i64 0)) fun x164 =>
      oGuard x164 false (fun _ => oFieldA 15 x1 fun x165 =>
      oLoad none x165 h152 fun x166 =>
      oCmp .gtr x166 (.s (.int .i64 255)) fun x167 =>
      (trim true h146.length [x167] h152).map fun p => (Ex.normal, p.1, p.2))
      (fun _ => (trim true h146.length [(.s (.bool true))] h152).map fun p => (Ex.normal, p.1, p.2)))
      (fun _ => (trim true h146.length [(.s (.bool true))] h152).map fun p => (Ex.normal, p.1, p.2)))
      (fun _ => (trim true h146.length [(.s (.bool true))] h152).map fun p => (Ex.normal, p.1, p.2)))
      (fun _ => (trim true h146.length [(.s (.bool true))] h152).map fun p => (Ex.normal, p.1, p.2))) (ref11_Right_k6 h44 x42 vs145) else if i147 = 0 then (trim true h44.length [(vs145.getD 0 .any), (.s (.int .i64 1))] h146).map fun p => (Ex.normal, p.1, p.2) else (trim true h44.length [(vs145.getD 0 .any), (.s (.int .i64 1))] h146).map fun p => (Ex.exit i147, p.1, p.2)
  | .ret => (trim true h44.length [(vs145.getD 0 .any), (.s (.int .i64 1))] h146).map fun p => (Ex.ret, p.1, p.2)
  | .panic v148 => some (Ex.panic v148, [], h146))

def ref11_Right_k8 (h44 : Heap) (x42 : A) : Ex → List A → Heap → Option (Ex × List A × Heap) := fun e209 vs207 h208 =>
      (match e209 with
  | .normal => oCond (vs207.getD 0 .any) ((trim true h44.length [(.s (.bool false)), (.s (.int .i64 1))] h208).map fun p => (Ex.ret, p.1, p.2))
      (oBuildP [.s (.int .i64 0), .s (.slice none 0 0)] [] fun x212 =>
      oFieldA 4 x42 fun x213 =>
      oStore (some 2) x213 x212 h208 fun h214 =>
      oFieldA 17 x42 fun x215 =>
      oStore none x215 (.s (.int .u64 0)) h214 fun h216 =>
      (trim true h44.length [(.s (.bool false)), (.s (.int .i64 1))] h216).map fun p => (Ex.normal, p.1, p.2))
  | .exit i210 => if i210 = 0 then (trim true h44.length [(.s (.bool false)), (.s (.int .i64 1))] h208).map fun p => (Ex.normal, p.1, p.2) else (trim true h44.length [(.s (.bool false)), (.s (.int .i64 1))] h208).map fun p => (Ex.exit i210, p.1, p.2)
  | .ret => (trim true h44.length [(.s (.bool false)), (.s (.int .i64 1))] h208).map fun p => (Ex.ret, p.1, p.2)
  | .panic v211 => some (Ex.panic v211, [], h208))

def ref11_Right_k9 (h44 : Heap) (x222 : A) (x42 : A) : Ex → List A → Heap → Option (Ex × List A × Heap) := fun e238 vs236 h237 =>
      (match e238 with
  | .normal => oCond (vs236.getD 0 .any) ((trim true h44.length [(.s (.bool false)), x222] h237).map fun p => (Ex.ret, p.1, p.2))
      (oFieldA 9 x42 fun x241 =>
      oStore none x241 (.s (.slice none 0 0)) h237 fun h242 =>
      (trim true h44.length [(.s (.bool false)), x222] h242).map fun p => (Ex.normal, p.1, p.2))
  | .exit i239 => if i239 = 0 then (trim true h44.length [(.s (.bool false)), x222] h237).map fun p => (Ex.normal, p.1, p.2) else (trim true h44.length [(.s (.bool false)), x222] h237).map fun p => (Ex.exit i239, p.1, p.2)
  | .ret => (trim true h44.length [(.s (.bool false)), x222] h237).map fun p => (Ex.ret, p.1, p.2)
  | .panic v240 => some (Ex.panic v240, [], h237))

def ref11_Right_k10 (h44 : Heap) (s246 : List A × Heap) : Ex → List A → Heap → Option ((List A × Heap) ⊕ (Ex × List A × Heap)) := fun e275 vs273 h274 =>
      (match e275 with
  | .normal => oCond (vs273.getD 0 .any) ((trim true h44.length [(.s (.bool false))] h274).map fun p => .inr (Ex.ret, p.1, p.2))
      (oAr .add (s246.1.getD 0 .any) (.s (.int .i64 1)) fun x278 =>
      (trim true h44.length [x278] h274).map .inl)
  | .exit i276 => if i276 = 6 then oAr .add (s246.1.getD 0 .any) (.s (.int .i64 1)) fun x279 =>
      (trim true h44.length [x279] h274).map .inl else (trim true h44.length [.any] h274).map fun p => .inr (Ex.exit i276, p.1, p.2)
  | .ret => (trim true h44.length [.any] h274).map fun p => .inr (Ex.ret, p.1, p.2)
  | .panic v277 => some (.inr (Ex.panic v277, [.any], h274)))

def ref11_Right_l11 (x245 : A) (h44 : Heap) : List A × Heap → Option ((List A × Heap) ⊕ (Ex × List A × Heap)) := fun s246 =>
      oCmp .lss (s246.1.getD 0 .any) (.s (.int .i64 4)) fun x247 =>
      oCond x247 (oIndex 4 2 (some 2) x245 (s246.1.getD 0 .any) fun x248 =>
      oNew none (some 2) (.agg [.s (.int .u64 0), .s (.int .u64 0)]) s246.2 fun x249 h250 =>
      oStore (some 2) x249 x248 h250 fun h251 =>
      oJoin (oLoad (some 2) x249 h251 fun x252 =>
      oBuildP [.s (.int .u64 0), .s (.int .u64 0)] [] fun x253 =>
      oEqAgg [true, true] true x252 x253 fun x254 =>
      oGuard x254 true (fun _ => oFieldA 0 x249 fun x255 =>
      oLoad none x255 h251 fun x256 =>
      oLend ref11_id [x256] h251 (fun v259 h260 => some (Ex.panic v259, [], h260)) fun w271 h272 => oFrz w271 h272 fun x257 h258 =>
      oNot x257 fun x261 =>
      oGuard x261 false (fun _ => oFieldA 1 x249 fun x262 =>
      oLoad none x262 h258 fun x263 =>
      oLend ref11_id [x263] h258 (fun v266 h267 => some (Ex.panic v266, [], h267)) fun w269 h270 => oFrz w269 h270 fun x264 h265 =>
      oNot x264 fun x268 =>
      (trim true h251.length [x268] h265).map fun p => (Ex.normal, p.1, p.2))
      (fun _ => (trim true h251.length [(.s (.bool true))] h258).map fun p => (Ex.normal, p.1, p.2)))
      (fun _ => (trim true h251.length [(.s (.bool false))] h251).map fun p => (Ex.normal, p.1, p.2))) (ref11_Right_k10 h44 s246))
      ((trim true h44.length [.any] s246.2).map fun p => .inr (Ex.exit 5, p.1, p.2))

def ref11_Right_k12 (x42 : A) (h44 : Heap) : Ex → List A → Heap → Option (Ex × List A × Heap) := fun e280 vs281 h282 =>
      (match e280 with
  | .normal => none
  | .exit i283 => if i283 = 5 then oBuildP [.s (.int .u64 0), .s (.int .u64 0), .s (.int .u64 0), .s (.int .u64 0), .s (.int .u64 0), .s (.int .u64 0), .s (.int .u64 0), .s (.int .u64 0)] [] fun x285 =>
      oFieldA 18 x42 fun x286 =>
      oStore (some 8) x286 x285 h282 fun h287 =>
      (trim true h44.length [(vs281.getD 0 .any), (.s (.int .i64 1))] h287).map fun p => (Ex.normal, p.1, p.2) else if i283 = 0 then (trim true h44.length [(vs281.getD 0 .any), (.s (.int .i64 1))] h282).map fun p => (Ex.normal, p.1, p.2) else (trim true h44.length [(vs281.getD 0 .any), (.s (.int .i64 1))] h282).map fun p => (Ex.exit i283, p.1, p.2)
  | .ret => (trim true h44.length [(vs281.getD 0 .any), (.s (.int .i64 1))] h282).map fun p => (Ex.ret, p.1, p.2)
  | .panic v284 => some (Ex.panic v284, [], h282))

def ref11_Right_k13 (x1 : A) (x42 : A) (objs : Heap) : Ex → List A → Heap → Option (Out × Heap) := fun e291 vs289 h290 =>
      (match e291 with
  | .normal => oFieldA 6 x1 fun x294 =>
      oLoad none x294 h290 fun x295 =>
      oCmp .eql x295 (vs289.getD 1 .any) fun x296 =>
      oGuard x296 true (fun _ => oLoad (some 26) x42 h290 fun x297 =>
      oFieldA 0 x1 fun x298 =>
      oLoad none x298 h290 fun x299 =>
      oFieldA 1 x1 fun x300 =>
      oLoad none x300 h290 fun x301 =>
      oFieldA 2 x1 fun x302 =>
      oLoad (some 2) x302 h290 fun x303 =>
      oFieldA 6 x1 fun x304 =>
      oLoad none x304 h290 fun x305 =>
      oBuildP [.s (.int .u64 0), .s (.int .i64 0), .s (.int .i64 0), .s (.slice none 0 0), .s (.int .i64 0), .s (.slice none 0 0), .s (.int .i64 0), .s (.int .i64 0), .s (.slice none 0 0), .s (.slice none 0 0), .s (.int .u64 0), .s (.int .u64 0), .s (.int .u64 0), .s (.int .u64 0), .s (.int .i64 0), .s (.int .i64 0), .s (.bool false), .s (.int .u64 0), .s (.int .u64 0), .s (.int .u64 0), .s (.int .u64 0), .s (.int .u64 0), .s (.int .u64 0), .s (.int .u64 0), .s (.int .u64 0), .s (.int .u64 0)] [(0, none, x299), (1, none, x301), (2, (some 2), x303), (6, none, x305)] fun x306 =>
      oLend ref11_Same [x297, x306] h290 (fun v309 h310 => finish objs.length (.pan v309) h310) fun w311 h312 => oFrz w311 h312 fun x307 h308 =>
      finish objs.length (.ok x307) h308)
      (fun _ => finish objs.length (.ok (.s (.bool false))) h290)
  | .exit i292 => none
  | .ret => finish objs.length (.ok (vs289.getD 0 .any)) h290
  | .panic v293 => finish objs.length (.pan v293) h290)

def ref11_Right_k14 (objs : Heap) (x1 : A) : Ex → List A → Heap → Option (Out × Heap) := fun e38 vs36 h37 =>
      (match e38 with
  | .normal => oCond (vs36.getD 0 .any) (finish objs.length (.ok (.s (.bool false))) h37)
      (oLoad (some 26) x1 h37 fun x41 =>
      oNew none (some 26) (.agg [.s (.int .u64 0), .s (.int .i64 0), .s (.int .i64 0), .s (.slice none 0 0), .s (.int .i64 0), .s (.slice none 0 0), .s (.int .i64 0), .s (.int .i64 0), .s (.slice none 0 0), .s (.slice none 0 0), .s (.int .u64 0), .s (.int .u64 0), .s (.int .u64 0), .s (.int .u64 0), .s (.int .i64 0), .s (.int .i64 0), .s (.bool false), .s (.int .u64 0), .s (.int .u64 0), .s (.int .u64 0), .s (.int .u64 0), .s (.int .u64 0), .s (.int .u64 0), .s (.int .u64 0), .s (.int .u64 0), .s (.int .u64 0)]) h37 fun x42 h43 =>
      oStore (some 26) x42 x41 h43 fun h44 =>
      oJoin (oFieldA 1 x1 fun x45 =>
      oLoad none x45 h44 fun x46 =>
      oCmp .eql x46 (.s (.int .i64 1)) fun x47 =>
      oCond x47 (oFieldA 7 x42 fun x48 =>
      oStore none x48 (.s (.int .i64 0)) h44 fun h49 =>
      oFieldA 8 x42 fun x50 =>
      oStore none x50 (.s (.slice none 0 0)) h49 fun h51 =>
      oFieldA 6 x1 fun x52 =>
      oLoad none x52 h51 fun x53 =>
      oFieldA 8 x1 fun x54 =>
      oLoad none x54 h51 fun x55 =>
      oLen x55 fun x56 =>
      oLoop (ref11_Right_l2 x56 x55 x1 h51) ([(.s (.int .i64 1)), (.s (.int .i64 0))], h51) (ref11_Right_k4 x1 h44 x53))
      (oCmp .eql x46 (.s (.int .i64 2)) fun x130 =>
      oCond x130 (oFieldA 10 x1 fun x131 =>
      oLoad (some 4) x131 h44 fun x132 =>
      oLoop (ref11_Right_l5 x132 h44) ([(.s (.int .i64 0))], h44) (ref11_Right_k7 x1 h44 x42))
      (oCmp .eql x46 (.s (.int .i64 3)) fun x187 =>
      oCond x187 (oJoin (oFieldA 4 x1 fun x188 =>
      oLoadD h44.length [] (some 2) x188 h44 fun x189 h190 =>
      oCallF h44.length [] ref11_clean [x189] h190 fun w205 h206 => oFrz w205 h206 fun x191 h192 =>
      oNot x191 fun x193 =>
      oGuard x193 false (fun _ => oFieldA 17 x1 fun x194 =>
      oLoadD h44.length [] none x194 h192 fun x195 h196 =>
      oCallF h44.length [] ref01_Canon [x195] h196 fun w203 h204 => oFrz w203 h204 fun x197 h198 =>
      oFieldA 17 x1 fun x199 =>
      oLoadD h44.length [] none x199 h198 fun x200 h201 =>
      oCmp .neq x197 x200 fun x202 =>
      (trim true h44.length [x202] h201).map fun p => (Ex.normal, p.1, p.2))
      (fun _ => (trim true h44.length [(.s (.bool true))] h192).map fun p => (Ex.normal, p.1, p.2))) (ref11_Right_k8 h44 x42))
      (oCmp .eql x46 (.s (.int .i64 4)) fun x217 =>
      oCond x217 (oFieldA 9 x1 fun x218 =>
      oLoad none x218 h44 fun x219 =>
      oLen x219 fun x220 =>
      oAr .quo x220 (.s (.int .i64 32)) fun x221 =>
      oAr .add (.s (.int .i64 1)) x221 fun x222 =>
      oJoin (oFieldA 9 x1 fun x223 =>
      oLoad none x223 h44 fun x224 =>
      oLen x224 fun x225 =>
      oCmp .lss x225 (.s (.int .i64 32)) fun x226 =>
      oGuard x226 false (fun _ => oFieldA 9 x1 fun x227 =>
      oLoad none x227 h44 fun x228 =>
      oLen x228 fun x229 =>
      oCmp .gtr x229 (.s (.int .i64 128)) fun x230 =>
      oGuard x230 false (fun _ => oFieldA 9 x1 fun x231 =>
      oLoad none x231 h44 fun x232 =>
      oLen x232 fun x233 =>
      oAr .rem x233 (.s (.int .i64 32)) fun x234 =>
      oCmp .neq x234 (.s (.int .i64 0)) fun x235 =>
      (trim true h44.length [x235] h44).map fun p => (Ex.normal, p.1, p.2))
      (fun _ => (trim true h44.length [(.s (.bool true))] h44).map fun p => (Ex.normal, p.1, p.2)))
      (fun _ => (trim true h44.length [(.s (.bool true))] h44).map fun p => (Ex.normal, p.1, p.2))) (ref11_Right_k9 h44 x222 x42))
      (oCmp .eql x46 (.s (.int .i64 5)) fun x243 =>
      oCond x243 (oFieldA 18 x1 fun x244 =>
      oLoad (some 8) x244 h44 fun x245 =>
      oLoop (ref11_Right_l11 x245 h44) ([(.s (.int .i64 0))], h44) (ref11_Right_k12 x42 h44))
      (oCmp .eql x46 (.s (.int .i64 6)) fun x288 =>
      oCond x288 ((trim true h44.length [(.s (.bool false)), (.s (.int .i64 1))] h44).map fun p => (Ex.normal, p.1, p.2))
      ((trim true h44.length [(.s (.bool false)), (.s (.int .i64 1))] h44).map fun p => (Ex.ret, p.1, p.2)))))))) (ref11_Right_k13 x1 x42 objs))
  | .exit i39 => none
  | .ret => finish objs.length (.ok (.s (.bool false))) h37
  | .panic v40 => finish objs.length (.pan v40) h37)

/-- bailey/baileyref11.Right -/
def ref11_Right : CallFn := fun args objs =>
match args with
| [a0] =>
oNew none (some 26) a0 objs fun x1 h2 =>
      oJoin (oFieldA 0 x1 fun x3 =>
      oLoad none x3 h2 fun x4 =>
      oLend ref11_id [x4] h2 (fun v7 h8 => some (Ex.panic v7, [], h8)) fun w34 h35 => oFrz w34 h35 fun x5 h6 =>
      oNot x5 fun x9 =>
      oGuard x9 false (fun _ => oFieldA 2 x1 fun x10 =>
      oLoad (some 2) x10 h6 fun x11 =>
      oLend ref09_Right [x11] h6 (fun v14 h15 => some (Ex.panic v14, [], h15)) fun w32 h33 => oFrz w32 h33 fun x12 h13 =>
      oNot x12 fun x16 =>
      oGuard x16 false (fun _ => oFieldA 1 x1 fun x17 =>
      oLoad none x17 h13 fun x18 =>
      oCmp .neq x18 (.s (.int .i64 2)) fun x19 =>
      oGuard x19 true (fun _ => oFieldA 1 x1 fun x20 =>
      oLoad none x20 h13 fun x21 =>
      oCmp .neq x21 (.s (.int .i64 3)) fun x22 =>
      oGuard x22 true (fun _ => oFieldA 2 x1 fun x23 =>
      oLoad (some 2) x23 h13 fun x24 =>
      oLend ref10_Pure [x24] h13 (fun v27 h28 => some (Ex.panic v27, [], h28)) fun w30 h31 => oFrz w30 h31 fun x25 h26 =>
      oNot x25 fun x29 =>
      (trim true h2.length [x29] h26).map fun p => (Ex.normal, p.1, p.2))
      (fun _ => (trim true h2.length [(.s (.bool false))] h13).map fun p => (Ex.normal, p.1, p.2)))
      (fun _ => (trim true h2.length [(.s (.bool false))] h13).map fun p => (Ex.normal, p.1, p.2)))
      (fun _ => (trim true h2.length [(.s (.bool true))] h13).map fun p => (Ex.normal, p.1, p.2)))
      (fun _ => (trim true h2.length [(.s (.bool true))] h6).map fun p => (Ex.normal, p.1, p.2))) (ref11_Right_k14 objs x1)
| _ => none

def ref13_Find_l1 (x3 : A) (a0 : A) (a1 : A) (x1 : A) (h2 : Heap) : List A × Heap → Option ((List A × Heap) ⊕ (Ex × List A × Heap)) := fun s4 =>
      oCmp .lss (s4.1.getD 0 .any) x3 fun x5 =>
      oCond x5 (oIdxA 26 a0 (s4.1.getD 0 .any) fun x6 =>
      oLoad (some 26) x6 s4.2 fun x7 =>
      oNew none (some 26) (.agg [.s (.int .u64 0), .s (.int .i64 0), .s (.int .i64 0), .s (.slice none 0 0), .s (.int .i64 0), .s (.slice none 0 0), .s (.int .i64 0), .s (.int .i64 0), .s (.slice none 0 0), .s (.slice none 0 0), .s (.int .u64 0), .s (.int .u64 0), .s (.int .u64 0), .s (.int .u64 0), .s (.int .i64 0), .s (.int .i64 0), .s (.bool false), .s (.int .u64 0), .s (.int .u64 0), .s (.int .u64 0), .s (.int .u64 0), .s (.int .u64 0), .s (.int .u64 0), .s (.int .u64 0), .s (.int .u64 0), .s (.int .u64 0)]) s4.2 fun x8 h9 =>
      oStore (some 26) x8 x7 h9 fun h10 =>
      oFieldA 0 x8 fun x11 =>
      oLoad none x11 h10 fun x12 =>
      oCmp .eql x12 a1 fun x13 =>
      oCond x13 (oLoad (some 26) x8 h10 fun x14 =>
      oStore (some 26) x1 x14 h10 fun h15 =>
      (trim true h2.length [(.s (.bool true))] h15).map fun p => .inr (Ex.ret, p.1, p.2))
      (oAr .add (s4.1.getD 0 .any) (.s (.int .i64 1)) fun x16 =>
      (trim true h2.length [x16] h10).map .inl))
      ((trim true h2.length [.any] s4.2).map fun p => .inr (Ex.exit 0, p.1, p.2))

def ref13_Find_k2 (x1 : A) (objs : Heap) : Ex → List A → Heap → Option (Out × Heap) := fun e17 vs18 h19 =>
      (match e17 with
  | .normal => none
  | .exit i20 => if i20 = 0 then oBuildP [.s (.int .u64 0), .s (.int .i64 0), .s (.int .i64 0), .s (.slice none 0 0), .s (.int .i64 0), .s (.slice none 0 0), .s (.int .i64 0), .s (.int .i64 0), .s (.slice none 0 0), .s (.slice none 0 0), .s (.int .u64 0), .s (.int .u64 0), .s (.int .u64 0), .s (.int .u64 0), .s (.int .i64 0), .s (.int .i64 0), .s (.bool false), .s (.int .u64 0), .s (.int .u64 0), .s (.int .u64 0), .s (.int .u64 0), .s (.int .u64 0), .s (.int .u64 0), .s (.int .u64 0), .s (.int .u64 0), .s (.int .u64 0)] [] fun x22 =>
      oStore (some 26) x1 x22 h19 fun h23 =>
      oLoad (some 26) x1 h23 fun r24 =>
      finish objs.length (.ok (.tup [r24, (.s (.bool false))])) h23 else none
  | .ret => oLoad (some 26) x1 h19 fun r25 =>
      finish objs.length (.ok (.tup [r25, (vs18.getD 0 .any)])) h19
  | .panic v21 => finish objs.length (.pan v21) h19)

/-- bailey/baileyref13.Find -/
def ref13_Find : CallFn := fun args objs =>
match args with
| [a0, a1] =>
oNew none (some 26) (.agg [.s (.int .u64 0), .s (.int .i64 0), .s (.int .i64 0), .s (.slice none 0 0), .s (.int .i64 0), .s (.slice none 0 0), .s (.int .i64 0), .s (.int .i64 0), .s (.slice none 0 0), .s (.slice none 0 0), .s (.int .u64 0), .s (.int .u64 0), .s (.int .u64 0), .s (.int .u64 0), .s (.int .i64 0), .s (.int .i64 0), .s (.bool false), .s (.int .u64 0), .s (.int .u64 0), .s (.int .u64 0), .s (.int .u64 0), .s (.int .u64 0), .s (.int .u64 0), .s (.int .u64 0), .s (.int .u64 0), .s (.int .u64 0)]) objs fun x1 h2 =>
      oLen a0 fun x3 =>
      oLoop (ref13_Find_l1 x3 a0 a1 x1 h2) ([(.s (.int .i64 0))], h2) (ref13_Find_k2 x1 objs)
| _ => none

def ref13_Fits_k1 (objs : Heap) (x13 : A) (x1 : A) : Ex → List A → Heap → Option (Out × Heap) := fun e24 vs22 h23 =>
      (match e24 with
  | .normal => oCond (vs22.getD 0 .any) (finish objs.length (.ok (.s (.bool false))) h23)
      (oFieldA 1 x13 fun x27 =>
      oLoad none x27 h23 fun x28 =>
      oCmp .neq x28 (.s (.int .i64 1)) fun x29 =>
      oGuard x29 false (fun _ => oFieldA 0 x13 fun x30 =>
      oLoad none x30 h23 fun x31 =>
      oAr .quo x31 (.s (.int .u64 64)) fun x32 =>
      oFieldA 0 x1 fun x33 =>
      oLoad none x33 h23 fun x34 =>
      oCmp .eql x32 x34 fun x35 =>
      finish objs.length (.ok x35) h23)
      (fun _ => finish objs.length (.ok (.s (.bool true))) h23))
  | .exit i25 => none
  | .ret => finish objs.length (.ok (.s (.bool false))) h23
  | .panic v26 => finish objs.length (.pan v26) h23)

/-- bailey/baileyref13.Fits -/
def ref13_Fits : CallFn := fun args objs =>
match args with
| [a0, a1, a2] =>
oNew none (some 26) a1 objs fun x1 h2 =>
      oNew none (some 2) a2 h2 fun x3 h4 =>
      oFieldA 0 x3 fun x5 =>
      oLoad none x5 h4 fun x6 =>
      oLend ref13_Find [a0, x6] h4 (fun v9 h10 => finish objs.length (.pan v9) h10) fun w36 h37 => oFrz w36 h37 fun x7 h8 =>
      oExtract 0 x7 fun x11 =>
      oExtract 1 x7 fun x12 =>
      oNew none (some 26) (.agg [.s (.int .u64 0), .s (.int .i64 0), .s (.int .i64 0), .s (.slice none 0 0), .s (.int .i64 0), .s (.slice none 0 0), .s (.int .i64 0), .s (.int .i64 0), .s (.slice none 0 0), .s (.slice none 0 0), .s (.int .u64 0), .s (.int .u64 0), .s (.int .u64 0), .s (.int .u64 0), .s (.int .i64 0), .s (.int .i64 0), .s (.bool false), .s (.int .u64 0), .s (.int .u64 0), .s (.int .u64 0), .s (.int .u64 0), .s (.int .u64 0), .s (.int .u64 0), .s (.int .u64 0), .s (.int .u64 0), .s (.int .u64 0)]) h8 fun x13 h14 =>
      oStore (some 26) x13 x11 h14 fun h15 =>
      oJoin (oNot x12 fun x16 =>
      oGuard x16 false (fun _ => oFieldA 6 x13 fun x17 =>
      oLoad none x17 h15 fun x18 =>
      oFieldA 1 x3 fun x19 =>
      oLoad none x19 h15 fun x20 =>
      oCmp .neq x18 x20 fun x21 =>
      (trim true h15.length [x21] h15).map fun p => (Ex.normal, p.1, p.2))
      (fun _ => (trim true h15.length [(.s (.bool true))] h15).map fun p => (Ex.normal, p.1, p.2))) (ref13_Fits_k1 objs x13 x1)
| _ => none

/-- bailey/baileyref13.Above -/
def ref13_Above_step (self : CallFn) : CallFn := fun args objs =>
match args with
| [a0] =>
oCmp .eql a0 (.s (.int .u64 0)) fun x1 =>
      oCond x1 (oNewSlice none 1 (asRows none []) objs fun x2 h3 =>
      finish objs.length (.ok x2) h3)
      (oNewSlice none 1 (asRows none [a0]) objs fun x4 h5 =>
      oAr .quo a0 (.s (.int .u64 64)) fun x6 =>
      oLend self [x6] h5 (fun v9 h10 => finish objs.length (.pan v9) h10) fun w13 h14 => oFrz w13 h14 fun x7 h8 =>
      oAppend none 1 8 x4 x7 h8 fun x11 h12 =>
      finish objs.length (.ok x11) h12)
| _ => none

def ref13_Above : Nat → CallFn
| 0 => fun _ _ => none
| n + 1 => ref13_Above_step (ref13_Above n)

def ref13_Given_k1 (x19 : A) (s16 : List A × Heap) : Ex → List A → Heap → Option (Ex × List A × Heap) := fun e27 vs25 h26 =>
      (match e27 with
  | .normal => oCond (vs25.getD 0 .any) (oAr .rem x19 (.s (.int .u64 64)) fun x30 =>
      oConv .i64 x30 fun x31 =>
      (trim true s16.2.length [x31] h26).map fun p => (Ex.normal, p.1, p.2))
      ((trim true s16.2.length [(s16.1.getD 0 .any)] h26).map fun p => (Ex.normal, p.1, p.2))
  | .exit i28 => if i28 = 3 then (trim true s16.2.length [(s16.1.getD 0 .any)] h26).map fun p => (Ex.normal, p.1, p.2) else (trim true s16.2.length [(s16.1.getD 0 .any)] h26).map fun p => (Ex.exit i28, p.1, p.2)
  | .ret => (trim true s16.2.length [(s16.1.getD 0 .any)] h26).map fun p => (Ex.ret, p.1, p.2)
  | .panic v29 => some (Ex.panic v29, [], h26))

def ref13_Given_k2 (s16 : List A × Heap) (h12 : Heap) : Ex → List A → Heap → Option ((List A × Heap) ⊕ (Ex × List A × Heap)) := fun e34 vs32 h33 =>
      (match e34 with
  | .normal => oAr .add (s16.1.getD 1 .any) (.s (.int .i64 1)) fun x37 =>
      (trim true h12.length [(vs32.getD 0 .any), x37] h33).map .inl
  | .exit i35 => (trim true h12.length [(vs32.getD 0 .any)] h33).map fun p => .inr (Ex.exit i35, p.1, p.2)
  | .ret => (trim true h12.length [(vs32.getD 0 .any)] h33).map fun p => .inr (Ex.ret, p.1, p.2)
  | .panic v36 => some (.inr (Ex.panic v36, [.any], h33)))

def ref13_Given_l3 (x15 : A) (x11 : A) (a1 : A) (h12 : Heap) : List A × Heap → Option ((List A × Heap) ⊕ (Ex × List A × Heap)) := fun s16 =>
      oCmp .lss (s16.1.getD 1 .any) x15 fun x17 =>
      oCond x17 (oJoin (oIdxA 1 x11 (s16.1.getD 1 .any) fun x18 =>
      oLoad none x18 s16.2 fun x19 =>
      oJoin (oAr .quo x19 (.s (.int .u64 64)) fun x20 =>
      oCmp .eql x20 a1 fun x21 =>
      oGuard x21 true (fun _ => oAr .rem x19 (.s (.int .u64 64)) fun x22 =>
      oConv .i64 x22 fun x23 =>
      oCmp .gtr x23 (s16.1.getD 0 .any) fun x24 =>
      (trim true s16.2.length [x24] s16.2).map fun p => (Ex.normal, p.1, p.2))
      (fun _ => (trim true s16.2.length [(.s (.bool false))] s16.2).map fun p => (Ex.normal, p.1, p.2))) (ref13_Given_k1 x19 s16)) (ref13_Given_k2 s16 h12))
      ((trim true h12.length [(s16.1.getD 0 .any)] s16.2).map fun p => .inr (Ex.exit 2, p.1, p.2))

def ref13_Given_k4 (s2 : List A × Heap) (objs : Heap) : Ex → List A → Heap → Option ((List A × Heap) ⊕ (Ex × List A × Heap)) := fun e38 vs39 h40 =>
      (match e38 with
  | .normal => none
  | .exit i41 => if i41 = 2 then oAr .add (s2.1.getD 1 .any) (.s (.int .i64 1)) fun x43 =>
      (trim true objs.length [(vs39.getD 0 .any), x43] h40).map .inl else if i41 = 1 then oAr .add (s2.1.getD 1 .any) (.s (.int .i64 1)) fun x44 =>
      (trim true objs.length [(vs39.getD 0 .any), x44] h40).map .inl else (trim true objs.length [(vs39.getD 0 .any)] h40).map fun p => .inr (Ex.exit i41, p.1, p.2)
  | .ret => (trim true objs.length [(vs39.getD 0 .any)] h40).map fun p => .inr (Ex.ret, p.1, p.2)
  | .panic v42 => some (.inr (Ex.panic v42, [.any], h40)))

def ref13_Given_l5 (x1 : A) (a0 : A) (a1 : A) (objs : Heap) : List A × Heap → Option ((List A × Heap) ⊕ (Ex × List A × Heap)) := fun s2 =>
      oCmp .lss (s2.1.getD 1 .any) x1 fun x3 =>
      oCond x3 (oIdxA 26 a0 (s2.1.getD 1 .any) fun x4 =>
      oLoad (some 26) x4 s2.2 fun x5 =>
      oNew none (some 26) (.agg [.s (.int .u64 0), .s (.int .i64 0), .s (.int .i64 0), .s (.slice none 0 0), .s (.int .i64 0), .s (.slice none 0 0), .s (.int .i64 0), .s (.int .i64 0), .s (.slice none 0 0), .s (.slice none 0 0), .s (.int .u64 0), .s (.int .u64 0), .s (.int .u64 0), .s (.int .u64 0), .s (.int .i64 0), .s (.int .i64 0), .s (.bool false), .s (.int .u64 0), .s (.int .u64 0), .s (.int .u64 0), .s (.int .u64 0), .s (.int .u64 0), .s (.int .u64 0), .s (.int .u64 0), .s (.int .u64 0), .s (.int .u64 0)]) s2.2 fun x6 h7 =>
      oStore (some 26) x6 x5 h7 fun h8 =>
      oFieldA 0 x6 fun x9 =>
      oLoad none x9 h8 fun x10 =>
      oLend (ref13_Above big) [x10] h8 (fun v13 h14 => some (.inr (Ex.panic v13, [.any], h14))) fun w45 h46 => oFrz w45 h46 fun x11 h12 =>
      oLen x11 fun x15 =>
      oLoop (ref13_Given_l3 x15 x11 a1 h12) ([(s2.1.getD 0 .any), (.s (.int .i64 0))], h12) (ref13_Given_k4 s2 objs))
      ((trim true objs.length [(s2.1.getD 0 .any)] s2.2).map fun p => .inr (Ex.exit 0, p.1, p.2))

def ref13_Given_k6 (objs : Heap) : Ex → List A → Heap → Option (Out × Heap) := fun e47 vs48 h49 =>
      (match e47 with
  | .normal => none
  | .exit i50 => if i50 = 0 then finish objs.length (.ok (vs48.getD 0 .any)) h49 else none
  | .ret => finish objs.length (.ok (.s (.int .i64 0))) h49
  | .panic v51 => finish objs.length (.pan v51) h49)

/-- bailey/baileyref13.Given -/
def ref13_Given : CallFn := fun args objs =>
match args with
| [a0, a1] =>
oLen a0 fun x1 =>
      oLoop (ref13_Given_l5 x1 a0 a1 objs) ([(.s (.int .i64 0)), (.s (.int .i64 0))], objs) (ref13_Given_k6 objs)
| _ => none

def ref13_Sound_l1 (x69 : A) (x68 : A) (x35 : A) (a0 : A) (h63 : Heap) : List A × Heap → Option ((List A × Heap) ⊕ (Ex × List A × Heap)) := fun s70 =>
      oCmp .lss (s70.1.getD 0 .any) x69 fun x71 =>
      oCond x71 (oIdxA 2 x68 (s70.1.getD 0 .any) fun x72 =>
      oLoad (some 2) x72 s70.2 fun x73 =>
      oNew none (some 2) (.agg [.s (.int .u64 0), .s (.int .i64 0)]) s70.2 fun x74 h75 =>
      oStore (some 2) x74 x73 h75 fun h76 =>
      oLoad (some 26) x35 h76 fun x77 =>
      oLoad (some 2) x74 h76 fun x78 =>
      oLend ref13_Fits [a0, x77, x78] h76 (fun v81 h82 => some (.inr (Ex.panic v81, [.any], h82))) fun w85 h86 => oFrz w85 h86 fun x79 h80 =>
      oNot x79 fun x83 =>
      oCond x83 ((trim true h63.length [(.s (.bool false))] h80).map fun p => .inr (Ex.ret, p.1, p.2))
      (oAr .add (s70.1.getD 0 .any) (.s (.int .i64 1)) fun x84 =>
      (trim true h63.length [x84] h80).map .inl))
      ((trim true h63.length [.any] s70.2).map fun p => .inr (Ex.exit 2, p.1, p.2))

def ref13_Sound_k2 (h26 : Heap) (s31 : List A × Heap) (vs88 : List A) : Ex → List A → Heap → Option ((List A × Heap) ⊕ (Ex × List A × Heap)) := fun e109 vs107 h108 =>
      (match e109 with
  | .normal => oCond (vs107.getD 0 .any) ((trim true h26.length [(.s (.bool false))] h108).map fun p => .inr (Ex.ret, p.1, p.2))
      (oAr .add (s31.1.getD 0 .any) (.s (.int .i64 1)) fun x112 =>
      (trim true h26.length [x112] h108).map .inl)
  | .exit i110 => if i110 = 1 then oAr .add (s31.1.getD 0 .any) (.s (.int .i64 1)) fun x113 =>
      (trim true h26.length [x113] h108).map .inl else (trim true h26.length [(vs88.getD 0 .any)] h108).map fun p => .inr (Ex.exit i110, p.1, p.2)
  | .ret => (trim true h26.length [(vs88.getD 0 .any)] h108).map fun p => .inr (Ex.ret, p.1, p.2)
  | .panic v111 => some (.inr (Ex.panic v111, [.any], h108)))

def ref13_Sound_k3 (x35 : A) (a0 : A) (h26 : Heap) (s31 : List A × Heap) : Ex → List A → Heap → Option ((List A × Heap) ⊕ (Ex × List A × Heap)) := fun e87 vs88 h89 =>
      (match e87 with
  | .normal => none
  | .exit i90 => if i90 = 2 then oJoin (oFieldA 1 x35 fun x92 =>
      oLoadD h89.length [] none x92 h89 fun x93 h94 =>
      oCmp .eql x93 (.s (.int .i64 1)) fun x95 =>
      oGuard x95 true (fun _ => oFieldA 0 x35 fun x96 =>
      oLoadD h89.length [] none x96 h94 fun x97 h98 =>
      oCallF h89.length [] ref13_Given [a0, x97] h98 fun w105 h106 => oFrz w105 h106 fun x99 h100 =>
      oFieldA 7 x35 fun x101 =>
      oLoadD h89.length [] none x101 h100 fun x102 h103 =>
      oCmp .gtr x99 x102 fun x104 =>
      (trim true h89.length [x104] h103).map fun p => (Ex.normal, p.1, p.2))
      (fun _ => (trim true h89.length [(.s (.bool false))] h94).map fun p => (Ex.normal, p.1, p.2))) (ref13_Sound_k2 h26 s31 vs88) else if i90 = 1 then oAr .add (s31.1.getD 0 .any) (.s (.int .i64 1)) fun x114 =>
      (trim true h26.length [x114] h89).map .inl else (trim true h26.length [(vs88.getD 0 .any)] h89).map fun p => .inr (Ex.exit i90, p.1, p.2)
  | .ret => (trim true h26.length [(vs88.getD 0 .any)] h89).map fun p => .inr (Ex.ret, p.1, p.2)
  | .panic v91 => some (.inr (Ex.panic v91, [.any], h89)))

def ref13_Sound_k4 (h26 : Heap) (x35 : A) (a0 : A) (s31 : List A × Heap) : Ex → List A → Heap → Option ((List A × Heap) ⊕ (Ex × List A × Heap)) := fun e64 vs62 h63 =>
      (match e64 with
  | .normal => oCond (vs62.getD 0 .any) ((trim true h26.length [(.s (.bool false))] h63).map fun p => .inr (Ex.ret, p.1, p.2))
      (oFieldA 8 x35 fun x67 =>
      oLoad none x67 h63 fun x68 =>
      oLen x68 fun x69 =>
      oLoop (ref13_Sound_l1 x69 x68 x35 a0 h63) ([(.s (.int .i64 0))], h63) (ref13_Sound_k3 x35 a0 h26 s31))
  | .exit i65 => if i65 = 1 then oAr .add (s31.1.getD 0 .any) (.s (.int .i64 1)) fun x115 =>
      (trim true h26.length [x115] h63).map .inl else (trim true h26.length [.any] h63).map fun p => .inr (Ex.exit i65, p.1, p.2)
  | .ret => (trim true h26.length [.any] h63).map fun p => .inr (Ex.ret, p.1, p.2)
  | .panic v66 => some (.inr (Ex.panic v66, [.any], h63)))

def ref13_Sound_l5 (x30 : A) (a0 : A) (h26 : Heap) : List A × Heap → Option ((List A × Heap) ⊕ (Ex × List A × Heap)) := fun s31 =>
      oCmp .lss (s31.1.getD 0 .any) x30 fun x32 =>
      oCond x32 (oIdxA 26 a0 (s31.1.getD 0 .any) fun x33 =>
      oLoad (some 26) x33 s31.2 fun x34 =>
      oNew none (some 26) (.agg [.s (.int .u64 0), .s (.int .i64 0), .s (.int .i64 0), .s (.slice none 0 0), .s (.int .i64 0), .s (.slice none 0 0), .s (.int .i64 0), .s (.int .i64 0), .s (.slice none 0 0), .s (.slice none 0 0), .s (.int .u64 0), .s (.int .u64 0), .s (.int .u64 0), .s (.int .u64 0), .s (.int .i64 0), .s (.int .i64 0), .s (.bool false), .s (.int .u64 0), .s (.int .u64 0), .s (.int .u64 0), .s (.int .u64 0), .s (.int .u64 0), .s (.int .u64 0), .s (.int .u64 0), .s (.int .u64 0), .s (.int .u64 0)]) s31.2 fun x35 h36 =>
      oStore (some 26) x35 x34 h36 fun h37 =>
      oFieldA 0 x35 fun x38 =>
      oLoad none x38 h37 fun x39 =>
      oLend ref13_Refs [a0, x39] h37 (fun v42 h43 => some (.inr (Ex.panic v42, [.any], h43))) fun w116 h117 => oFrz w116 h117 fun x40 h41 =>
      oJoin (oLoad (some 26) x35 h41 fun x44 =>
      oLend ref11_Right [x44] h41 (fun v47 h48 => some (Ex.panic v47, [], h48)) fun w60 h61 => oFrz w60 h61 fun x45 h46 =>
      oNot x45 fun x49 =>
      oGuard x49 false (fun _ => oCmp .gtr (s31.1.getD 0 .any) (.s (.int .i64 0)) fun x50 =>
      oGuard x50 true (fun _ => oCmp .lss x40 (.s (.int .i64 1)) fun x51 =>
      oGuard x51 false (fun _ => oFieldA 1 x35 fun x52 =>
      oLoad none x52 h46 fun x53 =>
      oCmp .eql x53 (.s (.int .i64 1)) fun x54 =>
      oGuard x54 true (fun _ => oCmp .gtr x40 (.s (.int .i64 1)) fun x55 =>
      (trim true h41.length [x55] h46).map fun p => (Ex.normal, p.1, p.2))
      (fun _ => (trim true h41.length [(.s (.bool false))] h46).map fun p => (Ex.normal, p.1, p.2)))
      (fun _ => (trim true h41.length [(.s (.bool true))] h46).map fun p => (Ex.normal, p.1, p.2)))
      (fun _ => oFieldA 1 x35 fun x56 =>
      oLoad none x56 h46 fun x57 =>
      oCmp .eql x57 (.s (.int .i64 1)) fun x58 =>
      oGuard x58 true (fun _ => oCmp .gtr x40 (.s (.int .i64 1)) fun x59 =>
      (trim true h41.length [x59] h46).map fun p => (Ex.normal, p.1, p.2))
      (fun _ => (trim true h41.length [(.s (.bool false))] h46).map fun p => (Ex.normal, p.1, p.2))))
      (fun _ => (trim true h41.length [(.s (.bool true))] h46).map fun p => (Ex.normal, p.1, p.2))) (ref13_Sound_k4 h26 x35 a0 s31))
      ((trim true h26.length [.any] s31.2).map fun p => .inr (Ex.exit 0, p.1, p.2))

def ref13_Sound_k6 (objs : Heap) : Ex → List A → Heap → Option (Out × Heap) := fun e118 vs119 h120 =>
      (match e118 with
  | .normal => none
  | .exit i121 => if i121 = 0 then finish objs.length (.ok (.s (.bool true))) h120 else none
  | .ret => finish objs.length (.ok (vs119.getD 0 .any)) h120
  | .panic v122 => finish objs.length (.pan v122) h120)

def ref13_Sound_k7 (objs : Heap) (a0 : A) : Ex → List A → Heap → Option (Out × Heap) := fun e27 vs25 h26 =>
      (match e27 with
  | .normal => oCond (vs25.getD 0 .any) (finish objs.length (.ok (.s (.bool false))) h26)
      (oLen a0 fun x30 =>
      oLoop (ref13_Sound_l5 x30 a0 h26) ([(.s (.int .i64 0))], h26) (ref13_Sound_k6 objs))
  | .exit i28 => none
  | .ret => finish objs.length (.ok (.s (.bool false))) h26
  | .panic v29 => finish objs.length (.pan v29) h26)

/-- bailey/baileyref13.Sound -/
def ref13_Sound : CallFn := fun args objs =>
match args with
| [a0] =>
oJoin (oLend ref13_Graph [a0] objs (fun v3 h4 => some (Ex.panic v3, [], h4)) fun w23 h24 => oFrz w23 h24 fun x1 h2 =>
      oNot x1 fun x5 =>
      oGuard x5 false (fun _ => oLen a0 fun x6 =>
      oCmp .eql x6 (.s (.int .i64 0)) fun x7 =>
      oGuard x7 false (fun _ => oIdxA 26 a0 (.s (.int .i64 0)) fun x8 =>
      oFieldA 0 x8 fun x9 =>
      oLoad none x9 h2 fun x10 =>
      oCmp .neq x10 (.s (.int .u64 1)) fun x11 =>
      oGuard x11 false (fun _ => oIdxA 26 a0 (.s (.int .i64 0)) fun x12 =>
      oFieldA 1 x12 fun x13 =>
      oLoad none x13 h2 fun x14 =>
      oCmp .neq x14 (.s (.int .i64 1)) fun x15 =>
      oGuard x15 false (fun _ => oLend ref13_Refs [a0, (.s (.int .u64 1))] h2 (fun v18 h19 => some (Ex.panic v18, [], h19)) fun w21 h22 => oFrz w21 h22 fun x16 h17 =>
      oCmp .gtr x16 (.s (.int .i64 0)) fun x20 =>
      (trim true objs.length [x20] h17).map fun p => (Ex.normal, p.1, p.2))
      (fun _ => (trim true objs.length [(.s (.bool true))] h2).map fun p => (Ex.normal, p.1, p.2)))
      (fun _ => (trim true objs.length [(.s (.bool true))] h2).map fun p => (Ex.normal, p.1, p.2)))
      (fun _ => (trim true objs.length [(.s (.bool true))] h2).map fun p => (Ex.normal, p.1, p.2)))
      (fun _ => (trim true objs.length [(.s (.bool true))] h2).map fun p => (Ex.normal, p.1, p.2))) (ref13_Sound_k7 objs a0)
| _ => none

/-- bailey/baileylaw20.KernWorlds -/
def law20_KernWorlds : CallFn := fun args objs =>
match args with
| [a0] =>
oLend kern_World [a0] objs (fun v3 h4 => finish objs.length (.pan v3) h4) fun w35 h36 => oFrz w35 h36 fun x1 h2 =>
      oExtract 0 x1 fun x5 =>
      oExtract 1 x1 fun x6 =>
      oLend ref20_World [a0] h2 (fun v9 h10 => finish objs.length (.pan v9) h10) fun w33 h34 => oFrz w33 h34 fun x7 h8 =>
      oExtract 0 x7 fun x11 =>
      oExtract 1 x7 fun x12 =>
      oLend law20_kernAlive [] h8 (fun v15 h16 => finish objs.length (.pan v15) h16) fun w31 h32 => oFrz w31 h32 fun x13 h14 =>
      oGuard x13 true (fun _ => oLend ref13_Same [x5, x11] h14 (fun v19 h20 => finish objs.length (.pan v19) h20) fun w29 h30 => oFrz w29 h30 fun x17 h18 =>
      oGuard x17 true (fun _ => oCmp .eql x6 x12 fun x21 =>
      oGuard x21 true (fun _ => oCmp .neq x6 (.s (.int .i64 0)) fun x22 =>
      oGuard x22 false (fun _ => oLend ref13_Sound [x5] h18 (fun v25 h26 => finish objs.length (.pan v25) h26) fun w27 h28 => oFrz w27 h28 fun x23 h24 =>
      finish objs.length (.ok x23) h24)
      (fun _ => finish objs.length (.ok (.s (.bool true))) h18))
      (fun _ => finish objs.length (.ok (.s (.bool false))) h18))
      (fun _ => finish objs.length (.ok (.s (.bool false))) h18))
      (fun _ => finish objs.length (.ok (.s (.bool false))) h14)
| _ => none

end Go.Ab.F
