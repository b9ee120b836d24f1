/-
  THE PROGRAM'S FUNCTIONS OVER VALUES WITHOUT ADDRESSES. Written by a program (emit.py).
-/
import Derived.Test.YtbaknldomnoeiaaRAbsPrim
set_option maxRecDepth 100000
set_option linter.unusedVariables false
namespace Go.Ab.F
open Go Go.Ab

def extent_New_k1 (objs : Heap) (x4 : A) : Ex → List A → Heap → Option (Out × Heap) := fun e21 vs19 h20 =>
      (match e21 with
  | .normal => finish objs.length (.ok x4) h20
  | .exit i22 => none
  | .ret => finish objs.length (.ok (.s (.pointer none))) h20
  | .panic v23 => finish objs.length (.pan v23) h20)

/-- bailey/extent.New -/
def extent_New : CallFn := fun args objs =>
match args with
| [a0] =>
oMin a0 (.s (.int .i64 1024)) fun x1 =>
      oMax (.s (.int .i64 0)) x1 fun x2 =>
      oBuildP [.s (.int .i64 0), .s (.slice none 0 0), .s (.slice none 0 0)] [(0, none, x2)] fun x3 =>
      oNew none (some 3) x3 objs fun x4 h5 =>
      oJoin (oNilCheck x4 fun x6 =>
      oFieldA 0 x6 fun x7 =>
      oLoad none x7 h5 fun x8 =>
      oCmp .gtr x8 (.s (.int .i64 0)) fun x9 =>
      oCond x9 (oNilCheck x4 fun x10 =>
      oFieldA 0 x10 fun x11 =>
      oLoad none x11 h5 fun x12 =>
      oBuildP [.s (.int .i64 0), .s (.int .i64 0)] [(0, none, (.s (.int .i64 0))), (1, none, x12)] fun x13 =>
      oNewSlice none 2 (asRows (some 2) [x13]) h5 fun x14 h15 =>
      oNilCheck x4 fun x16 =>
      oFieldA 1 x16 fun x17 =>
      oStore none x17 x14 h15 fun h18 =>
      (trim true h5.length [] h18).map fun p => (Ex.normal, p.1, p.2))
      ((trim true h5.length [] h5).map fun p => (Ex.normal, p.1, p.2))) (extent_New_k1 objs x4)
| _ => none

/-- bailey/extent.end -/
def extent_end : CallFn := fun args objs =>
match args with
| [a0] =>
oNew none (some 2) a0 objs fun x1 h2 =>
      oFieldA 0 x1 fun x3 =>
      oLoad none x3 h2 fun x4 =>
      oFieldA 1 x1 fun x5 =>
      oLoad none x5 h2 fun x6 =>
      oAr .add x4 x6 fun x7 =>
      finish objs.length (.ok x7) h2
| _ => none

def extent_cut_k1 (x1 : A) (x10 : A) (s6 : List A × Heap) : Ex → List A → Heap → Option (Ex × List A × Heap) := fun e62 vs60 h61 =>
      (match e62 with
  | .normal => oLoadD h61.length [] (some 2) x1 h61 fun x65 h66 =>
      oCallF h61.length [] extent_end [x65] h66 fun w100 h101 => oFrz w100 h101 fun x67 h68 =>
      oLoadD h61.length [] (some 2) x10 h68 fun x69 h70 =>
      oCallF h61.length [] extent_end [x69] h70 fun w98 h99 => oFrz w98 h99 fun x71 h72 =>
      oCmp .lss x67 x71 fun x73 =>
      oCond x73 (oLoadD h72.length (wrL h72 [((vs60.getD 0 .any), false)]) (some 2) x1 (h72 ++ List.replicate 2 .res) fun x74 h75 =>
      oCallF h72.length (wrL h72 [((vs60.getD 0 .any), false)]) extent_end [x74] h75 fun w96 h97 => oFrz w96 h97 fun x76 h77 =>
      oLoadD h72.length (wrL h72 [((vs60.getD 0 .any), false)]) (some 2) x10 h77 fun x78 h79 =>
      oCallF h72.length (wrL h72 [((vs60.getD 0 .any), false)]) extent_end [x78] h79 fun w94 h95 => oFrz w94 h95 fun x80 h81 =>
      oLoadD h72.length (wrL h72 [((vs60.getD 0 .any), false)]) (some 2) x1 h81 fun x82 h83 =>
      oCallF h72.length (wrL h72 [((vs60.getD 0 .any), false)]) extent_end [x82] h83 fun w92 h93 => oFrz w92 h93 fun x84 h85 =>
      oAr .sub x80 x84 fun x86 =>
      oBuildP [.s (.int .i64 0), .s (.int .i64 0)] [(0, none, x76), (1, none, x86)] fun x87 =>
      oNewSlice (some h72.length) 2 (asRows (some 2) [x87]) h85 fun x88 h89 =>
      oAppendD h72.length (wrL h72 [((vs60.getD 0 .any), false)]) (h72.length + 1) 2 16 (vs60.getD 0 .any) x88 h89 fun x90 h91 =>
      (trim true s6.2.length [x90] h91).map fun p => (Ex.normal, p.1, p.2))
      ((trim true s6.2.length [(vs60.getD 0 .any)] h72).map fun p => (Ex.normal, p.1, p.2))
  | .exit i63 => if i63 = 1 then (trim true s6.2.length [(vs60.getD 0 .any)] h61).map fun p => (Ex.normal, p.1, p.2) else (trim true s6.2.length [(vs60.getD 0 .any)] h61).map fun p => (Ex.exit i63, p.1, p.2)
  | .ret => (trim true s6.2.length [(vs60.getD 0 .any)] h61).map fun p => (Ex.ret, p.1, p.2)
  | .panic v64 => some (Ex.panic v64, [], h61))

def extent_cut_k2 (x10 : A) (s6 : List A × Heap) (x1 : A) : Ex → List A → Heap → Option (Ex × List A × Heap) := fun e35 vs33 h34 =>
      (match e35 with
  | .normal => oCond (vs33.getD 0 .any) (oLoad (some 2) x10 h34 fun x38 =>
      oNewSlice none 2 (asRows (some 2) [x38]) h34 fun x39 h40 =>
      oAppend none 2 16 (s6.1.getD 0 .any) x39 h40 fun x41 h42 =>
      (trim true s6.2.length [x41] h42).map fun p => (Ex.normal, p.1, p.2))
      (oJoin (oFieldA 0 x10 fun x43 =>
      oLoad none x43 h34 fun x44 =>
      oFieldA 0 x1 fun x45 =>
      oLoad none x45 h34 fun x46 =>
      oCmp .lss x44 x46 fun x47 =>
      oCond x47 (oFieldA 0 x10 fun x48 =>
      oLoad none x48 h34 fun x49 =>
      oFieldA 0 x1 fun x50 =>
      oLoad none x50 h34 fun x51 =>
      oFieldA 0 x10 fun x52 =>
      oLoad none x52 h34 fun x53 =>
      oAr .sub x51 x53 fun x54 =>
      oBuildP [.s (.int .i64 0), .s (.int .i64 0)] [(0, none, x49), (1, none, x54)] fun x55 =>
      oNewSlice none 2 (asRows (some 2) [x55]) h34 fun x56 h57 =>
      oAppend none 2 16 (s6.1.getD 0 .any) x56 h57 fun x58 h59 =>
      (trim true h34.length [x58] h59).map fun p => (Ex.normal, p.1, p.2))
      ((trim true h34.length [(s6.1.getD 0 .any)] h34).map fun p => (Ex.normal, p.1, p.2))) (extent_cut_k1 x1 x10 s6))
  | .exit i36 => if i36 = 1 then (trim true s6.2.length [(s6.1.getD 0 .any)] h34).map fun p => (Ex.normal, p.1, p.2) else (trim true s6.2.length [(s6.1.getD 0 .any)] h34).map fun p => (Ex.exit i36, p.1, p.2)
  | .ret => (trim true s6.2.length [(s6.1.getD 0 .any)] h34).map fun p => (Ex.ret, p.1, p.2)
  | .panic v37 => some (Ex.panic v37, [], h34))

def extent_cut_k3 (s6 : List A × Heap) (h5 : Heap) : Ex → List A → Heap → Option ((List A × Heap) ⊕ (Ex × List A × Heap)) := fun e104 vs102 h103 =>
      (match e104 with
  | .normal => oAr .add (s6.1.getD 1 .any) (.s (.int .i64 1)) fun x107 =>
      (trim true h5.length [(vs102.getD 0 .any), x107] h103).map .inl
  | .exit i105 => (trim true h5.length [(vs102.getD 0 .any)] h103).map fun p => .inr (Ex.exit i105, p.1, p.2)
  | .ret => (trim true h5.length [(vs102.getD 0 .any)] h103).map fun p => .inr (Ex.ret, p.1, p.2)
  | .panic v106 => some (.inr (Ex.panic v106, [.any], h103)))

def extent_cut_l4 (x3 : A) (a0 : A) (x1 : A) (h5 : Heap) : List A × Heap → Option ((List A × Heap) ⊕ (Ex × List A × Heap)) := fun s6 =>
      oCmp .lss (s6.1.getD 1 .any) x3 fun x7 =>
      oCond x7 (oJoin (oIdxA 2 a0 (s6.1.getD 1 .any) fun x8 =>
      oLoad (some 2) x8 s6.2 fun x9 =>
      oNew none (some 2) (.agg [.s (.int .i64 0), .s (.int .i64 0)]) s6.2 fun x10 h11 =>
      oStore (some 2) x10 x9 h11 fun h12 =>
      oJoin (oFieldA 0 x10 fun x13 =>
      oLoadD h12.length [] none x13 h12 fun x14 h15 =>
      oFieldA 0 x1 fun x16 =>
      oLoadD h12.length [] none x16 h15 fun x17 h18 =>
      oCmp .gtr x14 x17 fun x19 =>
      oGuard x19 false (fun _ => oLoadD h12.length [] (some 2) x1 h18 fun x20 h21 =>
      oCallF h12.length [] extent_end [x20] h21 fun w31 h32 => oFrz w31 h32 fun x22 h23 =>
      oLoadD h12.length [] (some 2) x10 h23 fun x24 h25 =>
      oCallF h12.length [] extent_end [x24] h25 fun w29 h30 => oFrz w29 h30 fun x26 h27 =>
      oCmp .gtr x22 x26 fun x28 =>
      (trim true h12.length [x28] h27).map fun p => (Ex.normal, p.1, p.2))
      (fun _ => (trim true h12.length [(.s (.bool true))] h18).map fun p => (Ex.normal, p.1, p.2))) (extent_cut_k2 x10 s6 x1)) (extent_cut_k3 s6 h5))
      ((trim true h5.length [(s6.1.getD 0 .any)] s6.2).map fun p => .inr (Ex.exit 0, p.1, p.2))

def extent_cut_k5 (objs : Heap) : Ex → List A → Heap → Option (Out × Heap) := fun e108 vs109 h110 =>
      (match e108 with
  | .normal => none
  | .exit i111 => if i111 = 0 then finish objs.length (.ok (vs109.getD 0 .any)) h110 else none
  | .ret => finish objs.length (.ok (.s (.slice none 0 0))) h110
  | .panic v112 => finish objs.length (.pan v112) h110)

/-- bailey/extent.cut -/
def extent_cut : CallFn := fun args objs =>
match args with
| [a0, a1] =>
oNew none (some 2) a1 objs fun x1 h2 =>
      oLen a0 fun x3 =>
      oProm 2 (.s (.slice none 0 0)) h2 fun x4 h5 =>
      oLoop (extent_cut_l4 x3 a0 x1 h5) ([x4, (.s (.int .i64 0))], h5) (extent_cut_k5 objs)
| _ => none

def extent_Map_Alloc_k1 (s27 : List A × Heap) (h22 : Heap) : Ex → List A → Heap → Option ((List A × Heap) ⊕ (Ex × List A × Heap)) := fun e46 vs44 h45 =>
      (match e46 with
  | .normal => oAr .add (s27.1.getD 0 .any) (.s (.int .i64 1)) fun x49 =>
      (trim true h22.length [x49] h45).map .inl
  | .exit i47 => (trim true h22.length [] h45).map fun p => .inr (Ex.exit i47, p.1, p.2)
  | .ret => (trim true h22.length [] h45).map fun p => .inr (Ex.ret, p.1, p.2)
  | .panic v48 => some (.inr (Ex.panic v48, [], h45)))

def extent_Map_Alloc_l2 (x26 : A) (x25 : A) (x20 : A) (a1 : A) (h22 : Heap) : List A × Heap → Option ((List A × Heap) ⊕ (Ex × List A × Heap)) := fun s27 =>
      oCmp .lss (s27.1.getD 0 .any) x26 fun x28 =>
      oCond x28 (oJoin (oIdxA 2 x25 (s27.1.getD 0 .any) fun x29 =>
      oLoad (some 2) x29 s27.2 fun x30 =>
      oNew none (some 2) (.agg [.s (.int .i64 0), .s (.int .i64 0)]) s27.2 fun x31 h32 =>
      oStore (some 2) x31 x30 h32 fun h33 =>
      oFieldA 1 x20 fun x34 =>
      oLoad none x34 h33 fun x35 =>
      oCmp .geq x35 a1 fun x36 =>
      oCond x36 ((trim true s27.2.length [] h33).map fun p => (Ex.exit 1, p.1, p.2))
      (oFieldA 1 x31 fun x37 =>
      oLoad none x37 h33 fun x38 =>
      oFieldA 1 x20 fun x39 =>
      oLoad none x39 h33 fun x40 =>
      oCmp .gtr x38 x40 fun x41 =>
      oCond x41 (oLoad (some 2) x31 h33 fun x42 =>
      oStore (some 2) x20 x42 h33 fun h43 =>
      (trim true s27.2.length [] h43).map fun p => (Ex.normal, p.1, p.2))
      ((trim true s27.2.length [] h33).map fun p => (Ex.normal, p.1, p.2)))) (extent_Map_Alloc_k1 s27 h22))
      ((trim true h22.length [] s27.2).map fun p => .inr (Ex.exit 1, p.1, p.2))

def extent_Map_Alloc_k3 (x20 : A) (a1 : A) (a0 : A) (x1 : A) (objs : Heap) : Ex → List A → Heap → Option (Out × Heap) := fun e50 vs51 h52 =>
      (match e50 with
  | .normal => none
  | .exit i53 => if i53 = 1 then oFieldA 1 x20 fun x55 =>
      oLoad none x55 h52 fun x56 =>
      oMin x56 a1 fun x57 =>
      oFieldA 1 x20 fun x58 =>
      oStore none x58 x57 h52 fun h59 =>
      oNilCheck a0 fun x60 =>
      oFieldA 1 x60 fun x61 =>
      oLoadD h59.length [] none x61 h59 fun x62 h63 =>
      oLoadD h59.length [] (some 2) x20 h63 fun x64 h65 =>
      oCallF h59.length [] extent_cut [x62, x64] h65 fun x66 h67 =>
      oNilCheck a0 fun x68 =>
      oFieldA 1 x68 fun x69 =>
      oStore none x69 x66 h67 fun h70 =>
      oLoad (some 2) x20 h70 fun x71 =>
      oStore (some 2) x1 x71 h70 fun h72 =>
      oLoad (some 2) x1 h72 fun r73 =>
      finish objs.length (.ok (.tup [r73, (.s (.int .i64 0))])) h72 else none
  | .ret => oLoad (some 2) x1 h52 fun r74 =>
      finish objs.length (.ok (.tup [r74, (.s (.int .i64 0))])) h52
  | .panic v54 => finish objs.length (.pan v54) h52)

/-- (*bailey/extent.Map).Alloc -/
def extent_Map_Alloc : CallFn := fun args objs =>
match args with
| [a0, a1] =>
oNew none (some 2) (.agg [.s (.int .i64 0), .s (.int .i64 0)]) objs fun x1 h2 =>
      oCmp .lss a1 (.s (.int .i64 1)) fun x3 =>
      oCond x3 (oBuildP [.s (.int .i64 0), .s (.int .i64 0)] [] fun x4 =>
      oStore (some 2) x1 x4 h2 fun h5 =>
      oLoad (some 2) x1 h5 fun r6 =>
      finish objs.length (.ok (.tup [r6, (.s (.int .i64 72))])) h5)
      (oNilCheck a0 fun x7 =>
      oFieldA 1 x7 fun x8 =>
      oLoad none x8 h2 fun x9 =>
      oLen x9 fun x10 =>
      oCmp .eql x10 (.s (.int .i64 0)) fun x11 =>
      oCond x11 (oBuildP [.s (.int .i64 0), .s (.int .i64 0)] [] fun x12 =>
      oStore (some 2) x1 x12 h2 fun h13 =>
      oLoad (some 2) x1 h13 fun r14 =>
      finish objs.length (.ok (.tup [r14, (.s (.int .i64 73))])) h13)
      (oNilCheck a0 fun x15 =>
      oFieldA 1 x15 fun x16 =>
      oLoad none x16 h2 fun x17 =>
      oIdxA 2 x17 (.s (.int .i64 0)) fun x18 =>
      oLoad (some 2) x18 h2 fun x19 =>
      oNew none (some 2) (.agg [.s (.int .i64 0), .s (.int .i64 0)]) h2 fun x20 h21 =>
      oStore (some 2) x20 x19 h21 fun h22 =>
      oNilCheck a0 fun x23 =>
      oFieldA 1 x23 fun x24 =>
      oLoad none x24 h22 fun x25 =>
      oLen x25 fun x26 =>
      oLoop (extent_Map_Alloc_l2 x26 x25 x20 a1 h22) ([(.s (.int .i64 0))], h22) (extent_Map_Alloc_k3 x20 a1 a0 x1 objs)))
| _ => none

/-- (*bailey/extent.Map).there -/
def extent_Map_there : CallFn := fun args objs =>
match args with
| [a0, a1] =>
oNew none (some 2) a1 objs fun x1 h2 =>
      oFieldA 1 x1 fun x3 =>
      oLoadD h2.length [] none x3 h2 fun x4 h5 =>
      oCmp .geq x4 (.s (.int .i64 1)) fun x6 =>
      oGuard x6 true (fun _ => oFieldA 1 x1 fun x7 =>
      oLoadD h2.length [] none x7 h5 fun x8 h9 =>
      oNilCheck a0 fun x10 =>
      oFieldA 0 x10 fun x11 =>
      oLoadD h2.length [] none x11 h9 fun x12 h13 =>
      oCmp .leq x8 x12 fun x14 =>
      oGuard x14 true (fun _ => oFieldA 0 x1 fun x15 =>
      oLoadD h2.length [] none x15 h13 fun x16 h17 =>
      oCmp .geq x16 (.s (.int .i64 0)) fun x18 =>
      oGuard x18 true (fun _ => oFieldA 0 x1 fun x19 =>
      oLoadD h2.length [] none x19 h17 fun x20 h21 =>
      oNilCheck a0 fun x22 =>
      oFieldA 0 x22 fun x23 =>
      oLoadD h2.length [] none x23 h21 fun x24 h25 =>
      oFieldA 1 x1 fun x26 =>
      oLoadD h2.length [] none x26 h25 fun x27 h28 =>
      oAr .sub x24 x27 fun x29 =>
      oCmp .leq x20 x29 fun x30 =>
      finish objs.length (.ok x30) h28)
      (fun _ => finish objs.length (.ok (.s (.bool false))) h17))
      (fun _ => finish objs.length (.ok (.s (.bool false))) h13))
      (fun _ => finish objs.length (.ok (.s (.bool false))) h5)
| _ => none

/-- bailey/extent.meets$1 -/
def extent_meets_c1 : CallFn := fun args objs =>
match args with
| [a0, a1] =>
oNew none (some 2) a0 objs fun x1 h2 =>
      oFieldA 0 x1 fun x3 =>
      oLoadD h2.length [] none x3 h2 fun x4 h5 =>
      oLoadD h2.length [] (some 2) a1 h5 fun x6 h7 =>
      oCallF h2.length [] extent_end [x6] h7 fun w21 h22 => oFrz w21 h22 fun x8 h9 =>
      oCmp .lss x4 x8 fun x10 =>
      oGuard x10 true (fun _ => oFieldA 0 a1 fun x11 =>
      oLoadD h2.length [] none x11 h9 fun x12 h13 =>
      oLoadD h2.length [] (some 2) x1 h13 fun x14 h15 =>
      oCallF h2.length [] extent_end [x14] h15 fun w19 h20 => oFrz w19 h20 fun x16 h17 =>
      oCmp .lss x12 x16 fun x18 =>
      finish objs.length (.ok x18) h17)
      (fun _ => finish objs.length (.ok (.s (.bool false))) h9)
| _ => none

def slices_IndexFunc_Sapi_Extent_api_Extent_l1 (En : String → CallFn) (x1 : A) (a0 : A) (a1 : A) (objs : Heap) : List A × Heap → Option ((List A × Heap) ⊕ (Ex × List A × Heap)) := fun s2 =>
      oCmp .lss (s2.1.getD 0 .any) x1 fun x3 =>
      oCond x3 (oIdxA 2 a0 (s2.1.getD 0 .any) fun x4 =>
      oLoad (some 2) x4 s2.2 fun x5 =>
      oLendV En a1 [x5] s2.2 (fun v8 h9 => some (.inr (Ex.panic v8, [.any], h9))) fun w11 h12 => oFrz w11 h12 fun x6 h7 =>
      oCond x6 ((trim true objs.length [(s2.1.getD 0 .any)] h7).map fun p => .inr (Ex.ret, p.1, p.2))
      (oAr .add (s2.1.getD 0 .any) (.s (.int .i64 1)) fun x10 =>
      (trim true objs.length [x10] h7).map .inl))
      ((trim true objs.length [.any] s2.2).map fun p => .inr (Ex.exit 0, p.1, p.2))

def slices_IndexFunc_Sapi_Extent_api_Extent_k2 (objs : Heap) : Ex → List A → Heap → Option (Out × Heap) := fun e13 vs14 h15 =>
      (match e13 with
  | .normal => none
  | .exit i16 => if i16 = 0 then finish objs.length (.ok (.s (.int .i64 (-1)))) h15 else none
  | .ret => finish objs.length (.ok (vs14.getD 0 .any)) h15
  | .panic v17 => finish objs.length (.pan v17) h15)

/-- slices.IndexFunc[[]bailey/api.Extent,bailey/api.Extent] -/
def slices_IndexFunc_Sapi_Extent_api_Extent (En : String → CallFn) : CallFn := fun args objs =>
match args with
| [a0, a1] =>
oLen a0 fun x1 =>
      oLoop (slices_IndexFunc_Sapi_Extent_api_Extent_l1 En x1 a0 a1 objs) ([(.s (.int .i64 0))], objs) (slices_IndexFunc_Sapi_Extent_api_Extent_k2 objs)
| _ => none

/-- slices.ContainsFunc[[]bailey/api.Extent,bailey/api.Extent] -/
def slices_ContainsFunc_Sapi_Extent_api_Extent (En : String → CallFn) : CallFn := fun args objs =>
match args with
| [a0, a1] =>
oLend (slices_IndexFunc_Sapi_Extent_api_Extent En) [a0, a1] objs (fun v3 h4 => finish objs.length (.pan v3) h4) fun w6 h7 => oFrz w6 h7 fun x1 h2 =>
      oCmp .geq x1 (.s (.int .i64 0)) fun x5 =>
      finish objs.length (.ok x5) h2
| _ => none

def En_extent_meets : String → CallFn := fun n => if n = "bailey/extent.meets$1" then extent_meets_c1 else (fun _ _ => none)

/-- bailey/extent.meets -/
def extent_meets : CallFn := fun args objs =>
match args with
| [a0, a1] =>
oNew none (some 2) a1 objs fun x1 h2 =>
      oLend (slices_ContainsFunc_Sapi_Extent_api_Extent (En_extent_meets)) [a0, (.fn "bailey/extent.meets$1" [x1])] h2 (fun v5 h6 => finish objs.length (.pan v5) h6) fun w7 h8 => oFrz w7 h8 fun x3 h4 =>
      finish objs.length (.ok x3) h4
| _ => none

/-- (*bailey/extent.Map).taken -/
def extent_Map_taken : CallFn := fun args objs =>
match args with
| [a0, a1] =>
oNew none (some 2) a1 objs fun x1 h2 =>
      oLoadD h2.length [] (some 2) x1 h2 fun x3 h4 =>
      oCallF h2.length [] extent_Map_there [a0, x3] h4 fun w29 h30 => oFrz w29 h30 fun x5 h6 =>
      oGuard x5 true (fun _ => oNilCheck a0 fun x7 =>
      oFieldA 1 x7 fun x8 =>
      oLoadD h2.length [] none x8 h6 fun x9 h10 =>
      oLoadD h2.length [] (some 2) x1 h10 fun x11 h12 =>
      oCallF h2.length [] extent_meets [x9, x11] h12 fun w27 h28 => oFrz w27 h28 fun x13 h14 =>
      oNot x13 fun x15 =>
      oGuard x15 true (fun _ => oNilCheck a0 fun x16 =>
      oFieldA 2 x16 fun x17 =>
      oLoadD h2.length [] none x17 h14 fun x18 h19 =>
      oLoadD h2.length [] (some 2) x1 h19 fun x20 h21 =>
      oCallF h2.length [] extent_meets [x18, x20] h21 fun w25 h26 => oFrz w25 h26 fun x22 h23 =>
      oNot x22 fun x24 =>
      finish objs.length (.ok x24) h23)
      (fun _ => finish objs.length (.ok (.s (.bool false))) h14))
      (fun _ => finish objs.length (.ok (.s (.bool false))) h6)
| _ => none

def extent_put_k1 (s5 : List A × Heap) : Ex → List A → Heap → Option (Ex × List A × Heap) := fun e18 vs16 h17 =>
      (match e18 with
  | .normal => oCond (vs16.getD 0 .any) ((trim true s5.2.length [(vs16.getD 0 .any)] h17).map fun p => (Ex.normal, p.1, p.2))
      ((trim true s5.2.length [(vs16.getD 0 .any)] h17).map fun p => (Ex.exit 0, p.1, p.2))
  | .exit i19 => (trim true s5.2.length [(vs16.getD 0 .any)] h17).map fun p => (Ex.exit i19, p.1, p.2)
  | .ret => (trim true s5.2.length [(vs16.getD 0 .any)] h17).map fun p => (Ex.ret, p.1, p.2)
  | .panic v20 => some (Ex.panic v20, [], h17))

def extent_put_k2 (s5 : List A × Heap) (h4 : Heap) : Ex → List A → Heap → Option ((List A × Heap) ⊕ (Ex × List A × Heap)) := fun e23 vs21 h22 =>
      (match e23 with
  | .normal => oAr .add (s5.1.getD 0 .any) (.s (.int .i64 1)) fun x26 =>
      (trim true h4.length [x26] h22).map .inl
  | .exit i24 => (trim true h4.length [(s5.1.getD 0 .any)] h22).map fun p => .inr (Ex.exit i24, p.1, p.2)
  | .ret => (trim true h4.length [(s5.1.getD 0 .any)] h22).map fun p => .inr (Ex.ret, p.1, p.2)
  | .panic v25 => some (.inr (Ex.panic v25, [.any], h22)))

def extent_put_l3 (x3 : A) (x1 : A) (h4 : Heap) : List A × Heap → Option ((List A × Heap) ⊕ (Ex × List A × Heap)) := fun s5 =>
      oJoin (oJoin (oLen x3 fun x6 =>
      oCmp .lss (s5.1.getD 0 .any) x6 fun x7 =>
      oGuard x7 true (fun _ => oIdxA 2 x3 (s5.1.getD 0 .any) fun x8 =>
      oFieldA 0 x8 fun x9 =>
      oLoadD s5.2.length [] none x9 s5.2 fun x10 h11 =>
      oFieldA 0 x1 fun x12 =>
      oLoadD s5.2.length [] none x12 h11 fun x13 h14 =>
      oCmp .lss x10 x13 fun x15 =>
      (trim true s5.2.length [x15] h14).map fun p => (Ex.normal, p.1, p.2))
      (fun _ => (trim true s5.2.length [(.s (.bool false))] s5.2).map fun p => (Ex.normal, p.1, p.2))) (extent_put_k1 s5)) (extent_put_k2 s5 h4)

def extent_put_k4 (x35 : A) (vs28 : List A) (h36 : Heap) : Ex → List A → Heap → Option (Ex × List A × Heap) := fun e57 vs55 h56 =>
      (match e57 with
  | .normal => oCond (vs55.getD 0 .any) (oIdxA 2 x35 (vs28.getD 0 .any) fun x60 =>
      oFieldA 1 x60 fun x61 =>
      oLoadD h56.length [] none x61 h56 fun x62 h63 =>
      oAr .add (vs28.getD 0 .any) (.s (.int .i64 1)) fun x64 =>
      oIdxA 2 x35 x64 fun x65 =>
      oFieldA 1 x65 fun x66 =>
      oLoadD h56.length [] none x66 h63 fun x67 h68 =>
      oAr .add x62 x67 fun x69 =>
      oIdxA 2 x35 (vs28.getD 0 .any) fun x70 =>
      oFieldA 1 x70 fun x71 =>
      oStore none x71 x69 h68 fun h72 =>
      oAr .add (vs28.getD 0 .any) (.s (.int .i64 1)) fun x73 =>
      oAr .add (vs28.getD 0 .any) (.s (.int .i64 2)) fun x74 =>
      oCall (primDelete 2 16) [x35, x73, x74] h72 (fun v77 h78 => some (Ex.panic v77, [], h78)) fun x75 h76 =>
      (trim true h36.length [x75] h76).map fun p => (Ex.normal, p.1, p.2))
      ((trim true h36.length [x35] h56).map fun p => (Ex.normal, p.1, p.2))
  | .exit i58 => (trim true h36.length [x35] h56).map fun p => (Ex.exit i58, p.1, p.2)
  | .ret => (trim true h36.length [x35] h56).map fun p => (Ex.ret, p.1, p.2)
  | .panic v59 => some (Ex.panic v59, [], h56))

def extent_put_k5 (vs28 : List A) (vs79 : List A) (h80 : Heap) : Ex → List A → Heap → Option (Ex × List A × Heap) := fun e100 vs98 h99 =>
      (match e100 with
  | .normal => oCond (vs98.getD 0 .any) (oAr .sub (vs28.getD 0 .any) (.s (.int .i64 1)) fun x103 =>
      oIdxA 2 (vs79.getD 0 .any) x103 fun x104 =>
      oFieldA 1 x104 fun x105 =>
      oLoadD h99.length [] none x105 h99 fun x106 h107 =>
      oIdxA 2 (vs79.getD 0 .any) (vs28.getD 0 .any) fun x108 =>
      oFieldA 1 x108 fun x109 =>
      oLoadD h99.length [] none x109 h107 fun x110 h111 =>
      oAr .add x106 x110 fun x112 =>
      oIdxA 2 (vs79.getD 0 .any) x103 fun x113 =>
      oFieldA 1 x113 fun x114 =>
      oStore none x114 x112 h111 fun h115 =>
      oAr .add (vs28.getD 0 .any) (.s (.int .i64 1)) fun x116 =>
      oCall (primDelete 2 16) [(vs79.getD 0 .any), (vs28.getD 0 .any), x116] h115 (fun v119 h120 => some (Ex.panic v119, [], h120)) fun x117 h118 =>
      (trim true h80.length [x117] h118).map fun p => (Ex.normal, p.1, p.2))
      ((trim true h80.length [(vs79.getD 0 .any)] h99).map fun p => (Ex.normal, p.1, p.2))
  | .exit i101 => (trim true h80.length [(vs79.getD 0 .any)] h99).map fun p => (Ex.exit i101, p.1, p.2)
  | .ret => (trim true h80.length [(vs79.getD 0 .any)] h99).map fun p => (Ex.ret, p.1, p.2)
  | .panic v102 => some (Ex.panic v102, [], h99))

def extent_put_k6 (objs : Heap) : Ex → List A → Heap → Option (Out × Heap) := fun e123 vs121 h122 =>
      (match e123 with
  | .normal => finish objs.length (.ok (vs121.getD 0 .any)) h122
  | .exit i124 => none
  | .ret => finish objs.length (.ok (.s (.slice none 0 0))) h122
  | .panic v125 => finish objs.length (.pan v125) h122)

def extent_put_k7 (vs28 : List A) (objs : Heap) : Ex → List A → Heap → Option (Out × Heap) := fun e81 vs79 h80 =>
      (match e81 with
  | .normal => oJoin (oJoin (oCmp .gtr (vs28.getD 0 .any) (.s (.int .i64 0)) fun x84 =>
      oGuard x84 true (fun _ => oAr .sub (vs28.getD 0 .any) (.s (.int .i64 1)) fun x85 =>
      oIdxA 2 (vs79.getD 0 .any) x85 fun x86 =>
      oLoadD h80.length [] (some 2) x86 h80 fun x87 h88 =>
      oCallF h80.length [] extent_end [x87] h88 fun w96 h97 => oFrz w96 h97 fun x89 h90 =>
      oIdxA 2 (vs79.getD 0 .any) (vs28.getD 0 .any) fun x91 =>
      oFieldA 0 x91 fun x92 =>
      oLoadD h80.length [] none x92 h90 fun x93 h94 =>
      oCmp .eql x89 x93 fun x95 =>
      (trim true h80.length [x95] h94).map fun p => (Ex.normal, p.1, p.2))
      (fun _ => (trim true h80.length [(.s (.bool false))] h80).map fun p => (Ex.normal, p.1, p.2))) (extent_put_k5 vs28 vs79 h80)) (extent_put_k6 objs)
  | .exit i82 => none
  | .ret => finish objs.length (.ok (.s (.slice none 0 0))) h80
  | .panic v83 => finish objs.length (.pan v83) h80)

def extent_put_k8 (x1 : A) (x3 : A) (objs : Heap) : Ex → List A → Heap → Option (Out × Heap) := fun e27 vs28 h29 =>
      (match e27 with
  | .normal => none
  | .exit i30 => if i30 = 0 then oLoad (some 2) x1 h29 fun x32 =>
      oNewSlice none 2 (asRows (some 2) [x32]) h29 fun x33 h34 =>
      oCall (primInsert 2 16) [x3, (vs28.getD 0 .any), x33] h34 (fun v37 h38 => finish objs.length (.pan v37) h38) fun x35 h36 =>
      oJoin (oJoin (oAr .add (vs28.getD 0 .any) (.s (.int .i64 1)) fun x39 =>
      oLen x35 fun x40 =>
      oCmp .lss x39 x40 fun x41 =>
      oGuard x41 true (fun _ => oIdxA 2 x35 (vs28.getD 0 .any) fun x42 =>
      oLoadD h36.length [] (some 2) x42 h36 fun x43 h44 =>
      oCallF h36.length [] extent_end [x43] h44 fun w53 h54 => oFrz w53 h54 fun x45 h46 =>
      oAr .add (vs28.getD 0 .any) (.s (.int .i64 1)) fun x47 =>
      oIdxA 2 x35 x47 fun x48 =>
      oFieldA 0 x48 fun x49 =>
      oLoadD h36.length [] none x49 h46 fun x50 h51 =>
      oCmp .eql x45 x50 fun x52 =>
      (trim true h36.length [x52] h51).map fun p => (Ex.normal, p.1, p.2))
      (fun _ => (trim true h36.length [(.s (.bool false))] h36).map fun p => (Ex.normal, p.1, p.2))) (extent_put_k4 x35 vs28 h36)) (extent_put_k7 vs28 objs) else none
  | .ret => finish objs.length (.ok (.s (.slice none 0 0))) h29
  | .panic v31 => finish objs.length (.pan v31) h29)

/-- bailey/extent.put -/
def extent_put : CallFn := fun args objs =>
match args with
| [a0, a1] =>
oNew none (some 2) a1 objs fun x1 h2 =>
      oProm 2 a0 h2 fun x3 h4 =>
      oLoop (extent_put_l3 x3 x1 h4) ([(.s (.int .i64 0))], h4) (extent_put_k8 x1 x3 objs)
| _ => none

/-- (*bailey/extent.Map).Free -/
def extent_Map_Free : CallFn := fun args objs =>
match args with
| [a0, a1] =>
oNew none (some 2) a1 objs fun x1 h2 =>
      oLoad (some 2) x1 h2 fun x3 =>
      oLend extent_Map_taken [a0, x3] h2 (fun v6 h7 => finish objs.length (.pan v6) h7) fun w20 h21 => oFrz w20 h21 fun x4 h5 =>
      oNot x4 fun x8 =>
      oCond x8 (finish objs.length (.ok (.s (.int .i64 72))) h5)
      (oNilCheck a0 fun x9 =>
      oFieldA 1 x9 fun x10 =>
      oLoadD h5.length [] none x10 h5 fun x11 h12 =>
      oLoadD h5.length [] (some 2) x1 h12 fun x13 h14 =>
      oCall extent_put [x11, x13] h14 (fun _ _ => none) fun x15 h16 =>
      oNilCheck a0 fun x17 =>
      oFieldA 1 x17 fun x18 =>
      oStore none x18 x15 h16 fun h19 =>
      finish objs.length (.ok (.s (.int .i64 0))) h19)
| _ => none

def extent_Map_Count_l1 (x4 : A) (x3 : A) (objs : Heap) : List A × Heap → Option ((List A × Heap) ⊕ (Ex × List A × Heap)) := fun s5 =>
      oCmp .lss (s5.1.getD 1 .any) x4 fun x6 =>
      oCond x6 (oIdxA 2 x3 (s5.1.getD 1 .any) fun x7 =>
      oLoad (some 2) x7 s5.2 fun x8 =>
      oNew none (some 2) (.agg [.s (.int .i64 0), .s (.int .i64 0)]) s5.2 fun x9 h10 =>
      oStore (some 2) x9 x8 h10 fun h11 =>
      oFieldA 1 x9 fun x12 =>
      oLoad none x12 h11 fun x13 =>
      oAr .add (s5.1.getD 0 .any) x13 fun x14 =>
      oAr .add (s5.1.getD 1 .any) (.s (.int .i64 1)) fun x15 =>
      (trim true objs.length [x14, x15] h11).map .inl)
      ((trim true objs.length [(s5.1.getD 0 .any)] s5.2).map fun p => .inr (Ex.exit 0, p.1, p.2))

def extent_Map_Count_k2 (objs : Heap) : Ex → List A → Heap → Option (Out × Heap) := fun e16 vs17 h18 =>
      (match e16 with
  | .normal => none
  | .exit i19 => if i19 = 0 then finish objs.length (.ok (vs17.getD 0 .any)) h18 else none
  | .ret => finish objs.length (.ok (.s (.int .i64 0))) h18
  | .panic v20 => finish objs.length (.pan v20) h18)

/-- (*bailey/extent.Map).Count -/
def extent_Map_Count : CallFn := fun args objs =>
match args with
| [a0] =>
oNilCheck a0 fun x1 =>
      oFieldA 1 x1 fun x2 =>
      oLoad none x2 objs fun x3 =>
      oLen x3 fun x4 =>
      oLoop (extent_Map_Count_l1 x4 x3 objs) ([(.s (.int .i64 0)), (.s (.int .i64 0))], objs) (extent_Map_Count_k2 objs)
| _ => none

/-- bailey/baileylaw07.extentAlive -/
def law07_extentAlive : CallFn := fun args objs =>
match args with
| [] =>
oLend extent_New [(.s (.int .i64 10))] objs (fun v3 h4 => finish objs.length (.pan v3) h4) fun x1 h2 =>
      oEqNil false x1 (.s (.pointer none)) fun x5 =>
      oCond x5 (finish objs.length (.ok (.s (.bool false))) h2)
      (oCall extent_Map_Alloc [x1, (.s (.int .i64 4))] h2 (fun v8 h9 => finish objs.length (.pan v8) h9) fun w53 h54 => oFrz w53 h54 fun x6 h7 =>
      oExtract 0 x6 fun x10 =>
      oExtract 1 x6 fun x11 =>
      oNew none (some 2) (.agg [.s (.int .i64 0), .s (.int .i64 0)]) h7 fun x12 h13 =>
      oStore (some 2) x12 x10 h13 fun h14 =>
      oCall extent_Map_Alloc [x1, (.s (.int .i64 4))] h14 (fun v17 h18 => finish objs.length (.pan v17) h18) fun w51 h52 => oFrz w51 h52 fun x15 h16 =>
      oLoad (some 2) x12 h16 fun x19 =>
      oCall extent_Map_Free [x1, x19] h16 (fun v22 h23 => finish objs.length (.pan v22) h23) fun w49 h50 => oFrz w49 h50 fun x20 h21 =>
      oCall extent_Map_Alloc [x1, (.s (.int .i64 5))] h21 (fun v26 h27 => finish objs.length (.pan v26) h27) fun w47 h48 => oFrz w47 h48 fun x24 h25 =>
      oExtract 0 x24 fun x28 =>
      oExtract 1 x24 fun x29 =>
      oNew none (some 2) (.agg [.s (.int .i64 0), .s (.int .i64 0)]) h25 fun x30 h31 =>
      oStore (some 2) x30 x28 h31 fun h32 =>
      oLoad (some 2) x12 h32 fun x33 =>
      oBuildP [.s (.int .i64 0), .s (.int .i64 0)] [(0, none, (.s (.int .i64 0))), (1, none, (.s (.int .i64 4)))] fun x34 =>
      oEqAgg [true, true] false x33 x34 fun x35 =>
      oGuard x35 true (fun _ => oCmp .eql x29 (.s (.int .i64 0)) fun x36 =>
      oGuard x36 true (fun _ => oLoad (some 2) x30 h32 fun x37 =>
      oLoad (some 2) x12 h32 fun x38 =>
      oEqAgg [true, true] false x37 x38 fun x39 =>
      oGuard x39 true (fun _ => oLend extent_Map_Count [x1] h32 (fun v42 h43 => finish objs.length (.pan v42) h43) fun w45 h46 => oFrz w45 h46 fun x40 h41 =>
      oCmp .eql x40 (.s (.int .i64 2)) fun x44 =>
      finish objs.length (.ok x44) h41)
      (fun _ => finish objs.length (.ok (.s (.bool false))) h32))
      (fun _ => finish objs.length (.ok (.s (.bool false))) h32))
      (fun _ => finish objs.length (.ok (.s (.bool false))) h32))
| _ => none

def extent_Map_All_l1 (a0 : A) (h7 : Heap) : List A × Heap → Option ((List A × Heap) ⊕ (Ex × List A × Heap)) := fun s8 =>
      oCmp .gtr (s8.1.getD 0 .any) (.s (.int .i64 0)) fun x9 =>
      oCond x9 (oCall extent_Map_Alloc [a0, (s8.1.getD 0 .any)] s8.2 (fun v12 h13 => some (.inr (Ex.panic v12, [.any], h13))) fun w27 h28 => oFrz w27 h28 fun x10 h11 =>
      oExtract 0 x10 fun x14 =>
      oExtract 1 x10 fun x15 =>
      oNew none (some 2) (.agg [.s (.int .i64 0), .s (.int .i64 0)]) h11 fun x16 h17 =>
      oStore (some 2) x16 x14 h17 fun h18 =>
      oLoad (some 2) x16 h18 fun x19 =>
      oNewSlice none 2 (asRows (some 2) [x19]) h18 fun x20 h21 =>
      oAppend none 2 16 (s8.1.getD 1 .any) x20 h21 fun x22 h23 =>
      oFieldA 1 x16 fun x24 =>
      oLoad none x24 h23 fun x25 =>
      oAr .sub (s8.1.getD 0 .any) x25 fun x26 =>
      (trim true h7.length [x26, x22] h23).map .inl)
      ((trim true h7.length [(s8.1.getD 1 .any)] s8.2).map fun p => .inr (Ex.exit 0, p.1, p.2))

def extent_Map_All_k2 (objs : Heap) : Ex → List A → Heap → Option (Out × Heap) := fun e29 vs30 h31 =>
      (match e29 with
  | .normal => none
  | .exit i32 => if i32 = 0 then finish objs.length (.ok (.tup [(vs30.getD 0 .any), (.s (.int .i64 0))])) h31 else none
  | .ret => finish objs.length (.ok (.tup [(.s (.slice none 0 0)), (.s (.int .i64 0))])) h31
  | .panic v33 => finish objs.length (.pan v33) h31)

/-- (*bailey/extent.Map).All -/
def extent_Map_All : CallFn := fun args objs =>
match args with
| [a0, a1] =>
oLend extent_Map_Count [a0] objs (fun v3 h4 => finish objs.length (.pan v3) h4) fun w34 h35 => oFrz w34 h35 fun x1 h2 =>
      oCmp .gtr a1 x1 fun x5 =>
      oCond x5 (finish objs.length (.ok (.tup [(.s (.slice none 0 0)), (.s (.int .i64 73))])) h2)
      (oProm 2 (.s (.slice none 0 0)) h2 fun x6 h7 =>
      oLoop (extent_Map_All_l1 a0 h7) ([a1, x6], h7) (extent_Map_All_k2 objs))
| _ => none

/-- (*bailey/extent.Map).Later -/
def extent_Map_Later : CallFn := fun args objs =>
match args with
| [a0, a1] =>
oNew none (some 2) a1 objs fun x1 h2 =>
      oLoad (some 2) x1 h2 fun x3 =>
      oLend extent_Map_taken [a0, x3] h2 (fun v6 h7 => finish objs.length (.pan v6) h7) fun w20 h21 => oFrz w20 h21 fun x4 h5 =>
      oNot x4 fun x8 =>
      oCond x8 (finish objs.length (.ok (.s (.int .i64 72))) h5)
      (oNilCheck a0 fun x9 =>
      oFieldA 2 x9 fun x10 =>
      oLoadD h5.length [] none x10 h5 fun x11 h12 =>
      oLoadD h5.length [] (some 2) x1 h12 fun x13 h14 =>
      oCall extent_put [x11, x13] h14 (fun _ _ => none) fun x15 h16 =>
      oNilCheck a0 fun x17 =>
      oFieldA 2 x17 fun x18 =>
      oStore none x18 x15 h16 fun h19 =>
      finish objs.length (.ok (.s (.int .i64 0))) h19)
| _ => none

def extent_Map_Commit_l1 (x4 : A) (x3 : A) (a0 : A) (objs : Heap) : List A × Heap → Option ((List A × Heap) ⊕ (Ex × List A × Heap)) := fun s5 =>
      oCmp .lss (s5.1.getD 0 .any) x4 fun x6 =>
      oCond x6 (oIdxA 2 x3 (s5.1.getD 0 .any) fun x7 =>
      oLoad (some 2) x7 s5.2 fun x8 =>
      oNew none (some 2) (.agg [.s (.int .i64 0), .s (.int .i64 0)]) s5.2 fun x9 h10 =>
      oStore (some 2) x9 x8 h10 fun h11 =>
      oNilCheck a0 fun x12 =>
      oFieldA 1 x12 fun x13 =>
      oLoadD h11.length [] none x13 h11 fun x14 h15 =>
      oLoadD h11.length [] (some 2) x9 h15 fun x16 h17 =>
      oCall extent_put [x14, x16] h17 (fun _ _ => none) fun x18 h19 =>
      oNilCheck a0 fun x20 =>
      oFieldA 1 x20 fun x21 =>
      oStore none x21 x18 h19 fun h22 =>
      oAr .add (s5.1.getD 0 .any) (.s (.int .i64 1)) fun x23 =>
      (trim true objs.length [x23] h22).map .inl)
      ((trim true objs.length [] s5.2).map fun p => .inr (Ex.exit 0, p.1, p.2))

def extent_Map_Commit_k2 (a0 : A) (objs : Heap) : Ex → List A → Heap → Option (Out × Heap) := fun e24 vs25 h26 =>
      (match e24 with
  | .normal => none
  | .exit i27 => if i27 = 0 then oNilCheck a0 fun x29 =>
      oFieldA 2 x29 fun x30 =>
      oStore none x30 (.s (.slice none 0 0)) h26 fun h31 =>
      finish objs.length (.ok (.s (.tuple #[]))) h31 else none
  | .ret => finish objs.length (.ok (.s (.tuple #[]))) h26
  | .panic v28 => finish objs.length (.pan v28) h26)

/-- (*bailey/extent.Map).Commit -/
def extent_Map_Commit : CallFn := fun args objs =>
match args with
| [a0] =>
oNilCheck a0 fun x1 =>
      oFieldA 2 x1 fun x2 =>
      oLoad none x2 objs fun x3 =>
      oLen x3 fun x4 =>
      oLoop (extent_Map_Commit_l1 x4 x3 a0 objs) ([(.s (.int .i64 0))], objs) (extent_Map_Commit_k2 a0 objs)
| _ => none

/-- (*bailey/extent.Map).List -/
def extent_Map_List : CallFn := fun args objs =>
match args with
| [a0] =>
oNilCheck a0 fun x1 =>
      oFieldA 1 x1 fun x2 =>
      oLoad none x2 objs fun x3 =>
      oLend (primClone 2 16) [x3] objs (fun v6 h7 => finish objs.length (.pan v6) h7) fun x4 h5 =>
      finish objs.length (.ok x4) h5
| _ => none

/-- (*bailey/extent.Map).Waiting -/
def extent_Map_Waiting : CallFn := fun args objs =>
match args with
| [a0] =>
oNilCheck a0 fun x1 =>
      oFieldA 2 x1 fun x2 =>
      oLoad none x2 objs fun x3 =>
      oLend (primClone 2 16) [x3] objs (fun v6 h7 => finish objs.length (.pan v6) h7) fun x4 h5 =>
      finish objs.length (.ok x4) h5
| _ => none

def law07_ExtentApart_l1 (x68 : A) (x66 : A) (h63 : Heap) : List A × Heap → Option ((List A × Heap) ⊕ (Ex × List A × Heap)) := fun s69 =>
      oCmp .lss (s69.1.getD 1 .any) x68 fun x70 =>
      oCond x70 (oIdxA 2 x66 (s69.1.getD 1 .any) fun x71 =>
      oLoad (some 2) x71 s69.2 fun x72 =>
      oNew none (some 2) (.agg [.s (.int .i64 0), .s (.int .i64 0)]) s69.2 fun x73 h74 =>
      oStore (some 2) x73 x72 h74 fun h75 =>
      oFieldA 1 x73 fun x76 =>
      oLoad none x76 h75 fun x77 =>
      oAr .add (s69.1.getD 0 .any) x77 fun x78 =>
      oAr .add (s69.1.getD 1 .any) (.s (.int .i64 1)) fun x79 =>
      (trim true h63.length [x78, x79] h75).map .inl)
      ((trim true h63.length [(s69.1.getD 0 .any)] s69.2).map fun p => .inr (Ex.exit 3, p.1, p.2))

def law07_ExtentApart_k2 (h30 : Heap) (s24 : List A × Heap) (x66 : A) : Ex → List A → Heap → Option (Ex × List A × Heap) := fun e92 vs90 h91 =>
      (match e92 with
  | .normal => oCond (vs90.getD 0 .any) ((trim true h30.length [(.s (.bool false)), (s24.1.getD 0 .any)] h91).map fun p => (Ex.ret, p.1, p.2))
      (oAppend none 2 16 (s24.1.getD 0 .any) x66 h91 fun x95 h96 =>
      (trim true h30.length [.any, x95] h96).map fun p => (Ex.normal, p.1, p.2))
  | .exit i93 => if i93 = 2 then (trim true h30.length [.any, (s24.1.getD 0 .any)] h91).map fun p => (Ex.normal, p.1, p.2) else (trim true h30.length [.any, (s24.1.getD 0 .any)] h91).map fun p => (Ex.exit i93, p.1, p.2)
  | .ret => (trim true h30.length [.any, (s24.1.getD 0 .any)] h91).map fun p => (Ex.ret, p.1, p.2)
  | .panic v94 => some (Ex.panic v94, [], h91))

def law07_ExtentApart_k3 (x67 : A) (x28 : A) (h30 : Heap) (s24 : List A × Heap) (x66 : A) : Ex → List A → Heap → Option (Ex × List A × Heap) := fun e80 vs81 h82 =>
      (match e80 with
  | .normal => none
  | .exit i83 => if i83 = 3 then oJoin (oCmp .eql x67 (.s (.int .i64 0)) fun x85 =>
      oGuard x85 true (fun _ => oFieldA 1 x28 fun x86 =>
      oLoad none x86 h82 fun x87 =>
      oMax (.s (.int .i64 0)) x87 fun x88 =>
      oCmp .neq (vs81.getD 0 .any) x88 fun x89 =>
      (trim true h82.length [x89] h82).map fun p => (Ex.normal, p.1, p.2))
      (fun _ => (trim true h82.length [(.s (.bool false))] h82).map fun p => (Ex.normal, p.1, p.2))) (law07_ExtentApart_k2 h30 s24 x66) else if i83 = 2 then (trim true h30.length [.any, (s24.1.getD 0 .any)] h82).map fun p => (Ex.normal, p.1, p.2) else (trim true h30.length [.any, (s24.1.getD 0 .any)] h82).map fun p => (Ex.exit i83, p.1, p.2)
  | .ret => (trim true h30.length [.any, (s24.1.getD 0 .any)] h82).map fun p => (Ex.ret, p.1, p.2)
  | .panic v84 => some (Ex.panic v84, [], h82))

def law07_ExtentApart_k4 (h30 : Heap) (x116 : A) : Ex → List A → Heap → Option (Ex × List A × Heap) := fun e153 vs151 h152 =>
      (match e153 with
  | .normal => oCond (vs151.getD 0 .any) ((trim true h30.length [(.s (.bool false)), x116] h152).map fun p => (Ex.ret, p.1, p.2))
      ((trim true h30.length [.any, x116] h152).map fun p => (Ex.normal, p.1, p.2))
  | .exit i154 => if i154 = 2 then (trim true h30.length [.any, x116] h152).map fun p => (Ex.normal, p.1, p.2) else (trim true h30.length [.any, x116] h152).map fun p => (Ex.exit i154, p.1, p.2)
  | .ret => (trim true h30.length [.any, x116] h152).map fun p => (Ex.ret, p.1, p.2)
  | .panic v155 => some (Ex.panic v155, [], h152))

def law07_ExtentApart_k5 (s24 : List A × Heap) (h30 : Heap) (x28 : A) (x6 : A) (x32 : A) : Ex → List A → Heap → Option (Ex × List A × Heap) := fun e103 vs101 h102 =>
      (match e103 with
  | .normal => oCond (vs101.getD 0 .any) (oLen (s24.1.getD 0 .any) fun x106 =>
      oCmp .eql x106 (.s (.int .i64 0)) fun x107 =>
      oCond x107 ((trim true h30.length [.any, (s24.1.getD 0 .any)] h102).map fun p => (Ex.exit 1, p.1, p.2))
      (oIdxA 2 (s24.1.getD 0 .any) (.s (.int .i64 0)) fun x108 =>
      oLoad (some 2) x108 h102 fun x109 =>
      oNew none (some 2) (.agg [.s (.int .i64 0), .s (.int .i64 0)]) h102 fun x110 h111 =>
      oStore (some 2) x110 x109 h111 fun h112 =>
      oNewSlice none 2 (asRows (some 2) []) h112 fun x113 h114 =>
      oSlice 2 (s24.1.getD 0 .any) (some (.s (.int .i64 1))) none fun x115 =>
      oAppend none 2 16 x113 x115 h114 fun x116 h117 =>
      oJoin (oFieldA 0 x28 fun x118 =>
      oLoad none x118 h117 fun x119 =>
      oCmp .eql x119 (.s (.int .i64 3)) fun x120 =>
      oGuard x120 true (fun _ => oLoad (some 2) x110 h117 fun x121 =>
      oCall extent_Map_Free [x6, x121] h117 (fun v124 h125 => some (Ex.panic v124, [], h125)) fun w138 h139 => oFrz w138 h139 fun x122 h123 =>
      oCmp .neq x122 (.s (.int .i64 0)) fun x126 =>
      oGuard x126 false (fun _ => oFieldA 0 x28 fun x127 =>
      oLoad none x127 h123 fun x128 =>
      oCmp .eql x128 (.s (.int .i64 4)) fun x129 =>
      oGuard x129 true (fun _ => oLoad (some 2) x110 h123 fun x130 =>
      oCall extent_Map_Later [x6, x130] h123 (fun v133 h134 => some (Ex.panic v133, [], h134)) fun w136 h137 => oFrz w136 h137 fun x131 h132 =>
      oCmp .neq x131 (.s (.int .i64 0)) fun x135 =>
      (trim true h117.length [x135] h132).map fun p => (Ex.normal, p.1, p.2))
      (fun _ => (trim true h117.length [(.s (.bool false))] h123).map fun p => (Ex.normal, p.1, p.2)))
      (fun _ => (trim true h117.length [(.s (.bool true))] h123).map fun p => (Ex.normal, p.1, p.2)))
      (fun _ => oFieldA 0 x28 fun x140 =>
      oLoad none x140 h117 fun x141 =>
      oCmp .eql x141 (.s (.int .i64 4)) fun x142 =>
      oGuard x142 true (fun _ => oLoad (some 2) x110 h117 fun x143 =>
      oCall extent_Map_Later [x6, x143] h117 (fun v146 h147 => some (Ex.panic v146, [], h147)) fun w149 h150 => oFrz w149 h150 fun x144 h145 =>
      oCmp .neq x144 (.s (.int .i64 0)) fun x148 =>
      (trim true h117.length [x148] h145).map fun p => (Ex.normal, p.1, p.2))
      (fun _ => (trim true h117.length [(.s (.bool false))] h117).map fun p => (Ex.normal, p.1, p.2)))) (law07_ExtentApart_k4 h30 x116)))
      (oCmp .eql x32 (.s (.int .i64 5)) fun x156 =>
      oCond x156 (oCall extent_Map_Commit [x6] h102 (fun v159 h160 => some (Ex.panic v159, [], h160)) fun w161 h162 => oFrz w161 h162 fun x157 h158 =>
      (trim true h30.length [.any, (s24.1.getD 0 .any)] h158).map fun p => (Ex.normal, p.1, p.2))
      ((trim true h30.length [.any, (s24.1.getD 0 .any)] h102).map fun p => (Ex.normal, p.1, p.2)))
  | .exit i104 => if i104 = 2 then (trim true h30.length [.any, (s24.1.getD 0 .any)] h102).map fun p => (Ex.normal, p.1, p.2) else (trim true h30.length [.any, (s24.1.getD 0 .any)] h102).map fun p => (Ex.exit i104, p.1, p.2)
  | .ret => (trim true h30.length [.any, (s24.1.getD 0 .any)] h102).map fun p => (Ex.ret, p.1, p.2)
  | .panic v105 => some (Ex.panic v105, [], h102))

def law07_ExtentApart_k6 (x28 : A) (x6 : A) (s24 : List A × Heap) (h30 : Heap) (x32 : A) : Ex → List A → Heap → Option (Ex × List A × Heap) := fun e37 vs35 h36 =>
      (match e37 with
  | .normal => oCond (vs35.getD 0 .any) (oFieldA 1 x28 fun x40 =>
      oLoad none x40 h36 fun x41 =>
      oCall extent_Map_Alloc [x6, x41] h36 (fun v44 h45 => some (Ex.panic v44, [], h45)) fun w57 h58 => oFrz w57 h58 fun x42 h43 =>
      oExtract 0 x42 fun x46 =>
      oExtract 1 x42 fun x47 =>
      oNew none (some 2) (.agg [.s (.int .i64 0), .s (.int .i64 0)]) h43 fun x48 h49 =>
      oStore (some 2) x48 x46 h49 fun h50 =>
      oCmp .eql x47 (.s (.int .i64 0)) fun x51 =>
      oCond x51 (oLoad (some 2) x48 h50 fun x52 =>
      oNewSlice none 2 (asRows (some 2) [x52]) h50 fun x53 h54 =>
      oAppend none 2 16 (s24.1.getD 0 .any) x53 h54 fun x55 h56 =>
      (trim true h30.length [.any, x55] h56).map fun p => (Ex.normal, p.1, p.2))
      ((trim true h30.length [.any, (s24.1.getD 0 .any)] h50).map fun p => (Ex.normal, p.1, p.2)))
      (oCmp .eql x32 (.s (.int .i64 1)) fun x59 =>
      oCond x59 (oFieldA 1 x28 fun x60 =>
      oLoad none x60 h36 fun x61 =>
      oCall extent_Map_All [x6, x61] h36 (fun v64 h65 => some (Ex.panic v64, [], h65)) fun w97 h98 => oFrz w97 h98 fun x62 h63 =>
      oExtract 0 x62 fun x66 =>
      oExtract 1 x62 fun x67 =>
      oLen x66 fun x68 =>
      oLoop (law07_ExtentApart_l1 x68 x66 h63) ([(.s (.int .i64 0)), (.s (.int .i64 0))], h63) (law07_ExtentApart_k3 x67 x28 h30 s24 x66))
      (oJoin (oCmp .eql x32 (.s (.int .i64 3)) fun x99 =>
      oCond x99 ((trim true h36.length [x99] h36).map fun p => (Ex.normal, p.1, p.2))
      (oCmp .eql x32 (.s (.int .i64 4)) fun x100 =>
      (trim true h36.length [x100] h36).map fun p => (Ex.normal, p.1, p.2))) (law07_ExtentApart_k5 s24 h30 x28 x6 x32)))
  | .exit i38 => if i38 = 2 then (trim true h30.length [.any, (s24.1.getD 0 .any)] h36).map fun p => (Ex.normal, p.1, p.2) else (trim true h30.length [.any, (s24.1.getD 0 .any)] h36).map fun p => (Ex.exit i38, p.1, p.2)
  | .ret => (trim true h30.length [.any, (s24.1.getD 0 .any)] h36).map fun p => (Ex.ret, p.1, p.2)
  | .panic v39 => some (Ex.panic v39, [], h36))

def law07_ExtentApart_l7 (x193 : A) (x169 : A) (h209 : Heap) : List A × Heap → Option ((List A × Heap) ⊕ (Ex × List A × Heap)) := fun s215 =>
      oFieldA 0 x193 fun x216 =>
      oLoad none x216 s215.2 fun x217 =>
      oFieldA 1 x193 fun x218 =>
      oLoad none x218 s215.2 fun x219 =>
      oAr .add x217 x219 fun x220 =>
      oCmp .lss (s215.1.getD 1 .any) x220 fun x221 =>
      oCond x221 (oIdxArr 1024 1 x169 (s215.1.getD 1 .any) fun x222 =>
      oLoad none x222 s215.2 fun x223 =>
      oAr .add x223 (.s (.int .u8 1)) fun x224 =>
      oIdxArr 1024 1 x169 (s215.1.getD 1 .any) fun x225 =>
      oStore none x225 x224 s215.2 fun h226 =>
      oAr .add (s215.1.getD 0 .any) (.s (.int .i64 1)) fun x227 =>
      oAr .add (s215.1.getD 1 .any) (.s (.int .i64 1)) fun x228 =>
      (trim true h209.length [x227, x228] h226).map .inl)
      ((trim true h209.length [(s215.1.getD 0 .any)] s215.2).map fun p => .inr (Ex.exit 7, p.1, p.2))

def law07_ExtentApart_k8 (s189 : List A × Heap) (h187 : Heap) : Ex → List A → Heap → Option ((List A × Heap) ⊕ (Ex × List A × Heap)) := fun e229 vs230 h231 =>
      (match e229 with
  | .normal => none
  | .exit i232 => if i232 = 7 then oAr .add (s189.1.getD 1 .any) (.s (.int .i64 1)) fun x234 =>
      (trim true h187.length [(vs230.getD 0 .any), x234] h231).map .inl else if i232 = 6 then oAr .add (s189.1.getD 1 .any) (.s (.int .i64 1)) fun x235 =>
      (trim true h187.length [(vs230.getD 0 .any), x235] h231).map .inl else (trim true h187.length [.any, (vs230.getD 0 .any)] h231).map fun p => .inr (Ex.exit i232, p.1, p.2)
  | .ret => (trim true h187.length [.any, (vs230.getD 0 .any)] h231).map fun p => .inr (Ex.ret, p.1, p.2)
  | .panic v233 => some (.inr (Ex.panic v233, [.any, .any], h231)))

def law07_ExtentApart_k9 (h187 : Heap) (s189 : List A × Heap) (x193 : A) (x169 : A) : Ex → List A → Heap → Option ((List A × Heap) ⊕ (Ex × List A × Heap)) := fun e210 vs208 h209 =>
      (match e210 with
  | .normal => oCond (vs208.getD 0 .any) ((trim true h187.length [(.s (.bool false)), (s189.1.getD 0 .any)] h209).map fun p => .inr (Ex.ret, p.1, p.2))
      (oFieldA 0 x193 fun x213 =>
      oLoad none x213 h209 fun x214 =>
      oLoop (law07_ExtentApart_l7 x193 x169 h209) ([(s189.1.getD 0 .any), x214], h209) (law07_ExtentApart_k8 s189 h187))
  | .exit i211 => if i211 = 6 then oAr .add (s189.1.getD 1 .any) (.s (.int .i64 1)) fun x236 =>
      (trim true h187.length [(s189.1.getD 0 .any), x236] h209).map .inl else (trim true h187.length [.any, (s189.1.getD 0 .any)] h209).map fun p => .inr (Ex.exit i211, p.1, p.2)
  | .ret => (trim true h187.length [.any, (s189.1.getD 0 .any)] h209).map fun p => .inr (Ex.ret, p.1, p.2)
  | .panic v212 => some (.inr (Ex.panic v212, [.any, .any], h209)))

def law07_ExtentApart_l10 (x188 : A) (x186 : A) (a0 : A) (h187 : Heap) (x169 : A) : List A × Heap → Option ((List A × Heap) ⊕ (Ex × List A × Heap)) := fun s189 =>
      oCmp .lss (s189.1.getD 1 .any) x188 fun x190 =>
      oCond x190 (oIdxA 2 x186 (s189.1.getD 1 .any) fun x191 =>
      oLoad (some 2) x191 s189.2 fun x192 =>
      oNew none (some 2) (.agg [.s (.int .i64 0), .s (.int .i64 0)]) s189.2 fun x193 h194 =>
      oStore (some 2) x193 x192 h194 fun h195 =>
      oJoin (oFieldA 1 x193 fun x196 =>
      oLoad none x196 h195 fun x197 =>
      oCmp .lss x197 (.s (.int .i64 1)) fun x198 =>
      oGuard x198 false (fun _ => oFieldA 0 x193 fun x199 =>
      oLoad none x199 h195 fun x200 =>
      oCmp .lss x200 (.s (.int .i64 0)) fun x201 =>
      oGuard x201 false (fun _ => oFieldA 0 x193 fun x202 =>
      oLoad none x202 h195 fun x203 =>
      oFieldA 1 x193 fun x204 =>
      oLoad none x204 h195 fun x205 =>
      oAr .sub a0 x205 fun x206 =>
      oCmp .gtr x203 x206 fun x207 =>
      (trim true h195.length [x207] h195).map fun p => (Ex.normal, p.1, p.2))
      (fun _ => (trim true h195.length [(.s (.bool true))] h195).map fun p => (Ex.normal, p.1, p.2)))
      (fun _ => (trim true h195.length [(.s (.bool true))] h195).map fun p => (Ex.normal, p.1, p.2))) (law07_ExtentApart_k9 h187 s189 x193 x169))
      ((trim true h187.length [.any, (s189.1.getD 0 .any)] s189.2).map fun p => .inr (Ex.exit 5, p.1, p.2))

def law07_ExtentApart_l11 (a0 : A) (x169 : A) (h239 : Heap) : List A × Heap → Option ((List A × Heap) ⊕ (Ex × List A × Heap)) := fun s242 =>
      oCmp .lss (s242.1.getD 0 .any) a0 fun x243 =>
      oCond x243 (oIdxArr 1024 1 x169 (s242.1.getD 0 .any) fun x244 =>
      oLoad none x244 s242.2 fun x245 =>
      oCmp .neq x245 (.s (.int .u8 1)) fun x246 =>
      oCond x246 ((trim true h239.length [(.s (.bool false))] s242.2).map fun p => .inr (Ex.ret, p.1, p.2))
      (oAr .add (s242.1.getD 0 .any) (.s (.int .i64 1)) fun x247 =>
      (trim true h239.length [x247] s242.2).map .inl))
      ((trim true h239.length [.any] s242.2).map fun p => .inr (Ex.exit 9, p.1, p.2))

def law07_ExtentApart_k12 (vs238 : List A) (a0 : A) (s24 : List A × Heap) (vs163 : List A) : Ex → List A → Heap → Option (Ex × List A × Heap) := fun e248 vs249 h250 =>
      (match e248 with
  | .normal => none
  | .exit i251 => if i251 = 9 then oCmp .neq (vs238.getD 1 .any) a0 fun x253 =>
      oCond x253 ((trim true s24.2.length [(.s (.bool false)), (vs163.getD 1 .any)] h250).map fun p => (Ex.ret, p.1, p.2))
      ((trim true s24.2.length [(vs249.getD 0 .any), (vs163.getD 1 .any)] h250).map fun p => (Ex.normal, p.1, p.2)) else if i251 = 1 then (trim true s24.2.length [(vs249.getD 0 .any), (vs163.getD 1 .any)] h250).map fun p => (Ex.normal, p.1, p.2) else (trim true s24.2.length [(vs249.getD 0 .any), (vs163.getD 1 .any)] h250).map fun p => (Ex.exit i251, p.1, p.2)
  | .ret => (trim true s24.2.length [(vs249.getD 0 .any), (vs163.getD 1 .any)] h250).map fun p => (Ex.ret, p.1, p.2)
  | .panic v252 => some (Ex.panic v252, [], h250))

def law07_ExtentApart_k13 (a0 : A) (x169 : A) (s24 : List A × Heap) (vs163 : List A) : Ex → List A → Heap → Option (Ex × List A × Heap) := fun e237 vs238 h239 =>
      (match e237 with
  | .normal => none
  | .exit i240 => if i240 = 5 then oLoop (law07_ExtentApart_l11 a0 x169 h239) ([(.s (.int .i64 0))], h239) (law07_ExtentApart_k12 vs238 a0 s24 vs163) else if i240 = 1 then (trim true s24.2.length [(vs238.getD 0 .any), (vs163.getD 1 .any)] h239).map fun p => (Ex.normal, p.1, p.2) else (trim true s24.2.length [(vs238.getD 0 .any), (vs163.getD 1 .any)] h239).map fun p => (Ex.exit i240, p.1, p.2)
  | .ret => (trim true s24.2.length [(vs238.getD 0 .any), (vs163.getD 1 .any)] h239).map fun p => (Ex.ret, p.1, p.2)
  | .panic v241 => some (Ex.panic v241, [], h239))

def law07_ExtentApart_k14 (x6 : A) (a0 : A) (s24 : List A × Heap) : Ex → List A → Heap → Option (Ex × List A × Heap) := fun e165 vs163 h164 =>
      (match e165 with
  | .normal => oBuildP (List.replicate 1024 (.s (.int .u8 0))) [] fun x168 =>
      oNew none (some 1024) (.agg (List.replicate 1024 (.s (.int .u8 0)))) h164 fun x169 h170 =>
      oStore (some 1024) x169 x168 h170 fun h171 =>
      oNewSlice none 2 (asRows (some 2) []) h171 fun x172 h173 =>
      oAppend none 2 16 x172 (vs163.getD 1 .any) h173 fun x174 h175 =>
      oLend extent_Map_List [x6] h175 (fun v178 h179 => some (Ex.panic v178, [], h179)) fun w256 h257 => oFrz w256 h257 fun x176 h177 =>
      oAppend none 2 16 x174 x176 h177 fun x180 h181 =>
      oLend extent_Map_Waiting [x6] h181 (fun v184 h185 => some (Ex.panic v184, [], h185)) fun w254 h255 => oFrz w254 h255 fun x182 h183 =>
      oAppend none 2 16 x180 x182 h183 fun x186 h187 =>
      oLen x186 fun x188 =>
      oLoop (law07_ExtentApart_l10 x188 x186 a0 h187 x169) ([(.s (.int .i64 0)), (.s (.int .i64 0))], h187) (law07_ExtentApart_k13 a0 x169 s24 vs163)
  | .exit i166 => if i166 = 1 then (trim true s24.2.length [(vs163.getD 0 .any), (vs163.getD 1 .any)] h164).map fun p => (Ex.normal, p.1, p.2) else (trim true s24.2.length [(vs163.getD 0 .any), (vs163.getD 1 .any)] h164).map fun p => (Ex.exit i166, p.1, p.2)
  | .ret => (trim true s24.2.length [(vs163.getD 0 .any), (vs163.getD 1 .any)] h164).map fun p => (Ex.ret, p.1, p.2)
  | .panic v167 => some (Ex.panic v167, [], h164))

def law07_ExtentApart_k15 (s24 : List A × Heap) (h22 : Heap) : Ex → List A → Heap → Option ((List A × Heap) ⊕ (Ex × List A × Heap)) := fun e260 vs258 h259 =>
      (match e260 with
  | .normal => oAr .add (s24.1.getD 1 .any) (.s (.int .i64 1)) fun x263 =>
      (trim true h22.length [(vs258.getD 1 .any), x263] h259).map .inl
  | .exit i261 => (trim true h22.length [(vs258.getD 0 .any)] h259).map fun p => .inr (Ex.exit i261, p.1, p.2)
  | .ret => (trim true h22.length [(vs258.getD 0 .any)] h259).map fun p => .inr (Ex.ret, p.1, p.2)
  | .panic v262 => some (.inr (Ex.panic v262, [.any], h259)))

def law07_ExtentApart_l16 (x23 : A) (a1 : A) (x6 : A) (a0 : A) (h22 : Heap) : List A × Heap → Option ((List A × Heap) ⊕ (Ex × List A × Heap)) := fun s24 =>
      oCmp .lss (s24.1.getD 1 .any) x23 fun x25 =>
      oCond x25 (oJoin (oIdxA 4 a1 (s24.1.getD 1 .any) fun x26 =>
      oLoad (some 4) x26 s24.2 fun x27 =>
      oNew none (some 4) (.agg [.s (.int .i64 0), .s (.int .i64 0), .s (.int .i64 0), .s (.int .i64 0)]) s24.2 fun x28 h29 =>
      oStore (some 4) x28 x27 h29 fun h30 =>
      oJoin (oFieldA 0 x28 fun x31 =>
      oLoad none x31 h30 fun x32 =>
      oJoin (oCmp .eql x32 (.s (.int .i64 0)) fun x33 =>
      oCond x33 ((trim true h30.length [x33] h30).map fun p => (Ex.normal, p.1, p.2))
      (oCmp .eql x32 (.s (.int .i64 2)) fun x34 =>
      (trim true h30.length [x34] h30).map fun p => (Ex.normal, p.1, p.2))) (law07_ExtentApart_k6 x28 x6 s24 h30 x32)) (law07_ExtentApart_k14 x6 a0 s24)) (law07_ExtentApart_k15 s24 h22))
      ((trim true h22.length [.any] s24.2).map fun p => .inr (Ex.exit 0, p.1, p.2))

def law07_ExtentApart_k17 (objs : Heap) : Ex → List A → Heap → Option (Out × Heap) := fun e264 vs265 h266 =>
      (match e264 with
  | .normal => none
  | .exit i267 => if i267 = 0 then finish objs.length (.ok (.s (.bool true))) h266 else none
  | .ret => finish objs.length (.ok (vs265.getD 0 .any)) h266
  | .panic v268 => finish objs.length (.pan v268) h266)

def law07_ExtentApart_k18 (x6 : A) (objs : Heap) (a1 : A) (a0 : A) : Ex → List A → Heap → Option (Out × Heap) := fun e17 vs15 h16 =>
      (match e17 with
  | .normal => oCond (vs15.getD 0 .any) (oEqNil true x6 (.s (.pointer none)) fun x20 =>
      finish objs.length (.ok x20) h16)
      (oNewSlice none 2 (asRows (some 2) []) h16 fun x21 h22 =>
      oLen a1 fun x23 =>
      oLoop (law07_ExtentApart_l16 x23 a1 x6 a0 h22) ([x21, (.s (.int .i64 0))], h22) (law07_ExtentApart_k17 objs))
  | .exit i18 => none
  | .ret => finish objs.length (.ok (.s (.bool false))) h16
  | .panic v19 => finish objs.length (.pan v19) h16)

/-- bailey/baileylaw07.ExtentApart -/
def law07_ExtentApart : CallFn := fun args objs =>
match args with
| [a0, a1] =>
oLend law07_extentAlive [] objs (fun v3 h4 => finish objs.length (.pan v3) h4) fun w269 h270 => oFrz w269 h270 fun x1 h2 =>
      oNot x1 fun x5 =>
      oCond x5 (finish objs.length (.ok (.s (.bool false))) h2)
      (oLend extent_New [a0] h2 (fun v8 h9 => finish objs.length (.pan v8) h9) fun x6 h7 =>
      oJoin (oEqNil false x6 (.s (.pointer none)) fun x10 =>
      oGuard x10 false (fun _ => oLen a1 fun x11 =>
      oCmp .gtr x11 (.s (.int .i64 100)) fun x12 =>
      oGuard x12 false (fun _ => oCmp .lss a0 (.s (.int .i64 0)) fun x13 =>
      oGuard x13 false (fun _ => oCmp .gtr a0 (.s (.int .i64 1024)) fun x14 =>
      (trim true h7.length [x14] h7).map fun p => (Ex.normal, p.1, p.2))
      (fun _ => (trim true h7.length [(.s (.bool true))] h7).map fun p => (Ex.normal, p.1, p.2)))
      (fun _ => (trim true h7.length [(.s (.bool true))] h7).map fun p => (Ex.normal, p.1, p.2)))
      (fun _ => (trim true h7.length [(.s (.bool true))] h7).map fun p => (Ex.normal, p.1, p.2))) (law07_ExtentApart_k18 x6 objs a1 a0))
| _ => none

/-- bailey/extent.within$1 -/
def extent_within_c1 : CallFn := fun args objs =>
match args with
| [a0, a1] =>
oNew none (some 2) a0 objs fun x1 h2 =>
      oFieldA 0 x1 fun x3 =>
      oLoadD h2.length [] none x3 h2 fun x4 h5 =>
      oFieldA 0 a1 fun x6 =>
      oLoadD h2.length [] none x6 h5 fun x7 h8 =>
      oCmp .leq x4 x7 fun x9 =>
      oGuard x9 true (fun _ => oLoadD h2.length [] (some 2) a1 h8 fun x10 h11 =>
      oCallF h2.length [] extent_end [x10] h11 fun w21 h22 => oFrz w21 h22 fun x12 h13 =>
      oLoadD h2.length [] (some 2) x1 h13 fun x14 h15 =>
      oCallF h2.length [] extent_end [x14] h15 fun w19 h20 => oFrz w19 h20 fun x16 h17 =>
      oCmp .leq x12 x16 fun x18 =>
      finish objs.length (.ok x18) h17)
      (fun _ => finish objs.length (.ok (.s (.bool false))) h8)
| _ => none

def En_extent_within : String → CallFn := fun n => if n = "bailey/extent.within$1" then extent_within_c1 else (fun _ _ => none)

/-- bailey/extent.within -/
def extent_within : CallFn := fun args objs =>
match args with
| [a0, a1] =>
oNew none (some 2) a1 objs fun x1 h2 =>
      oLend (slices_ContainsFunc_Sapi_Extent_api_Extent (En_extent_within)) [a0, (.fn "bailey/extent.within$1" [x1])] h2 (fun v5 h6 => finish objs.length (.pan v5) h6) fun w7 h8 => oFrz w7 h8 fun x3 h4 =>
      finish objs.length (.ok x3) h4
| _ => none

def extent_Map_Take_k1 (objs : Heap) (a0 : A) (x1 : A) : Ex → List A → Heap → Option (Out × Heap) := fun e23 vs21 h22 =>
      (match e23 with
  | .normal => oCond (vs21.getD 0 .any) (finish objs.length (.ok (.s (.int .i64 72))) h22)
      (oNilCheck a0 fun x26 =>
      oFieldA 1 x26 fun x27 =>
      oLoadD h22.length [] none x27 h22 fun x28 h29 =>
      oLoadD h22.length [] (some 2) x1 h29 fun x30 h31 =>
      oCallF h22.length [] extent_cut [x28, x30] h31 fun x32 h33 =>
      oNilCheck a0 fun x34 =>
      oFieldA 1 x34 fun x35 =>
      oStore none x35 x32 h33 fun h36 =>
      finish objs.length (.ok (.s (.int .i64 0))) h36)
  | .exit i24 => none
  | .ret => finish objs.length (.ok (.s (.int .i64 0))) h22
  | .panic v25 => finish objs.length (.pan v25) h22)

/-- (*bailey/extent.Map).Take -/
def extent_Map_Take : CallFn := fun args objs =>
match args with
| [a0, a1] =>
oNew none (some 2) a1 objs fun x1 h2 =>
      oJoin (oLoadD h2.length [] (some 2) x1 h2 fun x3 h4 =>
      oCallF h2.length [] extent_Map_there [a0, x3] h4 fun w19 h20 => oFrz w19 h20 fun x5 h6 =>
      oNot x5 fun x7 =>
      oGuard x7 false (fun _ => oNilCheck a0 fun x8 =>
      oFieldA 1 x8 fun x9 =>
      oLoadD h2.length [] none x9 h6 fun x10 h11 =>
      oLoadD h2.length [] (some 2) x1 h11 fun x12 h13 =>
      oCallF h2.length [] extent_within [x10, x12] h13 fun w17 h18 => oFrz w17 h18 fun x14 h15 =>
      oNot x14 fun x16 =>
      (trim true h2.length [x16] h15).map fun p => (Ex.normal, p.1, p.2))
      (fun _ => (trim true h2.length [(.s (.bool true))] h6).map fun p => (Ex.normal, p.1, p.2))) (extent_Map_Take_k1 objs a0 x1)
| _ => none

def ref07_Same_l1 (x4 : A) (a0 : A) (a1 : A) (objs : Heap) : List A × Heap → Option ((List A × Heap) ⊕ (Ex × List A × Heap)) := fun s5 =>
      oCmp .lss (s5.1.getD 0 .any) x4 fun x6 =>
      oCond x6 (oIdxA 2 a0 (s5.1.getD 0 .any) fun x7 =>
      oLoadD s5.2.length [] (some 2) x7 s5.2 fun x8 h9 =>
      oIdxA 2 a1 (s5.1.getD 0 .any) fun x10 =>
      oLoadD s5.2.length [] (some 2) x10 h9 fun x11 h12 =>
      oEqAgg [true, true] true x8 x11 fun x13 =>
      oCond x13 ((trim true objs.length [(.s (.bool false))] h12).map fun p => .inr (Ex.ret, p.1, p.2))
      (oAr .add (s5.1.getD 0 .any) (.s (.int .i64 1)) fun x14 =>
      (trim true objs.length [x14] h12).map .inl))
      ((trim true objs.length [.any] s5.2).map fun p => .inr (Ex.exit 0, p.1, p.2))

def ref07_Same_k2 (objs : Heap) : Ex → List A → Heap → Option (Out × Heap) := fun e15 vs16 h17 =>
      (match e15 with
  | .normal => none
  | .exit i18 => if i18 = 0 then finish objs.length (.ok (.s (.bool true))) h17 else none
  | .ret => finish objs.length (.ok (vs16.getD 0 .any)) h17
  | .panic v19 => finish objs.length (.pan v19) h17)

/-- bailey/baileyref07.Same -/
def ref07_Same : CallFn := fun args objs =>
match args with
| [a0, a1] =>
oLen a0 fun x1 =>
      oLen a1 fun x2 =>
      oCmp .neq x1 x2 fun x3 =>
      oCond x3 (finish objs.length (.ok (.s (.bool false))) objs)
      (oLen a0 fun x4 =>
      oLoop (ref07_Same_l1 x4 a0 a1 objs) ([(.s (.int .i64 0))], objs) (ref07_Same_k2 objs))
| _ => none

def law07_ExtentWaits_l1 (x108 : A) (x93 : A) (x6 : A) (h104 : Heap) : List A × Heap → Option ((List A × Heap) ⊕ (Ex × List A × Heap)) := fun s109 =>
      oCmp .lss (s109.1.getD 0 .any) x108 fun x110 =>
      oCond x110 (oIdxA 2 x93 (s109.1.getD 0 .any) fun x111 =>
      oLoad (some 2) x111 s109.2 fun x112 =>
      oNew none (some 2) (.agg [.s (.int .i64 0), .s (.int .i64 0)]) s109.2 fun x113 h114 =>
      oStore (some 2) x113 x112 h114 fun h115 =>
      oLoad (some 2) x113 h115 fun x116 =>
      oCall extent_Map_Free [x6, x116] h115 (fun v119 h120 => some (.inr (Ex.panic v119, [.any], h120))) fun w123 h124 => oFrz w123 h124 fun x117 h118 =>
      oCmp .neq x117 (.s (.int .i64 0)) fun x121 =>
      oCond x121 ((trim true h104.length [(.s (.bool false))] h118).map fun p => .inr (Ex.ret, p.1, p.2))
      (oAr .add (s109.1.getD 0 .any) (.s (.int .i64 1)) fun x122 =>
      (trim true h104.length [x122] h118).map .inl))
      ((trim true h104.length [.any] s109.2).map fun p => .inr (Ex.exit 0, p.1, p.2))

def law07_ExtentWaits_k2 (x6 : A) (objs : Heap) (a0 : A) : Ex → List A → Heap → Option (Out × Heap) := fun e125 vs126 h127 =>
      (match e125 with
  | .normal => none
  | .exit i128 => if i128 = 0 then oCall extent_Map_Commit [x6] h127 (fun v132 h133 => finish objs.length (.pan v132) h133) fun w157 h158 => oFrz w157 h158 fun x130 h131 =>
      oLend extent_Map_List [x6] h131 (fun v136 h137 => finish objs.length (.pan v136) h137) fun w155 h156 => oFrz w155 h156 fun x134 h135 =>
      oBuildP [.s (.int .i64 0), .s (.int .i64 0)] [(0, none, (.s (.int .i64 0))), (1, none, a0)] fun x138 =>
      oNewSlice none 2 (asRows (some 2) [x138]) h135 fun x139 h140 =>
      oLend ref07_Same [x134, x139] h140 (fun v143 h144 => finish objs.length (.pan v143) h144) fun w153 h154 => oFrz w153 h154 fun x141 h142 =>
      oGuard x141 true (fun _ => oLend extent_Map_Waiting [x6] h142 (fun v147 h148 => finish objs.length (.pan v147) h148) fun w151 h152 => oFrz w151 h152 fun x145 h146 =>
      oLen x145 fun x149 =>
      oCmp .eql x149 (.s (.int .i64 0)) fun x150 =>
      finish objs.length (.ok x150) h146)
      (fun _ => finish objs.length (.ok (.s (.bool false))) h142) else none
  | .ret => finish objs.length (.ok (vs126.getD 0 .any)) h127
  | .panic v129 => finish objs.length (.pan v129) h127)

def law07_ExtentWaits_k3 (objs : Heap) (x93 : A) (x6 : A) (a0 : A) : Ex → List A → Heap → Option (Out × Heap) := fun e105 vs103 h104 =>
      (match e105 with
  | .normal => oCond (vs103.getD 0 .any) (finish objs.length (.ok (.s (.bool false))) h104)
      (oLen x93 fun x108 =>
      oLoop (law07_ExtentWaits_l1 x108 x93 x6 h104) ([(.s (.int .i64 0))], h104) (law07_ExtentWaits_k2 x6 objs a0))
  | .exit i106 => none
  | .ret => finish objs.length (.ok (.s (.bool false))) h104
  | .panic v107 => finish objs.length (.pan v107) h104)

def law07_ExtentWaits_k4 (objs : Heap) (a0 : A) (a1 : A) (x6 : A) : Ex → List A → Heap → Option (Out × Heap) := fun e76 vs74 h75 =>
      (match e76 with
  | .normal => oCond (vs74.getD 0 .any) (finish objs.length (.ok (.s (.bool false))) h75)
      (oAr .sub a0 a1 fun x79 =>
      oAr .add x79 (.s (.int .i64 1)) fun x80 =>
      oCall extent_Map_All [x6, x80] h75 (fun v83 h84 => finish objs.length (.pan v83) h84) fun w161 h162 => oFrz w161 h162 fun x81 h82 =>
      oExtract 0 x81 fun x85 =>
      oExtract 1 x81 fun x86 =>
      oCmp .neq x86 (.s (.int .i64 73)) fun x87 =>
      oCond x87 (finish objs.length (.ok (.s (.bool false))) h82)
      (oAr .sub a0 a1 fun x88 =>
      oCall extent_Map_All [x6, x88] h82 (fun v91 h92 => finish objs.length (.pan v91) h92) fun w159 h160 => oFrz w159 h160 fun x89 h90 =>
      oExtract 0 x89 fun x93 =>
      oExtract 1 x89 fun x94 =>
      oJoin (oCmp .neq x94 (.s (.int .i64 0)) fun x95 =>
      oGuard x95 false (fun _ => oLend extent_Map_Count [x6] h90 (fun v98 h99 => some (Ex.panic v98, [], h99)) fun w101 h102 => oFrz w101 h102 fun x96 h97 =>
      oCmp .neq x96 (.s (.int .i64 0)) fun x100 =>
      (trim true h90.length [x100] h97).map fun p => (Ex.normal, p.1, p.2))
      (fun _ => (trim true h90.length [(.s (.bool true))] h90).map fun p => (Ex.normal, p.1, p.2))) (law07_ExtentWaits_k3 objs x93 x6 a0)))
  | .exit i77 => none
  | .ret => finish objs.length (.ok (.s (.bool false))) h75
  | .panic v78 => finish objs.length (.pan v78) h75)

def law07_ExtentWaits_k5 (x6 : A) (objs : Heap) (a1 : A) (a0 : A) : Ex → List A → Heap → Option (Out × Heap) := fun e17 vs15 h16 =>
      (match e17 with
  | .normal => oCond (vs15.getD 0 .any) (oEqNil true x6 (.s (.pointer none)) fun x20 =>
      finish objs.length (.ok x20) h16)
      (oCall extent_Map_Alloc [x6, a1] h16 (fun v23 h24 => finish objs.length (.pan v23) h24) fun w163 h164 => oFrz w163 h164 fun x21 h22 =>
      oExtract 0 x21 fun x25 =>
      oExtract 1 x21 fun x26 =>
      oNew none (some 2) (.agg [.s (.int .i64 0), .s (.int .i64 0)]) h22 fun x27 h28 =>
      oStore (some 2) x27 x25 h28 fun h29 =>
      oJoin (oCmp .neq x26 (.s (.int .i64 0)) fun x30 =>
      oGuard x30 false (fun _ => oFieldA 1 x27 fun x31 =>
      oLoad none x31 h29 fun x32 =>
      oCmp .neq x32 a1 fun x33 =>
      oGuard x33 false (fun _ => oLoad (some 2) x27 h29 fun x34 =>
      oCall extent_Map_Later [x6, x34] h29 (fun v37 h38 => some (Ex.panic v37, [], h38)) fun w72 h73 => oFrz w72 h73 fun x35 h36 =>
      oCmp .neq x35 (.s (.int .i64 0)) fun x39 =>
      oGuard x39 false (fun _ => oLoad (some 2) x27 h36 fun x40 =>
      oCall extent_Map_Later [x6, x40] h36 (fun v43 h44 => some (Ex.panic v43, [], h44)) fun w70 h71 => oFrz w70 h71 fun x41 h42 =>
      oCmp .neq x41 (.s (.int .i64 72)) fun x45 =>
      oGuard x45 false (fun _ => oLoad (some 2) x27 h42 fun x46 =>
      oCall extent_Map_Free [x6, x46] h42 (fun v49 h50 => some (Ex.panic v49, [], h50)) fun w68 h69 => oFrz w68 h69 fun x47 h48 =>
      oCmp .neq x47 (.s (.int .i64 72)) fun x51 =>
      oGuard x51 false (fun _ => oLoad (some 2) x27 h48 fun x52 =>
      oCall extent_Map_Take [x6, x52] h48 (fun v55 h56 => some (Ex.panic v55, [], h56)) fun w66 h67 => oFrz w66 h67 fun x53 h54 =>
      oCmp .neq x53 (.s (.int .i64 72)) fun x57 =>
      oGuard x57 false (fun _ => oLend extent_Map_Count [x6] h54 (fun v60 h61 => some (Ex.panic v60, [], h61)) fun w64 h65 => oFrz w64 h65 fun x58 h59 =>
      oAr .sub a0 a1 fun x62 =>
      oCmp .neq x58 x62 fun x63 =>
      (trim true h29.length [x63] h59).map fun p => (Ex.normal, p.1, p.2))
      (fun _ => (trim true h29.length [(.s (.bool true))] h54).map fun p => (Ex.normal, p.1, p.2)))
      (fun _ => (trim true h29.length [(.s (.bool true))] h48).map fun p => (Ex.normal, p.1, p.2)))
      (fun _ => (trim true h29.length [(.s (.bool true))] h42).map fun p => (Ex.normal, p.1, p.2)))
      (fun _ => (trim true h29.length [(.s (.bool true))] h36).map fun p => (Ex.normal, p.1, p.2)))
      (fun _ => (trim true h29.length [(.s (.bool true))] h29).map fun p => (Ex.normal, p.1, p.2)))
      (fun _ => (trim true h29.length [(.s (.bool true))] h29).map fun p => (Ex.normal, p.1, p.2))) (law07_ExtentWaits_k4 objs a0 a1 x6))
  | .exit i18 => none
  | .ret => finish objs.length (.ok (.s (.bool false))) h16
  | .panic v19 => finish objs.length (.pan v19) h16)

/-- bailey/baileylaw07.ExtentWaits -/
def law07_ExtentWaits : CallFn := fun args objs =>
match args with
| [a0, a1] =>
oLend law07_extentAlive [] objs (fun v3 h4 => finish objs.length (.pan v3) h4) fun w165 h166 => oFrz w165 h166 fun x1 h2 =>
      oNot x1 fun x5 =>
      oCond x5 (finish objs.length (.ok (.s (.bool false))) h2)
      (oLend extent_New [a0] h2 (fun v8 h9 => finish objs.length (.pan v8) h9) fun x6 h7 =>
      oJoin (oEqNil false x6 (.s (.pointer none)) fun x10 =>
      oGuard x10 false (fun _ => oCmp .lss a0 (.s (.int .i64 1)) fun x11 =>
      oGuard x11 false (fun _ => oCmp .gtr a0 (.s (.int .i64 1024)) fun x12 =>
      oGuard x12 false (fun _ => oCmp .lss a1 (.s (.int .i64 1)) fun x13 =>
      oGuard x13 false (fun _ => oCmp .gtr a1 a0 fun x14 =>
      (trim true h7.length [x14] h7).map fun p => (Ex.normal, p.1, p.2))
      (fun _ => (trim true h7.length [(.s (.bool true))] h7).map fun p => (Ex.normal, p.1, p.2)))
      (fun _ => (trim true h7.length [(.s (.bool true))] h7).map fun p => (Ex.normal, p.1, p.2)))
      (fun _ => (trim true h7.length [(.s (.bool true))] h7).map fun p => (Ex.normal, p.1, p.2)))
      (fun _ => (trim true h7.length [(.s (.bool true))] h7).map fun p => (Ex.normal, p.1, p.2))) (law07_ExtentWaits_k5 x6 objs a1 a0))
| _ => none

end Go.Ab.F
