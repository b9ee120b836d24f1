/-
  THE PROGRAM'S FUNCTIONS OVER VALUES WITHOUT ADDRESSES. Written by a program (emit.py).
-/
import Derived.Test.YtijekkbagkpjdaaAbsPrim
set_option maxRecDepth 100000
set_option linter.unusedVariables false
namespace Go.Ab.F
open Go Go.Ab

def extent_New_k1 (objs : Heap) (x4 : A) : Ex → List A → Heap → Option (Out × Heap) := fun e21 vs19 h20 =>
      (match e21 with
  | .normal => finish objs.length (.ok x4) h20
  | .exit i22 => none
  | .ret => finish objs.length (.ok (.s (.pointer none))) h20
  | .panic v23 => finish objs.length (.pan v23) h20)

/-- bailey/extent.New -/
def extent_New : CallFn := fun args objs =>
match args with
| [a0] =>
oMin a0 (.s (.int .i64 1024)) fun x1 =>
      oMax (.s (.int .i64 0)) x1 fun x2 =>
      oBuildP [.s (.int .i64 0), .s (.slice none 0 0), .s (.slice none 0 0)] [(0, none, x2)] fun x3 =>
      oNew none (some 3) x3 objs fun x4 h5 =>
      oJoin (oNilCheck x4 fun x6 =>
      oFieldA 0 x6 fun x7 =>
      oLoad none x7 h5 fun x8 =>
      oCmp .gtr x8 (.s (.int .i64 0)) fun x9 =>
      oCond x9 (oNilCheck x4 fun x10 =>
      oFieldA 0 x10 fun x11 =>
      oLoad none x11 h5 fun x12 =>
      oBuildP [.s (.int .i64 0), .s (.int .i64 0)] [(0, none, (.s (.int .i64 0))), (1, none, x12)] fun x13 =>
      oNewSlice none 2 (asRows (some 2) [x13]) h5 fun x14 h15 =>
      oNilCheck x4 fun x16 =>
      oFieldA 1 x16 fun x17 =>
      oStore none x17 x14 h15 fun h18 =>
      (trim true h5.length [] h18).map fun p => (Ex.normal, p.1, p.2))
      ((trim true h5.length [] h5).map fun p => (Ex.normal, p.1, p.2))) (extent_New_k1 objs x4)
| _ => none

/-- bailey/extent.end -/
def extent_end : CallFn := fun args objs =>
match args with
| [a0] =>
oNew none (some 2) a0 objs fun x1 h2 =>
      oFieldA 0 x1 fun x3 =>
      oLoad none x3 h2 fun x4 =>
      oFieldA 1 x1 fun x5 =>
      oLoad none x5 h2 fun x6 =>
      oAr .add x4 x6 fun x7 =>
      finish objs.length (.ok x7) h2
| _ => none

def extent_cut_k1 (x1 : A) (x10 : A) (s6 : List A × Heap) : Ex → List A → Heap → Option (Ex × List A × Heap) := fun e62 vs60 h61 =>
      (match e62 with
  | .normal => oLoadD h61.length [] (some 2) x1 h61 fun x65 h66 =>
      oCallF h61.length [] extent_end [x65] h66 fun w100 h101 => oFrz w100 h101 fun x67 h68 =>
      oLoadD h61.length [] (some 2) x10 h68 fun x69 h70 =>
      oCallF h61.length [] extent_end [x69] h70 fun w98 h99 => oFrz w98 h99 fun x71 h72 =>
      oCmp .lss x67 x71 fun x73 =>
      oCond x73 (oLoadD h72.length (wrL h72 [((vs60.getD 0 .any), false)]) (some 2) x1 (h72 ++ List.replicate 2 .res) fun x74 h75 =>
      oCallF h72.length (wrL h72 [((vs60.getD 0 .any), false)]) extent_end [x74] h75 fun w96 h97 => oFrz w96 h97 fun x76 h77 =>
      oLoadD h72.length (wrL h72 [((vs60.getD 0 .any), false)]) (some 2) x10 h77 fun x78 h79 =>
      oCallF h72.length (wrL h72 [((vs60.getD 0 .any), false)]) extent_end [x78] h79 fun w94 h95 => oFrz w94 h95 fun x80 h81 =>
      oLoadD h72.length (wrL h72 [((vs60.getD 0 .any), false)]) (some 2) x1 h81 fun x82 h83 =>
      oCallF h72.length (wrL h72 [((vs60.getD 0 .any), false)]) extent_end [x82] h83 fun w92 h93 => oFrz w92 h93 fun x84 h85 =>
      oAr .sub x80 x84 fun x86 =>
      oBuildP [.s (.int .i64 0), .s (.int .i64 0)] [(0, none, x76), (1, none, x86)] fun x87 =>
      oNewSlice (some h72.length) 2 (asRows (some 2) [x87]) h85 fun x88 h89 =>
      oAppendD h72.length (wrL h72 [((vs60.getD 0 .any), false)]) (h72.length + 1) 2 16 (vs60.getD 0 .any) x88 h89 fun x90 h91 =>
      (trim true s6.2.length [x90] h91).map fun p => (Ex.normal, p.1, p.2))
      ((trim true s6.2.length [(vs60.getD 0 .any)] h72).map fun p => (Ex.normal, p.1, p.2))
  | .exit i63 => if i63 = 1 then (trim true s6.2.length [(vs60.getD 0 .any)] h61).map fun p => (Ex.normal, p.1, p.2) else (trim true s6.2.length [(vs60.getD 0 .any)] h61).map fun p => (Ex.exit i63, p.1, p.2)
  | .ret => (trim true s6.2.length [(vs60.getD 0 .any)] h61).map fun p => (Ex.ret, p.1, p.2)
  | .panic v64 => some (Ex.panic v64, [], h61))

def extent_cut_k2 (x10 : A) (s6 : List A × Heap) (x1 : A) : Ex → List A → Heap → Option (Ex × List A × Heap) := fun e35 vs33 h34 =>
      (match e35 with
  | .normal => oCond (vs33.getD 0 .any) (oLoad (some 2) x10 h34 fun x38 =>
      oNewSlice none 2 (asRows (some 2) [x38]) h34 fun x39 h40 =>
      oAppend none 2 16 (s6.1.getD 0 .any) x39 h40 fun x41 h42 =>
      (trim true s6.2.length [x41] h42).map fun p => (Ex.normal, p.1, p.2))
      (oJoin (oFieldA 0 x10 fun x43 =>
      oLoad none x43 h34 fun x44 =>
      oFieldA 0 x1 fun x45 =>
      oLoad none x45 h34 fun x46 =>
      oCmp .lss x44 x46 fun x47 =>
      oCond x47 (oFieldA 0 x10 fun x48 =>
      oLoad none x48 h34 fun x49 =>
      oFieldA 0 x1 fun x50 =>
      oLoad none x50 h34 fun x51 =>
      oFieldA 0 x10 fun x52 =>
      oLoad none x52 h34 fun x53 =>
      oAr .sub x51 x53 fun x54 =>
      oBuildP [.s (.int .i64 0), .s (.int .i64 0)] [(0, none, x49), (1, none, x54)] fun x55 =>
      oNewSlice none 2 (asRows (some 2) [x55]) h34 fun x56 h57 =>
      oAppend none 2 16 (s6.1.getD 0 .any) x56 h57 fun x58 h59 =>
      (trim true h34.length [x58] h59).map fun p => (Ex.normal, p.1, p.2))
      ((trim true h34.length [(s6.1.getD 0 .any)] h34).map fun p => (Ex.normal, p.1, p.2))) (extent_cut_k1 x1 x10 s6))
  | .exit i36 => if i36 = 1 then (trim true s6.2.length [(s6.1.getD 0 .any)] h34).map fun p => (Ex.normal, p.1, p.2) else (trim true s6.2.length [(s6.1.getD 0 .any)] h34).map fun p => (Ex.exit i36, p.1, p.2)
  | .ret => (trim true s6.2.length [(s6.1.getD 0 .any)] h34).map fun p => (Ex.ret, p.1, p.2)
  | .panic v37 => some (Ex.panic v37, [], h34))

def extent_cut_k3 (s6 : List A × Heap) (h5 : Heap) : Ex → List A → Heap → Option ((List A × Heap) ⊕ (Ex × List A × Heap)) := fun e104 vs102 h103 =>
      (match e104 with
  | .normal => oAr .add (s6.1.getD 1 .any) (.s (.int .i64 1)) fun x107 =>
      (trim true h5.length [(vs102.getD 0 .any), x107] h103).map .inl
  | .exit i105 => (trim true h5.length [(vs102.getD 0 .any)] h103).map fun p => .inr (Ex.exit i105, p.1, p.2)
  | .ret => (trim true h5.length [(vs102.getD 0 .any)] h103).map fun p => .inr (Ex.ret, p.1, p.2)
  | .panic v106 => some (.inr (Ex.panic v106, [.any], h103)))

def extent_cut_l4 (x3 : A) (a0 : A) (x1 : A) (h5 : Heap) : List A × Heap → Option ((List A × Heap) ⊕ (Ex × List A × Heap)) := fun s6 =>
      oCmp .lss (s6.1.getD 1 .any) x3 fun x7 =>
      oCond x7 (oJoin (oIdxA 2 a0 (s6.1.getD 1 .any) fun x8 =>
      oLoad (some 2) x8 s6.2 fun x9 =>
      oNew none (some 2) (.agg [.s (.int .i64 0), .s (.int .i64 0)]) s6.2 fun x10 h11 =>
      oStore (some 2) x10 x9 h11 fun h12 =>
      oJoin (oFieldA 0 x10 fun x13 =>
      oLoadD h12.length [] none x13 h12 fun x14 h15 =>
      oFieldA 0 x1 fun x16 =>
      oLoadD h12.length [] none x16 h15 fun x17 h18 =>
      oCmp .gtr x14 x17 fun x19 =>
      oGuard x19 false (fun _ => oLoadD h12.length [] (some 2) x1 h18 fun x20 h21 =>
      oCallF h12.length [] extent_end [x20] h21 fun w31 h32 => oFrz w31 h32 fun x22 h23 =>
      oLoadD h12.length [] (some 2) x10 h23 fun x24 h25 =>
      oCallF h12.length [] extent_end [x24] h25 fun w29 h30 => oFrz w29 h30 fun x26 h27 =>
      oCmp .gtr x22 x26 fun x28 =>
      (trim true h12.length [x28] h27).map fun p => (Ex.normal, p.1, p.2))
      (fun _ => (trim true h12.length [(.s (.bool true))] h18).map fun p => (Ex.normal, p.1, p.2))) (extent_cut_k2 x10 s6 x1)) (extent_cut_k3 s6 h5))
      ((trim true h5.length [(s6.1.getD 0 .any)] s6.2).map fun p => .inr (Ex.exit 0, p.1, p.2))

def extent_cut_k5 (objs : Heap) : Ex → List A → Heap → Option (Out × Heap) := fun e108 vs109 h110 =>
      (match e108 with
  | .normal => none
  | .exit i111 => if i111 = 0 then finish objs.length (.ok (vs109.getD 0 .any)) h110 else none
  | .ret => finish objs.length (.ok (.s (.slice none 0 0))) h110
  | .panic v112 => finish objs.length (.pan v112) h110)

/-- bailey/extent.cut -/
def extent_cut : CallFn := fun args objs =>
match args with
| [a0, a1] =>
oNew none (some 2) a1 objs fun x1 h2 =>
      oLen a0 fun x3 =>
      oProm 2 (.s (.slice none 0 0)) h2 fun x4 h5 =>
      oLoop (extent_cut_l4 x3 a0 x1 h5) ([x4, (.s (.int .i64 0))], h5) (extent_cut_k5 objs)
| _ => none

def extent_Map_Alloc_k1 (s27 : List A × Heap) (h22 : Heap) : Ex → List A → Heap → Option ((List A × Heap) ⊕ (Ex × List A × Heap)) := fun e46 vs44 h45 =>
      (match e46 with
  | .normal => oAr .add (s27.1.getD 0 .any) (.s (.int .i64 1)) fun x49 =>
      (trim true h22.length [x49] h45).map .inl
  | .exit i47 => (trim true h22.length [] h45).map fun p => .inr (Ex.exit i47, p.1, p.2)
  | .ret => (trim true h22.length [] h45).map fun p => .inr (Ex.ret, p.1, p.2)
  | .panic v48 => some (.inr (Ex.panic v48, [], h45)))

def extent_Map_Alloc_l2 (x26 : A) (x25 : A) (x20 : A) (a1 : A) (h22 : Heap) : List A × Heap → Option ((List A × Heap) ⊕ (Ex × List A × Heap)) := fun s27 =>
      oCmp .lss (s27.1.getD 0 .any) x26 fun x28 =>
      oCond x28 (oJoin (oIdxA 2 x25 (s27.1.getD 0 .any) fun x29 =>
      oLoad (some 2) x29 s27.2 fun x30 =>
      oNew none (some 2) (.agg [.s (.int .i64 0), .s (.int .i64 0)]) s27.2 fun x31 h32 =>
      oStore (some 2) x31 x30 h32 fun h33 =>
      oFieldA 1 x20 fun x34 =>
      oLoad none x34 h33 fun x35 =>
      oCmp .geq x35 a1 fun x36 =>
      oCond x36 ((trim true s27.2.length [] h33).map fun p => (Ex.exit 1, p.1, p.2))
      (oFieldA 1 x31 fun x37 =>
      oLoad none x37 h33 fun x38 =>
      oFieldA 1 x20 fun x39 =>
      oLoad none x39 h33 fun x40 =>
      oCmp .gtr x38 x40 fun x41 =>
      oCond x41 (oLoad (some 2) x31 h33 fun x42 =>
      oStore (some 2) x20 x42 h33 fun h43 =>
      (trim true s27.2.length [] h43).map fun p => (Ex.normal, p.1, p.2))
      ((trim true s27.2.length [] h33).map fun p => (Ex.normal, p.1, p.2)))) (extent_Map_Alloc_k1 s27 h22))
      ((trim true h22.length [] s27.2).map fun p => .inr (Ex.exit 1, p.1, p.2))

def extent_Map_Alloc_k3 (x20 : A) (a1 : A) (a0 : A) (x1 : A) (objs : Heap) : Ex → List A → Heap → Option (Out × Heap) := fun e50 vs51 h52 =>
      (match e50 with
  | .normal => none
  | .exit i53 => if i53 = 1 then oFieldA 1 x20 fun x55 =>
      oLoad none x55 h52 fun x56 =>
      oMin x56 a1 fun x57 =>
      oFieldA 1 x20 fun x58 =>
      oStore none x58 x57 h52 fun h59 =>
      oNilCheck a0 fun x60 =>
      oFieldA 1 x60 fun x61 =>
      oLoadD h59.length [] none x61 h59 fun x62 h63 =>
      oLoadD h59.length [] (some 2) x20 h63 fun x64 h65 =>
      oCallF h59.length [] extent_cut [x62, x64] h65 fun x66 h67 =>
      oNilCheck a0 fun x68 =>
      oFieldA 1 x68 fun x69 =>
      oStore none x69 x66 h67 fun h70 =>
      oLoad (some 2) x20 h70 fun x71 =>
      oStore (some 2) x1 x71 h70 fun h72 =>
      oLoad (some 2) x1 h72 fun r73 =>
      finish objs.length (.ok (.tup [r73, (.s (.int .i64 0))])) h72 else none
  | .ret => oLoad (some 2) x1 h52 fun r74 =>
      finish objs.length (.ok (.tup [r74, (.s (.int .i64 0))])) h52
  | .panic v54 => finish objs.length (.pan v54) h52)

/-- (*bailey/extent.Map).Alloc -/
def extent_Map_Alloc : CallFn := fun args objs =>
match args with
| [a0, a1] =>
oNew none (some 2) (.agg [.s (.int .i64 0), .s (.int .i64 0)]) objs fun x1 h2 =>
      oCmp .lss a1 (.s (.int .i64 1)) fun x3 =>
      oCond x3 (oBuildP [.s (.int .i64 0), .s (.int .i64 0)] [] fun x4 =>
      oStore (some 2) x1 x4 h2 fun h5 =>
      oLoad (some 2) x1 h5 fun r6 =>
      finish objs.length (.ok (.tup [r6, (.s (.int .i64 72))])) h5)
      (oNilCheck a0 fun x7 =>
      oFieldA 1 x7 fun x8 =>
      oLoad none x8 h2 fun x9 =>
      oLen x9 fun x10 =>
      oCmp .eql x10 (.s (.int .i64 0)) fun x11 =>
      oCond x11 (oBuildP [.s (.int .i64 0), .s (.int .i64 0)] [] fun x12 =>
      oStore (some 2) x1 x12 h2 fun h13 =>
      oLoad (some 2) x1 h13 fun r14 =>
      finish objs.length (.ok (.tup [r14, (.s (.int .i64 73))])) h13)
      (oNilCheck a0 fun x15 =>
      oFieldA 1 x15 fun x16 =>
      oLoad none x16 h2 fun x17 =>
      oIdxA 2 x17 (.s (.int .i64 0)) fun x18 =>
      oLoad (some 2) x18 h2 fun x19 =>
      oNew none (some 2) (.agg [.s (.int .i64 0), .s (.int .i64 0)]) h2 fun x20 h21 =>
      oStore (some 2) x20 x19 h21 fun h22 =>
      oNilCheck a0 fun x23 =>
      oFieldA 1 x23 fun x24 =>
      oLoad none x24 h22 fun x25 =>
      oLen x25 fun x26 =>
      oLoop (extent_Map_Alloc_l2 x26 x25 x20 a1 h22) ([(.s (.int .i64 0))], h22) (extent_Map_Alloc_k3 x20 a1 a0 x1 objs)))
| _ => none

/-- (*bailey/extent.Map).there -/
def extent_Map_there : CallFn := fun args objs =>
match args with
| [a0, a1] =>
oNew none (some 2) a1 objs fun x1 h2 =>
      oFieldA 1 x1 fun x3 =>
      oLoadD h2.length [] none x3 h2 fun x4 h5 =>
      oCmp .geq x4 (.s (.int .i64 1)) fun x6 =>
      oGuard x6 true (fun _ => oFieldA 1 x1 fun x7 =>
      oLoadD h2.length [] none x7 h5 fun x8 h9 =>
      oNilCheck a0 fun x10 =>
      oFieldA 0 x10 fun x11 =>
      oLoadD h2.length [] none x11 h9 fun x12 h13 =>
      oCmp .leq x8 x12 fun x14 =>
      oGuard x14 true (fun _ => oFieldA 0 x1 fun x15 =>
      oLoadD h2.length [] none x15 h13 fun x16 h17 =>
      oCmp .geq x16 (.s (.int .i64 0)) fun x18 =>
      oGuard x18 true (fun _ => oFieldA 0 x1 fun x19 =>
      oLoadD h2.length [] none x19 h17 fun x20 h21 =>
      oNilCheck a0 fun x22 =>
      oFieldA 0 x22 fun x23 =>
      oLoadD h2.length [] none x23 h21 fun x24 h25 =>
      oFieldA 1 x1 fun x26 =>
      oLoadD h2.length [] none x26 h25 fun x27 h28 =>
      oAr .sub x24 x27 fun x29 =>
      oCmp .leq x20 x29 fun x30 =>
      finish objs.length (.ok x30) h28)
      (fun _ => finish objs.length (.ok (.s (.bool false))) h17))
      (fun _ => finish objs.length (.ok (.s (.bool false))) h13))
      (fun _ => finish objs.length (.ok (.s (.bool false))) h5)
| _ => none

/-- bailey/extent.meets$1 -/
def extent_meets_c1 : CallFn := fun args objs =>
match args with
| [a0, a1] =>
oNew none (some 2) a0 objs fun x1 h2 =>
      oFieldA 0 x1 fun x3 =>
      oLoadD h2.length [] none x3 h2 fun x4 h5 =>
      oLoadD h2.length [] (some 2) a1 h5 fun x6 h7 =>
      oCallF h2.length [] extent_end [x6] h7 fun w21 h22 => oFrz w21 h22 fun x8 h9 =>
      oCmp .lss x4 x8 fun x10 =>
      oGuard x10 true (fun _ => oFieldA 0 a1 fun x11 =>
      oLoadD h2.length [] none x11 h9 fun x12 h13 =>
      oLoadD h2.length [] (some 2) x1 h13 fun x14 h15 =>
      oCallF h2.length [] extent_end [x14] h15 fun w19 h20 => oFrz w19 h20 fun x16 h17 =>
      oCmp .lss x12 x16 fun x18 =>
      finish objs.length (.ok x18) h17)
      (fun _ => finish objs.length (.ok (.s (.bool false))) h9)
| _ => none

def slices_IndexFunc_Sapi_Extent_api_Extent_l1 (En : String → CallFn) (x1 : A) (a0 : A) (a1 : A) (objs : Heap) : List A × Heap → Option ((List A × Heap) ⊕ (Ex × List A × Heap)) := fun s2 =>
      oCmp .lss (s2.1.getD 0 .any) x1 fun x3 =>
      oCond x3 (oIdxA 2 a0 (s2.1.getD 0 .any) fun x4 =>
      oLoad (some 2) x4 s2.2 fun x5 =>
      oLendV En a1 [x5] s2.2 (fun v8 h9 => some (.inr (Ex.panic v8, [.any], h9))) fun w11 h12 => oFrz w11 h12 fun x6 h7 =>
      oCond x6 ((trim true objs.length [(s2.1.getD 0 .any)] h7).map fun p => .inr (Ex.ret, p.1, p.2))
      (oAr .add (s2.1.getD 0 .any) (.s (.int .i64 1)) fun x10 =>
      (trim true objs.length [x10] h7).map .inl))
      ((trim true objs.length [.any] s2.2).map fun p => .inr (Ex.exit 0, p.1, p.2))

def slices_IndexFunc_Sapi_Extent_api_Extent_k2 (objs : Heap) : Ex → List A → Heap → Option (Out × Heap) := fun e13 vs14 h15 =>
      (match e13 with
  | .normal => none
  | .exit i16 => if i16 = 0 then finish objs.length (.ok (.s (.int .i64 (-1)))) h15 else none
  | .ret => finish objs.length (.ok (vs14.getD 0 .any)) h15
  | .panic v17 => finish objs.length (.pan v17) h15)

/-- slices.IndexFunc[[]bailey/api.Extent,bailey/api.Extent] -/
def slices_IndexFunc_Sapi_Extent_api_Extent (En : String → CallFn) : CallFn := fun args objs =>
match args with
| [a0, a1] =>
oLen a0 fun x1 =>
      oLoop (slices_IndexFunc_Sapi_Extent_api_Extent_l1 En x1 a0 a1 objs) ([(.s (.int .i64 0))], objs) (slices_IndexFunc_Sapi_Extent_api_Extent_k2 objs)
| _ => none

/-- slices.ContainsFunc[[]bailey/api.Extent,bailey/api.Extent] -/
def slices_ContainsFunc_Sapi_Extent_api_Extent (En : String → CallFn) : CallFn := fun args objs =>
match args with
| [a0, a1] =>
oLend (slices_IndexFunc_Sapi_Extent_api_Extent En) [a0, a1] objs (fun v3 h4 => finish objs.length (.pan v3) h4) fun w6 h7 => oFrz w6 h7 fun x1 h2 =>
      oCmp .geq x1 (.s (.int .i64 0)) fun x5 =>
      finish objs.length (.ok x5) h2
| _ => none

def En_extent_meets : String → CallFn := fun n => if n = "bailey/extent.meets$1" then extent_meets_c1 else (fun _ _ => none)

/-- bailey/extent.meets -/
def extent_meets : CallFn := fun args objs =>
match args with
| [a0, a1] =>
oNew none (some 2) a1 objs fun x1 h2 =>
      oLend (slices_ContainsFunc_Sapi_Extent_api_Extent (En_extent_meets)) [a0, (.fn "bailey/extent.meets$1" [x1])] h2 (fun v5 h6 => finish objs.length (.pan v5) h6) fun w7 h8 => oFrz w7 h8 fun x3 h4 =>
      finish objs.length (.ok x3) h4
| _ => none

/-- (*bailey/extent.Map).taken -/
def extent_Map_taken : CallFn := fun args objs =>
match args with
| [a0, a1] =>
oNew none (some 2) a1 objs fun x1 h2 =>
      oLoadD h2.length [] (some 2) x1 h2 fun x3 h4 =>
      oCallF h2.length [] extent_Map_there [a0, x3] h4 fun w29 h30 => oFrz w29 h30 fun x5 h6 =>
      oGuard x5 true (fun _ => oNilCheck a0 fun x7 =>
      oFieldA 1 x7 fun x8 =>
      oLoadD h2.length [] none x8 h6 fun x9 h10 =>
      oLoadD h2.length [] (some 2) x1 h10 fun x11 h12 =>
      oCallF h2.length [] extent_meets [x9, x11] h12 fun w27 h28 => oFrz w27 h28 fun x13 h14 =>
      oNot x13 fun x15 =>
      oGuard x15 true (fun _ => oNilCheck a0 fun x16 =>
      oFieldA 2 x16 fun x17 =>
      oLoadD h2.length [] none x17 h14 fun x18 h19 =>
      oLoadD h2.length [] (some 2) x1 h19 fun x20 h21 =>
      oCallF h2.length [] extent_meets [x18, x20] h21 fun w25 h26 => oFrz w25 h26 fun x22 h23 =>
      oNot x22 fun x24 =>
      finish objs.length (.ok x24) h23)
      (fun _ => finish objs.length (.ok (.s (.bool false))) h14))
      (fun _ => finish objs.length (.ok (.s (.bool false))) h6)
| _ => none

def extent_put_k1 (s5 : List A × Heap) : Ex → List A → Heap → Option (Ex × List A × Heap) := fun e18 vs16 h17 =>
      (match e18 with
  | .normal => oCond (vs16.getD 0 .any) ((trim true s5.2.length [(vs16.getD 0 .any)] h17).map fun p => (Ex.normal, p.1, p.2))
      ((trim true s5.2.length [(vs16.getD 0 .any)] h17).map fun p => (Ex.exit 0, p.1, p.2))
  | .exit i19 => (trim true s5.2.length [(vs16.getD 0 .any)] h17).map fun p => (Ex.exit i19, p.1, p.2)
  | .ret => (trim true s5.2.length [(vs16.getD 0 .any)] h17).map fun p => (Ex.ret, p.1, p.2)
  | .panic v20 => some (Ex.panic v20, [], h17))

def extent_put_k2 (s5 : List A × Heap) (h4 : Heap) : Ex → List A → Heap → Option ((List A × Heap) ⊕ (Ex × List A × Heap)) := fun e23 vs21 h22 =>
      (match e23 with
  | .normal => oAr .add (s5.1.getD 0 .any) (.s (.int .i64 1)) fun x26 =>
      (trim true h4.length [x26] h22).map .inl
  | .exit i24 => (trim true h4.length [(s5.1.getD 0 .any)] h22).map fun p => .inr (Ex.exit i24, p.1, p.2)
  | .ret => (trim true h4.length [(s5.1.getD 0 .any)] h22).map fun p => .inr (Ex.ret, p.1, p.2)
  | .panic v25 => some (.inr (Ex.panic v25, [.any], h22)))

def extent_put_l3 (x3 : A) (x1 : A) (h4 : Heap) : List A × Heap → Option ((List A × Heap) ⊕ (Ex × List A × Heap)) := fun s5 =>
      oJoin (oJoin (oLen x3 fun x6 =>
      oCmp .lss (s5.1.getD 0 .any) x6 fun x7 =>
      oGuard x7 true (fun _ => oIdxA 2 x3 (s5.1.getD 0 .any) fun x8 =>
      oFieldA 0 x8 fun x9 =>
      oLoadD s5.2.length [] none x9 s5.2 fun x10 h11 =>
      oFieldA 0 x1 fun x12 =>
      oLoadD s5.2.length [] none x12 h11 fun x13 h14 =>
      oCmp .lss x10 x13 fun x15 =>
      (trim true s5.2.length [x15] h14).map fun p => (Ex.normal, p.1, p.2))
      (fun _ => (trim true s5.2.length [(.s (.bool false))] s5.2).map fun p => (Ex.normal, p.1, p.2))) (extent_put_k1 s5)) (extent_put_k2 s5 h4)

def extent_put_k4 (x35 : A) (vs28 : List A) (h36 : Heap) : Ex → List A → Heap → Option (Ex × List A × Heap) := fun e57 vs55 h56 =>
      (match e57 with
  | .normal => oCond (vs55.getD 0 .any) (oIdxA 2 x35 (vs28.getD 0 .any) fun x60 =>
      oFieldA 1 x60 fun x61 =>
      oLoadD h56.length [] none x61 h56 fun x62 h63 =>
      oAr .add (vs28.getD 0 .any) (.s (.int .i64 1)) fun x64 =>
      oIdxA 2 x35 x64 fun x65 =>
      oFieldA 1 x65 fun x66 =>
      oLoadD h56.length [] none x66 h63 fun x67 h68 =>
      oAr .add x62 x67 fun x69 =>
      oIdxA 2 x35 (vs28.getD 0 .any) fun x70 =>
      oFieldA 1 x70 fun x71 =>
      oStore none x71 x69 h68 fun h72 =>
      oAr .add (vs28.getD 0 .any) (.s (.int .i64 1)) fun x73 =>
      oAr .add (vs28.getD 0 .any) (.s (.int .i64 2)) fun x74 =>
      oCall (primDelete 2 16) [x35, x73, x74] h72 (fun v77 h78 => some (Ex.panic v77, [], h78)) fun x75 h76 =>
      (trim true h36.length [x75] h76).map fun p => (Ex.normal, p.1, p.2))
      ((trim true h36.length [x35] h56).map fun p => (Ex.normal, p.1, p.2))
  | .exit i58 => (trim true h36.length [x35] h56).map fun p => (Ex.exit i58, p.1, p.2)
  | .ret => (trim true h36.length [x35] h56).map fun p => (Ex.ret, p.1, p.2)
  | .panic v59 => some (Ex.panic v59, [], h56))

def extent_put_k5 (vs28 : List A) (vs79 : List A) (h80 : Heap) : Ex → List A → Heap → Option (Ex × List A × Heap) := fun e100 vs98 h99 =>
      (match e100 with
  | .normal => oCond (vs98.getD 0 .any) (oAr .sub (vs28.getD 0 .any) (.s (.int .i64 1)) fun x103 =>
      oIdxA 2 (vs79.getD 0 .any) x103 fun x104 =>
      oFieldA 1 x104 fun x105 =>
      oLoadD h99.length [] none x105 h99 fun x106 h107 =>
      oIdxA 2 (vs79.getD 0 .any) (vs28.getD 0 .any) fun x108 =>
      oFieldA 1 x108 fun x109 =>
      oLoadD h99.length [] none x109 h107 fun x110 h111 =>
      oAr .add x106 x110 fun x112 =>
      oIdxA 2 (vs79.getD 0 .any) x103 fun x113 =>
      oFieldA 1 x113 fun x114 =>
      oStore none x114 x112 h111 fun h115 =>
      oAr .add (vs28.getD 0 .any) (.s (.int .i64 1)) fun x116 =>
      oCall (primDelete 2 16) [(vs79.getD 0 .any), (vs28.getD 0 .any), x116] h115 (fun v119 h120 => some (Ex.panic v119, [], h120)) fun x117 h118 =>
      (trim true h80.length [x117] h118).map fun p => (Ex.normal, p.1, p.2))
      ((trim true h80.length [(vs79.getD 0 .any)] h99).map fun p => (Ex.normal, p.1, p.2))
  | .exit i101 => (trim true h80.length [(vs79.getD 0 .any)] h99).map fun p => (Ex.exit i101, p.1, p.2)
  | .ret => (trim true h80.length [(vs79.getD 0 .any)] h99).map fun p => (Ex.ret, p.1, p.2)
  | .panic v102 => some (Ex.panic v102, [], h99))

def extent_put_k6 (objs : Heap) : Ex → List A → Heap → Option (Out × Heap) := fun e123 vs121 h122 =>
      (match e123 with
  | .normal => finish objs.length (.ok (vs121.getD 0 .any)) h122
  | .exit i124 => none
  | .ret => finish objs.length (.ok (.s (.slice none 0 0))) h122
  | .panic v125 => finish objs.length (.pan v125) h122)

def extent_put_k7 (vs28 : List A) (objs : Heap) : Ex → List A → Heap → Option (Out × Heap) := fun e81 vs79 h80 =>
      (match e81 with
  | .normal => oJoin (oJoin (oCmp .gtr (vs28.getD 0 .any) (.s (.int .i64 0)) fun x84 =>
      oGuard x84 true (fun _ => oAr .sub (vs28.getD 0 .any) (.s (.int .i64 1)) fun x85 =>
      oIdxA 2 (vs79.getD 0 .any) x85 fun x86 =>
      oLoadD h80.length [] (some 2) x86 h80 fun x87 h88 =>
      oCallF h80.length [] extent_end [x87] h88 fun w96 h97 => oFrz w96 h97 fun x89 h90 =>
      oIdxA 2 (vs79.getD 0 .any) (vs28.getD 0 .any) fun x91 =>
      oFieldA 0 x91 fun x92 =>
      oLoadD h80.length [] none x92 h90 fun x93 h94 =>
      oCmp .eql x89 x93 fun x95 =>
      (trim true h80.length [x95] h94).map fun p => (Ex.normal, p.1, p.2))
      (fun _ => (trim true h80.length [(.s (.bool false))] h80).map fun p => (Ex.normal, p.1, p.2))) (extent_put_k5 vs28 vs79 h80)) (extent_put_k6 objs)
  | .exit i82 => none
  | .ret => finish objs.length (.ok (.s (.slice none 0 0))) h80
  | .panic v83 => finish objs.length (.pan v83) h80)

def extent_put_k8 (x1 : A) (x3 : A) (objs : Heap) : Ex → List A → Heap → Option (Out × Heap) := fun e27 vs28 h29 =>
      (match e27 with
  | .normal => none
  | .exit i30 => if i30 = 0 then oLoad (some 2) x1 h29 fun x32 =>
      oNewSlice none 2 (asRows (some 2) [x32]) h29 fun x33 h34 =>
      oCall (primInsert 2 16) [x3, (vs28.getD 0 .any), x33] h34 (fun v37 h38 => finish objs.length (.pan v37) h38) fun x35 h36 =>
      oJoin (oJoin (oAr .add (vs28.getD 0 .any) (.s (.int .i64 1)) fun x39 =>
      oLen x35 fun x40 =>
      oCmp .lss x39 x40 fun x41 =>
      oGuard x41 true (fun _ => oIdxA 2 x35 (vs28.getD 0 .any) fun x42 =>
      oLoadD h36.length [] (some 2) x42 h36 fun x43 h44 =>
      oCallF h36.length [] extent_end [x43] h44 fun w53 h54 => oFrz w53 h54 fun x45 h46 =>
      oAr .add (vs28.getD 0 .any) (.s (.int .i64 1)) fun x47 =>
      oIdxA 2 x35 x47 fun x48 =>
      oFieldA 0 x48 fun x49 =>
      oLoadD h36.length [] none x49 h46 fun x50 h51 =>
      oCmp .eql x45 x50 fun x52 =>
      (trim true h36.length [x52] h51).map fun p => (Ex.normal, p.1, p.2))
      (fun _ => (trim true h36.length [(.s (.bool false))] h36).map fun p => (Ex.normal, p.1, p.2))) (extent_put_k4 x35 vs28 h36)) (extent_put_k7 vs28 objs) else none
  | .ret => finish objs.length (.ok (.s (.slice none 0 0))) h29
  | .panic v31 => finish objs.length (.pan v31) h29)

/-- bailey/extent.put -/
def extent_put : CallFn := fun args objs =>
match args with
| [a0, a1] =>
oNew none (some 2) a1 objs fun x1 h2 =>
      oProm 2 a0 h2 fun x3 h4 =>
      oLoop (extent_put_l3 x3 x1 h4) ([(.s (.int .i64 0))], h4) (extent_put_k8 x1 x3 objs)
| _ => none

/-- (*bailey/extent.Map).Free -/
def extent_Map_Free : CallFn := fun args objs =>
match args with
| [a0, a1] =>
oNew none (some 2) a1 objs fun x1 h2 =>
      oLoad (some 2) x1 h2 fun x3 =>
      oLend extent_Map_taken [a0, x3] h2 (fun v6 h7 => finish objs.length (.pan v6) h7) fun w20 h21 => oFrz w20 h21 fun x4 h5 =>
      oNot x4 fun x8 =>
      oCond x8 (finish objs.length (.ok (.s (.int .i64 72))) h5)
      (oNilCheck a0 fun x9 =>
      oFieldA 1 x9 fun x10 =>
      oLoadD h5.length [] none x10 h5 fun x11 h12 =>
      oLoadD h5.length [] (some 2) x1 h12 fun x13 h14 =>
      oCall extent_put [x11, x13] h14 (fun _ _ => none) fun x15 h16 =>
      oNilCheck a0 fun x17 =>
      oFieldA 1 x17 fun x18 =>
      oStore none x18 x15 h16 fun h19 =>
      finish objs.length (.ok (.s (.int .i64 0))) h19)
| _ => none

def extent_Map_Count_l1 (x4 : A) (x3 : A) (objs : Heap) : List A × Heap → Option ((List A × Heap) ⊕ (Ex × List A × Heap)) := fun s5 =>
      oCmp .lss (s5.1.getD 1 .any) x4 fun x6 =>
      oCond x6 (oIdxA 2 x3 (s5.1.getD 1 .any) fun x7 =>
      oLoad (some 2) x7 s5.2 fun x8 =>
      oNew none (some 2) (.agg [.s (.int .i64 0), .s (.int .i64 0)]) s5.2 fun x9 h10 =>
      oStore (some 2) x9 x8 h10 fun h11 =>
      oFieldA 1 x9 fun x12 =>
      oLoad none x12 h11 fun x13 =>
      oAr .add (s5.1.getD 0 .any) x13 fun x14 =>
      oAr .add (s5.1.getD 1 .any) (.s (.int .i64 1)) fun x15 =>
      (trim true objs.length [x14, x15] h11).map .inl)
      ((trim true objs.length [(s5.1.getD 0 .any)] s5.2).map fun p => .inr (Ex.exit 0, p.1, p.2))

def extent_Map_Count_k2 (objs : Heap) : Ex → List A → Heap → Option (Out × Heap) := fun e16 vs17 h18 =>
      (match e16 with
  | .normal => none
  | .exit i19 => if i19 = 0 then finish objs.length (.ok (vs17.getD 0 .any)) h18 else none
  | .ret => finish objs.length (.ok (.s (.int .i64 0))) h18
  | .panic v20 => finish objs.length (.pan v20) h18)

/-- (*bailey/extent.Map).Count -/
def extent_Map_Count : CallFn := fun args objs =>
match args with
| [a0] =>
oNilCheck a0 fun x1 =>
      oFieldA 1 x1 fun x2 =>
      oLoad none x2 objs fun x3 =>
      oLen x3 fun x4 =>
      oLoop (extent_Map_Count_l1 x4 x3 objs) ([(.s (.int .i64 0)), (.s (.int .i64 0))], objs) (extent_Map_Count_k2 objs)
| _ => none

/-- bailey/baileylaw07.extentAlive -/
def law07_extentAlive : CallFn := fun args objs =>
match args with
| [] =>
oLend extent_New [(.s (.int .i64 10))] objs (fun v3 h4 => finish objs.length (.pan v3) h4) fun x1 h2 =>
      oEqNil false x1 (.s (.pointer none)) fun x5 =>
      oCond x5 (finish objs.length (.ok (.s (.bool false))) h2)
      (oCall extent_Map_Alloc [x1, (.s (.int .i64 4))] h2 (fun v8 h9 => finish objs.length (.pan v8) h9) fun w53 h54 => oFrz w53 h54 fun x6 h7 =>
      oExtract 0 x6 fun x10 =>
      oExtract 1 x6 fun x11 =>
      oNew none (some 2) (.agg [.s (.int .i64 0), .s (.int .i64 0)]) h7 fun x12 h13 =>
      oStore (some 2) x12 x10 h13 fun h14 =>
      oCall extent_Map_Alloc [x1, (.s (.int .i64 4))] h14 (fun v17 h18 => finish objs.length (.pan v17) h18) fun w51 h52 => oFrz w51 h52 fun x15 h16 =>
      oLoad (some 2) x12 h16 fun x19 =>
      oCall extent_Map_Free [x1, x19] h16 (fun v22 h23 => finish objs.length (.pan v22) h23) fun w49 h50 => oFrz w49 h50 fun x20 h21 =>
      oCall extent_Map_Alloc [x1, (.s (.int .i64 5))] h21 (fun v26 h27 => finish objs.length (.pan v26) h27) fun w47 h48 => oFrz w47 h48 fun x24 h25 =>
      oExtract 0 x24 fun x28 =>
      oExtract 1 x24 fun x29 =>
      oNew none (some 2) (.agg [.s (.int .i64 0), .s (.int .i64 0)]) h25 fun x30 h31 =>
      oStore (some 2) x30 x28 h31 fun h32 =>
      oLoad (some 2) x12 h32 fun x33 =>
      oBuildP [.s (.int .i64 0), .s (.int .i64 0)] [(0, none, (.s (.int .i64 0))), (1, none, (.s (.int .i64 4)))] fun x34 =>
      oEqAgg [true, true] false x33 x34 fun x35 =>
      oGuard x35 true (fun _ => oCmp .eql x29 (.s (.int .i64 0)) fun x36 =>
      oGuard x36 true (fun _ => oLoad (some 2) x30 h32 fun x37 =>
      oLoad (some 2) x12 h32 fun x38 =>
      oEqAgg [true, true] false x37 x38 fun x39 =>
      oGuard x39 true (fun _ => oLend extent_Map_Count [x1] h32 (fun v42 h43 => finish objs.length (.pan v42) h43) fun w45 h46 => oFrz w45 h46 fun x40 h41 =>
      oCmp .eql x40 (.s (.int .i64 2)) fun x44 =>
      finish objs.length (.ok x44) h41)
      (fun _ => finish objs.length (.ok (.s (.bool false))) h32))
      (fun _ => finish objs.length (.ok (.s (.bool false))) h32))
      (fun _ => finish objs.length (.ok (.s (.bool false))) h32))
| _ => none

/-- (*bailey/extent.Map).Later -/
def extent_Map_Later : CallFn := fun args objs =>
match args with
| [a0, a1] =>
oNew none (some 2) a1 objs fun x1 h2 =>
      oLoad (some 2) x1 h2 fun x3 =>
      oLend extent_Map_taken [a0, x3] h2 (fun v6 h7 => finish objs.length (.pan v6) h7) fun w20 h21 => oFrz w20 h21 fun x4 h5 =>
      oNot x4 fun x8 =>
      oCond x8 (finish objs.length (.ok (.s (.int .i64 72))) h5)
      (oNilCheck a0 fun x9 =>
      oFieldA 2 x9 fun x10 =>
      oLoadD h5.length [] none x10 h5 fun x11 h12 =>
      oLoadD h5.length [] (some 2) x1 h12 fun x13 h14 =>
      oCall extent_put [x11, x13] h14 (fun _ _ => none) fun x15 h16 =>
      oNilCheck a0 fun x17 =>
      oFieldA 2 x17 fun x18 =>
      oStore none x18 x15 h16 fun h19 =>
      finish objs.length (.ok (.s (.int .i64 0))) h19)
| _ => none

/-- bailey/extent.within$1 -/
def extent_within_c1 : CallFn := fun args objs =>
match args with
| [a0, a1] =>
oNew none (some 2) a0 objs fun x1 h2 =>
      oFieldA 0 x1 fun x3 =>
      oLoadD h2.length [] none x3 h2 fun x4 h5 =>
      oFieldA 0 a1 fun x6 =>
      oLoadD h2.length [] none x6 h5 fun x7 h8 =>
      oCmp .leq x4 x7 fun x9 =>
      oGuard x9 true (fun _ => oLoadD h2.length [] (some 2) a1 h8 fun x10 h11 =>
      oCallF h2.length [] extent_end [x10] h11 fun w21 h22 => oFrz w21 h22 fun x12 h13 =>
      oLoadD h2.length [] (some 2) x1 h13 fun x14 h15 =>
      oCallF h2.length [] extent_end [x14] h15 fun w19 h20 => oFrz w19 h20 fun x16 h17 =>
      oCmp .leq x12 x16 fun x18 =>
      finish objs.length (.ok x18) h17)
      (fun _ => finish objs.length (.ok (.s (.bool false))) h8)
| _ => none

def En_extent_within : String → CallFn := fun n => if n = "bailey/extent.within$1" then extent_within_c1 else (fun _ _ => none)

/-- bailey/extent.within -/
def extent_within : CallFn := fun args objs =>
match args with
| [a0, a1] =>
oNew none (some 2) a1 objs fun x1 h2 =>
      oLend (slices_ContainsFunc_Sapi_Extent_api_Extent (En_extent_within)) [a0, (.fn "bailey/extent.within$1" [x1])] h2 (fun v5 h6 => finish objs.length (.pan v5) h6) fun w7 h8 => oFrz w7 h8 fun x3 h4 =>
      finish objs.length (.ok x3) h4
| _ => none

def extent_Map_Take_k1 (objs : Heap) (a0 : A) (x1 : A) : Ex → List A → Heap → Option (Out × Heap) := fun e23 vs21 h22 =>
      (match e23 with
  | .normal => oCond (vs21.getD 0 .any) (finish objs.length (.ok (.s (.int .i64 72))) h22)
      (oNilCheck a0 fun x26 =>
      oFieldA 1 x26 fun x27 =>
      oLoadD h22.length [] none x27 h22 fun x28 h29 =>
      oLoadD h22.length [] (some 2) x1 h29 fun x30 h31 =>
      oCallF h22.length [] extent_cut [x28, x30] h31 fun x32 h33 =>
      oNilCheck a0 fun x34 =>
      oFieldA 1 x34 fun x35 =>
      oStore none x35 x32 h33 fun h36 =>
      finish objs.length (.ok (.s (.int .i64 0))) h36)
  | .exit i24 => none
  | .ret => finish objs.length (.ok (.s (.int .i64 0))) h22
  | .panic v25 => finish objs.length (.pan v25) h22)

/-- (*bailey/extent.Map).Take -/
def extent_Map_Take : CallFn := fun args objs =>
match args with
| [a0, a1] =>
oNew none (some 2) a1 objs fun x1 h2 =>
      oJoin (oLoadD h2.length [] (some 2) x1 h2 fun x3 h4 =>
      oCallF h2.length [] extent_Map_there [a0, x3] h4 fun w19 h20 => oFrz w19 h20 fun x5 h6 =>
      oNot x5 fun x7 =>
      oGuard x7 false (fun _ => oNilCheck a0 fun x8 =>
      oFieldA 1 x8 fun x9 =>
      oLoadD h2.length [] none x9 h6 fun x10 h11 =>
      oLoadD h2.length [] (some 2) x1 h11 fun x12 h13 =>
      oCallF h2.length [] extent_within [x10, x12] h13 fun w17 h18 => oFrz w17 h18 fun x14 h15 =>
      oNot x14 fun x16 =>
      (trim true h2.length [x16] h15).map fun p => (Ex.normal, p.1, p.2))
      (fun _ => (trim true h2.length [(.s (.bool true))] h6).map fun p => (Ex.normal, p.1, p.2))) (extent_Map_Take_k1 objs a0 x1)
| _ => none

def extent_Map_All_l1 (a0 : A) (h7 : Heap) : List A × Heap → Option ((List A × Heap) ⊕ (Ex × List A × Heap)) := fun s8 =>
      oCmp .gtr (s8.1.getD 0 .any) (.s (.int .i64 0)) fun x9 =>
      oCond x9 (oCall extent_Map_Alloc [a0, (s8.1.getD 0 .any)] s8.2 (fun v12 h13 => some (.inr (Ex.panic v12, [.any], h13))) fun w27 h28 => oFrz w27 h28 fun x10 h11 =>
      oExtract 0 x10 fun x14 =>
      oExtract 1 x10 fun x15 =>
      oNew none (some 2) (.agg [.s (.int .i64 0), .s (.int .i64 0)]) h11 fun x16 h17 =>
      oStore (some 2) x16 x14 h17 fun h18 =>
      oLoad (some 2) x16 h18 fun x19 =>
      oNewSlice none 2 (asRows (some 2) [x19]) h18 fun x20 h21 =>
      oAppend none 2 16 (s8.1.getD 1 .any) x20 h21 fun x22 h23 =>
      oFieldA 1 x16 fun x24 =>
      oLoad none x24 h23 fun x25 =>
      oAr .sub (s8.1.getD 0 .any) x25 fun x26 =>
      (trim true h7.length [x26, x22] h23).map .inl)
      ((trim true h7.length [(s8.1.getD 1 .any)] s8.2).map fun p => .inr (Ex.exit 0, p.1, p.2))

def extent_Map_All_k2 (objs : Heap) : Ex → List A → Heap → Option (Out × Heap) := fun e29 vs30 h31 =>
      (match e29 with
  | .normal => none
  | .exit i32 => if i32 = 0 then finish objs.length (.ok (.tup [(vs30.getD 0 .any), (.s (.int .i64 0))])) h31 else none
  | .ret => finish objs.length (.ok (.tup [(.s (.slice none 0 0)), (.s (.int .i64 0))])) h31
  | .panic v33 => finish objs.length (.pan v33) h31)

/-- (*bailey/extent.Map).All -/
def extent_Map_All : CallFn := fun args objs =>
match args with
| [a0, a1] =>
oLend extent_Map_Count [a0] objs (fun v3 h4 => finish objs.length (.pan v3) h4) fun w34 h35 => oFrz w34 h35 fun x1 h2 =>
      oCmp .gtr a1 x1 fun x5 =>
      oCond x5 (finish objs.length (.ok (.tup [(.s (.slice none 0 0)), (.s (.int .i64 73))])) h2)
      (oProm 2 (.s (.slice none 0 0)) h2 fun x6 h7 =>
      oLoop (extent_Map_All_l1 a0 h7) ([a1, x6], h7) (extent_Map_All_k2 objs))
| _ => none

def extent_Map_Commit_l1 (x4 : A) (x3 : A) (a0 : A) (objs : Heap) : List A × Heap → Option ((List A × Heap) ⊕ (Ex × List A × Heap)) := fun s5 =>
      oCmp .lss (s5.1.getD 0 .any) x4 fun x6 =>
      oCond x6 (oIdxA 2 x3 (s5.1.getD 0 .any) fun x7 =>
      oLoad (some 2) x7 s5.2 fun x8 =>
      oNew none (some 2) (.agg [.s (.int .i64 0), .s (.int .i64 0)]) s5.2 fun x9 h10 =>
      oStore (some 2) x9 x8 h10 fun h11 =>
      oNilCheck a0 fun x12 =>
      oFieldA 1 x12 fun x13 =>
      oLoadD h11.length [] none x13 h11 fun x14 h15 =>
      oLoadD h11.length [] (some 2) x9 h15 fun x16 h17 =>
      oCall extent_put [x14, x16] h17 (fun _ _ => none) fun x18 h19 =>
      oNilCheck a0 fun x20 =>
      oFieldA 1 x20 fun x21 =>
      oStore none x21 x18 h19 fun h22 =>
      oAr .add (s5.1.getD 0 .any) (.s (.int .i64 1)) fun x23 =>
      (trim true objs.length [x23] h22).map .inl)
      ((trim true objs.length [] s5.2).map fun p => .inr (Ex.exit 0, p.1, p.2))

def extent_Map_Commit_k2 (a0 : A) (objs : Heap) : Ex → List A → Heap → Option (Out × Heap) := fun e24 vs25 h26 =>
      (match e24 with
  | .normal => none
  | .exit i27 => if i27 = 0 then oNilCheck a0 fun x29 =>
      oFieldA 2 x29 fun x30 =>
      oStore none x30 (.s (.slice none 0 0)) h26 fun h31 =>
      finish objs.length (.ok (.s (.tuple #[]))) h31 else none
  | .ret => finish objs.length (.ok (.s (.tuple #[]))) h26
  | .panic v28 => finish objs.length (.pan v28) h26)

/-- (*bailey/extent.Map).Commit -/
def extent_Map_Commit : CallFn := fun args objs =>
match args with
| [a0] =>
oNilCheck a0 fun x1 =>
      oFieldA 2 x1 fun x2 =>
      oLoad none x2 objs fun x3 =>
      oLen x3 fun x4 =>
      oLoop (extent_Map_Commit_l1 x4 x3 a0 objs) ([(.s (.int .i64 0))], objs) (extent_Map_Commit_k2 a0 objs)
| _ => none

/-- (*bailey/extent.Map).List -/
def extent_Map_List : CallFn := fun args objs =>
match args with
| [a0] =>
oNilCheck a0 fun x1 =>
      oFieldA 1 x1 fun x2 =>
      oLoad none x2 objs fun x3 =>
      oLend (primClone 2 16) [x3] objs (fun v6 h7 => finish objs.length (.pan v6) h7) fun x4 h5 =>
      finish objs.length (.ok x4) h5
| _ => none

def ref07_Same_l1 (x4 : A) (a0 : A) (a1 : A) (objs : Heap) : List A × Heap → Option ((List A × Heap) ⊕ (Ex × List A × Heap)) := fun s5 =>
      oCmp .lss (s5.1.getD 0 .any) x4 fun x6 =>
      oCond x6 (oIdxA 2 a0 (s5.1.getD 0 .any) fun x7 =>
      oLoadD s5.2.length [] (some 2) x7 s5.2 fun x8 h9 =>
      oIdxA 2 a1 (s5.1.getD 0 .any) fun x10 =>
      oLoadD s5.2.length [] (some 2) x10 h9 fun x11 h12 =>
      oEqAgg [true, true] true x8 x11 fun x13 =>
      oCond x13 ((trim true objs.length [(.s (.bool false))] h12).map fun p => .inr (Ex.ret, p.1, p.2))
      (oAr .add (s5.1.getD 0 .any) (.s (.int .i64 1)) fun x14 =>
      (trim true objs.length [x14] h12).map .inl))
      ((trim true objs.length [.any] s5.2).map fun p => .inr (Ex.exit 0, p.1, p.2))

def ref07_Same_k2 (objs : Heap) : Ex → List A → Heap → Option (Out × Heap) := fun e15 vs16 h17 =>
      (match e15 with
  | .normal => none
  | .exit i18 => if i18 = 0 then finish objs.length (.ok (.s (.bool true))) h17 else none
  | .ret => finish objs.length (.ok (vs16.getD 0 .any)) h17
  | .panic v19 => finish objs.length (.pan v19) h17)

/-- bailey/baileyref07.Same -/
def ref07_Same : CallFn := fun args objs =>
match args with
| [a0, a1] =>
oLen a0 fun x1 =>
      oLen a1 fun x2 =>
      oCmp .neq x1 x2 fun x3 =>
      oCond x3 (finish objs.length (.ok (.s (.bool false))) objs)
      (oLen a0 fun x4 =>
      oLoop (ref07_Same_l1 x4 a0 a1 objs) ([(.s (.int .i64 0))], objs) (ref07_Same_k2 objs))
| _ => none

/-- (*bailey/extent.Map).Waiting -/
def extent_Map_Waiting : CallFn := fun args objs =>
match args with
| [a0] =>
oNilCheck a0 fun x1 =>
      oFieldA 2 x1 fun x2 =>
      oLoad none x2 objs fun x3 =>
      oLend (primClone 2 16) [x3] objs (fun v6 h7 => finish objs.length (.pan v6) h7) fun x4 h5 =>
      finish objs.length (.ok x4) h5
| _ => none

def law07_ExtentWaits_l1 (x108 : A) (x93 : A) (x6 : A) (h104 : Heap) : List A × Heap → Option ((List A × Heap) ⊕ (Ex × List A × Heap)) := fun s109 =>
      oCmp .lss (s109.1.getD 0 .any) x108 fun x110 =>
      oCond x110 (oIdxA 2 x93 (s109.1.getD 0 .any) fun x111 =>
      oLoad (some 2) x111 s109.2 fun x112 =>
      oNew none (some 2) (.agg [.s (.int .i64 0), .s (.int .i64 0)]) s109.2 fun x113 h114 =>
      oStore (some 2) x113 x112 h114 fun h115 =>
      oLoad (some 2) x113 h115 fun x116 =>
      oCall extent_Map_Free [x6, x116] h115 (fun v119 h120 => some (.inr (Ex.panic v119, [.any], h120))) fun w123 h124 => oFrz w123 h124 fun x117 h118 =>
      oCmp .neq x117 (.s (.int .i64 0)) fun x121 =>
      oCond x121 ((trim true h104.length [(.s (.bool false))] h118).map fun p => .inr (Ex.ret, p.1, p.2))
      (oAr .add (s109.1.getD 0 .any) (.s (.int .i64 1)) fun x122 =>
      (trim true h104.length [x122] h118).map .inl))
      ((trim true h104.length [.any] s109.2).map fun p => .inr (Ex.exit 0, p.1, p.2))

def law07_ExtentWaits_k2 (x6 : A) (objs : Heap) (a0 : A) : Ex → List A → Heap → Option (Out × Heap) := fun e125 vs126 h127 =>
      (match e125 with
  | .normal => none
  | .exit i128 => if i128 = 0 then oCall extent_Map_Commit [x6] h127 (fun v132 h133 => finish objs.length (.pan v132) h133) fun w157 h158 => oFrz w157 h158 fun x130 h131 =>
      oLend extent_Map_List [x6] h131 (fun v136 h137 => finish objs.length (.pan v136) h137) fun w155 h156 => oFrz w155 h156 fun x134 h135 =>
      oBuildP [.s (.int .i64 0), .s (.int .i64 0)] [(0, none, (.s (.int .i64 0))), (1, none, a0)] fun x138 =>
      oNewSlice none 2 (asRows (some 2) [x138]) h135 fun x139 h140 =>
      oLend ref07_Same [x134, x139] h140 (fun v143 h144 => finish objs.length (.pan v143) h144) fun w153 h154 => oFrz w153 h154 fun x141 h142 =>
      oGuard x141 true (fun _ => oLend extent_Map_Waiting [x6] h142 (fun v147 h148 => finish objs.length (.pan v147) h148) fun w151 h152 => oFrz w151 h152 fun x145 h146 =>
      oLen x145 fun x149 =>
      oCmp .eql x149 (.s (.int .i64 0)) fun x150 =>
      finish objs.length (.ok x150) h146)
      (fun _ => finish objs.length (.ok (.s (.bool false))) h142) else none
  | .ret => finish objs.length (.ok (vs126.getD 0 .any)) h127
  | .panic v129 => finish objs.length (.pan v129) h127)

def law07_ExtentWaits_k3 (objs : Heap) (x93 : A) (x6 : A) (a0 : A) : Ex → List A → Heap → Option (Out × Heap) := fun e105 vs103 h104 =>
      (match e105 with
  | .normal => oCond (vs103.getD 0 .any) (finish objs.length (.ok (.s (.bool false))) h104)
      (oLen x93 fun x108 =>
      oLoop (law07_ExtentWaits_l1 x108 x93 x6 h104) ([(.s (.int .i64 0))], h104) (law07_ExtentWaits_k2 x6 objs a0))
  | .exit i106 => none
  | .ret => finish objs.length (.ok (.s (.bool false))) h104
  | .panic v107 => finish objs.length (.pan v107) h104)

def law07_ExtentWaits_k4 (objs : Heap) (a0 : A) (a1 : A) (x6 : A) : Ex → List A → Heap → Option (Out × Heap) := fun e76 vs74 h75 =>
      (match e76 with
  | .normal => oCond (vs74.getD 0 .any) (finish objs.length (.ok (.s (.bool false))) h75)
      (oAr .sub a0 a1 fun x79 =>
      oAr .add x79 (.s (.int .i64 1)) fun x80 =>
      oCall extent_Map_All [x6, x80] h75 (fun v83 h84 => finish objs.length (.pan v83) h84) fun w161 h162 => oFrz w161 h162 fun x81 h82 =>
      oExtract 0 x81 fun x85 =>
      oExtract 1 x81 fun x86 =>
      oCmp .neq x86 (.s (.int .i64 73)) fun x87 =>
      oCond x87 (finish objs.length (.ok (.s (.bool false))) h82)
      (oAr .sub a0 a1 fun x88 =>
      oCall extent_Map_All [x6, x88] h82 (fun v91 h92 => finish objs.length (.pan v91) h92) fun w159 h160 => oFrz w159 h160 fun x89 h90 =>
      oExtract 0 x89 fun x93 =>
      oExtract 1 x89 fun x94 =>
      oJoin (oCmp .neq x94 (.s (.int .i64 0)) fun x95 =>
      oGuard x95 false (fun _ => oLend extent_Map_Count [x6] h90 (fun v98 h99 => some (Ex.panic v98, [], h99)) fun w101 h102 => oFrz w101 h102 fun x96 h97 =>
      oCmp .neq x96 (.s (.int .i64 0)) fun x100 =>
      (trim true h90.length [x100] h97).map fun p => (Ex.normal, p.1, p.2))
      (fun _ => (trim true h90.length [(.s (.bool true))] h90).map fun p => (Ex.normal, p.1, p.2))) (law07_ExtentWaits_k3 objs x93 x6 a0)))
  | .exit i77 => none
  | .ret => finish objs.length (.ok (.s (.bool false))) h75
  | .panic v78 => finish objs.length (.pan v78) h75)

def law07_ExtentWaits_k5 (x6 : A) (objs : Heap) (a1 : A) (a0 : A) : Ex → List A → Heap → Option (Out × Heap) := fun e17 vs15 h16 =>
      (match e17 with
  | .normal => oCond (vs15.getD 0 .any) (oEqNil true x6 (.s (.pointer none)) fun x20 =>
      finish objs.length (.ok x20) h16)
      (oCall extent_Map_Alloc [x6, a1] h16 (fun v23 h24 => finish objs.length (.pan v23) h24) fun w163 h164 => oFrz w163 h164 fun x21 h22 =>
      oExtract 0 x21 fun x25 =>
      oExtract 1 x21 fun x26 =>
      oNew none (some 2) (.agg [.s (.int .i64 0), .s (.int .i64 0)]) h22 fun x27 h28 =>
      oStore (some 2) x27 x25 h28 fun h29 =>
      oJoin (oCmp .neq x26 (.s (.int .i64 0)) fun x30 =>
      oGuard x30 false (fun _ => oFieldA 1 x27 fun x31 =>
      oLoad none x31 h29 fun x32 =>
      oCmp .neq x32 a1 fun x33 =>
      oGuard x33 false (fun _ => oLoad (some 2) x27 h29 fun x34 =>
      oCall extent_Map_Later [x6, x34] h29 (fun v37 h38 => some (Ex.panic v37, [], h38)) fun w72 h73 => oFrz w72 h73 fun x35 h36 =>
      oCmp .neq x35 (.s (.int .i64 0)) fun x39 =>
      oGuard x39 false (fun _ => oLoad (some 2) x27 h36 fun x40 =>
      oCall extent_Map_Later [x6, x40] h36 (fun v43 h44 => some (Ex.panic v43, [], h44)) fun w70 h71 => oFrz w70 h71 fun x41 h42 =>
      oCmp .neq x41 (.s (.int .i64 72)) fun x45 =>
      oGuard x45 false (fun _ => oLoad (some 2) x27 h42 fun x46 =>
      oCall extent_Map_Free [x6, x46] h42 (fun v49 h50 => some (Ex.panic v49, [], h50)) fun w68 h69 => oFrz w68 h69 fun x47 h48 =>
      oCmp .neq x47 (.s (.int .i64 72)) fun x51 =>
      oGuard x51 false (fun _ => oLoad (some 2) x27 h48 fun x52 =>
      oCall extent_Map_Take [x6, x52] h48 (fun v55 h56 => some (Ex.panic v55, [], h56)) fun w66 h67 => oFrz w66 h67 fun x53 h54 =>
      oCmp .neq x53 (.s (.int .i64 72)) fun x57 =>
      oGuard x57 false (fun _ => oLend extent_Map_Count [x6] h54 (fun v60 h61 => some (Ex.panic v60, [], h61)) fun w64 h65 => oFrz w64 h65 fun x58 h59 =>
      oAr .sub a0 a1 fun x62 =>
      oCmp .neq x58 x62 fun x63 =>
      (trim true h29.length [x63] h59).map fun p => (Ex.normal, p.1, p.2))
      (fun _ => (trim true h29.length [(.s (.bool true))] h54).map fun p => (Ex.normal, p.1, p.2)))
      (fun _ => (trim true h29.length [(.s (.bool true))] h48).map fun p => (Ex.normal, p.1, p.2)))
      (fun _ => (trim true h29.length [(.s (.bool true))] h42).map fun p => (Ex.normal, p.1, p.2)))
      (fun _ => (trim true h29.length [(.s (.bool true))] h36).map fun p => (Ex.normal, p.1, p.2)))
      (fun _ => (trim true h29.length [(.s (.bool true))] h29).map fun p => (Ex.normal, p.1, p.2)))
      (fun _ => (trim true h29.length [(.s (.bool true))] h29).map fun p => (Ex.normal, p.1, p.2))) (law07_ExtentWaits_k4 objs a0 a1 x6))
  | .exit i18 => none
  | .ret => finish objs.length (.ok (.s (.bool false))) h16
  | .panic v19 => finish objs.length (.pan v19) h16)

/-- bailey/baileylaw07.ExtentWaits -/
def law07_ExtentWaits : CallFn := fun args objs =>
match args with
| [a0, a1] =>
oLend law07_extentAlive [] objs (fun v3 h4 => finish objs.length (.pan v3) h4) fun w165 h166 => oFrz w165 h166 fun x1 h2 =>
      oNot x1 fun x5 =>
      oCond x5 (finish objs.length (.ok (.s (.bool false))) h2)
      (oLend extent_New [a0] h2 (fun v8 h9 => finish objs.length (.pan v8) h9) fun x6 h7 =>
      oJoin (oEqNil false x6 (.s (.pointer none)) fun x10 =>
      oGuard x10 false (fun _ => oCmp .lss a0 (.s (.int .i64 1)) fun x11 =>
      oGuard x11 false (fun _ => oCmp .gtr a0 (.s (.int .i64 1024)) fun x12 =>
      oGuard x12 false (fun _ => oCmp .lss a1 (.s (.int .i64 1)) fun x13 =>
      oGuard x13 false (fun _ => oCmp .gtr a1 a0 fun x14 =>
      (trim true h7.length [x14] h7).map fun p => (Ex.normal, p.1, p.2))
      (fun _ => (trim true h7.length [(.s (.bool true))] h7).map fun p => (Ex.normal, p.1, p.2)))
      (fun _ => (trim true h7.length [(.s (.bool true))] h7).map fun p => (Ex.normal, p.1, p.2)))
      (fun _ => (trim true h7.length [(.s (.bool true))] h7).map fun p => (Ex.normal, p.1, p.2)))
      (fun _ => (trim true h7.length [(.s (.bool true))] h7).map fun p => (Ex.normal, p.1, p.2))) (law07_ExtentWaits_k5 x6 objs a1 a0))
| _ => none

def law07_ExtentRoom_k1 (x37 : A) (x6 : A) (h39 : Heap) : Ex → List A → Heap → Option (Ex × List A × Heap) := fun e46 vs44 h45 =>
      (match e46 with
  | .normal => oCond (vs44.getD 0 .any) (oLoad (some 2) x37 h45 fun x49 =>
      oCall extent_Map_Free [x6, x49] h45 (fun v52 h53 => some (Ex.panic v52, [], h53)) fun w54 h55 => oFrz w54 h55 fun x50 h51 =>
      (trim true h39.length [] h51).map fun p => (Ex.normal, p.1, p.2))
      ((trim true h39.length [] h45).map fun p => (Ex.normal, p.1, p.2))
  | .exit i47 => (trim true h39.length [] h45).map fun p => (Ex.exit i47, p.1, p.2)
  | .ret => (trim true h39.length [] h45).map fun p => (Ex.ret, p.1, p.2)
  | .panic v48 => some (Ex.panic v48, [], h45))

def law07_ExtentRoom_k2 (x26 : A) (x6 : A) (s22 : List A × Heap) (h16 : Heap) : Ex → List A → Heap → Option ((List A × Heap) ⊕ (Ex × List A × Heap)) := fun e58 vs56 h57 =>
      (match e58 with
  | .normal => oFieldA 2 x26 fun x61 =>
      oLoad (some 2) x61 h57 fun x62 =>
      oCall extent_Map_Take [x6, x62] h57 (fun v65 h66 => some (.inr (Ex.panic v65, [], h66))) fun w68 h69 => oFrz w68 h69 fun x63 h64 =>
      oAr .add (s22.1.getD 0 .any) (.s (.int .i64 1)) fun x67 =>
      (trim true h16.length [x67] h64).map .inl
  | .exit i59 => if i59 = 1 then oAr .add (s22.1.getD 0 .any) (.s (.int .i64 1)) fun x70 =>
      (trim true h16.length [x70] h57).map .inl else (trim true h16.length [] h57).map fun p => .inr (Ex.exit i59, p.1, p.2)
  | .ret => (trim true h16.length [] h57).map fun p => .inr (Ex.ret, p.1, p.2)
  | .panic v60 => some (.inr (Ex.panic v60, [], h57)))

def law07_ExtentRoom_l3 (x21 : A) (a1 : A) (x6 : A) (h16 : Heap) : List A × Heap → Option ((List A × Heap) ⊕ (Ex × List A × Heap)) := fun s22 =>
      oCmp .lss (s22.1.getD 0 .any) x21 fun x23 =>
      oCond x23 (oIdxA 4 a1 (s22.1.getD 0 .any) fun x24 =>
      oLoad (some 4) x24 s22.2 fun x25 =>
      oNew none (some 4) (.agg [.s (.int .i64 0), .s (.int .i64 0), .s (.int .i64 0), .s (.int .i64 0)]) s22.2 fun x26 h27 =>
      oStore (some 4) x26 x25 h27 fun h28 =>
      oFieldA 1 x26 fun x29 =>
      oLoad none x29 h28 fun x30 =>
      oCall extent_Map_Alloc [x6, x30] h28 (fun v33 h34 => some (.inr (Ex.panic v33, [], h34))) fun w71 h72 => oFrz w71 h72 fun x31 h32 =>
      oExtract 0 x31 fun x35 =>
      oExtract 1 x31 fun x36 =>
      oNew none (some 2) (.agg [.s (.int .i64 0), .s (.int .i64 0)]) h32 fun x37 h38 =>
      oStore (some 2) x37 x35 h38 fun h39 =>
      oJoin (oJoin (oCmp .eql x36 (.s (.int .i64 0)) fun x40 =>
      oGuard x40 true (fun _ => oFieldA 0 x26 fun x41 =>
      oLoad none x41 h39 fun x42 =>
      oCmp .geq x42 (.s (.int .i64 3)) fun x43 =>
      (trim true h39.length [x43] h39).map fun p => (Ex.normal, p.1, p.2))
      (fun _ => (trim true h39.length [(.s (.bool false))] h39).map fun p => (Ex.normal, p.1, p.2))) (law07_ExtentRoom_k1 x37 x6 h39)) (law07_ExtentRoom_k2 x26 x6 s22 h16))
      ((trim true h16.length [] s22.2).map fun p => .inr (Ex.exit 0, p.1, p.2))

def law07_ExtentRoom_l4 (x99 : A) (x86 : A) (h83 : Heap) : List A × Heap → Option ((List A × Heap) ⊕ (Ex × List A × Heap)) := fun s100 =>
      oCmp .lss (s100.1.getD 1 .any) x99 fun x101 =>
      oCond x101 (oIdxA 2 x86 (s100.1.getD 1 .any) fun x102 =>
      oLoad (some 2) x102 s100.2 fun x103 =>
      oNew none (some 2) (.agg [.s (.int .i64 0), .s (.int .i64 0)]) s100.2 fun x104 h105 =>
      oStore (some 2) x104 x103 h105 fun h106 =>
      oFieldA 1 x104 fun x107 =>
      oLoad none x107 h106 fun x108 =>
      oAr .add (s100.1.getD 0 .any) x108 fun x109 =>
      oAr .add (s100.1.getD 1 .any) (.s (.int .i64 1)) fun x110 =>
      (trim true h83.length [x109, x110] h106).map .inl)
      ((trim true h83.length [(s100.1.getD 0 .any)] s100.2).map fun p => .inr (Ex.exit 2, p.1, p.2))

def law07_ExtentRoom_k5 (x87 : A) (a2 : A) (x6 : A) (objs : Heap) (x78 : A) : Ex → List A → Heap → Option (Out × Heap) := fun e111 vs112 h113 =>
      (match e111 with
  | .normal => none
  | .exit i114 => if i114 = 2 then oCmp .eql x87 (.s (.int .i64 0)) fun x116 =>
      oGuard x116 true (fun _ => oMax (.s (.int .i64 0)) a2 fun x117 =>
      oCmp .eql (vs112.getD 0 .any) x117 fun x118 =>
      oGuard x118 true (fun _ => oLend extent_Map_Count [x6] h113 (fun v121 h122 => finish objs.length (.pan v121) h122) fun w125 h126 => oFrz w125 h126 fun x119 h120 =>
      oAr .sub x78 (vs112.getD 0 .any) fun x123 =>
      oCmp .eql x119 x123 fun x124 =>
      finish objs.length (.ok x124) h120)
      (fun _ => finish objs.length (.ok (.s (.bool false))) h113))
      (fun _ => finish objs.length (.ok (.s (.bool false))) h113) else none
  | .ret => finish objs.length (.ok (.s (.bool false))) h113
  | .panic v115 => finish objs.length (.pan v115) h113)

def law07_ExtentRoom_k6 (x6 : A) (objs : Heap) (a2 : A) : Ex → List A → Heap → Option (Out × Heap) := fun e73 vs74 h75 =>
      (match e73 with
  | .normal => none
  | .exit i76 => if i76 = 0 then oLend extent_Map_Count [x6] h75 (fun v80 h81 => finish objs.length (.pan v80) h81) fun w129 h130 => oFrz w129 h130 fun x78 h79 =>
      oCall extent_Map_All [x6, a2] h79 (fun v84 h85 => finish objs.length (.pan v84) h85) fun w127 h128 => oFrz w127 h128 fun x82 h83 =>
      oExtract 0 x82 fun x86 =>
      oExtract 1 x82 fun x87 =>
      oCmp .gtr a2 x78 fun x88 =>
      oCond x88 (oCmp .eql x87 (.s (.int .i64 73)) fun x89 =>
      oGuard x89 true (fun _ => oLen x86 fun x90 =>
      oCmp .eql x90 (.s (.int .i64 0)) fun x91 =>
      oGuard x91 true (fun _ => oLend extent_Map_Count [x6] h83 (fun v94 h95 => finish objs.length (.pan v94) h95) fun w97 h98 => oFrz w97 h98 fun x92 h93 =>
      oCmp .eql x92 x78 fun x96 =>
      finish objs.length (.ok x96) h93)
      (fun _ => finish objs.length (.ok (.s (.bool false))) h83))
      (fun _ => finish objs.length (.ok (.s (.bool false))) h83))
      (oLen x86 fun x99 =>
      oLoop (law07_ExtentRoom_l4 x99 x86 h83) ([(.s (.int .i64 0)), (.s (.int .i64 0))], h83) (law07_ExtentRoom_k5 x87 a2 x6 objs x78)) else none
  | .ret => finish objs.length (.ok (.s (.bool false))) h75
  | .panic v77 => finish objs.length (.pan v77) h75)

def law07_ExtentRoom_k7 (x6 : A) (objs : Heap) (a1 : A) (a2 : A) : Ex → List A → Heap → Option (Out × Heap) := fun e17 vs15 h16 =>
      (match e17 with
  | .normal => oCond (vs15.getD 0 .any) (oEqNil true x6 (.s (.pointer none)) fun x20 =>
      finish objs.length (.ok x20) h16)
      (oLen a1 fun x21 =>
      oLoop (law07_ExtentRoom_l3 x21 a1 x6 h16) ([(.s (.int .i64 0))], h16) (law07_ExtentRoom_k6 x6 objs a2))
  | .exit i18 => none
  | .ret => finish objs.length (.ok (.s (.bool false))) h16
  | .panic v19 => finish objs.length (.pan v19) h16)

/-- bailey/baileylaw07.ExtentRoom -/
def law07_ExtentRoom : CallFn := fun args objs =>
match args with
| [a0, a1, a2] =>
oLend law07_extentAlive [] objs (fun v3 h4 => finish objs.length (.pan v3) h4) fun w131 h132 => oFrz w131 h132 fun x1 h2 =>
      oNot x1 fun x5 =>
      oCond x5 (finish objs.length (.ok (.s (.bool false))) h2)
      (oLend extent_New [a0] h2 (fun v8 h9 => finish objs.length (.pan v8) h9) fun x6 h7 =>
      oJoin (oEqNil false x6 (.s (.pointer none)) fun x10 =>
      oGuard x10 false (fun _ => oLen a1 fun x11 =>
      oCmp .gtr x11 (.s (.int .i64 100)) fun x12 =>
      oGuard x12 false (fun _ => oCmp .lss a0 (.s (.int .i64 0)) fun x13 =>
      oGuard x13 false (fun _ => oCmp .gtr a0 (.s (.int .i64 1024)) fun x14 =>
      (trim true h7.length [x14] h7).map fun p => (Ex.normal, p.1, p.2))
      (fun _ => (trim true h7.length [(.s (.bool true))] h7).map fun p => (Ex.normal, p.1, p.2)))
      (fun _ => (trim true h7.length [(.s (.bool true))] h7).map fun p => (Ex.normal, p.1, p.2)))
      (fun _ => (trim true h7.length [(.s (.bool true))] h7).map fun p => (Ex.normal, p.1, p.2))) (law07_ExtentRoom_k7 x6 objs a1 a2))
| _ => none

end Go.Ab.F
