/-
  THE PROGRAM'S FUNCTIONS OVER VALUES WITHOUT ADDRESSES. Written by a program (emit.py).
-/
import Derived.Test.YtijekkbagkpjdaaAbsPrim
set_option maxRecDepth 100000
set_option linter.unusedVariables false
namespace Go.Ab.F
open Go Go.Ab

def extent_New_k1 (objs : Heap) (x4 : A) : Ex → List A → Heap → Option (Out × Heap) := fun e21 vs19 h20 =>
      (match e21 with
  | .normal => finish objs.length (.ok x4) h20
  | .exit i22 => none
  | .ret => finish objs.length (.ok (.s (.pointer none))) h20
  | .panic v23 => finish objs.length (.pan v23) h20)

/-- bailey/extent.New -/
def extent_New : CallFn := fun args objs =>
match args with
| [a0] =>
oMin a0 (.s (.int .i64 1024)) fun x1 =>
      oMax (.s (.int .i64 0)) x1 fun x2 =>
      oBuildP [.s (.int .i64 0), .s (.slice none 0 0), .s (.slice none 0 0)] [(0, none, x2)] fun x3 =>
      oNew none (some 3) x3 objs fun x4 h5 =>
      oJoin (oNilCheck x4 fun x6 =>
      oFieldA 0 x6 fun x7 =>
      oLoad none x7 h5 fun x8 =>
      oCmp .gtr x8 (.s (.int .i64 0)) fun x9 =>
      oCond x9 (oNilCheck x4 fun x10 =>
      oFieldA 0 x10 fun x11 =>
      oLoad none x11 h5 fun x12 =>
      oBuildP [.s (.int .i64 0), .s (.int .i64 0)] [(0, none, (.s (.int .i64 0))), (1, none, x12)] fun x13 =>
      oNewSlice none 2 (asRows (some 2) [x13]) h5 fun x14 h15 =>
      oNilCheck x4 fun x16 =>
      oFieldA 1 x16 fun x17 =>
      oStore none x17 x14 h15 fun h18 =>
      (trim true h5.length [] h18).map fun p => (Ex.normal, p.1, p.2))
      ((trim true h5.length [] h5).map fun p => (Ex.normal, p.1, p.2))) (extent_New_k1 objs x4)
| _ => none

/-- bailey/extent.end -/
def extent_end : CallFn := fun args objs =>
match args with
| [a0] =>
oNew none (some 2) a0 objs fun x1 h2 =>
      oFieldA 0 x1 fun x3 =>
      oLoad none x3 h2 fun x4 =>
      oFieldA 1 x1 fun x5 =>
      oLoad none x5 h2 fun x6 =>
      oAr .add x4 x6 fun x7 =>
      finish objs.length (.ok x7) h2
| _ => none

def extent_cut_k1 (x1 : A) (x10 : A) (s6 : List A × Heap) : Ex → List A → Heap → Option (Ex × List A × Heap) := fun e62 vs60 h61 =>
      (match e62 with
  | .normal => oLoadD h61.length [] (some 2) x1 h61 fun x65 h66 =>
      oCallF h61.length [] extent_end [x65] h66 fun w100 h101 => oFrz w100 h101 fun x67 h68 =>
      oLoadD h61.length [] (some 2) x10 h68 fun x69 h70 =>
      oCallF h61.length [] extent_end [x69] h70 fun w98 h99 => oFrz w98 h99 fun x71 h72 =>
      oCmp .lss x67 x71 fun x73 =>
      oCond x73 (oLoadD h72.length (wrL h72 [((vs60.getD 0 .any), false)]) (some 2) x1 (h72 ++ List.replicate 2 .res) fun x74 h75 =>
      oCallF h72.length (wrL h72 [((vs60.getD 0 .any), false)]) extent_end [x74] h75 fun w96 h97 => oFrz w96 h97 fun x76 h77 =>
      oLoadD h72.length (wrL h72 [((vs60.getD 0 .any), false)]) (some 2) x10 h77 fun x78 h79 =>
      oCallF h72.length (wrL h72 [((vs60.getD 0 .any), false)]) extent_end [x78] h79 fun w94 h95 => oFrz w94 h95 fun x80 h81 =>
      oLoadD h72.length (wrL h72 [((vs60.getD 0 .any), false)]) (some 2) x1 h81 fun x82 h83 =>
      oCallF h72.length (wrL h72 [((vs60.getD 0 .any), false)]) extent_end [x82] h83 fun w92 h93 => oFrz w92 h93 fun x84 h85 =>
      oAr .sub x80 x84 fun x86 =>
      oBuildP [.s (.int .i64 0), .s (.int .i64 0)] [(0, none, x76), (1, none, x86)] fun x87 =>
      oNewSlice (some h72.length) 2 (asRows (some 2) [x87]) h85 fun x88 h89 =>
      oAppendD h72.length (wrL h72 [((vs60.getD 0 .any), false)]) (h72.length + 1) 2 16 (vs60.getD 0 .any) x88 h89 fun x90 h91 =>
      (trim true s6.2.length [x90] h91).map fun p => (Ex.normal, p.1, p.2))
      ((trim true s6.2.length [(vs60.getD 0 .any)] h72).map fun p => (Ex.normal, p.1, p.2))
  | .exit i63 => if i63 = 1 then (trim true s6.2.length [(vs60.getD 0 .any)] h61).map fun p => (Ex.normal, p.1, p.2) else (trim true s6.2.length [(vs60.getD 0 .any)] h61).map fun p => (Ex.exit i63, p.1, p.2)
  | .ret => (trim true s6.2.length [(vs60.getD 0 .any)] h61).map fun p => (Ex.ret, p.1, p.2)
  | .panic v64 => some (Ex.panic v64, [], h61))

def extent_cut_k2 (x10 : A) (s6 : List A × Heap) (x1 : A) : Ex → List A → Heap → Option (Ex × List A × Heap) := fun e35 vs33 h34 =>
      (match e35 with
  | .normal => oCond (vs33.getD 0 .any) (oLoad (some 2) x10 h34 fun x38 =>
      oNewSlice none 2 (asRows (some 2) [x38]) h34 fun x39 h40 =>
      oAppend none 2 16 (s6.1.getD 0 .any) x39 h40 fun x41 h42 =>
      (trim true s6.2.length [x41] h42).map fun p => (Ex.normal, p.1, p.2))
      (oJoin (oFieldA 0 x10 fun x43 =>
      oLoad none x43 h34 fun x44 =>
      oFieldA 0 x1 fun x45 =>
      oLoad none x45 h34 fun x46 =>
      oCmp .lss x44 x46 fun x47 =>
      oCond x47 (oFieldA 0 x10 fun x48 =>
      oLoad none x48 h34 fun x49 =>
      oFieldA 0 x1 fun x50 =>
      oLoad none x50 h34 fun x51 =>
      oFieldA 0 x10 fun x52 =>
      oLoad none x52 h34 fun x53 =>
      oAr .sub x51 x53 fun x54 =>
      oBuildP [.s (.int .i64 0), .s (.int .i64 0)] [(0, none, x49), (1, none, x54)] fun x55 =>
      oNewSlice none 2 (asRows (some 2) [x55]) h34 fun x56 h57 =>
      oAppend none 2 16 (s6.1.getD 0 .any) x56 h57 fun x58 h59 =>
      (trim true h34.length [x58] h59).map fun p => (Ex.normal, p.1, p.2))
      ((trim true h34.length [(s6.1.getD 0 .any)] h34).map fun p => (Ex.normal, p.1, p.2))) (extent_cut_k1 x1 x10 s6))
  | .exit i36 => if i36 = 1 then (trim true s6.2.length [(s6.1.getD 0 .any)] h34).map fun p => (Ex.normal, p.1, p.2) else (trim true s6.2.length [(s6.1.getD 0 .any)] h34).map fun p => (Ex.exit i36, p.1, p.2)
  | .ret => (trim true s6.2.length [(s6.1.getD 0 .any)] h34).map fun p => (Ex.ret, p.1, p.2)
  | .panic v37 => some (Ex.panic v37, [], h34))

def extent_cut_k3 (s6 : List A × Heap) (h5 : Heap) : Ex → List A → Heap → Option ((List A × Heap) ⊕ (Ex × List A × Heap)) := fun e104 vs102 h103 =>
      (match e104 with
  | .normal => oAr .add (s6.1.getD 1 .any) (.s (.int .i64 1)) fun x107 =>
      (trim true h5.length [(vs102.getD 0 .any), x107] h103).map .inl
  | .exit i105 => (trim true h5.length [(vs102.getD 0 .any)] h103).map fun p => .inr (Ex.exit i105, p.1, p.2)
  | .ret => (trim true h5.length [(vs102.getD 0 .any)] h103).map fun p => .inr (Ex.ret, p.1, p.2)
  | .panic v106 => some (.inr (Ex.panic v106, [.any], h103)))

def extent_cut_l4 (x3 : A) (a0 : A) (x1 : A) (h5 : Heap) : List A × Heap → Option ((List A × Heap) ⊕ (Ex × List A × Heap)) := fun s6 =>
      oCmp .lss (s6.1.getD 1 .any) x3 fun x7 =>
      oCond x7 (oJoin (oIdxA 2 a0 (s6.1.getD 1 .any) fun x8 =>
      oLoad (some 2) x8 s6.2 fun x9 =>
      oNew none (some 2) (.agg [.s (.int .i64 0), .s (.int .i64 0)]) s6.2 fun x10 h11 =>
      oStore (some 2) x10 x9 h11 fun h12 =>
      oJoin (oFieldA 0 x10 fun x13 =>
      oLoadD h12.length [] none x13 h12 fun x14 h15 =>
      oFieldA 0 x1 fun x16 =>
      oLoadD h12.length [] none x16 h15 fun x17 h18 =>
      oCmp .gtr x14 x17 fun x19 =>
      oGuard x19 false (fun _ => oLoadD h12.length [] (some 2) x1 h18 fun x20 h21 =>
      oCallF h12.length [] extent_end [x20] h21 fun w31 h32 => oFrz w31 h32 fun x22 h23 =>
      oLoadD h12.length [] (some 2) x10 h23 fun x24 h25 =>
      oCallF h12.length [] extent_end [x24] h25 fun w29 h30 => oFrz w29 h30 fun x26 h27 =>
      oCmp .gtr x22 x26 fun x28 =>
      (trim true h12.length [x28] h27).map fun p => (Ex.normal, p.1, p.2))
      (fun _ => (trim true h12.length [(.s (.bool true))] h18).map fun p => (Ex.normal, p.1, p.2))) (extent_cut_k2 x10 s6 x1)) (extent_cut_k3 s6 h5))
      ((trim true h5.length [(s6.1.getD 0 .any)] s6.2).map fun p => .inr (Ex.exit 0, p.1, p.2))

def extent_cut_k5 (objs : Heap) : Ex → List A → Heap → Option (Out × Heap) := fun e108 vs109 h110 =>
      (match e108 with
  | .normal => none
  | .exit i111 => if i111 = 0 then finish objs.length (.ok (vs109.getD 0 .any)) h110 else none
  | .ret => finish objs.length (.ok (.s (.slice none 0 0))) h110
  | .panic v112 => finish objs.length (.pan v112) h110)

/-- bailey/extent.cut -/
def extent_cut : CallFn := fun args objs =>
match args with
| [a0, a1] =>
oNew none (some 2) a1 objs fun x1 h2 =>
      oLen a0 fun x3 =>
      oProm 2 (.s (.slice none 0 0)) h2 fun x4 h5 =>
      oLoop (extent_cut_l4 x3 a0 x1 h5) ([x4, (.s (.int .i64 0))], h5) (extent_cut_k5 objs)
| _ => none

def extent_Map_Alloc_k1 (s27 : List A × Heap) (h22 : Heap) : Ex → List A → Heap → Option ((List A × Heap) ⊕ (Ex × List A × Heap)) := fun e46 vs44 h45 =>
      (match e46 with
  | .normal => oAr .add (s27.1.getD 0 .any) (.s (.int .i64 1)) fun x49 =>
      (trim true h22.length [x49] h45).map .inl
  | .exit i47 => (trim true h22.length [] h45).map fun p => .inr (Ex.exit i47, p.1, p.2)
  | .ret => (trim true h22.length [] h45).map fun p => .inr (Ex.ret, p.1, p.2)
  | .panic v48 => some (.inr (Ex.panic v48, [], h45)))

def extent_Map_Alloc_l2 (x26 : A) (x25 : A) (x20 : A) (a1 : A) (h22 : Heap) : List A × Heap → Option ((List A × Heap) ⊕ (Ex × List A × Heap)) := fun s27 =>
      oCmp .lss (s27.1.getD 0 .any) x26 fun x28 =>
      oCond x28 (oJoin (oIdxA 2 x25 (s27.1.getD 0 .any) fun x29 =>
      oLoad (some 2) x29 s27.2 fun x30 =>
      oNew none (some 2) (.agg [.s (.int .i64 0), .s (.int .i64 0)]) s27.2 fun x31 h32 =>
      oStore (some 2) x31 x30 h32 fun h33 =>
      oFieldA 1 x20 fun x34 =>
      oLoad none x34 h33 fun x35 =>
      oCmp .geq x35 a1 fun x36 =>
      oCond x36 ((trim true s27.2.length [] h33).map fun p => (Ex.exit 1, p.1, p.2))
      (oFieldA 1 x31 fun x37 =>
      oLoad none x37 h33 fun x38 =>
      oFieldA 1 x20 fun x39 =>
      oLoad none x39 h33 fun x40 =>
      oCmp .gtr x38 x40 fun x41 =>
      oCond x41 (oLoad (some 2) x31 h33 fun x42 =>
      oStore (some 2) x20 x42 h33 fun h43 =>
      (trim true s27.2.length [] h43).map fun p => (Ex.normal, p.1, p.2))
      ((trim true s27.2.length [] h33).map fun p => (Ex.normal, p.1, p.2)))) (extent_Map_Alloc_k1 s27 h22))
      ((trim true h22.length [] s27.2).map fun p => .inr (Ex.exit 1, p.1, p.2))

def extent_Map_Alloc_k3 (x20 : A) (a1 : A) (a0 : A) (x1 : A) (objs : Heap) : Ex → List A → Heap → Option (Out × Heap) := fun e50 vs51 h52 =>
      (match e50 with
  | .normal => none
  | .exit i53 => if i53 = 1 then oFieldA 1 x20 fun x55 =>
      oLoad none x55 h52 fun x56 =>
      oMin x56 a1 fun x57 =>
      oFieldA 1 x20 fun x58 =>
      oStore none x58 x57 h52 fun h59 =>
      oNilCheck a0 fun x60 =>
      oFieldA 1 x60 fun x61 =>
      oLoadD h59.length [] none x61 h59 fun x62 h63 =>
      oLoadD h59.length [] (some 2) x20 h63 fun x64 h65 =>
      oCallF h59.length [] extent_cut [x62, x64] h65 fun x66 h67 =>
      oNilCheck a0 fun x68 =>
      oFieldA 1 x68 fun x69 =>
      oStore none x69 x66 h67 fun h70 =>
      oLoad (some 2) x20 h70 fun x71 =>
      oStore (some 2) x1 x71 h70 fun h72 =>
      oLoad (some 2) x1 h72 fun r73 =>
      finish objs.length (.ok (.tup [r73, (.s (.int .i64 0))])) h72 else none
  | .ret => oLoad (some 2) x1 h52 fun r74 =>
      finish objs.length (.ok (.tup [r74, (.s (.int .i64 0))])) h52
  | .panic v54 => finish objs.length (.pan v54) h52)

/-- (*bailey/extent.Map).Alloc -/
def extent_Map_Alloc : CallFn := fun args objs =>
match args with
| [a0, a1] =>
oNew none (some 2) (.agg [.s (.int .i64 0), .s (.int .i64 0)]) objs fun x1 h2 =>
      oCmp .lss a1 (.s (.int .i64 1)) fun x3 =>
      oCond x3 (oBuildP [.s (.int .i64 0), .s (.int .i64 0)] [] fun x4 =>
      oStore (some 2) x1 x4 h2 fun h5 =>
      oLoad (some 2) x1 h5 fun r6 =>
      finish objs.length (.ok (.tup [r6, (.s (.int .i64 72))])) h5)
      (oNilCheck a0 fun x7 =>
      oFieldA 1 x7 fun x8 =>
      oLoad none x8 h2 fun x9 =>
      oLen x9 fun x10 =>
      oCmp .eql x10 (.s (.int .i64 0)) fun x11 =>
      oCond x11 (oBuildP [.s (.int .i64 0), .s (.int .i64 0)] [] fun x12 =>
      oStore (some 2) x1 x12 h2 fun h13 =>
      oLoad (some 2) x1 h13 fun r14 =>
      finish objs.length (.ok (.tup [r14, (.s (.int .i64 73))])) h13)
      (oNilCheck a0 fun x15 =>
      oFieldA 1 x15 fun x16 =>
      oLoad none x16 h2 fun x17 =>
      oIdxA 2 x17 (.s (.int .i64 0)) fun x18 =>
      oLoad (some 2) x18 h2 fun x19 =>
      oNew none (some 2) (.agg [.s (.int .i64 0), .s (.int .i64 0)]) h2 fun x20 h21 =>
      oStore (some 2) x20 x19 h21 fun h22 =>
      oNilCheck a0 fun x23 =>
      oFieldA 1 x23 fun x24 =>
      oLoad none x24 h22 fun x25 =>
      oLen x25 fun x26 =>
      oLoop (extent_Map_Alloc_l2 x26 x25 x20 a1 h22) ([(.s (.int .i64 0))], h22) (extent_Map_Alloc_k3 x20 a1 a0 x1 objs)))
| _ => none

/-- (*bailey/extent.Map).there -/
def extent_Map_there : CallFn := fun args objs =>
match args with
| [a0, a1] =>
oNew none (some 2) a1 objs fun x1 h2 =>
      oFieldA 1 x1 fun x3 =>
      oLoadD h2.length [] none x3 h2 fun x4 h5 =>
      oCmp .geq x4 (.s (.int .i64 1)) fun x6 =>
      oGuard x6 true (fun _ => oFieldA 1 x1 fun x7 =>
      oLoadD h2.length [] none x7 h5 fun x8 h9 =>
      oNilCheck a0 fun x10 =>
      oFieldA 0 x10 fun x11 =>
      oLoadD h2.length [] none x11 h9 fun x12 h13 =>
      oCmp .leq x8 x12 fun x14 =>
      oGuard x14 true (fun _ => oFieldA 0 x1 fun x15 =>
      oLoadD h2.length [] none x15 h13 fun x16 h17 =>
      oCmp .geq x16 (.s (.int .i64 0)) fun x18 =>
      oGuard x18 true (fun _ => oFieldA 0 x1 fun x19 =>
      oLoadD h2.length [] none x19 h17 fun x20 h21 =>
      oNilCheck a0 fun x22 =>
      oFieldA 0 x22 fun x23 =>
      oLoadD h2.length [] none x23 h21 fun x24 h25 =>
      oFieldA 1 x1 fun x26 =>
      oLoadD h2.length [] none x26 h25 fun x27 h28 =>
      oAr .sub x24 x27 fun x29 =>
      oCmp .leq x20 x29 fun x30 =>
      finish objs.length (.ok x30) h28)
      (fun _ => finish objs.length (.ok (.s (.bool false))) h17))
      (fun _ => finish objs.length (.ok (.s (.bool false))) h13))
      (fun _ => finish objs.length (.ok (.s (.bool false))) h5)
| _ => none

/-- bailey/extent.meets$1 -/
def extent_meets_c1 : CallFn := fun args objs =>
match args with
| [a0, a1] =>
oNew none (some 2) a0 objs fun x1 h2 =>
      oFieldA 0 x1 fun x3 =>
      oLoadD h2.length [] none x3 h2 fun x4 h5 =>
      oLoadD h2.length [] (some 2) a1 h5 fun x6 h7 =>
      oCallF h2.length [] extent_end [x6] h7 fun w21 h22 => oFrz w21 h22 fun x8 h9 =>
      oCmp .lss x4 x8 fun x10 =>
      oGuard x10 true (fun _ => oFieldA 0 a1 fun x11 =>
      oLoadD h2.length [] none x11 h9 fun x12 h13 =>
      oLoadD h2.length [] (some 2) x1 h13 fun x14 h15 =>
      oCallF h2.length [] extent_end [x14] h15 fun w19 h20 => oFrz w19 h20 fun x16 h17 =>
      oCmp .lss x12 x16 fun x18 =>
      finish objs.length (.ok x18) h17)
      (fun _ => finish objs.length (.ok (.s (.bool false))) h9)
| _ => none

def slices_IndexFunc_Sapi_Extent_api_Extent_l1 (En : String → CallFn) (x1 : A) (a0 : A) (a1 : A) (objs : Heap) : List A × Heap → Option ((List A × Heap) ⊕ (Ex × List A × Heap)) := fun s2 =>
      oCmp .lss (s2.1.getD 0 .any) x1 fun x3 =>
      oCond x3 (oIdxA 2 a0 (s2.1.getD 0 .any) fun x4 =>
      oLoad (some 2) x4 s2.2 fun x5 =>
      oLendV En a1 [x5] s2.2 (fun v8 h9 => some (.inr (Ex.panic v8, [.any], h9))) fun w11 h12 => oFrz w11 h12 fun x6 h7 =>
      oCond x6 ((trim true objs.length [(s2.1.getD 0 .any)] h7).map fun p => .inr (Ex.ret, p.1, p.2))
      (oAr .add (s2.1.getD 0 .any) (.s (.int .i64 1)) fun x10 =>
      (trim true objs.length [x10] h7).map .inl))
      ((trim true objs.length [.any] s2.2).map fun p => .inr (Ex.exit 0, p.1, p.2))

def slices_IndexFunc_Sapi_Extent_api_Extent_k2 (objs : Heap) : Ex → List A → Heap → Option (Out × Heap) := fun e13 vs14 h15 =>
      (match e13 with
  | .normal => none
  | .exit i16 => if i16 = 0 then finish objs.length (.ok (.s (.int .i64 (-1)))) h15 else none
  | .ret => finish objs.length (.ok (vs14.getD 0 .any)) h15
  | .panic v17 => finish objs.length (.pan v17) h15)

/-- slices.IndexFunc[[]bailey/api.Extent,bailey/api.Extent] -/
def slices_IndexFunc_Sapi_Extent_api_Extent (En : String → CallFn) : CallFn := fun args objs =>
match args with
| [a0, a1] =>
oLen a0 fun x1 =>
      oLoop (slices_IndexFunc_Sapi_Extent_api_Extent_l1 En x1 a0 a1 objs) ([(.s (.int .i64 0))], objs) (slices_IndexFunc_Sapi_Extent_api_Extent_k2 objs)
| _ => none

/-- slices.ContainsFunc[[]bailey/api.Extent,bailey/api.Extent] -/
def slices_ContainsFunc_Sapi_Extent_api_Extent (En : String → CallFn) : CallFn := fun args objs =>
match args with
| [a0, a1] =>
oLend (slices_IndexFunc_Sapi_Extent_api_Extent En) [a0, a1] objs (fun v3 h4 => finish objs.length (.pan v3) h4) fun w6 h7 => oFrz w6 h7 fun x1 h2 =>
      oCmp .geq x1 (.s (.int .i64 0)) fun x5 =>
      finish objs.length (.ok x5) h2
| _ => none

def En_extent_meets : String → CallFn := fun n => if n = "bailey/extent.meets$1" then extent_meets_c1 else (fun _ _ => none)

/-- bailey/extent.meets -/
def extent_meets : CallFn := fun args objs =>
match args with
| [a0, a1] =>
oNew none (some 2) a1 objs fun x1 h2 =>
      oLend (slices_ContainsFunc_Sapi_Extent_api_Extent (En_extent_meets)) [a0, (.fn "bailey/extent.meets$1" [x1])] h2 (fun v5 h6 => finish objs.length (.pan v5) h6) fun w7 h8 => oFrz w7 h8 fun x3 h4 =>
      finish objs.length (.ok x3) h4
| _ => none

/-- (*bailey/extent.Map).taken -/
def extent_Map_taken : CallFn := fun args objs =>
match args with
| [a0, a1] =>
oNew none (some 2) a1 objs fun x1 h2 =>
      oLoadD h2.length [] (some 2) x1 h2 fun x3 h4 =>
      oCallF h2.length [] extent_Map_there [a0, x3] h4 fun w29 h30 => oFrz w29 h30 fun x5 h6 =>
      oGuard x5 true (fun _ => oNilCheck a0 fun x7 =>
      oFieldA 1 x7 fun x8 =>
      oLoadD h2.length [] none x8 h6 fun x9 h10 =>
      oLoadD h2.length [] (some 2) x1 h10 fun x11 h12 =>
      oCallF h2.length [] extent_meets [x9, x11] h12 fun w27 h28 => oFrz w27 h28 fun x13 h14 =>
      oNot x13 fun x15 =>
      oGuard x15 true (fun _ => oNilCheck a0 fun x16 =>
      oFieldA 2 x16 fun x17 =>
      oLoadD h2.length [] none x17 h14 fun x18 h19 =>
      oLoadD h2.length [] (some 2) x1 h19 fun x20 h21 =>
      oCallF h2.length [] extent_meets [x18, x20] h21 fun w25 h26 => oFrz w25 h26 fun x22 h23 =>
      oNot x22 fun x24 =>
      finish objs.length (.ok x24) h23)
      (fun _ => finish objs.length (.ok (.s (.bool false))) h14))
      (fun _ => finish objs.length (.ok (.s (.bool false))) h6)
| _ => none

def extent_put_k1 (s5 : List A × Heap) : Ex → List A → Heap → Option (Ex × List A × Heap) := fun e18 vs16 h17 =>
      (match e18 with
  | .normal => oCond (vs16.getD 0 .any) ((trim true s5.2.length [(vs16.getD 0 .any)] h17).map fun p => (Ex.normal, p.1, p.2))
      ((trim true s5.2.length [(vs16.getD 0 .any)] h17).map fun p => (Ex.exit 0, p.1, p.2))
  | .exit i19 => (trim true s5.2.length [(vs16.getD 0 .any)] h17).map fun p => (Ex.exit i19, p.1, p.2)
  | .ret => (trim true s5.2.length [(vs16.getD 0 .any)] h17).map fun p => (Ex.ret, p.1, p.2)
  | .panic v20 => some (Ex.panic v20, [], h17))

def extent_put_k2 (s5 : List A × Heap) (h4 : Heap) : Ex → List A → Heap → Option ((List A × Heap) ⊕ (Ex × List A × Heap)) := fun e23 vs21 h22 =>
      (match e23 with
  | .normal => oAr .add (s5.1.getD 0 .any) (.s (.int .i64 1)) fun x26 =>
      (trim true h4.length [x26] h22).map .inl
  | .exit i24 => (trim true h4.length [(s5.1.getD 0 .any)] h22).map fun p => .inr (Ex.exit i24, p.1, p.2)
  | .ret => (trim true h4.length [(s5.1.getD 0 .any)] h22).map fun p => .inr (Ex.ret, p.1, p.2)
  | .panic v25 => some (.inr (Ex.panic v25, [.any], h22)))

def extent_put_l3 (x3 : A) (x1 : A) (h4 : Heap) : List A × Heap → Option ((List A × Heap) ⊕ (Ex × List A × Heap)) := fun s5 =>
      oJoin (oJoin (oLen x3 fun x6 =>
      oCmp .lss (s5.1.getD 0 .any) x6 fun x7 =>
      oGuard x7 true (fun _ => oIdxA 2 x3 (s5.1.getD 0 .any) fun x8 =>
      oFieldA 0 x8 fun x9 =>
      oLoadD s5.2.length [] none x9 s5.2 fun x10 h11 =>
      oFieldA 0 x1 fun x12 =>
      oLoadD s5.2.length [] none x12 h11 fun x13 h14 =>
      oCmp .lss x10 x13 fun x15 =>
      (trim true s5.2.length [x15] h14).map fun p => (Ex.normal, p.1, p.2))
      (fun _ => (trim true s5.2.length [(.s (.bool false))] s5.2).map fun p => (Ex.normal, p.1, p.2))) (extent_put_k1 s5)) (extent_put_k2 s5 h4)

def extent_put_k4 (x35 : A) (vs28 : List A) (h36 : Heap) : Ex → List A → Heap → Option (Ex × List A × Heap) := fun e57 vs55 h56 =>
      (match e57 with
  | .normal => oCond (vs55.getD 0 .any) (oIdxA 2 x35 (vs28.getD 0 .any) fun x60 =>
      oFieldA 1 x60 fun x61 =>
      oLoadD h56.length [] none x61 h56 fun x62 h63 =>
      oAr .add (vs28.getD 0 .any) (.s (.int .i64 1)) fun x64 =>
      oIdxA 2 x35 x64 fun x65 =>
      oFieldA 1 x65 fun x66 =>
      oLoadD h56.length [] none x66 h63 fun x67 h68 =>
      oAr .add x62 x67 fun x69 =>
      oIdxA 2 x35 (vs28.getD 0 .any) fun x70 =>
      oFieldA 1 x70 fun x71 =>
      oStore none x71 x69 h68 fun h72 =>
      oAr .add (vs28.getD 0 .any) (.s (.int .i64 1)) fun x73 =>
      oAr .add (vs28.getD 0 .any) (.s (.int .i64 2)) fun x74 =>
      oCall (primDelete 2 16) [x35, x73, x74] h72 (fun v77 h78 => some (Ex.panic v77, [], h78)) fun x75 h76 =>
      (trim true h36.length [x75] h76).map fun p => (Ex.normal, p.1, p.2))
      ((trim true h36.length [x35] h56).map fun p => (Ex.normal, p.1, p.2))
  | .exit i58 => (trim true h36.length [x35] h56).map fun p => (Ex.exit i58, p.1, p.2)
  | .ret => (trim true h36.length [x35] h56).map fun p => (Ex.ret, p.1, p.2)
  | .panic v59 => some (Ex.panic v59, [], h56))

def extent_put_k5 (vs28 : List A) (vs79 : List A) (h80 : Heap) : Ex → List A → Heap → Option (Ex × List A × Heap) := fun e100 vs98 h99 =>
      (match e100 with
  | .normal => oCond (vs98.getD 0 .any) (oAr .sub (vs28.getD 0 .any) (.s (.int .i64 1)) fun x103 =>
      oIdxA 2 (vs79.getD 0 .any) x103 fun x104 =>
      oFieldA 1 x104 fun x105 =>
      oLoadD h99.length [] none x105 h99 fun x106 h107 =>
      oIdxA 2 (vs79.getD 0 .any) (vs28.getD 0 .any) fun x108 =>
      oFieldA 1 x108 fun x109 =>
      oLoadD h99.length [] none x109 h107 fun x110 h111 =>
      oAr .add x106 x110 fun x112 =>
      oIdxA 2 (vs79.getD 0 .any) x103 fun x113 =>
      oFieldA 1 x113 fun x114 =>
      oStore none x114 x112 h111 fun h115 =>
      oAr .add (vs28.getD 0 .any) (.s (.int .i64 1)) fun x116 =>
      oCall (primDelete 2 16) [(vs79.getD 0 .any), (vs28.getD 0 .any), x116] h115 (fun v119 h120 => some (Ex.panic v119, [], h120)) fun x117 h118 =>
      (trim true h80.length [x117] h118).map fun p => (Ex.normal, p.1, p.2))
      ((trim true h80.length [(vs79.getD 0 .any)] h99).map fun p => (Ex.normal, p.1, p.2))
  | .exit i101 => (trim true h80.length [(vs79.getD 0 .any)] h99).map fun p => (Ex.exit i101, p.1, p.2)
  | .ret => (trim true h80.length [(vs79.getD 0 .any)] h99).map fun p => (Ex.ret, p.1, p.2)
  | .panic v102 => some (Ex.panic v102, [], h99))

def extent_put_k6 (objs : Heap) : Ex → List A → Heap → Option (Out × Heap) := fun e123 vs121 h122 =>
      (match e123 with
  | .normal => finish objs.length (.ok (vs121.getD 0 .any)) h122
  | .exit i124 => none
  | .ret => finish objs.length (.ok (.s (.slice none 0 0))) h122
  | .panic v125 => finish objs.length (.pan v125) h122)

def extent_put_k7 (vs28 : List A) (objs : Heap) : Ex → List A → Heap → Option (Out × Heap) := fun e81 vs79 h80 =>
      (match e81 with
  | .normal => oJoin (oJoin (oCmp .gtr (vs28.getD 0 .any) (.s (.int .i64 0)) fun x84 =>
      oGuard x84 true (fun _ => oAr .sub (vs28.getD 0 .any) (.s (.int .i64 1)) fun x85 =>
      oIdxA 2 (vs79.getD 0 .any) x85 fun x86 =>
      oLoadD h80.length [] (some 2) x86 h80 fun x87 h88 =>
      oCallF h80.length [] extent_end [x87] h88 fun w96 h97 => oFrz w96 h97 fun x89 h90 =>
      oIdxA 2 (vs79.getD 0 .any) (vs28.getD 0 .any) fun x91 =>
      oFieldA 0 x91 fun x92 =>
      oLoadD h80.length [] none x92 h90 fun x93 h94 =>
      oCmp .eql x89 x93 fun x95 =>
      (trim true h80.length [x95] h94).map fun p => (Ex.normal, p.1, p.2))
      (fun _ => (trim true h80.length [(.s (.bool false))] h80).map fun p => (Ex.normal, p.1, p.2))) (extent_put_k5 vs28 vs79 h80)) (extent_put_k6 objs)
  | .exit i82 => none
  | .ret => finish objs.length (.ok (.s (.slice none 0 0))) h80
  | .panic v83 => finish objs.length (.pan v83) h80)

def extent_put_k8 (x1 : A) (x3 : A) (objs : Heap) : Ex → List A → Heap → Option (Out × Heap) := fun e27 vs28 h29 =>
      (match e27 with
  | .normal => none
  | .exit i30 => if i30 = 0 then oLoad (some 2) x1 h29 fun x32 =>
      oNewSlice none 2 (asRows (some 2) [x32]) h29 fun x33 h34 =>
      oCall (primInsert 2 16) [x3, (vs28.getD 0 .any), x33] h34 (fun v37 h38 => finish objs.length (.pan v37) h38) fun x35 h36 =>
      oJoin (oJoin (oAr .add (vs28.getD 0 .any) (.s (.int .i64 1)) fun x39 =>
      oLen x35 fun x40 =>
      oCmp .lss x39 x40 fun x41 =>
      oGuard x41 true (fun _ => oIdxA 2 x35 (vs28.getD 0 .any) fun x42 =>
      oLoadD h36.length [] (some 2) x42 h36 fun x43 h44 =>
      oCallF h36.length [] extent_end [x43] h44 fun w53 h54 => oFrz w53 h54 fun x45 h46 =>
      oAr .add (vs28.getD 0 .any) (.s (.int .i64 1)) fun x47 =>
      oIdxA 2 x35 x47 fun x48 =>
      oFieldA 0 x48 fun x49 =>
      oLoadD h36.length [] none x49 h46 fun x50 h51 =>
      oCmp .eql x45 x50 fun x52 =>
      (trim true h36.length [x52] h51).map fun p => (Ex.normal, p.1, p.2))
      (fun _ => (trim true h36.length [(.s (.bool false))] h36).map fun p => (Ex.normal, p.1, p.2))) (extent_put_k4 x35 vs28 h36)) (extent_put_k7 vs28 objs) else none
  | .ret => finish objs.length (.ok (.s (.slice none 0 0))) h29
  | .panic v31 => finish objs.length (.pan v31) h29)

/-- bailey/extent.put -/
def extent_put : CallFn := fun args objs =>
match args with
| [a0, a1] =>
oNew none (some 2) a1 objs fun x1 h2 =>
      oProm 2 a0 h2 fun x3 h4 =>
      oLoop (extent_put_l3 x3 x1 h4) ([(.s (.int .i64 0))], h4) (extent_put_k8 x1 x3 objs)
| _ => none

/-- (*bailey/extent.Map).Free -/
def extent_Map_Free : CallFn := fun args objs =>
match args with
| [a0, a1] =>
oNew none (some 2) a1 objs fun x1 h2 =>
      oLoad (some 2) x1 h2 fun x3 =>
      oLend extent_Map_taken [a0, x3] h2 (fun v6 h7 => finish objs.length (.pan v6) h7) fun w20 h21 => oFrz w20 h21 fun x4 h5 =>
      oNot x4 fun x8 =>
      oCond x8 (finish objs.length (.ok (.s (.int .i64 72))) h5)
      (oNilCheck a0 fun x9 =>
      oFieldA 1 x9 fun x10 =>
      oLoadD h5.length [] none x10 h5 fun x11 h12 =>
      oLoadD h5.length [] (some 2) x1 h12 fun x13 h14 =>
      oCall extent_put [x11, x13] h14 (fun _ _ => none) fun x15 h16 =>
      oNilCheck a0 fun x17 =>
      oFieldA 1 x17 fun x18 =>
      oStore none x18 x15 h16 fun h19 =>
      finish objs.length (.ok (.s (.int .i64 0))) h19)
| _ => none

def extent_Map_Count_l1 (x4 : A) (x3 : A) (objs : Heap) : List A × Heap → Option ((List A × Heap) ⊕ (Ex × List A × Heap)) := fun s5 =>
      oCmp .lss (s5.1.getD 1 .any) x4 fun x6 =>
      oCond x6 (oIdxA 2 x3 (s5.1.getD 1 .any) fun x7 =>
      oLoad (some 2) x7 s5.2 fun x8 =>
      oNew none (some 2) (.agg [.s (.int .i64 0), .s (.int .i64 0)]) s5.2 fun x9 h10 =>
      oStore (some 2) x9 x8 h10 fun h11 =>
      oFieldA 1 x9 fun x12 =>
      oLoad none x12 h11 fun x13 =>
      oAr .add (s5.1.getD 0 .any) x13 fun x14 =>
      oAr .add (s5.1.getD 1 .any) (.s (.int .i64 1)) fun x15 =>
      (trim true objs.length [x14, x15] h11).map .inl)
      ((trim true objs.length [(s5.1.getD 0 .any)] s5.2).map fun p => .inr (Ex.exit 0, p.1, p.2))

def extent_Map_Count_k2 (objs : Heap) : Ex → List A → Heap → Option (Out × Heap) := fun e16 vs17 h18 =>
      (match e16 with
  | .normal => none
  | .exit i19 => if i19 = 0 then finish objs.length (.ok (vs17.getD 0 .any)) h18 else none
  | .ret => finish objs.length (.ok (.s (.int .i64 0))) h18
  | .panic v20 => finish objs.length (.pan v20) h18)

/-- (*bailey/extent.Map).Count -/
def extent_Map_Count : CallFn := fun args objs =>
match args with
| [a0] =>
oNilCheck a0 fun x1 =>
      oFieldA 1 x1 fun x2 =>
      oLoad none x2 objs fun x3 =>
      oLen x3 fun x4 =>
      oLoop (extent_Map_Count_l1 x4 x3 objs) ([(.s (.int .i64 0)), (.s (.int .i64 0))], objs) (extent_Map_Count_k2 objs)
| _ => none

/-- bailey/baileylaw07.extentAlive -/
def law07_extentAlive : CallFn := fun args objs =>
match args with
| [] =>
oLend extent_New [(.s (.int .i64 10))] objs (fun v3 h4 => finish objs.length (.pan v3) h4) fun x1 h2 =>
      oEqNil false x1 (.s (.pointer none)) fun x5 =>
      oCond x5 (finish objs.length (.ok (.s (.bool false))) h2)
      (oCall extent_Map_Alloc [x1, (.s (.int .i64 4))] h2 (fun v8 h9 => finish objs.length (.pan v8) h9) fun w53 h54 => oFrz w53 h54 fun x6 h7 =>
      oExtract 0 x6 fun x10 =>
      oExtract 1 x6 fun x11 =>
      oNew none (some 2) (.agg [.s (.int .i64 0), .s (.int .i64 0)]) h7 fun x12 h13 =>
      oStore (some 2) x12 x10 h13 fun h14 =>
      oCall extent_Map_Alloc [x1, (.s (.int .i64 4))] h14 (fun v17 h18 => finish objs.length (.pan v17) h18) fun w51 h52 => oFrz w51 h52 fun x15 h16 =>
      oLoad (some 2) x12 h16 fun x19 =>
      oCall extent_Map_Free [x1, x19] h16 (fun v22 h23 => finish objs.length (.pan v22) h23) fun w49 h50 => oFrz w49 h50 fun x20 h21 =>
      oCall extent_Map_Alloc [x1, (.s (.int .i64 5))] h21 (fun v26 h27 => finish objs.length (.pan v26) h27) fun w47 h48 => oFrz w47 h48 fun x24 h25 =>
      oExtract 0 x24 fun x28 =>
      oExtract 1 x24 fun x29 =>
      oNew none (some 2) (.agg [.s (.int .i64 0), .s (.int .i64 0)]) h25 fun x30 h31 =>
      oStore (some 2) x30 x28 h31 fun h32 =>
      oLoad (some 2) x12 h32 fun x33 =>
      oBuildP [.s (.int .i64 0), .s (.int .i64 0)] [(0, none, (.s (.int .i64 0))), (1, none, (.s (.int .i64 4)))] fun x34 =>
      oEqAgg [true, true] false x33 x34 fun x35 =>
      oGuard x35 true (fun _ => oCmp .eql x29 (.s (.int .i64 0)) fun x36 =>
      oGuard x36 true (fun _ => oLoad (some 2) x30 h32 fun x37 =>
      oLoad (some 2) x12 h32 fun x38 =>
      oEqAgg [true, true] false x37 x38 fun x39 =>
      oGuard x39 true (fun _ => oLend extent_Map_Count [x1] h32 (fun v42 h43 => finish objs.length (.pan v42) h43) fun w45 h46 => oFrz w45 h46 fun x40 h41 =>
      oCmp .eql x40 (.s (.int .i64 2)) fun x44 =>
      finish objs.length (.ok x44) h41)
      (fun _ => finish objs.length (.ok (.s (.bool false))) h32))
      (fun _ => finish objs.length (.ok (.s (.bool false))) h32))
      (fun _ => finish objs.length (.ok (.s (.bool false))) h32))
| _ => none

/-- (*bailey/extent.Map).List -/
def extent_Map_List : CallFn := fun args objs =>
match args with
| [a0] =>
oNilCheck a0 fun x1 =>
      oFieldA 1 x1 fun x2 =>
      oLoad none x2 objs fun x3 =>
      oLend (primClone 2 16) [x3] objs (fun v6 h7 => finish objs.length (.pan v6) h7) fun x4 h5 =>
      finish objs.length (.ok x4) h5
| _ => none

/-- bailey/baileylaw07.ExtentNames -/
def law07_ExtentNames : CallFn := fun args objs =>
match args with
| [] =>
oLend law07_extentAlive [] objs (fun v3 h4 => finish objs.length (.pan v3) h4) fun w30 h31 => oFrz w30 h31 fun x1 h2 =>
      oPick x1 (.s (.bool true)) (.s (.bool false)) fun x5 =>
      oPick x5 (.s (.bool true)) (.s (.bool false)) fun x6 =>
      oGuard x6 true (fun _ => oLend extent_New [(.s (.int .i64 2000))] h2 (fun v9 h10 => finish objs.length (.pan v9) h10) fun x7 h8 =>
      oLend extent_Map_Count [x7] h8 (fun v13 h14 => finish objs.length (.pan v13) h14) fun w28 h29 => oFrz w28 h29 fun x11 h12 =>
      oCmp .eql x11 (.s (.int .i64 1024)) fun x15 =>
      oGuard x15 true (fun _ => oLend extent_New [(.s (.int .i64 0))] h12 (fun v18 h19 => finish objs.length (.pan v18) h19) fun x16 h17 =>
      oLend extent_Map_List [x16] h17 (fun v22 h23 => finish objs.length (.pan v22) h23) fun w26 h27 => oFrz w26 h27 fun x20 h21 =>
      oLen x20 fun x24 =>
      oCmp .eql x24 (.s (.int .i64 0)) fun x25 =>
      finish objs.length (.ok x25) h21)
      (fun _ => finish objs.length (.ok (.s (.bool false))) h12))
      (fun _ => finish objs.length (.ok (.s (.bool false))) h2)
| _ => none

/-- bailey/tree.New -/
def tree_New : CallFn := fun args objs =>
match args with
| [] =>
oBuildP [.s (.slice none 0 0), .s (.slice none 0 0), .s (.slice none 0 0)] [] fun x1 =>
      oNew none (some 3) x1 objs fun x2 h3 =>
      oBuildP [.s (.pointer none), .s (.int .i64 0)] [(0, none, x2)] fun x4 =>
      oNew none (some 2) x4 h3 fun x5 h6 =>
      finish objs.length (.ok x5) h6
| _ => none

def tree_node_list_l1 (self : CallFn) (x22 : A) (x21 : A) (x1 : A) (h18 : Heap) : List A × Heap → Option ((List A × Heap) ⊕ (Ex × List A × Heap)) := fun s23 =>
      oCmp .lss (s23.1.getD 1 .any) x22 fun x24 =>
      oCond x24 (oIdxA 1 x21 (s23.1.getD 1 .any) fun x25 =>
      oLoad none x25 s23.2 fun x26 =>
      oIdxA 3 (s23.1.getD 0 .any) x1 fun x27 =>
      oFieldA 2 x27 fun x28 =>
      oLoad none x28 s23.2 fun x29 =>
      oLen (s23.1.getD 0 .any) fun x30 =>
      oNewSlice none 1 (asRows none [x30]) s23.2 fun x31 h32 =>
      oAppend none 1 8 x29 x31 h32 fun x33 h34 =>
      oIdxA 3 (s23.1.getD 0 .any) x1 fun x35 =>
      oFieldA 2 x35 fun x36 =>
      oStore none x36 x33 h34 fun h37 =>
      oCall self [x26, (s23.1.getD 0 .any)] h37 (fun v40 h41 => some (.inr (Ex.panic v40, [.any], h41))) fun x38 h39 =>
      oAr .add (s23.1.getD 1 .any) (.s (.int .i64 1)) fun x42 =>
      (trim true h18.length [x38, x42] h39).map .inl)
      ((trim true h18.length [(s23.1.getD 0 .any)] s23.2).map fun p => .inr (Ex.exit 0, p.1, p.2))

def tree_node_list_k2 (objs : Heap) : Ex → List A → Heap → Option (Out × Heap) := fun e43 vs44 h45 =>
      (match e43 with
  | .normal => none
  | .exit i46 => if i46 = 0 then finish objs.length (.ok (vs44.getD 0 .any)) h45 else none
  | .ret => finish objs.length (.ok (.s (.slice none 0 0))) h45
  | .panic v47 => finish objs.length (.pan v47) h45)

/-- (*bailey/tree.node).list -/
def tree_node_list_step (self : CallFn) : CallFn := fun args objs =>
match args with
| [a0, a1] =>
oLen a1 fun x1 =>
      oNilCheck a0 fun x2 =>
      oFieldA 0 x2 fun x3 =>
      oLoadD objs.length (wrL objs [(a1, false)]) none x3 (objs ++ List.replicate 2 .res) fun x4 h5 =>
      oCallF objs.length (wrL objs [(a1, false)]) (primClone 1 8) [x4] h5 fun x6 h7 =>
      oNilCheck a0 fun x8 =>
      oFieldA 1 x8 fun x9 =>
      oLoadD objs.length (wrL objs [(a1, false)]) none x9 h7 fun x10 h11 =>
      oCallF objs.length (wrL objs [(a1, false)]) (primClone 2 16) [x10] h11 fun x12 h13 =>
      oBuildP [.s (.slice none 0 0), .s (.slice none 0 0), .s (.slice none 0 0)] [(0, none, x6), (1, none, x12)] fun x14 =>
      oNewSlice (some objs.length) 3 (asRows (some 3) [x14]) h13 fun x15 h16 =>
      oAppendD objs.length (wrL objs [(a1, false)]) (objs.length + 1) 3 72 a1 x15 h16 fun x17 h18 =>
      oNilCheck a0 fun x19 =>
      oFieldA 2 x19 fun x20 =>
      oLoad none x20 h18 fun x21 =>
      oLen x21 fun x22 =>
      oLoop (tree_node_list_l1 self x22 x21 x1 h18) ([x17, (.s (.int .i64 0))], h18) (tree_node_list_k2 objs)
| _ => none

def tree_node_list : Nat → CallFn
| 0 => fun _ _ => none
| n + 1 => tree_node_list_step (tree_node_list n)

/-- (*bailey/tree.Tree).Nodes -/
def tree_Tree_Nodes : CallFn := fun args objs =>
match args with
| [a0] =>
oNilCheck a0 fun x1 =>
      oFieldA 0 x1 fun x2 =>
      oLoad none x2 objs fun x3 =>
      oCall (tree_node_list big) [x3, (.s (.slice none 0 0))] objs (fun v6 h7 => finish objs.length (.pan v6) h7) fun x4 h5 =>
      finish objs.length (.ok x4) h5
| _ => none

/-- (*bailey/tree.Tree).Len -/
def tree_Tree_Len : CallFn := fun args objs =>
match args with
| [a0] =>
oNilCheck a0 fun x1 =>
      oFieldA 1 x1 fun x2 =>
      oLoad none x2 objs fun x3 =>
      finish objs.length (.ok x3) objs
| _ => none

/-- (*bailey/tree.node).leaf -/
def tree_node_leaf : CallFn := fun args objs =>
match args with
| [a0] =>
oNilCheck a0 fun x1 =>
      oFieldA 2 x1 fun x2 =>
      oLoad none x2 objs fun x3 =>
      oLen x3 fun x4 =>
      oCmp .eql x4 (.s (.int .i64 0)) fun x5 =>
      finish objs.length (.ok x5) objs
| _ => none

/-- cmp.isNaN[uint64] -/
def cmp_isNaN_uint64 : CallFn := fun args objs =>
match args with
| [a0] =>
oCmp .neq a0 a0 fun x1 =>
      finish objs.length (.ok x1) objs
| _ => none

/-- cmp.Less[uint64] -/
def cmp_Less_uint64 : CallFn := fun args objs =>
match args with
| [a0, a1] =>
oLend cmp_isNaN_uint64 [a0] objs (fun v3 h4 => finish objs.length (.pan v3) h4) fun w14 h15 => oFrz w14 h15 fun x1 h2 =>
      oGuard x1 true (fun _ => oLend cmp_isNaN_uint64 [a1] h2 (fun v7 h8 => finish objs.length (.pan v7) h8) fun w11 h12 => oFrz w11 h12 fun x5 h6 =>
      oNot x5 fun x9 =>
      oGuard x9 false (fun _ => oCmp .lss a0 a1 fun x10 =>
      finish objs.length (.ok x10) h6)
      (fun _ => finish objs.length (.ok (.s (.bool true))) h6))
      (fun _ => oCmp .lss a0 a1 fun x13 =>
      finish objs.length (.ok x13) h2)
| _ => none

/-- slices.isNaN[uint64] -/
def slices_isNaN_uint64 : CallFn := fun args objs =>
match args with
| [a0] =>
oCmp .neq a0 a0 fun x1 =>
      finish objs.length (.ok x1) objs
| _ => none

def slices_BinarySearch_Suint64_uint64_l1 (a0 : A) (a1 : A) (objs : Heap) : List A × Heap → Option ((List A × Heap) ⊕ (Ex × List A × Heap)) := fun s2 =>
      oCmp .lss (s2.1.getD 0 .any) (s2.1.getD 1 .any) fun x3 =>
      oCond x3 (oAr .add (s2.1.getD 0 .any) (s2.1.getD 1 .any) fun x4 =>
      oConv .u64 x4 fun x5 =>
      oShift .shr x5 (.s (.int .u64 1)) fun x6 =>
      oConv .i64 x6 fun x7 =>
      oIdxA 1 a0 x7 fun x8 =>
      oLoad none x8 s2.2 fun x9 =>
      oLend cmp_Less_uint64 [x9, a1] s2.2 (fun v12 h13 => some (.inr (Ex.panic v12, [.any], h13))) fun w15 h16 => oFrz w15 h16 fun x10 h11 =>
      oCond x10 (oAr .add x7 (.s (.int .i64 1)) fun x14 =>
      (trim true objs.length [x14, (s2.1.getD 1 .any)] h11).map .inl)
      ((trim true objs.length [(s2.1.getD 0 .any), x7] h11).map .inl))
      ((trim true objs.length [(s2.1.getD 0 .any)] s2.2).map fun p => .inr (Ex.exit 0, p.1, p.2))

def slices_BinarySearch_Suint64_uint64_k2 (x1 : A) (a0 : A) (a1 : A) (objs : Heap) : Ex → List A → Heap → Option (Out × Heap) := fun e17 vs18 h19 =>
      (match e17 with
  | .normal => none
  | .exit i20 => if i20 = 0 then oCmp .lss (vs18.getD 0 .any) x1 fun x22 =>
      oGuard x22 true (fun _ => oIdxA 1 a0 (vs18.getD 0 .any) fun x23 =>
      oLoad none x23 h19 fun x24 =>
      oCmp .eql x24 a1 fun x25 =>
      oGuard x25 false (fun _ => oIdxA 1 a0 (vs18.getD 0 .any) fun x26 =>
      oLoad none x26 h19 fun x27 =>
      oLend slices_isNaN_uint64 [x27] h19 (fun v30 h31 => finish objs.length (.pan v30) h31) fun w38 h39 => oFrz w38 h39 fun x28 h29 =>
      oGuard x28 true (fun _ => oLend slices_isNaN_uint64 [a1] h29 (fun v34 h35 => finish objs.length (.pan v34) h35) fun w36 h37 => oFrz w36 h37 fun x32 h33 =>
      finish objs.length (.ok (.tup [(vs18.getD 0 .any), x32])) h33)
      (fun _ => finish objs.length (.ok (.tup [(vs18.getD 0 .any), (.s (.bool false))])) h29))
      (fun _ => finish objs.length (.ok (.tup [(vs18.getD 0 .any), (.s (.bool true))])) h19))
      (fun _ => finish objs.length (.ok (.tup [(vs18.getD 0 .any), (.s (.bool false))])) h19) else none
  | .ret => finish objs.length (.ok (.tup [(.s (.int .i64 0)), (.s (.bool false))])) h19
  | .panic v21 => finish objs.length (.pan v21) h19)

/-- slices.BinarySearch[[]uint64,uint64] -/
def slices_BinarySearch_Suint64_uint64 : CallFn := fun args objs =>
match args with
| [a0, a1] =>
oLen a0 fun x1 =>
      oLoop (slices_BinarySearch_Suint64_uint64_l1 a0 a1 objs) ([(.s (.int .i64 0)), x1], objs) (slices_BinarySearch_Suint64_uint64_k2 x1 a0 a1 objs)
| _ => none

def tree_node_way_k1 (objs : Heap) : Ex → List A → Heap → Option (Out × Heap) := fun e13 vs11 h12 =>
      (match e13 with
  | .normal => finish objs.length (.ok (vs11.getD 0 .any)) h12
  | .exit i14 => none
  | .ret => finish objs.length (.ok (.s (.int .i64 0))) h12
  | .panic v15 => finish objs.length (.pan v15) h12)

/-- (*bailey/tree.node).way -/
def tree_node_way : CallFn := fun args objs =>
match args with
| [a0, a1] =>
oNilCheck a0 fun x1 =>
      oFieldA 0 x1 fun x2 =>
      oLoad none x2 objs fun x3 =>
      oLend slices_BinarySearch_Suint64_uint64 [x3, a1] objs (fun v6 h7 => finish objs.length (.pan v6) h7) fun w16 h17 => oFrz w16 h17 fun x4 h5 =>
      oExtract 0 x4 fun x8 =>
      oExtract 1 x4 fun x9 =>
      oJoin (oCond x9 (oAr .add x8 (.s (.int .i64 1)) fun x10 =>
      (trim true h5.length [x10] h5).map fun p => (Ex.normal, p.1, p.2))
      ((trim true h5.length [x8] h5).map fun p => (Ex.normal, p.1, p.2))) (tree_node_way_k1 objs)
| _ => none

def tree_Tree_Get_l1 (a1 : A) (h2 : Heap) : List A × Heap → Option ((List A × Heap) ⊕ (Ex × List A × Heap)) := fun s6 =>
      oLend tree_node_leaf [(s6.1.getD 0 .any)] s6.2 (fun v9 h10 => some (.inr (Ex.panic v9, [.any], h10))) fun w23 h24 => oFrz w23 h24 fun x7 h8 =>
      oNot x7 fun x11 =>
      oCond x11 (oNilCheck (s6.1.getD 0 .any) fun x12 =>
      oFieldA 2 x12 fun x13 =>
      oLoadD h8.length [] none x13 h8 fun x14 h15 =>
      oCallF h8.length [] tree_node_way [(s6.1.getD 0 .any), a1] h15 fun w21 h22 => oFrz w21 h22 fun x16 h17 =>
      oIdxA 1 x14 x16 fun x18 =>
      oLoadD h8.length [] none x18 h17 fun x19 h20 =>
      (trim true h2.length [x19] h20).map .inl)
      ((trim true h2.length [(s6.1.getD 0 .any)] h8).map fun p => .inr (Ex.exit 0, p.1, p.2))

def tree_Tree_Get_k2 (a1 : A) (objs : Heap) (x1 : A) : Ex → List A → Heap → Option (Out × Heap) := fun e25 vs26 h27 =>
      (match e25 with
  | .normal => none
  | .exit i28 => if i28 = 0 then oNilCheck (vs26.getD 0 .any) fun x30 =>
      oFieldA 0 x30 fun x31 =>
      oLoad none x31 h27 fun x32 =>
      oLend slices_BinarySearch_Suint64_uint64 [x32, a1] h27 (fun v35 h36 => finish objs.length (.pan v35) h36) fun w49 h50 => oFrz w49 h50 fun x33 h34 =>
      oExtract 0 x33 fun x37 =>
      oExtract 1 x33 fun x38 =>
      oCond x38 (oNilCheck (vs26.getD 0 .any) fun x39 =>
      oFieldA 1 x39 fun x40 =>
      oLoad none x40 h34 fun x41 =>
      oIdxA 2 x41 x37 fun x42 =>
      oLoad (some 2) x42 h34 fun x43 =>
      oStore (some 2) x1 x43 h34 fun h44 =>
      oLoad (some 2) x1 h44 fun r45 =>
      finish objs.length (.ok (.tup [r45, (.s (.bool true))])) h44)
      (oBuildP [.s (.int .i64 0), .s (.int .i64 0)] [] fun x46 =>
      oStore (some 2) x1 x46 h34 fun h47 =>
      oLoad (some 2) x1 h47 fun r48 =>
      finish objs.length (.ok (.tup [r48, (.s (.bool false))])) h47) else none
  | .ret => oLoad (some 2) x1 h27 fun r51 =>
      finish objs.length (.ok (.tup [r51, (.s (.bool false))])) h27
  | .panic v29 => finish objs.length (.pan v29) h27)

/-- (*bailey/tree.Tree).Get -/
def tree_Tree_Get : CallFn := fun args objs =>
match args with
| [a0, a1] =>
oNew none (some 2) (.agg [.s (.int .i64 0), .s (.int .i64 0)]) objs fun x1 h2 =>
      oNilCheck a0 fun x3 =>
      oFieldA 0 x3 fun x4 =>
      oLoad none x4 h2 fun x5 =>
      oLoop (tree_Tree_Get_l1 a1 h2) ([x5], h2) (tree_Tree_Get_k2 a1 objs x1)
| _ => none

/-- (*bailey/tree.node).clone -/
def tree_node_clone : CallFn := fun args objs =>
match args with
| [a0] =>
oNilCheck a0 fun x1 =>
      oFieldA 0 x1 fun x2 =>
      oLoadD objs.length [] none x2 (objs ++ List.replicate 1 .res) fun x3 h4 =>
      oCallF objs.length [] (primClone 1 8) [x3] h4 fun x5 h6 =>
      oNilCheck a0 fun x7 =>
      oFieldA 1 x7 fun x8 =>
      oLoadD objs.length [] none x8 h6 fun x9 h10 =>
      oCallF objs.length [] (primClone 2 16) [x9] h10 fun x11 h12 =>
      oNilCheck a0 fun x13 =>
      oFieldA 2 x13 fun x14 =>
      oLoadD objs.length [] none x14 h12 fun x15 h16 =>
      oCallF objs.length [] (primClone 1 8) [x15] h16 fun x17 h18 =>
      oBuildP [.s (.slice none 0 0), .s (.slice none 0 0), .s (.slice none 0 0)] [(0, none, x5), (1, none, x11), (2, none, x17)] fun x19 =>
      oNew (some objs.length) (some 3) x19 h18 fun x20 h21 =>
      finish objs.length (.ok x20) h21
| _ => none

/-- (*bailey/tree.node).split -/
def tree_node_split : CallFn := fun args objs =>
match args with
| [a0] =>
oNilCheck a0 fun x1 =>
      oFieldA 0 x1 fun x2 =>
      oLoad none x2 objs fun x3 =>
      oLen x3 fun x4 =>
      oCmp .leq x4 (.s (.int .i64 7)) fun x5 =>
      oCond x5 (finish objs.length (.ok (.tup [a0, (.s (.int .u64 0)), (.s (.pointer none))])) objs)
      (oNilCheck a0 fun x6 =>
      oFieldA 0 x6 fun x7 =>
      oLoad none x7 objs fun x8 =>
      oLen x8 fun x9 =>
      oAr .quo x9 (.s (.int .i64 2)) fun x10 =>
      oNilCheck a0 fun x11 =>
      oFieldA 0 x11 fun x12 =>
      oLoad none x12 objs fun x13 =>
      oIdxA 1 x13 x10 fun x14 =>
      oLoad none x14 objs fun x15 =>
      oLend tree_node_leaf [a0] objs (fun v18 h19 => finish objs.length (.pan v18) h19) fun w91 h92 => oFrz w91 h92 fun x16 h17 =>
      oCond x16 (oNilCheck a0 fun x20 =>
      oFieldA 0 x20 fun x21 =>
      oLoadD h17.length [] none x21 (h17 ++ List.replicate 1 .res) fun x22 h23 =>
      oSlice 1 x22 (some x10) none fun x24 =>
      oCallF h17.length [] (primClone 1 8) [x24] h23 fun x25 h26 =>
      oNilCheck a0 fun x27 =>
      oFieldA 1 x27 fun x28 =>
      oLoadD h17.length [] none x28 h26 fun x29 h30 =>
      oSlice 2 x29 (some x10) none fun x31 =>
      oCallF h17.length [] (primClone 2 16) [x31] h30 fun x32 h33 =>
      oBuildP [.s (.slice none 0 0), .s (.slice none 0 0), .s (.slice none 0 0)] [(0, none, x25), (1, none, x32)] fun x34 =>
      oNew (some h17.length) (some 3) x34 h33 fun x35 h36 =>
      oNilCheck a0 fun x37 =>
      oFieldA 0 x37 fun x38 =>
      oLoadD h36.length [] none x38 (h36 ++ List.replicate 1 .res) fun x39 h40 =>
      oSlice 1 x39 none (some x10) fun x41 =>
      oCallF h36.length [] (primClone 1 8) [x41] h40 fun x42 h43 =>
      oNilCheck a0 fun x44 =>
      oFieldA 1 x44 fun x45 =>
      oLoadD h36.length [] none x45 h43 fun x46 h47 =>
      oSlice 2 x46 none (some x10) fun x48 =>
      oCallF h36.length [] (primClone 2 16) [x48] h47 fun x49 h50 =>
      oBuildP [.s (.slice none 0 0), .s (.slice none 0 0), .s (.slice none 0 0)] [(0, none, x42), (1, none, x49)] fun x51 =>
      oNew (some h36.length) (some 3) x51 h50 fun x52 h53 =>
      finish objs.length (.ok (.tup [x52, x15, x35])) h53)
      (oNilCheck a0 fun x54 =>
      oFieldA 0 x54 fun x55 =>
      oLoadD h17.length [] none x55 (h17 ++ List.replicate 1 .res) fun x56 h57 =>
      oAr .add x10 (.s (.int .i64 1)) fun x58 =>
      oSlice 1 x56 (some x58) none fun x59 =>
      oCallF h17.length [] (primClone 1 8) [x59] h57 fun x60 h61 =>
      oNilCheck a0 fun x62 =>
      oFieldA 2 x62 fun x63 =>
      oLoadD h17.length [] none x63 h61 fun x64 h65 =>
      oAr .add x10 (.s (.int .i64 1)) fun x66 =>
      oSlice 1 x64 (some x66) none fun x67 =>
      oCallF h17.length [] (primClone 1 8) [x67] h65 fun x68 h69 =>
      oBuildP [.s (.slice none 0 0), .s (.slice none 0 0), .s (.slice none 0 0)] [(0, none, x60), (2, none, x68)] fun x70 =>
      oNew (some h17.length) (some 3) x70 h69 fun x71 h72 =>
      oNilCheck a0 fun x73 =>
      oFieldA 0 x73 fun x74 =>
      oLoadD h72.length [] none x74 (h72 ++ List.replicate 1 .res) fun x75 h76 =>
      oSlice 1 x75 none (some x10) fun x77 =>
      oCallF h72.length [] (primClone 1 8) [x77] h76 fun x78 h79 =>
      oNilCheck a0 fun x80 =>
      oFieldA 2 x80 fun x81 =>
      oLoadD h72.length [] none x81 h79 fun x82 h83 =>
      oAr .add x10 (.s (.int .i64 1)) fun x84 =>
      oSlice 1 x82 none (some x84) fun x85 =>
      oCallF h72.length [] (primClone 1 8) [x85] h83 fun x86 h87 =>
      oBuildP [.s (.slice none 0 0), .s (.slice none 0 0), .s (.slice none 0 0)] [(0, none, x78), (2, none, x86)] fun x88 =>
      oNew (some h72.length) (some 3) x88 h87 fun x89 h90 =>
      finish objs.length (.ok (.tup [x89, x15, x71])) h90))
| _ => none

def tree_node_put_k1 (x3 : A) (objs : Heap) : Ex → List A → Heap → Option (Out × Heap) := fun e110 vs108 h109 =>
      (match e110 with
  | .normal => oCall tree_node_split [x3] h109 (fun v115 h116 => finish objs.length (.pan v115) h116) fun x113 h114 =>
      oExtract 0 x113 fun x117 =>
      oExtract 1 x113 fun x118 =>
      oExtract 2 x113 fun x119 =>
      finish objs.length (.ok (.tup [x117, x118, x119])) h114
  | .exit i111 => none
  | .ret => finish objs.length (.ok (.tup [(.s (.pointer none)), (.s (.int .u64 0)), (.s (.pointer none))])) h109
  | .panic v112 => finish objs.length (.pan v112) h109)

/-- (*bailey/tree.node).put -/
def tree_node_put_step (self : CallFn) : CallFn := fun args objs =>
match args with
| [a0, a1, a2] =>
oNew none (some 2) a2 objs fun x1 h2 =>
      oLend tree_node_clone [a0] h2 (fun v5 h6 => finish objs.length (.pan v5) h6) fun x3 h4 =>
      oLend tree_node_leaf [a0] h4 (fun v9 h10 => finish objs.length (.pan v9) h10) fun w124 h125 => oFrz w124 h125 fun x7 h8 =>
      oCond x7 (oNilCheck a0 fun x11 =>
      oFieldA 0 x11 fun x12 =>
      oLoad none x12 h8 fun x13 =>
      oLend slices_BinarySearch_Suint64_uint64 [x13, a1] h8 (fun v16 h17 => finish objs.length (.pan v16) h17) fun w59 h60 => oFrz w59 h60 fun x14 h15 =>
      oExtract 0 x14 fun x18 =>
      oExtract 1 x14 fun x19 =>
      oCond x19 (oNilCheck x3 fun x20 =>
      oFieldA 1 x20 fun x21 =>
      oLoadD h15.length [] none x21 h15 fun x22 h23 =>
      oLoadD h15.length [] (some 2) x1 h23 fun x24 h25 =>
      oIdxA 2 x22 x18 fun x26 =>
      oStore (some 2) x26 x24 h25 fun h27 =>
      finish objs.length (.ok (.tup [x3, (.s (.int .u64 0)), (.s (.pointer none))])) h27)
      (oNilCheck x3 fun x28 =>
      oFieldA 0 x28 fun x29 =>
      oLoadD h15.length (wrL h15 [(x3, true)]) none x29 (h15 ++ List.replicate 2 .res) fun x30 h31 =>
      oNewSlice (some h15.length) 1 (asRows none [a1]) h31 fun x32 h33 =>
      oCallW h15.length (wrL h15 [(x3, true)]) (primInsert 1 8) [x30, x18, x32] h33 fun x34 h35 =>
      oNilCheck x3 fun x36 =>
      oFieldA 1 x36 fun x37 =>
      oLoadD h15.length (wrL h15 [(x3, true)]) none x37 h35 fun x38 h39 =>
      oLoadD h15.length (wrL h15 [(x3, true)]) (some 2) x1 h39 fun x40 h41 =>
      oNewSlice (some (h15.length + 1)) 2 (asRows (some 2) [x40]) h41 fun x42 h43 =>
      oCallW h15.length (wrL h15 [(x3, true)]) (primInsert 2 16) [x38, x18, x42] h43 fun x44 h45 =>
      oNilCheck x3 fun x46 =>
      oFieldA 0 x46 fun x47 =>
      oStore none x47 x34 h45 fun h48 =>
      oNilCheck x3 fun x49 =>
      oFieldA 1 x49 fun x50 =>
      oStore none x50 x44 h48 fun h51 =>
      oCall tree_node_split [x3] h51 (fun v54 h55 => finish objs.length (.pan v54) h55) fun x52 h53 =>
      oExtract 0 x52 fun x56 =>
      oExtract 1 x52 fun x57 =>
      oExtract 2 x52 fun x58 =>
      finish objs.length (.ok (.tup [x56, x57, x58])) h53))
      (oLend tree_node_way [a0, a1] h8 (fun v63 h64 => finish objs.length (.pan v63) h64) fun w122 h123 => oFrz w122 h123 fun x61 h62 =>
      oNilCheck a0 fun x65 =>
      oFieldA 2 x65 fun x66 =>
      oLoadD h62.length [] none x66 h62 fun x67 h68 =>
      oIdxA 1 x67 x61 fun x69 =>
      oLoadD h62.length [] none x69 h68 fun x70 h71 =>
      oLoadD h62.length [] (some 2) x1 h71 fun x72 h73 =>
      oCallF h62.length [] self [x70, a1, x72] h73 fun w120 h121 => oFrz w120 h121 fun x74 h75 =>
      oExtract 0 x74 fun x76 =>
      oExtract 1 x74 fun x77 =>
      oExtract 2 x74 fun x78 =>
      oNilCheck x3 fun x79 =>
      oFieldA 2 x79 fun x80 =>
      oLoad none x80 h75 fun x81 =>
      oIdxA 1 x81 x61 fun x82 =>
      oStore none x82 x76 h75 fun h83 =>
      oJoin (oEqNil true x78 (.s (.pointer none)) fun x84 =>
      oCond x84 (oNilCheck x3 fun x85 =>
      oFieldA 0 x85 fun x86 =>
      oLoadD h83.length (wrL h83 [(x3, true)]) none x86 (h83 ++ List.replicate 2 .res) fun x87 h88 =>
      oNewSlice (some h83.length) 1 (asRows none [x77]) h88 fun x89 h90 =>
      oCallW h83.length (wrL h83 [(x3, true)]) (primInsert 1 8) [x87, x61, x89] h90 fun x91 h92 =>
      oNilCheck x3 fun x93 =>
      oFieldA 2 x93 fun x94 =>
      oLoadD h83.length (wrL h83 [(x3, true)]) none x94 h92 fun x95 h96 =>
      oAr .add x61 (.s (.int .i64 1)) fun x97 =>
      oNewSlice (some (h83.length + 1)) 1 (asRows none [x78]) h96 fun x98 h99 =>
      oCallW h83.length (wrL h83 [(x3, true)]) (primInsert 1 8) [x95, x97, x98] h99 fun x100 h101 =>
      oNilCheck x3 fun x102 =>
      oFieldA 0 x102 fun x103 =>
      oStore none x103 x91 h101 fun h104 =>
      oNilCheck x3 fun x105 =>
      oFieldA 2 x105 fun x106 =>
      oStore none x106 x100 h104 fun h107 =>
      (trim true h83.length [] h107).map fun p => (Ex.normal, p.1, p.2))
      ((trim true h83.length [] h83).map fun p => (Ex.normal, p.1, p.2))) (tree_node_put_k1 x3 objs))
| _ => none

def tree_node_put : Nat → CallFn
| 0 => fun _ _ => none
| n + 1 => tree_node_put_step (tree_node_put n)

def tree_Tree_Put_k1 (vs19 : List A) (objs : Heap) : Ex → List A → Heap → Option (Out × Heap) := fun e45 vs43 h44 =>
      (match e45 with
  | .normal => oBuildP [.s (.pointer none), .s (.int .i64 0)] [(0, none, (vs43.getD 0 .any)), (1, none, (vs19.getD 0 .any))] fun x48 =>
      oNew none (some 2) x48 h44 fun x49 h50 =>
      finish objs.length (.ok x49) h50
  | .exit i46 => none
  | .ret => finish objs.length (.ok (.s (.pointer none))) h44
  | .panic v47 => finish objs.length (.pan v47) h44)

def tree_Tree_Put_k2 (a0 : A) (x1 : A) (a1 : A) (objs : Heap) : Ex → List A → Heap → Option (Out × Heap) := fun e21 vs19 h20 =>
      (match e21 with
  | .normal => oNilCheck a0 fun x24 =>
      oFieldA 0 x24 fun x25 =>
      oLoadD h20.length [] none x25 h20 fun x26 h27 =>
      oLoadD h20.length [] (some 2) x1 h27 fun x28 h29 =>
      oCallF h20.length [] (tree_node_put big) [x26, a1, x28] h29 fun w51 h52 => oFrz w51 h52 fun x30 h31 =>
      oExtract 0 x30 fun x32 =>
      oExtract 1 x30 fun x33 =>
      oExtract 2 x30 fun x34 =>
      oJoin (oEqNil true x34 (.s (.pointer none)) fun x35 =>
      oCond x35 (oNewSlice none 1 (asRows none [x33]) h31 fun x36 h37 =>
      oNewSlice none 1 (asRows none [x32, x34]) h37 fun x38 h39 =>
      oBuildP [.s (.slice none 0 0), .s (.slice none 0 0), .s (.slice none 0 0)] [(0, none, x36), (2, none, x38)] fun x40 =>
      oNew none (some 3) x40 h39 fun x41 h42 =>
      (trim true h31.length [x41] h42).map fun p => (Ex.normal, p.1, p.2))
      ((trim true h31.length [x32] h31).map fun p => (Ex.normal, p.1, p.2))) (tree_Tree_Put_k1 vs19 objs)
  | .exit i22 => none
  | .ret => finish objs.length (.ok (.s (.pointer none))) h20
  | .panic v23 => finish objs.length (.pan v23) h20)

/-- (*bailey/tree.Tree).Put -/
def tree_Tree_Put : CallFn := fun args objs =>
match args with
| [a0, a1, a2] =>
oNew none (some 2) a2 objs fun x1 h2 =>
      oNilCheck a0 fun x3 =>
      oFieldA 1 x3 fun x4 =>
      oLoad none x4 h2 fun x5 =>
      oJoin (oLend tree_Tree_Get [a0, a1] h2 (fun v8 h9 => some (Ex.panic v8, [], h9)) fun w17 h18 => oFrz w17 h18 fun x6 h7 =>
      oExtract 0 x6 fun x10 =>
      oExtract 1 x6 fun x11 =>
      oNew none (some 2) (.agg [.s (.int .i64 0), .s (.int .i64 0)]) h7 fun x12 h13 =>
      oStore (some 2) x12 x10 h13 fun h14 =>
      oNot x11 fun x15 =>
      oCond x15 (oAr .add x5 (.s (.int .i64 1)) fun x16 =>
      (trim true h2.length [x16] h14).map fun p => (Ex.normal, p.1, p.2))
      ((trim true h2.length [x5] h14).map fun p => (Ex.normal, p.1, p.2))) (tree_Tree_Put_k2 a0 x1 a1 objs)
| _ => none

def tree_Tree_Range_c1_k1 (x1 : A) (a1 : A) (objs : Heap) : Ex → List A → Heap → Option (Out × Heap) := fun e16 vs14 h15 =>
      (match e16 with
  | .normal => oFieldA 0 x1 fun x19 =>
      oLoad none x19 h15 fun x20 =>
      oLoad none a1 h15 fun x21 =>
      oCmp .leq x20 x21 fun x22 =>
      finish objs.length (.ok x22) h15
  | .exit i17 => none
  | .ret => finish objs.length (.ok (.s (.bool false))) h15
  | .panic v18 => finish objs.length (.pan v18) h15)

/-- (*bailey/tree.Tree).Range$1 -/
def tree_Tree_Range_c1 : CallFn := fun args objs =>
match args with
| [a0, a1, a2] =>
oNew none (some 3) a0 objs fun x1 h2 =>
      oJoin (oFieldA 0 x1 fun x3 =>
      oLoad none x3 h2 fun x4 =>
      oLoad none a1 h2 fun x5 =>
      oCmp .leq x4 x5 fun x6 =>
      oCond x6 (oLoad none a2 h2 fun x7 =>
      oLoad (some 3) x1 h2 fun x8 =>
      oNewSlice none 3 (asRows (some 3) [x8]) h2 fun x9 h10 =>
      oAppend none 3 24 x7 x9 h10 fun x11 h12 =>
      oStore none a2 x11 h12 fun h13 =>
      (trim true h2.length [] h13).map fun p => (Ex.normal, p.1, p.2))
      ((trim true h2.length [] h2).map fun p => (Ex.normal, p.1, p.2))) (tree_Tree_Range_c1_k1 x1 a1 objs)
| _ => none

def tree_node_visit_k1 (h2 : Heap) (s9 : List A × Heap) : Ex → List A → Heap → Option ((List A × Heap) ⊕ (Ex × List A × Heap)) := fun e29 vs27 h28 =>
      (match e29 with
  | .normal => oCond (vs27.getD 0 .any) ((trim true h2.length [(.s (.bool false))] h28).map fun p => .inr (Ex.ret, p.1, p.2))
      (oAr .add (s9.1.getD 0 .any) (.s (.int .i64 1)) fun x32 =>
      (trim true h2.length [x32] h28).map .inl)
  | .exit i30 => if i30 = 1 then oAr .add (s9.1.getD 0 .any) (.s (.int .i64 1)) fun x33 =>
      (trim true h2.length [x33] h28).map .inl else (trim true h2.length [.any] h28).map fun p => .inr (Ex.exit i30, p.1, p.2)
  | .ret => (trim true h2.length [.any] h28).map fun p => .inr (Ex.ret, p.1, p.2)
  | .panic v31 => some (.inr (Ex.panic v31, [.any], h28)))

def tree_node_visit_l2 (En : String → CallFn) (x8 : A) (x7 : A) (a1 : A) (a0 : A) (a2 : A) (h2 : Heap) : List A × Heap → Option ((List A × Heap) ⊕ (Ex × List A × Heap)) := fun s9 =>
      oCmp .lss (s9.1.getD 0 .any) x8 fun x10 =>
      oCond x10 (oIdxA 1 x7 (s9.1.getD 0 .any) fun x11 =>
      oLoad none x11 s9.2 fun x12 =>
      oJoin (oCmp .geq x12 a1 fun x13 =>
      oGuard x13 true (fun _ => oNilCheck a0 fun x14 =>
      oFieldA 1 x14 fun x15 =>
      oLoad none x15 s9.2 fun x16 =>
      oIdxA 2 x16 (s9.1.getD 0 .any) fun x17 =>
      oLoad (some 2) x17 s9.2 fun x18 =>
      oBuildP [.s (.int .u64 0), .s (.int .i64 0), .s (.int .i64 0)] [(0, none, x12), (1, (some 2), x18)] fun x19 =>
      oCallV En a2 [x19] s9.2 (fun v22 h23 => some (Ex.panic v22, [], h23)) fun w25 h26 => oFrz w25 h26 fun x20 h21 =>
      oNot x20 fun x24 =>
      (trim true s9.2.length [x24] h21).map fun p => (Ex.normal, p.1, p.2))
      (fun _ => (trim true s9.2.length [(.s (.bool false))] s9.2).map fun p => (Ex.normal, p.1, p.2))) (tree_node_visit_k1 h2 s9))
      ((trim true h2.length [.any] s9.2).map fun p => .inr (Ex.exit 0, p.1, p.2))

def tree_node_visit_k3 (objs : Heap) : Ex → List A → Heap → Option (Out × Heap) := fun e34 vs35 h36 =>
      (match e34 with
  | .normal => none
  | .exit i37 => if i37 = 0 then finish objs.length (.ok (.s (.bool true))) h36 else none
  | .ret => finish objs.length (.ok (vs35.getD 0 .any)) h36
  | .panic v38 => finish objs.length (.pan v38) h36)

def tree_node_visit_l4 (self : CallFn) (x46 : A) (x45 : A) (a1 : A) (a2 : A) (h44 : Heap) : List A × Heap → Option ((List A × Heap) ⊕ (Ex × List A × Heap)) := fun s47 =>
      oCmp .lss (s47.1.getD 0 .any) x46 fun x48 =>
      oCond x48 (oIdxA 1 x45 (s47.1.getD 0 .any) fun x49 =>
      oLoad none x49 s47.2 fun x50 =>
      oCall self [x50, a1, a2] s47.2 (fun v53 h54 => some (.inr (Ex.panic v53, [.any], h54))) fun w57 h58 => oFrz w57 h58 fun x51 h52 =>
      oNot x51 fun x55 =>
      oCond x55 ((trim true h44.length [(.s (.bool false))] h52).map fun p => .inr (Ex.ret, p.1, p.2))
      (oAr .add (s47.1.getD 0 .any) (.s (.int .i64 1)) fun x56 =>
      (trim true h44.length [x56] h52).map .inl))
      ((trim true h44.length [.any] s47.2).map fun p => .inr (Ex.exit 2, p.1, p.2))

def tree_node_visit_k5 (objs : Heap) : Ex → List A → Heap → Option (Out × Heap) := fun e59 vs60 h61 =>
      (match e59 with
  | .normal => none
  | .exit i62 => if i62 = 2 then finish objs.length (.ok (.s (.bool true))) h61 else none
  | .ret => finish objs.length (.ok (vs60.getD 0 .any)) h61
  | .panic v63 => finish objs.length (.pan v63) h61)

/-- (*bailey/tree.node).visit -/
def tree_node_visit_step (En : String → CallFn) (self : CallFn) : CallFn := fun args objs =>
match args with
| [a0, a1, a2] =>
oLend tree_node_leaf [a0] objs (fun v3 h4 => finish objs.length (.pan v3) h4) fun w66 h67 => oFrz w66 h67 fun x1 h2 =>
      oCond x1 (oNilCheck a0 fun x5 =>
      oFieldA 0 x5 fun x6 =>
      oLoad none x6 h2 fun x7 =>
      oLen x7 fun x8 =>
      oLoop (tree_node_visit_l2 En x8 x7 a1 a0 a2 h2) ([(.s (.int .i64 0))], h2) (tree_node_visit_k3 objs))
      (oNilCheck a0 fun x39 =>
      oFieldA 2 x39 fun x40 =>
      oLoadD h2.length [] none x40 h2 fun x41 h42 =>
      oCallF h2.length [] tree_node_way [a0, a1] h42 fun w64 h65 => oFrz w64 h65 fun x43 h44 =>
      oSlice 1 x41 (some x43) none fun x45 =>
      oLen x45 fun x46 =>
      oLoop (tree_node_visit_l4 self x46 x45 a1 a2 h44) ([(.s (.int .i64 0))], h44) (tree_node_visit_k5 objs))
| _ => none

def tree_node_visit (En : String → CallFn) : Nat → CallFn
| 0 => fun _ _ => none
| n + 1 => tree_node_visit_step En (tree_node_visit En n)

def En_tree_Tree_Range : String → CallFn := fun n => if n = "(*bailey/tree.Tree).Range$1" then tree_Tree_Range_c1 else (fun _ _ => none)

/-- (*bailey/tree.Tree).Range -/
def tree_Tree_Range : CallFn := fun args objs =>
match args with
| [a0, a1, a2] =>
oNew none none a2 objs fun x1 h2 =>
      oNew none none (.s (.slice none 0 0)) h2 fun x3 h4 =>
      oNilCheck a0 fun x5 =>
      oFieldA 0 x5 fun x6 =>
      oLoad none x6 h4 fun x7 =>
      oCall (tree_node_visit (En_tree_Tree_Range) big) [x7, a1, (.fn "(*bailey/tree.Tree).Range$1" [x1, x3])] h4 (fun v10 h11 => finish objs.length (.pan v10) h11) fun w13 h14 => oFrz w13 h14 fun x8 h9 =>
      oLoad none x3 h9 fun x12 =>
      finish objs.length (.ok x12) h9
| _ => none

def law08_treeAlive_k1 (objs : Heap) (x1 : A) : Ex → List A → Heap → Option (Out × Heap) := fun e15 vs13 h14 =>
      (match e15 with
  | .normal => oCond (vs13.getD 0 .any) (finish objs.length (.ok (.s (.bool false))) h14)
      (oBuildP [.s (.int .i64 0), .s (.int .i64 0)] [(0, none, (.s (.int .i64 1))), (1, none, (.s (.int .i64 1)))] fun x18 =>
      oLend tree_Tree_Put [x1, (.s (.int .u64 5)), x18] h14 (fun v21 h22 => finish objs.length (.pan v21) h22) fun w69 h70 => oFrz w69 h70 fun x19 h20 =>
      oBuildP [.s (.int .i64 0), .s (.int .i64 0)] [(0, none, (.s (.int .i64 2))), (1, none, (.s (.int .i64 1)))] fun x23 =>
      oLend tree_Tree_Put [x19, (.s (.int .u64 3)), x23] h20 (fun v26 h27 => finish objs.length (.pan v26) h27) fun w67 h68 => oFrz w67 h68 fun x24 h25 =>
      oEqNil false x24 (.s (.pointer none)) fun x28 =>
      oCond x28 (finish objs.length (.ok (.s (.bool false))) h25)
      (oLend tree_Tree_Range [x24, (.s (.int .u64 0)), (.s (.int .u64 9))] h25 (fun v31 h32 => finish objs.length (.pan v31) h32) fun w65 h66 => oFrz w65 h66 fun x29 h30 =>
      oLen x29 fun x33 =>
      oCmp .eql x33 (.s (.int .i64 2)) fun x34 =>
      oGuard x34 true (fun _ => oIdxA 3 x29 (.s (.int .i64 0)) fun x35 =>
      oFieldA 0 x35 fun x36 =>
      oLoad none x36 h30 fun x37 =>
      oCmp .eql x37 (.s (.int .u64 3)) fun x38 =>
      oGuard x38 true (fun _ => oIdxA 3 x29 (.s (.int .i64 1)) fun x39 =>
      oFieldA 0 x39 fun x40 =>
      oLoad none x40 h30 fun x41 =>
      oCmp .eql x41 (.s (.int .u64 5)) fun x42 =>
      oGuard x42 true (fun _ => oLend tree_Tree_Nodes [x24] h30 (fun v45 h46 => finish objs.length (.pan v45) h46) fun w63 h64 => oFrz w63 h64 fun x43 h44 =>
      oLen x43 fun x47 =>
      oCmp .eql x47 (.s (.int .i64 1)) fun x48 =>
      oGuard x48 true (fun _ => oLend tree_Tree_Len [x24] h44 (fun v51 h52 => finish objs.length (.pan v51) h52) fun w61 h62 => oFrz w61 h62 fun x49 h50 =>
      oCmp .eql x49 (.s (.int .i64 2)) fun x53 =>
      oGuard x53 true (fun _ => oLend tree_Tree_Len [x1] h50 (fun v56 h57 => finish objs.length (.pan v56) h57) fun w59 h60 => oFrz w59 h60 fun x54 h55 =>
      oCmp .eql x54 (.s (.int .i64 0)) fun x58 =>
      finish objs.length (.ok x58) h55)
      (fun _ => finish objs.length (.ok (.s (.bool false))) h50))
      (fun _ => finish objs.length (.ok (.s (.bool false))) h44))
      (fun _ => finish objs.length (.ok (.s (.bool false))) h30))
      (fun _ => finish objs.length (.ok (.s (.bool false))) h30))
      (fun _ => finish objs.length (.ok (.s (.bool false))) h30)))
  | .exit i16 => none
  | .ret => finish objs.length (.ok (.s (.bool false))) h14
  | .panic v17 => finish objs.length (.pan v17) h14)

/-- bailey/baileylaw08.treeAlive -/
def law08_treeAlive : CallFn := fun args objs =>
match args with
| [] =>
oLend tree_New [] objs (fun v3 h4 => finish objs.length (.pan v3) h4) fun w71 h72 => oFrz w71 h72 fun x1 h2 =>
      oJoin (oEqNil false x1 (.s (.pointer none)) fun x5 =>
      oGuard x5 false (fun _ => oLend tree_Tree_Len [x1] h2 (fun v8 h9 => some (Ex.panic v8, [], h9)) fun w11 h12 => oFrz w11 h12 fun x6 h7 =>
      oCmp .neq x6 (.s (.int .i64 0)) fun x10 =>
      (trim true h2.length [x10] h7).map fun p => (Ex.normal, p.1, p.2))
      (fun _ => (trim true h2.length [(.s (.bool true))] h2).map fun p => (Ex.normal, p.1, p.2))) (law08_treeAlive_k1 objs x1)
| _ => none

/-- bailey/baileylaw08.TreeNames -/
def law08_TreeNames : CallFn := fun args objs =>
match args with
| [] =>
oLend tree_New [] objs (fun v3 h4 => finish objs.length (.pan v3) h4) fun w32 h33 => oFrz w32 h33 fun x1 h2 =>
      oLend tree_Tree_Nodes [x1] h2 (fun v7 h8 => finish objs.length (.pan v7) h8) fun w30 h31 => oFrz w30 h31 fun x5 h6 =>
      oCallF h6.length [] law08_treeAlive [] h6 fun w28 h29 => oFrz w28 h29 fun x9 h10 =>
      oPick x9 (.s (.bool true)) (.s (.bool false)) fun x11 =>
      oPick x11 (.s (.bool true)) (.s (.bool false)) fun x12 =>
      oPick x12 (.s (.bool true)) (.s (.bool false)) fun x13 =>
      oGuard x13 true (fun _ => oLen x5 fun x14 =>
      oCmp .eql x14 (.s (.int .i64 1)) fun x15 =>
      oGuard x15 true (fun _ => oIdxA 3 x5 (.s (.int .i64 0)) fun x16 =>
      oFieldA 0 x16 fun x17 =>
      oLoadD h6.length [] none x17 h10 fun x18 h19 =>
      oLen x18 fun x20 =>
      oIdxA 3 x5 (.s (.int .i64 0)) fun x21 =>
      oFieldA 2 x21 fun x22 =>
      oLoadD h6.length [] none x22 h19 fun x23 h24 =>
      oLen x23 fun x25 =>
      oAr .add x20 x25 fun x26 =>
      oCmp .eql x26 (.s (.int .i64 0)) fun x27 =>
      finish objs.length (.ok x27) h24)
      (fun _ => finish objs.length (.ok (.s (.bool false))) h10))
      (fun _ => finish objs.length (.ok (.s (.bool false))) h10)
| _ => none

end Go.Ab.F
