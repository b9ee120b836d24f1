/-
 THE PROGRAM'S FUNCTIONS OVER VALUES WITHOUT ADDRESSES. Written by a program (emit.py).
-/
import Derived.Test.YtocnjegcmmfpfaaAbsPrim
set_option maxRecDepth 100000
set_option linter.unusedVariables false
namespace Go.Ab.F
open Go Go.Ab
def qiT : CallFn := fun args objs =>
match args with
| [] =>
oBuildP [.s (.slice none 0 0), .s (.slice none 0 0), .s (.slice none 0 0)] [] fun x1 =>
 oNew none (some 3) x1 objs fun x2 h3 =>
 oBuildP [.s (.pointer none), .s (.int .i64 0)] [(0, none, x2)] fun x4 =>
 oNew none (some 2) x4 h3 fun x5 h6 =>
 finish objs.length (.ok x5) h6
| _ => none
def qbd : CallFn := fun args objs =>
match args with
| [a0] =>
qa0 a0 fun x1 =>
 oFieldA 1 x1 fun x2 =>
 oLoad none x2 objs fun x3 =>
 finish objs.length (.ok x3) objs
| _ => none
def qar : CallFn := fun args objs =>
match args with
| [a0] =>
qa0 a0 fun x1 =>
 oFieldA 2 x1 fun x2 =>
 oLoad none x2 objs fun x3 =>
 oLen x3 fun x4 =>
 oCmp .eql x4 (.s (.int .i64 0)) fun x5 =>
 finish objs.length (.ok x5) objs
| _ => none
def qbq : CallFn := fun args objs =>
match args with
| [a0] =>
oCmp .neq a0 a0 fun x1 =>
 finish objs.length (.ok x1) objs
| _ => none
def qbM : CallFn := fun args objs =>
match args with
| [a0, a1] =>
oLend qbq [a0] objs (fun v3 h4 => finish objs.length (.pan v3) h4) fun w14 h15 => oFrz w14 h15 fun x1 h2 =>
      oGuard x1 true (fun _ => oLend qbq [a1] h2 (fun v7 h8 => finish objs.length (.pan v7) h8) fun w11 h12 => oFrz w11 h12 fun x5 h6 =>
      oNot x5 fun x9 =>
      oGuard x9 false (fun _ => oCmp .lss a0 a1 fun x10 =>
      finish objs.length (.ok x10) h6)
      (fun _ => finish objs.length (.ok (.s (.bool true))) h6))
      (fun _ => oCmp .lss a0 a1 fun x13 =>
      finish objs.length (.ok x13) h2)
| _ => none
def qb5 : CallFn := fun args objs =>
match args with
| [a0] =>
oCmp .neq a0 a0 fun x1 =>
 finish objs.length (.ok x1) objs
| _ => none
def qax (a0 : A) (a1 : A) (objs : Heap) : List A × Heap → Option ((List A × Heap) ⊕ (Ex × List A × Heap)) := fun s2 =>
 oCmp .lss (s2.1.getD 0 .any) (s2.1.getD 1 .any) fun x3 =>
 oCond x3 (oAr .add (s2.1.getD 0 .any) (s2.1.getD 1 .any) fun x4 =>
 oConv .u64 x4 fun x5 =>
 oShift .shr x5 (.s (.int .u64 1)) fun x6 =>
 oConv .i64 x6 fun x7 =>
 oIdxA 1 a0 x7 fun x8 =>
 oLoad none x8 s2.2 fun x9 =>
 oLend qbM [x9, a1] s2.2 (fun v12 h13 => some (.inr (Ex.panic v12, [.any], h13))) fun w15 h16 => oFrz w15 h16 fun x10 h11 =>
 oCond x10 (oAr .add x7 (.s (.int .i64 1)) fun x14 =>
 (trim true objs.length [x14, (s2.1.getD 1 .any)] h11).map .inl)
 ((trim true objs.length [(s2.1.getD 0 .any), x7] h11).map .inl))
 ((trim true objs.length [(s2.1.getD 0 .any)] s2.2).map fun p => .inr (Ex.exit 0, p.1, p.2))
def qaN (x1 : A) (a0 : A) (a1 : A) (objs : Heap) : Ex → List A → Heap → Option (Out × Heap) := fun e17 vs18 h19 =>
 (match e17 with
 | .normal => none
 | .exit i20 => if i20 = 0 then oCmp .lss (vs18.getD 0 .any) x1 fun x22 =>
  oGuard x22 true (fun _ => oIdxA 1 a0 (vs18.getD 0 .any) fun x23 =>
  oLoad none x23 h19 fun x24 =>
  oCmp .eql x24 a1 fun x25 =>
  oGuard x25 false (fun _ => oIdxA 1 a0 (vs18.getD 0 .any) fun x26 =>
  oLoad none x26 h19 fun x27 =>
  oLend qb5 [x27] h19 (fun v30 h31 => finish objs.length (.pan v30) h31) fun w38 h39 => oFrz w38 h39 fun x28 h29 =>
  oGuard x28 true (fun _ => oLend qb5 [a1] h29 (fun v34 h35 => finish objs.length (.pan v34) h35) fun w36 h37 => oFrz w36 h37 fun x32 h33 =>
  finish objs.length (.ok (.tup [(vs18.getD 0 .any), x32])) h33)
  (fun _ => finish objs.length (.ok (.tup [(vs18.getD 0 .any), (.s (.bool false))])) h29))
  (fun _ => finish objs.length (.ok (.tup [(vs18.getD 0 .any), (.s (.bool true))])) h19))
  (fun _ => finish objs.length (.ok (.tup [(vs18.getD 0 .any), (.s (.bool false))])) h19) else none
 | .ret => finish objs.length (.ok (.tup [(.s (.int .i64 0)), (.s (.bool false))])) h19
 | .panic v21 => finish objs.length (.pan v21) h19)
def qa6 : CallFn := fun args objs =>
match args with
| [a0, a1] =>
oLen a0 fun x1 =>
 oLoop (qax a0 a1 objs) ([(.s (.int .i64 0)), x1], objs) (qaN x1 a0 a1 objs)
| _ => none
def qek (objs : Heap) : Ex → List A → Heap → Option (Out × Heap) := fun e13 vs11 h12 =>
 (match e13 with
 | .normal => finish objs.length (.ok (vs11.getD 0 .any)) h12
 | .exit i14 => none
 | .ret => finish objs.length (.ok (.s (.int .i64 0))) h12
 | .panic v15 => finish objs.length (.pan v15) h12)
def qaU : CallFn := fun args objs =>
match args with
| [a0, a1] =>
qa0 a0 fun x1 =>
 oFieldA 0 x1 fun x2 =>
 oLoad none x2 objs fun x3 =>
 oLend qa6 [x3, a1] objs (fun v6 h7 => finish objs.length (.pan v6) h7) fun w16 h17 => oFrz w16 h17 fun x4 h5 =>
 qae 0 x4 fun x8 =>
 qae 1 x4 fun x9 =>
 oJoin (oCond x9 (oAr .add x8 (.s (.int .i64 1)) fun x10 =>
 (trim true h5.length [x10] h5).map fun p => (Ex.normal, p.1, p.2))
 ((trim true h5.length [x8] h5).map fun p => (Ex.normal, p.1, p.2))) (qek objs)
| _ => none
def qcj (a1 : A) (h2 : Heap) : List A × Heap → Option ((List A × Heap) ⊕ (Ex × List A × Heap)) := fun s6 =>
 oLend qar [(s6.1.getD 0 .any)] s6.2 (fun v9 h10 => some (.inr (Ex.panic v9, [.any], h10))) fun w23 h24 => oFrz w23 h24 fun x7 h8 =>
 oNot x7 fun x11 =>
 oCond x11 (qa0 (s6.1.getD 0 .any) fun x12 =>
 oFieldA 2 x12 fun x13 =>
 oLoadD h8.length [] none x13 h8 fun x14 h15 =>
 oCallF h8.length [] qaU [(s6.1.getD 0 .any), a1] h15 fun w21 h22 => oFrz w21 h22 fun x16 h17 =>
 oIdxA 1 x14 x16 fun x18 =>
 oLoadD h8.length [] none x18 h17 fun x19 h20 =>
 (trim true h2.length [x19] h20).map .inl)
 ((trim true h2.length [(s6.1.getD 0 .any)] h8).map fun p => .inr (Ex.exit 0, p.1, p.2))
def qdl (a1 : A) (objs : Heap) (x1 : A) : Ex → List A → Heap → Option (Out × Heap) := fun e25 vs26 h27 =>
 (match e25 with
 | .normal => none
 | .exit i28 => if i28 = 0 then qa0 (vs26.getD 0 .any) fun x30 =>
  oFieldA 0 x30 fun x31 =>
  oLoad none x31 h27 fun x32 =>
  oLend qa6 [x32, a1] h27 (fun v35 h36 => finish objs.length (.pan v35) h36) fun w49 h50 => oFrz w49 h50 fun x33 h34 =>
  qae 0 x33 fun x37 =>
  qae 1 x33 fun x38 =>
  oCond x38 (qa0 (vs26.getD 0 .any) fun x39 =>
  oFieldA 1 x39 fun x40 =>
  oLoad none x40 h34 fun x41 =>
  oIdxA 2 x41 x37 fun x42 =>
  oLoad (some 2) x42 h34 fun x43 =>
  oStore (some 2) x1 x43 h34 fun h44 =>
  oLoad (some 2) x1 h44 fun r45 =>
  finish objs.length (.ok (.tup [r45, (.s (.bool true))])) h44)
  (oBuildP [.s (.int .i64 0), .s (.int .i64 0)] [] fun x46 =>
  oStore (some 2) x1 x46 h34 fun h47 =>
  oLoad (some 2) x1 h47 fun r48 =>
  finish objs.length (.ok (.tup [r48, (.s (.bool false))])) h47) else none
 | .ret => oLoad (some 2) x1 h27 fun r51 =>
  finish objs.length (.ok (.tup [r51, (.s (.bool false))])) h27
 | .panic v29 => finish objs.length (.pan v29) h27)
def qbn : CallFn := fun args objs =>
match args with
| [a0, a1] =>
oNew none (some 2) (.agg [.s (.int .i64 0), .s (.int .i64 0)]) objs fun x1 h2 =>
 qa0 a0 fun x3 =>
 oFieldA 0 x3 fun x4 =>
 oLoad none x4 h2 fun x5 =>
 oLoop (qcj a1 h2) ([x5], h2) (qdl a1 objs x1)
| _ => none
def qbm : CallFn := fun args objs =>
match args with
| [a0] =>
qa0 a0 fun x1 =>
 oFieldA 0 x1 fun x2 =>
 oLoadD objs.length [] none x2 (objs ++ List.replicate 1 .res) fun x3 h4 =>
 oCallF objs.length [] (qa8 1 8) [x3] h4 fun x5 h6 =>
 qa0 a0 fun x7 =>
 oFieldA 1 x7 fun x8 =>
 oLoadD objs.length [] none x8 h6 fun x9 h10 =>
 oCallF objs.length [] (qa8 2 16) [x9] h10 fun x11 h12 =>
 qa0 a0 fun x13 =>
 oFieldA 2 x13 fun x14 =>
 oLoadD objs.length [] none x14 h12 fun x15 h16 =>
 oCallF objs.length [] (qa8 1 8) [x15] h16 fun x17 h18 =>
 oBuildP [.s (.slice none 0 0), .s (.slice none 0 0), .s (.slice none 0 0)] [(0, none, x5), (1, none, x11), (2, none, x17)] fun x19 =>
 oNew (some objs.length) (some 3) x19 h18 fun x20 h21 =>
 finish objs.length (.ok x20) h21
| _ => none
def qan : CallFn := fun args objs =>
match args with
| [a0] =>
qa0 a0 fun x1 =>
 oFieldA 0 x1 fun x2 =>
 oLoad none x2 objs fun x3 =>
 oLen x3 fun x4 =>
 oCmp .leq x4 (.s (.int .i64 7)) fun x5 =>
 oCond x5 (finish objs.length (.ok (.tup [a0, (.s (.int .u64 0)), (.s (.pointer none))])) objs)
 (qa0 a0 fun x6 =>
 oFieldA 0 x6 fun x7 =>
 oLoad none x7 objs fun x8 =>
 oLen x8 fun x9 =>
 oAr .quo x9 (.s (.int .i64 2)) fun x10 =>
 qa0 a0 fun x11 =>
 oFieldA 0 x11 fun x12 =>
 oLoad none x12 objs fun x13 =>
 oIdxA 1 x13 x10 fun x14 =>
 oLoad none x14 objs fun x15 =>
 oLend qar [a0] objs (fun v18 h19 => finish objs.length (.pan v18) h19) fun w91 h92 => oFrz w91 h92 fun x16 h17 =>
 oCond x16 (qa0 a0 fun x20 =>
 oFieldA 0 x20 fun x21 =>
 oLoadD h17.length [] none x21 (h17 ++ List.replicate 1 .res) fun x22 h23 =>
 oSlice 1 x22 (some x10) none fun x24 =>
 oCallF h17.length [] (qa8 1 8) [x24] h23 fun x25 h26 =>
 qa0 a0 fun x27 =>
 oFieldA 1 x27 fun x28 =>
 oLoadD h17.length [] none x28 h26 fun x29 h30 =>
 oSlice 2 x29 (some x10) none fun x31 =>
 oCallF h17.length [] (qa8 2 16) [x31] h30 fun x32 h33 =>
 oBuildP [.s (.slice none 0 0), .s (.slice none 0 0), .s (.slice none 0 0)] [(0, none, x25), (1, none, x32)] fun x34 =>
 oNew (some h17.length) (some 3) x34 h33 fun x35 h36 =>
 qa0 a0 fun x37 =>
 oFieldA 0 x37 fun x38 =>
 oLoadD h36.length [] none x38 (h36 ++ List.replicate 1 .res) fun x39 h40 =>
 oSlice 1 x39 none (some x10) fun x41 =>
 oCallF h36.length [] (qa8 1 8) [x41] h40 fun x42 h43 =>
 qa0 a0 fun x44 =>
 oFieldA 1 x44 fun x45 =>
 oLoadD h36.length [] none x45 h43 fun x46 h47 =>
 oSlice 2 x46 none (some x10) fun x48 =>
 oCallF h36.length [] (qa8 2 16) [x48] h47 fun x49 h50 =>
 oBuildP [.s (.slice none 0 0), .s (.slice none 0 0), .s (.slice none 0 0)] [(0, none, x42), (1, none, x49)] fun x51 =>
 oNew (some h36.length) (some 3) x51 h50 fun x52 h53 =>
 finish objs.length (.ok (.tup [x52, x15, x35])) h53)
 (qa0 a0 fun x54 =>
 oFieldA 0 x54 fun x55 =>
 oLoadD h17.length [] none x55 (h17 ++ List.replicate 1 .res) fun x56 h57 =>
 oAr .add x10 (.s (.int .i64 1)) fun x58 =>
 oSlice 1 x56 (some x58) none fun x59 =>
 oCallF h17.length [] (qa8 1 8) [x59] h57 fun x60 h61 =>
 qa0 a0 fun x62 =>
 oFieldA 2 x62 fun x63 =>
 oLoadD h17.length [] none x63 h61 fun x64 h65 =>
 oAr .add x10 (.s (.int .i64 1)) fun x66 =>
 oSlice 1 x64 (some x66) none fun x67 =>
 oCallK h17.length [] (qa8 1 8) [x67] h65 fun x68 h69 =>
 oBuildP [.s (.slice none 0 0), .s (.slice none 0 0), .s (.slice none 0 0)] [(0, none, x60), (2, none, x68)] fun x70 =>
 oNew (some h17.length) (some 3) x70 h69 fun x71 h72 =>
 qa0 a0 fun x73 =>
 oFieldA 0 x73 fun x74 =>
 oLoadD h72.length [] none x74 (h72 ++ List.replicate 1 .res) fun x75 h76 =>
 oSlice 1 x75 none (some x10) fun x77 =>
 oCallF h72.length [] (qa8 1 8) [x77] h76 fun x78 h79 =>
 qa0 a0 fun x80 =>
 oFieldA 2 x80 fun x81 =>
 oLoadD h72.length [] none x81 h79 fun x82 h83 =>
 oAr .add x10 (.s (.int .i64 1)) fun x84 =>
 oSlice 1 x82 none (some x84) fun x85 =>
 oCallK h72.length [] (qa8 1 8) [x85] h83 fun x86 h87 =>
 oBuildP [.s (.slice none 0 0), .s (.slice none 0 0), .s (.slice none 0 0)] [(0, none, x78), (2, none, x86)] fun x88 =>
 oNew (some h72.length) (some 3) x88 h87 fun x89 h90 =>
 finish objs.length (.ok (.tup [x89, x15, x71])) h90))
| _ => none
def qch (x3 : A) (objs : Heap) : Ex → List A → Heap → Option (Out × Heap) := fun e110 vs108 h109 =>
 (match e110 with
 | .normal => oCall qan [x3] h109 (fun v115 h116 => finish objs.length (.pan v115) h116) fun x113 h114 =>
  qae 0 x113 fun x117 =>
  qae 1 x113 fun x118 =>
  qae 2 x113 fun x119 =>
  finish objs.length (.ok (.tup [x117, x118, x119])) h114
 | .exit i111 => none
 | .ret => finish objs.length (.ok (.tup [(.s (.pointer none)), (.s (.int .u64 0)), (.s (.pointer none))])) h109
 | .panic v112 => finish objs.length (.pan v112) h109)
def qaQ (self : CallFn) : CallFn := fun args objs =>
match args with
| [a0, a1, a2] =>
oNew none (some 2) a2 objs fun x1 h2 =>
 oLend qbm [a0] h2 (fun v5 h6 => finish objs.length (.pan v5) h6) fun x3 h4 =>
 oLend qar [a0] h4 (fun v9 h10 => finish objs.length (.pan v9) h10) fun w124 h125 => oFrz w124 h125 fun x7 h8 =>
 oCond x7 (qa0 a0 fun x11 =>
 oFieldA 0 x11 fun x12 =>
 oLoad none x12 h8 fun x13 =>
 oLend qa6 [x13, a1] h8 (fun v16 h17 => finish objs.length (.pan v16) h17) fun w59 h60 => oFrz w59 h60 fun x14 h15 =>
 qae 0 x14 fun x18 =>
 qae 1 x14 fun x19 =>
 oCond x19 (qa0 x3 fun x20 =>
 oFieldA 1 x20 fun x21 =>
 oLoadD h15.length [] none x21 h15 fun x22 h23 =>
 oLoadD h15.length [] (some 2) x1 h23 fun x24 h25 =>
 oIdxA 2 x22 x18 fun x26 =>
 oStore (some 2) x26 x24 h25 fun h27 =>
 finish objs.length (.ok (.tup [x3, (.s (.int .u64 0)), (.s (.pointer none))])) h27)
 (qa0 x3 fun x28 =>
 oFieldA 0 x28 fun x29 =>
 oLoadD h15.length (wrL h15 [(x3, true)]) none x29 (h15 ++ List.replicate 2 .res) fun x30 h31 =>
 qah (some h15.length) 1 (asRows none [a1]) h31 fun x32 h33 =>
 oCallW h15.length (wrL h15 [(x3, true)]) (qaO 1 8) [x30, x18, x32] h33 fun x34 h35 =>
 qa0 x3 fun x36 =>
 oFieldA 1 x36 fun x37 =>
 oLoadD h15.length (wrL h15 [(x3, true)]) none x37 h35 fun x38 h39 =>
 oLoadD h15.length (wrL h15 [(x3, true)]) (some 2) x1 h39 fun x40 h41 =>
 qah (some (h15.length + 1)) 2 (asRows (some 2) [x40]) h41 fun x42 h43 =>
 oCallW h15.length (wrL h15 [(x3, true)]) (qaO 2 16) [x38, x18, x42] h43 fun x44 h45 =>
 qa0 x3 fun x46 =>
 oFieldA 0 x46 fun x47 =>
 oStore none x47 x34 h45 fun h48 =>
 qa0 x3 fun x49 =>
 oFieldA 1 x49 fun x50 =>
 oStore none x50 x44 h48 fun h51 =>
 oCall qan [x3] h51 (fun v54 h55 => finish objs.length (.pan v54) h55) fun x52 h53 =>
 qae 0 x52 fun x56 =>
 qae 1 x52 fun x57 =>
 qae 2 x52 fun x58 =>
 finish objs.length (.ok (.tup [x56, x57, x58])) h53))
 (oLend qaU [a0, a1] h8 (fun v63 h64 => finish objs.length (.pan v63) h64) fun w122 h123 => oFrz w122 h123 fun x61 h62 =>
 qa0 a0 fun x65 =>
 oFieldA 2 x65 fun x66 =>
 oLoadD h62.length [] none x66 h62 fun x67 h68 =>
 oIdxA 1 x67 x61 fun x69 =>
 oLoadD h62.length [] none x69 h68 fun x70 h71 =>
 oLoadD h62.length [] (some 2) x1 h71 fun x72 h73 =>
 oCallF h62.length [] self [x70, a1, x72] h73 fun w120 h121 => oFrz w120 h121 fun x74 h75 =>
 qae 0 x74 fun x76 =>
 qae 1 x74 fun x77 =>
 qae 2 x74 fun x78 =>
 qa0 x3 fun x79 =>
 oFieldA 2 x79 fun x80 =>
 oLoad none x80 h75 fun x81 =>
 oIdxA 1 x81 x61 fun x82 =>
 oStore none x82 x76 h75 fun h83 =>
 oJoin (oEqNil true x78 (.s (.pointer none)) fun x84 =>
 oCond x84 (qa0 x3 fun x85 =>
 oFieldA 0 x85 fun x86 =>
 oLoadD h83.length (wrL h83 [(x3, true)]) none x86 (h83 ++ List.replicate 2 .res) fun x87 h88 =>
 qah (some h83.length) 1 (asRows none [x77]) h88 fun x89 h90 =>
 oCallW h83.length (wrL h83 [(x3, true)]) (qaO 1 8) [x87, x61, x89] h90 fun x91 h92 =>
 qa0 x3 fun x93 =>
 oFieldA 2 x93 fun x94 =>
 oLoadD h83.length (wrL h83 [(x3, true)]) none x94 h92 fun x95 h96 =>
 oAr .add x61 (.s (.int .i64 1)) fun x97 =>
 qah (some (h83.length + 1)) 1 (asRows none [x78]) h96 fun x98 h99 =>
 oCallW h83.length (wrL h83 [(x3, true)]) (qaO 1 8) [x95, x97, x98] h99 fun x100 h101 =>
 qa0 x3 fun x102 =>
 oFieldA 0 x102 fun x103 =>
 oStore none x103 x91 h101 fun h104 =>
 qa0 x3 fun x105 =>
 oFieldA 2 x105 fun x106 =>
 oStore none x106 x100 h104 fun h107 =>
 (trim true h83.length [] h107).map fun p => (Ex.normal, p.1, p.2))
 ((trim true h83.length [] h83).map fun p => (Ex.normal, p.1, p.2))) (qch x3 objs))
| _ => none
def qdD : Nat → CallFn
| 0 => fun _ _ => none
| n + 1 => qaQ (qdD n)
def qdk (vs19 : List A) (objs : Heap) : Ex → List A → Heap → Option (Out × Heap) := fun e45 vs43 h44 =>
 (match e45 with
 | .normal => oBuildP [.s (.pointer none), .s (.int .i64 0)] [(0, none, (vs43.getD 0 .any)), (1, none, (vs19.getD 0 .any))] fun x48 =>
  oNew none (some 2) x48 h44 fun x49 h50 =>
  finish objs.length (.ok x49) h50
 | .exit i46 => none
 | .ret => finish objs.length (.ok (.s (.pointer none))) h44
 | .panic v47 => finish objs.length (.pan v47) h44)
def qdj (a0 : A) (x1 : A) (a1 : A) (objs : Heap) : Ex → List A → Heap → Option (Out × Heap) := fun e21 vs19 h20 =>
 (match e21 with
 | .normal => qa0 a0 fun x24 =>
  oFieldA 0 x24 fun x25 =>
  oLoadD h20.length [] none x25 h20 fun x26 h27 =>
  oLoadD h20.length [] (some 2) x1 h27 fun x28 h29 =>
  oCallF h20.length [] (qdD big) [x26, a1, x28] h29 fun w51 h52 => oFrz w51 h52 fun x30 h31 =>
  qae 0 x30 fun x32 =>
  qae 1 x30 fun x33 =>
  qae 2 x30 fun x34 =>
  oJoin (oEqNil true x34 (.s (.pointer none)) fun x35 =>
  oCond x35 (qah none 1 (asRows none [x33]) h31 fun x36 h37 =>
  qah none 1 (asRows none [x32, x34]) h37 fun x38 h39 =>
  oBuildP [.s (.slice none 0 0), .s (.slice none 0 0), .s (.slice none 0 0)] [(0, none, x36), (2, none, x38)] fun x40 =>
  oNew none (some 3) x40 h39 fun x41 h42 =>
  (trim true h31.length [x41] h42).map fun p => (Ex.normal, p.1, p.2))
  ((trim true h31.length [x32] h31).map fun p => (Ex.normal, p.1, p.2))) (qdk vs19 objs)
 | .exit i22 => none
 | .ret => finish objs.length (.ok (.s (.pointer none))) h20
 | .panic v23 => finish objs.length (.pan v23) h20)
def qaW : CallFn := fun args objs =>
match args with
| [a0, a1, a2] =>
oNew none (some 2) a2 objs fun x1 h2 =>
 qa0 a0 fun x3 =>
 oFieldA 1 x3 fun x4 =>
 oLoad none x4 h2 fun x5 =>
 oJoin (oLend qbn [a0, a1] h2 (fun v8 h9 => some (Ex.panic v8, [], h9)) fun w17 h18 => oFrz w17 h18 fun x6 h7 =>
 qae 0 x6 fun x10 =>
 qae 1 x6 fun x11 =>
 oNew none (some 2) (.agg [.s (.int .i64 0), .s (.int .i64 0)]) h7 fun x12 h13 =>
 oStore (some 2) x12 x10 h13 fun h14 =>
 oNot x11 fun x15 =>
 oCond x15 (oAr .add x5 (.s (.int .i64 1)) fun x16 =>
 (trim true h2.length [x16] h14).map fun p => (Ex.normal, p.1, p.2))
 ((trim true h2.length [x5] h14).map fun p => (Ex.normal, p.1, p.2))) (qdj a0 x1 a1 objs)
| _ => none
def qbx (x1 : A) (a1 : A) (objs : Heap) : Ex → List A → Heap → Option (Out × Heap) := fun e16 vs14 h15 =>
 (match e16 with
 | .normal => oFieldA 0 x1 fun x19 =>
  oLoad none x19 h15 fun x20 =>
  oLoad none a1 h15 fun x21 =>
  oCmp .leq x20 x21 fun x22 =>
  finish objs.length (.ok x22) h15
 | .exit i17 => none
 | .ret => finish objs.length (.ok (.s (.bool false))) h15
 | .panic v18 => finish objs.length (.pan v18) h15)
def qaF : CallFn := fun args objs =>
match args with
| [a0, a1, a2] =>
oNew none (some 3) a0 objs fun x1 h2 =>
 oJoin (oFieldA 0 x1 fun x3 =>
 oLoad none x3 h2 fun x4 =>
 oLoad none a1 h2 fun x5 =>
 oCmp .leq x4 x5 fun x6 =>
 oCond x6 (oLoad none a2 h2 fun x7 =>
 oLoad (some 3) x1 h2 fun x8 =>
 qah none 3 (asRows (some 3) [x8]) h2 fun x9 h10 =>
 oAppend none 3 24 x7 x9 h10 fun x11 h12 =>
 oStore none a2 x11 h12 fun h13 =>
 (trim true h2.length [] h13).map fun p => (Ex.normal, p.1, p.2))
 ((trim true h2.length [] h2).map fun p => (Ex.normal, p.1, p.2))) (qbx x1 a1 objs)
| _ => none
def qct (h2 : Heap) (s9 : List A × Heap) : Ex → List A → Heap → Option ((List A × Heap) ⊕ (Ex × List A × Heap)) := fun e29 vs27 h28 =>
 (match e29 with
 | .normal => oCond (vs27.getD 0 .any) ((trim true h2.length [(.s (.bool false))] h28).map fun p => .inr (Ex.ret, p.1, p.2))
  (oAr .add (s9.1.getD 0 .any) (.s (.int .i64 1)) fun x32 =>
  (trim true h2.length [x32] h28).map .inl)
 | .exit i30 => if i30 = 1 then oAr .add (s9.1.getD 0 .any) (.s (.int .i64 1)) fun x33 =>
  (trim true h2.length [x33] h28).map .inl else (trim true h2.length [.any] h28).map fun p => .inr (Ex.exit i30, p.1, p.2)
 | .ret => (trim true h2.length [.any] h28).map fun p => .inr (Ex.ret, p.1, p.2)
 | .panic v31 => some (.inr (Ex.panic v31, [.any], h28)))
def qbl (En : String → CallFn) (x8 : A) (x7 : A) (a1 : A) (a0 : A) (a2 : A) (h2 : Heap) : List A × Heap → Option ((List A × Heap) ⊕ (Ex × List A × Heap)) := fun s9 =>
 oCmp .lss (s9.1.getD 0 .any) x8 fun x10 =>
 oCond x10 (oIdxA 1 x7 (s9.1.getD 0 .any) fun x11 =>
 oLoad none x11 s9.2 fun x12 =>
 oJoin (oCmp .geq x12 a1 fun x13 =>
 oGuard x13 true (fun _ => qa0 a0 fun x14 =>
 oFieldA 1 x14 fun x15 =>
 oLoad none x15 s9.2 fun x16 =>
 oIdxA 2 x16 (s9.1.getD 0 .any) fun x17 =>
 oLoad (some 2) x17 s9.2 fun x18 =>
 oBuildP [.s (.int .u64 0), .s (.int .i64 0), .s (.int .i64 0)] [(0, none, x12), (1, (some 2), x18)] fun x19 =>
 oCallV En a2 [x19] s9.2 (fun v22 h23 => some (Ex.panic v22, [], h23)) fun w25 h26 => oFrz w25 h26 fun x20 h21 =>
 oNot x20 fun x24 =>
 (trim true s9.2.length [x24] h21).map fun p => (Ex.normal, p.1, p.2))
 (fun _ => (trim true s9.2.length [(.s (.bool false))] s9.2).map fun p => (Ex.normal, p.1, p.2))) (qct h2 s9))
 ((trim true h2.length [.any] s9.2).map fun p => .inr (Ex.exit 0, p.1, p.2))
def qdC (objs : Heap) : Ex → List A → Heap → Option (Out × Heap) := fun e34 vs35 h36 =>
 (match e34 with
 | .normal => none
 | .exit i37 => if i37 = 0 then finish objs.length (.ok (.s (.bool true))) h36 else none
 | .ret => finish objs.length (.ok (vs35.getD 0 .any)) h36
 | .panic v38 => finish objs.length (.pan v38) h36)
def qbA (self : CallFn) (x46 : A) (x45 : A) (a1 : A) (a2 : A) (h44 : Heap) : List A × Heap → Option ((List A × Heap) ⊕ (Ex × List A × Heap)) := fun s47 =>
 oCmp .lss (s47.1.getD 0 .any) x46 fun x48 =>
 oCond x48 (oIdxA 1 x45 (s47.1.getD 0 .any) fun x49 =>
 oLoad none x49 s47.2 fun x50 =>
 oCall self [x50, a1, a2] s47.2 (fun v53 h54 => some (.inr (Ex.panic v53, [.any], h54))) fun w57 h58 => oFrz w57 h58 fun x51 h52 =>
 oNot x51 fun x55 =>
 oCond x55 ((trim true h44.length [(.s (.bool false))] h52).map fun p => .inr (Ex.ret, p.1, p.2))
 (oAr .add (s47.1.getD 0 .any) (.s (.int .i64 1)) fun x56 =>
 (trim true h44.length [x56] h52).map .inl))
 ((trim true h44.length [.any] s47.2).map fun p => .inr (Ex.exit 2, p.1, p.2))
def qdB (objs : Heap) : Ex → List A → Heap → Option (Out × Heap) := fun e59 vs60 h61 =>
 (match e59 with
 | .normal => none
 | .exit i62 => if i62 = 2 then finish objs.length (.ok (.s (.bool true))) h61 else none
 | .ret => finish objs.length (.ok (vs60.getD 0 .any)) h61
 | .panic v63 => finish objs.length (.pan v63) h61)
def qaL (En : String → CallFn) (self : CallFn) : CallFn := fun args objs =>
match args with
| [a0, a1, a2] =>
oLend qar [a0] objs (fun v3 h4 => finish objs.length (.pan v3) h4) fun w66 h67 => oFrz w66 h67 fun x1 h2 =>
      oCond x1 (qa0 a0 fun x5 =>
      oFieldA 0 x5 fun x6 =>
      oLoad none x6 h2 fun x7 =>
      oLen x7 fun x8 =>
      oLoop (qbl En x8 x7 a1 a0 a2 h2) ([(.s (.int .i64 0))], h2) (qdC objs))
      (qa0 a0 fun x39 =>
      oFieldA 2 x39 fun x40 =>
      oLoadD h2.length [] none x40 h2 fun x41 h42 =>
      oCallF h2.length [] qaU [a0, a1] h42 fun w64 h65 => oFrz w64 h65 fun x43 h44 =>
      oSlice 1 x41 (some x43) none fun x45 =>
      oLen x45 fun x46 =>
      oLoop (qbA self x46 x45 a1 a2 h44) ([(.s (.int .i64 0))], h44) (qdB objs))
| _ => none
def qbZ (En : String → CallFn) : Nat → CallFn
| 0 => fun _ _ => none
| n + 1 => qaL En (qbZ En n)
def qak : String → CallFn := fun n => if n = "(*bailey/tree.Tree).Range$1" then qaF else (fun _ _ => none)
def qaG : CallFn := fun args objs =>
match args with
| [a0, a1, a2] =>
oNew none none a2 objs fun x1 h2 =>
 oNew none none (.s (.slice none 0 0)) h2 fun x3 h4 =>
 qa0 a0 fun x5 =>
 oFieldA 0 x5 fun x6 =>
 oLoad none x6 h4 fun x7 =>
 oCall (qbZ (qak) big) [x7, a1, (.fn "(*bailey/tree.Tree).Range$1" [x1, x3])] h4 (fun v10 h11 => finish objs.length (.pan v10) h11) fun w13 h14 => oFrz w13 h14 fun x8 h9 =>
 oLoad none x3 h9 fun x12 =>
 finish objs.length (.ok x12) h9
| _ => none
def qbv (self : CallFn) (x22 : A) (x21 : A) (x1 : A) (h18 : Heap) : List A × Heap → Option ((List A × Heap) ⊕ (Ex × List A × Heap)) := fun s23 =>
 oCmp .lss (s23.1.getD 1 .any) x22 fun x24 =>
 oCond x24 (oIdxA 1 x21 (s23.1.getD 1 .any) fun x25 =>
 oLoad none x25 s23.2 fun x26 =>
 oIdxA 3 (s23.1.getD 0 .any) x1 fun x27 =>
 oFieldA 2 x27 fun x28 =>
 oLoad none x28 s23.2 fun x29 =>
 oLen (s23.1.getD 0 .any) fun x30 =>
 qah none 1 (asRows none [x30]) s23.2 fun x31 h32 =>
 oAppend none 1 8 x29 x31 h32 fun x33 h34 =>
 oIdxA 3 (s23.1.getD 0 .any) x1 fun x35 =>
 oFieldA 2 x35 fun x36 =>
 oStore none x36 x33 h34 fun h37 =>
 oCall self [x26, (s23.1.getD 0 .any)] h37 (fun v40 h41 => some (.inr (Ex.panic v40, [.any], h41))) fun x38 h39 =>
 oAr .add (s23.1.getD 1 .any) (.s (.int .i64 1)) fun x42 =>
 (trim true h18.length [x38, x42] h39).map .inl)
 ((trim true h18.length [(s23.1.getD 0 .any)] s23.2).map fun p => .inr (Ex.exit 0, p.1, p.2))
def qc0 (objs : Heap) : Ex → List A → Heap → Option (Out × Heap) := fun e43 vs44 h45 =>
 (match e43 with
 | .normal => none
 | .exit i46 => if i46 = 0 then finish objs.length (.ok (vs44.getD 0 .any)) h45 else none
 | .ret => finish objs.length (.ok (.s (.slice none 0 0))) h45
 | .panic v47 => finish objs.length (.pan v47) h45)
def qaV (self : CallFn) : CallFn := fun args objs =>
match args with
| [a0, a1] =>
oLen a1 fun x1 =>
 qa0 a0 fun x2 =>
 oFieldA 0 x2 fun x3 =>
 oLoadD objs.length (wrL objs [(a1, false)]) none x3 (objs ++ List.replicate 2 .res) fun x4 h5 =>
 oCallF objs.length (wrL objs [(a1, false)]) (qa8 1 8) [x4] h5 fun x6 h7 =>
 qa0 a0 fun x8 =>
 oFieldA 1 x8 fun x9 =>
 oLoadD objs.length (wrL objs [(a1, false)]) none x9 h7 fun x10 h11 =>
 oCallF objs.length (wrL objs [(a1, false)]) (qa8 2 16) [x10] h11 fun x12 h13 =>
 oBuildP [.s (.slice none 0 0), .s (.slice none 0 0), .s (.slice none 0 0)] [(0, none, x6), (1, none, x12)] fun x14 =>
 qah (some objs.length) 3 (asRows (some 3) [x14]) h13 fun x15 h16 =>
 qb2 objs.length (wrL objs [(a1, false)]) (objs.length + 1) 3 72 a1 x15 h16 fun x17 h18 =>
 qa0 a0 fun x19 =>
 oFieldA 2 x19 fun x20 =>
 oLoad none x20 h18 fun x21 =>
 oLen x21 fun x22 =>
 oLoop (qbv self x22 x21 x1 h18) ([x17, (.s (.int .i64 0))], h18) (qc0 objs)
| _ => none
def qbT : Nat → CallFn
| 0 => fun _ _ => none
| n + 1 => qaV (qbT n)
def qb8 : CallFn := fun args objs =>
match args with
| [a0] =>
qa0 a0 fun x1 =>
 oFieldA 0 x1 fun x2 =>
 oLoad none x2 objs fun x3 =>
 oCall (qbT big) [x3, (.s (.slice none 0 0))] objs (fun v6 h7 => finish objs.length (.pan v6) h7) fun x4 h5 =>
 finish objs.length (.ok x4) h5
| _ => none
def qhQ (objs : Heap) (x1 : A) : Ex → List A → Heap → Option (Out × Heap) := fun e15 vs13 h14 =>
 (match e15 with
 | .normal => oCond (vs13.getD 0 .any) (finish objs.length (.ok (.s (.bool false))) h14)
  (oBuildP [.s (.int .i64 0), .s (.int .i64 0)] [(0, none, (.s (.int .i64 1))), (1, none, (.s (.int .i64 1)))] fun x18 =>
  oLend qaW [x1, (.s (.int .u64 5)), x18] h14 (fun v21 h22 => finish objs.length (.pan v21) h22) fun w69 h70 => oFrz w69 h70 fun x19 h20 =>
  oBuildP [.s (.int .i64 0), .s (.int .i64 0)] [(0, none, (.s (.int .i64 2))), (1, none, (.s (.int .i64 1)))] fun x23 =>
  oLend qaW [x19, (.s (.int .u64 3)), x23] h20 (fun v26 h27 => finish objs.length (.pan v26) h27) fun w67 h68 => oFrz w67 h68 fun x24 h25 =>
  oEqNil false x24 (.s (.pointer none)) fun x28 =>
  oCond x28 (finish objs.length (.ok (.s (.bool false))) h25)
  (oLend qaG [x24, (.s (.int .u64 0)), (.s (.int .u64 9))] h25 (fun v31 h32 => finish objs.length (.pan v31) h32) fun w65 h66 => oFrz w65 h66 fun x29 h30 =>
  oLen x29 fun x33 =>
  oCmp .eql x33 (.s (.int .i64 2)) fun x34 =>
  oGuard x34 true (fun _ => oIdxA 3 x29 (.s (.int .i64 0)) fun x35 =>
  oFieldA 0 x35 fun x36 =>
  oLoad none x36 h30 fun x37 =>
  oCmp .eql x37 (.s (.int .u64 3)) fun x38 =>
  oGuard x38 true (fun _ => oIdxA 3 x29 (.s (.int .i64 1)) fun x39 =>
  oFieldA 0 x39 fun x40 =>
  oLoad none x40 h30 fun x41 =>
  oCmp .eql x41 (.s (.int .u64 5)) fun x42 =>
  oGuard x42 true (fun _ => oLend qb8 [x24] h30 (fun v45 h46 => finish objs.length (.pan v45) h46) fun w63 h64 => oFrz w63 h64 fun x43 h44 =>
  oLen x43 fun x47 =>
  oCmp .eql x47 (.s (.int .i64 1)) fun x48 =>
  oGuard x48 true (fun _ => oLend qbd [x24] h44 (fun v51 h52 => finish objs.length (.pan v51) h52) fun w61 h62 => oFrz w61 h62 fun x49 h50 =>
  oCmp .eql x49 (.s (.int .i64 2)) fun x53 =>
  oGuard x53 true (fun _ => oLend qbd [x1] h50 (fun v56 h57 => finish objs.length (.pan v56) h57) fun w59 h60 => oFrz w59 h60 fun x54 h55 =>
  oCmp .eql x54 (.s (.int .i64 0)) fun x58 =>
  finish objs.length (.ok x58) h55)
  (fun _ => finish objs.length (.ok (.s (.bool false))) h50))
  (fun _ => finish objs.length (.ok (.s (.bool false))) h44))
  (fun _ => finish objs.length (.ok (.s (.bool false))) h30))
  (fun _ => finish objs.length (.ok (.s (.bool false))) h30))
  (fun _ => finish objs.length (.ok (.s (.bool false))) h30)))
 | .exit i16 => none
 | .ret => finish objs.length (.ok (.s (.bool false))) h14
 | .panic v17 => finish objs.length (.pan v17) h14)
def qc4 : CallFn := fun args objs =>
match args with
| [] =>
oLend qiT [] objs (fun v3 h4 => finish objs.length (.pan v3) h4) fun w71 h72 => oFrz w71 h72 fun x1 h2 =>
      oJoin (oEqNil false x1 (.s (.pointer none)) fun x5 =>
      oGuard x5 false (fun _ => oLend qbd [x1] h2 (fun v8 h9 => some (Ex.panic v8, [], h9)) fun w11 h12 => oFrz w11 h12 fun x6 h7 =>
      oCmp .neq x6 (.s (.int .i64 0)) fun x10 =>
      (trim true h2.length [x10] h7).map fun p => (Ex.normal, p.1, p.2))
      (fun _ => (trim true h2.length [(.s (.bool true))] h2).map fun p => (Ex.normal, p.1, p.2))) (qhQ objs x1)
| _ => none
def qea (x1 : A) (a1 : A) (s6 : List A × Heap) (h12 : Heap) : Ex → List A → Heap → Option (Ex × List A × Heap) := fun e19 vs17 h18 =>
 (match e19 with
 | .normal => oCond (vs17.getD 0 .any) (oLoad (some 2) x1 h18 fun x22 =>
  oBuildP [.s (.int .u64 0), .s (.int .i64 0), .s (.int .i64 0)] [(0, none, a1), (1, (some 2), x22)] fun x23 =>
  qah none 3 (asRows (some 3) [x23]) h18 fun x24 h25 =>
  oAppend none 3 24 (s6.1.getD 0 .any) x24 h25 fun x26 h27 =>
  (trim true h12.length [x26, (.s (.bool true))] h27).map fun p => (Ex.normal, p.1, p.2))
  ((trim true h12.length [(s6.1.getD 0 .any), (s6.1.getD 1 .any)] h18).map fun p => (Ex.normal, p.1, p.2))
 | .exit i20 => (trim true h12.length [(s6.1.getD 0 .any), (s6.1.getD 1 .any)] h18).map fun p => (Ex.exit i20, p.1, p.2)
 | .ret => (trim true h12.length [(s6.1.getD 0 .any), (s6.1.getD 1 .any)] h18).map fun p => (Ex.ret, p.1, p.2)
 | .panic v21 => some (Ex.panic v21, [], h18))
def qe9 (x10 : A) (a1 : A) (s6 : List A × Heap) : Ex → List A → Heap → Option (Ex × List A × Heap) := fun e30 vs28 h29 =>
 (match e30 with
 | .normal => oFieldA 0 x10 fun x33 =>
  oLoad none x33 h29 fun x34 =>
  oCmp .neq x34 a1 fun x35 =>
  oCond x35 (oLoad (some 3) x10 h29 fun x36 =>
  qah none 3 (asRows (some 3) [x36]) h29 fun x37 h38 =>
  oAppend none 3 24 (vs28.getD 0 .any) x37 h38 fun x39 h40 =>
  (trim true s6.2.length [x39, (vs28.getD 1 .any)] h40).map fun p => (Ex.normal, p.1, p.2))
  ((trim true s6.2.length [(vs28.getD 0 .any), (vs28.getD 1 .any)] h29).map fun p => (Ex.normal, p.1, p.2))
 | .exit i31 => if i31 = 1 then (trim true s6.2.length [(vs28.getD 0 .any), (vs28.getD 1 .any)] h29).map fun p => (Ex.normal, p.1, p.2) else (trim true s6.2.length [(vs28.getD 0 .any), (vs28.getD 1 .any)] h29).map fun p => (Ex.exit i31, p.1, p.2)
 | .ret => (trim true s6.2.length [(vs28.getD 0 .any), (vs28.getD 1 .any)] h29).map fun p => (Ex.ret, p.1, p.2)
 | .panic v32 => some (Ex.panic v32, [], h29))
def qe8 (s6 : List A × Heap) (h4 : Heap) : Ex → List A → Heap → Option ((List A × Heap) ⊕ (Ex × List A × Heap)) := fun e43 vs41 h42 =>
 (match e43 with
 | .normal => oAr .add (s6.1.getD 2 .any) (.s (.int .i64 1)) fun x46 =>
  (trim true h4.length [(vs41.getD 0 .any), (vs41.getD 1 .any), x46] h42).map .inl
 | .exit i44 => (trim true h4.length [(vs41.getD 0 .any), (vs41.getD 1 .any)] h42).map fun p => .inr (Ex.exit i44, p.1, p.2)
 | .ret => (trim true h4.length [(vs41.getD 0 .any), (vs41.getD 1 .any)] h42).map fun p => .inr (Ex.ret, p.1, p.2)
 | .panic v45 => some (.inr (Ex.panic v45, [.any, .any], h42)))
def qc7 (x5 : A) (a0 : A) (a1 : A) (x1 : A) (h4 : Heap) : List A × Heap → Option ((List A × Heap) ⊕ (Ex × List A × Heap)) := fun s6 =>
 oCmp .lss (s6.1.getD 2 .any) x5 fun x7 =>
 oCond x7 (oJoin (oIdxA 3 a0 (s6.1.getD 2 .any) fun x8 =>
 oLoad (some 3) x8 s6.2 fun x9 =>
 oNew none (some 3) (.agg [.s (.int .u64 0), .s (.int .i64 0), .s (.int .i64 0)]) s6.2 fun x10 h11 =>
 oStore (some 3) x10 x9 h11 fun h12 =>
 oJoin (oJoin (oNot (s6.1.getD 1 .any) fun x13 =>
 oGuard x13 true (fun _ => oFieldA 0 x10 fun x14 =>
 oLoad none x14 h12 fun x15 =>
 oCmp .geq x15 a1 fun x16 =>
 (trim true h12.length [x16] h12).map fun p => (Ex.normal, p.1, p.2))
 (fun _ => (trim true h12.length [(.s (.bool false))] h12).map fun p => (Ex.normal, p.1, p.2))) (qea x1 a1 s6 h12)) (qe9 x10 a1 s6)) (qe8 s6 h4))
 ((trim true h4.length [(s6.1.getD 0 .any), (s6.1.getD 1 .any)] s6.2).map fun p => .inr (Ex.exit 0, p.1, p.2))
def qg9 (objs : Heap) : Ex → List A → Heap → Option (Out × Heap) := fun e61 vs59 h60 =>
 (match e61 with
 | .normal => finish objs.length (.ok (vs59.getD 0 .any)) h60
 | .exit i62 => none
 | .ret => finish objs.length (.ok (.s (.slice none 0 0))) h60
 | .panic v63 => finish objs.length (.pan v63) h60)
def qf6 (x1 : A) (a1 : A) (objs : Heap) : Ex → List A → Heap → Option (Out × Heap) := fun e47 vs48 h49 =>
 (match e47 with
 | .normal => none
 | .exit i50 => if i50 = 0 then oJoin (oNot (vs48.getD 1 .any) fun x52 =>
  oCond x52 (oLoad (some 2) x1 h49 fun x53 =>
  oBuildP [.s (.int .u64 0), .s (.int .i64 0), .s (.int .i64 0)] [(0, none, a1), (1, (some 2), x53)] fun x54 =>
  qah none 3 (asRows (some 3) [x54]) h49 fun x55 h56 =>
  oAppend none 3 24 (vs48.getD 0 .any) x55 h56 fun x57 h58 =>
  (trim true h49.length [x57] h58).map fun p => (Ex.normal, p.1, p.2))
  ((trim true h49.length [(vs48.getD 0 .any)] h49).map fun p => (Ex.normal, p.1, p.2))) (qg9 objs) else none
 | .ret => finish objs.length (.ok (.s (.slice none 0 0))) h49
 | .panic v51 => finish objs.length (.pan v51) h49)
def qeb : CallFn := fun args objs =>
match args with
| [a0, a1, a2] =>
oNew none (some 2) a2 objs fun x1 h2 =>
 qah none 3 (asRows (some 3) []) h2 fun x3 h4 =>
 oLen a0 fun x5 =>
 oLoop (qc7 x5 a0 a1 x1 h4) ([x3, (.s (.bool false)), (.s (.int .i64 0))], h4) (qf6 x1 a1 objs)
| _ => none
def qcG (s2 : List A × Heap) (objs : Heap) : Ex → List A → Heap → Option ((List A × Heap) ⊕ (Ex × List A × Heap)) := fun e11 vs9 h10 =>
 (match e11 with
 | .normal => oAr .add (s2.1.getD 1 .any) (.s (.int .i64 1)) fun x14 =>
  (trim true objs.length [(vs9.getD 0 .any), x14] h10).map .inl
 | .exit i12 => (trim true objs.length [(vs9.getD 0 .any)] h10).map fun p => .inr (Ex.exit i12, p.1, p.2)
 | .ret => (trim true objs.length [(vs9.getD 0 .any)] h10).map fun p => .inr (Ex.ret, p.1, p.2)
 | .panic v13 => some (.inr (Ex.panic v13, [.any], h10)))
def qcD (x1 : A) (a0 : A) (objs : Heap) : List A × Heap → Option ((List A × Heap) ⊕ (Ex × List A × Heap)) := fun s2 =>
 oCmp .lss (s2.1.getD 1 .any) x1 fun x3 =>
 oCond x3 (oJoin (oIdxA 1 a0 (s2.1.getD 1 .any) fun x4 =>
 oLoad none x4 s2.2 fun x5 =>
 oLen x5 fun x6 =>
 oAr .add (s2.1.getD 0 .any) x6 fun x7 =>
 oCmp .lss x7 (.s (.int .i64 0)) fun x8 =>
 oCond x8 (none)
 ((trim true s2.2.length [x7] s2.2).map fun p => (Ex.normal, p.1, p.2))) (qcG s2 objs))
 ((trim true objs.length [(s2.1.getD 0 .any)] s2.2).map fun p => .inr (Ex.exit 0, p.1, p.2))
def qcC (x24 : A) (a0 : A) (h21 : Heap) : List A × Heap → Option ((List A × Heap) ⊕ (Ex × List A × Heap)) := fun s25 =>
 oCmp .lss (s25.1.getD 1 .any) x24 fun x26 =>
 oCond x26 (oIdxA 1 a0 (s25.1.getD 1 .any) fun x27 =>
 oLoad none x27 s25.2 fun x28 =>
 oAppend none 2 16 (s25.1.getD 0 .any) x28 s25.2 fun x29 h30 =>
 oAr .add (s25.1.getD 1 .any) (.s (.int .i64 1)) fun x31 =>
 (trim true h21.length [x29, x31] h30).map .inl)
 ((trim true h21.length [(s25.1.getD 0 .any)] s25.2).map fun p => .inr (Ex.exit 2, p.1, p.2))
def qcF (objs : Heap) : Ex → List A → Heap → Option (Out × Heap) := fun e32 vs33 h34 =>
 (match e32 with
 | .normal => none
 | .exit i35 => if i35 = 2 then finish objs.length (.ok (vs33.getD 0 .any)) h34 else none
 | .ret => finish objs.length (.ok (.s (.slice none 0 0))) h34
 | .panic v36 => finish objs.length (.pan v36) h34)
def qcE (objs : Heap) (a0 : A) : Ex → List A → Heap → Option (Out × Heap) := fun e15 vs16 h17 =>
 (match e15 with
 | .normal => none
 | .exit i18 => if i18 = 0 then oCall (qbW 2 16) [(.s (.slice none 0 0)), (vs16.getD 0 .any)] h17 (fun v22 h23 => finish objs.length (.pan v22) h23) fun x20 h21 =>
  oLen a0 fun x24 =>
  oLoop (qcC x24 a0 h21) ([x20, (.s (.int .i64 0))], h21) (qcF objs) else none
 | .ret => finish objs.length (.ok (.s (.slice none 0 0))) h17
 | .panic v19 => finish objs.length (.pan v19) h17)
def qal : CallFn := fun args objs =>
match args with
| [a0] =>
oLen a0 fun x1 =>
 oLoop (qcD x1 a0 objs) ([(.s (.int .i64 0)), (.s (.int .i64 0))], objs) (qcE objs a0)
| _ => none
def qcV (s2 : List A × Heap) (objs : Heap) : Ex → List A → Heap → Option ((List A × Heap) ⊕ (Ex × List A × Heap)) := fun e11 vs9 h10 =>
 (match e11 with
 | .normal => oAr .add (s2.1.getD 1 .any) (.s (.int .i64 1)) fun x14 =>
  (trim true objs.length [(vs9.getD 0 .any), x14] h10).map .inl
 | .exit i12 => (trim true objs.length [(vs9.getD 0 .any)] h10).map fun p => .inr (Ex.exit i12, p.1, p.2)
 | .ret => (trim true objs.length [(vs9.getD 0 .any)] h10).map fun p => .inr (Ex.ret, p.1, p.2)
 | .panic v13 => some (.inr (Ex.panic v13, [.any], h10)))
def qcS (x1 : A) (a0 : A) (objs : Heap) : List A × Heap → Option ((List A × Heap) ⊕ (Ex × List A × Heap)) := fun s2 =>
 oCmp .lss (s2.1.getD 1 .any) x1 fun x3 =>
 oCond x3 (oJoin (oIdxA 1 a0 (s2.1.getD 1 .any) fun x4 =>
 oLoad none x4 s2.2 fun x5 =>
 oLen x5 fun x6 =>
 oAr .add (s2.1.getD 0 .any) x6 fun x7 =>
 oCmp .lss x7 (.s (.int .i64 0)) fun x8 =>
 oCond x8 (none)
 ((trim true s2.2.length [x7] s2.2).map fun p => (Ex.normal, p.1, p.2))) (qcV s2 objs))
 ((trim true objs.length [(s2.1.getD 0 .any)] s2.2).map fun p => .inr (Ex.exit 0, p.1, p.2))
def qcR (x24 : A) (a0 : A) (h21 : Heap) : List A × Heap → Option ((List A × Heap) ⊕ (Ex × List A × Heap)) := fun s25 =>
 oCmp .lss (s25.1.getD 1 .any) x24 fun x26 =>
 oCond x26 (oIdxA 1 a0 (s25.1.getD 1 .any) fun x27 =>
 oLoad none x27 s25.2 fun x28 =>
 oAppend none 1 8 (s25.1.getD 0 .any) x28 s25.2 fun x29 h30 =>
 oAr .add (s25.1.getD 1 .any) (.s (.int .i64 1)) fun x31 =>
 (trim true h21.length [x29, x31] h30).map .inl)
 ((trim true h21.length [(s25.1.getD 0 .any)] s25.2).map fun p => .inr (Ex.exit 2, p.1, p.2))
def qcU (objs : Heap) : Ex → List A → Heap → Option (Out × Heap) := fun e32 vs33 h34 =>
 (match e32 with
 | .normal => none
 | .exit i35 => if i35 = 2 then finish objs.length (.ok (vs33.getD 0 .any)) h34 else none
 | .ret => finish objs.length (.ok (.s (.slice none 0 0))) h34
 | .panic v36 => finish objs.length (.pan v36) h34)
def qcT (objs : Heap) (a0 : A) : Ex → List A → Heap → Option (Out × Heap) := fun e15 vs16 h17 =>
 (match e15 with
 | .normal => none
 | .exit i18 => if i18 = 0 then oCall (qbW 1 8) [(.s (.slice none 0 0)), (vs16.getD 0 .any)] h17 (fun v22 h23 => finish objs.length (.pan v22) h23) fun x20 h21 =>
  oLen a0 fun x24 =>
  oLoop (qcR x24 a0 h21) ([x20, (.s (.int .i64 0))], h21) (qcU objs) else none
 | .ret => finish objs.length (.ok (.s (.slice none 0 0))) h17
 | .panic v19 => finish objs.length (.pan v19) h17)
def qam : CallFn := fun args objs =>
match args with
| [a0] =>
oLen a0 fun x1 =>
 oLoop (qcS x1 a0 objs) ([(.s (.int .i64 0)), (.s (.int .i64 0))], objs) (qcT objs a0)
| _ => none
def qff (x17 : A) (x14 : A) (x6 : A) (a0 : A) (a1 : A) (objs : Heap) : Ex → List A → Heap → Option (Out × Heap) := fun e56 vs54 h55 =>
 (match e56 with
 | .normal => qa0 x17 fun x59 =>
  oFieldA 0 x59 fun x60 =>
  oLoadD h55.length (wrL h55 [(x17, true)]) none x60 (h55 ++ List.replicate 1 .res) fun x61 h62 =>
  qa0 x14 fun x63 =>
  oFieldA 0 x63 fun x64 =>
  oLoadD h55.length (wrL h55 [(x17, true)]) none x64 h62 fun x65 h66 =>
  qb2 h55.length (wrL h55 [(x17, true)]) h55.length 1 8 x61 x65 h66 fun x67 h68 =>
  qa0 x17 fun x69 =>
  oFieldA 0 x69 fun x70 =>
  oStore none x70 x67 h68 fun h71 =>
  qa0 x6 fun x72 =>
  oFieldA 1 x72 fun x73 =>
  oLoadD h71.length [] none x73 (h71 ++ List.replicate 1 .res) fun x74 h75 =>
  qa0 x14 fun x76 =>
  oFieldA 1 x76 fun x77 =>
  oLoadD h71.length [] none x77 h75 fun x78 h79 =>
  oNewFz h71.length 1 (asRows none [x74, x78]) h79 fun x80 h81 =>
  oCallF h71.length [] qal [x80] h81 fun x82 h83 =>
  qa0 x17 fun x84 =>
  oFieldA 1 x84 fun x85 =>
  oStore none x85 x82 h83 fun h86 =>
  qa0 x6 fun x87 =>
  oFieldA 2 x87 fun x88 =>
  oLoadD h86.length [] none x88 (h86 ++ List.replicate 1 .res) fun x89 h90 =>
  qa0 x14 fun x91 =>
  oFieldA 2 x91 fun x92 =>
  oLoadD h86.length [] none x92 h90 fun x93 h94 =>
  oNewFz h86.length 1 (asRows none [x89, x93]) h94 fun x95 h96 =>
  oCallF h86.length [] qam [x95] h96 fun x97 h98 =>
  qa0 x17 fun x99 =>
  oFieldA 2 x99 fun x100 =>
  oStore none x100 x97 h98 fun h101 =>
  qa0 x17 fun x102 =>
  oFieldA 0 x102 fun x103 =>
  oLoad none x103 h101 fun x104 =>
  oLen x104 fun x105 =>
  oCmp .leq x105 (.s (.int .i64 7)) fun x106 =>
  oCond x106 (qa0 a0 fun x107 =>
  oFieldA 0 x107 fun x108 =>
  oLoadD h101.length (wrL h101 [(a0, true)]) none x108 h101 fun x109 h110 =>
  oAr .add a1 (.s (.int .i64 1)) fun x111 =>
  oCallW h101.length (wrL h101 [(a0, true)]) (qaT 1 8) [x109, a1, x111] h110 fun x112 h113 =>
  qa0 a0 fun x114 =>
  oFieldA 2 x114 fun x115 =>
  oLoadD h101.length (wrL h101 [(a0, true)]) none x115 h113 fun x116 h117 =>
  oAr .add a1 (.s (.int .i64 1)) fun x118 =>
  oAr .add a1 (.s (.int .i64 2)) fun x119 =>
  oCallW h101.length (wrL h101 [(a0, true)]) (qaT 1 8) [x116, x118, x119] h117 fun x120 h121 =>
  qa0 a0 fun x122 =>
  oFieldA 0 x122 fun x123 =>
  oStore none x123 x112 h121 fun h124 =>
  qa0 a0 fun x125 =>
  oFieldA 2 x125 fun x126 =>
  oStore none x126 x120 h124 fun h127 =>
  qa0 a0 fun x128 =>
  oFieldA 2 x128 fun x129 =>
  oLoad none x129 h127 fun x130 =>
  oIdxA 1 x130 a1 fun x131 =>
  oStore none x131 x17 h127 fun h132 =>
  finish objs.length (.ok (.s (.tuple #[]))) h132)
  (qa0 a0 fun x133 =>
  oFieldA 2 x133 fun x134 =>
  oLoadD h101.length [] none x134 h101 fun x135 h136 =>
  qa0 a0 fun x137 =>
  oFieldA 0 x137 fun x138 =>
  oLoadD h101.length [] none x138 h136 fun x139 h140 =>
  qa0 a0 fun x141 =>
  oFieldA 2 x141 fun x142 =>
  oLoadD h101.length [] none x142 h140 fun x143 h144 =>
  oAr .add a1 (.s (.int .i64 1)) fun x145 =>
  oCallK h101.length [] qan [x17] h144 fun x146 h147 =>
  qae 0 x146 fun x148 =>
  qae 1 x146 fun x149 =>
  qae 2 x146 fun x150 =>
  oIdxA 1 x135 a1 fun x151 =>
  oStore none x151 x148 h147 fun h152 =>
  oIdxA 1 x139 a1 fun x153 =>
  oStore none x153 x149 h152 fun h154 =>
  oIdxA 1 x143 x145 fun x155 =>
  oStore none x155 x150 h154 fun h156 =>
  finish objs.length (.ok (.s (.tuple #[]))) h156)
 | .exit i57 => none
 | .ret => finish objs.length (.ok (.s (.tuple #[]))) h55
 | .panic v58 => finish objs.length (.pan v58) h55)
def qb0 : CallFn := fun args objs =>
match args with
| [a0, a1] =>
qa0 a0 fun x1 =>
 oFieldA 2 x1 fun x2 =>
 oLoadD objs.length [] none x2 objs fun x3 h4 =>
 oIdxA 1 x3 a1 fun x5 =>
 oLoadD objs.length [] none x5 h4 fun x6 h7 =>
 qa0 a0 fun x8 =>
 oFieldA 2 x8 fun x9 =>
 oLoadD objs.length [] none x9 h7 fun x10 h11 =>
 oAr .add a1 (.s (.int .i64 1)) fun x12 =>
 oIdxA 1 x10 x12 fun x13 =>
 oLoadD objs.length [] none x13 h11 fun x14 h15 =>
 oBuildP [.s (.slice none 0 0), .s (.slice none 0 0), .s (.slice none 0 0)] [] fun x16 =>
 oNew none (some 3) x16 h15 fun x17 h18 =>
 qa0 x6 fun x19 =>
 oFieldA 0 x19 fun x20 =>
 oLoad none x20 h18 fun x21 =>
 oLend (qa8 1 8) [x21] h18 (fun v24 h25 => finish objs.length (.pan v24) h25) fun x22 h23 =>
 qa0 x17 fun x26 =>
 oFieldA 0 x26 fun x27 =>
 oStore none x27 x22 h23 fun h28 =>
 oJoin (oLend qar [x6] h28 (fun v31 h32 => some (Ex.panic v31, [], h32)) fun w52 h53 => oFrz w52 h53 fun x29 h30 =>
 oNot x29 fun x33 =>
 oCond x33 (qa0 x17 fun x34 =>
 oFieldA 0 x34 fun x35 =>
 oLoadD h30.length (wrL h30 [(x17, true)]) none x35 (h30 ++ List.replicate 2 .res) fun x36 h37 =>
 qa0 a0 fun x38 =>
 oFieldA 0 x38 fun x39 =>
 oLoadD h30.length (wrL h30 [(x17, true)]) none x39 h37 fun x40 h41 =>
 oIdxA 1 x40 a1 fun x42 =>
 oLoadD h30.length (wrL h30 [(x17, true)]) none x42 h41 fun x43 h44 =>
 oNewFz h30.length 1 (asRows none [x43]) h44 fun x45 h46 =>
 qb2 h30.length (wrL h30 [(x17, true)]) (h30.length + 1) 1 8 x36 x45 h46 fun x47 h48 =>
 qa0 x17 fun x49 =>
 oFieldA 0 x49 fun x50 =>
 oStore none x50 x47 h48 fun h51 =>
 (trim true h28.length [] h51).map fun p => (Ex.normal, p.1, p.2))
 ((trim true h28.length [] h30).map fun p => (Ex.normal, p.1, p.2))) (qff x17 x14 x6 a0 a1 objs)
| _ => none
def qel (objs : Heap) (x1 : A) : Ex → List A → Heap → Option (Out × Heap) := fun e42 vs40 h41 =>
 (match e42 with
 | .normal => finish objs.length (.ok x1) h41
 | .exit i43 => none
 | .ret => finish objs.length (.ok (.s (.pointer none))) h41
 | .panic v44 => finish objs.length (.pan v44) h41)
def qci (objs : Heap) (x1 : A) : Ex → List A → Heap → Option (Out × Heap) := fun e84 vs82 h83 =>
 (match e84 with
 | .normal => finish objs.length (.ok x1) h83
 | .exit i85 => none
 | .ret => finish objs.length (.ok (.s (.pointer none))) h83
 | .panic v86 => finish objs.length (.pan v86) h83)
def qaR (self : CallFn) : CallFn := fun args objs =>
match args with
| [a0, a1] =>
oLend qbm [a0] objs (fun v3 h4 => finish objs.length (.pan v3) h4) fun x1 h2 =>
      oLend qar [a0] h2 (fun v7 h8 => finish objs.length (.pan v7) h8) fun w91 h92 => oFrz w91 h92 fun x5 h6 =>
      oCond x5 (oJoin (qa0 a0 fun x9 =>
      oFieldA 0 x9 fun x10 =>
      oLoad none x10 h6 fun x11 =>
      oLend qa6 [x11, a1] h6 (fun v14 h15 => some (Ex.panic v14, [], h15)) fun w38 h39 => oFrz w38 h39 fun x12 h13 =>
      qae 0 x12 fun x16 =>
      qae 1 x12 fun x17 =>
      oCond x17 (qa0 x1 fun x18 =>
      oFieldA 0 x18 fun x19 =>
      oLoadD h13.length (wrL h13 [(x1, true)]) none x19 h13 fun x20 h21 =>
      oAr .add x16 (.s (.int .i64 1)) fun x22 =>
      oCallW h13.length (wrL h13 [(x1, true)]) (qaT 1 8) [x20, x16, x22] h21 fun x23 h24 =>
      qa0 x1 fun x25 =>
      oFieldA 1 x25 fun x26 =>
      oLoadD h13.length (wrL h13 [(x1, true)]) none x26 h24 fun x27 h28 =>
      oAr .add x16 (.s (.int .i64 1)) fun x29 =>
      oCallW h13.length (wrL h13 [(x1, true)]) (qaT 2 16) [x27, x16, x29] h28 fun x30 h31 =>
      qa0 x1 fun x32 =>
      oFieldA 0 x32 fun x33 =>
      oStore none x33 x23 h31 fun h34 =>
      qa0 x1 fun x35 =>
      oFieldA 1 x35 fun x36 =>
      oStore none x36 x30 h34 fun h37 =>
      (trim true h6.length [] h37).map fun p => (Ex.normal, p.1, p.2))
      ((trim true h6.length [] h13).map fun p => (Ex.normal, p.1, p.2))) (qel objs x1))
      (oLend qaU [a0, a1] h6 (fun v47 h48 => finish objs.length (.pan v47) h48) fun w89 h90 => oFrz w89 h90 fun x45 h46 =>
      qa0 x1 fun x49 =>
      oFieldA 2 x49 fun x50 =>
      oLoadD h46.length [] none x50 h46 fun x51 h52 =>
      qa0 a0 fun x53 =>
      oFieldA 2 x53 fun x54 =>
      oLoadD h46.length [] none x54 h52 fun x55 h56 =>
      oIdxA 1 x55 x45 fun x57 =>
      oLoadD h46.length [] none x57 h56 fun x58 h59 =>
      oCallF h46.length [] self [x58, a1] h59 fun w87 h88 => oFrz w87 h88 fun x60 h61 =>
      oIdxA 1 x51 x45 fun x62 =>
      oStore none x62 x60 h61 fun h63 =>
      oJoin (qa0 x1 fun x64 =>
      oFieldA 2 x64 fun x65 =>
      oLoad none x65 h63 fun x66 =>
      oIdxA 1 x66 x45 fun x67 =>
      oLoad none x67 h63 fun x68 =>
      qa0 x68 fun x69 =>
      oFieldA 0 x69 fun x70 =>
      oLoad none x70 h63 fun x71 =>
      oLen x71 fun x72 =>
      oCmp .lss x72 (.s (.int .i64 3)) fun x73 =>
      oCond x73 (oAr .sub x45 (.s (.int .i64 1)) fun x74 =>
      oMax x74 (.s (.int .i64 0)) fun x75 =>
      oCall qb0 [x1, x75] h63 (fun v78 h79 => some (Ex.panic v78, [], h79)) fun w80 h81 => oFrz w80 h81 fun x76 h77 =>
      (trim true h63.length [] h77).map fun p => (Ex.normal, p.1, p.2))
      ((trim true h63.length [] h63).map fun p => (Ex.normal, p.1, p.2))) (qci objs x1))
| _ => none
def qdE : Nat → CallFn
| 0 => fun _ _ => none
| n + 1 => qaR (qdE n)
def qck (x14 : A) (h15 : Heap) : Ex → List A → Heap → Option (Ex × List A × Heap) := fun e32 vs30 h31 =>
 (match e32 with
 | .normal => oCond (vs30.getD 0 .any) (qa0 x14 fun x35 =>
  oFieldA 2 x35 fun x36 =>
  oLoad none x36 h31 fun x37 =>
  oIdxA 1 x37 (.s (.int .i64 0)) fun x38 =>
  oLoad none x38 h31 fun x39 =>
  (trim true h15.length [x39] h31).map fun p => (Ex.normal, p.1, p.2))
  ((trim true h15.length [x14] h31).map fun p => (Ex.normal, p.1, p.2))
 | .exit i33 => (trim true h15.length [x14] h31).map fun p => (Ex.exit i33, p.1, p.2)
 | .ret => (trim true h15.length [x14] h31).map fun p => (Ex.ret, p.1, p.2)
 | .panic v34 => some (Ex.panic v34, [], h31))
def qdm (a0 : A) (objs : Heap) : Ex → List A → Heap → Option (Out × Heap) := fun e42 vs40 h41 =>
 (match e42 with
 | .normal => qa0 a0 fun x45 =>
  oFieldA 1 x45 fun x46 =>
  oLoad none x46 h41 fun x47 =>
  oAr .sub x47 (.s (.int .i64 1)) fun x48 =>
  oBuildP [.s (.pointer none), .s (.int .i64 0)] [(0, none, (vs40.getD 0 .any)), (1, none, x48)] fun x49 =>
  oNew none (some 2) x49 h41 fun x50 h51 =>
  finish objs.length (.ok x50) h51
 | .exit i43 => none
 | .ret => finish objs.length (.ok (.s (.pointer none))) h41
 | .panic v44 => finish objs.length (.pan v44) h41)
def qbe : CallFn := fun args objs =>
match args with
| [a0, a1] =>
oLend qbn [a0, a1] objs (fun v3 h4 => finish objs.length (.pan v3) h4) fun w54 h55 => oFrz w54 h55 fun x1 h2 =>
      qae 0 x1 fun x5 =>
      qae 1 x1 fun x6 =>
      oNew none (some 2) (.agg [.s (.int .i64 0), .s (.int .i64 0)]) h2 fun x7 h8 =>
      oStore (some 2) x7 x5 h8 fun h9 =>
      oNot x6 fun x10 =>
      oCond x10 (finish objs.length (.ok a0) h9)
      (qa0 a0 fun x11 =>
      oFieldA 0 x11 fun x12 =>
      oLoad none x12 h9 fun x13 =>
      oLend (qdE big) [x13, a1] h9 (fun v16 h17 => finish objs.length (.pan v16) h17) fun w52 h53 => oFrz w52 h53 fun x14 h15 =>
      oJoin (oJoin (oLend qar [x14] h15 (fun v20 h21 => some (Ex.panic v20, [], h21)) fun w28 h29 => oFrz w28 h29 fun x18 h19 =>
      oNot x18 fun x22 =>
      oGuard x22 true (fun _ => qa0 x14 fun x23 =>
      oFieldA 2 x23 fun x24 =>
      oLoad none x24 h19 fun x25 =>
      oLen x25 fun x26 =>
      oCmp .eql x26 (.s (.int .i64 1)) fun x27 =>
      (trim true h15.length [x27] h19).map fun p => (Ex.normal, p.1, p.2))
      (fun _ => (trim true h15.length [(.s (.bool false))] h19).map fun p => (Ex.normal, p.1, p.2))) (qck x14 h15)) (qdm a0 objs))
| _ => none
def qgb (s4 : List A × Heap) (h2 : Heap) : Ex → List A → Heap → Option ((List A × Heap) ⊕ (Ex × List A × Heap)) := fun e21 vs19 h20 =>
 (match e21 with
 | .normal => oAr .add (s4.1.getD 1 .any) (.s (.int .i64 1)) fun x24 =>
  (trim true h2.length [(vs19.getD 0 .any), x24] h20).map .inl
 | .exit i22 => (trim true h2.length [(vs19.getD 0 .any)] h20).map fun p => .inr (Ex.exit i22, p.1, p.2)
 | .ret => (trim true h2.length [(vs19.getD 0 .any)] h20).map fun p => .inr (Ex.ret, p.1, p.2)
 | .panic v23 => some (.inr (Ex.panic v23, [.any], h20)))
def qdw (x3 : A) (a0 : A) (a1 : A) (h2 : Heap) : List A × Heap → Option ((List A × Heap) ⊕ (Ex × List A × Heap)) := fun s4 =>
 oCmp .lss (s4.1.getD 1 .any) x3 fun x5 =>
 oCond x5 (oJoin (oIdxA 3 a0 (s4.1.getD 1 .any) fun x6 =>
 oLoad (some 3) x6 s4.2 fun x7 =>
 oNew none (some 3) (.agg [.s (.int .u64 0), .s (.int .i64 0), .s (.int .i64 0)]) s4.2 fun x8 h9 =>
 oStore (some 3) x8 x7 h9 fun h10 =>
 oFieldA 0 x8 fun x11 =>
 oLoad none x11 h10 fun x12 =>
 oCmp .neq x12 a1 fun x13 =>
 oCond x13 (oLoad (some 3) x8 h10 fun x14 =>
 qah none 3 (asRows (some 3) [x14]) h10 fun x15 h16 =>
 oAppend none 3 24 (s4.1.getD 0 .any) x15 h16 fun x17 h18 =>
 (trim true s4.2.length [x17] h18).map fun p => (Ex.normal, p.1, p.2))
 ((trim true s4.2.length [(s4.1.getD 0 .any)] h10).map fun p => (Ex.normal, p.1, p.2))) (qgb s4 h2))
 ((trim true h2.length [(s4.1.getD 0 .any)] s4.2).map fun p => .inr (Ex.exit 0, p.1, p.2))
def qga (objs : Heap) : Ex → List A → Heap → Option (Out × Heap) := fun e25 vs26 h27 =>
 (match e25 with
 | .normal => none
 | .exit i28 => if i28 = 0 then finish objs.length (.ok (vs26.getD 0 .any)) h27 else none
 | .ret => finish objs.length (.ok (.s (.slice none 0 0))) h27
 | .panic v29 => finish objs.length (.pan v29) h27)
def qec : CallFn := fun args objs =>
match args with
| [a0, a1] =>
qah none 3 (asRows (some 3) []) objs fun x1 h2 =>
 oLen a0 fun x3 =>
 oLoop (qdw x3 a0 a1 h2) ([x1, (.s (.int .i64 0))], h2) (qga objs)
| _ => none
def qd1 (x1 : A) (h13 : Heap) : List A × Heap → Option ((List A × Heap) ⊕ (Ex × List A × Heap)) := fun s17 =>
 oFieldA 0 x1 fun x18 =>
 oLoad none x18 s17.2 fun x19 =>
 oLen x19 fun x20 =>
 oCmp .lss (s17.1.getD 0 .any) x20 fun x21 =>
 oCond x21 (oFieldA 0 x1 fun x22 =>
 oLoadD s17.2.length [] none x22 s17.2 fun x23 h24 =>
 oIdxA 1 x23 (s17.1.getD 0 .any) fun x25 =>
 oLoadD s17.2.length [] none x25 h24 fun x26 h27 =>
 oFieldA 0 x1 fun x28 =>
 oLoadD s17.2.length [] none x28 h27 fun x29 h30 =>
 oAr .sub (s17.1.getD 0 .any) (.s (.int .i64 1)) fun x31 =>
 oIdxA 1 x29 x31 fun x32 =>
 oLoadD s17.2.length [] none x32 h30 fun x33 h34 =>
 oCmp .leq x26 x33 fun x35 =>
 oCond x35 ((trim true h13.length [(.s (.bool false))] h34).map fun p => .inr (Ex.ret, p.1, p.2))
 (oAr .add (s17.1.getD 0 .any) (.s (.int .i64 1)) fun x36 =>
 (trim true h13.length [x36] h34).map .inl))
 ((trim true h13.length [.any] s17.2).map fun p => .inr (Ex.exit 0, p.1, p.2))
def qdL (x1 : A) (objs : Heap) : Ex → List A → Heap → Option (Out × Heap) := fun e37 vs38 h39 =>
 (match e37 with
 | .normal => none
 | .exit i40 => if i40 = 0 then oFieldA 2 x1 fun x42 =>
  oLoad none x42 h39 fun x43 =>
  oLen x43 fun x44 =>
  oCmp .eql x44 (.s (.int .i64 0)) fun x45 =>
  oCond x45 (oFieldA 1 x1 fun x46 =>
  oLoad none x46 h39 fun x47 =>
  oLen x47 fun x48 =>
  oFieldA 0 x1 fun x49 =>
  oLoad none x49 h39 fun x50 =>
  oLen x50 fun x51 =>
  oCmp .eql x48 x51 fun x52 =>
  finish objs.length (.ok x52) h39)
  (oFieldA 1 x1 fun x53 =>
  oLoad none x53 h39 fun x54 =>
  oLen x54 fun x55 =>
  oCmp .eql x55 (.s (.int .i64 0)) fun x56 =>
  oGuard x56 true (fun _ => oFieldA 2 x1 fun x57 =>
  oLoad none x57 h39 fun x58 =>
  oLen x58 fun x59 =>
  oFieldA 0 x1 fun x60 =>
  oLoad none x60 h39 fun x61 =>
  oLen x61 fun x62 =>
  oAr .add x62 (.s (.int .i64 1)) fun x63 =>
  oCmp .eql x59 x63 fun x64 =>
  oGuard x64 true (fun _ => oFieldA 2 x1 fun x65 =>
  oLoad none x65 h39 fun x66 =>
  oLen x66 fun x67 =>
  oCmp .gtr x67 (.s (.int .i64 1)) fun x68 =>
  finish objs.length (.ok x68) h39)
  (fun _ => finish objs.length (.ok (.s (.bool false))) h39))
  (fun _ => finish objs.length (.ok (.s (.bool false))) h39)) else none
 | .ret => finish objs.length (.ok (vs38.getD 0 .any)) h39
 | .panic v41 => finish objs.length (.pan v41) h39)
def qd2 (objs : Heap) (x1 : A) : Ex → List A → Heap → Option (Out × Heap) := fun e14 vs12 h13 =>
 (match e14 with
 | .normal => oCond (vs12.getD 0 .any) (finish objs.length (.ok (.s (.bool false))) h13)
  (oLoop (qd1 x1 h13) ([(.s (.int .i64 1))], h13) (qdL x1 objs))
 | .exit i15 => none
 | .ret => finish objs.length (.ok (.s (.bool false))) h13
 | .panic v16 => finish objs.length (.pan v16) h13)
def qd3 : CallFn := fun args objs =>
match args with
| [a0, a1] =>
oNew none (some 3) a0 objs fun x1 h2 =>
 oJoin (oFieldA 0 x1 fun x3 =>
 oLoad none x3 h2 fun x4 =>
 oLen x4 fun x5 =>
 oCmp .gtr x5 (.s (.int .i64 7)) fun x6 =>
 oGuard x6 false (fun _ => oNot a1 fun x7 =>
 oGuard x7 true (fun _ => oFieldA 0 x1 fun x8 =>
 oLoad none x8 h2 fun x9 =>
 oLen x9 fun x10 =>
 oCmp .lss x10 (.s (.int .i64 3)) fun x11 =>
 (trim true h2.length [x11] h2).map fun p => (Ex.normal, p.1, p.2))
 (fun _ => (trim true h2.length [(.s (.bool false))] h2).map fun p => (Ex.normal, p.1, p.2)))
 (fun _ => (trim true h2.length [(.s (.bool true))] h2).map fun p => (Ex.normal, p.1, p.2))) (qd2 objs x1)
| _ => none
def qbo (objs : Heap) (s5 : List A × Heap) : Ex → List A → Heap → Option ((List A × Heap) ⊕ (Ex × List A × Heap)) := fun e26 vs24 h25 =>
 (match e26 with
 | .normal => oCond (vs24.getD 0 .any) ((trim true objs.length [(.s (.bool false))] h25).map fun p => .inr (Ex.ret, p.1, p.2))
  (oAr .add (s5.1.getD 0 .any) (.s (.int .i64 1)) fun x29 =>
  (trim true objs.length [x29] h25).map .inl)
 | .exit i27 => if i27 = 1 then oAr .add (s5.1.getD 0 .any) (.s (.int .i64 1)) fun x30 =>
  (trim true objs.length [x30] h25).map .inl else (trim true objs.length [.any] h25).map fun p => .inr (Ex.exit i27, p.1, p.2)
 | .ret => (trim true objs.length [.any] h25).map fun p => .inr (Ex.ret, p.1, p.2)
 | .panic v28 => some (.inr (Ex.panic v28, [.any], h25)))
def qaY (x4 : A) (x3 : A) (a2 : A) (a3 : A) (objs : Heap) : List A × Heap → Option ((List A × Heap) ⊕ (Ex × List A × Heap)) := fun s5 =>
 oCmp .lss (s5.1.getD 0 .any) x4 fun x6 =>
 oCond x6 (oIdxA 1 x3 (s5.1.getD 0 .any) fun x7 =>
 oLoad none x7 s5.2 fun x8 =>
 oJoin (oCmp .gtr a2 (.s (.int .i64 0)) fun x9 =>
 oGuard x9 true (fun _ => oAr .sub a2 (.s (.int .i64 1)) fun x10 =>
 oIdxA 1 a3 x10 fun x11 =>
 oLoad none x11 s5.2 fun x12 =>
 oCmp .lss x8 x12 fun x13 =>
 oGuard x13 false (fun _ => oLen a3 fun x14 =>
 oCmp .lss a2 x14 fun x15 =>
 oGuard x15 true (fun _ => oIdxA 1 a3 a2 fun x16 =>
 oLoad none x16 s5.2 fun x17 =>
 oCmp .geq x8 x17 fun x18 =>
 (trim true s5.2.length [x18] s5.2).map fun p => (Ex.normal, p.1, p.2))
 (fun _ => (trim true s5.2.length [(.s (.bool false))] s5.2).map fun p => (Ex.normal, p.1, p.2)))
 (fun _ => (trim true s5.2.length [(.s (.bool true))] s5.2).map fun p => (Ex.normal, p.1, p.2)))
 (fun _ => oLen a3 fun x19 =>
 oCmp .lss a2 x19 fun x20 =>
 oGuard x20 true (fun _ => oIdxA 1 a3 a2 fun x21 =>
 oLoad none x21 s5.2 fun x22 =>
 oCmp .geq x8 x22 fun x23 =>
 (trim true s5.2.length [x23] s5.2).map fun p => (Ex.normal, p.1, p.2))
 (fun _ => (trim true s5.2.length [(.s (.bool false))] s5.2).map fun p => (Ex.normal, p.1, p.2)))) (qbo objs s5))
 ((trim true objs.length [.any] s5.2).map fun p => .inr (Ex.exit 0, p.1, p.2))
def qcM (objs : Heap) : Ex → List A → Heap → Option (Out × Heap) := fun e31 vs32 h33 =>
 (match e31 with
 | .normal => none
 | .exit i34 => if i34 = 0 then finish objs.length (.ok (.s (.bool true))) h33 else none
 | .ret => finish objs.length (.ok (vs32.getD 0 .any)) h33
 | .panic v35 => finish objs.length (.pan v35) h33)
def qc6 : CallFn := fun args objs =>
match args with
| [a0, a1, a2, a3] =>
oIdxA 3 a0 a1 fun x1 =>
      oFieldA 0 x1 fun x2 =>
      oLoad none x2 objs fun x3 =>
      oLen x3 fun x4 =>
      oLoop (qaY x4 x3 a2 a3 objs) ([(.s (.int .i64 0))], objs) (qcM objs)
| _ => none
def qdJ (x31 : A) (x20 : A) (h24 : Heap) : List A × Heap → Option ((List A × Heap) ⊕ (Ex × List A × Heap)) := fun s32 =>
 oCmp .lss (s32.1.getD 1 .any) x31 fun x33 =>
 oCond x33 (oFieldA 0 x20 fun x34 =>
 oLoadD s32.2.length (wrL s32.2 [((s32.1.getD 0 .any), false)]) none x34 (s32.2 ++ List.replicate 2 .res) fun x35 h36 =>
 oIdxA 1 x35 (s32.1.getD 1 .any) fun x37 =>
 oLoadD s32.2.length (wrL s32.2 [((s32.1.getD 0 .any), false)]) none x37 h36 fun x38 h39 =>
 oFieldA 1 x20 fun x40 =>
 oLoadD s32.2.length (wrL s32.2 [((s32.1.getD 0 .any), false)]) none x40 h39 fun x41 h42 =>
 oIdxA 2 x41 (s32.1.getD 1 .any) fun x43 =>
 oLoadD s32.2.length (wrL s32.2 [((s32.1.getD 0 .any), false)]) (some 2) x43 h42 fun x44 h45 =>
 oBuildP [.s (.int .u64 0), .s (.int .i64 0), .s (.int .i64 0)] [(0, none, x38), (1, (some 2), x44)] fun x46 =>
 qah (some s32.2.length) 3 (asRows (some 3) [x46]) h45 fun x47 h48 =>
 qb2 s32.2.length (wrL s32.2 [((s32.1.getD 0 .any), false)]) (s32.2.length + 1) 3 24 (s32.1.getD 0 .any) x47 h48 fun x49 h50 =>
 oAr .add (s32.1.getD 1 .any) (.s (.int .i64 1)) fun x51 =>
 (trim true h24.length [x49, x51] h50).map .inl)
 ((trim true h24.length [(s32.1.getD 0 .any)] s32.2).map fun p => .inr (Ex.exit 0, p.1, p.2))
def qew (objs : Heap) : Ex → List A → Heap → Option (Out × Heap) := fun e52 vs53 h54 =>
 (match e52 with
 | .normal => none
 | .exit i55 => if i55 = 0 then finish objs.length (.ok (.tup [(.s (.int .i64 1)), (.s (.int .i64 0)), (vs53.getD 0 .any), (.s (.bool true))])) h54 else none
 | .ret => finish objs.length (.ok (.tup [(.s (.int .i64 0)), (.s (.int .i64 0)), (.s (.slice none 0 0)), (.s (.bool false))])) h54
 | .panic v56 => finish objs.length (.pan v56) h54)
def qcZ (x63 : A) (x70 : A) (x20 : A) (a0 : A) (s60 : List A × Heap) (h78 : Heap) : List A × Heap → Option ((List A × Heap) ⊕ (Ex × List A × Heap)) := fun s82 =>
 oAr .add x63 x70 fun x83 =>
 oCmp .lss (s82.1.getD 0 .any) x83 fun x84 =>
 oCond x84 (oFieldA 0 x20 fun x85 =>
 oLoad none x85 s82.2 fun x86 =>
 oLend qc6 [a0, (s82.1.getD 0 .any), (s60.1.getD 3 .any), x86] s82.2 (fun v89 h90 => some (.inr (Ex.panic v89, [.any, .any, .any, .any], h90))) fun w93 h94 => oFrz w93 h94 fun x87 h88 =>
 oNot x87 fun x91 =>
 oCond x91 ((trim true h78.length [(.s (.int .i64 0)), (.s (.int .i64 0)), (.s (.slice none 0 0)), (.s (.bool false))] h88).map fun p => .inr (Ex.ret, p.1, p.2))
 (oAr .add (s82.1.getD 0 .any) (.s (.int .i64 1)) fun x92 =>
 (trim true h78.length [x92] h88).map .inl))
 ((trim true h78.length [.any, .any, .any, .any] s82.2).map fun p => .inr (Ex.exit 4, p.1, p.2))
def qev (s60 : List A × Heap) (x70 : A) (x72 : A) (h24 : Heap) (x71 : A) : Ex → List A → Heap → Option ((List A × Heap) ⊕ (Ex × List A × Heap)) := fun e95 vs96 h97 =>
 (match e95 with
 | .normal => none
 | .exit i98 => if i98 = 4 then oAr .add (s60.1.getD 1 .any) x70 fun x100 =>
  oAppend none 3 24 (s60.1.getD 0 .any) x72 h97 fun x101 h102 =>
  oAr .add (s60.1.getD 3 .any) (.s (.int .i64 1)) fun x103 =>
  (trim true h24.length [x101, x100, x71, x103] h102).map .inl else if i98 = 3 then oAr .add (s60.1.getD 3 .any) (.s (.int .i64 1)) fun x104 =>
  (trim true h24.length [(s60.1.getD 0 .any), (s60.1.getD 1 .any), (s60.1.getD 2 .any), x104] h97).map .inl else (trim true h24.length [(vs96.getD 0 .any), (vs96.getD 1 .any), (vs96.getD 2 .any), (vs96.getD 3 .any), (s60.1.getD 0 .any), (s60.1.getD 1 .any), (s60.1.getD 2 .any)] h97).map fun p => .inr (Ex.exit i98, p.1, p.2)
 | .ret => (trim true h24.length [(vs96.getD 0 .any), (vs96.getD 1 .any), (vs96.getD 2 .any), (vs96.getD 3 .any), (s60.1.getD 0 .any), (s60.1.getD 1 .any), (s60.1.getD 2 .any)] h97).map fun p => .inr (Ex.ret, p.1, p.2)
 | .panic v99 => some (.inr (Ex.panic v99, [.any, .any, .any, .any, .any, .any, .any], h97)))
def qdK (h24 : Heap) (s60 : List A × Heap) (x63 : A) (x70 : A) (x20 : A) (a0 : A) (x72 : A) (x71 : A) : Ex → List A → Heap → Option ((List A × Heap) ⊕ (Ex × List A × Heap)) := fun e79 vs77 h78 =>
 (match e79 with
 | .normal => oCond (vs77.getD 0 .any) ((trim true h24.length [(.s (.int .i64 0)), (.s (.int .i64 0)), (.s (.slice none 0 0)), (.s (.bool false)), (s60.1.getD 0 .any), (s60.1.getD 1 .any), (s60.1.getD 2 .any)] h78).map fun p => .inr (Ex.ret, p.1, p.2))
  (oLoop (qcZ x63 x70 x20 a0 s60 h78) ([x63], h78) (qev s60 x70 x72 h24 x71))
 | .exit i80 => if i80 = 3 then oAr .add (s60.1.getD 3 .any) (.s (.int .i64 1)) fun x105 =>
  (trim true h24.length [(s60.1.getD 0 .any), (s60.1.getD 1 .any), (s60.1.getD 2 .any), x105] h78).map .inl else (trim true h24.length [.any, .any, .any, .any, (s60.1.getD 0 .any), (s60.1.getD 1 .any), (s60.1.getD 2 .any)] h78).map fun p => .inr (Ex.exit i80, p.1, p.2)
 | .ret => (trim true h24.length [.any, .any, .any, .any, (s60.1.getD 0 .any), (s60.1.getD 1 .any), (s60.1.getD 2 .any)] h78).map fun p => .inr (Ex.ret, p.1, p.2)
 | .panic v81 => some (.inr (Ex.panic v81, [.any, .any, .any, .any, .any, .any, .any], h78)))
def qbf (self : CallFn) (x59 : A) (x58 : A) (a1 : A) (h24 : Heap) (a0 : A) (x20 : A) : List A × Heap → Option ((List A × Heap) ⊕ (Ex × List A × Heap)) := fun s60 =>
 oCmp .lss (s60.1.getD 3 .any) x59 fun x61 =>
 oCond x61 (oIdxA 1 x58 (s60.1.getD 3 .any) fun x62 =>
 oLoad none x62 s60.2 fun x63 =>
 oAr .add a1 (s60.1.getD 1 .any) fun x64 =>
 oCmp .neq x63 x64 fun x65 =>
 oCond x65 ((trim true h24.length [(.s (.int .i64 0)), (.s (.int .i64 0)), (.s (.slice none 0 0)), (.s (.bool false)), (s60.1.getD 0 .any), (s60.1.getD 1 .any), (s60.1.getD 2 .any)] s60.2).map fun p => .inr (Ex.ret, p.1, p.2))
 (oLend self [a0, x63] s60.2 (fun v68 h69 => some (.inr (Ex.panic v68, [.any, .any, .any, .any, .any, .any, .any], h69))) fun w106 h107 => oFrz w106 h107 fun x66 h67 =>
 qae 0 x66 fun x70 =>
 qae 1 x66 fun x71 =>
 qae 2 x66 fun x72 =>
 qae 3 x66 fun x73 =>
 oJoin (oNot x73 fun x74 =>
 oGuard x74 false (fun _ => oCmp .geq (s60.1.getD 2 .any) (.s (.int .i64 0)) fun x75 =>
 oGuard x75 true (fun _ => oCmp .neq x71 (s60.1.getD 2 .any) fun x76 =>
 (trim true h67.length [x76] h67).map fun p => (Ex.normal, p.1, p.2))
 (fun _ => (trim true h67.length [(.s (.bool false))] h67).map fun p => (Ex.normal, p.1, p.2)))
 (fun _ => (trim true h67.length [(.s (.bool true))] h67).map fun p => (Ex.normal, p.1, p.2))) (qdK h24 s60 x63 x70 x20 a0 x72 x71)))
 ((trim true h24.length [.any, .any, .any, .any, (s60.1.getD 0 .any), (s60.1.getD 1 .any), (s60.1.getD 2 .any)] s60.2).map fun p => .inr (Ex.exit 2, p.1, p.2))
def qeu (objs : Heap) : Ex → List A → Heap → Option (Out × Heap) := fun e108 vs109 h110 =>
 (match e108 with
 | .normal => none
 | .exit i111 => if i111 = 2 then oAr .add (vs109.getD 6 .any) (.s (.int .i64 1)) fun x113 =>
  finish objs.length (.ok (.tup [(vs109.getD 5 .any), x113, (vs109.getD 4 .any), (.s (.bool true))])) h110 else none
 | .ret => finish objs.length (.ok (.tup [(vs109.getD 0 .any), (vs109.getD 1 .any), (vs109.getD 2 .any), (vs109.getD 3 .any)])) h110
 | .panic v112 => finish objs.length (.pan v112) h110)
def qd0 (self : CallFn) (objs : Heap) (a0 : A) (a1 : A) : Ex → List A → Heap → Option (Out × Heap) := fun e15 vs13 h14 =>
 (match e15 with
 | .normal => oCond (vs13.getD 0 .any) (finish objs.length (.ok (.tup [(.s (.int .i64 0)), (.s (.int .i64 0)), (.s (.slice none 0 0)), (.s (.bool false))])) h14)
  (oIdxA 3 a0 a1 fun x18 =>
  oLoad (some 3) x18 h14 fun x19 =>
  oNew none (some 3) (.agg [.s (.slice none 0 0), .s (.slice none 0 0), .s (.slice none 0 0)]) h14 fun x20 h21 =>
  oStore (some 3) x20 x19 h21 fun h22 =>
  qah none 3 (asRows (some 3) []) h22 fun x23 h24 =>
  oFieldA 2 x20 fun x25 =>
  oLoad none x25 h24 fun x26 =>
  oLen x26 fun x27 =>
  oCmp .eql x27 (.s (.int .i64 0)) fun x28 =>
  oCond x28 (oFieldA 0 x20 fun x29 =>
  oLoad none x29 h24 fun x30 =>
  oLen x30 fun x31 =>
  oLoop (qdJ x31 x20 h24) ([x23, (.s (.int .i64 0))], h24) (qew objs))
  (oFieldA 2 x20 fun x57 =>
  oLoad none x57 h24 fun x58 =>
  oLen x58 fun x59 =>
  oLoop (qbf self x59 x58 a1 h24 a0 x20) ([x23, (.s (.int .i64 1)), (.s (.int .i64 (-1))), (.s (.int .i64 0))], h24) (qeu objs)))
 | .exit i16 => none
 | .ret => finish objs.length (.ok (.tup [(.s (.int .i64 0)), (.s (.int .i64 0)), (.s (.slice none 0 0)), (.s (.bool false))])) h14
 | .panic v17 => finish objs.length (.pan v17) h14)
def qba (self : CallFn) : CallFn := fun args objs =>
match args with
| [a0, a1] =>
oJoin (oLen a0 fun x1 =>
      oCmp .geq a1 x1 fun x2 =>
      oGuard x2 false (fun _ => oIdxA 3 a0 a1 fun x3 =>
      oLoad (some 3) x3 objs fun x4 =>
      oCmp .eql a1 (.s (.int .i64 0)) fun x5 =>
      oLend qd3 [x4, x5] objs (fun v8 h9 => some (Ex.panic v8, [], h9)) fun w11 h12 => oFrz w11 h12 fun x6 h7 =>
      oNot x6 fun x10 =>
      (trim true objs.length [x10] h7).map fun p => (Ex.normal, p.1, p.2))
      (fun _ => (trim true objs.length [(.s (.bool true))] objs).map fun p => (Ex.normal, p.1, p.2))) (qd0 self objs a0 a1)
| _ => none
def qcm : Nat → CallFn
| 0 => fun _ _ => none
| n + 1 => qba (qcm n)
def qex (objs : Heap) (x7 : A) : Ex → List A → Heap → Option (Out × Heap) := fun e14 vs12 h13 =>
 (match e14 with
 | .normal => oCond (vs12.getD 0 .any) (finish objs.length (.ok (.tup [(.s (.slice none 0 0)), (.s (.bool false))])) h13)
  (finish objs.length (.ok (.tup [x7, (.s (.bool true))])) h13)
 | .exit i15 => none
 | .ret => finish objs.length (.ok (.tup [(.s (.slice none 0 0)), (.s (.bool false))])) h13
 | .panic v16 => finish objs.length (.pan v16) h13)
def qc2 : CallFn := fun args objs =>
match args with
| [a0] =>
oLend (qcm big) [a0, (.s (.int .i64 0))] objs (fun v3 h4 => finish objs.length (.pan v3) h4) fun w17 h18 => oFrz w17 h18 fun x1 h2 =>
      qae 0 x1 fun x5 =>
      qae 1 x1 fun x6 =>
      qae 2 x1 fun x7 =>
      qae 3 x1 fun x8 =>
      oJoin (oNot x8 fun x9 =>
      oGuard x9 false (fun _ => oLen a0 fun x10 =>
      oCmp .neq x5 x10 fun x11 =>
      (trim true h2.length [x11] h2).map fun p => (Ex.normal, p.1, p.2))
      (fun _ => (trim true h2.length [(.s (.bool true))] h2).map fun p => (Ex.normal, p.1, p.2))) (qex objs x7)
| _ => none
def qdM (x4 : A) (a0 : A) (a1 : A) (objs : Heap) : List A × Heap → Option ((List A × Heap) ⊕ (Ex × List A × Heap)) := fun s5 =>
 oCmp .lss (s5.1.getD 0 .any) x4 fun x6 =>
 oCond x6 (oIdxA 3 a0 (s5.1.getD 0 .any) fun x7 =>
 oLoadD s5.2.length [] (some 3) x7 s5.2 fun x8 h9 =>
 oIdxA 3 a1 (s5.1.getD 0 .any) fun x10 =>
 oLoadD s5.2.length [] (some 3) x10 h9 fun x11 h12 =>
 oEqAgg [true, true, true] true x8 x11 fun x13 =>
 oCond x13 ((trim true objs.length [(.s (.bool false))] h12).map fun p => .inr (Ex.ret, p.1, p.2))
 (oAr .add (s5.1.getD 0 .any) (.s (.int .i64 1)) fun x14 =>
 (trim true objs.length [x14] h12).map .inl))
 ((trim true objs.length [.any] s5.2).map fun p => .inr (Ex.exit 0, p.1, p.2))
def qfy (objs : Heap) : Ex → List A → Heap → Option (Out × Heap) := fun e15 vs16 h17 =>
 (match e15 with
 | .normal => none
 | .exit i18 => if i18 = 0 then finish objs.length (.ok (.s (.bool true))) h17 else none
 | .ret => finish objs.length (.ok (vs16.getD 0 .any)) h17
 | .panic v19 => finish objs.length (.pan v19) h17)
def qcn : CallFn := fun args objs =>
match args with
| [a0, a1] =>
oLen a0 fun x1 =>
 oLen a1 fun x2 =>
 oCmp .neq x1 x2 fun x3 =>
 oCond x3 (finish objs.length (.ok (.s (.bool false))) objs)
 (oLen a0 fun x4 =>
 oLoop (qdM x4 a0 a1 objs) ([(.s (.int .i64 0))], objs) (qfy objs))
| _ => none
def qbt (x1 : A) (h13 : Heap) : List A × Heap → Option ((List A × Heap) ⊕ (Ex × List A × Heap)) := fun s17 =>
 oFieldA 0 x1 fun x18 =>
 oLoad none x18 s17.2 fun x19 =>
 oLen x19 fun x20 =>
 oCmp .lss (s17.1.getD 0 .any) x20 fun x21 =>
 oCond x21 (oFieldA 0 x1 fun x22 =>
 oLoadD s17.2.length [] none x22 s17.2 fun x23 h24 =>
 oAr .sub (s17.1.getD 0 .any) (.s (.int .i64 1)) fun x25 =>
 oIdxA 1 x23 x25 fun x26 =>
 oLoadD s17.2.length [] none x26 h24 fun x27 h28 =>
 oFieldA 0 x1 fun x29 =>
 oLoadD s17.2.length [] none x29 h28 fun x30 h31 =>
 oIdxA 1 x30 (s17.1.getD 0 .any) fun x32 =>
 oLoadD s17.2.length [] none x32 h31 fun x33 h34 =>
 oCmp .geq x27 x33 fun x35 =>
 oCond x35 ((trim true h13.length [(.s (.bool false))] h34).map fun p => .inr (Ex.ret, p.1, p.2))
 (oAr .add (s17.1.getD 0 .any) (.s (.int .i64 1)) fun x36 =>
 (trim true h13.length [x36] h34).map .inl))
 ((trim true h13.length [.any] s17.2).map fun p => .inr (Ex.exit 0, p.1, p.2))
def qbJ (x1 : A) (objs : Heap) : Ex → List A → Heap → Option (Out × Heap) := fun e37 vs38 h39 =>
 (match e37 with
 | .normal => none
 | .exit i40 => if i40 = 0 then oFieldA 2 x1 fun x42 =>
  oLoad none x42 h39 fun x43 =>
  oLen x43 fun x44 =>
  oCmp .eql x44 (.s (.int .i64 0)) fun x45 =>
  oCond x45 (oFieldA 1 x1 fun x46 =>
  oLoad none x46 h39 fun x47 =>
  oLen x47 fun x48 =>
  oFieldA 0 x1 fun x49 =>
  oLoad none x49 h39 fun x50 =>
  oLen x50 fun x51 =>
  oCmp .eql x48 x51 fun x52 =>
  finish objs.length (.ok x52) h39)
  (oFieldA 1 x1 fun x53 =>
  oLoad none x53 h39 fun x54 =>
  oLen x54 fun x55 =>
  oCmp .eql x55 (.s (.int .i64 0)) fun x56 =>
  oGuard x56 true (fun _ => oFieldA 2 x1 fun x57 =>
  oLoad none x57 h39 fun x58 =>
  oLen x58 fun x59 =>
  oFieldA 0 x1 fun x60 =>
  oLoad none x60 h39 fun x61 =>
  oLen x61 fun x62 =>
  oAr .add x62 (.s (.int .i64 1)) fun x63 =>
  oCmp .eql x59 x63 fun x64 =>
  oGuard x64 true (fun _ => oFieldA 2 x1 fun x65 =>
  oLoad none x65 h39 fun x66 =>
  oLen x66 fun x67 =>
  oCmp .geq x67 (.s (.int .i64 2)) fun x68 =>
  finish objs.length (.ok x68) h39)
  (fun _ => finish objs.length (.ok (.s (.bool false))) h39))
  (fun _ => finish objs.length (.ok (.s (.bool false))) h39)) else none
 | .ret => finish objs.length (.ok (vs38.getD 0 .any)) h39
 | .panic v41 => finish objs.length (.pan v41) h39)
def qbu (objs : Heap) (x1 : A) : Ex → List A → Heap → Option (Out × Heap) := fun e14 vs12 h13 =>
 (match e14 with
 | .normal => oCond (vs12.getD 0 .any) (finish objs.length (.ok (.s (.bool false))) h13)
  (oLoop (qbt x1 h13) ([(.s (.int .i64 1))], h13) (qbJ x1 objs))
 | .exit i15 => none
 | .ret => finish objs.length (.ok (.s (.bool false))) h13
 | .panic v16 => finish objs.length (.pan v16) h13)
def qbc : CallFn := fun args objs =>
match args with
| [a0, a1, a2] =>
oNew none (some 3) a1 objs fun x1 h2 =>
 oJoin (oFieldA 0 x1 fun x3 =>
 oLoad none x3 h2 fun x4 =>
 oLen x4 fun x5 =>
 oCmp .gtr x5 (.s (.int .i64 7)) fun x6 =>
 oGuard x6 false (fun _ => oNot a2 fun x7 =>
 oGuard x7 true (fun _ => oFieldA 0 x1 fun x8 =>
 oLoad none x8 h2 fun x9 =>
 oLen x9 fun x10 =>
 oCmp .lss x10 (.s (.int .i64 3)) fun x11 =>
 (trim true h2.length [x11] h2).map fun p => (Ex.normal, p.1, p.2))
 (fun _ => (trim true h2.length [(.s (.bool false))] h2).map fun p => (Ex.normal, p.1, p.2)))
 (fun _ => (trim true h2.length [(.s (.bool true))] h2).map fun p => (Ex.normal, p.1, p.2))) (qbu objs x1)
| _ => none
def qat : CallFn := fun args objs =>
match args with
| [a0, a1] =>
oNew none (some 4) a0 objs fun x1 h2 =>
 oFieldA 2 x1 fun x3 =>
 oLoad none x3 h2 fun x4 =>
 oGuard x4 true (fun _ => oFieldA 0 x1 fun x5 =>
 oLoad none x5 h2 fun x6 =>
 oCmp .lss a1 x6 fun x7 =>
 oGuard x7 false (fun _ => oFieldA 3 x1 fun x8 =>
 oLoad none x8 h2 fun x9 =>
 oGuard x9 true (fun _ => oFieldA 1 x1 fun x10 =>
 oLoad none x10 h2 fun x11 =>
 oCmp .geq a1 x11 fun x12 =>
 finish objs.length (.ok x12) h2)
 (fun _ => finish objs.length (.ok (.s (.bool false))) h2))
 (fun _ => finish objs.length (.ok (.s (.bool true))) h2))
 (fun _ => oFieldA 3 x1 fun x13 =>
 oLoad none x13 h2 fun x14 =>
 oGuard x14 true (fun _ => oFieldA 1 x1 fun x15 =>
 oLoad none x15 h2 fun x16 =>
 oCmp .geq a1 x16 fun x17 =>
 finish objs.length (.ok x17) h2)
 (fun _ => finish objs.length (.ok (.s (.bool false))) h2))
| _ => none
def qaB (En : String → CallFn) (x1 : A) (a0 : A) (a1 : A) (objs : Heap) : List A × Heap → Option ((List A × Heap) ⊕ (Ex × List A × Heap)) := fun s2 =>
 oCmp .lss (s2.1.getD 0 .any) x1 fun x3 =>
 oCond x3 (oIdxA 1 a0 (s2.1.getD 0 .any) fun x4 =>
 oLoad none x4 s2.2 fun x5 =>
 oLendV En a1 [x5] s2.2 (fun v8 h9 => some (.inr (Ex.panic v8, [.any], h9))) fun w11 h12 => oFrz w11 h12 fun x6 h7 =>
 oCond x6 ((trim true objs.length [(s2.1.getD 0 .any)] h7).map fun p => .inr (Ex.ret, p.1, p.2))
 (oAr .add (s2.1.getD 0 .any) (.s (.int .i64 1)) fun x10 =>
 (trim true objs.length [x10] h7).map .inl))
 ((trim true objs.length [.any] s2.2).map fun p => .inr (Ex.exit 0, p.1, p.2))
def qaC (objs : Heap) : Ex → List A → Heap → Option (Out × Heap) := fun e13 vs14 h15 =>
 (match e13 with
 | .normal => none
 | .exit i16 => if i16 = 0 then finish objs.length (.ok (.s (.int .i64 (-1)))) h15 else none
 | .ret => finish objs.length (.ok (vs14.getD 0 .any)) h15
 | .panic v17 => finish objs.length (.pan v17) h15)
def qao (En : String → CallFn) : CallFn := fun args objs =>
match args with
| [a0, a1] =>
oLen a0 fun x1 =>
 oLoop (qaB En x1 a0 a1 objs) ([(.s (.int .i64 0))], objs) (qaC objs)
| _ => none
def qav (En : String → CallFn) : CallFn := fun args objs =>
match args with
| [a0, a1] =>
oLend (qao En) [a0, a1] objs (fun v3 h4 => finish objs.length (.pan v3) h4) fun w6 h7 => oFrz w6 h7 fun x1 h2 =>
      oCmp .geq x1 (.s (.int .i64 0)) fun x5 =>
      finish objs.length (.ok x5) h2
| _ => none
def qau : String → CallFn := fun n => if n = "(bailey/tree.bounds).outside" then qat else (fun _ _ => none)
def qcd (a0 : A) (x51 : A) (objs : Heap) (x65 : A) : Ex → List A → Heap → Option (Out × Heap) := fun e122 vs120 h121 =>
 (match e122 with
 | .normal => qa0 a0 fun x125 =>
  oFieldA 3 x125 fun x126 =>
  oLoadD h121.length [] none x126 h121 fun x127 h128 =>
  oFieldA 0 x51 fun x129 =>
  oLoadD h121.length [] none x129 h128 fun x130 h131 =>
  oLen x130 fun x132 =>
  oAr .add x127 x132 fun x133 =>
  qa0 a0 fun x134 =>
  oFieldA 3 x134 fun x135 =>
  oStore none x135 x133 h131 fun h136 =>
  finish objs.length (.ok x65) h136
 | .exit i123 => none
 | .ret => finish objs.length (.ok (.s (.pointer none))) h121
 | .panic v124 => finish objs.length (.pan v124) h121)
def qcc (a0 : A) (a2 : A) (x51 : A) (objs : Heap) (x65 : A) : Ex → List A → Heap → Option (Out × Heap) := fun e104 vs102 h103 =>
 (match e104 with
 | .normal => oJoin (qa0 a0 fun x107 =>
  oFieldA 4 x107 fun x108 =>
  oLoad none x108 h103 fun x109 =>
  oGuard x109 false (fun _ => qa0 a0 fun x110 =>
  oFieldA 2 x110 fun x111 =>
  oLoad none x111 h103 fun x112 =>
  oCmp .neq x112 a2 fun x113 =>
  qa0 a0 fun x114 =>
  oFieldA 4 x114 fun x115 =>
  oStore none x115 x113 h103 fun h116 =>
  (trim true h103.length [] h116).map fun p => (Ex.normal, p.1, p.2))
  (fun _ => qa0 a0 fun x117 =>
  oFieldA 4 x117 fun x118 =>
  oStore none x118 (.s (.bool true)) h103 fun h119 =>
  (trim true h103.length [] h119).map fun p => (Ex.normal, p.1, p.2))) (qcd a0 x51 objs x65)
 | .exit i105 => none
 | .ret => finish objs.length (.ok (.s (.pointer none))) h103
 | .panic v106 => finish objs.length (.pan v106) h103)
def qcb (self : CallFn) (x65 : A) (a0 : A) (a2 : A) (x145 : A) (x143 : A) (s140 : List A × Heap) (h87 : Heap) : Ex → List A → Heap → Option ((List A × Heap) ⊕ (Ex × List A × Heap)) := fun e177 vs175 h176 =>
 (match e177 with
 | .normal => qa0 x65 fun x180 =>
  oFieldA 2 x180 fun x181 =>
  oLoadD h176.length (wrL h176 [(a0, false), (x65, true)]) none x181 (h176 ++ List.replicate 2 .res) fun x182 h183 =>
  oAr .add a2 (.s (.int .i64 1)) fun x184 =>
  oLoadD h176.length (wrL h176 [(a0, false), (x65, true)]) (some 4) x145 h183 fun x185 h186 =>
  oCallW h176.length (wrL h176 [(a0, false), (x65, true)]) (froze self) [a0, x143, x184, x185] h186 fun x187 h188 =>
  qah (some h176.length) 1 (asRows none [x187]) h188 fun x189 h190 =>
  qb2 h176.length (wrL h176 [(a0, false), (x65, true)]) (h176.length + 1) 1 8 x182 x189 h190 fun x191 h192 =>
  qa0 x65 fun x193 =>
  oFieldA 2 x193 fun x194 =>
  oStore none x194 x191 h192 fun h195 =>
  oAr .add (s140.1.getD 0 .any) (.s (.int .i64 1)) fun x196 =>
  (trim true h87.length [x196] h195).map .inl
 | .exit i178 => if i178 = 1 then oAr .add (s140.1.getD 0 .any) (.s (.int .i64 1)) fun x199 =>
  (trim true h87.length [x199] h176).map .inl else (trim true h87.length [] h176).map fun p => .inr (Ex.exit i178, p.1, p.2)
 | .ret => (trim true h87.length [] h176).map fun p => .inr (Ex.ret, p.1, p.2)
 | .panic v179 => some (.inr (Ex.panic v179, [], h176)))
def qbI (self : CallFn) (x51 : A) (s140 : List A × Heap) (x145 : A) (x65 : A) (a0 : A) (a2 : A) (x143 : A) (h87 : Heap) : Ex → List A → Heap → Option ((List A × Heap) ⊕ (Ex × List A × Heap)) := fun e160 vs158 h159 =>
 (match e160 with
 | .normal => oJoin (oFieldA 0 x51 fun x163 =>
  oLoad none x163 h159 fun x164 =>
  oLen x164 fun x165 =>
  oCmp .lss (s140.1.getD 0 .any) x165 fun x166 =>
  oCond x166 (oFieldA 0 x51 fun x167 =>
  oLoad none x167 h159 fun x168 =>
  oIdxA 1 x168 (s140.1.getD 0 .any) fun x169 =>
  oLoad none x169 h159 fun x170 =>
  oFieldA 1 x145 fun x171 =>
  oStore none x171 x170 h159 fun h172 =>
  oFieldA 3 x145 fun x173 =>
  oStore none x173 (.s (.bool true)) h172 fun h174 =>
  (trim true h159.length [] h174).map fun p => (Ex.normal, p.1, p.2))
  ((trim true h159.length [] h159).map fun p => (Ex.normal, p.1, p.2))) (qcb self x65 a0 a2 x145 x143 s140 h87)
 | .exit i161 => if i161 = 1 then oAr .add (s140.1.getD 0 .any) (.s (.int .i64 1)) fun x200 =>
  (trim true h87.length [x200] h159).map .inl else (trim true h87.length [] h159).map fun p => .inr (Ex.exit i161, p.1, p.2)
 | .ret => (trim true h87.length [] h159).map fun p => .inr (Ex.ret, p.1, p.2)
 | .panic v162 => some (.inr (Ex.panic v162, [], h159)))
def qbg (self : CallFn) (x139 : A) (x138 : A) (x1 : A) (x51 : A) (x65 : A) (a0 : A) (a2 : A) (h87 : Heap) : List A × Heap → Option ((List A × Heap) ⊕ (Ex × List A × Heap)) := fun s140 =>
 oCmp .lss (s140.1.getD 0 .any) x139 fun x141 =>
 oCond x141 (oIdxA 1 x138 (s140.1.getD 0 .any) fun x142 =>
 oLoad none x142 s140.2 fun x143 =>
 oLoad (some 4) x1 s140.2 fun x144 =>
 oNew none (some 4) (.agg [.s (.int .u64 0), .s (.int .u64 0), .s (.bool false), .s (.bool false)]) s140.2 fun x145 h146 =>
 oStore (some 4) x145 x144 h146 fun h147 =>
 oJoin (oCmp .gtr (s140.1.getD 0 .any) (.s (.int .i64 0)) fun x148 =>
 oCond x148 (oFieldA 0 x51 fun x149 =>
 oLoad none x149 h147 fun x150 =>
 oAr .sub (s140.1.getD 0 .any) (.s (.int .i64 1)) fun x151 =>
 oIdxA 1 x150 x151 fun x152 =>
 oLoad none x152 h147 fun x153 =>
 oFieldA 0 x145 fun x154 =>
 oStore none x154 x153 h147 fun h155 =>
 oFieldA 2 x145 fun x156 =>
 oStore none x156 (.s (.bool true)) h155 fun h157 =>
 (trim true h147.length [] h157).map fun p => (Ex.normal, p.1, p.2))
 ((trim true h147.length [] h147).map fun p => (Ex.normal, p.1, p.2))) (qbI self x51 s140 x145 x65 a0 a2 x143 h87))
 ((trim true h87.length [] s140.2).map fun p => .inr (Ex.exit 0, p.1, p.2))
def qdp (objs : Heap) (x65 : A) : Ex → List A → Heap → Option (Out × Heap) := fun e201 vs202 h203 =>
 (match e201 with
 | .normal => none
 | .exit i204 => if i204 = 0 then finish objs.length (.ok x65) h203 else none
 | .ret => finish objs.length (.ok (.s (.pointer none))) h203
 | .panic v205 => finish objs.length (.pan v205) h203)
def qbs (self : CallFn) (x51 : A) (a0 : A) (a2 : A) (objs : Heap) (x65 : A) (x1 : A) : Ex → List A → Heap → Option (Out × Heap) := fun e88 vs86 h87 =>
 (match e88 with
 | .normal => oFieldA 2 x51 fun x91 =>
  oLoad none x91 h87 fun x92 =>
  oLen x92 fun x93 =>
  oCmp .eql x93 (.s (.int .i64 0)) fun x94 =>
  oCond x94 (oJoin (qa0 a0 fun x95 =>
  oFieldA 2 x95 fun x96 =>
  oLoad none x96 h87 fun x97 =>
  oCmp .lss x97 (.s (.int .i64 0)) fun x98 =>
  oCond x98 (qa0 a0 fun x99 =>
  oFieldA 2 x99 fun x100 =>
  oStore none x100 a2 h87 fun h101 =>
  (trim true h87.length [] h101).map fun p => (Ex.normal, p.1, p.2))
  ((trim true h87.length [] h87).map fun p => (Ex.normal, p.1, p.2))) (qcc a0 a2 x51 objs x65))
  (oFieldA 2 x51 fun x137 =>
  oLoad none x137 h87 fun x138 =>
  oLen x138 fun x139 =>
  oLoop (qbg self x139 x138 x1 x51 x65 a0 a2 h87) ([(.s (.int .i64 0))], h87) (qdp objs x65))
 | .exit i89 => none
 | .ret => finish objs.length (.ok (.s (.pointer none))) h87
 | .panic v90 => finish objs.length (.pan v90) h87)
def qca (En : String → CallFn) (self : CallFn) (a0 : A) (objs : Heap) (a1 : A) (x1 : A) (a2 : A) : Ex → List A → Heap → Option (Out × Heap) := fun e30 vs28 h29 =>
 (match e30 with
 | .normal => oCond (vs28.getD 0 .any) (qa0 a0 fun x33 =>
  oFieldA 4 x33 fun x34 =>
  oStore none x34 (.s (.bool true)) h29 fun h35 =>
  oBuildP [.s (.slice none 0 0), .s (.slice none 0 0), .s (.slice none 0 0)] [] fun x36 =>
  oNew none (some 3) x36 h35 fun x37 h38 =>
  finish objs.length (.ok x37) h38)
  (qa0 a0 fun x39 =>
  oFieldA 1 x39 fun x40 =>
  oLoad none x40 h29 fun x41 =>
  oAr .add x41 (.s (.int .i64 1)) fun x42 =>
  qa0 a0 fun x43 =>
  oFieldA 1 x43 fun x44 =>
  oStore none x44 x42 h29 fun h45 =>
  qa0 a0 fun x46 =>
  oFieldA 0 x46 fun x47 =>
  oLoad none x47 h45 fun x48 =>
  oIdxA 3 x48 a1 fun x49 =>
  oLoad (some 3) x49 h45 fun x50 =>
  oNew none (some 3) (.agg [.s (.slice none 0 0), .s (.slice none 0 0), .s (.slice none 0 0)]) h45 fun x51 h52 =>
  oStore (some 3) x51 x50 h52 fun h53 =>
  oFieldA 0 x51 fun x54 =>
  oLoadD h53.length [] none x54 (h53 ++ List.replicate 1 .res) fun x55 h56 =>
  oCallF h53.length [] (qa8 1 8) [x55] h56 fun x57 h58 =>
  oFieldA 1 x51 fun x59 =>
  oLoadD h53.length [] none x59 h58 fun x60 h61 =>
  oCallF h53.length [] (qa8 2 16) [x60] h61 fun x62 h63 =>
  oBuildP [.s (.slice none 0 0), .s (.slice none 0 0), .s (.slice none 0 0)] [(0, none, x57), (1, none, x62)] fun x64 =>
  oNew (some h53.length) (some 3) x64 h63 fun x65 h66 =>
  oJoin (qa0 a0 fun x67 =>
  oFieldA 4 x67 fun x68 =>
  oLoad none x68 h66 fun x69 =>
  oGuard x69 false (fun _ => oFieldA 0 x51 fun x70 =>
  oLoad none x70 h66 fun x71 =>
  oLoad (some 4) x1 h66 fun x72 =>
  oBound "(bailey/tree.bounds).outside" x72 fun x73 =>
  oLend (qav En) [x71, x73] h66 (fun v76 h77 => some (Ex.panic v76, [], h77)) fun w81 h82 => oFrz w81 h82 fun x74 h75 =>
  qa0 a0 fun x78 =>
  oFieldA 4 x78 fun x79 =>
  oStore none x79 x74 h75 fun h80 =>
  (trim true h66.length [] h80).map fun p => (Ex.normal, p.1, p.2))
  (fun _ => qa0 a0 fun x83 =>
  oFieldA 4 x83 fun x84 =>
  oStore none x84 (.s (.bool true)) h66 fun h85 =>
  (trim true h66.length [] h85).map fun p => (Ex.normal, p.1, p.2))) (qbs self x51 a0 a2 objs x65 x1))
 | .exit i31 => none
 | .ret => finish objs.length (.ok (.s (.pointer none))) h29
 | .panic v32 => finish objs.length (.pan v32) h29)
def qaj (self : CallFn) : CallFn := fun args objs =>
match args with
| [a0, a1, a2, a3] =>
oNew none (some 4) a3 objs fun x1 h2 =>
 oJoin (qa0 a0 fun x3 =>
 oFieldA 4 x3 fun x4 =>
 oLoad none x4 h2 fun x5 =>
 oGuard x5 false (fun _ => qa0 a0 fun x6 =>
 oFieldA 1 x6 fun x7 =>
 oLoad none x7 h2 fun x8 =>
 oCmp .neq a1 x8 fun x9 =>
 oGuard x9 false (fun _ => qa0 a0 fun x10 =>
 oFieldA 0 x10 fun x11 =>
 oLoad none x11 h2 fun x12 =>
 oLen x12 fun x13 =>
 oCmp .geq a1 x13 fun x14 =>
 oGuard x14 false (fun _ => qa0 a0 fun x15 =>
 oFieldA 0 x15 fun x16 =>
 oLoad none x16 h2 fun x17 =>
 oIdxA 3 x17 a1 fun x18 =>
 oLoad (some 3) x18 h2 fun x19 =>
 oCmp .eql a1 (.s (.int .i64 0)) fun x20 =>
 oLend qbc [a0, x19, x20] h2 (fun v23 h24 => some (Ex.panic v23, [], h24)) fun w26 h27 => oFrz w26 h27 fun x21 h22 =>
 oNot x21 fun x25 =>
 (trim true h2.length [x25] h22).map fun p => (Ex.normal, p.1, p.2))
 (fun _ => (trim true h2.length [(.s (.bool true))] h2).map fun p => (Ex.normal, p.1, p.2)))
 (fun _ => (trim true h2.length [(.s (.bool true))] h2).map fun p => (Ex.normal, p.1, p.2)))
 (fun _ => (trim true h2.length [(.s (.bool true))] h2).map fun p => (Ex.normal, p.1, p.2))) (qca (qau) self a0 objs a1 x1 a2)
| _ => none
def qaz : Nat → CallFn
| 0 => fun _ _ => none
| n + 1 => qaj (qaz n)
def qgu (objs : Heap) (x2 : A) (x5 : A) : Ex → List A → Heap → Option (Out × Heap) := fun e19 vs17 h18 =>
 (match e19 with
 | .normal => oCond (vs17.getD 0 .any) (finish objs.length (.ok (.tup [(.s (.pointer none)), (.s (.int .i64 81))])) h18)
  (qa0 x2 fun x22 =>
  oFieldA 3 x22 fun x23 =>
  oLoad none x23 h18 fun x24 =>
  oBuildP [.s (.pointer none), .s (.int .i64 0)] [(0, none, x5), (1, none, x24)] fun x25 =>
  oNew none (some 2) x25 h18 fun x26 h27 =>
  finish objs.length (.ok (.tup [x26, (.s (.int .i64 0))])) h27)
 | .exit i20 => none
 | .ret => finish objs.length (.ok (.tup [(.s (.pointer none)), (.s (.int .i64 0))])) h18
 | .panic v21 => finish objs.length (.pan v21) h18)
def tree_Of : CallFn := fun args objs =>
match args with
| [a0] =>
oBuildP [.s (.slice none 0 0), .s (.int .i64 0), .s (.int .i64 0), .s (.int .i64 0), .s (.bool false)] [(0, none, a0), (2, none, (.s (.int .i64 (-1))))] fun x1 =>
 oNew none (some 5) x1 objs fun x2 h3 =>
 oBuildP [.s (.int .u64 0), .s (.int .u64 0), .s (.bool false), .s (.bool false)] [] fun x4 =>
 oCall (qaz big) [x2, (.s (.int .i64 0)), (.s (.int .i64 0)), x4] h3 (fun v7 h8 => finish objs.length (.pan v7) h8) fun w28 h29 => oFrz w28 h29 fun x5 h6 =>
 oJoin (qa0 x2 fun x9 =>
 oFieldA 4 x9 fun x10 =>
 oLoad none x10 h6 fun x11 =>
 oGuard x11 false (fun _ => qa0 x2 fun x12 =>
 oFieldA 1 x12 fun x13 =>
 oLoad none x13 h6 fun x14 =>
 oLen a0 fun x15 =>
 oCmp .neq x14 x15 fun x16 =>
 (trim true h6.length [x16] h6).map fun p => (Ex.normal, p.1, p.2))
 (fun _ => (trim true h6.length [(.s (.bool true))] h6).map fun p => (Ex.normal, p.1, p.2))) (qgu objs x2 x5)
| _ => none
def qdN (x3 : A) (a0 : A) (h2 : Heap) : List A × Heap → Option ((List A × Heap) ⊕ (Ex × List A × Heap)) := fun s4 =>
 oCmp .lss (s4.1.getD 1 .any) x3 fun x5 =>
 oCond x5 (oIdxA 3 a0 (s4.1.getD 1 .any) fun x6 =>
 oLoad (some 3) x6 s4.2 fun x7 =>
 oNew none (some 3) (.agg [.s (.slice none 0 0), .s (.slice none 0 0), .s (.slice none 0 0)]) s4.2 fun x8 h9 =>
 oStore (some 3) x8 x7 h9 fun h10 =>
 qah (some h10.length) 1 (asRows none []) (h10 ++ List.replicate 8 .res) fun x11 h12 =>
 oFieldA 0 x8 fun x13 =>
 oLoadD h10.length (wrL h10 [((s4.1.getD 0 .any), false)]) none x13 h12 fun x14 h15 =>
 qb2 h10.length (wrL h10 [((s4.1.getD 0 .any), false)]) (h10.length + 1) 1 8 x11 x14 h15 fun x16 h17 =>
 qah (some (h10.length + 2)) 2 (asRows (some 2) []) h17 fun x18 h19 =>
 oFieldA 1 x8 fun x20 =>
 oLoadD h10.length (wrL h10 [((s4.1.getD 0 .any), false)]) none x20 h19 fun x21 h22 =>
 qb2 h10.length (wrL h10 [((s4.1.getD 0 .any), false)]) (h10.length + 3) 2 16 x18 x21 h22 fun x23 h24 =>
 qah (some (h10.length + 4)) 1 (asRows none []) h24 fun x25 h26 =>
 oFieldA 2 x8 fun x27 =>
 oLoadD h10.length (wrL h10 [((s4.1.getD 0 .any), false)]) none x27 h26 fun x28 h29 =>
 qb2 h10.length (wrL h10 [((s4.1.getD 0 .any), false)]) (h10.length + 5) 1 8 x25 x28 h29 fun x30 h31 =>
 oBuildP [.s (.slice none 0 0), .s (.slice none 0 0), .s (.slice none 0 0)] [(0, none, x16), (1, none, x23), (2, none, x30)] fun x32 =>
 qah (some (h10.length + 6)) 3 (asRows (some 3) [x32]) h31 fun x33 h34 =>
 qb2 h10.length (wrL h10 [((s4.1.getD 0 .any), false)]) (h10.length + 7) 3 72 (s4.1.getD 0 .any) x33 h34 fun x35 h36 =>
 oAr .add (s4.1.getD 1 .any) (.s (.int .i64 1)) fun x37 =>
 (trim true h2.length [x35, x37] h36).map .inl)
 ((trim true h2.length [(s4.1.getD 0 .any)] s4.2).map fun p => .inr (Ex.exit 0, p.1, p.2))
def qhA (objs : Heap) : Ex → List A → Heap → Option (Out × Heap) := fun e38 vs39 h40 =>
 (match e38 with
 | .normal => none
 | .exit i41 => if i41 = 0 then finish objs.length (.ok (vs39.getD 0 .any)) h40 else none
 | .ret => finish objs.length (.ok (.s (.slice none 0 0))) h40
 | .panic v42 => finish objs.length (.pan v42) h40)
def qeG : CallFn := fun args objs =>
match args with
| [a0] =>
qah none 3 (asRows (some 3) []) objs fun x1 h2 =>
 oLen a0 fun x3 =>
 oLoop (qdN x3 a0 h2) ([x1, (.s (.int .i64 0))], h2) (qhA objs)
| _ => none
def qf8 (objs : Heap) (x16 : A) (a1 : A) (x22 : A) : Ex → List A → Heap → Option (Out × Heap) := fun e52 vs50 h51 =>
 (match e52 with
 | .normal => oCond (vs50.getD 0 .any) (finish objs.length (.ok (.s (.bool false))) h51)
  (oBuildP [.s (.int .i64 0), .s (.int .i64 0)] [(0, none, (.s (.int .i64 7))), (1, none, (.s (.int .i64 7)))] fun x55 =>
  oLend qaW [x16, a1, x55] h51 (fun v58 h59 => finish objs.length (.pan v58) h59) fun w119 h120 => oFrz w119 h120 fun x56 h57 =>
  oLend qbe [x16, a1] h57 (fun v62 h63 => finish objs.length (.pan v62) h63) fun w117 h118 => oFrz w117 h118 fun x60 h61 =>
  oLend qb8 [x56] h61 (fun v66 h67 => finish objs.length (.pan v66) h67) fun w115 h116 => oFrz w115 h116 fun x64 h65 =>
  oLend qc2 [x64] h65 (fun v70 h71 => finish objs.length (.pan v70) h71) fun w113 h114 => oFrz w113 h114 fun x68 h69 =>
  qae 0 x68 fun x72 =>
  qae 1 x68 fun x73 =>
  oLend qb8 [x60] h69 (fun v76 h77 => finish objs.length (.pan v76) h77) fun w111 h112 => oFrz w111 h112 fun x74 h75 =>
  oLend qc2 [x74] h75 (fun v80 h81 => finish objs.length (.pan v80) h81) fun w109 h110 => oFrz w109 h110 fun x78 h79 =>
  qae 0 x78 fun x82 =>
  qae 1 x78 fun x83 =>
  oGuard x73 true (fun _ => oGuard x83 true (fun _ => oBuildP [.s (.int .i64 0), .s (.int .i64 0)] [(0, none, (.s (.int .i64 7))), (1, none, (.s (.int .i64 7)))] fun x84 =>
  oLend qeb [x22, a1, x84] h79 (fun v87 h88 => finish objs.length (.pan v87) h88) fun w107 h108 => oFrz w107 h108 fun x85 h86 =>
  oLend qcn [x72, x85] h86 (fun v91 h92 => finish objs.length (.pan v91) h92) fun w105 h106 => oFrz w105 h106 fun x89 h90 =>
  oGuard x89 true (fun _ => oLend qec [x22, a1] h90 (fun v95 h96 => finish objs.length (.pan v95) h96) fun w103 h104 => oFrz w103 h104 fun x93 h94 =>
  oLend qcn [x82, x93] h94 (fun v99 h100 => finish objs.length (.pan v99) h100) fun w101 h102 => oFrz w101 h102 fun x97 h98 =>
  finish objs.length (.ok x97) h98)
  (fun _ => finish objs.length (.ok (.s (.bool false))) h90))
  (fun _ => finish objs.length (.ok (.s (.bool false))) h79))
  (fun _ => finish objs.length (.ok (.s (.bool false))) h79))
 | .exit i53 => none
 | .ret => finish objs.length (.ok (.s (.bool false))) h51
 | .panic v54 => finish objs.length (.pan v54) h51)
def qc5 : CallFn := fun args objs =>
match args with
| [a0, a1] =>
oLend qc4 [] objs (fun v3 h4 => finish objs.length (.pan v3) h4) fun w127 h128 => oFrz w127 h128 fun x1 h2 =>
      oNot x1 fun x5 =>
      oCond x5 (finish objs.length (.ok (.s (.bool false))) h2)
      (oLen a0 fun x6 =>
      oCmp .gtr x6 (.s (.int .i64 300)) fun x7 =>
      oCond x7 (finish objs.length (.ok (.s (.bool true))) h2)
      (oLend qeG [a0] h2 (fun v10 h11 => finish objs.length (.pan v10) h11) fun w125 h126 => oFrz w125 h126 fun x8 h9 =>
      oLend tree_Of [x8] h9 (fun v14 h15 => finish objs.length (.pan v14) h15) fun w123 h124 => oFrz w123 h124 fun x12 h13 =>
      qae 0 x12 fun x16 =>
      qae 1 x12 fun x17 =>
      oLend qc2 [a0] h13 (fun v20 h21 => finish objs.length (.pan v20) h21) fun w121 h122 => oFrz w121 h122 fun x18 h19 =>
      qae 0 x18 fun x22 =>
      qae 1 x18 fun x23 =>
      oNot x23 fun x24 =>
      oCond x24 (oEqNil false x16 (.s (.pointer none)) fun x25 =>
      oGuard x25 true (fun _ => oCmp .eql x17 (.s (.int .i64 81)) fun x26 =>
      finish objs.length (.ok x26) h19)
      (fun _ => finish objs.length (.ok (.s (.bool false))) h19))
      (oJoin (oEqNil false x16 (.s (.pointer none)) fun x27 =>
      oGuard x27 false (fun _ => oCmp .neq x17 (.s (.int .i64 0)) fun x28 =>
      oGuard x28 false (fun _ => oLend qbd [x16] h19 (fun v31 h32 => some (Ex.panic v31, [], h32)) fun w48 h49 => oFrz w48 h49 fun x29 h30 =>
      oLen x22 fun x33 =>
      oCmp .neq x29 x33 fun x34 =>
      oGuard x34 false (fun _ => oLend qaG [x16, (.s (.int .u64 0)), (.s (.int .u64 18446744073709551615))] h30 (fun v37 h38 => some (Ex.panic v37, [], h38)) fun w46 h47 => oFrz w46 h47 fun x35 h36 =>
      oLend qcn [x35, x22] h36 (fun v41 h42 => some (Ex.panic v41, [], h42)) fun w44 h45 => oFrz w44 h45 fun x39 h40 =>
      oNot x39 fun x43 =>
      (trim true h19.length [x43] h40).map fun p => (Ex.normal, p.1, p.2))
      (fun _ => (trim true h19.length [(.s (.bool true))] h30).map fun p => (Ex.normal, p.1, p.2)))
      (fun _ => (trim true h19.length [(.s (.bool true))] h19).map fun p => (Ex.normal, p.1, p.2)))
      (fun _ => (trim true h19.length [(.s (.bool true))] h19).map fun p => (Ex.normal, p.1, p.2))) (qf8 objs x16 a1 x22))))
| _ => none
end Go.Ab.F
