/-
  THE PROGRAM'S FUNCTIONS OVER VALUES WITHOUT ADDRESSES. Written by a program (emit.py).
-/
import Derived.Test.YtocnjegcmmfpfaaAbsPrim
set_option maxRecDepth 100000
set_option linter.unusedVariables false
namespace Go.Ab.F
open Go Go.Ab

/-- bailey/tree.New -/
def tree_New : CallFn := fun args objs =>
match args with
| [] =>
oBuildP [.s (.slice none 0 0), .s (.slice none 0 0), .s (.slice none 0 0)] [] fun x1 =>
      oNew none (some 3) x1 objs fun x2 h3 =>
      oBuildP [.s (.pointer none), .s (.int .i64 0)] [(0, none, x2)] fun x4 =>
      oNew none (some 2) x4 h3 fun x5 h6 =>
      finish objs.length (.ok x5) h6
| _ => none

/-- (*bailey/tree.Tree).Len -/
def tree_Tree_Len : CallFn := fun args objs =>
match args with
| [a0] =>
oNilCheck a0 fun x1 =>
      oFieldA 1 x1 fun x2 =>
      oLoad none x2 objs fun x3 =>
      finish objs.length (.ok x3) objs
| _ => none

/-- (*bailey/tree.node).leaf -/
def tree_node_leaf : CallFn := fun args objs =>
match args with
| [a0] =>
oNilCheck a0 fun x1 =>
      oFieldA 2 x1 fun x2 =>
      oLoad none x2 objs fun x3 =>
      oLen x3 fun x4 =>
      oCmp .eql x4 (.s (.int .i64 0)) fun x5 =>
      finish objs.length (.ok x5) objs
| _ => none

/-- cmp.isNaN[uint64] -/
def cmp_isNaN_uint64 : CallFn := fun args objs =>
match args with
| [a0] =>
oCmp .neq a0 a0 fun x1 =>
      finish objs.length (.ok x1) objs
| _ => none

/-- cmp.Less[uint64] -/
def cmp_Less_uint64 : CallFn := fun args objs =>
match args with
| [a0, a1] =>
oLend cmp_isNaN_uint64 [a0] objs (fun v3 h4 => finish objs.length (.pan v3) h4) fun w14 h15 => oFrz w14 h15 fun x1 h2 =>
      oGuard x1 true (fun _ => oLend cmp_isNaN_uint64 [a1] h2 (fun v7 h8 => finish objs.length (.pan v7) h8) fun w11 h12 => oFrz w11 h12 fun x5 h6 =>
      oNot x5 fun x9 =>
      oGuard x9 false (fun _ => oCmp .lss a0 a1 fun x10 =>
      finish objs.length (.ok x10) h6)
      (fun _ => finish objs.length (.ok (.s (.bool true))) h6))
      (fun _ => oCmp .lss a0 a1 fun x13 =>
      finish objs.length (.ok x13) h2)
| _ => none

/-- slices.isNaN[uint64] -/
def slices_isNaN_uint64 : CallFn := fun args objs =>
match args with
| [a0] =>
oCmp .neq a0 a0 fun x1 =>
      finish objs.length (.ok x1) objs
| _ => none

def slices_BinarySearch_Suint64_uint64_l1 (a0 : A) (a1 : A) (objs : Heap) : List A × Heap → Option ((List A × Heap) ⊕ (Ex × List A × Heap)) := fun s2 =>
      oCmp .lss (s2.1.getD 0 .any) (s2.1.getD 1 .any) fun x3 =>
      oCond x3 (oAr .add (s2.1.getD 0 .any) (s2.1.getD 1 .any) fun x4 =>
      oConv .u64 x4 fun x5 =>
      oShift .shr x5 (.s (.int .u64 1)) fun x6 =>
      oConv .i64 x6 fun x7 =>
      oIdxA 1 a0 x7 fun x8 =>
      oLoad none x8 s2.2 fun x9 =>
      oLend cmp_Less_uint64 [x9, a1] s2.2 (fun v12 h13 => some (.inr (Ex.panic v12, [.any], h13))) fun w15 h16 => oFrz w15 h16 fun x10 h11 =>
      oCond x10 (oAr .add x7 (.s (.int .i64 1)) fun x14 =>
      (trim true objs.length [x14, (s2.1.getD 1 .any)] h11).map .inl)
      ((trim true objs.length [(s2.1.getD 0 .any), x7] h11).map .inl))
      ((trim true objs.length [(s2.1.getD 0 .any)] s2.2).map fun p => .inr (Ex.exit 0, p.1, p.2))

def slices_BinarySearch_Suint64_uint64_k2 (x1 : A) (a0 : A) (a1 : A) (objs : Heap) : Ex → List A → Heap → Option (Out × Heap) := fun e17 vs18 h19 =>
      (match e17 with
  | .normal => none
  | .exit i20 => if i20 = 0 then oCmp .lss (vs18.getD 0 .any) x1 fun x22 =>
      oGuard x22 true (fun _ => oIdxA 1 a0 (vs18.getD 0 .any) fun x23 =>
      oLoad none x23 h19 fun x24 =>
      oCmp .eql x24 a1 fun x25 =>
      oGuard x25 false (fun _ => oIdxA 1 a0 (vs18.getD 0 .any) fun x26 =>
      oLoad none x26 h19 fun x27 =>
      oLend slices_isNaN_uint64 [x27] h19 (fun v30 h31 => finish objs.length (.pan v30) h31) fun w38 h39 => oFrz w38 h39 fun x28 h29 =>
      oGuard x28 true (fun _ => oLend slices_isNaN_uint64 [a1] h29 (fun v34 h35 => finish objs.length (.pan v34) h35) fun w36 h37 => oFrz w36 h37 fun x32 h33 =>
      finish objs.length (.ok (.tup [(vs18.getD 0 .any), x32])) h33)
      (fun _ => finish objs.length (.ok (.tup [(vs18.getD 0 .any), (.s (.bool false))])) h29))
      (fun _ => finish objs.length (.ok (.tup [(vs18.getD 0 .any), (.s (.bool true))])) h19))
      (fun _ => finish objs.length (.ok (.tup [(vs18.getD 0 .any), (.s (.bool false))])) h19) else none
  | .ret => finish objs.length (.ok (.tup [(.s (.int .i64 0)), (.s (.bool false))])) h19
  | .panic v21 => finish objs.length (.pan v21) h19)

/-- slices.BinarySearch[[]uint64,uint64] -/
def slices_BinarySearch_Suint64_uint64 : CallFn := fun args objs =>
match args with
| [a0, a1] =>
oLen a0 fun x1 =>
      oLoop (slices_BinarySearch_Suint64_uint64_l1 a0 a1 objs) ([(.s (.int .i64 0)), x1], objs) (slices_BinarySearch_Suint64_uint64_k2 x1 a0 a1 objs)
| _ => none

def tree_node_way_k1 (objs : Heap) : Ex → List A → Heap → Option (Out × Heap) := fun e13 vs11 h12 =>
      (match e13 with
  | .normal => finish objs.length (.ok (vs11.getD 0 .any)) h12
  | .exit i14 => none
  | .ret => finish objs.length (.ok (.s (.int .i64 0))) h12
  | .panic v15 => finish objs.length (.pan v15) h12)

/-- (*bailey/tree.node).way -/
def tree_node_way : CallFn := fun args objs =>
match args with
| [a0, a1] =>
oNilCheck a0 fun x1 =>
      oFieldA 0 x1 fun x2 =>
      oLoad none x2 objs fun x3 =>
      oLend slices_BinarySearch_Suint64_uint64 [x3, a1] objs (fun v6 h7 => finish objs.length (.pan v6) h7) fun w16 h17 => oFrz w16 h17 fun x4 h5 =>
      oExtract 0 x4 fun x8 =>
      oExtract 1 x4 fun x9 =>
      oJoin (oCond x9 (oAr .add x8 (.s (.int .i64 1)) fun x10 =>
      (trim true h5.length [x10] h5).map fun p => (Ex.normal, p.1, p.2))
      ((trim true h5.length [x8] h5).map fun p => (Ex.normal, p.1, p.2))) (tree_node_way_k1 objs)
| _ => none

def tree_Tree_Get_l1 (a1 : A) (h2 : Heap) : List A × Heap → Option ((List A × Heap) ⊕ (Ex × List A × Heap)) := fun s6 =>
      oLend tree_node_leaf [(s6.1.getD 0 .any)] s6.2 (fun v9 h10 => some (.inr (Ex.panic v9, [.any], h10))) fun w23 h24 => oFrz w23 h24 fun x7 h8 =>
      oNot x7 fun x11 =>
      oCond x11 (oNilCheck (s6.1.getD 0 .any) fun x12 =>
      oFieldA 2 x12 fun x13 =>
      oLoadD h8.length [] none x13 h8 fun x14 h15 =>
      oCallF h8.length [] tree_node_way [(s6.1.getD 0 .any), a1] h15 fun w21 h22 => oFrz w21 h22 fun x16 h17 =>
      oIdxA 1 x14 x16 fun x18 =>
      oLoadD h8.length [] none x18 h17 fun x19 h20 =>
      (trim true h2.length [x19] h20).map .inl)
      ((trim true h2.length [(s6.1.getD 0 .any)] h8).map fun p => .inr (Ex.exit 0, p.1, p.2))

def tree_Tree_Get_k2 (a1 : A) (objs : Heap) (x1 : A) : Ex → List A → Heap → Option (Out × Heap) := fun e25 vs26 h27 =>
      (match e25 with
  | .normal => none
  | .exit i28 => if i28 = 0 then oNilCheck (vs26.getD 0 .any) fun x30 =>
      oFieldA 0 x30 fun x31 =>
      oLoad none x31 h27 fun x32 =>
      oLend slices_BinarySearch_Suint64_uint64 [x32, a1] h27 (fun v35 h36 => finish objs.length (.pan v35) h36) fun w49 h50 => oFrz w49 h50 fun x33 h34 =>
      oExtract 0 x33 fun x37 =>
      oExtract 1 x33 fun x38 =>
      oCond x38 (oNilCheck (vs26.getD 0 .any) fun x39 =>
      oFieldA 1 x39 fun x40 =>
      oLoad none x40 h34 fun x41 =>
      oIdxA 2 x41 x37 fun x42 =>
      oLoad (some 2) x42 h34 fun x43 =>
      oStore (some 2) x1 x43 h34 fun h44 =>
      oLoad (some 2) x1 h44 fun r45 =>
      finish objs.length (.ok (.tup [r45, (.s (.bool true))])) h44)
      (oBuildP [.s (.int .i64 0), .s (.int .i64 0)] [] fun x46 =>
      oStore (some 2) x1 x46 h34 fun h47 =>
      oLoad (some 2) x1 h47 fun r48 =>
      finish objs.length (.ok (.tup [r48, (.s (.bool false))])) h47) else none
  | .ret => oLoad (some 2) x1 h27 fun r51 =>
      finish objs.length (.ok (.tup [r51, (.s (.bool false))])) h27
  | .panic v29 => finish objs.length (.pan v29) h27)

/-- (*bailey/tree.Tree).Get -/
def tree_Tree_Get : CallFn := fun args objs =>
match args with
| [a0, a1] =>
oNew none (some 2) (.agg [.s (.int .i64 0), .s (.int .i64 0)]) objs fun x1 h2 =>
      oNilCheck a0 fun x3 =>
      oFieldA 0 x3 fun x4 =>
      oLoad none x4 h2 fun x5 =>
      oLoop (tree_Tree_Get_l1 a1 h2) ([x5], h2) (tree_Tree_Get_k2 a1 objs x1)
| _ => none

/-- (*bailey/tree.node).clone -/
def tree_node_clone : CallFn := fun args objs =>
match args with
| [a0] =>
oNilCheck a0 fun x1 =>
      oFieldA 0 x1 fun x2 =>
      oLoadD objs.length [] none x2 (objs ++ List.replicate 1 .res) fun x3 h4 =>
      oCallF objs.length [] (primClone 1 8) [x3] h4 fun x5 h6 =>
      oNilCheck a0 fun x7 =>
      oFieldA 1 x7 fun x8 =>
      oLoadD objs.length [] none x8 h6 fun x9 h10 =>
      oCallF objs.length [] (primClone 2 16) [x9] h10 fun x11 h12 =>
      oNilCheck a0 fun x13 =>
      oFieldA 2 x13 fun x14 =>
      oLoadD objs.length [] none x14 h12 fun x15 h16 =>
      oCallF objs.length [] (primClone 1 8) [x15] h16 fun x17 h18 =>
      oBuildP [.s (.slice none 0 0), .s (.slice none 0 0), .s (.slice none 0 0)] [(0, none, x5), (1, none, x11), (2, none, x17)] fun x19 =>
      oNew (some objs.length) (some 3) x19 h18 fun x20 h21 =>
      finish objs.length (.ok x20) h21
| _ => none

/-- (*bailey/tree.node).split -/
def tree_node_split : CallFn := fun args objs =>
match args with
| [a0] =>
oNilCheck a0 fun x1 =>
      oFieldA 0 x1 fun x2 =>
      oLoad none x2 objs fun x3 =>
      oLen x3 fun x4 =>
      oCmp .leq x4 (.s (.int .i64 7)) fun x5 =>
      oCond x5 (finish objs.length (.ok (.tup [a0, (.s (.int .u64 0)), (.s (.pointer none))])) objs)
      (oNilCheck a0 fun x6 =>
      oFieldA 0 x6 fun x7 =>
      oLoad none x7 objs fun x8 =>
      oLen x8 fun x9 =>
      oAr .quo x9 (.s (.int .i64 2)) fun x10 =>
      oNilCheck a0 fun x11 =>
      oFieldA 0 x11 fun x12 =>
      oLoad none x12 objs fun x13 =>
      oIdxA 1 x13 x10 fun x14 =>
      oLoad none x14 objs fun x15 =>
      oLend tree_node_leaf [a0] objs (fun v18 h19 => finish objs.length (.pan v18) h19) fun w91 h92 => oFrz w91 h92 fun x16 h17 =>
      oCond x16 (oNilCheck a0 fun x20 =>
      oFieldA 0 x20 fun x21 =>
      oLoadD h17.length [] none x21 (h17 ++ List.replicate 1 .res) fun x22 h23 =>
      oSlice 1 x22 (some x10) none fun x24 =>
      oCallF h17.length [] (primClone 1 8) [x24] h23 fun x25 h26 =>
      oNilCheck a0 fun x27 =>
      oFieldA 1 x27 fun x28 =>
      oLoadD h17.length [] none x28 h26 fun x29 h30 =>
      oSlice 2 x29 (some x10) none fun x31 =>
      oCallF h17.length [] (primClone 2 16) [x31] h30 fun x32 h33 =>
      oBuildP [.s (.slice none 0 0), .s (.slice none 0 0), .s (.slice none 0 0)] [(0, none, x25), (1, none, x32)] fun x34 =>
      oNew (some h17.length) (some 3) x34 h33 fun x35 h36 =>
      oNilCheck a0 fun x37 =>
      oFieldA 0 x37 fun x38 =>
      oLoadD h36.length [] none x38 (h36 ++ List.replicate 1 .res) fun x39 h40 =>
      oSlice 1 x39 none (some x10) fun x41 =>
      oCallF h36.length [] (primClone 1 8) [x41] h40 fun x42 h43 =>
      oNilCheck a0 fun x44 =>
      oFieldA 1 x44 fun x45 =>
      oLoadD h36.length [] none x45 h43 fun x46 h47 =>
      oSlice 2 x46 none (some x10) fun x48 =>
      oCallF h36.length [] (primClone 2 16) [x48] h47 fun x49 h50 =>
      oBuildP [.s (.slice none 0 0), .s (.slice none 0 0), .s (.slice none 0 0)] [(0, none, x42), (1, none, x49)] fun x51 =>
      oNew (some h36.length) (some 3) x51 h50 fun x52 h53 =>
      finish objs.length (.ok (.tup [x52, x15, x35])) h53)
      (oNilCheck a0 fun x54 =>
      oFieldA 0 x54 fun x55 =>
      oLoadD h17.length [] none x55 (h17 ++ List.replicate 1 .res) fun x56 h57 =>
      oAr .add x10 (.s (.int .i64 1)) fun x58 =>
      oSlice 1 x56 (some x58) none fun x59 =>
      oCallF h17.length [] (primClone 1 8) [x59] h57 fun x60 h61 =>
      oNilCheck a0 fun x62 =>
      oFieldA 2 x62 fun x63 =>
      oLoadD h17.length [] none x63 h61 fun x64 h65 =>
      oAr .add x10 (.s (.int .i64 1)) fun x66 =>
      oSlice 1 x64 (some x66) none fun x67 =>
      oCallK h17.length [] (primClone 1 8) [x67] h65 fun x68 h69 =>
      oBuildP [.s (.slice none 0 0), .s (.slice none 0 0), .s (.slice none 0 0)] [(0, none, x60), (2, none, x68)] fun x70 =>
      oNew (some h17.length) (some 3) x70 h69 fun x71 h72 =>
      oNilCheck a0 fun x73 =>
      oFieldA 0 x73 fun x74 =>
      oLoadD h72.length [] none x74 (h72 ++ List.replicate 1 .res) fun x75 h76 =>
      oSlice 1 x75 none (some x10) fun x77 =>
      oCallF h72.length [] (primClone 1 8) [x77] h76 fun x78 h79 =>
      oNilCheck a0 fun x80 =>
      oFieldA 2 x80 fun x81 =>
      oLoadD h72.length [] none x81 h79 fun x82 h83 =>
      oAr .add x10 (.s (.int .i64 1)) fun x84 =>
      oSlice 1 x82 none (some x84) fun x85 =>
      oCallK h72.length [] (primClone 1 8) [x85] h83 fun x86 h87 =>
      oBuildP [.s (.slice none 0 0), .s (.slice none 0 0), .s (.slice none 0 0)] [(0, none, x78), (2, none, x86)] fun x88 =>
      oNew (some h72.length) (some 3) x88 h87 fun x89 h90 =>
      finish objs.length (.ok (.tup [x89, x15, x71])) h90))
| _ => none

def tree_node_put_k1 (x3 : A) (objs : Heap) : Ex → List A → Heap → Option (Out × Heap) := fun e110 vs108 h109 =>
      (match e110 with
  | .normal => oCall tree_node_split [x3] h109 (fun v115 h116 => finish objs.length (.pan v115) h116) fun x113 h114 =>
      oExtract 0 x113 fun x117 =>
      oExtract 1 x113 fun x118 =>
      oExtract 2 x113 fun x119 =>
      finish objs.length (.ok (.tup [x117, x118, x119])) h114
  | .exit i111 => none
  | .ret => finish objs.length (.ok (.tup [(.s (.pointer none)), (.s (.int .u64 0)), (.s (.pointer none))])) h109
  | .panic v112 => finish objs.length (.pan v112) h109)

/-- (*bailey/tree.node).put -/
def tree_node_put_step (self : CallFn) : CallFn := fun args objs =>
match args with
| [a0, a1, a2] =>
oNew none (some 2) a2 objs fun x1 h2 =>
      oLend tree_node_clone [a0] h2 (fun v5 h6 => finish objs.length (.pan v5) h6) fun x3 h4 =>
      oLend tree_node_leaf [a0] h4 (fun v9 h10 => finish objs.length (.pan v9) h10) fun w124 h125 => oFrz w124 h125 fun x7 h8 =>
      oCond x7 (oNilCheck a0 fun x11 =>
      oFieldA 0 x11 fun x12 =>
      oLoad none x12 h8 fun x13 =>
      oLend slices_BinarySearch_Suint64_uint64 [x13, a1] h8 (fun v16 h17 => finish objs.length (.pan v16) h17) fun w59 h60 => oFrz w59 h60 fun x14 h15 =>
      oExtract 0 x14 fun x18 =>
      oExtract 1 x14 fun x19 =>
      oCond x19 (oNilCheck x3 fun x20 =>
      oFieldA 1 x20 fun x21 =>
      oLoadD h15.length [] none x21 h15 fun x22 h23 =>
      oLoadD h15.length [] (some 2) x1 h23 fun x24 h25 =>
      oIdxA 2 x22 x18 fun x26 =>
      oStore (some 2) x26 x24 h25 fun h27 =>
      finish objs.length (.ok (.tup [x3, (.s (.int .u64 0)), (.s (.pointer none))])) h27)
      (oNilCheck x3 fun x28 =>
      oFieldA 0 x28 fun x29 =>
      oLoadD h15.length (wrL h15 [(x3, true)]) none x29 (h15 ++ List.replicate 2 .res) fun x30 h31 =>
      oNewSlice (some h15.length) 1 (asRows none [a1]) h31 fun x32 h33 =>
      oCallW h15.length (wrL h15 [(x3, true)]) (primInsert 1 8) [x30, x18, x32] h33 fun x34 h35 =>
      oNilCheck x3 fun x36 =>
      oFieldA 1 x36 fun x37 =>
      oLoadD h15.length (wrL h15 [(x3, true)]) none x37 h35 fun x38 h39 =>
      oLoadD h15.length (wrL h15 [(x3, true)]) (some 2) x1 h39 fun x40 h41 =>
      oNewSlice (some (h15.length + 1)) 2 (asRows (some 2) [x40]) h41 fun x42 h43 =>
      oCallW h15.length (wrL h15 [(x3, true)]) (primInsert 2 16) [x38, x18, x42] h43 fun x44 h45 =>
      oNilCheck x3 fun x46 =>
      oFieldA 0 x46 fun x47 =>
      oStore none x47 x34 h45 fun h48 =>
      oNilCheck x3 fun x49 =>
      oFieldA 1 x49 fun x50 =>
      oStore none x50 x44 h48 fun h51 =>
      oCall tree_node_split [x3] h51 (fun v54 h55 => finish objs.length (.pan v54) h55) fun x52 h53 =>
      oExtract 0 x52 fun x56 =>
      oExtract 1 x52 fun x57 =>
      oExtract 2 x52 fun x58 =>
      finish objs.length (.ok (.tup [x56, x57, x58])) h53))
      (oLend tree_node_way [a0, a1] h8 (fun v63 h64 => finish objs.length (.pan v63) h64) fun w122 h123 => oFrz w122 h123 fun x61 h62 =>
      oNilCheck a0 fun x65 =>
      oFieldA 2 x65 fun x66 =>
      oLoadD h62.length [] none x66 h62 fun x67 h68 =>
      oIdxA 1 x67 x61 fun x69 =>
      oLoadD h62.length [] none x69 h68 fun x70 h71 =>
      oLoadD h62.length [] (some 2) x1 h71 fun x72 h73 =>
      oCallF h62.length [] self [x70, a1, x72] h73 fun w120 h121 => oFrz w120 h121 fun x74 h75 =>
      oExtract 0 x74 fun x76 =>
      oExtract 1 x74 fun x77 =>
      oExtract 2 x74 fun x78 =>
      oNilCheck x3 fun x79 =>
      oFieldA 2 x79 fun x80 =>
      oLoad none x80 h75 fun x81 =>
      oIdxA 1 x81 x61 fun x82 =>
      oStore none x82 x76 h75 fun h83 =>
      oJoin (oEqNil true x78 (.s (.pointer none)) fun x84 =>
      oCond x84 (oNilCheck x3 fun x85 =>
      oFieldA 0 x85 fun x86 =>
      oLoadD h83.length (wrL h83 [(x3, true)]) none x86 (h83 ++ List.replicate 2 .res) fun x87 h88 =>
      oNewSlice (some h83.length) 1 (asRows none [x77]) h88 fun x89 h90 =>
      oCallW h83.length (wrL h83 [(x3, true)]) (primInsert 1 8) [x87, x61, x89] h90 fun x91 h92 =>
      oNilCheck x3 fun x93 =>
      oFieldA 2 x93 fun x94 =>
      oLoadD h83.length (wrL h83 [(x3, true)]) none x94 h92 fun x95 h96 =>
      oAr .add x61 (.s (.int .i64 1)) fun x97 =>
      oNewSlice (some (h83.length + 1)) 1 (asRows none [x78]) h96 fun x98 h99 =>
      oCallW h83.length (wrL h83 [(x3, true)]) (primInsert 1 8) [x95, x97, x98] h99 fun x100 h101 =>
      oNilCheck x3 fun x102 =>
      oFieldA 0 x102 fun x103 =>
      oStore none x103 x91 h101 fun h104 =>
      oNilCheck x3 fun x105 =>
      oFieldA 2 x105 fun x106 =>
      oStore none x106 x100 h104 fun h107 =>
      (trim true h83.length [] h107).map fun p => (Ex.normal, p.1, p.2))
      ((trim true h83.length [] h83).map fun p => (Ex.normal, p.1, p.2))) (tree_node_put_k1 x3 objs))
| _ => none

def tree_node_put : Nat → CallFn
| 0 => fun _ _ => none
| n + 1 => tree_node_put_step (tree_node_put n)

def tree_Tree_Put_k1 (vs19 : List A) (objs : Heap) : Ex → List A → Heap → Option (Out × Heap) := fun e45 vs43 h44 =>
      (match e45 with
  | .normal => oBuildP [.s (.pointer none), .s (.int .i64 0)] [(0, none, (vs43.getD 0 .any)), (1, none, (vs19.getD 0 .any))] fun x48 =>
      oNew none (some 2) x48 h44 fun x49 h50 =>
      finish objs.length (.ok x49) h50
  | .exit i46 => none
  | .ret => finish objs.length (.ok (.s (.pointer none))) h44
  | .panic v47 => finish objs.length (.pan v47) h44)

def tree_Tree_Put_k2 (a0 : A) (x1 : A) (a1 : A) (objs : Heap) : Ex → List A → Heap → Option (Out × Heap) := fun e21 vs19 h20 =>
      (match e21 with
  | .normal => oNilCheck a0 fun x24 =>
      oFieldA 0 x24 fun x25 =>
      oLoadD h20.length [] none x25 h20 fun x26 h27 =>
      oLoadD h20.length [] (some 2) x1 h27 fun x28 h29 =>
      oCallF h20.length [] (tree_node_put big) [x26, a1, x28] h29 fun w51 h52 => oFrz w51 h52 fun x30 h31 =>
      oExtract 0 x30 fun x32 =>
      oExtract 1 x30 fun x33 =>
      oExtract 2 x30 fun x34 =>
      oJoin (oEqNil true x34 (.s (.pointer none)) fun x35 =>
      oCond x35 (oNewSlice none 1 (asRows none [x33]) h31 fun x36 h37 =>
      oNewSlice none 1 (asRows none [x32, x34]) h37 fun x38 h39 =>
      oBuildP [.s (.slice none 0 0), .s (.slice none 0 0), .s (.slice none 0 0)] [(0, none, x36), (2, none, x38)] fun x40 =>
      oNew none (some 3) x40 h39 fun x41 h42 =>
      (trim true h31.length [x41] h42).map fun p => (Ex.normal, p.1, p.2))
      ((trim true h31.length [x32] h31).map fun p => (Ex.normal, p.1, p.2))) (tree_Tree_Put_k1 vs19 objs)
  | .exit i22 => none
  | .ret => finish objs.length (.ok (.s (.pointer none))) h20
  | .panic v23 => finish objs.length (.pan v23) h20)

/-- (*bailey/tree.Tree).Put -/
def tree_Tree_Put : CallFn := fun args objs =>
match args with
| [a0, a1, a2] =>
oNew none (some 2) a2 objs fun x1 h2 =>
      oNilCheck a0 fun x3 =>
      oFieldA 1 x3 fun x4 =>
      oLoad none x4 h2 fun x5 =>
      oJoin (oLend tree_Tree_Get [a0, a1] h2 (fun v8 h9 => some (Ex.panic v8, [], h9)) fun w17 h18 => oFrz w17 h18 fun x6 h7 =>
      oExtract 0 x6 fun x10 =>
      oExtract 1 x6 fun x11 =>
      oNew none (some 2) (.agg [.s (.int .i64 0), .s (.int .i64 0)]) h7 fun x12 h13 =>
      oStore (some 2) x12 x10 h13 fun h14 =>
      oNot x11 fun x15 =>
      oCond x15 (oAr .add x5 (.s (.int .i64 1)) fun x16 =>
      (trim true h2.length [x16] h14).map fun p => (Ex.normal, p.1, p.2))
      ((trim true h2.length [x5] h14).map fun p => (Ex.normal, p.1, p.2))) (tree_Tree_Put_k2 a0 x1 a1 objs)
| _ => none

def tree_Tree_Range_c1_k1 (x1 : A) (a1 : A) (objs : Heap) : Ex → List A → Heap → Option (Out × Heap) := fun e16 vs14 h15 =>
      (match e16 with
  | .normal => oFieldA 0 x1 fun x19 =>
      oLoad none x19 h15 fun x20 =>
      oLoad none a1 h15 fun x21 =>
      oCmp .leq x20 x21 fun x22 =>
      finish objs.length (.ok x22) h15
  | .exit i17 => none
  | .ret => finish objs.length (.ok (.s (.bool false))) h15
  | .panic v18 => finish objs.length (.pan v18) h15)

/-- (*bailey/tree.Tree).Range$1 -/
def tree_Tree_Range_c1 : CallFn := fun args objs =>
match args with
| [a0, a1, a2] =>
oNew none (some 3) a0 objs fun x1 h2 =>
      oJoin (oFieldA 0 x1 fun x3 =>
      oLoad none x3 h2 fun x4 =>
      oLoad none a1 h2 fun x5 =>
      oCmp .leq x4 x5 fun x6 =>
      oCond x6 (oLoad none a2 h2 fun x7 =>
      oLoad (some 3) x1 h2 fun x8 =>
      oNewSlice none 3 (asRows (some 3) [x8]) h2 fun x9 h10 =>
      oAppend none 3 24 x7 x9 h10 fun x11 h12 =>
      oStore none a2 x11 h12 fun h13 =>
      (trim true h2.length [] h13).map fun p => (Ex.normal, p.1, p.2))
      ((trim true h2.length [] h2).map fun p => (Ex.normal, p.1, p.2))) (tree_Tree_Range_c1_k1 x1 a1 objs)
| _ => none

def tree_node_visit_k1 (h2 : Heap) (s9 : List A × Heap) : Ex → List A → Heap → Option ((List A × Heap) ⊕ (Ex × List A × Heap)) := fun e29 vs27 h28 =>
      (match e29 with
  | .normal => oCond (vs27.getD 0 .any) ((trim true h2.length [(.s (.bool false))] h28).map fun p => .inr (Ex.ret, p.1, p.2))
      (oAr .add (s9.1.getD 0 .any) (.s (.int .i64 1)) fun x32 =>
      (trim true h2.length [x32] h28).map .inl)
  | .exit i30 => if i30 = 1 then oAr .add (s9.1.getD 0 .any) (.s (.int .i64 1)) fun x33 =>
      (trim true h2.length [x33] h28).map .inl else (trim true h2.length [.any] h28).map fun p => .inr (Ex.exit i30, p.1, p.2)
  | .ret => (trim true h2.length [.any] h28).map fun p => .inr (Ex.ret, p.1, p.2)
  | .panic v31 => some (.inr (Ex.panic v31, [.any], h28)))

def tree_node_visit_l2 (En : String → CallFn) (x8 : A) (x7 : A) (a1 : A) (a0 : A) (a2 : A) (h2 : Heap) : List A × Heap → Option ((List A × Heap) ⊕ (Ex × List A × Heap)) := fun s9 =>
      oCmp .lss (s9.1.getD 0 .any) x8 fun x10 =>
      oCond x10 (oIdxA 1 x7 (s9.1.getD 0 .any) fun x11 =>
      oLoad none x11 s9.2 fun x12 =>
      oJoin (oCmp .geq x12 a1 fun x13 =>
      oGuard x13 true (fun _ => oNilCheck a0 fun x14 =>
      oFieldA 1 x14 fun x15 =>
      oLoad none x15 s9.2 fun x16 =>
      oIdxA 2 x16 (s9.1.getD 0 .any) fun x17 =>
      oLoad (some 2) x17 s9.2 fun x18 =>
      oBuildP [.s (.int .u64 0), .s (.int .i64 0), .s (.int .i64 0)] [(0, none, x12), (1, (some 2), x18)] fun x19 =>
      oCallV En a2 [x19] s9.2 (fun v22 h23 => some (Ex.panic v22, [], h23)) fun w25 h26 => oFrz w25 h26 fun x20 h21 =>
      oNot x20 fun x24 =>
      (trim true s9.2.length [x24] h21).map fun p => (Ex.normal, p.1, p.2))
      (fun _ => (trim true s9.2.length [(.s (.bool false))] s9.2).map fun p => (Ex.normal, p.1, p.2))) (tree_node_visit_k1 h2 s9))
      ((trim true h2.length [.any] s9.2).map fun p => .inr (Ex.exit 0, p.1, p.2))

def tree_node_visit_k3 (objs : Heap) : Ex → List A → Heap → Option (Out × Heap) := fun e34 vs35 h36 =>
      (match e34 with
  | .normal => none
  | .exit i37 => if i37 = 0 then finish objs.length (.ok (.s (.bool true))) h36 else none
  | .ret => finish objs.length (.ok (vs35.getD 0 .any)) h36
  | .panic v38 => finish objs.length (.pan v38) h36)

def tree_node_visit_l4 (self : CallFn) (x46 : A) (x45 : A) (a1 : A) (a2 : A) (h44 : Heap) : List A × Heap → Option ((List A × Heap) ⊕ (Ex × List A × Heap)) := fun s47 =>
      oCmp .lss (s47.1.getD 0 .any) x46 fun x48 =>
      oCond x48 (oIdxA 1 x45 (s47.1.getD 0 .any) fun x49 =>
      oLoad none x49 s47.2 fun x50 =>
      oCall self [x50, a1, a2] s47.2 (fun v53 h54 => some (.inr (Ex.panic v53, [.any], h54))) fun w57 h58 => oFrz w57 h58 fun x51 h52 =>
      oNot x51 fun x55 =>
      oCond x55 ((trim true h44.length [(.s (.bool false))] h52).map fun p => .inr (Ex.ret, p.1, p.2))
      (oAr .add (s47.1.getD 0 .any) (.s (.int .i64 1)) fun x56 =>
      (trim true h44.length [x56] h52).map .inl))
      ((trim true h44.length [.any] s47.2).map fun p => .inr (Ex.exit 2, p.1, p.2))

def tree_node_visit_k5 (objs : Heap) : Ex → List A → Heap → Option (Out × Heap) := fun e59 vs60 h61 =>
      (match e59 with
  | .normal => none
  | .exit i62 => if i62 = 2 then finish objs.length (.ok (.s (.bool true))) h61 else none
  | .ret => finish objs.length (.ok (vs60.getD 0 .any)) h61
  | .panic v63 => finish objs.length (.pan v63) h61)

/-- (*bailey/tree.node).visit -/
def tree_node_visit_step (En : String → CallFn) (self : CallFn) : CallFn := fun args objs =>
match args with
| [a0, a1, a2] =>
oLend tree_node_leaf [a0] objs (fun v3 h4 => finish objs.length (.pan v3) h4) fun w66 h67 => oFrz w66 h67 fun x1 h2 =>
      oCond x1 (oNilCheck a0 fun x5 =>
      oFieldA 0 x5 fun x6 =>
      oLoad none x6 h2 fun x7 =>
      oLen x7 fun x8 =>
      oLoop (tree_node_visit_l2 En x8 x7 a1 a0 a2 h2) ([(.s (.int .i64 0))], h2) (tree_node_visit_k3 objs))
      (oNilCheck a0 fun x39 =>
      oFieldA 2 x39 fun x40 =>
      oLoadD h2.length [] none x40 h2 fun x41 h42 =>
      oCallF h2.length [] tree_node_way [a0, a1] h42 fun w64 h65 => oFrz w64 h65 fun x43 h44 =>
      oSlice 1 x41 (some x43) none fun x45 =>
      oLen x45 fun x46 =>
      oLoop (tree_node_visit_l4 self x46 x45 a1 a2 h44) ([(.s (.int .i64 0))], h44) (tree_node_visit_k5 objs))
| _ => none

def tree_node_visit (En : String → CallFn) : Nat → CallFn
| 0 => fun _ _ => none
| n + 1 => tree_node_visit_step En (tree_node_visit En n)

def En_tree_Tree_Range : String → CallFn := fun n => if n = "(*bailey/tree.Tree).Range$1" then tree_Tree_Range_c1 else (fun _ _ => none)

/-- (*bailey/tree.Tree).Range -/
def tree_Tree_Range : CallFn := fun args objs =>
match args with
| [a0, a1, a2] =>
oNew none none a2 objs fun x1 h2 =>
      oNew none none (.s (.slice none 0 0)) h2 fun x3 h4 =>
      oNilCheck a0 fun x5 =>
      oFieldA 0 x5 fun x6 =>
      oLoad none x6 h4 fun x7 =>
      oCall (tree_node_visit (En_tree_Tree_Range) big) [x7, a1, (.fn "(*bailey/tree.Tree).Range$1" [x1, x3])] h4 (fun v10 h11 => finish objs.length (.pan v10) h11) fun w13 h14 => oFrz w13 h14 fun x8 h9 =>
      oLoad none x3 h9 fun x12 =>
      finish objs.length (.ok x12) h9
| _ => none

def tree_node_list_l1 (self : CallFn) (x22 : A) (x21 : A) (x1 : A) (h18 : Heap) : List A × Heap → Option ((List A × Heap) ⊕ (Ex × List A × Heap)) := fun s23 =>
      oCmp .lss (s23.1.getD 1 .any) x22 fun x24 =>
      oCond x24 (oIdxA 1 x21 (s23.1.getD 1 .any) fun x25 =>
      oLoad none x25 s23.2 fun x26 =>
      oIdxA 3 (s23.1.getD 0 .any) x1 fun x27 =>
      oFieldA 2 x27 fun x28 =>
      oLoad none x28 s23.2 fun x29 =>
      oLen (s23.1.getD 0 .any) fun x30 =>
      oNewSlice none 1 (asRows none [x30]) s23.2 fun x31 h32 =>
      oAppend none 1 8 x29 x31 h32 fun x33 h34 =>
      oIdxA 3 (s23.1.getD 0 .any) x1 fun x35 =>
      oFieldA 2 x35 fun x36 =>
      oStore none x36 x33 h34 fun h37 =>
      oCall self [x26, (s23.1.getD 0 .any)] h37 (fun v40 h41 => some (.inr (Ex.panic v40, [.any], h41))) fun x38 h39 =>
      oAr .add (s23.1.getD 1 .any) (.s (.int .i64 1)) fun x42 =>
      (trim true h18.length [x38, x42] h39).map .inl)
      ((trim true h18.length [(s23.1.getD 0 .any)] s23.2).map fun p => .inr (Ex.exit 0, p.1, p.2))

def tree_node_list_k2 (objs : Heap) : Ex → List A → Heap → Option (Out × Heap) := fun e43 vs44 h45 =>
      (match e43 with
  | .normal => none
  | .exit i46 => if i46 = 0 then finish objs.length (.ok (vs44.getD 0 .any)) h45 else none
  | .ret => finish objs.length (.ok (.s (.slice none 0 0))) h45
  | .panic v47 => finish objs.length (.pan v47) h45)

/-- (*bailey/tree.node).list -/
def tree_node_list_step (self : CallFn) : CallFn := fun args objs =>
match args with
| [a0, a1] =>
oLen a1 fun x1 =>
      oNilCheck a0 fun x2 =>
      oFieldA 0 x2 fun x3 =>
      oLoadD objs.length (wrL objs [(a1, false)]) none x3 (objs ++ List.replicate 2 .res) fun x4 h5 =>
      oCallF objs.length (wrL objs [(a1, false)]) (primClone 1 8) [x4] h5 fun x6 h7 =>
      oNilCheck a0 fun x8 =>
      oFieldA 1 x8 fun x9 =>
      oLoadD objs.length (wrL objs [(a1, false)]) none x9 h7 fun x10 h11 =>
      oCallF objs.length (wrL objs [(a1, false)]) (primClone 2 16) [x10] h11 fun x12 h13 =>
      oBuildP [.s (.slice none 0 0), .s (.slice none 0 0), .s (.slice none 0 0)] [(0, none, x6), (1, none, x12)] fun x14 =>
      oNewSlice (some objs.length) 3 (asRows (some 3) [x14]) h13 fun x15 h16 =>
      oAppendD objs.length (wrL objs [(a1, false)]) (objs.length + 1) 3 72 a1 x15 h16 fun x17 h18 =>
      oNilCheck a0 fun x19 =>
      oFieldA 2 x19 fun x20 =>
      oLoad none x20 h18 fun x21 =>
      oLen x21 fun x22 =>
      oLoop (tree_node_list_l1 self x22 x21 x1 h18) ([x17, (.s (.int .i64 0))], h18) (tree_node_list_k2 objs)
| _ => none

def tree_node_list : Nat → CallFn
| 0 => fun _ _ => none
| n + 1 => tree_node_list_step (tree_node_list n)

/-- (*bailey/tree.Tree).Nodes -/
def tree_Tree_Nodes : CallFn := fun args objs =>
match args with
| [a0] =>
oNilCheck a0 fun x1 =>
      oFieldA 0 x1 fun x2 =>
      oLoad none x2 objs fun x3 =>
      oCall (tree_node_list big) [x3, (.s (.slice none 0 0))] objs (fun v6 h7 => finish objs.length (.pan v6) h7) fun x4 h5 =>
      finish objs.length (.ok x4) h5
| _ => none

def law08_treeAlive_k1 (objs : Heap) (x1 : A) : Ex → List A → Heap → Option (Out × Heap) := fun e15 vs13 h14 =>
      (match e15 with
  | .normal => oCond (vs13.getD 0 .any) (finish objs.length (.ok (.s (.bool false))) h14)
      (oBuildP [.s (.int .i64 0), .s (.int .i64 0)] [(0, none, (.s (.int .i64 1))), (1, none, (.s (.int .i64 1)))] fun x18 =>
      oLend tree_Tree_Put [x1, (.s (.int .u64 5)), x18] h14 (fun v21 h22 => finish objs.length (.pan v21) h22) fun w69 h70 => oFrz w69 h70 fun x19 h20 =>
      oBuildP [.s (.int .i64 0), .s (.int .i64 0)] [(0, none, (.s (.int .i64 2))), (1, none, (.s (.int .i64 1)))] fun x23 =>
      oLend tree_Tree_Put [x19, (.s (.int .u64 3)), x23] h20 (fun v26 h27 => finish objs.length (.pan v26) h27) fun w67 h68 => oFrz w67 h68 fun x24 h25 =>
      oEqNil false x24 (.s (.pointer none)) fun x28 =>
      oCond x28 (finish objs.length (.ok (.s (.bool false))) h25)
      (oLend tree_Tree_Range [x24, (.s (.int .u64 0)), (.s (.int .u64 9))] h25 (fun v31 h32 => finish objs.length (.pan v31) h32) fun w65 h66 => oFrz w65 h66 fun x29 h30 =>
      oLen x29 fun x33 =>
      oCmp .eql x33 (.s (.int .i64 2)) fun x34 =>
      oGuard x34 true (fun _ => oIdxA 3 x29 (.s (.int .i64 0)) fun x35 =>
      oFieldA 0 x35 fun x36 =>
      oLoad none x36 h30 fun x37 =>
      oCmp .eql x37 (.s (.int .u64 3)) fun x38 =>
      oGuard x38 true (fun _ => oIdxA 3 x29 (.s (.int .i64 1)) fun x39 =>
      oFieldA 0 x39 fun x40 =>
      oLoad none x40 h30 fun x41 =>
      oCmp .eql x41 (.s (.int .u64 5)) fun x42 =>
      oGuard x42 true (fun _ => oLend tree_Tree_Nodes [x24] h30 (fun v45 h46 => finish objs.length (.pan v45) h46) fun w63 h64 => oFrz w63 h64 fun x43 h44 =>
      oLen x43 fun x47 =>
      oCmp .eql x47 (.s (.int .i64 1)) fun x48 =>
      oGuard x48 true (fun _ => oLend tree_Tree_Len [x24] h44 (fun v51 h52 => finish objs.length (.pan v51) h52) fun w61 h62 => oFrz w61 h62 fun x49 h50 =>
      oCmp .eql x49 (.s (.int .i64 2)) fun x53 =>
      oGuard x53 true (fun _ => oLend tree_Tree_Len [x1] h50 (fun v56 h57 => finish objs.length (.pan v56) h57) fun w59 h60 => oFrz w59 h60 fun x54 h55 =>
      oCmp .eql x54 (.s (.int .i64 0)) fun x58 =>
      finish objs.length (.ok x58) h55)
      (fun _ => finish objs.length (.ok (.s (.bool false))) h50))
      (fun _ => finish objs.length (.ok (.s (.bool false))) h44))
      (fun _ => finish objs.length (.ok (.s (.bool false))) h30))
      (fun _ => finish objs.length (.ok (.s (.bool false))) h30))
      (fun _ => finish objs.length (.ok (.s (.bool false))) h30)))
  | .exit i16 => none
  | .ret => finish objs.length (.ok (.s (.bool false))) h14
  | .panic v17 => finish objs.length (.pan v17) h14)

/-- bailey/baileylaw08.treeAlive -/
def law08_treeAlive : CallFn := fun args objs =>
match args with
| [] =>
oLend tree_New [] objs (fun v3 h4 => finish objs.length (.pan v3) h4) fun w71 h72 => oFrz w71 h72 fun x1 h2 =>
      oJoin (oEqNil false x1 (.s (.pointer none)) fun x5 =>
      oGuard x5 false (fun _ => oLend tree_Tree_Len [x1] h2 (fun v8 h9 => some (Ex.panic v8, [], h9)) fun w11 h12 => oFrz w11 h12 fun x6 h7 =>
      oCmp .neq x6 (.s (.int .i64 0)) fun x10 =>
      (trim true h2.length [x10] h7).map fun p => (Ex.normal, p.1, p.2))
      (fun _ => (trim true h2.length [(.s (.bool true))] h2).map fun p => (Ex.normal, p.1, p.2))) (law08_treeAlive_k1 objs x1)
| _ => none

def ref08_Put_k1 (x1 : A) (a1 : A) (s6 : List A × Heap) (h12 : Heap) : Ex → List A → Heap → Option (Ex × List A × Heap) := fun e19 vs17 h18 =>
      (match e19 with
  | .normal => oCond (vs17.getD 0 .any) (oLoad (some 2) x1 h18 fun x22 =>
      oBuildP [.s (.int .u64 0), .s (.int .i64 0), .s (.int .i64 0)] [(0, none, a1), (1, (some 2), x22)] fun x23 =>
      oNewSlice none 3 (asRows (some 3) [x23]) h18 fun x24 h25 =>
      oAppend none 3 24 (s6.1.getD 0 .any) x24 h25 fun x26 h27 =>
      (trim true h12.length [x26, (.s (.bool true))] h27).map fun p => (Ex.normal, p.1, p.2))
      ((trim true h12.length [(s6.1.getD 0 .any), (s6.1.getD 1 .any)] h18).map fun p => (Ex.normal, p.1, p.2))
  | .exit i20 => (trim true h12.length [(s6.1.getD 0 .any), (s6.1.getD 1 .any)] h18).map fun p => (Ex.exit i20, p.1, p.2)
  | .ret => (trim true h12.length [(s6.1.getD 0 .any), (s6.1.getD 1 .any)] h18).map fun p => (Ex.ret, p.1, p.2)
  | .panic v21 => some (Ex.panic v21, [], h18))

def ref08_Put_k2 (x10 : A) (a1 : A) (s6 : List A × Heap) : Ex → List A → Heap → Option (Ex × List A × Heap) := fun e30 vs28 h29 =>
      (match e30 with
  | .normal => oFieldA 0 x10 fun x33 =>
      oLoad none x33 h29 fun x34 =>
      oCmp .neq x34 a1 fun x35 =>
      oCond x35 (oLoad (some 3) x10 h29 fun x36 =>
      oNewSlice none 3 (asRows (some 3) [x36]) h29 fun x37 h38 =>
      oAppend none 3 24 (vs28.getD 0 .any) x37 h38 fun x39 h40 =>
      (trim true s6.2.length [x39, (vs28.getD 1 .any)] h40).map fun p => (Ex.normal, p.1, p.2))
      ((trim true s6.2.length [(vs28.getD 0 .any), (vs28.getD 1 .any)] h29).map fun p => (Ex.normal, p.1, p.2))
  | .exit i31 => if i31 = 1 then (trim true s6.2.length [(vs28.getD 0 .any), (vs28.getD 1 .any)] h29).map fun p => (Ex.normal, p.1, p.2) else (trim true s6.2.length [(vs28.getD 0 .any), (vs28.getD 1 .any)] h29).map fun p => (Ex.exit i31, p.1, p.2)
  | .ret => (trim true s6.2.length [(vs28.getD 0 .any), (vs28.getD 1 .any)] h29).map fun p => (Ex.ret, p.1, p.2)
  | .panic v32 => some (Ex.panic v32, [], h29))

def ref08_Put_k3 (s6 : List A × Heap) (h4 : Heap) : Ex → List A → Heap → Option ((List A × Heap) ⊕ (Ex × List A × Heap)) := fun e43 vs41 h42 =>
      (match e43 with
  | .normal => oAr .add (s6.1.getD 2 .any) (.s (.int .i64 1)) fun x46 =>
      (trim true h4.length [(vs41.getD 0 .any), (vs41.getD 1 .any), x46] h42).map .inl
  | .exit i44 => (trim true h4.length [(vs41.getD 0 .any), (vs41.getD 1 .any)] h42).map fun p => .inr (Ex.exit i44, p.1, p.2)
  | .ret => (trim true h4.length [(vs41.getD 0 .any), (vs41.getD 1 .any)] h42).map fun p => .inr (Ex.ret, p.1, p.2)
  | .panic v45 => some (.inr (Ex.panic v45, [.any, .any], h42)))

def ref08_Put_l4 (x5 : A) (a0 : A) (a1 : A) (x1 : A) (h4 : Heap) : List A × Heap → Option ((List A × Heap) ⊕ (Ex × List A × Heap)) := fun s6 =>
      oCmp .lss (s6.1.getD 2 .any) x5 fun x7 =>
      oCond x7 (oJoin (oIdxA 3 a0 (s6.1.getD 2 .any) fun x8 =>
      oLoad (some 3) x8 s6.2 fun x9 =>
      oNew none (some 3) (.agg [.s (.int .u64 0), .s (.int .i64 0), .s (.int .i64 0)]) s6.2 fun x10 h11 =>
      oStore (some 3) x10 x9 h11 fun h12 =>
      oJoin (oJoin (oNot (s6.1.getD 1 .any) fun x13 =>
      oGuard x13 true (fun _ => oFieldA 0 x10 fun x14 =>
      oLoad none x14 h12 fun x15 =>
      oCmp .geq x15 a1 fun x16 =>
      (trim true h12.length [x16] h12).map fun p => (Ex.normal, p.1, p.2))
      (fun _ => (trim true h12.length [(.s (.bool false))] h12).map fun p => (Ex.normal, p.1, p.2))) (ref08_Put_k1 x1 a1 s6 h12)) (ref08_Put_k2 x10 a1 s6)) (ref08_Put_k3 s6 h4))
      ((trim true h4.length [(s6.1.getD 0 .any), (s6.1.getD 1 .any)] s6.2).map fun p => .inr (Ex.exit 0, p.1, p.2))

def ref08_Put_k5 (objs : Heap) : Ex → List A → Heap → Option (Out × Heap) := fun e61 vs59 h60 =>
      (match e61 with
  | .normal => finish objs.length (.ok (vs59.getD 0 .any)) h60
  | .exit i62 => none
  | .ret => finish objs.length (.ok (.s (.slice none 0 0))) h60
  | .panic v63 => finish objs.length (.pan v63) h60)

def ref08_Put_k6 (x1 : A) (a1 : A) (objs : Heap) : Ex → List A → Heap → Option (Out × Heap) := fun e47 vs48 h49 =>
      (match e47 with
  | .normal => none
  | .exit i50 => if i50 = 0 then oJoin (oNot (vs48.getD 1 .any) fun x52 =>
      oCond x52 (oLoad (some 2) x1 h49 fun x53 =>
      oBuildP [.s (.int .u64 0), .s (.int .i64 0), .s (.int .i64 0)] [(0, none, a1), (1, (some 2), x53)] fun x54 =>
      oNewSlice none 3 (asRows (some 3) [x54]) h49 fun x55 h56 =>
      oAppend none 3 24 (vs48.getD 0 .any) x55 h56 fun x57 h58 =>
      (trim true h49.length [x57] h58).map fun p => (Ex.normal, p.1, p.2))
      ((trim true h49.length [(vs48.getD 0 .any)] h49).map fun p => (Ex.normal, p.1, p.2))) (ref08_Put_k5 objs) else none
  | .ret => finish objs.length (.ok (.s (.slice none 0 0))) h49
  | .panic v51 => finish objs.length (.pan v51) h49)

/-- bailey/baileyref08.Put -/
def ref08_Put : CallFn := fun args objs =>
match args with
| [a0, a1, a2] =>
oNew none (some 2) a2 objs fun x1 h2 =>
      oNewSlice none 3 (asRows (some 3) []) h2 fun x3 h4 =>
      oLen a0 fun x5 =>
      oLoop (ref08_Put_l4 x5 a0 a1 x1 h4) ([x3, (.s (.bool false)), (.s (.int .i64 0))], h4) (ref08_Put_k6 x1 a1 objs)
| _ => none

def slices_Concat_Sapi_Extent_api_Extent_k1 (s2 : List A × Heap) (objs : Heap) : Ex → List A → Heap → Option ((List A × Heap) ⊕ (Ex × List A × Heap)) := fun e11 vs9 h10 =>
      (match e11 with
  | .normal => oAr .add (s2.1.getD 1 .any) (.s (.int .i64 1)) fun x14 =>
      (trim true objs.length [(vs9.getD 0 .any), x14] h10).map .inl
  | .exit i12 => (trim true objs.length [(vs9.getD 0 .any)] h10).map fun p => .inr (Ex.exit i12, p.1, p.2)
  | .ret => (trim true objs.length [(vs9.getD 0 .any)] h10).map fun p => .inr (Ex.ret, p.1, p.2)
  | .panic v13 => some (.inr (Ex.panic v13, [.any], h10)))

def slices_Concat_Sapi_Extent_api_Extent_l2 (x1 : A) (a0 : A) (objs : Heap) : List A × Heap → Option ((List A × Heap) ⊕ (Ex × List A × Heap)) := fun s2 =>
      oCmp .lss (s2.1.getD 1 .any) x1 fun x3 =>
      oCond x3 (oJoin (oIdxA 1 a0 (s2.1.getD 1 .any) fun x4 =>
      oLoad none x4 s2.2 fun x5 =>
      oLen x5 fun x6 =>
      oAr .add (s2.1.getD 0 .any) x6 fun x7 =>
      oCmp .lss x7 (.s (.int .i64 0)) fun x8 =>
      oCond x8 (none)
      ((trim true s2.2.length [x7] s2.2).map fun p => (Ex.normal, p.1, p.2))) (slices_Concat_Sapi_Extent_api_Extent_k1 s2 objs))
      ((trim true objs.length [(s2.1.getD 0 .any)] s2.2).map fun p => .inr (Ex.exit 0, p.1, p.2))

def slices_Concat_Sapi_Extent_api_Extent_l3 (x24 : A) (a0 : A) (h21 : Heap) : List A × Heap → Option ((List A × Heap) ⊕ (Ex × List A × Heap)) := fun s25 =>
      oCmp .lss (s25.1.getD 1 .any) x24 fun x26 =>
      oCond x26 (oIdxA 1 a0 (s25.1.getD 1 .any) fun x27 =>
      oLoad none x27 s25.2 fun x28 =>
      oAppend none 2 16 (s25.1.getD 0 .any) x28 s25.2 fun x29 h30 =>
      oAr .add (s25.1.getD 1 .any) (.s (.int .i64 1)) fun x31 =>
      (trim true h21.length [x29, x31] h30).map .inl)
      ((trim true h21.length [(s25.1.getD 0 .any)] s25.2).map fun p => .inr (Ex.exit 2, p.1, p.2))

def slices_Concat_Sapi_Extent_api_Extent_k4 (objs : Heap) : Ex → List A → Heap → Option (Out × Heap) := fun e32 vs33 h34 =>
      (match e32 with
  | .normal => none
  | .exit i35 => if i35 = 2 then finish objs.length (.ok (vs33.getD 0 .any)) h34 else none
  | .ret => finish objs.length (.ok (.s (.slice none 0 0))) h34
  | .panic v36 => finish objs.length (.pan v36) h34)

def slices_Concat_Sapi_Extent_api_Extent_k5 (objs : Heap) (a0 : A) : Ex → List A → Heap → Option (Out × Heap) := fun e15 vs16 h17 =>
      (match e15 with
  | .normal => none
  | .exit i18 => if i18 = 0 then oCall (primGrow 2 16) [(.s (.slice none 0 0)), (vs16.getD 0 .any)] h17 (fun v22 h23 => finish objs.length (.pan v22) h23) fun x20 h21 =>
      oLen a0 fun x24 =>
      oLoop (slices_Concat_Sapi_Extent_api_Extent_l3 x24 a0 h21) ([x20, (.s (.int .i64 0))], h21) (slices_Concat_Sapi_Extent_api_Extent_k4 objs) else none
  | .ret => finish objs.length (.ok (.s (.slice none 0 0))) h17
  | .panic v19 => finish objs.length (.pan v19) h17)

/-- slices.Concat[[]bailey/api.Extent,bailey/api.Extent] -/
def slices_Concat_Sapi_Extent_api_Extent : CallFn := fun args objs =>
match args with
| [a0] =>
oLen a0 fun x1 =>
      oLoop (slices_Concat_Sapi_Extent_api_Extent_l2 x1 a0 objs) ([(.s (.int .i64 0)), (.s (.int .i64 0))], objs) (slices_Concat_Sapi_Extent_api_Extent_k5 objs a0)
| _ => none

def slices_Concat_S_tree_node_tree_node_k1 (s2 : List A × Heap) (objs : Heap) : Ex → List A → Heap → Option ((List A × Heap) ⊕ (Ex × List A × Heap)) := fun e11 vs9 h10 =>
      (match e11 with
  | .normal => oAr .add (s2.1.getD 1 .any) (.s (.int .i64 1)) fun x14 =>
      (trim true objs.length [(vs9.getD 0 .any), x14] h10).map .inl
  | .exit i12 => (trim true objs.length [(vs9.getD 0 .any)] h10).map fun p => .inr (Ex.exit i12, p.1, p.2)
  | .ret => (trim true objs.length [(vs9.getD 0 .any)] h10).map fun p => .inr (Ex.ret, p.1, p.2)
  | .panic v13 => some (.inr (Ex.panic v13, [.any], h10)))

def slices_Concat_S_tree_node_tree_node_l2 (x1 : A) (a0 : A) (objs : Heap) : List A × Heap → Option ((List A × Heap) ⊕ (Ex × List A × Heap)) := fun s2 =>
      oCmp .lss (s2.1.getD 1 .any) x1 fun x3 =>
      oCond x3 (oJoin (oIdxA 1 a0 (s2.1.getD 1 .any) fun x4 =>
      oLoad none x4 s2.2 fun x5 =>
      oLen x5 fun x6 =>
      oAr .add (s2.1.getD 0 .any) x6 fun x7 =>
      oCmp .lss x7 (.s (.int .i64 0)) fun x8 =>
      oCond x8 (none)
      ((trim true s2.2.length [x7] s2.2).map fun p => (Ex.normal, p.1, p.2))) (slices_Concat_S_tree_node_tree_node_k1 s2 objs))
      ((trim true objs.length [(s2.1.getD 0 .any)] s2.2).map fun p => .inr (Ex.exit 0, p.1, p.2))

def slices_Concat_S_tree_node_tree_node_l3 (x24 : A) (a0 : A) (h21 : Heap) : List A × Heap → Option ((List A × Heap) ⊕ (Ex × List A × Heap)) := fun s25 =>
      oCmp .lss (s25.1.getD 1 .any) x24 fun x26 =>
      oCond x26 (oIdxA 1 a0 (s25.1.getD 1 .any) fun x27 =>
      oLoad none x27 s25.2 fun x28 =>
      oAppend none 1 8 (s25.1.getD 0 .any) x28 s25.2 fun x29 h30 =>
      oAr .add (s25.1.getD 1 .any) (.s (.int .i64 1)) fun x31 =>
      (trim true h21.length [x29, x31] h30).map .inl)
      ((trim true h21.length [(s25.1.getD 0 .any)] s25.2).map fun p => .inr (Ex.exit 2, p.1, p.2))

def slices_Concat_S_tree_node_tree_node_k4 (objs : Heap) : Ex → List A → Heap → Option (Out × Heap) := fun e32 vs33 h34 =>
      (match e32 with
  | .normal => none
  | .exit i35 => if i35 = 2 then finish objs.length (.ok (vs33.getD 0 .any)) h34 else none
  | .ret => finish objs.length (.ok (.s (.slice none 0 0))) h34
  | .panic v36 => finish objs.length (.pan v36) h34)

def slices_Concat_S_tree_node_tree_node_k5 (objs : Heap) (a0 : A) : Ex → List A → Heap → Option (Out × Heap) := fun e15 vs16 h17 =>
      (match e15 with
  | .normal => none
  | .exit i18 => if i18 = 0 then oCall (primGrow 1 8) [(.s (.slice none 0 0)), (vs16.getD 0 .any)] h17 (fun v22 h23 => finish objs.length (.pan v22) h23) fun x20 h21 =>
      oLen a0 fun x24 =>
      oLoop (slices_Concat_S_tree_node_tree_node_l3 x24 a0 h21) ([x20, (.s (.int .i64 0))], h21) (slices_Concat_S_tree_node_tree_node_k4 objs) else none
  | .ret => finish objs.length (.ok (.s (.slice none 0 0))) h17
  | .panic v19 => finish objs.length (.pan v19) h17)

/-- slices.Concat[[]*bailey/tree.node,*bailey/tree.node] -/
def slices_Concat_S_tree_node_tree_node : CallFn := fun args objs =>
match args with
| [a0] =>
oLen a0 fun x1 =>
      oLoop (slices_Concat_S_tree_node_tree_node_l2 x1 a0 objs) ([(.s (.int .i64 0)), (.s (.int .i64 0))], objs) (slices_Concat_S_tree_node_tree_node_k5 objs a0)
| _ => none

def tree_node_mend_k1 (x17 : A) (x14 : A) (x6 : A) (a0 : A) (a1 : A) (objs : Heap) : Ex → List A → Heap → Option (Out × Heap) := fun e56 vs54 h55 =>
      (match e56 with
  | .normal => oNilCheck x17 fun x59 =>
      oFieldA 0 x59 fun x60 =>
      oLoadD h55.length (wrL h55 [(x17, true)]) none x60 (h55 ++ List.replicate 1 .res) fun x61 h62 =>
      oNilCheck x14 fun x63 =>
      oFieldA 0 x63 fun x64 =>
      oLoadD h55.length (wrL h55 [(x17, true)]) none x64 h62 fun x65 h66 =>
      oAppendD h55.length (wrL h55 [(x17, true)]) h55.length 1 8 x61 x65 h66 fun x67 h68 =>
      oNilCheck x17 fun x69 =>
      oFieldA 0 x69 fun x70 =>
      oStore none x70 x67 h68 fun h71 =>
      oNilCheck x6 fun x72 =>
      oFieldA 1 x72 fun x73 =>
      oLoadD h71.length [] none x73 (h71 ++ List.replicate 1 .res) fun x74 h75 =>
      oNilCheck x14 fun x76 =>
      oFieldA 1 x76 fun x77 =>
      oLoadD h71.length [] none x77 h75 fun x78 h79 =>
      oNewFz h71.length 1 (asRows none [x74, x78]) h79 fun x80 h81 =>
      oCallF h71.length [] slices_Concat_Sapi_Extent_api_Extent [x80] h81 fun x82 h83 =>
      oNilCheck x17 fun x84 =>
      oFieldA 1 x84 fun x85 =>
      oStore none x85 x82 h83 fun h86 =>
      oNilCheck x6 fun x87 =>
      oFieldA 2 x87 fun x88 =>
      oLoadD h86.length [] none x88 (h86 ++ List.replicate 1 .res) fun x89 h90 =>
      oNilCheck x14 fun x91 =>
      oFieldA 2 x91 fun x92 =>
      oLoadD h86.length [] none x92 h90 fun x93 h94 =>
      oNewFz h86.length 1 (asRows none [x89, x93]) h94 fun x95 h96 =>
      oCallF h86.length [] slices_Concat_S_tree_node_tree_node [x95] h96 fun x97 h98 =>
      oNilCheck x17 fun x99 =>
      oFieldA 2 x99 fun x100 =>
      oStore none x100 x97 h98 fun h101 =>
      oNilCheck x17 fun x102 =>
      oFieldA 0 x102 fun x103 =>
      oLoad none x103 h101 fun x104 =>
      oLen x104 fun x105 =>
      oCmp .leq x105 (.s (.int .i64 7)) fun x106 =>
      oCond x106 (oNilCheck a0 fun x107 =>
      oFieldA 0 x107 fun x108 =>
      oLoadD h101.length (wrL h101 [(a0, true)]) none x108 h101 fun x109 h110 =>
      oAr .add a1 (.s (.int .i64 1)) fun x111 =>
      oCallW h101.length (wrL h101 [(a0, true)]) (primDelete 1 8) [x109, a1, x111] h110 fun x112 h113 =>
      oNilCheck a0 fun x114 =>
      oFieldA 2 x114 fun x115 =>
      oLoadD h101.length (wrL h101 [(a0, true)]) none x115 h113 fun x116 h117 =>
      oAr .add a1 (.s (.int .i64 1)) fun x118 =>
      oAr .add a1 (.s (.int .i64 2)) fun x119 =>
      oCallW h101.length (wrL h101 [(a0, true)]) (primDelete 1 8) [x116, x118, x119] h117 fun x120 h121 =>
      oNilCheck a0 fun x122 =>
      oFieldA 0 x122 fun x123 =>
      oStore none x123 x112 h121 fun h124 =>
      oNilCheck a0 fun x125 =>
      oFieldA 2 x125 fun x126 =>
      oStore none x126 x120 h124 fun h127 =>
      oNilCheck a0 fun x128 =>
      oFieldA 2 x128 fun x129 =>
      oLoad none x129 h127 fun x130 =>
      oIdxA 1 x130 a1 fun x131 =>
      oStore none x131 x17 h127 fun h132 =>
      finish objs.length (.ok (.s (.tuple #[]))) h132)
      (oNilCheck a0 fun x133 =>
      oFieldA 2 x133 fun x134 =>
      oLoadD h101.length [] none x134 h101 fun x135 h136 =>
      oNilCheck a0 fun x137 =>
      oFieldA 0 x137 fun x138 =>
      oLoadD h101.length [] none x138 h136 fun x139 h140 =>
      oNilCheck a0 fun x141 =>
      oFieldA 2 x141 fun x142 =>
      oLoadD h101.length [] none x142 h140 fun x143 h144 =>
      oAr .add a1 (.s (.int .i64 1)) fun x145 =>
      oCallK h101.length [] tree_node_split [x17] h144 fun x146 h147 =>
      oExtract 0 x146 fun x148 =>
      oExtract 1 x146 fun x149 =>
      oExtract 2 x146 fun x150 =>
      oIdxA 1 x135 a1 fun x151 =>
      oStore none x151 x148 h147 fun h152 =>
      oIdxA 1 x139 a1 fun x153 =>
      oStore none x153 x149 h152 fun h154 =>
      oIdxA 1 x143 x145 fun x155 =>
      oStore none x155 x150 h154 fun h156 =>
      finish objs.length (.ok (.s (.tuple #[]))) h156)
  | .exit i57 => none
  | .ret => finish objs.length (.ok (.s (.tuple #[]))) h55
  | .panic v58 => finish objs.length (.pan v58) h55)

/-- (*bailey/tree.node).mend -/
def tree_node_mend : CallFn := fun args objs =>
match args with
| [a0, a1] =>
oNilCheck a0 fun x1 =>
      oFieldA 2 x1 fun x2 =>
      oLoadD objs.length [] none x2 objs fun x3 h4 =>
      oIdxA 1 x3 a1 fun x5 =>
      oLoadD objs.length [] none x5 h4 fun x6 h7 =>
      oNilCheck a0 fun x8 =>
      oFieldA 2 x8 fun x9 =>
      oLoadD objs.length [] none x9 h7 fun x10 h11 =>
      oAr .add a1 (.s (.int .i64 1)) fun x12 =>
      oIdxA 1 x10 x12 fun x13 =>
      oLoadD objs.length [] none x13 h11 fun x14 h15 =>
      oBuildP [.s (.slice none 0 0), .s (.slice none 0 0), .s (.slice none 0 0)] [] fun x16 =>
      oNew none (some 3) x16 h15 fun x17 h18 =>
      oNilCheck x6 fun x19 =>
      oFieldA 0 x19 fun x20 =>
      oLoad none x20 h18 fun x21 =>
      oLend (primClone 1 8) [x21] h18 (fun v24 h25 => finish objs.length (.pan v24) h25) fun x22 h23 =>
      oNilCheck x17 fun x26 =>
      oFieldA 0 x26 fun x27 =>
      oStore none x27 x22 h23 fun h28 =>
      oJoin (oLend tree_node_leaf [x6] h28 (fun v31 h32 => some (Ex.panic v31, [], h32)) fun w52 h53 => oFrz w52 h53 fun x29 h30 =>
      oNot x29 fun x33 =>
      oCond x33 (oNilCheck x17 fun x34 =>
      oFieldA 0 x34 fun x35 =>
      oLoadD h30.length (wrL h30 [(x17, true)]) none x35 (h30 ++ List.replicate 2 .res) fun x36 h37 =>
      oNilCheck a0 fun x38 =>
      oFieldA 0 x38 fun x39 =>
      oLoadD h30.length (wrL h30 [(x17, true)]) none x39 h37 fun x40 h41 =>
      oIdxA 1 x40 a1 fun x42 =>
      oLoadD h30.length (wrL h30 [(x17, true)]) none x42 h41 fun x43 h44 =>
      oNewFz h30.length 1 (asRows none [x43]) h44 fun x45 h46 =>
      oAppendD h30.length (wrL h30 [(x17, true)]) (h30.length + 1) 1 8 x36 x45 h46 fun x47 h48 =>
      oNilCheck x17 fun x49 =>
      oFieldA 0 x49 fun x50 =>
      oStore none x50 x47 h48 fun h51 =>
      (trim true h28.length [] h51).map fun p => (Ex.normal, p.1, p.2))
      ((trim true h28.length [] h30).map fun p => (Ex.normal, p.1, p.2))) (tree_node_mend_k1 x17 x14 x6 a0 a1 objs)
| _ => none

def tree_node_del_k1 (objs : Heap) (x1 : A) : Ex → List A → Heap → Option (Out × Heap) := fun e42 vs40 h41 =>
      (match e42 with
  | .normal => finish objs.length (.ok x1) h41
  | .exit i43 => none
  | .ret => finish objs.length (.ok (.s (.pointer none))) h41
  | .panic v44 => finish objs.length (.pan v44) h41)

def tree_node_del_k2 (objs : Heap) (x1 : A) : Ex → List A → Heap → Option (Out × Heap) := fun e84 vs82 h83 =>
      (match e84 with
  | .normal => finish objs.length (.ok x1) h83
  | .exit i85 => none
  | .ret => finish objs.length (.ok (.s (.pointer none))) h83
  | .panic v86 => finish objs.length (.pan v86) h83)

/-- (*bailey/tree.node).del -/
def tree_node_del_step (self : CallFn) : CallFn := fun args objs =>
match args with
| [a0, a1] =>
oLend tree_node_clone [a0] objs (fun v3 h4 => finish objs.length (.pan v3) h4) fun x1 h2 =>
      oLend tree_node_leaf [a0] h2 (fun v7 h8 => finish objs.length (.pan v7) h8) fun w91 h92 => oFrz w91 h92 fun x5 h6 =>
      oCond x5 (oJoin (oNilCheck a0 fun x9 =>
      oFieldA 0 x9 fun x10 =>
      oLoad none x10 h6 fun x11 =>
      oLend slices_BinarySearch_Suint64_uint64 [x11, a1] h6 (fun v14 h15 => some (Ex.panic v14, [], h15)) fun w38 h39 => oFrz w38 h39 fun x12 h13 =>
      oExtract 0 x12 fun x16 =>
      oExtract 1 x12 fun x17 =>
      oCond x17 (oNilCheck x1 fun x18 =>
      oFieldA 0 x18 fun x19 =>
      oLoadD h13.length (wrL h13 [(x1, true)]) none x19 h13 fun x20 h21 =>
      oAr .add x16 (.s (.int .i64 1)) fun x22 =>
      oCallW h13.length (wrL h13 [(x1, true)]) (primDelete 1 8) [x20, x16, x22] h21 fun x23 h24 =>
      oNilCheck x1 fun x25 =>
      oFieldA 1 x25 fun x26 =>
      oLoadD h13.length (wrL h13 [(x1, true)]) none x26 h24 fun x27 h28 =>
      oAr .add x16 (.s (.int .i64 1)) fun x29 =>
      oCallW h13.length (wrL h13 [(x1, true)]) (primDelete 2 16) [x27, x16, x29] h28 fun x30 h31 =>
      oNilCheck x1 fun x32 =>
      oFieldA 0 x32 fun x33 =>
      oStore none x33 x23 h31 fun h34 =>
      oNilCheck x1 fun x35 =>
      oFieldA 1 x35 fun x36 =>
      oStore none x36 x30 h34 fun h37 =>
      (trim true h6.length [] h37).map fun p => (Ex.normal, p.1, p.2))
      ((trim true h6.length [] h13).map fun p => (Ex.normal, p.1, p.2))) (tree_node_del_k1 objs x1))
      (oLend tree_node_way [a0, a1] h6 (fun v47 h48 => finish objs.length (.pan v47) h48) fun w89 h90 => oFrz w89 h90 fun x45 h46 =>
      oNilCheck x1 fun x49 =>
      oFieldA 2 x49 fun x50 =>
      oLoadD h46.length [] none x50 h46 fun x51 h52 =>
      oNilCheck a0 fun x53 =>
      oFieldA 2 x53 fun x54 =>
      oLoadD h46.length [] none x54 h52 fun x55 h56 =>
      oIdxA 1 x55 x45 fun x57 =>
      oLoadD h46.length [] none x57 h56 fun x58 h59 =>
      oCallF h46.length [] self [x58, a1] h59 fun w87 h88 => oFrz w87 h88 fun x60 h61 =>
      oIdxA 1 x51 x45 fun x62 =>
      oStore none x62 x60 h61 fun h63 =>
      oJoin (oNilCheck x1 fun x64 =>
      oFieldA 2 x64 fun x65 =>
      oLoad none x65 h63 fun x66 =>
      oIdxA 1 x66 x45 fun x67 =>
      oLoad none x67 h63 fun x68 =>
      oNilCheck x68 fun x69 =>
      oFieldA 0 x69 fun x70 =>
      oLoad none x70 h63 fun x71 =>
      oLen x71 fun x72 =>
      oCmp .lss x72 (.s (.int .i64 3)) fun x73 =>
      oCond x73 (oAr .sub x45 (.s (.int .i64 1)) fun x74 =>
      oMax x74 (.s (.int .i64 0)) fun x75 =>
      oCall tree_node_mend [x1, x75] h63 (fun v78 h79 => some (Ex.panic v78, [], h79)) fun w80 h81 => oFrz w80 h81 fun x76 h77 =>
      (trim true h63.length [] h77).map fun p => (Ex.normal, p.1, p.2))
      ((trim true h63.length [] h63).map fun p => (Ex.normal, p.1, p.2))) (tree_node_del_k2 objs x1))
| _ => none

def tree_node_del : Nat → CallFn
| 0 => fun _ _ => none
| n + 1 => tree_node_del_step (tree_node_del n)

def tree_Tree_Del_k1 (x14 : A) (h15 : Heap) : Ex → List A → Heap → Option (Ex × List A × Heap) := fun e32 vs30 h31 =>
      (match e32 with
  | .normal => oCond (vs30.getD 0 .any) (oNilCheck x14 fun x35 =>
      oFieldA 2 x35 fun x36 =>
      oLoad none x36 h31 fun x37 =>
      oIdxA 1 x37 (.s (.int .i64 0)) fun x38 =>
      oLoad none x38 h31 fun x39 =>
      (trim true h15.length [x39] h31).map fun p => (Ex.normal, p.1, p.2))
      ((trim true h15.length [x14] h31).map fun p => (Ex.normal, p.1, p.2))
  | .exit i33 => (trim true h15.length [x14] h31).map fun p => (Ex.exit i33, p.1, p.2)
  | .ret => (trim true h15.length [x14] h31).map fun p => (Ex.ret, p.1, p.2)
  | .panic v34 => some (Ex.panic v34, [], h31))

def tree_Tree_Del_k2 (a0 : A) (objs : Heap) : Ex → List A → Heap → Option (Out × Heap) := fun e42 vs40 h41 =>
      (match e42 with
  | .normal => oNilCheck a0 fun x45 =>
      oFieldA 1 x45 fun x46 =>
      oLoad none x46 h41 fun x47 =>
      oAr .sub x47 (.s (.int .i64 1)) fun x48 =>
      oBuildP [.s (.pointer none), .s (.int .i64 0)] [(0, none, (vs40.getD 0 .any)), (1, none, x48)] fun x49 =>
      oNew none (some 2) x49 h41 fun x50 h51 =>
      finish objs.length (.ok x50) h51
  | .exit i43 => none
  | .ret => finish objs.length (.ok (.s (.pointer none))) h41
  | .panic v44 => finish objs.length (.pan v44) h41)

/-- (*bailey/tree.Tree).Del -/
def tree_Tree_Del : CallFn := fun args objs =>
match args with
| [a0, a1] =>
oLend tree_Tree_Get [a0, a1] objs (fun v3 h4 => finish objs.length (.pan v3) h4) fun w54 h55 => oFrz w54 h55 fun x1 h2 =>
      oExtract 0 x1 fun x5 =>
      oExtract 1 x1 fun x6 =>
      oNew none (some 2) (.agg [.s (.int .i64 0), .s (.int .i64 0)]) h2 fun x7 h8 =>
      oStore (some 2) x7 x5 h8 fun h9 =>
      oNot x6 fun x10 =>
      oCond x10 (finish objs.length (.ok a0) h9)
      (oNilCheck a0 fun x11 =>
      oFieldA 0 x11 fun x12 =>
      oLoad none x12 h9 fun x13 =>
      oLend (tree_node_del big) [x13, a1] h9 (fun v16 h17 => finish objs.length (.pan v16) h17) fun w52 h53 => oFrz w52 h53 fun x14 h15 =>
      oJoin (oJoin (oLend tree_node_leaf [x14] h15 (fun v20 h21 => some (Ex.panic v20, [], h21)) fun w28 h29 => oFrz w28 h29 fun x18 h19 =>
      oNot x18 fun x22 =>
      oGuard x22 true (fun _ => oNilCheck x14 fun x23 =>
      oFieldA 2 x23 fun x24 =>
      oLoad none x24 h19 fun x25 =>
      oLen x25 fun x26 =>
      oCmp .eql x26 (.s (.int .i64 1)) fun x27 =>
      (trim true h15.length [x27] h19).map fun p => (Ex.normal, p.1, p.2))
      (fun _ => (trim true h15.length [(.s (.bool false))] h19).map fun p => (Ex.normal, p.1, p.2))) (tree_Tree_Del_k1 x14 h15)) (tree_Tree_Del_k2 a0 objs))
| _ => none

def ref08_Del_k1 (s4 : List A × Heap) (h2 : Heap) : Ex → List A → Heap → Option ((List A × Heap) ⊕ (Ex × List A × Heap)) := fun e21 vs19 h20 =>
      (match e21 with
  | .normal => oAr .add (s4.1.getD 1 .any) (.s (.int .i64 1)) fun x24 =>
      (trim true h2.length [(vs19.getD 0 .any), x24] h20).map .inl
  | .exit i22 => (trim true h2.length [(vs19.getD 0 .any)] h20).map fun p => .inr (Ex.exit i22, p.1, p.2)
  | .ret => (trim true h2.length [(vs19.getD 0 .any)] h20).map fun p => .inr (Ex.ret, p.1, p.2)
  | .panic v23 => some (.inr (Ex.panic v23, [.any], h20)))

def ref08_Del_l2 (x3 : A) (a0 : A) (a1 : A) (h2 : Heap) : List A × Heap → Option ((List A × Heap) ⊕ (Ex × List A × Heap)) := fun s4 =>
      oCmp .lss (s4.1.getD 1 .any) x3 fun x5 =>
      oCond x5 (oJoin (oIdxA 3 a0 (s4.1.getD 1 .any) fun x6 =>
      oLoad (some 3) x6 s4.2 fun x7 =>
      oNew none (some 3) (.agg [.s (.int .u64 0), .s (.int .i64 0), .s (.int .i64 0)]) s4.2 fun x8 h9 =>
      oStore (some 3) x8 x7 h9 fun h10 =>
      oFieldA 0 x8 fun x11 =>
      oLoad none x11 h10 fun x12 =>
      oCmp .neq x12 a1 fun x13 =>
      oCond x13 (oLoad (some 3) x8 h10 fun x14 =>
      oNewSlice none 3 (asRows (some 3) [x14]) h10 fun x15 h16 =>
      oAppend none 3 24 (s4.1.getD 0 .any) x15 h16 fun x17 h18 =>
      (trim true s4.2.length [x17] h18).map fun p => (Ex.normal, p.1, p.2))
      ((trim true s4.2.length [(s4.1.getD 0 .any)] h10).map fun p => (Ex.normal, p.1, p.2))) (ref08_Del_k1 s4 h2))
      ((trim true h2.length [(s4.1.getD 0 .any)] s4.2).map fun p => .inr (Ex.exit 0, p.1, p.2))

def ref08_Del_k3 (objs : Heap) : Ex → List A → Heap → Option (Out × Heap) := fun e25 vs26 h27 =>
      (match e25 with
  | .normal => none
  | .exit i28 => if i28 = 0 then finish objs.length (.ok (vs26.getD 0 .any)) h27 else none
  | .ret => finish objs.length (.ok (.s (.slice none 0 0))) h27
  | .panic v29 => finish objs.length (.pan v29) h27)

/-- bailey/baileyref08.Del -/
def ref08_Del : CallFn := fun args objs =>
match args with
| [a0, a1] =>
oNewSlice none 3 (asRows (some 3) []) objs fun x1 h2 =>
      oLen a0 fun x3 =>
      oLoop (ref08_Del_l2 x3 a0 a1 h2) ([x1, (.s (.int .i64 0))], h2) (ref08_Del_k3 objs)
| _ => none

def law08_grown_k1 (s8 : List A × Heap) (h6 : Heap) : Ex → List A → Heap → Option ((List A × Heap) ⊕ (Ex × List A × Heap)) := fun e56 vs54 h55 =>
      (match e56 with
  | .normal => oAr .add (s8.1.getD 2 .any) (.s (.int .i64 1)) fun x59 =>
      (trim true h6.length [(vs54.getD 0 .any), (vs54.getD 1 .any), x59] h55).map .inl
  | .exit i57 => (trim true h6.length [(vs54.getD 0 .any), (vs54.getD 1 .any)] h55).map fun p => .inr (Ex.exit i57, p.1, p.2)
  | .ret => (trim true h6.length [(vs54.getD 0 .any), (vs54.getD 1 .any)] h55).map fun p => .inr (Ex.ret, p.1, p.2)
  | .panic v58 => some (.inr (Ex.panic v58, [.any, .any], h55)))

def law08_grown_l2 (x7 : A) (a0 : A) (h6 : Heap) : List A × Heap → Option ((List A × Heap) ⊕ (Ex × List A × Heap)) := fun s8 =>
      oCmp .lss (s8.1.getD 2 .any) x7 fun x9 =>
      oCond x9 (oJoin (oIdxA 4 a0 (s8.1.getD 2 .any) fun x10 =>
      oLoad (some 4) x10 s8.2 fun x11 =>
      oNew none (some 4) (.agg [.s (.int .i64 0), .s (.int .u64 0), .s (.int .i64 0), .s (.int .i64 0)]) s8.2 fun x12 h13 =>
      oStore (some 4) x12 x11 h13 fun h14 =>
      oFieldA 0 x12 fun x15 =>
      oLoad none x15 h14 fun x16 =>
      oCmp .eql x16 (.s (.int .i64 0)) fun x17 =>
      oCond x17 (oFieldA 1 x12 fun x18 =>
      oLoad none x18 h14 fun x19 =>
      oFieldA 2 x12 fun x20 =>
      oLoad (some 2) x20 h14 fun x21 =>
      oLend tree_Tree_Put [(s8.1.getD 0 .any), x19, x21] h14 (fun v24 h25 => some (Ex.panic v24, [], h25)) fun w36 h37 => oFrz w36 h37 fun x22 h23 =>
      oFieldA 1 x12 fun x26 =>
      oLoad none x26 h23 fun x27 =>
      oFieldA 2 x12 fun x28 =>
      oLoad (some 2) x28 h23 fun x29 =>
      oLend ref08_Put [(s8.1.getD 1 .any), x27, x29] h23 (fun v32 h33 => some (Ex.panic v32, [], h33)) fun w34 h35 => oFrz w34 h35 fun x30 h31 =>
      (trim true s8.2.length [x22, x30] h31).map fun p => (Ex.normal, p.1, p.2))
      (oFieldA 1 x12 fun x38 =>
      oLoad none x38 h14 fun x39 =>
      oLend tree_Tree_Del [(s8.1.getD 0 .any), x39] h14 (fun v42 h43 => some (Ex.panic v42, [], h43)) fun w52 h53 => oFrz w52 h53 fun x40 h41 =>
      oFieldA 1 x12 fun x44 =>
      oLoad none x44 h41 fun x45 =>
      oLend ref08_Del [(s8.1.getD 1 .any), x45] h41 (fun v48 h49 => some (Ex.panic v48, [], h49)) fun w50 h51 => oFrz w50 h51 fun x46 h47 =>
      (trim true s8.2.length [x40, x46] h47).map fun p => (Ex.normal, p.1, p.2))) (law08_grown_k1 s8 h6))
      ((trim true h6.length [(s8.1.getD 0 .any), (s8.1.getD 1 .any)] s8.2).map fun p => .inr (Ex.exit 0, p.1, p.2))

def law08_grown_k3 (objs : Heap) : Ex → List A → Heap → Option (Out × Heap) := fun e60 vs61 h62 =>
      (match e60 with
  | .normal => none
  | .exit i63 => if i63 = 0 then finish objs.length (.ok (.tup [(vs61.getD 0 .any), (vs61.getD 1 .any)])) h62 else none
  | .ret => finish objs.length (.ok (.tup [(.s (.pointer none)), (.s (.slice none 0 0))])) h62
  | .panic v64 => finish objs.length (.pan v64) h62)

/-- bailey/baileylaw08.grown -/
def law08_grown : CallFn := fun args objs =>
match args with
| [a0] =>
oLend tree_New [] objs (fun v3 h4 => finish objs.length (.pan v3) h4) fun w65 h66 => oFrz w65 h66 fun x1 h2 =>
      oNewSlice none 3 (asRows (some 3) []) h2 fun x5 h6 =>
      oLen a0 fun x7 =>
      oLoop (law08_grown_l2 x7 a0 h6) ([x1, x5, (.s (.int .i64 0))], h6) (law08_grown_k3 objs)
| _ => none

def ref08_Range_k1 (x8 : A) (s4 : List A × Heap) : Ex → List A → Heap → Option (Ex × List A × Heap) := fun e19 vs17 h18 =>
      (match e19 with
  | .normal => oCond (vs17.getD 0 .any) (oLoad (some 3) x8 h18 fun x22 =>
      oNewSlice none 3 (asRows (some 3) [x22]) h18 fun x23 h24 =>
      oAppend none 3 24 (s4.1.getD 0 .any) x23 h24 fun x25 h26 =>
      (trim true s4.2.length [x25] h26).map fun p => (Ex.normal, p.1, p.2))
      ((trim true s4.2.length [(s4.1.getD 0 .any)] h18).map fun p => (Ex.normal, p.1, p.2))
  | .exit i20 => if i20 = 1 then (trim true s4.2.length [(s4.1.getD 0 .any)] h18).map fun p => (Ex.normal, p.1, p.2) else (trim true s4.2.length [(s4.1.getD 0 .any)] h18).map fun p => (Ex.exit i20, p.1, p.2)
  | .ret => (trim true s4.2.length [(s4.1.getD 0 .any)] h18).map fun p => (Ex.ret, p.1, p.2)
  | .panic v21 => some (Ex.panic v21, [], h18))

def ref08_Range_k2 (s4 : List A × Heap) (h2 : Heap) : Ex → List A → Heap → Option ((List A × Heap) ⊕ (Ex × List A × Heap)) := fun e29 vs27 h28 =>
      (match e29 with
  | .normal => oAr .add (s4.1.getD 1 .any) (.s (.int .i64 1)) fun x32 =>
      (trim true h2.length [(vs27.getD 0 .any), x32] h28).map .inl
  | .exit i30 => (trim true h2.length [(vs27.getD 0 .any)] h28).map fun p => .inr (Ex.exit i30, p.1, p.2)
  | .ret => (trim true h2.length [(vs27.getD 0 .any)] h28).map fun p => .inr (Ex.ret, p.1, p.2)
  | .panic v31 => some (.inr (Ex.panic v31, [.any], h28)))

def ref08_Range_l3 (x3 : A) (a0 : A) (a1 : A) (a2 : A) (h2 : Heap) : List A × Heap → Option ((List A × Heap) ⊕ (Ex × List A × Heap)) := fun s4 =>
      oCmp .lss (s4.1.getD 1 .any) x3 fun x5 =>
      oCond x5 (oJoin (oIdxA 3 a0 (s4.1.getD 1 .any) fun x6 =>
      oLoad (some 3) x6 s4.2 fun x7 =>
      oNew none (some 3) (.agg [.s (.int .u64 0), .s (.int .i64 0), .s (.int .i64 0)]) s4.2 fun x8 h9 =>
      oStore (some 3) x8 x7 h9 fun h10 =>
      oJoin (oFieldA 0 x8 fun x11 =>
      oLoad none x11 h10 fun x12 =>
      oCmp .geq x12 a1 fun x13 =>
      oGuard x13 true (fun _ => oFieldA 0 x8 fun x14 =>
      oLoad none x14 h10 fun x15 =>
      oCmp .leq x15 a2 fun x16 =>
      (trim true h10.length [x16] h10).map fun p => (Ex.normal, p.1, p.2))
      (fun _ => (trim true h10.length [(.s (.bool false))] h10).map fun p => (Ex.normal, p.1, p.2))) (ref08_Range_k1 x8 s4)) (ref08_Range_k2 s4 h2))
      ((trim true h2.length [(s4.1.getD 0 .any)] s4.2).map fun p => .inr (Ex.exit 0, p.1, p.2))

def ref08_Range_k4 (objs : Heap) : Ex → List A → Heap → Option (Out × Heap) := fun e33 vs34 h35 =>
      (match e33 with
  | .normal => none
  | .exit i36 => if i36 = 0 then finish objs.length (.ok (vs34.getD 0 .any)) h35 else none
  | .ret => finish objs.length (.ok (.s (.slice none 0 0))) h35
  | .panic v37 => finish objs.length (.pan v37) h35)

/-- bailey/baileyref08.Range -/
def ref08_Range : CallFn := fun args objs =>
match args with
| [a0, a1, a2] =>
oNewSlice none 3 (asRows (some 3) []) objs fun x1 h2 =>
      oLen a0 fun x3 =>
      oLoop (ref08_Range_l3 x3 a0 a1 a2 h2) ([x1, (.s (.int .i64 0))], h2) (ref08_Range_k4 objs)
| _ => none

def ref08_Same_l1 (x4 : A) (a0 : A) (a1 : A) (objs : Heap) : List A × Heap → Option ((List A × Heap) ⊕ (Ex × List A × Heap)) := fun s5 =>
      oCmp .lss (s5.1.getD 0 .any) x4 fun x6 =>
      oCond x6 (oIdxA 3 a0 (s5.1.getD 0 .any) fun x7 =>
      oLoadD s5.2.length [] (some 3) x7 s5.2 fun x8 h9 =>
      oIdxA 3 a1 (s5.1.getD 0 .any) fun x10 =>
      oLoadD s5.2.length [] (some 3) x10 h9 fun x11 h12 =>
      oEqAgg [true, true, true] true x8 x11 fun x13 =>
      oCond x13 ((trim true objs.length [(.s (.bool false))] h12).map fun p => .inr (Ex.ret, p.1, p.2))
      (oAr .add (s5.1.getD 0 .any) (.s (.int .i64 1)) fun x14 =>
      (trim true objs.length [x14] h12).map .inl))
      ((trim true objs.length [.any] s5.2).map fun p => .inr (Ex.exit 0, p.1, p.2))

def ref08_Same_k2 (objs : Heap) : Ex → List A → Heap → Option (Out × Heap) := fun e15 vs16 h17 =>
      (match e15 with
  | .normal => none
  | .exit i18 => if i18 = 0 then finish objs.length (.ok (.s (.bool true))) h17 else none
  | .ret => finish objs.length (.ok (vs16.getD 0 .any)) h17
  | .panic v19 => finish objs.length (.pan v19) h17)

/-- bailey/baileyref08.Same -/
def ref08_Same : CallFn := fun args objs =>
match args with
| [a0, a1] =>
oLen a0 fun x1 =>
      oLen a1 fun x2 =>
      oCmp .neq x1 x2 fun x3 =>
      oCond x3 (finish objs.length (.ok (.s (.bool false))) objs)
      (oLen a0 fun x4 =>
      oLoop (ref08_Same_l1 x4 a0 a1 objs) ([(.s (.int .i64 0))], objs) (ref08_Same_k2 objs))
| _ => none

def ref08_Get_l1 (x3 : A) (a0 : A) (a1 : A) (x1 : A) (h2 : Heap) : List A × Heap → Option ((List A × Heap) ⊕ (Ex × List A × Heap)) := fun s4 =>
      oCmp .lss (s4.1.getD 0 .any) x3 fun x5 =>
      oCond x5 (oIdxA 3 a0 (s4.1.getD 0 .any) fun x6 =>
      oLoad (some 3) x6 s4.2 fun x7 =>
      oNew none (some 3) (.agg [.s (.int .u64 0), .s (.int .i64 0), .s (.int .i64 0)]) s4.2 fun x8 h9 =>
      oStore (some 3) x8 x7 h9 fun h10 =>
      oFieldA 0 x8 fun x11 =>
      oLoad none x11 h10 fun x12 =>
      oCmp .eql x12 a1 fun x13 =>
      oCond x13 (oFieldA 1 x8 fun x14 =>
      oLoad (some 2) x14 h10 fun x15 =>
      oStore (some 2) x1 x15 h10 fun h16 =>
      (trim true h2.length [(.s (.bool true))] h16).map fun p => .inr (Ex.ret, p.1, p.2))
      (oAr .add (s4.1.getD 0 .any) (.s (.int .i64 1)) fun x17 =>
      (trim true h2.length [x17] h10).map .inl))
      ((trim true h2.length [.any] s4.2).map fun p => .inr (Ex.exit 0, p.1, p.2))

def ref08_Get_k2 (x1 : A) (objs : Heap) : Ex → List A → Heap → Option (Out × Heap) := fun e18 vs19 h20 =>
      (match e18 with
  | .normal => none
  | .exit i21 => if i21 = 0 then oBuildP [.s (.int .i64 0), .s (.int .i64 0)] [] fun x23 =>
      oStore (some 2) x1 x23 h20 fun h24 =>
      oLoad (some 2) x1 h24 fun r25 =>
      finish objs.length (.ok (.tup [r25, (.s (.bool false))])) h24 else none
  | .ret => oLoad (some 2) x1 h20 fun r26 =>
      finish objs.length (.ok (.tup [r26, (vs19.getD 0 .any)])) h20
  | .panic v22 => finish objs.length (.pan v22) h20)

/-- bailey/baileyref08.Get -/
def ref08_Get : CallFn := fun args objs =>
match args with
| [a0, a1] =>
oNew none (some 2) (.agg [.s (.int .i64 0), .s (.int .i64 0)]) objs fun x1 h2 =>
      oLen a0 fun x3 =>
      oLoop (ref08_Get_l1 x3 a0 a1 x1 h2) ([(.s (.int .i64 0))], h2) (ref08_Get_k2 x1 objs)
| _ => none

def law08_TreeRuns_k1 (h56 : Heap) (s61 : List A × Heap) : Ex → List A → Heap → Option ((List A × Heap) ⊕ (Ex × List A × Heap)) := fun e96 vs94 h95 =>
      (match e96 with
  | .normal => oCond (vs94.getD 0 .any) ((trim true h56.length [(.s (.bool false))] h95).map fun p => .inr (Ex.ret, p.1, p.2))
      (oAr .add (s61.1.getD 0 .any) (.s (.int .i64 1)) fun x99 =>
      (trim true h56.length [x99] h95).map .inl)
  | .exit i97 => if i97 = 1 then oAr .add (s61.1.getD 0 .any) (.s (.int .i64 1)) fun x100 =>
      (trim true h56.length [x100] h95).map .inl else (trim true h56.length [.any] h95).map fun p => .inr (Ex.exit i97, p.1, p.2)
  | .ret => (trim true h56.length [.any] h95).map fun p => .inr (Ex.ret, p.1, p.2)
  | .panic v98 => some (.inr (Ex.panic v98, [.any], h95)))

def law08_TreeRuns_l2 (x60 : A) (a0 : A) (x12 : A) (x13 : A) (h56 : Heap) : List A × Heap → Option ((List A × Heap) ⊕ (Ex × List A × Heap)) := fun s61 =>
      oCmp .lss (s61.1.getD 0 .any) x60 fun x62 =>
      oCond x62 (oIdxA 4 a0 (s61.1.getD 0 .any) fun x63 =>
      oLoad (some 4) x63 s61.2 fun x64 =>
      oNew none (some 4) (.agg [.s (.int .i64 0), .s (.int .u64 0), .s (.int .i64 0), .s (.int .i64 0)]) s61.2 fun x65 h66 =>
      oStore (some 4) x65 x64 h66 fun h67 =>
      oFieldA 1 x65 fun x68 =>
      oLoad none x68 h67 fun x69 =>
      oLend tree_Tree_Get [x12, x69] h67 (fun v72 h73 => some (.inr (Ex.panic v72, [.any], h73))) fun w103 h104 => oFrz w103 h104 fun x70 h71 =>
      oExtract 0 x70 fun x74 =>
      oExtract 1 x70 fun x75 =>
      oNew none (some 2) (.agg [.s (.int .i64 0), .s (.int .i64 0)]) h71 fun x76 h77 =>
      oStore (some 2) x76 x74 h77 fun h78 =>
      oFieldA 1 x65 fun x79 =>
      oLoad none x79 h78 fun x80 =>
      oLend ref08_Get [x13, x80] h78 (fun v83 h84 => some (.inr (Ex.panic v83, [.any], h84))) fun w101 h102 => oFrz w101 h102 fun x81 h82 =>
      oExtract 0 x81 fun x85 =>
      oExtract 1 x81 fun x86 =>
      oNew none (some 2) (.agg [.s (.int .i64 0), .s (.int .i64 0)]) h82 fun x87 h88 =>
      oStore (some 2) x87 x85 h88 fun h89 =>
      oJoin (oLoad (some 2) x76 h89 fun x90 =>
      oLoad (some 2) x87 h89 fun x91 =>
      oEqAgg [true, true] true x90 x91 fun x92 =>
      oGuard x92 false (fun _ => oEqBool true x75 x86 fun x93 =>
      (trim true h89.length [x93] h89).map fun p => (Ex.normal, p.1, p.2))
      (fun _ => (trim true h89.length [(.s (.bool true))] h89).map fun p => (Ex.normal, p.1, p.2))) (law08_TreeRuns_k1 h56 s61))
      ((trim true h56.length [.any] s61.2).map fun p => .inr (Ex.exit 0, p.1, p.2))

def law08_TreeRuns_k3 (x12 : A) (a1 : A) (objs : Heap) (x13 : A) : Ex → List A → Heap → Option (Out × Heap) := fun e105 vs106 h107 =>
      (match e105 with
  | .normal => none
  | .exit i108 => if i108 = 0 then oLend tree_Tree_Get [x12, a1] h107 (fun v112 h113 => finish objs.length (.pan v112) h113) fun w131 h132 => oFrz w131 h132 fun x110 h111 =>
      oExtract 0 x110 fun x114 =>
      oExtract 1 x110 fun x115 =>
      oNew none (some 2) (.agg [.s (.int .i64 0), .s (.int .i64 0)]) h111 fun x116 h117 =>
      oStore (some 2) x116 x114 h117 fun h118 =>
      oLend ref08_Get [x13, a1] h118 (fun v121 h122 => finish objs.length (.pan v121) h122) fun w129 h130 => oFrz w129 h130 fun x119 h120 =>
      oExtract 0 x119 fun x123 =>
      oExtract 1 x119 fun x124 =>
      oNew none (some 2) (.agg [.s (.int .i64 0), .s (.int .i64 0)]) h120 fun x125 h126 =>
      oStore (some 2) x125 x123 h126 fun h127 =>
      oEqBool false x115 x124 fun x128 =>
      finish objs.length (.ok x128) h127 else none
  | .ret => finish objs.length (.ok (vs106.getD 0 .any)) h107
  | .panic v109 => finish objs.length (.pan v109) h107)

def law08_TreeRuns_k4 (objs : Heap) (a0 : A) (x12 : A) (x13 : A) (a1 : A) : Ex → List A → Heap → Option (Out × Heap) := fun e57 vs55 h56 =>
      (match e57 with
  | .normal => oCond (vs55.getD 0 .any) (finish objs.length (.ok (.s (.bool false))) h56)
      (oLen a0 fun x60 =>
      oLoop (law08_TreeRuns_l2 x60 a0 x12 x13 h56) ([(.s (.int .i64 0))], h56) (law08_TreeRuns_k3 x12 a1 objs x13))
  | .exit i58 => none
  | .ret => finish objs.length (.ok (.s (.bool false))) h56
  | .panic v59 => finish objs.length (.pan v59) h56)

/-- bailey/baileylaw08.TreeRuns -/
def law08_TreeRuns : CallFn := fun args objs =>
match args with
| [a0, a1, a2] =>
oLend law08_treeAlive [] objs (fun v3 h4 => finish objs.length (.pan v3) h4) fun w135 h136 => oFrz w135 h136 fun x1 h2 =>
      oNot x1 fun x5 =>
      oCond x5 (finish objs.length (.ok (.s (.bool false))) h2)
      (oLen a0 fun x6 =>
      oCmp .gtr x6 (.s (.int .i64 300)) fun x7 =>
      oCond x7 (finish objs.length (.ok (.s (.bool true))) h2)
      (oLend law08_grown [a0] h2 (fun v10 h11 => finish objs.length (.pan v10) h11) fun w133 h134 => oFrz w133 h134 fun x8 h9 =>
      oExtract 0 x8 fun x12 =>
      oExtract 1 x8 fun x13 =>
      oJoin (oEqNil false x12 (.s (.pointer none)) fun x14 =>
      oGuard x14 false (fun _ => oLend tree_Tree_Len [x12] h9 (fun v17 h18 => some (Ex.panic v17, [], h18)) fun w53 h54 => oFrz w53 h54 fun x15 h16 =>
      oLen x13 fun x19 =>
      oCmp .neq x15 x19 fun x20 =>
      oGuard x20 false (fun _ => oLend tree_Tree_Range [x12, a1, a2] h16 (fun v23 h24 => some (Ex.panic v23, [], h24)) fun w51 h52 => oFrz w51 h52 fun x21 h22 =>
      oLend ref08_Range [x13, a1, a2] h22 (fun v27 h28 => some (Ex.panic v27, [], h28)) fun w49 h50 => oFrz w49 h50 fun x25 h26 =>
      oLend ref08_Same [x21, x25] h26 (fun v31 h32 => some (Ex.panic v31, [], h32)) fun w47 h48 => oFrz w47 h48 fun x29 h30 =>
      oNot x29 fun x33 =>
      oGuard x33 false (fun _ => oLend tree_Tree_Range [x12, (.s (.int .u64 0)), (.s (.int .u64 18446744073709551615))] h30 (fun v36 h37 => some (Ex.panic v36, [], h37)) fun w45 h46 => oFrz w45 h46 fun x34 h35 =>
      oLend ref08_Same [x34, x13] h35 (fun v40 h41 => some (Ex.panic v40, [], h41)) fun w43 h44 => oFrz w43 h44 fun x38 h39 =>
      oNot x38 fun x42 =>
      (trim true h9.length [x42] h39).map fun p => (Ex.normal, p.1, p.2))
      (fun _ => (trim true h9.length [(.s (.bool true))] h30).map fun p => (Ex.normal, p.1, p.2)))
      (fun _ => (trim true h9.length [(.s (.bool true))] h16).map fun p => (Ex.normal, p.1, p.2)))
      (fun _ => (trim true h9.length [(.s (.bool true))] h9).map fun p => (Ex.normal, p.1, p.2))) (law08_TreeRuns_k4 objs a0 x12 x13 a1)))
| _ => none

def law08_TreeStays_k1 (h34 : Heap) : Ex → List A → Heap → Option (Ex × List A × Heap) := fun e77 vs75 h76 =>
      (match e77 with
  | .normal => oCond (vs75.getD 0 .any) ((trim true h34.length [(.s (.bool false))] h76).map fun p => (Ex.ret, p.1, p.2))
      ((trim true h34.length [.any] h76).map fun p => (Ex.normal, p.1, p.2))
  | .exit i78 => (trim true h34.length [.any] h76).map fun p => (Ex.exit i78, p.1, p.2)
  | .ret => (trim true h34.length [.any] h76).map fun p => (Ex.ret, p.1, p.2)
  | .panic v79 => some (Ex.panic v79, [], h76))

def law08_TreeStays_k2 (h34 : Heap) : Ex → List A → Heap → Option (Ex × List A × Heap) := fun e116 vs114 h115 =>
      (match e116 with
  | .normal => oCond (vs114.getD 0 .any) ((trim true h34.length [(.s (.bool false))] h115).map fun p => (Ex.ret, p.1, p.2))
      ((trim true h34.length [.any] h115).map fun p => (Ex.normal, p.1, p.2))
  | .exit i117 => (trim true h34.length [.any] h115).map fun p => (Ex.exit i117, p.1, p.2)
  | .ret => (trim true h34.length [.any] h115).map fun p => (Ex.ret, p.1, p.2)
  | .panic v118 => some (Ex.panic v118, [], h115))

def law08_TreeStays_k3 (h23 : Heap) (s28 : List A × Heap) (vs123 : List A) : Ex → List A → Heap → Option ((List A × Heap) ⊕ (Ex × List A × Heap)) := fun e159 vs157 h158 =>
      (match e159 with
  | .normal => oCond (vs157.getD 0 .any) ((trim true h23.length [(.s (.bool false))] h158).map fun p => .inr (Ex.ret, p.1, p.2))
      (oAr .add (s28.1.getD 0 .any) (.s (.int .i64 1)) fun x162 =>
      (trim true h23.length [x162] h158).map .inl)
  | .exit i160 => if i160 = 1 then oAr .add (s28.1.getD 0 .any) (.s (.int .i64 1)) fun x163 =>
      (trim true h23.length [x163] h158).map .inl else (trim true h23.length [(vs123.getD 0 .any)] h158).map fun p => .inr (Ex.exit i160, p.1, p.2)
  | .ret => (trim true h23.length [(vs123.getD 0 .any)] h158).map fun p => .inr (Ex.ret, p.1, p.2)
  | .panic v161 => some (.inr (Ex.panic v161, [.any], h158)))

def law08_TreeStays_k4 (x19 : A) (x20 : A) (x26 : A) (h23 : Heap) (s28 : List A × Heap) : Ex → List A → Heap → Option ((List A × Heap) ⊕ (Ex × List A × Heap)) := fun e125 vs123 h124 =>
      (match e125 with
  | .normal => oJoin (oLend tree_Tree_Len [x19] h124 (fun v130 h131 => some (Ex.panic v130, [], h131)) fun w155 h156 => oFrz w155 h156 fun x128 h129 =>
      oLen x20 fun x132 =>
      oCmp .neq x128 x132 fun x133 =>
      oGuard x133 false (fun _ => oLend tree_Tree_Nodes [x19] h129 (fun v136 h137 => some (Ex.panic v136, [], h137)) fun w153 h154 => oFrz w153 h154 fun x134 h135 =>
      oLen x134 fun x138 =>
      oCmp .neq x138 x26 fun x139 =>
      oGuard x139 false (fun _ => oLend tree_Tree_Range [x19, (.s (.int .u64 0)), (.s (.int .u64 18446744073709551615))] h135 (fun v142 h143 => some (Ex.panic v142, [], h143)) fun w151 h152 => oFrz w151 h152 fun x140 h141 =>
      oLend ref08_Same [x140, x20] h141 (fun v146 h147 => some (Ex.panic v146, [], h147)) fun w149 h150 => oFrz w149 h150 fun x144 h145 =>
      oNot x144 fun x148 =>
      (trim true h124.length [x148] h145).map fun p => (Ex.normal, p.1, p.2))
      (fun _ => (trim true h124.length [(.s (.bool true))] h135).map fun p => (Ex.normal, p.1, p.2)))
      (fun _ => (trim true h124.length [(.s (.bool true))] h129).map fun p => (Ex.normal, p.1, p.2))) (law08_TreeStays_k3 h23 s28 vs123)
  | .exit i126 => if i126 = 1 then oAr .add (s28.1.getD 0 .any) (.s (.int .i64 1)) fun x164 =>
      (trim true h23.length [x164] h124).map .inl else (trim true h23.length [(vs123.getD 0 .any)] h124).map fun p => .inr (Ex.exit i126, p.1, p.2)
  | .ret => (trim true h23.length [(vs123.getD 0 .any)] h124).map fun p => .inr (Ex.ret, p.1, p.2)
  | .panic v127 => some (.inr (Ex.panic v127, [.any], h124)))

def law08_TreeStays_l5 (x27 : A) (a1 : A) (x19 : A) (x20 : A) (x26 : A) (h23 : Heap) : List A × Heap → Option ((List A × Heap) ⊕ (Ex × List A × Heap)) := fun s28 =>
      oCmp .lss (s28.1.getD 0 .any) x27 fun x29 =>
      oCond x29 (oIdxA 4 a1 (s28.1.getD 0 .any) fun x30 =>
      oLoad (some 4) x30 s28.2 fun x31 =>
      oNew none (some 4) (.agg [.s (.int .i64 0), .s (.int .u64 0), .s (.int .i64 0), .s (.int .i64 0)]) s28.2 fun x32 h33 =>
      oStore (some 4) x32 x31 h33 fun h34 =>
      oJoin (oFieldA 0 x32 fun x35 =>
      oLoad none x35 h34 fun x36 =>
      oCmp .eql x36 (.s (.int .i64 0)) fun x37 =>
      oCond x37 (oFieldA 1 x32 fun x38 =>
      oLoad none x38 h34 fun x39 =>
      oFieldA 2 x32 fun x40 =>
      oLoad (some 2) x40 h34 fun x41 =>
      oLend tree_Tree_Put [x19, x39, x41] h34 (fun v44 h45 => some (Ex.panic v44, [], h45)) fun w82 h83 => oFrz w82 h83 fun x42 h43 =>
      oFieldA 1 x32 fun x46 =>
      oLoad none x46 h43 fun x47 =>
      oLend tree_Tree_Get [x42, x47] h43 (fun v50 h51 => some (Ex.panic v50, [], h51)) fun w80 h81 => oFrz w80 h81 fun x48 h49 =>
      oExtract 0 x48 fun x52 =>
      oExtract 1 x48 fun x53 =>
      oNew none (some 2) (.agg [.s (.int .i64 0), .s (.int .i64 0)]) h49 fun x54 h55 =>
      oStore (some 2) x54 x52 h55 fun h56 =>
      oJoin (oNot x53 fun x57 =>
      oGuard x57 false (fun _ => oLoad (some 2) x54 h56 fun x58 =>
      oFieldA 2 x32 fun x59 =>
      oLoad (some 2) x59 h56 fun x60 =>
      oEqAgg [true, true] true x58 x60 fun x61 =>
      oGuard x61 false (fun _ => oLend tree_Tree_Len [x42] h56 (fun v64 h65 => some (Ex.panic v64, [], h65)) fun w73 h74 => oFrz w73 h74 fun x62 h63 =>
      oLend tree_Tree_Len [x19] h63 (fun v68 h69 => some (Ex.panic v68, [], h69)) fun w71 h72 => oFrz w71 h72 fun x66 h67 =>
      oCmp .lss x62 x66 fun x70 =>
      (trim true h56.length [x70] h67).map fun p => (Ex.normal, p.1, p.2))
      (fun _ => (trim true h56.length [(.s (.bool true))] h56).map fun p => (Ex.normal, p.1, p.2)))
      (fun _ => (trim true h56.length [(.s (.bool true))] h56).map fun p => (Ex.normal, p.1, p.2))) (law08_TreeStays_k1 h34))
      (oFieldA 1 x32 fun x84 =>
      oLoad none x84 h34 fun x85 =>
      oLend tree_Tree_Del [x19, x85] h34 (fun v88 h89 => some (Ex.panic v88, [], h89)) fun w121 h122 => oFrz w121 h122 fun x86 h87 =>
      oFieldA 1 x32 fun x90 =>
      oLoad none x90 h87 fun x91 =>
      oLend tree_Tree_Get [x86, x91] h87 (fun v94 h95 => some (Ex.panic v94, [], h95)) fun w119 h120 => oFrz w119 h120 fun x92 h93 =>
      oExtract 0 x92 fun x96 =>
      oExtract 1 x92 fun x97 =>
      oNew none (some 2) (.agg [.s (.int .i64 0), .s (.int .i64 0)]) h93 fun x98 h99 =>
      oStore (some 2) x98 x96 h99 fun h100 =>
      oJoin (oGuard x97 false (fun _ => oLend tree_Tree_Len [x86] h100 (fun v103 h104 => some (Ex.panic v103, [], h104)) fun w112 h113 => oFrz w112 h113 fun x101 h102 =>
      oLend tree_Tree_Len [x19] h102 (fun v107 h108 => some (Ex.panic v107, [], h108)) fun w110 h111 => oFrz w110 h111 fun x105 h106 =>
      oCmp .gtr x101 x105 fun x109 =>
      (trim true h100.length [x109] h106).map fun p => (Ex.normal, p.1, p.2))
      (fun _ => (trim true h100.length [(.s (.bool true))] h100).map fun p => (Ex.normal, p.1, p.2))) (law08_TreeStays_k2 h34))) (law08_TreeStays_k4 x19 x20 x26 h23 s28))
      ((trim true h23.length [.any] s28.2).map fun p => .inr (Ex.exit 0, p.1, p.2))

def law08_TreeStays_k6 (objs : Heap) : Ex → List A → Heap → Option (Out × Heap) := fun e165 vs166 h167 =>
      (match e165 with
  | .normal => none
  | .exit i168 => if i168 = 0 then finish objs.length (.ok (.s (.bool true))) h167 else none
  | .ret => finish objs.length (.ok (vs166.getD 0 .any)) h167
  | .panic v169 => finish objs.length (.pan v169) h167)

def law08_TreeStays_k7 (objs : Heap) (a0 : A) (a1 : A) : Ex → List A → Heap → Option (Out × Heap) := fun e12 vs10 h11 =>
      (match e12 with
  | .normal => oCond (vs10.getD 0 .any) (finish objs.length (.ok (.s (.bool true))) h11)
      (oLend law08_grown [a0] h11 (fun v17 h18 => finish objs.length (.pan v17) h18) fun w172 h173 => oFrz w172 h173 fun x15 h16 =>
      oExtract 0 x15 fun x19 =>
      oExtract 1 x15 fun x20 =>
      oEqNil false x19 (.s (.pointer none)) fun x21 =>
      oCond x21 (finish objs.length (.ok (.s (.bool false))) h16)
      (oLend tree_Tree_Nodes [x19] h16 (fun v24 h25 => finish objs.length (.pan v24) h25) fun w170 h171 => oFrz w170 h171 fun x22 h23 =>
      oLen x22 fun x26 =>
      oLen a1 fun x27 =>
      oLoop (law08_TreeStays_l5 x27 a1 x19 x20 x26 h23) ([(.s (.int .i64 0))], h23) (law08_TreeStays_k6 objs)))
  | .exit i13 => none
  | .ret => finish objs.length (.ok (.s (.bool false))) h11
  | .panic v14 => finish objs.length (.pan v14) h11)

/-- bailey/baileylaw08.TreeStays -/
def law08_TreeStays : CallFn := fun args objs =>
match args with
| [a0, a1] =>
oLend law08_treeAlive [] objs (fun v3 h4 => finish objs.length (.pan v3) h4) fun w174 h175 => oFrz w174 h175 fun x1 h2 =>
      oNot x1 fun x5 =>
      oCond x5 (finish objs.length (.ok (.s (.bool false))) h2)
      (oJoin (oLen a0 fun x6 =>
      oCmp .gtr x6 (.s (.int .i64 200)) fun x7 =>
      oGuard x7 false (fun _ => oLen a1 fun x8 =>
      oCmp .gtr x8 (.s (.int .i64 100)) fun x9 =>
      (trim true h2.length [x9] h2).map fun p => (Ex.normal, p.1, p.2))
      (fun _ => (trim true h2.length [(.s (.bool true))] h2).map fun p => (Ex.normal, p.1, p.2))) (law08_TreeStays_k7 objs a0 a1))
| _ => none

def law08_TreeTurns_l1 (x74 : A) (h75 : Heap) : List A × Heap → Option ((List A × Heap) ⊕ (Ex × List A × Heap)) := fun s78 =>
      oLen x74 fun x79 =>
      oCmp .lss (s78.1.getD 0 .any) x79 fun x80 =>
      oCond x80 (oAr .sub (s78.1.getD 0 .any) (.s (.int .i64 1)) fun x81 =>
      oIdxA 3 x74 x81 fun x82 =>
      oFieldA 0 x82 fun x83 =>
      oLoadD s78.2.length [] none x83 s78.2 fun x84 h85 =>
      oIdxA 3 x74 (s78.1.getD 0 .any) fun x86 =>
      oFieldA 0 x86 fun x87 =>
      oLoadD s78.2.length [] none x87 h85 fun x88 h89 =>
      oCmp .geq x84 x88 fun x90 =>
      oCond x90 ((trim true h75.length [(.s (.bool false))] h89).map fun p => .inr (Ex.ret, p.1, p.2))
      (oAr .add (s78.1.getD 0 .any) (.s (.int .i64 1)) fun x91 =>
      (trim true h75.length [x91] h89).map .inl))
      ((trim true h75.length [.any] s78.2).map fun p => .inr (Ex.exit 0, p.1, p.2))

def law08_TreeTurns_k2 (x1 : A) (x26 : A) (objs : Heap) : Ex → List A → Heap → Option (Out × Heap) := fun e92 vs93 h94 =>
      (match e92 with
  | .normal => none
  | .exit i95 => if i95 = 0 then oFieldA 1 x1 fun x97 =>
      oLoadD h94.length [] none x97 h94 fun x98 h99 =>
      oFieldA 2 x1 fun x100 =>
      oLoadD h94.length [] (some 2) x100 h99 fun x101 h102 =>
      oCallF h94.length [] tree_Tree_Put [x26, x98, x101] h102 fun w131 h132 => oFrz w131 h132 fun x103 h104 =>
      oFieldA 1 x1 fun x105 =>
      oLoadD h94.length [] none x105 h104 fun x106 h107 =>
      oCallF h94.length [] tree_Tree_Del [x103, x106] h107 fun w129 h130 => oFrz w129 h130 fun x108 h109 =>
      oCallF h94.length [] tree_Tree_Range [x108, (.s (.int .u64 0)), (.s (.int .u64 18446744073709551615))] h109 fun w127 h128 => oFrz w127 h128 fun x110 h111 =>
      oFieldA 1 x1 fun x112 =>
      oLoadD h94.length [] none x112 h111 fun x113 h114 =>
      oCallF h94.length [] tree_Tree_Del [x26, x113] h114 fun w125 h126 => oFrz w125 h126 fun x115 h116 =>
      oCallF h94.length [] tree_Tree_Range [x115, (.s (.int .u64 0)), (.s (.int .u64 18446744073709551615))] h116 fun w123 h124 => oFrz w123 h124 fun x117 h118 =>
      oCallF h94.length [] ref08_Same [x110, x117] h118 fun w121 h122 => oFrz w121 h122 fun x119 h120 =>
      finish objs.length (.ok x119) h120 else none
  | .ret => finish objs.length (.ok (vs93.getD 0 .any)) h94
  | .panic v96 => finish objs.length (.pan v96) h94)

def law08_TreeTurns_k3 (objs : Heap) (a0 : A) (x1 : A) (x3 : A) : Ex → List A → Heap → Option (Out × Heap) := fun e19 vs17 h18 =>
      (match e19 with
  | .normal => oCond (vs17.getD 0 .any) (finish objs.length (.ok (.s (.bool true))) h18)
      (oLend law08_grown [a0] h18 (fun v24 h25 => finish objs.length (.pan v24) h25) fun w149 h150 => oFrz w149 h150 fun x22 h23 =>
      oExtract 0 x22 fun x26 =>
      oExtract 1 x22 fun x27 =>
      oEqNil false x26 (.s (.pointer none)) fun x28 =>
      oCond x28 (finish objs.length (.ok (.s (.bool false))) h23)
      (oFieldA 1 x1 fun x29 =>
      oLoadD h23.length [] none x29 h23 fun x30 h31 =>
      oFieldA 2 x1 fun x32 =>
      oLoadD h23.length [] (some 2) x32 h31 fun x33 h34 =>
      oCallF h23.length [] tree_Tree_Put [x26, x30, x33] h34 fun w147 h148 => oFrz w147 h148 fun x35 h36 =>
      oFieldA 1 x3 fun x37 =>
      oLoadD h23.length [] none x37 h36 fun x38 h39 =>
      oFieldA 2 x3 fun x40 =>
      oLoadD h23.length [] (some 2) x40 h39 fun x41 h42 =>
      oCallF h23.length [] tree_Tree_Put [x35, x38, x41] h42 fun w145 h146 => oFrz w145 h146 fun x43 h44 =>
      oFieldA 1 x3 fun x45 =>
      oLoadD h23.length [] none x45 h44 fun x46 h47 =>
      oFieldA 2 x3 fun x48 =>
      oLoadD h23.length [] (some 2) x48 h47 fun x49 h50 =>
      oCallF h23.length [] tree_Tree_Put [x26, x46, x49] h50 fun w143 h144 => oFrz w143 h144 fun x51 h52 =>
      oFieldA 1 x1 fun x53 =>
      oLoadD h23.length [] none x53 h52 fun x54 h55 =>
      oFieldA 2 x1 fun x56 =>
      oLoadD h23.length [] (some 2) x56 h55 fun x57 h58 =>
      oCallF h23.length [] tree_Tree_Put [x51, x54, x57] h58 fun w141 h142 => oFrz w141 h142 fun x59 h60 =>
      oLend tree_Tree_Range [x43, (.s (.int .u64 0)), (.s (.int .u64 18446744073709551615))] h60 (fun v63 h64 => finish objs.length (.pan v63) h64) fun w139 h140 => oFrz w139 h140 fun x61 h62 =>
      oLend tree_Tree_Range [x59, (.s (.int .u64 0)), (.s (.int .u64 18446744073709551615))] h62 (fun v67 h68 => finish objs.length (.pan v67) h68) fun w137 h138 => oFrz w137 h138 fun x65 h66 =>
      oLend ref08_Same [x61, x65] h66 (fun v71 h72 => finish objs.length (.pan v71) h72) fun w135 h136 => oFrz w135 h136 fun x69 h70 =>
      oNot x69 fun x73 =>
      oCond x73 (finish objs.length (.ok (.s (.bool false))) h70)
      (oLend tree_Tree_Range [x43, (.s (.int .u64 0)), (.s (.int .u64 18446744073709551615))] h70 (fun v76 h77 => finish objs.length (.pan v76) h77) fun w133 h134 => oFrz w133 h134 fun x74 h75 =>
      oLoop (law08_TreeTurns_l1 x74 h75) ([(.s (.int .i64 1))], h75) (law08_TreeTurns_k2 x1 x26 objs))))
  | .exit i20 => none
  | .ret => finish objs.length (.ok (.s (.bool false))) h18
  | .panic v21 => finish objs.length (.pan v21) h18)

/-- bailey/baileylaw08.TreeTurns -/
def law08_TreeTurns : CallFn := fun args objs =>
match args with
| [a0, a1, a2] =>
oNew none (some 4) a1 objs fun x1 h2 =>
      oNew none (some 4) a2 h2 fun x3 h4 =>
      oLend law08_treeAlive [] h4 (fun v7 h8 => finish objs.length (.pan v7) h8) fun w151 h152 => oFrz w151 h152 fun x5 h6 =>
      oNot x5 fun x9 =>
      oCond x9 (finish objs.length (.ok (.s (.bool false))) h6)
      (oJoin (oLen a0 fun x10 =>
      oCmp .gtr x10 (.s (.int .i64 200)) fun x11 =>
      oGuard x11 false (fun _ => oFieldA 1 x1 fun x12 =>
      oLoad none x12 h6 fun x13 =>
      oFieldA 1 x3 fun x14 =>
      oLoad none x14 h6 fun x15 =>
      oCmp .eql x13 x15 fun x16 =>
      (trim true h6.length [x16] h6).map fun p => (Ex.normal, p.1, p.2))
      (fun _ => (trim true h6.length [(.s (.bool true))] h6).map fun p => (Ex.normal, p.1, p.2))) (law08_TreeTurns_k3 objs a0 x1 x3))
| _ => none

end Go.Ab.F
