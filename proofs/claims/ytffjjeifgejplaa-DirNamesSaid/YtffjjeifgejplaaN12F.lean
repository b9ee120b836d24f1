/-
  THE PROGRAM'S FUNCTIONS OVER VALUES WITHOUT ADDRESSES. Written by a program (emit.py).
-/
import Derived.Test.YtffjjeifgejplaaAbsPrim
set_option maxRecDepth 100000
set_option linter.unusedVariables false
namespace Go.Ab.F
open Go Go.Ab

/-- bailey/baileylaw12.small -/
def law12_small : CallFn := fun args objs =>
match args with
| [a0, a1] =>
oNew none (some 26) (.agg [.s (.int .u64 0), .s (.int .i64 0), .s (.int .i64 0), .s (.slice none 0 0), .s (.int .i64 0), .s (.slice none 0 0), .s (.int .i64 0), .s (.int .i64 0), .s (.slice none 0 0), .s (.slice none 0 0), .s (.int .u64 0), .s (.int .u64 0), .s (.int .u64 0), .s (.int .u64 0), .s (.int .i64 0), .s (.int .i64 0), .s (.bool false), .s (.int .u64 0), .s (.int .u64 0), .s (.int .u64 0), .s (.int .u64 0), .s (.int .u64 0), .s (.int .u64 0), .s (.int .u64 0), .s (.int .u64 0), .s (.int .u64 0)]) objs fun x1 h2 =>
      oBuildP [.s (.int .i64 0), .s (.slice none 0 0)] [(0, none, (.s (.int .i64 2)))] fun x3 =>
      oBuildP [.s (.int .u64 0), .s (.int .i64 0), .s (.int .i64 0), .s (.slice none 0 0), .s (.int .i64 0), .s (.slice none 0 0), .s (.int .i64 0), .s (.int .i64 0), .s (.slice none 0 0), .s (.slice none 0 0), .s (.int .u64 0), .s (.int .u64 0), .s (.int .u64 0), .s (.int .u64 0), .s (.int .i64 0), .s (.int .i64 0), .s (.bool false), .s (.int .u64 0), .s (.int .u64 0), .s (.int .u64 0), .s (.int .u64 0), .s (.int .u64 0), .s (.int .u64 0), .s (.int .u64 0), .s (.int .u64 0), .s (.int .u64 0)] [(0, none, a0), (1, none, (.s (.int .i64 1))), (2, (some 2), x3), (6, none, a1)] fun x4 =>
      oStore (some 26) x1 x4 h2 fun h5 =>
      oLoad (some 26) x1 h5 fun r6 =>
      finish objs.length (.ok r6) h5
| _ => none

/-- bailey/dir.Fresh -/
def dir_Fresh : CallFn := fun args objs =>
match args with
| [a0] =>
oNew none (some 26) a0 objs fun x1 h2 =>
      oJoin (oFieldA 7 x1 fun x3 =>
      oLoad none x3 h2 fun x4 =>
      oCmp .geq x4 (.s (.int .i64 63)) fun x5 =>
      oGuard x5 false (fun _ => oFieldA 0 x1 fun x6 =>
      oLoad none x6 h2 fun x7 =>
      oCmp .geq x7 (.s (.int .u64 4398046511104)) fun x8 =>
      (trim true h2.length [x8] h2).map fun p => (Ex.normal, p.1, p.2))
      (fun _ => (trim true h2.length [(.s (.bool true))] h2).map fun p => (Ex.normal, p.1, p.2))) fun e11 vs9 h10 =>
      (match e11 with
  | .normal => oCond (vs9.getD 0 .any) (finish objs.length (.ok (.tup [(.s (.int .u64 0)), (.s (.int .i64 125))])) h10)
      (oFieldA 0 x1 fun x14 =>
      oLoad none x14 h10 fun x15 =>
      oAr .mul x15 (.s (.int .u64 64)) fun x16 =>
      oFieldA 7 x1 fun x17 =>
      oLoad none x17 h10 fun x18 =>
      oConv .u64 x18 fun x19 =>
      oAr .add x16 x19 fun x20 =>
      oAr .add x20 (.s (.int .u64 1)) fun x21 =>
      finish objs.length (.ok (.tup [x21, (.s (.int .i64 0))])) h10)
  | .exit i12 => none
  | .ret => finish objs.length (.ok (.tup [(.s (.int .u64 0)), (.s (.int .i64 0))])) h10
  | .panic v13 => finish objs.length (.pan v13) h10)
| _ => none

/-- slices.BinarySearchFunc[[]bailey/api.Link,bailey/api.Link,uint64] -/
def slices_BinarySearchFunc_Sapi_Link_api_Link_uint64 (En : String → CallFn) : CallFn := fun args objs =>
match args with
| [a0, a1, a2] =>
oLen a0 fun x1 =>
      oLoop (fun s2 =>
      oCmp .lss (s2.1.getD 0 .any) (s2.1.getD 1 .any) fun x3 =>
      oCond x3 (oAr .add (s2.1.getD 0 .any) (s2.1.getD 1 .any) fun x4 =>
      oConv .u64 x4 fun x5 =>
      oShift .shr x5 (.s (.int .u64 1)) fun x6 =>
      oConv .i64 x6 fun x7 =>
      oIdxA 2 a0 x7 fun x8 =>
      oLoad (some 2) x8 s2.2 fun x9 =>
      oLendV En a2 [x9, a1] s2.2 (fun v12 h13 => some (.inr (Ex.panic v12, [.any], h13))) fun w16 h17 => oFrz w16 h17 fun x10 h11 =>
      oCmp .lss x10 (.s (.int .i64 0)) fun x14 =>
      oCond x14 (oAr .add x7 (.s (.int .i64 1)) fun x15 =>
      (trim true objs.length [x15, (s2.1.getD 1 .any)] h11).map .inl)
      ((trim true objs.length [(s2.1.getD 0 .any), x7] h11).map .inl))
      (some (.inr (Ex.exit 0, [(s2.1.getD 0 .any)], s2.2)))) ([(.s (.int .i64 0)), x1], objs) fun e18 vs19 h20 =>
      (match e18 with
  | .normal => none
  | .exit i21 => if i21 = 0 then oCmp .lss (vs19.getD 0 .any) x1 fun x23 =>
      oGuard x23 true (fun _ => oIdxA 2 a0 (vs19.getD 0 .any) fun x24 =>
      oLoad (some 2) x24 h20 fun x25 =>
      oLendV En a2 [x25, a1] h20 (fun v28 h29 => finish objs.length (.pan v28) h29) fun w31 h32 => oFrz w31 h32 fun x26 h27 =>
      oCmp .eql x26 (.s (.int .i64 0)) fun x30 =>
      finish objs.length (.ok (.tup [(vs19.getD 0 .any), x30])) h27)
      (fun _ => finish objs.length (.ok (.tup [(vs19.getD 0 .any), (.s (.bool false))])) h20) else none
  | .ret => finish objs.length (.ok (.tup [(.s (.int .i64 0)), (.s (.bool false))])) h20
  | .panic v22 => finish objs.length (.pan v22) h20)
| _ => none

/-- cmp.isNaN[uint64] -/
def cmp_isNaN_uint64 : CallFn := fun args objs =>
match args with
| [a0] =>
oCmp .neq a0 a0 fun x1 =>
      finish objs.length (.ok x1) objs
| _ => none

/-- cmp.Compare[uint64] -/
def cmp_Compare_uint64 : CallFn := fun args objs =>
match args with
| [a0, a1] =>
oLend cmp_isNaN_uint64 [a0] objs (fun v3 h4 => finish objs.length (.pan v3) h4) fun w13 h14 => oFrz w13 h14 fun x1 h2 =>
      oLend cmp_isNaN_uint64 [a1] h2 (fun v7 h8 => finish objs.length (.pan v7) h8) fun w11 h12 => oFrz w11 h12 fun x5 h6 =>
      oCond x1 (oCond x5 (finish objs.length (.ok (.s (.int .i64 0))) h6)
      (finish objs.length (.ok (.s (.int .i64 (-1)))) h6))
      (oCond x5 (finish objs.length (.ok (.s (.int .i64 1))) h6)
      (oCmp .lss a0 a1 fun x9 =>
      oCond x9 (finish objs.length (.ok (.s (.int .i64 (-1)))) h6)
      (oCmp .gtr a0 a1 fun x10 =>
      oCond x10 (finish objs.length (.ok (.s (.int .i64 1))) h6)
      (finish objs.length (.ok (.s (.int .i64 0))) h6))))
| _ => none

/-- bailey/dir.place$1 -/
def dir_place_c1 : CallFn := fun args objs =>
match args with
| [a0, a1] =>
oNew none (some 2) a0 objs fun x1 h2 =>
      oFieldA 0 x1 fun x3 =>
      oLoad none x3 h2 fun x4 =>
      oLend cmp_Compare_uint64 [x4, a1] h2 (fun v7 h8 => finish objs.length (.pan v7) h8) fun w9 h10 => oFrz w9 h10 fun x5 h6 =>
      finish objs.length (.ok x5) h6
| _ => none

def En_dir_place : String → CallFn := fun n => if n = "bailey/dir.place$1" then dir_place_c1 else (fun _ _ => none)

/-- bailey/dir.place -/
def dir_place : CallFn := fun args objs =>
match args with
| [a0, a1] =>
oNew none (some 26) a0 objs fun x1 h2 =>
      oFieldA 8 x1 fun x3 =>
      oLoad none x3 h2 fun x4 =>
      oLend (slices_BinarySearchFunc_Sapi_Link_api_Link_uint64 (En_dir_place)) [x4, a1, (.fn "bailey/dir.place$1" [])] h2 (fun v7 h8 => finish objs.length (.pan v7) h8) fun w11 h12 => oFrz w11 h12 fun x5 h6 =>
      oExtract 0 x5 fun x9 =>
      oExtract 1 x5 fun x10 =>
      finish objs.length (.ok (.tup [x9, x10])) h6
| _ => none

/-- bailey/dir.Used -/
def dir_Used : CallFn := fun args objs =>
match args with
| [a0] =>
oNew none (some 26) a0 objs fun x1 h2 =>
      oFieldA 8 x1 fun x3 =>
      oLoad none x3 h2 fun x4 =>
      oLen x4 fun x5 =>
      oLoop (fun s6 =>
      oCmp .lss (s6.1.getD 1 .any) x5 fun x7 =>
      oCond x7 (oIdxA 2 x4 (s6.1.getD 1 .any) fun x8 =>
      oLoad (some 2) x8 s6.2 fun x9 =>
      oNew none (some 2) (.agg [.s (.int .u64 0), .s (.int .i64 0)]) s6.2 fun x10 h11 =>
      oStore (some 2) x10 x9 h11 fun h12 =>
      oFieldA 1 x10 fun x13 =>
      oLoad none x13 h12 fun x14 =>
      oAr .add (s6.1.getD 0 .any) x14 fun x15 =>
      oAr .add (s6.1.getD 1 .any) (.s (.int .i64 1)) fun x16 =>
      (trim true h2.length [x15, x16] h12).map .inl)
      (some (.inr (Ex.exit 0, [(s6.1.getD 0 .any)], s6.2)))) ([(.s (.int .i64 1)), (.s (.int .i64 0))], h2) fun e17 vs18 h19 =>
      (match e17 with
  | .normal => none
  | .exit i20 => if i20 = 0 then finish objs.length (.ok (vs18.getD 0 .any)) h19 else none
  | .ret => finish objs.length (.ok (.s (.int .i64 0))) h19
  | .panic v21 => finish objs.length (.pan v21) h19)
| _ => none

/-- bailey/thing.Copy -/
def thing_Copy : CallFn := fun args objs =>
match args with
| [a0] =>
oNew none (some 26) a0 objs fun x1 h2 =>
      oNew none (some 26) (.agg [.s (.int .u64 0), .s (.int .i64 0), .s (.int .i64 0), .s (.slice none 0 0), .s (.int .i64 0), .s (.slice none 0 0), .s (.int .i64 0), .s (.int .i64 0), .s (.slice none 0 0), .s (.slice none 0 0), .s (.int .u64 0), .s (.int .u64 0), .s (.int .u64 0), .s (.int .u64 0), .s (.int .i64 0), .s (.int .i64 0), .s (.bool false), .s (.int .u64 0), .s (.int .u64 0), .s (.int .u64 0), .s (.int .u64 0), .s (.int .u64 0), .s (.int .u64 0), .s (.int .u64 0), .s (.int .u64 0), .s (.int .u64 0)]) h2 fun x3 h4 =>
      oFieldA 2 x1 fun x5 =>
      oFieldA 1 x5 fun x6 =>
      oLoadD h4.length none x6 h4 fun x7 h8 =>
      oCallF (primClone 2 16) [x7] h8 fun x9 h10 =>
      oFieldA 4 x1 fun x11 =>
      oFieldA 1 x11 fun x12 =>
      oLoadD h4.length none x12 h10 fun x13 h14 =>
      oCallF (primClone 2 16) [x13] h14 fun x15 h16 =>
      oFieldA 2 x1 fun x17 =>
      oFieldA 1 x17 fun x18 =>
      oStore none x18 x9 h16 fun h19 =>
      oFieldA 4 x1 fun x20 =>
      oFieldA 1 x20 fun x21 =>
      oStore none x21 x15 h19 fun h22 =>
      oFieldA 8 x1 fun x23 =>
      oLoadD h22.length none x23 h22 fun x24 h25 =>
      oCallF (primClone 2 16) [x24] h25 fun x26 h27 =>
      oFieldA 9 x1 fun x28 =>
      oLoadD h22.length none x28 h27 fun x29 h30 =>
      oCallF (primClone 1 1) [x29] h30 fun x31 h32 =>
      oFieldA 8 x1 fun x33 =>
      oStore none x33 x26 h32 fun h34 =>
      oFieldA 9 x1 fun x35 =>
      oStore none x35 x31 h34 fun h36 =>
      oLoad (some 26) x1 h36 fun x37 =>
      oStore (some 26) x3 x37 h36 fun h38 =>
      oLoad (some 26) x3 h38 fun r39 =>
      finish objs.length (.ok r39) h38
| _ => none

/-- bailey/dir.Add -/
def dir_Add : CallFn := fun args objs =>
match args with
| [a0, a1, a2] =>
oNew none (some 26) a0 objs fun x1 h2 =>
      oNew none (some 26) (.agg [.s (.int .u64 0), .s (.int .i64 0), .s (.int .i64 0), .s (.slice none 0 0), .s (.int .i64 0), .s (.slice none 0 0), .s (.int .i64 0), .s (.int .i64 0), .s (.slice none 0 0), .s (.slice none 0 0), .s (.int .u64 0), .s (.int .u64 0), .s (.int .u64 0), .s (.int .u64 0), .s (.int .i64 0), .s (.int .i64 0), .s (.bool false), .s (.int .u64 0), .s (.int .u64 0), .s (.int .u64 0), .s (.int .u64 0), .s (.int .u64 0), .s (.int .u64 0), .s (.int .u64 0), .s (.int .u64 0), .s (.int .u64 0)]) h2 fun x3 h4 =>
      oLoad (some 26) x1 h4 fun x5 =>
      oLend dir_place [x5, a1] h4 (fun v8 h9 => finish objs.length (.pan v8) h9) fun w83 h84 => oFrz w83 h84 fun x6 h7 =>
      oExtract 0 x6 fun x10 =>
      oExtract 1 x6 fun x11 =>
      oCond x11 (oLoad (some 26) x1 h7 fun x12 =>
      oStore (some 26) x3 x12 h7 fun h13 =>
      oLoad (some 26) x3 h13 fun r14 =>
      finish objs.length (.ok (.tup [r14, (.s (.int .i64 123))])) h13)
      (oFieldA 8 x1 fun x15 =>
      oLoad none x15 h7 fun x16 =>
      oLen x16 fun x17 =>
      oCmp .geq x17 (.s (.int .i64 16)) fun x18 =>
      oCond x18 (oLoad (some 26) x1 h7 fun x19 =>
      oStore (some 26) x3 x19 h7 fun h20 =>
      oLoad (some 26) x3 h20 fun r21 =>
      finish objs.length (.ok (.tup [r21, (.s (.int .i64 122))])) h20)
      (oJoin (oCmp .lss a2 (.s (.int .i64 1)) fun x22 =>
      oGuard x22 false (fun _ => oFieldA 6 x1 fun x23 =>
      oLoadD h7.length none x23 h7 fun x24 h25 =>
      oLoadD h7.length (some 26) x1 h25 fun x26 h27 =>
      oCallF dir_Used [x26] h27 fun w32 h33 => oFrz w32 h33 fun x28 h29 =>
      oAr .sub x24 x28 fun x30 =>
      oCmp .gtr a2 x30 fun x31 =>
      (trim true h7.length [x31] h29).map fun p => (Ex.normal, p.1, p.2))
      (fun _ => (trim true h7.length [(.s (.bool true))] h7).map fun p => (Ex.normal, p.1, p.2))) fun e36 vs34 h35 =>
      (match e36 with
  | .normal => oCond (vs34.getD 0 .any) (oLoad (some 26) x1 h35 fun x39 =>
      oStore (some 26) x3 x39 h35 fun h40 =>
      oLoad (some 26) x3 h40 fun r41 =>
      finish objs.length (.ok (.tup [r41, (.s (.int .i64 121))])) h40)
      (oLoad (some 26) x1 h35 fun x42 =>
      oLend thing_Copy [x42] h35 (fun v45 h46 => finish objs.length (.pan v45) h46) fun x43 h44 =>
      oStore (some 26) x1 x43 h44 fun h47 =>
      oFieldA 8 x1 fun x48 =>
      oLoad none x48 h47 fun x49 =>
      oBuildP [.s (.int .u64 0), .s (.int .i64 0)] [(0, none, a1), (1, none, a2)] fun x50 =>
      oNewSlice none 2 (asRows (some 2) [x50]) h47 fun x51 h52 =>
      oCall (primInsert 2 16) [x49, x10, x51] h52 (fun v55 h56 => finish objs.length (.pan v55) h56) fun x53 h54 =>
      oFieldA 8 x1 fun x57 =>
      oStore none x57 x53 h54 fun h58 =>
      oLoad (some 26) x1 h58 fun x59 =>
      oStore (some 26) x3 x59 h58 fun h60 =>
      oLoad (some 26) x3 h60 fun r61 =>
      finish objs.length (.ok (.tup [r61, (.s (.int .i64 0))])) h60)
  | .exit i37 => if i37 = 0 then oLoad (some 26) x1 h35 fun x62 =>
      oLend thing_Copy [x62] h35 (fun v65 h66 => finish objs.length (.pan v65) h66) fun x63 h64 =>
      oStore (some 26) x1 x63 h64 fun h67 =>
      oFieldA 8 x1 fun x68 =>
      oLoad none x68 h67 fun x69 =>
      oBuildP [.s (.int .u64 0), .s (.int .i64 0)] [(0, none, a1), (1, none, a2)] fun x70 =>
      oNewSlice none 2 (asRows (some 2) [x70]) h67 fun x71 h72 =>
      oCall (primInsert 2 16) [x69, x10, x71] h72 (fun v75 h76 => finish objs.length (.pan v75) h76) fun x73 h74 =>
      oFieldA 8 x1 fun x77 =>
      oStore none x77 x73 h74 fun h78 =>
      oLoad (some 26) x1 h78 fun x79 =>
      oStore (some 26) x3 x79 h78 fun h80 =>
      oLoad (some 26) x3 h80 fun r81 =>
      finish objs.length (.ok (.tup [r81, (.s (.int .i64 0))])) h80 else none
  | .ret => oLoad (some 26) x3 h35 fun r82 =>
      finish objs.length (.ok (.tup [r82, (.s (.int .i64 0))])) h35
  | .panic v38 => finish objs.length (.pan v38) h35)))
| _ => none

/-- bailey/dir.Born -/
def dir_Born : CallFn := fun args objs =>
match args with
| [a0, a1] =>
oNew none (some 26) a0 objs fun x1 h2 =>
      oNew none (some 26) (.agg [.s (.int .u64 0), .s (.int .i64 0), .s (.int .i64 0), .s (.slice none 0 0), .s (.int .i64 0), .s (.slice none 0 0), .s (.int .i64 0), .s (.int .i64 0), .s (.slice none 0 0), .s (.slice none 0 0), .s (.int .u64 0), .s (.int .u64 0), .s (.int .u64 0), .s (.int .u64 0), .s (.int .i64 0), .s (.int .i64 0), .s (.bool false), .s (.int .u64 0), .s (.int .u64 0), .s (.int .u64 0), .s (.int .u64 0), .s (.int .u64 0), .s (.int .u64 0), .s (.int .u64 0), .s (.int .u64 0), .s (.int .u64 0)]) h2 fun x3 h4 =>
      oLoad (some 26) x1 h4 fun x5 =>
      oLend dir_Fresh [x5] h4 (fun v8 h9 => finish objs.length (.pan v8) h9) fun w40 h41 => oFrz w40 h41 fun x6 h7 =>
      oExtract 0 x6 fun x10 =>
      oExtract 1 x6 fun x11 =>
      oCmp .neq x11 (.s (.int .i64 0)) fun x12 =>
      oCond x12 (oLoad (some 26) x1 h7 fun x13 =>
      oStore (some 26) x3 x13 h7 fun h14 =>
      oLoad (some 26) x3 h14 fun r15 =>
      finish objs.length (.ok (.tup [r15, (.s (.int .u64 0)), x11])) h14)
      (oLoad (some 26) x1 h7 fun x16 =>
      oLend dir_Add [x16, x10, a1] h7 (fun v19 h20 => finish objs.length (.pan v19) h20) fun w38 h39 => oFrz w38 h39 fun x17 h18 =>
      oExtract 0 x17 fun x21 =>
      oExtract 1 x17 fun x22 =>
      oNew none (some 26) (.agg [.s (.int .u64 0), .s (.int .i64 0), .s (.int .i64 0), .s (.slice none 0 0), .s (.int .i64 0), .s (.slice none 0 0), .s (.int .i64 0), .s (.int .i64 0), .s (.slice none 0 0), .s (.slice none 0 0), .s (.int .u64 0), .s (.int .u64 0), .s (.int .u64 0), .s (.int .u64 0), .s (.int .i64 0), .s (.int .i64 0), .s (.bool false), .s (.int .u64 0), .s (.int .u64 0), .s (.int .u64 0), .s (.int .u64 0), .s (.int .u64 0), .s (.int .u64 0), .s (.int .u64 0), .s (.int .u64 0), .s (.int .u64 0)]) h18 fun x23 h24 =>
      oStore (some 26) x23 x21 h24 fun h25 =>
      oCmp .neq x22 (.s (.int .i64 0)) fun x26 =>
      oCond x26 (oLoad (some 26) x1 h25 fun x27 =>
      oStore (some 26) x3 x27 h25 fun h28 =>
      oLoad (some 26) x3 h28 fun r29 =>
      finish objs.length (.ok (.tup [r29, (.s (.int .u64 0)), x22])) h28)
      (oFieldA 7 x23 fun x30 =>
      oLoad none x30 h25 fun x31 =>
      oAr .add x31 (.s (.int .i64 1)) fun x32 =>
      oFieldA 7 x23 fun x33 =>
      oStore none x33 x32 h25 fun h34 =>
      oLoad (some 26) x23 h34 fun x35 =>
      oStore (some 26) x3 x35 h34 fun h36 =>
      oLoad (some 26) x3 h36 fun r37 =>
      finish objs.length (.ok (.tup [r37, x10, (.s (.int .i64 0))])) h36))
| _ => none

/-- bailey/dir.Has -/
def dir_Has : CallFn := fun args objs =>
match args with
| [a0, a1] =>
oNew none (some 26) a0 objs fun x1 h2 =>
      oLoad (some 26) x1 h2 fun x3 =>
      oLend dir_place [x3, a1] h2 (fun v6 h7 => finish objs.length (.pan v6) h7) fun w10 h11 => oFrz w10 h11 fun x4 h5 =>
      oExtract 0 x4 fun x8 =>
      oExtract 1 x4 fun x9 =>
      finish objs.length (.ok x9) h5
| _ => none

/-- bailey/baileylaw12.dirAlive -/
def law12_dirAlive : CallFn := fun args objs =>
match args with
| [] =>
oLend law12_small [(.s (.int .u64 1)), (.s (.int .i64 4))] objs (fun v3 h4 => finish objs.length (.pan v3) h4) fun w49 h50 => oFrz w49 h50 fun x1 h2 =>
      oLend dir_Born [x1, (.s (.int .i64 3))] h2 (fun v7 h8 => finish objs.length (.pan v7) h8) fun w47 h48 => oFrz w47 h48 fun x5 h6 =>
      oExtract 0 x5 fun x9 =>
      oExtract 1 x5 fun x10 =>
      oExtract 2 x5 fun x11 =>
      oNew none (some 26) (.agg [.s (.int .u64 0), .s (.int .i64 0), .s (.int .i64 0), .s (.slice none 0 0), .s (.int .i64 0), .s (.slice none 0 0), .s (.int .i64 0), .s (.int .i64 0), .s (.slice none 0 0), .s (.slice none 0 0), .s (.int .u64 0), .s (.int .u64 0), .s (.int .u64 0), .s (.int .u64 0), .s (.int .i64 0), .s (.int .i64 0), .s (.bool false), .s (.int .u64 0), .s (.int .u64 0), .s (.int .u64 0), .s (.int .u64 0), .s (.int .u64 0), .s (.int .u64 0), .s (.int .u64 0), .s (.int .u64 0), .s (.int .u64 0)]) h6 fun x12 h13 =>
      oStore (some 26) x12 x9 h13 fun h14 =>
      oLoad (some 26) x12 h14 fun x15 =>
      oLend dir_Born [x15, (.s (.int .i64 1))] h14 (fun v18 h19 => finish objs.length (.pan v18) h19) fun w45 h46 => oFrz w45 h46 fun x16 h17 =>
      oExtract 0 x16 fun x20 =>
      oExtract 1 x16 fun x21 =>
      oExtract 2 x16 fun x22 =>
      oNew none (some 26) (.agg [.s (.int .u64 0), .s (.int .i64 0), .s (.int .i64 0), .s (.slice none 0 0), .s (.int .i64 0), .s (.slice none 0 0), .s (.int .i64 0), .s (.int .i64 0), .s (.slice none 0 0), .s (.slice none 0 0), .s (.int .u64 0), .s (.int .u64 0), .s (.int .u64 0), .s (.int .u64 0), .s (.int .i64 0), .s (.int .i64 0), .s (.bool false), .s (.int .u64 0), .s (.int .u64 0), .s (.int .u64 0), .s (.int .u64 0), .s (.int .u64 0), .s (.int .u64 0), .s (.int .u64 0), .s (.int .u64 0), .s (.int .u64 0)]) h17 fun x23 h24 =>
      oStore (some 26) x23 x20 h24 fun h25 =>
      oCmp .eql x11 (.s (.int .i64 0)) fun x26 =>
      oGuard x26 true (fun _ => oCmp .eql x10 (.s (.int .u64 65)) fun x27 =>
      oGuard x27 true (fun _ => oCmp .eql x22 (.s (.int .i64 121)) fun x28 =>
      oGuard x28 true (fun _ => oCmp .eql x21 (.s (.int .u64 0)) fun x29 =>
      oGuard x29 true (fun _ => oLoad (some 26) x12 h25 fun x30 =>
      oLend dir_Used [x30] h25 (fun v33 h34 => finish objs.length (.pan v33) h34) fun w43 h44 => oFrz w43 h44 fun x31 h32 =>
      oCmp .eql x31 (.s (.int .i64 4)) fun x35 =>
      oGuard x35 true (fun _ => oLoad (some 26) x12 h32 fun x36 =>
      oLend dir_Has [x36, (.s (.int .u64 65))] h32 (fun v39 h40 => finish objs.length (.pan v39) h40) fun w41 h42 => oFrz w41 h42 fun x37 h38 =>
      finish objs.length (.ok x37) h38)
      (fun _ => finish objs.length (.ok (.s (.bool false))) h32))
      (fun _ => finish objs.length (.ok (.s (.bool false))) h25))
      (fun _ => finish objs.length (.ok (.s (.bool false))) h25))
      (fun _ => finish objs.length (.ok (.s (.bool false))) h25))
      (fun _ => finish objs.length (.ok (.s (.bool false))) h25)
| _ => none

/-- bailey/baileylaw12.DirNames -/
def law12_DirNames : CallFn := fun args objs =>
match args with
| [] =>
oLend law12_dirAlive [] objs (fun v3 h4 => finish objs.length (.pan v3) h4) fun w11 h12 => oFrz w11 h12 fun x1 h2 =>
      oPick x1 (.s (.bool true)) (.s (.bool false)) fun x5 =>
      oPick x5 (.s (.bool true)) (.s (.bool false)) fun x6 =>
      oPick x6 (.s (.bool true)) (.s (.bool false)) fun x7 =>
      oPick x7 (.s (.bool true)) (.s (.bool false)) fun x8 =>
      oPick x8 (.s (.bool true)) (.s (.bool false)) fun x9 =>
      oPick x9 (.s (.bool true)) (.s (.bool false)) fun x10 =>
      finish objs.length (.ok x10) h2
| _ => none

end Go.Ab.F
