/-
  THAT THE PROGRAM'S FUNCTIONS ARE WHAT THEIR WALKS COME TO. Written by a program (emit.py).
-/
import Derived.Test.YtijekkbagkpjdaaFnQ0
import Derived.Test.YtijekkbagkpjdaaFnQ1
import Derived.Test.YtijekkbagkpjdaaFnQ2
import Derived.Test.YtijekkbagkpjdaaFnQ3
import Derived.Test.YtijekkbagkpjdaaFnW
import Derived.Test.YtijekkbagkpjdaaAbsTab
import Derived.KernelRfl
set_option maxRecDepth 100000
set_option linter.unusedVariables false
namespace Go.Ab.F
open Go Go.Ab Go.Proofs
noncomputable abbrev PP : Program := Go.Proofs.Try.prog
theorem mix_ok : PP.follows .mixedOrders = true := by kernel_rfl
theorem extent_New_call : Callable PP 8 := callable_of (fn := Go.Proofs.Try.f8) (by kernel_rfl) (by kernel_rfl) (by kernel_rfl)
theorem extent_New_ok : SoundFn PP 8 (extent_New) := by
  exact fn_ok (P := PP) (fn := Go.Proofs.Try.f8) 1 mix_ok (by kernel_rfl) (SoundTab.nil) (SoundNames.nil') (fun args objs hl => match args, hl with | [a0], _ => (evalF_same _ _ _).trans (extent_New_eq a0 objs)) (fun args objs hl => match args, hl with | [], _ => rfl | [_], hl => absurd rfl hl | _ :: _ :: _, _ => rfl)
theorem extent_end_call : Callable PP 32 := callable_of (fn := Go.Proofs.Try.f32) (by kernel_rfl) (by kernel_rfl) (by kernel_rfl)
theorem extent_end_ok : SoundFn PP 32 (extent_end) := by
  exact fn_ok (P := PP) (fn := Go.Proofs.Try.f32) 1 mix_ok (by kernel_rfl) (SoundTab.nil) (SoundNames.nil') (fun args objs hl => match args, hl with | [a0], _ => (evalF_same _ _ _).trans (extent_end_eq a0 objs)) (fun args objs hl => match args, hl with | [], _ => rfl | [_], hl => absurd rfl hl | _ :: _ :: _, _ => rfl)
theorem extent_cut_call : Callable PP 23 := callable_of (fn := Go.Proofs.Try.f23) (by kernel_rfl) (by kernel_rfl) (by kernel_rfl)
theorem extent_cut_ok : SoundFn PP 23 (extent_cut) := by
  exact fn_ok (P := PP) (fn := Go.Proofs.Try.f23) 2 mix_ok (by kernel_rfl) (SoundTab.cons extent_end_call extent_end_ok (SoundTab.nil)) (SoundNames.nil') (fun args objs hl => match args, hl with | [a0, a1], _ => (evalF_same _ _ _).trans (extent_cut_eq a0 a1 objs)) (fun args objs hl => match args, hl with | [], _ => rfl | [_], _ => rfl | [_, _], hl => absurd rfl hl | _ :: _ :: _ :: _, _ => rfl)
theorem extent_Map_Alloc_call : Callable PP 11 := callable_of (fn := Go.Proofs.Try.f11) (by kernel_rfl) (by kernel_rfl) (by kernel_rfl)
theorem extent_Map_Alloc_ok : SoundFn PP 11 (extent_Map_Alloc) := by
  exact fn_ok (P := PP) (fn := Go.Proofs.Try.f11) 2 mix_ok (by kernel_rfl) (SoundTab.cons extent_cut_call extent_cut_ok (SoundTab.nil)) (SoundNames.nil') (fun args objs hl => match args, hl with | [a0, a1], _ => (evalF_same _ _ _).trans (extent_Map_Alloc_eq a0 a1 objs)) (fun args objs hl => match args, hl with | [], _ => rfl | [_], _ => rfl | [_, _], hl => absurd rfl hl | _ :: _ :: _ :: _, _ => rfl)
theorem extent_Map_there_call : Callable PP 26 := callable_of (fn := Go.Proofs.Try.f26) (by kernel_rfl) (by kernel_rfl) (by kernel_rfl)
theorem extent_Map_there_ok : SoundFn PP 26 (extent_Map_there) := by
  exact fn_ok (P := PP) (fn := Go.Proofs.Try.f26) 2 mix_ok (by kernel_rfl) (SoundTab.nil) (SoundNames.nil') (fun args objs hl => match args, hl with | [a0, a1], _ => (evalF_same _ _ _).trans (extent_Map_there_eq a0 a1 objs)) (fun args objs hl => match args, hl with | [], _ => rfl | [_], _ => rfl | [_, _], hl => absurd rfl hl | _ :: _ :: _ :: _, _ => rfl)
theorem extent_meets_c1_call : Callable PP 43 := callable_of (fn := Go.Proofs.Try.f43) (by kernel_rfl) (by kernel_rfl) (by kernel_rfl)
theorem extent_meets_c1_ok : SoundFn PP 43 (extent_meets_c1) := by
  exact fn_ok (P := PP) (fn := Go.Proofs.Try.f43) 2 mix_ok (by kernel_rfl) (SoundTab.cons extent_end_call extent_end_ok (SoundTab.nil)) (SoundNames.nil') (fun args objs hl => match args, hl with | [a0, a1], _ => (evalF_same _ _ _).trans (extent_meets_c1_eq a0 a1 objs)) (fun args objs hl => match args, hl with | [], _ => rfl | [_], _ => rfl | [_, _], hl => absurd rfl hl | _ :: _ :: _ :: _, _ => rfl)
theorem slices_IndexFunc_Sapi_Extent_api_Extent_call : Callable PP 46 := callable_of (fn := Go.Proofs.Try.f46) (by kernel_rfl) (by kernel_rfl) (by kernel_rfl)
theorem slices_IndexFunc_Sapi_Extent_api_Extent_ok (En : String → CallFn) (hEn : SoundNames PP En) : SoundFn PP 46 (slices_IndexFunc_Sapi_Extent_api_Extent En) := by
  exact fn_ok (P := PP) (fn := Go.Proofs.Try.f46) 2 mix_ok (by kernel_rfl) (SoundTab.nil) (hEn) (fun args objs hl => match args, hl with | [a0, a1], _ => (evalF_same _ _ _).trans (slices_IndexFunc_Sapi_Extent_api_Extent_eq En a0 a1 objs)) (fun args objs hl => match args, hl with | [], _ => rfl | [_], _ => rfl | [_, _], hl => absurd rfl hl | _ :: _ :: _ :: _, _ => rfl)
theorem slices_ContainsFunc_Sapi_Extent_api_Extent_call : Callable PP 36 := callable_of (fn := Go.Proofs.Try.f36) (by kernel_rfl) (by kernel_rfl) (by kernel_rfl)
theorem slices_ContainsFunc_Sapi_Extent_api_Extent_ok (En : String → CallFn) (hEn : SoundNames PP En) : SoundFn PP 36 (slices_ContainsFunc_Sapi_Extent_api_Extent En) := by
  exact fn_ok (P := PP) (fn := Go.Proofs.Try.f36) 2 mix_ok (by kernel_rfl) (SoundTab.cons slices_IndexFunc_Sapi_Extent_api_Extent_call (slices_IndexFunc_Sapi_Extent_api_Extent_ok En hEn) (SoundTab.nil)) (hEn) (fun args objs hl => match args, hl with | [a0, a1], _ => (evalF_same _ _ _).trans (slices_ContainsFunc_Sapi_Extent_api_Extent_eq En a0 a1 objs)) (fun args objs hl => match args, hl with | [], _ => rfl | [_], _ => rfl | [_, _], hl => absurd rfl hl | _ :: _ :: _ :: _, _ => rfl)
theorem extent_meets_call : Callable PP 33 := callable_of (fn := Go.Proofs.Try.f33) (by kernel_rfl) (by kernel_rfl) (by kernel_rfl)
theorem En_extent_meets_ok : SoundNames PP (En_extent_meets) := SoundNames.cons (by kernel_rfl) extent_meets_c1_call extent_meets_c1_ok (SoundNames.nil)
theorem extent_meets_ok : SoundFn PP 33 (extent_meets) := by
  have hEn := En_extent_meets_ok; exact fn_ok (P := PP) (fn := Go.Proofs.Try.f33) 2 mix_ok (by kernel_rfl) (SoundTab.cons slices_ContainsFunc_Sapi_Extent_api_Extent_call (slices_ContainsFunc_Sapi_Extent_api_Extent_ok (En_extent_meets) hEn) (SoundTab.cons extent_meets_c1_call extent_meets_c1_ok (SoundTab.nil))) (hEn) (fun args objs hl => match args, hl with | [a0, a1], _ => (evalF_same _ _ _).trans (extent_meets_eq a0 a1 objs)) (fun args objs hl => match args, hl with | [], _ => rfl | [_], _ => rfl | [_, _], hl => absurd rfl hl | _ :: _ :: _ :: _, _ => rfl)
theorem extent_Map_taken_call : Callable PP 24 := callable_of (fn := Go.Proofs.Try.f24) (by kernel_rfl) (by kernel_rfl) (by kernel_rfl)
theorem extent_Map_taken_ok : SoundFn PP 24 (extent_Map_taken) := by
  exact fn_ok (P := PP) (fn := Go.Proofs.Try.f24) 2 mix_ok (by kernel_rfl) (SoundTab.cons extent_meets_call extent_meets_ok (SoundTab.cons extent_Map_there_call extent_Map_there_ok (SoundTab.nil))) (SoundNames.nil') (fun args objs hl => match args, hl with | [a0, a1], _ => (evalF_same _ _ _).trans (extent_Map_taken_eq a0 a1 objs)) (fun args objs hl => match args, hl with | [], _ => rfl | [_], _ => rfl | [_, _], hl => absurd rfl hl | _ :: _ :: _ :: _, _ => rfl)
theorem slices_Insert_Sapi_Extent_api_Extent_ok : SoundFn PP 34 (primInsert 2 16) := insert34
theorem slices_Insert_Sapi_Extent_api_Extent_call : Callable PP 34 := callable_of (fn := Go.Proofs.Try.f34) (by kernel_rfl) (by kernel_rfl) (by kernel_rfl)
theorem slices_Delete_Sapi_Extent_api_Extent_ok : SoundFn PP 35 (primDelete 2 16) := delete35
theorem slices_Delete_Sapi_Extent_api_Extent_call : Callable PP 35 := callable_of (fn := Go.Proofs.Try.f35) (by kernel_rfl) (by kernel_rfl) (by kernel_rfl)
theorem extent_put_call : Callable PP 25 := callable_of (fn := Go.Proofs.Try.f25) (by kernel_rfl) (by kernel_rfl) (by kernel_rfl)
theorem extent_put_ok : SoundFn PP 25 (extent_put) := by
  exact fn_ok (P := PP) (fn := Go.Proofs.Try.f25) 2 mix_ok (by kernel_rfl) (SoundTab.cons slices_Insert_Sapi_Extent_api_Extent_call slices_Insert_Sapi_Extent_api_Extent_ok (SoundTab.cons slices_Delete_Sapi_Extent_api_Extent_call slices_Delete_Sapi_Extent_api_Extent_ok (SoundTab.cons extent_end_call extent_end_ok (SoundTab.nil)))) (SoundNames.nil') (fun args objs hl => match args, hl with | [a0, a1], _ => (evalF_same _ _ _).trans (extent_put_eq a0 a1 objs)) (fun args objs hl => match args, hl with | [], _ => rfl | [_], _ => rfl | [_, _], hl => absurd rfl hl | _ :: _ :: _ :: _, _ => rfl)
theorem extent_Map_Free_call : Callable PP 12 := callable_of (fn := Go.Proofs.Try.f12) (by kernel_rfl) (by kernel_rfl) (by kernel_rfl)
theorem extent_Map_Free_ok : SoundFn PP 12 (extent_Map_Free) := by
  exact fn_ok (P := PP) (fn := Go.Proofs.Try.f12) 2 mix_ok (by kernel_rfl) (SoundTab.cons extent_put_call extent_put_ok (SoundTab.cons extent_Map_taken_call extent_Map_taken_ok (SoundTab.nil))) (SoundNames.nil') (fun args objs hl => match args, hl with | [a0, a1], _ => (evalF_same _ _ _).trans (extent_Map_Free_eq a0 a1 objs)) (fun args objs hl => match args, hl with | [], _ => rfl | [_], _ => rfl | [_, _], hl => absurd rfl hl | _ :: _ :: _ :: _, _ => rfl)
theorem extent_Map_Count_call : Callable PP 9 := callable_of (fn := Go.Proofs.Try.f9) (by kernel_rfl) (by kernel_rfl) (by kernel_rfl)
theorem extent_Map_Count_ok : SoundFn PP 9 (extent_Map_Count) := by
  exact fn_ok (P := PP) (fn := Go.Proofs.Try.f9) 1 mix_ok (by kernel_rfl) (SoundTab.nil) (SoundNames.nil') (fun args objs hl => match args, hl with | [a0], _ => (evalF_same _ _ _).trans (extent_Map_Count_eq a0 objs)) (fun args objs hl => match args, hl with | [], _ => rfl | [_], hl => absurd rfl hl | _ :: _ :: _, _ => rfl)
theorem law07_extentAlive_call : Callable PP 7 := callable_of (fn := Go.Proofs.Try.f7) (by kernel_rfl) (by kernel_rfl) (by kernel_rfl)
theorem law07_extentAlive_ok : SoundFn PP 7 (law07_extentAlive) := by
  exact fn_ok (P := PP) (fn := Go.Proofs.Try.f7) 0 mix_ok (by kernel_rfl) (SoundTab.cons extent_New_call extent_New_ok (SoundTab.cons extent_Map_Free_call extent_Map_Free_ok (SoundTab.cons extent_Map_Count_call extent_Map_Count_ok (SoundTab.cons extent_Map_Alloc_call extent_Map_Alloc_ok (SoundTab.nil))))) (SoundNames.nil') (fun args objs hl => match args, hl with | [], _ => (evalF_same _ _ _).trans (law07_extentAlive_eq objs)) (fun args objs hl => by cases args with | nil => exact absurd rfl hl | cons a r => rfl)
theorem slices_Clone_Sapi_Extent_api_Extent_ok : SoundFn PP 22 (primClone 2 16) := clone22
theorem slices_Clone_Sapi_Extent_api_Extent_call : Callable PP 22 := callable_of (fn := Go.Proofs.Try.f22) (by kernel_rfl) (by kernel_rfl) (by kernel_rfl)
theorem extent_Map_List_call : Callable PP 10 := callable_of (fn := Go.Proofs.Try.f10) (by kernel_rfl) (by kernel_rfl) (by kernel_rfl)
theorem extent_Map_List_ok : SoundFn PP 10 (extent_Map_List) := by
  exact fn_ok (P := PP) (fn := Go.Proofs.Try.f10) 1 mix_ok (by kernel_rfl) (SoundTab.cons slices_Clone_Sapi_Extent_api_Extent_call slices_Clone_Sapi_Extent_api_Extent_ok (SoundTab.nil)) (SoundNames.nil') (fun args objs hl => match args, hl with | [a0], _ => (evalF_same _ _ _).trans (extent_Map_List_eq a0 objs)) (fun args objs hl => match args, hl with | [], _ => rfl | [_], hl => absurd rfl hl | _ :: _ :: _, _ => rfl)
theorem law07_ExtentNames_call : Callable PP 3 := callable_of (fn := Go.Proofs.Try.f3) (by kernel_rfl) (by kernel_rfl) (by kernel_rfl)
theorem law07_ExtentNames_ok : SoundFn PP 3 (law07_ExtentNames) := by
  exact fn_ok (P := PP) (fn := Go.Proofs.Try.f3) 0 mix_ok (by kernel_rfl) (SoundTab.cons extent_New_call extent_New_ok (SoundTab.cons law07_extentAlive_call law07_extentAlive_ok (SoundTab.cons extent_Map_List_call extent_Map_List_ok (SoundTab.cons extent_Map_Count_call extent_Map_Count_ok (SoundTab.nil))))) (SoundNames.nil') (fun args objs hl => match args, hl with | [], _ => (evalF_same _ _ _).trans (law07_ExtentNames_eq objs)) (fun args objs hl => by cases args with | nil => exact absurd rfl hl | cons a r => rfl)
theorem tree_New_call : Callable PP 15 := callable_of (fn := Go.Proofs.Try.f15) (by kernel_rfl) (by kernel_rfl) (by kernel_rfl)
theorem tree_New_ok : SoundFn PP 15 (tree_New) := by
  exact fn_ok (P := PP) (fn := Go.Proofs.Try.f15) 0 mix_ok (by kernel_rfl) (SoundTab.nil) (SoundNames.nil') (fun args objs hl => match args, hl with | [], _ => (evalF_same _ _ _).trans (tree_New_eq objs)) (fun args objs hl => by cases args with | nil => exact absurd rfl hl | cons a r => rfl)
theorem slices_Clone_Suint64_uint64_ok : SoundFn PP 38 (primClone 1 8) := clone38
theorem slices_Clone_Suint64_uint64_call : Callable PP 38 := callable_of (fn := Go.Proofs.Try.f38) (by kernel_rfl) (by kernel_rfl) (by kernel_rfl)
theorem tree_node_list_call : Callable PP 28 := callable_of (fn := Go.Proofs.Try.f28) (by kernel_rfl) (by kernel_rfl) (by kernel_rfl)
theorem tree_node_list_step_ok (self : CallFn) (hself : SoundFn PP 28 self) : SoundFn PP 28 (tree_node_list_step self) := by
  have me_call := tree_node_list_call
  exact fn_ok (P := PP) (fn := Go.Proofs.Try.f28) 2 mix_ok (by kernel_rfl) (SoundTab.cons slices_Clone_Suint64_uint64_call slices_Clone_Suint64_uint64_ok (SoundTab.cons slices_Clone_Sapi_Extent_api_Extent_call slices_Clone_Sapi_Extent_api_Extent_ok (SoundTab.cons me_call hself (SoundTab.nil)))) (SoundNames.nil') (fun args objs hl => match args, hl with | [a0, a1], _ => (evalF_same _ _ _).trans (tree_node_list_eq self a0 a1 objs)) (fun args objs hl => match args, hl with | [], _ => rfl | [_], _ => rfl | [_, _], hl => absurd rfl hl | _ :: _ :: _ :: _, _ => rfl)
theorem tree_node_list_ok : ∀ n, SoundFn PP 28 (tree_node_list n)
  | 0 => SoundFn.none 28
  | n + 1 => tree_node_list_step_ok _ (tree_node_list_ok n)
theorem tree_Tree_Nodes_call : Callable PP 16 := callable_of (fn := Go.Proofs.Try.f16) (by kernel_rfl) (by kernel_rfl) (by kernel_rfl)
theorem tree_Tree_Nodes_ok : SoundFn PP 16 (tree_Tree_Nodes) := by
  exact fn_ok (P := PP) (fn := Go.Proofs.Try.f16) 1 mix_ok (by kernel_rfl) (SoundTab.cons tree_node_list_call (tree_node_list_ok big) (SoundTab.nil)) (SoundNames.nil') (fun args objs hl => match args, hl with | [a0], _ => (evalF_same _ _ _).trans (tree_Tree_Nodes_eq a0 objs)) (fun args objs hl => match args, hl with | [], _ => rfl | [_], hl => absurd rfl hl | _ :: _ :: _, _ => rfl)
theorem tree_Tree_Len_call : Callable PP 29 := callable_of (fn := Go.Proofs.Try.f29) (by kernel_rfl) (by kernel_rfl) (by kernel_rfl)
theorem tree_Tree_Len_ok : SoundFn PP 29 (tree_Tree_Len) := by
  exact fn_ok (P := PP) (fn := Go.Proofs.Try.f29) 1 mix_ok (by kernel_rfl) (SoundTab.nil) (SoundNames.nil') (fun args objs hl => match args, hl with | [a0], _ => (evalF_same _ _ _).trans (tree_Tree_Len_eq a0 objs)) (fun args objs hl => match args, hl with | [], _ => rfl | [_], hl => absurd rfl hl | _ :: _ :: _, _ => rfl)
theorem tree_node_leaf_call : Callable PP 47 := callable_of (fn := Go.Proofs.Try.f47) (by kernel_rfl) (by kernel_rfl) (by kernel_rfl)
theorem tree_node_leaf_ok : SoundFn PP 47 (tree_node_leaf) := by
  exact fn_ok (P := PP) (fn := Go.Proofs.Try.f47) 1 mix_ok (by kernel_rfl) (SoundTab.nil) (SoundNames.nil') (fun args objs hl => match args, hl with | [a0], _ => (evalF_same _ _ _).trans (tree_node_leaf_eq a0 objs)) (fun args objs hl => match args, hl with | [], _ => rfl | [_], hl => absurd rfl hl | _ :: _ :: _, _ => rfl)
theorem cmp_isNaN_uint64_call : Callable PP 63 := callable_of (fn := Go.Proofs.Try.f63) (by kernel_rfl) (by kernel_rfl) (by kernel_rfl)
theorem cmp_isNaN_uint64_ok : SoundFn PP 63 (cmp_isNaN_uint64) := by
  exact fn_ok (P := PP) (fn := Go.Proofs.Try.f63) 1 mix_ok (by kernel_rfl) (SoundTab.nil) (SoundNames.nil') (fun args objs hl => match args, hl with | [a0], _ => (evalF_same _ _ _).trans (cmp_isNaN_uint64_eq a0 objs)) (fun args objs hl => match args, hl with | [], _ => rfl | [_], hl => absurd rfl hl | _ :: _ :: _, _ => rfl)
theorem cmp_Less_uint64_call : Callable PP 55 := callable_of (fn := Go.Proofs.Try.f55) (by kernel_rfl) (by kernel_rfl) (by kernel_rfl)
theorem cmp_Less_uint64_ok : SoundFn PP 55 (cmp_Less_uint64) := by
  exact fn_ok (P := PP) (fn := Go.Proofs.Try.f55) 2 mix_ok (by kernel_rfl) (SoundTab.cons cmp_isNaN_uint64_call cmp_isNaN_uint64_ok (SoundTab.nil)) (SoundNames.nil') (fun args objs hl => match args, hl with | [a0, a1], _ => (evalF_same _ _ _).trans (cmp_Less_uint64_eq a0 a1 objs)) (fun args objs hl => match args, hl with | [], _ => rfl | [_], _ => rfl | [_, _], hl => absurd rfl hl | _ :: _ :: _ :: _, _ => rfl)
theorem slices_isNaN_uint64_call : Callable PP 56 := callable_of (fn := Go.Proofs.Try.f56) (by kernel_rfl) (by kernel_rfl) (by kernel_rfl)
theorem slices_isNaN_uint64_ok : SoundFn PP 56 (slices_isNaN_uint64) := by
  exact fn_ok (P := PP) (fn := Go.Proofs.Try.f56) 1 mix_ok (by kernel_rfl) (SoundTab.nil) (SoundNames.nil') (fun args objs hl => match args, hl with | [a0], _ => (evalF_same _ _ _).trans (slices_isNaN_uint64_eq a0 objs)) (fun args objs hl => match args, hl with | [], _ => rfl | [_], hl => absurd rfl hl | _ :: _ :: _, _ => rfl)
theorem slices_BinarySearch_Suint64_uint64_call : Callable PP 49 := callable_of (fn := Go.Proofs.Try.f49) (by kernel_rfl) (by kernel_rfl) (by kernel_rfl)
theorem slices_BinarySearch_Suint64_uint64_ok : SoundFn PP 49 (slices_BinarySearch_Suint64_uint64) := by
  exact fn_ok (P := PP) (fn := Go.Proofs.Try.f49) 2 mix_ok (by kernel_rfl) (SoundTab.cons slices_isNaN_uint64_call slices_isNaN_uint64_ok (SoundTab.cons cmp_Less_uint64_call cmp_Less_uint64_ok (SoundTab.nil))) (SoundNames.nil') (fun args objs hl => match args, hl with | [a0, a1], _ => (evalF_same _ _ _).trans (slices_BinarySearch_Suint64_uint64_eq a0 a1 objs)) (fun args objs hl => match args, hl with | [], _ => rfl | [_], _ => rfl | [_, _], hl => absurd rfl hl | _ :: _ :: _ :: _, _ => rfl)
theorem tree_node_way_call : Callable PP 48 := callable_of (fn := Go.Proofs.Try.f48) (by kernel_rfl) (by kernel_rfl) (by kernel_rfl)
theorem tree_node_way_ok : SoundFn PP 48 (tree_node_way) := by
  exact fn_ok (P := PP) (fn := Go.Proofs.Try.f48) 2 mix_ok (by kernel_rfl) (SoundTab.cons slices_BinarySearch_Suint64_uint64_call slices_BinarySearch_Suint64_uint64_ok (SoundTab.nil)) (SoundNames.nil') (fun args objs hl => match args, hl with | [a0, a1], _ => (evalF_same _ _ _).trans (tree_node_way_eq a0 a1 objs)) (fun args objs hl => match args, hl with | [], _ => rfl | [_], _ => rfl | [_, _], hl => absurd rfl hl | _ :: _ :: _ :: _, _ => rfl)
theorem tree_Tree_Get_call : Callable PP 39 := callable_of (fn := Go.Proofs.Try.f39) (by kernel_rfl) (by kernel_rfl) (by kernel_rfl)
theorem tree_Tree_Get_ok : SoundFn PP 39 (tree_Tree_Get) := by
  exact fn_ok (P := PP) (fn := Go.Proofs.Try.f39) 2 mix_ok (by kernel_rfl) (SoundTab.cons slices_BinarySearch_Suint64_uint64_call slices_BinarySearch_Suint64_uint64_ok (SoundTab.cons tree_node_way_call tree_node_way_ok (SoundTab.cons tree_node_leaf_call tree_node_leaf_ok (SoundTab.nil)))) (SoundNames.nil') (fun args objs hl => match args, hl with | [a0, a1], _ => (evalF_same _ _ _).trans (tree_Tree_Get_eq a0 a1 objs)) (fun args objs hl => match args, hl with | [], _ => rfl | [_], _ => rfl | [_, _], hl => absurd rfl hl | _ :: _ :: _ :: _, _ => rfl)
theorem slices_Clone_S_tree_node_tree_node_ok : SoundFn PP 57 (primClone 1 8) := clone57
theorem slices_Clone_S_tree_node_tree_node_call : Callable PP 57 := callable_of (fn := Go.Proofs.Try.f57) (by kernel_rfl) (by kernel_rfl) (by kernel_rfl)
theorem tree_node_clone_call : Callable PP 50 := callable_of (fn := Go.Proofs.Try.f50) (by kernel_rfl) (by kernel_rfl) (by kernel_rfl)
theorem tree_node_clone_ok : SoundFn PP 50 (tree_node_clone) := by
  exact fn_ok (P := PP) (fn := Go.Proofs.Try.f50) 1 mix_ok (by kernel_rfl) (SoundTab.cons slices_Clone_Suint64_uint64_call slices_Clone_Suint64_uint64_ok (SoundTab.cons slices_Clone_Sapi_Extent_api_Extent_call slices_Clone_Sapi_Extent_api_Extent_ok (SoundTab.cons slices_Clone_S_tree_node_tree_node_call slices_Clone_S_tree_node_tree_node_ok (SoundTab.nil)))) (SoundNames.nil') (fun args objs hl => match args, hl with | [a0], _ => (evalF_same _ _ _).trans (tree_node_clone_eq a0 objs)) (fun args objs hl => match args, hl with | [], _ => rfl | [_], hl => absurd rfl hl | _ :: _ :: _, _ => rfl)
theorem slices_Insert_Suint64_uint64_ok : SoundFn PP 51 (primInsert 1 8) := insert51
theorem slices_Insert_Suint64_uint64_call : Callable PP 51 := callable_of (fn := Go.Proofs.Try.f51) (by kernel_rfl) (by kernel_rfl) (by kernel_rfl)
theorem tree_node_split_call : Callable PP 52 := callable_of (fn := Go.Proofs.Try.f52) (by kernel_rfl) (by kernel_rfl) (by kernel_rfl)
theorem tree_node_split_ok : SoundFn PP 52 (tree_node_split) := by
  exact fn_ok (P := PP) (fn := Go.Proofs.Try.f52) 1 mix_ok (by kernel_rfl) (SoundTab.cons slices_Clone_Suint64_uint64_call slices_Clone_Suint64_uint64_ok (SoundTab.cons slices_Clone_Sapi_Extent_api_Extent_call slices_Clone_Sapi_Extent_api_Extent_ok (SoundTab.cons slices_Clone_S_tree_node_tree_node_call slices_Clone_S_tree_node_tree_node_ok (SoundTab.cons tree_node_leaf_call tree_node_leaf_ok (SoundTab.nil))))) (SoundNames.nil') (fun args objs hl => match args, hl with | [a0], _ => (evalF_same _ _ _).trans (tree_node_split_eq a0 objs)) (fun args objs hl => match args, hl with | [], _ => rfl | [_], hl => absurd rfl hl | _ :: _ :: _, _ => rfl)
theorem slices_Insert_S_tree_node_tree_node_ok : SoundFn PP 53 (primInsert 1 8) := insert53
theorem slices_Insert_S_tree_node_tree_node_call : Callable PP 53 := callable_of (fn := Go.Proofs.Try.f53) (by kernel_rfl) (by kernel_rfl) (by kernel_rfl)
theorem tree_node_put_call : Callable PP 40 := callable_of (fn := Go.Proofs.Try.f40) (by kernel_rfl) (by kernel_rfl) (by kernel_rfl)
theorem tree_node_put_step_ok (self : CallFn) (hself : SoundFn PP 40 self) : SoundFn PP 40 (tree_node_put_step self) := by
  have me_call := tree_node_put_call
  exact fn_ok (P := PP) (fn := Go.Proofs.Try.f40) 3 mix_ok (by kernel_rfl) (SoundTab.cons slices_Insert_Suint64_uint64_call slices_Insert_Suint64_uint64_ok (SoundTab.cons slices_Insert_Sapi_Extent_api_Extent_call slices_Insert_Sapi_Extent_api_Extent_ok (SoundTab.cons slices_Insert_S_tree_node_tree_node_call slices_Insert_S_tree_node_tree_node_ok (SoundTab.cons slices_BinarySearch_Suint64_uint64_call slices_BinarySearch_Suint64_uint64_ok (SoundTab.cons tree_node_way_call tree_node_way_ok (SoundTab.cons tree_node_split_call tree_node_split_ok (SoundTab.cons me_call hself (SoundTab.cons tree_node_leaf_call tree_node_leaf_ok (SoundTab.cons tree_node_clone_call tree_node_clone_ok (SoundTab.nil)))))))))) (SoundNames.nil') (fun args objs hl => match args, hl with | [a0, a1, a2], _ => (evalF_same _ _ _).trans (tree_node_put_eq self a0 a1 a2 objs)) (fun args objs hl => match args, hl with | [], _ => rfl | [_], _ => rfl | [_, _], _ => rfl | [_, _, _], hl => absurd rfl hl | _ :: _ :: _ :: _ :: _, _ => rfl)
theorem tree_node_put_ok : ∀ n, SoundFn PP 40 (tree_node_put n)
  | 0 => SoundFn.none 40
  | n + 1 => tree_node_put_step_ok _ (tree_node_put_ok n)
theorem tree_Tree_Put_call : Callable PP 30 := callable_of (fn := Go.Proofs.Try.f30) (by kernel_rfl) (by kernel_rfl) (by kernel_rfl)
theorem tree_Tree_Put_ok : SoundFn PP 30 (tree_Tree_Put) := by
  exact fn_ok (P := PP) (fn := Go.Proofs.Try.f30) 3 mix_ok (by kernel_rfl) (SoundTab.cons tree_node_put_call (tree_node_put_ok big) (SoundTab.cons tree_Tree_Get_call tree_Tree_Get_ok (SoundTab.nil))) (SoundNames.nil') (fun args objs hl => match args, hl with | [a0, a1, a2], _ => (evalF_same _ _ _).trans (tree_Tree_Put_eq a0 a1 a2 objs)) (fun args objs hl => match args, hl with | [], _ => rfl | [_], _ => rfl | [_, _], _ => rfl | [_, _, _], hl => absurd rfl hl | _ :: _ :: _ :: _ :: _, _ => rfl)
theorem tree_Tree_Range_c1_call : Callable PP 42 := callable_of (fn := Go.Proofs.Try.f42) (by kernel_rfl) (by kernel_rfl) (by kernel_rfl)
theorem tree_Tree_Range_c1_ok : SoundFn PP 42 (tree_Tree_Range_c1) := by
  exact fn_ok (P := PP) (fn := Go.Proofs.Try.f42) 3 mix_ok (by kernel_rfl) (SoundTab.nil) (SoundNames.nil') (fun args objs hl => match args, hl with | [a0, a1, a2], _ => (evalF_same _ _ _).trans (tree_Tree_Range_c1_eq a0 a1 a2 objs)) (fun args objs hl => match args, hl with | [], _ => rfl | [_], _ => rfl | [_, _], _ => rfl | [_, _, _], hl => absurd rfl hl | _ :: _ :: _ :: _ :: _, _ => rfl)
theorem tree_node_visit_call : Callable PP 41 := callable_of (fn := Go.Proofs.Try.f41) (by kernel_rfl) (by kernel_rfl) (by kernel_rfl)
theorem tree_node_visit_step_ok (En : String → CallFn) (hEn : SoundNames PP En) (self : CallFn) (hself : SoundFn PP 41 self) : SoundFn PP 41 (tree_node_visit_step En self) := by
  have me_call := tree_node_visit_call
  exact fn_ok (P := PP) (fn := Go.Proofs.Try.f41) 3 mix_ok (by kernel_rfl) (SoundTab.cons tree_node_way_call tree_node_way_ok (SoundTab.cons me_call hself (SoundTab.cons tree_node_leaf_call tree_node_leaf_ok (SoundTab.nil)))) (hEn) (fun args objs hl => match args, hl with | [a0, a1, a2], _ => (evalF_same _ _ _).trans (tree_node_visit_eq En self a0 a1 a2 objs)) (fun args objs hl => match args, hl with | [], _ => rfl | [_], _ => rfl | [_, _], _ => rfl | [_, _, _], hl => absurd rfl hl | _ :: _ :: _ :: _ :: _, _ => rfl)
theorem tree_node_visit_ok (En : String → CallFn) (hEn : SoundNames PP En) : ∀ n, SoundFn PP 41 (tree_node_visit En n)
  | 0 => SoundFn.none 41
  | n + 1 => tree_node_visit_step_ok En hEn _ (tree_node_visit_ok En hEn n)
theorem tree_Tree_Range_call : Callable PP 31 := callable_of (fn := Go.Proofs.Try.f31) (by kernel_rfl) (by kernel_rfl) (by kernel_rfl)
theorem En_tree_Tree_Range_ok : SoundNames PP (En_tree_Tree_Range) := SoundNames.cons (by kernel_rfl) tree_Tree_Range_c1_call tree_Tree_Range_c1_ok (SoundNames.nil)
theorem tree_Tree_Range_ok : SoundFn PP 31 (tree_Tree_Range) := by
  have hEn := En_tree_Tree_Range_ok; exact fn_ok (P := PP) (fn := Go.Proofs.Try.f31) 3 mix_ok (by kernel_rfl) (SoundTab.cons tree_node_visit_call ((tree_node_visit_ok (En_tree_Tree_Range) hEn) big) (SoundTab.cons tree_Tree_Range_c1_call tree_Tree_Range_c1_ok (SoundTab.nil))) (hEn) (fun args objs hl => match args, hl with | [a0, a1, a2], _ => (evalF_same _ _ _).trans (tree_Tree_Range_eq a0 a1 a2 objs)) (fun args objs hl => match args, hl with | [], _ => rfl | [_], _ => rfl | [_, _], _ => rfl | [_, _, _], hl => absurd rfl hl | _ :: _ :: _ :: _ :: _, _ => rfl)
theorem law08_treeAlive_call : Callable PP 17 := callable_of (fn := Go.Proofs.Try.f17) (by kernel_rfl) (by kernel_rfl) (by kernel_rfl)
theorem law08_treeAlive_ok : SoundFn PP 17 (law08_treeAlive) := by
  exact fn_ok (P := PP) (fn := Go.Proofs.Try.f17) 0 mix_ok (by kernel_rfl) (SoundTab.cons tree_New_call tree_New_ok (SoundTab.cons tree_Tree_Range_call tree_Tree_Range_ok (SoundTab.cons tree_Tree_Put_call tree_Tree_Put_ok (SoundTab.cons tree_Tree_Nodes_call tree_Tree_Nodes_ok (SoundTab.cons tree_Tree_Len_call tree_Tree_Len_ok (SoundTab.nil)))))) (SoundNames.nil') (fun args objs hl => match args, hl with | [], _ => (evalF_same _ _ _).trans (law08_treeAlive_eq objs)) (fun args objs hl => by cases args with | nil => exact absurd rfl hl | cons a r => rfl)
theorem law08_TreeNames_call : Callable PP 5 := callable_of (fn := Go.Proofs.Try.f5) (by kernel_rfl) (by kernel_rfl) (by kernel_rfl)
theorem law08_TreeNames_ok : SoundFn PP 5 (law08_TreeNames) := by
  exact fn_ok (P := PP) (fn := Go.Proofs.Try.f5) 0 mix_ok (by kernel_rfl) (SoundTab.cons tree_New_call tree_New_ok (SoundTab.cons law08_treeAlive_call law08_treeAlive_ok (SoundTab.cons tree_Tree_Nodes_call tree_Tree_Nodes_ok (SoundTab.nil)))) (SoundNames.nil') (fun args objs hl => match args, hl with | [], _ => (evalF_same _ _ _).trans (law08_TreeNames_eq objs)) (fun args objs hl => by cases args with | nil => exact absurd rfl hl | cons a r => rfl)
end Go.Ab.F
