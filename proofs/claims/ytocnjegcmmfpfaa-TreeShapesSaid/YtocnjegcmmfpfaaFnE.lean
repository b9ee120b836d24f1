/-
 THAT THE PROGRAM'S FUNCTIONS ARE WHAT THEIR WALKS COME TO. Written by a program (emit.py).
-/
import Derived.Test.YtocnjegcmmfpfaaFnQ0
import Derived.Test.YtocnjegcmmfpfaaFnQ1
import Derived.Test.YtocnjegcmmfpfaaFnQ2
import Derived.Test.YtocnjegcmmfpfaaFnQ3
import Derived.Test.YtocnjegcmmfpfaaFnW
import Derived.Test.YtocnjegcmmfpfaaAbsDefer
import Derived.KernelRfl
set_option maxRecDepth 100000
set_option linter.unusedVariables false
namespace Go.Ab.F
open Go Go.Ab Go.Proofs
noncomputable abbrev PP : Program := Go.Proofs.Try.prog
theorem mix_ok : PP.follows .mixedOrders = true := by kernel_rfl
theorem tree_New_call : Callable PP 24 := callable_of (fn := Go.Proofs.Try.f24) (by kernel_rfl) (by kernel_rfl) (by kernel_rfl)
theorem tree_New_ok : SoundFn PP 24 (tree_New) := by
 exact fn_ok (P := PP) (fn := Go.Proofs.Try.f24) 0 mix_ok (by kernel_rfl) (SoundTab.nil) (SoundNames.nil') (fun args objs hl => match args, hl with | [], _ => (evalF_same _ _ _).trans (tree_New_eq objs)) (fun args objs hl => by cases args with | nil => exact absurd rfl hl | cons a r => rfl)
theorem tree_Tree_Len_call : Callable PP 10 := callable_of (fn := Go.Proofs.Try.f10) (by kernel_rfl) (by kernel_rfl) (by kernel_rfl)
theorem tree_Tree_Len_ok : SoundFn PP 10 (tree_Tree_Len) := by
 exact fn_ok (P := PP) (fn := Go.Proofs.Try.f10) 1 mix_ok (by kernel_rfl) (SoundTab.nil) (SoundNames.nil') (fun args objs hl => match args, hl with | [a0], _ => (evalF_same _ _ _).trans (tree_Tree_Len_eq a0 objs)) (fun args objs hl => match args, hl with | [], _ => rfl | [_], hl => absurd rfl hl | _ :: _ :: _, _ => rfl)
theorem tree_node_leaf_call : Callable PP 27 := callable_of (fn := Go.Proofs.Try.f27) (by kernel_rfl) (by kernel_rfl) (by kernel_rfl)
theorem tree_node_leaf_ok : SoundFn PP 27 (tree_node_leaf) := by
 exact fn_ok (P := PP) (fn := Go.Proofs.Try.f27) 1 mix_ok (by kernel_rfl) (SoundTab.nil) (SoundNames.nil') (fun args objs hl => match args, hl with | [a0], _ => (evalF_same _ _ _).trans (tree_node_leaf_eq a0 objs)) (fun args objs hl => match args, hl with | [], _ => rfl | [_], hl => absurd rfl hl | _ :: _ :: _, _ => rfl)
theorem cmp_isNaN_uint64_call : Callable PP 52 := callable_of (fn := Go.Proofs.Try.f52) (by kernel_rfl) (by kernel_rfl) (by kernel_rfl)
theorem cmp_isNaN_uint64_ok : SoundFn PP 52 (cmp_isNaN_uint64) := by
 exact fn_ok (P := PP) (fn := Go.Proofs.Try.f52) 1 mix_ok (by kernel_rfl) (SoundTab.nil) (SoundNames.nil') (fun args objs hl => match args, hl with | [a0], _ => (evalF_same _ _ _).trans (cmp_isNaN_uint64_eq a0 objs)) (fun args objs hl => match args, hl with | [], _ => rfl | [_], hl => absurd rfl hl | _ :: _ :: _, _ => rfl)
theorem cmp_Less_uint64_call : Callable PP 35 := callable_of (fn := Go.Proofs.Try.f35) (by kernel_rfl) (by kernel_rfl) (by kernel_rfl)
theorem cmp_Less_uint64_ok : SoundFn PP 35 (cmp_Less_uint64) := by
 exact fn_ok (P := PP) (fn := Go.Proofs.Try.f35) 2 mix_ok (by kernel_rfl) (SoundTab.cons cmp_isNaN_uint64_call cmp_isNaN_uint64_ok (SoundTab.nil)) (SoundNames.nil') (fun args objs hl => match args, hl with | [a0, a1], _ => (evalF_same _ _ _).trans (cmp_Less_uint64_eq a0 a1 objs)) (fun args objs hl => match args, hl with | [], _ => rfl | [_], _ => rfl | [_, _], hl => absurd rfl hl | _ :: _ :: _ :: _, _ => rfl)
theorem slices_isNaN_uint64_call : Callable PP 36 := callable_of (fn := Go.Proofs.Try.f36) (by kernel_rfl) (by kernel_rfl) (by kernel_rfl)
theorem slices_isNaN_uint64_ok : SoundFn PP 36 (slices_isNaN_uint64) := by
 exact fn_ok (P := PP) (fn := Go.Proofs.Try.f36) 1 mix_ok (by kernel_rfl) (SoundTab.nil) (SoundNames.nil') (fun args objs hl => match args, hl with | [a0], _ => (evalF_same _ _ _).trans (slices_isNaN_uint64_eq a0 objs)) (fun args objs hl => match args, hl with | [], _ => rfl | [_], hl => absurd rfl hl | _ :: _ :: _, _ => rfl)
theorem slices_BinarySearch_Suint64_uint64_call : Callable PP 29 := callable_of (fn := Go.Proofs.Try.f29) (by kernel_rfl) (by kernel_rfl) (by kernel_rfl)
theorem slices_BinarySearch_Suint64_uint64_ok : SoundFn PP 29 (slices_BinarySearch_Suint64_uint64) := by
 exact fn_ok (P := PP) (fn := Go.Proofs.Try.f29) 2 mix_ok (by kernel_rfl) (SoundTab.cons slices_isNaN_uint64_call slices_isNaN_uint64_ok (SoundTab.cons cmp_Less_uint64_call cmp_Less_uint64_ok (SoundTab.nil))) (SoundNames.nil') (fun args objs hl => match args, hl with | [a0, a1], _ => (evalF_same _ _ _).trans (slices_BinarySearch_Suint64_uint64_eq a0 a1 objs)) (fun args objs hl => match args, hl with | [], _ => rfl | [_], _ => rfl | [_, _], hl => absurd rfl hl | _ :: _ :: _ :: _, _ => rfl)
theorem tree_node_way_call : Callable PP 28 := callable_of (fn := Go.Proofs.Try.f28) (by kernel_rfl) (by kernel_rfl) (by kernel_rfl)
theorem tree_node_way_ok : SoundFn PP 28 (tree_node_way) := by
 exact fn_ok (P := PP) (fn := Go.Proofs.Try.f28) 2 mix_ok (by kernel_rfl) (SoundTab.cons slices_BinarySearch_Suint64_uint64_call slices_BinarySearch_Suint64_uint64_ok (SoundTab.nil)) (SoundNames.nil') (fun args objs hl => match args, hl with | [a0, a1], _ => (evalF_same _ _ _).trans (tree_node_way_eq a0 a1 objs)) (fun args objs hl => match args, hl with | [], _ => rfl | [_], _ => rfl | [_, _], hl => absurd rfl hl | _ :: _ :: _ :: _, _ => rfl)
theorem tree_Tree_Get_call : Callable PP 14 := callable_of (fn := Go.Proofs.Try.f14) (by kernel_rfl) (by kernel_rfl) (by kernel_rfl)
theorem tree_Tree_Get_ok : SoundFn PP 14 (tree_Tree_Get) := by
 exact fn_ok (P := PP) (fn := Go.Proofs.Try.f14) 2 mix_ok (by kernel_rfl) (SoundTab.cons slices_BinarySearch_Suint64_uint64_call slices_BinarySearch_Suint64_uint64_ok (SoundTab.cons tree_node_way_call tree_node_way_ok (SoundTab.cons tree_node_leaf_call tree_node_leaf_ok (SoundTab.nil)))) (SoundNames.nil') (fun args objs hl => match args, hl with | [a0, a1], _ => (evalF_same _ _ _).trans (tree_Tree_Get_eq a0 a1 objs)) (fun args objs hl => match args, hl with | [], _ => rfl | [_], _ => rfl | [_, _], hl => absurd rfl hl | _ :: _ :: _ :: _, _ => rfl)
theorem slices_Clone_Suint64_uint64_ok : SoundFn PP 37 (primClone 1 8) := clone37
theorem slices_Clone_Suint64_uint64_call : Callable PP 37 := callable_of (fn := Go.Proofs.Try.f37) (by kernel_rfl) (by kernel_rfl) (by kernel_rfl)
theorem slices_Clone_Sapi_Extent_api_Extent_ok : SoundFn PP 38 (primClone 2 16) := clone38
theorem slices_Clone_Sapi_Extent_api_Extent_call : Callable PP 38 := callable_of (fn := Go.Proofs.Try.f38) (by kernel_rfl) (by kernel_rfl) (by kernel_rfl)
theorem slices_Clone_S_tree_node_tree_node_ok : SoundFn PP 53 (primClone 1 8) := clone53
theorem slices_Clone_S_tree_node_tree_node_call : Callable PP 53 := callable_of (fn := Go.Proofs.Try.f53) (by kernel_rfl) (by kernel_rfl) (by kernel_rfl)
theorem tree_node_clone_call : Callable PP 39 := callable_of (fn := Go.Proofs.Try.f39) (by kernel_rfl) (by kernel_rfl) (by kernel_rfl)
theorem tree_node_clone_ok : SoundFn PP 39 (tree_node_clone) := by
 exact fn_ok (P := PP) (fn := Go.Proofs.Try.f39) 1 mix_ok (by kernel_rfl) (SoundTab.cons slices_Clone_Suint64_uint64_call slices_Clone_Suint64_uint64_ok (SoundTab.cons slices_Clone_Sapi_Extent_api_Extent_call slices_Clone_Sapi_Extent_api_Extent_ok (SoundTab.cons slices_Clone_S_tree_node_tree_node_call slices_Clone_S_tree_node_tree_node_ok (SoundTab.nil)))) (SoundNames.nil') (fun args objs hl => match args, hl with | [a0], _ => (evalF_same _ _ _).trans (tree_node_clone_eq a0 objs)) (fun args objs hl => match args, hl with | [], _ => rfl | [_], hl => absurd rfl hl | _ :: _ :: _, _ => rfl)
theorem slices_Insert_Suint64_uint64_ok : SoundFn PP 40 (primInsert 1 8) := insert40
theorem slices_Insert_Suint64_uint64_call : Callable PP 40 := callable_of (fn := Go.Proofs.Try.f40) (by kernel_rfl) (by kernel_rfl) (by kernel_rfl)
theorem slices_Insert_Sapi_Extent_api_Extent_ok : SoundFn PP 41 (primInsert 2 16) := insert41
theorem slices_Insert_Sapi_Extent_api_Extent_call : Callable PP 41 := callable_of (fn := Go.Proofs.Try.f41) (by kernel_rfl) (by kernel_rfl) (by kernel_rfl)
theorem tree_node_split_call : Callable PP 42 := callable_of (fn := Go.Proofs.Try.f42) (by kernel_rfl) (by kernel_rfl) (by kernel_rfl)
theorem tree_node_split_ok : SoundFn PP 42 (tree_node_split) := by
 exact fn_ok (P := PP) (fn := Go.Proofs.Try.f42) 1 mix_ok (by kernel_rfl) (SoundTab.cons slices_Clone_Suint64_uint64_call slices_Clone_Suint64_uint64_ok (SoundTab.cons slices_Clone_Sapi_Extent_api_Extent_call slices_Clone_Sapi_Extent_api_Extent_ok (SoundTab.cons slices_Clone_S_tree_node_tree_node_call slices_Clone_S_tree_node_tree_node_ok (SoundTab.cons tree_node_leaf_call tree_node_leaf_ok (SoundTab.nil))))) (SoundNames.nil') (fun args objs hl => match args, hl with | [a0], _ => (evalF_same _ _ _).trans (tree_node_split_eq a0 objs)) (fun args objs hl => match args, hl with | [], _ => rfl | [_], hl => absurd rfl hl | _ :: _ :: _, _ => rfl)
theorem slices_Insert_S_tree_node_tree_node_ok : SoundFn PP 43 (primInsert 1 8) := insert43
theorem slices_Insert_S_tree_node_tree_node_call : Callable PP 43 := callable_of (fn := Go.Proofs.Try.f43) (by kernel_rfl) (by kernel_rfl) (by kernel_rfl)
theorem tree_node_put_call : Callable PP 31 := callable_of (fn := Go.Proofs.Try.f31) (by kernel_rfl) (by kernel_rfl) (by kernel_rfl)
theorem tree_node_put_step_ok (self : CallFn) (hself : SoundFn PP 31 self) : SoundFn PP 31 (tree_node_put_step self) := by
 have me_call := tree_node_put_call
 exact fn_ok (P := PP) (fn := Go.Proofs.Try.f31) 3 mix_ok (by kernel_rfl) (SoundTab.cons slices_Insert_Suint64_uint64_call slices_Insert_Suint64_uint64_ok (SoundTab.cons slices_Insert_Sapi_Extent_api_Extent_call slices_Insert_Sapi_Extent_api_Extent_ok (SoundTab.cons slices_Insert_S_tree_node_tree_node_call slices_Insert_S_tree_node_tree_node_ok (SoundTab.cons slices_BinarySearch_Suint64_uint64_call slices_BinarySearch_Suint64_uint64_ok (SoundTab.cons tree_node_way_call tree_node_way_ok (SoundTab.cons tree_node_split_call tree_node_split_ok (SoundTab.cons me_call hself (SoundTab.cons tree_node_leaf_call tree_node_leaf_ok (SoundTab.cons tree_node_clone_call tree_node_clone_ok (SoundTab.nil)))))))))) (SoundNames.nil') (fun args objs hl => match args, hl with | [a0, a1, a2], _ => (evalF_same _ _ _).trans (tree_node_put_eq self a0 a1 a2 objs)) (fun args objs hl => match args, hl with | [], _ => rfl | [_], _ => rfl | [_, _], _ => rfl | [_, _, _], hl => absurd rfl hl | _ :: _ :: _ :: _ :: _, _ => rfl)
theorem tree_node_put_ok : ∀ n, SoundFn PP 31 (tree_node_put n)
 | 0 => SoundFn.none 31
 | n + 1 => tree_node_put_step_ok _ (tree_node_put_ok n)
theorem tree_Tree_Put_call : Callable PP 17 := callable_of (fn := Go.Proofs.Try.f17) (by kernel_rfl) (by kernel_rfl) (by kernel_rfl)
theorem tree_Tree_Put_ok : SoundFn PP 17 (tree_Tree_Put) := by
 exact fn_ok (P := PP) (fn := Go.Proofs.Try.f17) 3 mix_ok (by kernel_rfl) (SoundTab.cons tree_node_put_call (tree_node_put_ok big) (SoundTab.cons tree_Tree_Get_call tree_Tree_Get_ok (SoundTab.nil))) (SoundNames.nil') (fun args objs hl => match args, hl with | [a0, a1, a2], _ => (evalF_same _ _ _).trans (tree_Tree_Put_eq a0 a1 a2 objs)) (fun args objs hl => match args, hl with | [], _ => rfl | [_], _ => rfl | [_, _], _ => rfl | [_, _, _], hl => absurd rfl hl | _ :: _ :: _ :: _ :: _, _ => rfl)
theorem tree_Tree_Range_c1_call : Callable PP 26 := callable_of (fn := Go.Proofs.Try.f26) (by kernel_rfl) (by kernel_rfl) (by kernel_rfl)
theorem tree_Tree_Range_c1_ok : SoundFn PP 26 (tree_Tree_Range_c1) := by
 exact fn_ok (P := PP) (fn := Go.Proofs.Try.f26) 3 mix_ok (by kernel_rfl) (SoundTab.nil) (SoundNames.nil') (fun args objs hl => match args, hl with | [a0, a1, a2], _ => (evalF_same _ _ _).trans (tree_Tree_Range_c1_eq a0 a1 a2 objs)) (fun args objs hl => match args, hl with | [], _ => rfl | [_], _ => rfl | [_, _], _ => rfl | [_, _, _], hl => absurd rfl hl | _ :: _ :: _ :: _ :: _, _ => rfl)
theorem tree_node_visit_call : Callable PP 25 := callable_of (fn := Go.Proofs.Try.f25) (by kernel_rfl) (by kernel_rfl) (by kernel_rfl)
theorem tree_node_visit_step_ok (En : String → CallFn) (hEn : SoundNames PP En) (self : CallFn) (hself : SoundFn PP 25 self) : SoundFn PP 25 (tree_node_visit_step En self) := by
 have me_call := tree_node_visit_call
 exact fn_ok (P := PP) (fn := Go.Proofs.Try.f25) 3 mix_ok (by kernel_rfl) (SoundTab.cons tree_node_way_call tree_node_way_ok (SoundTab.cons me_call hself (SoundTab.cons tree_node_leaf_call tree_node_leaf_ok (SoundTab.nil)))) (hEn) (fun args objs hl => match args, hl with | [a0, a1, a2], _ => (evalF_same _ _ _).trans (tree_node_visit_eq En self a0 a1 a2 objs)) (fun args objs hl => match args, hl with | [], _ => rfl | [_], _ => rfl | [_, _], _ => rfl | [_, _, _], hl => absurd rfl hl | _ :: _ :: _ :: _ :: _, _ => rfl)
theorem tree_node_visit_ok (En : String → CallFn) (hEn : SoundNames PP En) : ∀ n, SoundFn PP 25 (tree_node_visit En n)
 | 0 => SoundFn.none 25
 | n + 1 => tree_node_visit_step_ok En hEn _ (tree_node_visit_ok En hEn n)
theorem tree_Tree_Range_call : Callable PP 12 := callable_of (fn := Go.Proofs.Try.f12) (by kernel_rfl) (by kernel_rfl) (by kernel_rfl)
theorem En_tree_Tree_Range_ok : SoundNames PP (En_tree_Tree_Range) := SoundNames.cons (by kernel_rfl) tree_Tree_Range_c1_call tree_Tree_Range_c1_ok (SoundNames.nil)
theorem tree_Tree_Range_ok : SoundFn PP 12 (tree_Tree_Range) := by
 have hEn := En_tree_Tree_Range_ok; exact fn_ok (P := PP) (fn := Go.Proofs.Try.f12) 3 mix_ok (by kernel_rfl) (SoundTab.cons tree_node_visit_call ((tree_node_visit_ok (En_tree_Tree_Range) hEn) big) (SoundTab.cons tree_Tree_Range_c1_call tree_Tree_Range_c1_ok (SoundTab.nil))) (hEn) (fun args objs hl => match args, hl with | [a0, a1, a2], _ => (evalF_same _ _ _).trans (tree_Tree_Range_eq a0 a1 a2 objs)) (fun args objs hl => match args, hl with | [], _ => rfl | [_], _ => rfl | [_, _], _ => rfl | [_, _, _], hl => absurd rfl hl | _ :: _ :: _ :: _ :: _, _ => rfl)
theorem tree_node_list_call : Callable PP 30 := callable_of (fn := Go.Proofs.Try.f30) (by kernel_rfl) (by kernel_rfl) (by kernel_rfl)
theorem tree_node_list_step_ok (self : CallFn) (hself : SoundFn PP 30 self) : SoundFn PP 30 (tree_node_list_step self) := by
 have me_call := tree_node_list_call
 exact fn_ok (P := PP) (fn := Go.Proofs.Try.f30) 2 mix_ok (by kernel_rfl) (SoundTab.cons slices_Clone_Suint64_uint64_call slices_Clone_Suint64_uint64_ok (SoundTab.cons slices_Clone_Sapi_Extent_api_Extent_call slices_Clone_Sapi_Extent_api_Extent_ok (SoundTab.cons me_call hself (SoundTab.nil)))) (SoundNames.nil') (fun args objs hl => match args, hl with | [a0, a1], _ => (evalF_same _ _ _).trans (tree_node_list_eq self a0 a1 objs)) (fun args objs hl => match args, hl with | [], _ => rfl | [_], _ => rfl | [_, _], hl => absurd rfl hl | _ :: _ :: _ :: _, _ => rfl)
theorem tree_node_list_ok : ∀ n, SoundFn PP 30 (tree_node_list n)
 | 0 => SoundFn.none 30
 | n + 1 => tree_node_list_step_ok _ (tree_node_list_ok n)
theorem tree_Tree_Nodes_call : Callable PP 16 := callable_of (fn := Go.Proofs.Try.f16) (by kernel_rfl) (by kernel_rfl) (by kernel_rfl)
theorem tree_Tree_Nodes_ok : SoundFn PP 16 (tree_Tree_Nodes) := by
 exact fn_ok (P := PP) (fn := Go.Proofs.Try.f16) 1 mix_ok (by kernel_rfl) (SoundTab.cons tree_node_list_call (tree_node_list_ok big) (SoundTab.nil)) (SoundNames.nil') (fun args objs hl => match args, hl with | [a0], _ => (evalF_same _ _ _).trans (tree_Tree_Nodes_eq a0 objs)) (fun args objs hl => match args, hl with | [], _ => rfl | [_], hl => absurd rfl hl | _ :: _ :: _, _ => rfl)
theorem law08_treeAlive_call : Callable PP 8 := callable_of (fn := Go.Proofs.Try.f8) (by kernel_rfl) (by kernel_rfl) (by kernel_rfl)
theorem law08_treeAlive_ok : SoundFn PP 8 (law08_treeAlive) := by
 exact fn_ok (P := PP) (fn := Go.Proofs.Try.f8) 0 mix_ok (by kernel_rfl) (SoundTab.cons tree_New_call tree_New_ok (SoundTab.cons tree_Tree_Range_call tree_Tree_Range_ok (SoundTab.cons tree_Tree_Put_call tree_Tree_Put_ok (SoundTab.cons tree_Tree_Nodes_call tree_Tree_Nodes_ok (SoundTab.cons tree_Tree_Len_call tree_Tree_Len_ok (SoundTab.nil)))))) (SoundNames.nil') (fun args objs hl => match args, hl with | [], _ => (evalF_same _ _ _).trans (law08_treeAlive_eq objs)) (fun args objs hl => by cases args with | nil => exact absurd rfl hl | cons a r => rfl)
theorem ref08_Put_call : Callable PP 22 := callable_of (fn := Go.Proofs.Try.f22) (by kernel_rfl) (by kernel_rfl) (by kernel_rfl)
theorem ref08_Put_ok : SoundFn PP 22 (ref08_Put) := by
 exact fn_ok (P := PP) (fn := Go.Proofs.Try.f22) 3 mix_ok (by kernel_rfl) (SoundTab.nil) (SoundNames.nil') (fun args objs hl => match args, hl with | [a0, a1, a2], _ => (evalF_same _ _ _).trans (ref08_Put_eq a0 a1 a2 objs)) (fun args objs hl => match args, hl with | [], _ => rfl | [_], _ => rfl | [_, _], _ => rfl | [_, _, _], hl => absurd rfl hl | _ :: _ :: _ :: _ :: _, _ => rfl)
theorem slices_Delete_Suint64_uint64_ok : SoundFn PP 44 (primDelete 1 8) := delete44
theorem slices_Delete_Suint64_uint64_call : Callable PP 44 := callable_of (fn := Go.Proofs.Try.f44) (by kernel_rfl) (by kernel_rfl) (by kernel_rfl)
theorem slices_Delete_Sapi_Extent_api_Extent_ok : SoundFn PP 45 (primDelete 2 16) := delete45
theorem slices_Delete_Sapi_Extent_api_Extent_call : Callable PP 45 := callable_of (fn := Go.Proofs.Try.f45) (by kernel_rfl) (by kernel_rfl) (by kernel_rfl)
theorem slices_Grow_Sapi_Extent_api_Extent_ok : SoundFn PP 67 (primGrow 2 16) := grow67
theorem slices_Grow_Sapi_Extent_api_Extent_call : Callable PP 67 := callable_of (fn := Go.Proofs.Try.f67) (by kernel_rfl) (by kernel_rfl) (by kernel_rfl)
theorem slices_Concat_Sapi_Extent_api_Extent_call : Callable PP 60 := callable_of (fn := Go.Proofs.Try.f60) (by kernel_rfl) (by kernel_rfl) (by kernel_rfl)
theorem slices_Concat_Sapi_Extent_api_Extent_ok : SoundFn PP 60 (slices_Concat_Sapi_Extent_api_Extent) := by
 exact fn_ok (P := PP) (fn := Go.Proofs.Try.f60) 1 mix_ok (by kernel_rfl) (SoundTab.cons slices_Grow_Sapi_Extent_api_Extent_call slices_Grow_Sapi_Extent_api_Extent_ok (SoundTab.nil)) (SoundNames.nil') (fun args objs hl => match args, hl with | [a0], _ => (evalF_same _ _ _).trans (slices_Concat_Sapi_Extent_api_Extent_eq a0 objs)) (fun args objs hl => match args, hl with | [], _ => rfl | [_], hl => absurd rfl hl | _ :: _ :: _, _ => rfl)
theorem slices_Grow_S_tree_node_tree_node_ok : SoundFn PP 68 (primGrow 1 8) := grow68
theorem slices_Grow_S_tree_node_tree_node_call : Callable PP 68 := callable_of (fn := Go.Proofs.Try.f68) (by kernel_rfl) (by kernel_rfl) (by kernel_rfl)
theorem slices_Concat_S_tree_node_tree_node_call : Callable PP 61 := callable_of (fn := Go.Proofs.Try.f61) (by kernel_rfl) (by kernel_rfl) (by kernel_rfl)
theorem slices_Concat_S_tree_node_tree_node_ok : SoundFn PP 61 (slices_Concat_S_tree_node_tree_node) := by
 exact fn_ok (P := PP) (fn := Go.Proofs.Try.f61) 1 mix_ok (by kernel_rfl) (SoundTab.cons slices_Grow_S_tree_node_tree_node_call slices_Grow_S_tree_node_tree_node_ok (SoundTab.nil)) (SoundNames.nil') (fun args objs hl => match args, hl with | [a0], _ => (evalF_same _ _ _).trans (slices_Concat_S_tree_node_tree_node_eq a0 objs)) (fun args objs hl => match args, hl with | [], _ => rfl | [_], hl => absurd rfl hl | _ :: _ :: _, _ => rfl)
theorem slices_Delete_S_tree_node_tree_node_ok : SoundFn PP 62 (primDelete 1 8) := delete62
theorem slices_Delete_S_tree_node_tree_node_call : Callable PP 62 := callable_of (fn := Go.Proofs.Try.f62) (by kernel_rfl) (by kernel_rfl) (by kernel_rfl)
theorem tree_node_mend_call : Callable PP 46 := callable_of (fn := Go.Proofs.Try.f46) (by kernel_rfl) (by kernel_rfl) (by kernel_rfl)
theorem tree_node_mend_ok : SoundFn PP 46 (tree_node_mend) := by
 exact fn_ok (P := PP) (fn := Go.Proofs.Try.f46) 2 mix_ok (by kernel_rfl) (SoundTab.cons slices_Delete_Suint64_uint64_call slices_Delete_Suint64_uint64_ok (SoundTab.cons slices_Delete_S_tree_node_tree_node_call slices_Delete_S_tree_node_tree_node_ok (SoundTab.cons slices_Concat_Sapi_Extent_api_Extent_call slices_Concat_Sapi_Extent_api_Extent_ok (SoundTab.cons slices_Concat_S_tree_node_tree_node_call slices_Concat_S_tree_node_tree_node_ok (SoundTab.cons slices_Clone_Suint64_uint64_call slices_Clone_Suint64_uint64_ok (SoundTab.cons tree_node_split_call tree_node_split_ok (SoundTab.cons tree_node_leaf_call tree_node_leaf_ok (SoundTab.nil)))))))) (SoundNames.nil') (fun args objs hl => match args, hl with | [a0, a1], _ => (evalF_same _ _ _).trans (tree_node_mend_eq a0 a1 objs)) (fun args objs hl => match args, hl with | [], _ => rfl | [_], _ => rfl | [_, _], hl => absurd rfl hl | _ :: _ :: _ :: _, _ => rfl)
theorem tree_node_del_call : Callable PP 32 := callable_of (fn := Go.Proofs.Try.f32) (by kernel_rfl) (by kernel_rfl) (by kernel_rfl)
theorem tree_node_del_step_ok (self : CallFn) (hself : SoundFn PP 32 self) : SoundFn PP 32 (tree_node_del_step self) := by
 have me_call := tree_node_del_call
 exact fn_ok (P := PP) (fn := Go.Proofs.Try.f32) 2 mix_ok (by kernel_rfl) (SoundTab.cons slices_Delete_Suint64_uint64_call slices_Delete_Suint64_uint64_ok (SoundTab.cons slices_Delete_Sapi_Extent_api_Extent_call slices_Delete_Sapi_Extent_api_Extent_ok (SoundTab.cons slices_BinarySearch_Suint64_uint64_call slices_BinarySearch_Suint64_uint64_ok (SoundTab.cons tree_node_way_call tree_node_way_ok (SoundTab.cons tree_node_mend_call tree_node_mend_ok (SoundTab.cons tree_node_leaf_call tree_node_leaf_ok (SoundTab.cons me_call hself (SoundTab.cons tree_node_clone_call tree_node_clone_ok (SoundTab.nil))))))))) (SoundNames.nil') (fun args objs hl => match args, hl with | [a0, a1], _ => (evalF_same _ _ _).trans (tree_node_del_eq self a0 a1 objs)) (fun args objs hl => match args, hl with | [], _ => rfl | [_], _ => rfl | [_, _], hl => absurd rfl hl | _ :: _ :: _ :: _, _ => rfl)
theorem tree_node_del_ok : ∀ n, SoundFn PP 32 (tree_node_del n)
 | 0 => SoundFn.none 32
 | n + 1 => tree_node_del_step_ok _ (tree_node_del_ok n)
theorem tree_Tree_Del_call : Callable PP 18 := callable_of (fn := Go.Proofs.Try.f18) (by kernel_rfl) (by kernel_rfl) (by kernel_rfl)
theorem tree_Tree_Del_ok : SoundFn PP 18 (tree_Tree_Del) := by
 exact fn_ok (P := PP) (fn := Go.Proofs.Try.f18) 2 mix_ok (by kernel_rfl) (SoundTab.cons tree_node_leaf_call tree_node_leaf_ok (SoundTab.cons tree_node_del_call (tree_node_del_ok big) (SoundTab.cons tree_Tree_Get_call tree_Tree_Get_ok (SoundTab.nil)))) (SoundNames.nil') (fun args objs hl => match args, hl with | [a0, a1], _ => (evalF_same _ _ _).trans (tree_Tree_Del_eq a0 a1 objs)) (fun args objs hl => match args, hl with | [], _ => rfl | [_], _ => rfl | [_, _], hl => absurd rfl hl | _ :: _ :: _ :: _, _ => rfl)
theorem ref08_Del_call : Callable PP 23 := callable_of (fn := Go.Proofs.Try.f23) (by kernel_rfl) (by kernel_rfl) (by kernel_rfl)
theorem ref08_Del_ok : SoundFn PP 23 (ref08_Del) := by
 exact fn_ok (P := PP) (fn := Go.Proofs.Try.f23) 2 mix_ok (by kernel_rfl) (SoundTab.nil) (SoundNames.nil') (fun args objs hl => match args, hl with | [a0, a1], _ => (evalF_same _ _ _).trans (ref08_Del_eq a0 a1 objs)) (fun args objs hl => match args, hl with | [], _ => rfl | [_], _ => rfl | [_, _], hl => absurd rfl hl | _ :: _ :: _ :: _, _ => rfl)
theorem law08_grown_call : Callable PP 9 := callable_of (fn := Go.Proofs.Try.f9) (by kernel_rfl) (by kernel_rfl) (by kernel_rfl)
theorem law08_grown_ok : SoundFn PP 9 (law08_grown) := by
 exact fn_ok (P := PP) (fn := Go.Proofs.Try.f9) 1 mix_ok (by kernel_rfl) (SoundTab.cons tree_New_call tree_New_ok (SoundTab.cons ref08_Put_call ref08_Put_ok (SoundTab.cons ref08_Del_call ref08_Del_ok (SoundTab.cons tree_Tree_Put_call tree_Tree_Put_ok (SoundTab.cons tree_Tree_Del_call tree_Tree_Del_ok (SoundTab.nil)))))) (SoundNames.nil') (fun args objs hl => match args, hl with | [a0], _ => (evalF_same _ _ _).trans (law08_grown_eq a0 objs)) (fun args objs hl => match args, hl with | [], _ => rfl | [_], hl => absurd rfl hl | _ :: _ :: _, _ => rfl)
theorem ref08_form_call : Callable PP 47 := callable_of (fn := Go.Proofs.Try.f47) (by kernel_rfl) (by kernel_rfl) (by kernel_rfl)
theorem ref08_form_ok : SoundFn PP 47 (ref08_form) := by
 exact fn_ok (P := PP) (fn := Go.Proofs.Try.f47) 2 mix_ok (by kernel_rfl) (SoundTab.nil) (SoundNames.nil') (fun args objs hl => match args, hl with | [a0, a1], _ => (evalF_same _ _ _).trans (ref08_form_eq a0 a1 objs)) (fun args objs hl => match args, hl with | [], _ => rfl | [_], _ => rfl | [_, _], hl => absurd rfl hl | _ :: _ :: _ :: _, _ => rfl)
theorem ref08_inside_call : Callable PP 48 := callable_of (fn := Go.Proofs.Try.f48) (by kernel_rfl) (by kernel_rfl) (by kernel_rfl)
theorem ref08_inside_ok : SoundFn PP 48 (ref08_inside) := by
 exact fn_ok (P := PP) (fn := Go.Proofs.Try.f48) 4 mix_ok (by kernel_rfl) (SoundTab.nil) (SoundNames.nil') (fun args objs hl => match args, hl with | [a0, a1, a2, a3], _ => (evalF_same _ _ _).trans (ref08_inside_eq a0 a1 a2 a3 objs)) (fun args objs hl => match args, hl with | [], _ => rfl | [_], _ => rfl | [_, _], _ => rfl | [_, _, _], _ => rfl | [_, _, _, _], hl => absurd rfl hl | _ :: _ :: _ :: _ :: _ :: _, _ => rfl)
theorem ref08_read_call : Callable PP 33 := callable_of (fn := Go.Proofs.Try.f33) (by kernel_rfl) (by kernel_rfl) (by kernel_rfl)
theorem ref08_read_step_ok (self : CallFn) (hself : SoundFn PP 33 self) : SoundFn PP 33 (ref08_read_step self) := by
 have me_call := ref08_read_call
 exact fn_ok (P := PP) (fn := Go.Proofs.Try.f33) 2 mix_ok (by kernel_rfl) (SoundTab.cons me_call hself (SoundTab.cons ref08_inside_call ref08_inside_ok (SoundTab.cons ref08_form_call ref08_form_ok (SoundTab.nil)))) (SoundNames.nil') (fun args objs hl => match args, hl with | [a0, a1], _ => (evalF_same _ _ _).trans (ref08_read_eq self a0 a1 objs)) (fun args objs hl => match args, hl with | [], _ => rfl | [_], _ => rfl | [_, _], hl => absurd rfl hl | _ :: _ :: _ :: _, _ => rfl)
theorem ref08_read_ok : ∀ n, SoundFn PP 33 (ref08_read n)
 | 0 => SoundFn.none 33
 | n + 1 => ref08_read_step_ok _ (ref08_read_ok n)
theorem ref08_Read_call : Callable PP 19 := callable_of (fn := Go.Proofs.Try.f19) (by kernel_rfl) (by kernel_rfl) (by kernel_rfl)
theorem ref08_Read_ok : SoundFn PP 19 (ref08_Read) := by
 exact fn_ok (P := PP) (fn := Go.Proofs.Try.f19) 1 mix_ok (by kernel_rfl) (SoundTab.cons ref08_read_call (ref08_read_ok big) (SoundTab.nil)) (SoundNames.nil') (fun args objs hl => match args, hl with | [a0], _ => (evalF_same _ _ _).trans (ref08_Read_eq a0 objs)) (fun args objs hl => match args, hl with | [], _ => rfl | [_], hl => absurd rfl hl | _ :: _ :: _, _ => rfl)
theorem ref08_Same_call : Callable PP 11 := callable_of (fn := Go.Proofs.Try.f11) (by kernel_rfl) (by kernel_rfl) (by kernel_rfl)
theorem ref08_Same_ok : SoundFn PP 11 (ref08_Same) := by
 exact fn_ok (P := PP) (fn := Go.Proofs.Try.f11) 2 mix_ok (by kernel_rfl) (SoundTab.nil) (SoundNames.nil') (fun args objs hl => match args, hl with | [a0, a1], _ => (evalF_same _ _ _).trans (ref08_Same_eq a0 a1 objs)) (fun args objs hl => match args, hl with | [], _ => rfl | [_], _ => rfl | [_, _], hl => absurd rfl hl | _ :: _ :: _ :: _, _ => rfl)
theorem tree_reader_fits_call : Callable PP 49 := callable_of (fn := Go.Proofs.Try.f49) (by kernel_rfl) (by kernel_rfl) (by kernel_rfl)
theorem tree_reader_fits_ok : SoundFn PP 49 (tree_reader_fits) := by
 exact fn_ok (P := PP) (fn := Go.Proofs.Try.f49) 3 mix_ok (by kernel_rfl) (SoundTab.nil) (SoundNames.nil') (fun args objs hl => match args, hl with | [a0, a1, a2], _ => (evalF_same _ _ _).trans (tree_reader_fits_eq a0 a1 a2 objs)) (fun args objs hl => match args, hl with | [], _ => rfl | [_], _ => rfl | [_, _], _ => rfl | [_, _, _], hl => absurd rfl hl | _ :: _ :: _ :: _ :: _, _ => rfl)
theorem tree_bounds_outside_call : Callable PP 51 := callable_of (fn := Go.Proofs.Try.f51) (by kernel_rfl) (by kernel_rfl) (by kernel_rfl)
theorem tree_bounds_outside_ok : SoundFn PP 51 (tree_bounds_outside) := by
 exact fn_ok (P := PP) (fn := Go.Proofs.Try.f51) 2 mix_ok (by kernel_rfl) (SoundTab.nil) (SoundNames.nil') (fun args objs hl => match args, hl with | [a0, a1], _ => (evalF_same _ _ _).trans (tree_bounds_outside_eq a0 a1 objs)) (fun args objs hl => match args, hl with | [], _ => rfl | [_], _ => rfl | [_, _], hl => absurd rfl hl | _ :: _ :: _ :: _, _ => rfl)
theorem slices_IndexFunc_Suint64_uint64_call : Callable PP 63 := callable_of (fn := Go.Proofs.Try.f63) (by kernel_rfl) (by kernel_rfl) (by kernel_rfl)
theorem slices_IndexFunc_Suint64_uint64_ok (En : String → CallFn) (hEn : SoundNames PP En) : SoundFn PP 63 (slices_IndexFunc_Suint64_uint64 En) := by
 exact fn_ok (P := PP) (fn := Go.Proofs.Try.f63) 2 mix_ok (by kernel_rfl) (SoundTab.nil) (hEn) (fun args objs hl => match args, hl with | [a0, a1], _ => (evalF_same _ _ _).trans (slices_IndexFunc_Suint64_uint64_eq En a0 a1 objs)) (fun args objs hl => match args, hl with | [], _ => rfl | [_], _ => rfl | [_, _], hl => absurd rfl hl | _ :: _ :: _ :: _, _ => rfl)
theorem slices_ContainsFunc_Suint64_uint64_call : Callable PP 50 := callable_of (fn := Go.Proofs.Try.f50) (by kernel_rfl) (by kernel_rfl) (by kernel_rfl)
theorem slices_ContainsFunc_Suint64_uint64_ok (En : String → CallFn) (hEn : SoundNames PP En) : SoundFn PP 50 (slices_ContainsFunc_Suint64_uint64 En) := by
 exact fn_ok (P := PP) (fn := Go.Proofs.Try.f50) 2 mix_ok (by kernel_rfl) (SoundTab.cons slices_IndexFunc_Suint64_uint64_call (slices_IndexFunc_Suint64_uint64_ok En hEn) (SoundTab.nil)) (hEn) (fun args objs hl => match args, hl with | [a0, a1], _ => (evalF_same _ _ _).trans (slices_ContainsFunc_Suint64_uint64_eq En a0 a1 objs)) (fun args objs hl => match args, hl with | [], _ => rfl | [_], _ => rfl | [_, _], hl => absurd rfl hl | _ :: _ :: _ :: _, _ => rfl)
theorem tree_reader_node_call : Callable PP 34 := callable_of (fn := Go.Proofs.Try.f34) (by kernel_rfl) (by kernel_rfl) (by kernel_rfl)
theorem En_tree_reader_node_ok : SoundNames PP (En_tree_reader_node) := SoundNames.cons (by kernel_rfl) tree_bounds_outside_call tree_bounds_outside_ok (SoundNames.nil)
theorem tree_reader_node_step_ok (self : CallFn) (hself : SoundFn PP 34 self) : SoundFn PP 34 (tree_reader_node_step self) := by
 have me_call := tree_reader_node_call
 have hEn := En_tree_reader_node_ok; exact fn_ok (P := PP) (fn := Go.Proofs.Try.f34) 4 mix_ok (by kernel_rfl) (SoundTab.cons slices_ContainsFunc_Suint64_uint64_call (slices_ContainsFunc_Suint64_uint64_ok (En_tree_reader_node) hEn) (SoundTab.cons slices_Clone_Suint64_uint64_call slices_Clone_Suint64_uint64_ok (SoundTab.cons slices_Clone_Sapi_Extent_api_Extent_call slices_Clone_Sapi_Extent_api_Extent_ok (SoundTab.cons tree_bounds_outside_call tree_bounds_outside_ok (SoundTab.cons me_call hself (SoundTab.cons tree_reader_fits_call tree_reader_fits_ok (SoundTab.nil))))))) (hEn) (fun args objs hl => match args, hl with | [a0, a1, a2, a3], _ => (evalF_same _ _ _).trans (tree_reader_node_eq self a0 a1 a2 a3 objs)) (fun args objs hl => match args, hl with | [], _ => rfl | [_], _ => rfl | [_, _], _ => rfl | [_, _, _], _ => rfl | [_, _, _, _], hl => absurd rfl hl | _ :: _ :: _ :: _ :: _ :: _, _ => rfl)
theorem tree_reader_node_ok : ∀ n, SoundFn PP 34 (tree_reader_node n)
 | 0 => SoundFn.none 34
 | n + 1 => tree_reader_node_step_ok _ (tree_reader_node_ok n)
theorem tree_Of_call : Callable PP 20 := callable_of (fn := Go.Proofs.Try.f20) (by kernel_rfl) (by kernel_rfl) (by kernel_rfl)
theorem tree_Of_ok : SoundFn PP 20 (tree_Of) := by
 exact fn_ok (P := PP) (fn := Go.Proofs.Try.f20) 1 mix_ok (by kernel_rfl) (SoundTab.cons tree_reader_node_call (tree_reader_node_ok big) (SoundTab.nil)) (SoundNames.nil') (fun args objs hl => match args, hl with | [a0], _ => (evalF_same _ _ _).trans (tree_Of_eq a0 objs)) (fun args objs hl => match args, hl with | [], _ => rfl | [_], hl => absurd rfl hl | _ :: _ :: _, _ => rfl)
theorem law08_TreeShapes_ok : SoundFn PP 6 (law08_TreeShapes) := by
 exact fn_ok (P := PP) (fn := Go.Proofs.Try.f6) 1 mix_ok (by kernel_rfl) (SoundTab.cons tree_Of_call tree_Of_ok (SoundTab.cons ref08_Same_call ref08_Same_ok (SoundTab.cons ref08_Read_call ref08_Read_ok (SoundTab.cons law08_treeAlive_call law08_treeAlive_ok (SoundTab.cons law08_grown_call law08_grown_ok (SoundTab.cons tree_Tree_Range_call tree_Tree_Range_ok (SoundTab.cons tree_Tree_Nodes_call tree_Tree_Nodes_ok (SoundTab.cons tree_Tree_Len_call tree_Tree_Len_ok (SoundTab.nil))))))))) (SoundNames.nil') (fun args objs hl => match args, hl with | [a0], _ => (evalF_same _ _ _).trans (law08_TreeShapes_eq a0 objs)) (fun args objs hl => match args, hl with | [], _ => rfl | [_], hl => absurd rfl hl | _ :: _ :: _, _ => rfl)
end Go.Ab.F
