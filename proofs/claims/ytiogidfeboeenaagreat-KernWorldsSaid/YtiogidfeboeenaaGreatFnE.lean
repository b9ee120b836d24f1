/-
  THAT THE PROGRAM'S FUNCTIONS ARE WHAT THEIR WALKS COME TO. Written by a program (emit.py).
-/
import Derived.Test.YtiogidfeboeenaaGreatFnQ0
import Derived.Test.YtiogidfeboeenaaGreatFnQ1
import Derived.Test.YtiogidfeboeenaaGreatFnQ2
import Derived.Test.YtiogidfeboeenaaGreatFnQ3
import Derived.Test.YtiogidfeboeenaaGreatFnW
import Derived.Test.YtiogidfeboeenaaGreatAbsDefer
import Derived.KernelRfl
set_option maxRecDepth 100000
set_option linter.unusedVariables false
namespace Go.Ab.F
open Go Go.Ab Go.Proofs
noncomputable abbrev PP : Program := Go.Proofs.Tryz.prog
theorem mix_ok : PP.follows .mixedOrders = true := by kernel_rfl
theorem kern_World_call : Callable PP 6 := callable_of (fn := Go.Proofs.Tryz.f6) (by kernel_rfl) (by kernel_rfl) (by kernel_rfl)
theorem kern_World_ok : SoundFn PP 6 (kern_World) := by
  exact fn_ok (P := PP) (fn := Go.Proofs.Tryz.f6) 1 mix_ok (by kernel_rfl) (SoundTab.nil) (SoundNames.nil') (fun args objs hl => match args, hl with | [a0], _ => (evalF_same _ _ _).trans (kern_World_eq a0 objs)) (fun args objs hl => match args, hl with | [], _ => rfl | [_], hl => absurd rfl hl | _ :: _ :: _, _ => rfl)
theorem slices_BinarySearchFunc_Sapi_Thing_api_Thing_uint64_call : Callable PP 71 := callable_of (fn := Go.Proofs.Tryz.f71) (by kernel_rfl) (by kernel_rfl) (by kernel_rfl)
theorem slices_BinarySearchFunc_Sapi_Thing_api_Thing_uint64_ok (En : String → CallFn) (hEn : SoundNames PP En) : SoundFn PP 71 (slices_BinarySearchFunc_Sapi_Thing_api_Thing_uint64 En) := by
  exact fn_ok (P := PP) (fn := Go.Proofs.Tryz.f71) 3 mix_ok (by kernel_rfl) (SoundTab.nil) (hEn) (fun args objs hl => match args, hl with | [a0, a1, a2], _ => (evalF_same _ _ _).trans (slices_BinarySearchFunc_Sapi_Thing_api_Thing_uint64_eq En a0 a1 a2 objs)) (fun args objs hl => match args, hl with | [], _ => rfl | [_], _ => rfl | [_, _], _ => rfl | [_, _, _], hl => absurd rfl hl | _ :: _ :: _ :: _ :: _, _ => rfl)
theorem cmp_isNaN_uint64_call : Callable PP 101 := callable_of (fn := Go.Proofs.Tryz.f101) (by kernel_rfl) (by kernel_rfl) (by kernel_rfl)
theorem cmp_isNaN_uint64_ok : SoundFn PP 101 (cmp_isNaN_uint64) := by
  exact fn_ok (P := PP) (fn := Go.Proofs.Tryz.f101) 1 mix_ok (by kernel_rfl) (SoundTab.nil) (SoundNames.nil') (fun args objs hl => match args, hl with | [a0], _ => (evalF_same _ _ _).trans (cmp_isNaN_uint64_eq a0 objs)) (fun args objs hl => match args, hl with | [], _ => rfl | [_], hl => absurd rfl hl | _ :: _ :: _, _ => rfl)
theorem cmp_Compare_uint64_call : Callable PP 73 := callable_of (fn := Go.Proofs.Tryz.f73) (by kernel_rfl) (by kernel_rfl) (by kernel_rfl)
theorem cmp_Compare_uint64_ok : SoundFn PP 73 (cmp_Compare_uint64) := by
  exact fn_ok (P := PP) (fn := Go.Proofs.Tryz.f73) 2 mix_ok (by kernel_rfl) (SoundTab.cons cmp_isNaN_uint64_call cmp_isNaN_uint64_ok (SoundTab.nil)) (SoundNames.nil') (fun args objs hl => match args, hl with | [a0, a1], _ => (evalF_same _ _ _).trans (cmp_Compare_uint64_eq a0 a1 objs)) (fun args objs hl => match args, hl with | [], _ => rfl | [_], _ => rfl | [_, _], hl => absurd rfl hl | _ :: _ :: _ :: _, _ => rfl)
theorem graph_place_c1_call : Callable PP 72 := callable_of (fn := Go.Proofs.Tryz.f72) (by kernel_rfl) (by kernel_rfl) (by kernel_rfl)
theorem graph_place_c1_ok : SoundFn PP 72 (graph_place_c1) := by
  exact fn_ok (P := PP) (fn := Go.Proofs.Tryz.f72) 2 mix_ok (by kernel_rfl) (SoundTab.cons cmp_Compare_uint64_call cmp_Compare_uint64_ok (SoundTab.nil)) (SoundNames.nil') (fun args objs hl => match args, hl with | [a0, a1], _ => (evalF_same _ _ _).trans (graph_place_c1_eq a0 a1 objs)) (fun args objs hl => match args, hl with | [], _ => rfl | [_], _ => rfl | [_, _], hl => absurd rfl hl | _ :: _ :: _ :: _, _ => rfl)
theorem graph_place_call : Callable PP 43 := callable_of (fn := Go.Proofs.Tryz.f43) (by kernel_rfl) (by kernel_rfl) (by kernel_rfl)
theorem En_graph_place_ok : SoundNames PP (En_graph_place) := SoundNames.cons (by kernel_rfl) graph_place_c1_call graph_place_c1_ok (SoundNames.nil)
theorem graph_place_ok : SoundFn PP 43 (graph_place) := by
  have hEn := En_graph_place_ok; exact fn_ok (P := PP) (fn := Go.Proofs.Tryz.f43) 2 mix_ok (by kernel_rfl) (SoundTab.cons slices_BinarySearchFunc_Sapi_Thing_api_Thing_uint64_call (slices_BinarySearchFunc_Sapi_Thing_api_Thing_uint64_ok (En_graph_place) hEn) (SoundTab.cons graph_place_c1_call graph_place_c1_ok (SoundTab.nil))) (hEn) (fun args objs hl => match args, hl with | [a0, a1], _ => (evalF_same _ _ _).trans (graph_place_eq a0 a1 objs)) (fun args objs hl => match args, hl with | [], _ => rfl | [_], _ => rfl | [_, _], hl => absurd rfl hl | _ :: _ :: _ :: _, _ => rfl)
theorem slices_Clone_Sapi_Cat_api_Cat_ok : SoundFn PP 29 (primClone 2 16) := clone29
theorem slices_Clone_Sapi_Cat_api_Cat_call : Callable PP 29 := callable_of (fn := Go.Proofs.Tryz.f29) (by kernel_rfl) (by kernel_rfl) (by kernel_rfl)
theorem slices_Clone_Sapi_Link_api_Link_ok : SoundFn PP 30 (primClone 2 16) := clone30
theorem slices_Clone_Sapi_Link_api_Link_call : Callable PP 30 := callable_of (fn := Go.Proofs.Tryz.f30) (by kernel_rfl) (by kernel_rfl) (by kernel_rfl)
theorem slices_Clone_Sbyte_byte_ok : SoundFn PP 31 (primClone 1 1) := clone31
theorem slices_Clone_Sbyte_byte_call : Callable PP 31 := callable_of (fn := Go.Proofs.Tryz.f31) (by kernel_rfl) (by kernel_rfl) (by kernel_rfl)
theorem thing_Copy_call : Callable PP 18 := callable_of (fn := Go.Proofs.Tryz.f18) (by kernel_rfl) (by kernel_rfl) (by kernel_rfl)
theorem thing_Copy_ok : SoundFn PP 18 (thing_Copy) := by
  exact fn_ok (P := PP) (fn := Go.Proofs.Tryz.f18) 1 mix_ok (by kernel_rfl) (SoundTab.cons slices_Clone_Sbyte_byte_call slices_Clone_Sbyte_byte_ok (SoundTab.cons slices_Clone_Sapi_Link_api_Link_call slices_Clone_Sapi_Link_api_Link_ok (SoundTab.cons slices_Clone_Sapi_Cat_api_Cat_call slices_Clone_Sapi_Cat_api_Cat_ok (SoundTab.nil)))) (SoundNames.nil') (fun args objs hl => match args, hl with | [a0], _ => (evalF_same _ _ _).trans (thing_Copy_eq a0 objs)) (fun args objs hl => match args, hl with | [], _ => rfl | [_], hl => absurd rfl hl | _ :: _ :: _, _ => rfl)
theorem graph_Find_call : Callable PP 32 := callable_of (fn := Go.Proofs.Tryz.f32) (by kernel_rfl) (by kernel_rfl) (by kernel_rfl)
theorem graph_Find_ok : SoundFn PP 32 (graph_Find) := by
  exact fn_ok (P := PP) (fn := Go.Proofs.Tryz.f32) 2 mix_ok (by kernel_rfl) (SoundTab.cons thing_Copy_call thing_Copy_ok (SoundTab.cons graph_place_call graph_place_ok (SoundTab.nil))) (SoundNames.nil') (fun args objs hl => match args, hl with | [a0, a1], _ => (evalF_same _ _ _).trans (graph_Find_eq a0 a1 objs)) (fun args objs hl => match args, hl with | [], _ => rfl | [_], _ => rfl | [_, _], hl => absurd rfl hl | _ :: _ :: _ :: _, _ => rfl)
theorem kern_check_call : Callable PP 33 := callable_of (fn := Go.Proofs.Tryz.f33) (by kernel_rfl) (by kernel_rfl) (by kernel_rfl)
theorem kern_check_ok : SoundFn PP 33 (kern_check) := by
  exact fn_ok (P := PP) (fn := Go.Proofs.Tryz.f33) 2 mix_ok (by kernel_rfl) (SoundTab.nil) (SoundNames.nil') (fun args objs hl => match args, hl with | [a0, a1], _ => (evalF_same _ _ _).trans (kern_check_eq a0 a1 objs)) (fun args objs hl => match args, hl with | [], _ => rfl | [_], _ => rfl | [_, _], hl => absurd rfl hl | _ :: _ :: _ :: _, _ => rfl)
theorem kern_act_find_call : Callable PP 68 := callable_of (fn := Go.Proofs.Tryz.f68) (by kernel_rfl) (by kernel_rfl) (by kernel_rfl)
theorem kern_act_find_ok : SoundFn PP 68 (kern_act_find) := by
  exact fn_ok (P := PP) (fn := Go.Proofs.Tryz.f68) 2 mix_ok (by kernel_rfl) (SoundTab.cons graph_Find_call graph_Find_ok (SoundTab.nil)) (SoundNames.nil') (fun args objs hl => match args, hl with | [a0, a1], _ => (evalF_same _ _ _).trans (kern_act_find_eq a0 a1 objs)) (fun args objs hl => match args, hl with | [], _ => rfl | [_], _ => rfl | [_, _], hl => absurd rfl hl | _ :: _ :: _ :: _, _ => rfl)
theorem gate_Who_call : Callable PP 46 := callable_of (fn := Go.Proofs.Tryz.f46) (by kernel_rfl) (by kernel_rfl) (by kernel_rfl)
theorem gate_Who_ok : SoundFn PP 46 (gate_Who) := by
  exact fn_ok (P := PP) (fn := Go.Proofs.Tryz.f46) 1 mix_ok (by kernel_rfl) (SoundTab.nil) (SoundNames.nil') (fun args objs hl => match args, hl with | [a0], _ => (evalF_same _ _ _).trans (gate_Who_eq a0 objs)) (fun args objs hl => match args, hl with | [], _ => rfl | [_], hl => absurd rfl hl | _ :: _ :: _, _ => rfl)
theorem label_turn_c1_call : Callable PP 156 := callable_of (fn := Go.Proofs.Tryz.f156) (by kernel_rfl) (by kernel_rfl) (by kernel_rfl)
theorem label_turn_c1_ok : SoundFn PP 156 (label_turn_c1) := by
  exact fn_ok (P := PP) (fn := Go.Proofs.Tryz.f156) 4 mix_ok (by kernel_rfl) (SoundTab.nil) (SoundNames.nil') (fun args objs hl => match args, hl with | [a0, a1, a2, a3], _ => (evalF_same _ _ _).trans (label_turn_c1_eq a0 a1 a2 a3 objs)) (fun args objs hl => match args, hl with | [], _ => rfl | [_], _ => rfl | [_, _], _ => rfl | [_, _, _], _ => rfl | [_, _, _, _], hl => absurd rfl hl | _ :: _ :: _ :: _ :: _ :: _, _ => rfl)
theorem slices_Grow_Sapi_Cat_api_Cat_call : Callable PP 171 := callable_of (fn := Go.Proofs.Tryz.f171) (by kernel_rfl) (by kernel_rfl) (by kernel_rfl)
theorem slices_Grow_Sapi_Cat_api_Cat_ok : SoundFn PP 171 (slices_Grow_Sapi_Cat_api_Cat) := by
  exact fn_ok (P := PP) (fn := Go.Proofs.Tryz.f171) 2 mix_ok (by kernel_rfl) (SoundTab.nil) (SoundNames.nil') (fun args objs hl => match args, hl with | [a0, a1], _ => (evalF_same _ _ _).trans (slices_Grow_Sapi_Cat_api_Cat_eq a0 a1 objs)) (fun args objs hl => match args, hl with | [], _ => rfl | [_], _ => rfl | [_, _], hl => absurd rfl hl | _ :: _ :: _ :: _, _ => rfl)
theorem slices_Concat_Sapi_Cat_api_Cat_call : Callable PP 155 := callable_of (fn := Go.Proofs.Tryz.f155) (by kernel_rfl) (by kernel_rfl) (by kernel_rfl)
theorem slices_Concat_Sapi_Cat_api_Cat_ok : SoundFn PP 155 (slices_Concat_Sapi_Cat_api_Cat) := by
  exact fn_ok (P := PP) (fn := Go.Proofs.Tryz.f155) 1 mix_ok (by kernel_rfl) (SoundTab.cons slices_Grow_Sapi_Cat_api_Cat_call slices_Grow_Sapi_Cat_api_Cat_ok (SoundTab.nil)) (SoundNames.nil') (fun args objs hl => match args, hl with | [a0], _ => (evalF_same _ _ _).trans (slices_Concat_Sapi_Cat_api_Cat_eq a0 objs)) (fun args objs hl => match args, hl with | [], _ => rfl | [_], hl => absurd rfl hl | _ :: _ :: _, _ => rfl)
theorem label_Level_call : Callable PP 133 := callable_of (fn := Go.Proofs.Tryz.f133) (by kernel_rfl) (by kernel_rfl) (by kernel_rfl)
theorem label_Level_ok : SoundFn PP 133 (label_Level) := by
  exact fn_ok (P := PP) (fn := Go.Proofs.Tryz.f133) 2 mix_ok (by kernel_rfl) (SoundTab.nil) (SoundNames.nil') (fun args objs hl => match args, hl with | [a0, a1], _ => (evalF_same _ _ _).trans (label_Level_eq a0 a1 objs)) (fun args objs hl => match args, hl with | [], _ => rfl | [_], _ => rfl | [_, _], hl => absurd rfl hl | _ :: _ :: _ :: _, _ => rfl)
theorem slices_insertionSortCmpFunc_api_Cat_call : Callable PP 180 := callable_of (fn := Go.Proofs.Tryz.f180) (by kernel_rfl) (by kernel_rfl) (by kernel_rfl)
theorem slices_insertionSortCmpFunc_api_Cat_ok (En : String → CallFn) (hEn : SoundNames PP En) : SoundFn PP 180 (slices_insertionSortCmpFunc_api_Cat En) := by
  exact fn_ok (P := PP) (fn := Go.Proofs.Tryz.f180) 4 mix_ok (by kernel_rfl) (SoundTab.nil) (hEn) (fun args objs hl => match args, hl with | [a0, a1, a2, a3], _ => (evalF_same _ _ _).trans (slices_insertionSortCmpFunc_api_Cat_eq En a0 a1 a2 a3 objs)) (fun args objs hl => match args, hl with | [], _ => rfl | [_], _ => rfl | [_, _], _ => rfl | [_, _, _], _ => rfl | [_, _, _, _], hl => absurd rfl hl | _ :: _ :: _ :: _ :: _ :: _, _ => rfl)
theorem slices_stableCmpFunc_api_Cat_call : Callable PP 170 := callable_of (fn := Go.Proofs.Tryz.f170) (by kernel_rfl) (by kernel_rfl) (by kernel_rfl)
theorem slices_stableCmpFunc_api_Cat_ok (En : String → CallFn) (hEn : SoundNames PP En) : SoundFn PP 170 (slices_stableCmpFunc_api_Cat En) := by
  exact fn_ok (P := PP) (fn := Go.Proofs.Tryz.f170) 3 mix_ok (by kernel_rfl) (SoundTab.cons slices_insertionSortCmpFunc_api_Cat_call (slices_insertionSortCmpFunc_api_Cat_ok En hEn) (SoundTab.nil)) (hEn) (fun args objs hl => match args, hl with | [a0, a1, a2], _ => (evalF_same _ _ _).trans (slices_stableCmpFunc_api_Cat_eq En a0 a1 a2 objs)) (fun args objs hl => match args, hl with | [], _ => rfl | [_], _ => rfl | [_, _], _ => rfl | [_, _, _], hl => absurd rfl hl | _ :: _ :: _ :: _ :: _, _ => rfl)
theorem slices_SortStableFunc_Sapi_Cat_api_Cat_call : Callable PP 149 := callable_of (fn := Go.Proofs.Tryz.f149) (by kernel_rfl) (by kernel_rfl) (by kernel_rfl)
theorem slices_SortStableFunc_Sapi_Cat_api_Cat_ok (En : String → CallFn) (hEn : SoundNames PP En) : SoundFn PP 149 (slices_SortStableFunc_Sapi_Cat_api_Cat En) := by
  exact fn_ok (P := PP) (fn := Go.Proofs.Tryz.f149) 2 mix_ok (by kernel_rfl) (SoundTab.cons slices_stableCmpFunc_api_Cat_call (slices_stableCmpFunc_api_Cat_ok En hEn) (SoundTab.nil)) (hEn) (fun args objs hl => match args, hl with | [a0, a1], _ => (evalF_same _ _ _).trans (slices_SortStableFunc_Sapi_Cat_api_Cat_eq En a0 a1 objs)) (fun args objs hl => match args, hl with | [], _ => rfl | [_], _ => rfl | [_, _], hl => absurd rfl hl | _ :: _ :: _ :: _, _ => rfl)
theorem label_Make_c1_call : Callable PP 150 := callable_of (fn := Go.Proofs.Tryz.f150) (by kernel_rfl) (by kernel_rfl) (by kernel_rfl)
theorem label_Make_c1_ok : SoundFn PP 150 (label_Make_c1) := by
  exact fn_ok (P := PP) (fn := Go.Proofs.Tryz.f150) 2 mix_ok (by kernel_rfl) (SoundTab.cons cmp_Compare_uint64_call cmp_Compare_uint64_ok (SoundTab.nil)) (SoundNames.nil') (fun args objs hl => match args, hl with | [a0, a1], _ => (evalF_same _ _ _).trans (label_Make_c1_eq a0 a1 objs)) (fun args objs hl => match args, hl with | [], _ => rfl | [_], _ => rfl | [_, _], hl => absurd rfl hl | _ :: _ :: _ :: _, _ => rfl)
theorem slices_CompactFunc_Sapi_Cat_api_Cat_call : Callable PP 151 := callable_of (fn := Go.Proofs.Tryz.f151) (by kernel_rfl) (by kernel_rfl) (by kernel_rfl)
theorem slices_CompactFunc_Sapi_Cat_api_Cat_ok (En : String → CallFn) (hEn : SoundNames PP En) : SoundFn PP 151 (slices_CompactFunc_Sapi_Cat_api_Cat En) := by
  exact fn_ok (P := PP) (fn := Go.Proofs.Tryz.f151) 2 mix_ok (by kernel_rfl) (SoundTab.nil) (hEn) (fun args objs hl => match args, hl with | [a0, a1], _ => (evalF_same _ _ _).trans (slices_CompactFunc_Sapi_Cat_api_Cat_eq En a0 a1 objs)) (fun args objs hl => match args, hl with | [], _ => rfl | [_], _ => rfl | [_, _], hl => absurd rfl hl | _ :: _ :: _ :: _, _ => rfl)
theorem label_Make_c2_call : Callable PP 152 := callable_of (fn := Go.Proofs.Tryz.f152) (by kernel_rfl) (by kernel_rfl) (by kernel_rfl)
theorem label_Make_c2_ok : SoundFn PP 152 (label_Make_c2) := by
  exact fn_ok (P := PP) (fn := Go.Proofs.Tryz.f152) 2 mix_ok (by kernel_rfl) (SoundTab.nil) (SoundNames.nil') (fun args objs hl => match args, hl with | [a0, a1], _ => (evalF_same _ _ _).trans (label_Make_c2_eq a0 a1 objs)) (fun args objs hl => match args, hl with | [], _ => rfl | [_], _ => rfl | [_, _], hl => absurd rfl hl | _ :: _ :: _ :: _, _ => rfl)
theorem label_Make_c3_call : Callable PP 154 := callable_of (fn := Go.Proofs.Tryz.f154) (by kernel_rfl) (by kernel_rfl) (by kernel_rfl)
theorem label_Make_c3_ok : SoundFn PP 154 (label_Make_c3) := by
  exact fn_ok (P := PP) (fn := Go.Proofs.Tryz.f154) 2 mix_ok (by kernel_rfl) (SoundTab.nil) (SoundNames.nil') (fun args objs hl => match args, hl with | [a0, a1], _ => (evalF_same _ _ _).trans (label_Make_c3_eq a0 a1 objs)) (fun args objs hl => match args, hl with | [], _ => rfl | [_], _ => rfl | [_, _], hl => absurd rfl hl | _ :: _ :: _ :: _, _ => rfl)
theorem slices_IndexFunc_Sapi_Cat_api_Cat_call : Callable PP 134 := callable_of (fn := Go.Proofs.Tryz.f134) (by kernel_rfl) (by kernel_rfl) (by kernel_rfl)
theorem slices_IndexFunc_Sapi_Cat_api_Cat_ok (En : String → CallFn) (hEn : SoundNames PP En) : SoundFn PP 134 (slices_IndexFunc_Sapi_Cat_api_Cat En) := by
  exact fn_ok (P := PP) (fn := Go.Proofs.Tryz.f134) 2 mix_ok (by kernel_rfl) (SoundTab.nil) (hEn) (fun args objs hl => match args, hl with | [a0, a1], _ => (evalF_same _ _ _).trans (slices_IndexFunc_Sapi_Cat_api_Cat_eq En a0 a1 objs)) (fun args objs hl => match args, hl with | [], _ => rfl | [_], _ => rfl | [_, _], hl => absurd rfl hl | _ :: _ :: _ :: _, _ => rfl)
theorem slices_DeleteFunc_Sapi_Cat_api_Cat_call : Callable PP 153 := callable_of (fn := Go.Proofs.Tryz.f153) (by kernel_rfl) (by kernel_rfl) (by kernel_rfl)
theorem slices_DeleteFunc_Sapi_Cat_api_Cat_ok (En : String → CallFn) (hEn : SoundNames PP En) : SoundFn PP 153 (slices_DeleteFunc_Sapi_Cat_api_Cat En) := by
  exact fn_ok (P := PP) (fn := Go.Proofs.Tryz.f153) 2 mix_ok (by kernel_rfl) (SoundTab.cons slices_IndexFunc_Sapi_Cat_api_Cat_call (slices_IndexFunc_Sapi_Cat_api_Cat_ok En hEn) (SoundTab.nil)) (hEn) (fun args objs hl => match args, hl with | [a0, a1], _ => (evalF_same _ _ _).trans (slices_DeleteFunc_Sapi_Cat_api_Cat_eq En a0 a1 objs)) (fun args objs hl => match args, hl with | [], _ => rfl | [_], _ => rfl | [_, _], hl => absurd rfl hl | _ :: _ :: _ :: _, _ => rfl)
theorem label_Make_call : Callable PP 114 := callable_of (fn := Go.Proofs.Tryz.f114) (by kernel_rfl) (by kernel_rfl) (by kernel_rfl)
theorem En_label_Make_ok : SoundNames PP (En_label_Make) := SoundNames.cons (by kernel_rfl) label_Make_c1_call label_Make_c1_ok (SoundNames.cons (by kernel_rfl) label_Make_c2_call label_Make_c2_ok (SoundNames.cons (by kernel_rfl) label_Make_c3_call label_Make_c3_ok (SoundNames.nil)))
theorem label_Make_ok : SoundFn PP 114 (label_Make) := by
  have hEn := En_label_Make_ok; exact fn_ok (P := PP) (fn := Go.Proofs.Tryz.f114) 2 mix_ok (by kernel_rfl) (SoundTab.cons slices_SortStableFunc_Sapi_Cat_api_Cat_call (slices_SortStableFunc_Sapi_Cat_api_Cat_ok (En_label_Make) hEn) (SoundTab.cons slices_DeleteFunc_Sapi_Cat_api_Cat_call (slices_DeleteFunc_Sapi_Cat_api_Cat_ok (En_label_Make) hEn) (SoundTab.cons slices_CompactFunc_Sapi_Cat_api_Cat_call (slices_CompactFunc_Sapi_Cat_api_Cat_ok (En_label_Make) hEn) (SoundTab.cons slices_Clone_Sapi_Cat_api_Cat_call slices_Clone_Sapi_Cat_api_Cat_ok (SoundTab.cons label_Make_c3_call label_Make_c3_ok (SoundTab.cons label_Make_c2_call label_Make_c2_ok (SoundTab.cons label_Make_c1_call label_Make_c1_ok (SoundTab.nil)))))))) (hEn) (fun args objs hl => match args, hl with | [a0, a1], _ => (evalF_same _ _ _).trans (label_Make_eq a0 a1 objs)) (fun args objs hl => match args, hl with | [], _ => rfl | [_], _ => rfl | [_, _], hl => absurd rfl hl | _ :: _ :: _ :: _, _ => rfl)
theorem label_merge_call : Callable PP 116 := callable_of (fn := Go.Proofs.Tryz.f116) (by kernel_rfl) (by kernel_rfl) (by kernel_rfl)
theorem label_merge_ok (En : String → CallFn) (hEn : SoundNames PP En) : SoundFn PP 116 (label_merge En) := by
  exact fn_ok (P := PP) (fn := Go.Proofs.Tryz.f116) 3 mix_ok (by kernel_rfl) (SoundTab.cons slices_Concat_Sapi_Cat_api_Cat_call slices_Concat_Sapi_Cat_api_Cat_ok (SoundTab.cons label_Make_call label_Make_ok (SoundTab.cons label_Level_call label_Level_ok (SoundTab.nil)))) (hEn) (fun args objs hl => match args, hl with | [a0, a1, a2], _ => (evalF_same _ _ _).trans (label_merge_eq En a0 a1 a2 objs)) (fun args objs hl => match args, hl with | [], _ => rfl | [_], _ => rfl | [_, _], _ => rfl | [_, _, _], hl => absurd rfl hl | _ :: _ :: _ :: _ :: _, _ => rfl)
theorem label_turn_call : Callable PP 118 := callable_of (fn := Go.Proofs.Tryz.f118) (by kernel_rfl) (by kernel_rfl) (by kernel_rfl)
theorem En_label_turn_ok : SoundNames PP (En_label_turn) := SoundNames.cons (by kernel_rfl) label_turn_c1_call label_turn_c1_ok (SoundNames.nil)
theorem label_turn_ok : SoundFn PP 118 (label_turn) := by
  have hEn := En_label_turn_ok; exact fn_ok (P := PP) (fn := Go.Proofs.Tryz.f118) 3 mix_ok (by kernel_rfl) (SoundTab.cons label_turn_c1_call label_turn_c1_ok (SoundTab.cons label_merge_call (label_merge_ok (En_label_turn) hEn) (SoundTab.nil))) (hEn) (fun args objs hl => match args, hl with | [a0, a1, a2], _ => (evalF_same _ _ _).trans (label_turn_eq a0 a1 a2 objs)) (fun args objs hl => match args, hl with | [], _ => rfl | [_], _ => rfl | [_, _], _ => rfl | [_, _, _], hl => absurd rfl hl | _ :: _ :: _ :: _ :: _, _ => rfl)
theorem label_Raise_call : Callable PP 92 := callable_of (fn := Go.Proofs.Tryz.f92) (by kernel_rfl) (by kernel_rfl) (by kernel_rfl)
theorem label_Raise_ok : SoundFn PP 92 (label_Raise) := by
  exact fn_ok (P := PP) (fn := Go.Proofs.Tryz.f92) 1 mix_ok (by kernel_rfl) (SoundTab.cons label_turn_call label_turn_ok (SoundTab.nil)) (SoundNames.nil') (fun args objs hl => match args, hl with | [a0], _ => (evalF_same _ _ _).trans (label_Raise_eq a0 objs)) (fun args objs hl => match args, hl with | [], _ => rfl | [_], hl => absurd rfl hl | _ :: _ :: _, _ => rfl)
theorem label_Leq_c1_call : Callable PP 132 := callable_of (fn := Go.Proofs.Tryz.f132) (by kernel_rfl) (by kernel_rfl) (by kernel_rfl)
theorem label_Leq_c1_ok : SoundFn PP 132 (label_Leq_c1) := by
  exact fn_ok (P := PP) (fn := Go.Proofs.Tryz.f132) 3 mix_ok (by kernel_rfl) (SoundTab.cons label_Level_call label_Level_ok (SoundTab.nil)) (SoundNames.nil') (fun args objs hl => match args, hl with | [a0, a1, a2], _ => (evalF_same _ _ _).trans (label_Leq_c1_eq a0 a1 a2 objs)) (fun args objs hl => match args, hl with | [], _ => rfl | [_], _ => rfl | [_, _], _ => rfl | [_, _, _], hl => absurd rfl hl | _ :: _ :: _ :: _ :: _, _ => rfl)
theorem slices_ContainsFunc_Sapi_Cat_api_Cat_call : Callable PP 103 := callable_of (fn := Go.Proofs.Tryz.f103) (by kernel_rfl) (by kernel_rfl) (by kernel_rfl)
theorem slices_ContainsFunc_Sapi_Cat_api_Cat_ok (En : String → CallFn) (hEn : SoundNames PP En) : SoundFn PP 103 (slices_ContainsFunc_Sapi_Cat_api_Cat En) := by
  exact fn_ok (P := PP) (fn := Go.Proofs.Tryz.f103) 2 mix_ok (by kernel_rfl) (SoundTab.cons slices_IndexFunc_Sapi_Cat_api_Cat_call (slices_IndexFunc_Sapi_Cat_api_Cat_ok En hEn) (SoundTab.nil)) (hEn) (fun args objs hl => match args, hl with | [a0, a1], _ => (evalF_same _ _ _).trans (slices_ContainsFunc_Sapi_Cat_api_Cat_eq En a0 a1 objs)) (fun args objs hl => match args, hl with | [], _ => rfl | [_], _ => rfl | [_, _], hl => absurd rfl hl | _ :: _ :: _ :: _, _ => rfl)
theorem label_Leq_call : Callable PP 102 := callable_of (fn := Go.Proofs.Tryz.f102) (by kernel_rfl) (by kernel_rfl) (by kernel_rfl)
theorem En_label_Leq_ok : SoundNames PP (En_label_Leq) := SoundNames.cons (by kernel_rfl) label_Leq_c1_call label_Leq_c1_ok (SoundNames.nil)
theorem label_Leq_ok : SoundFn PP 102 (label_Leq) := by
  have hEn := En_label_Leq_ok; exact fn_ok (P := PP) (fn := Go.Proofs.Tryz.f102) 2 mix_ok (by kernel_rfl) (SoundTab.cons slices_ContainsFunc_Sapi_Cat_api_Cat_call (slices_ContainsFunc_Sapi_Cat_api_Cat_ok (En_label_Leq) hEn) (SoundTab.cons label_Leq_c1_call label_Leq_c1_ok (SoundTab.nil))) (hEn) (fun args objs hl => match args, hl with | [a0, a1], _ => (evalF_same _ _ _).trans (label_Leq_eq a0 a1 objs)) (fun args objs hl => match args, hl with | [], _ => rfl | [_], _ => rfl | [_, _], hl => absurd rfl hl | _ :: _ :: _ :: _, _ => rfl)
theorem flow_rises_call : Callable PP 78 := callable_of (fn := Go.Proofs.Tryz.f78) (by kernel_rfl) (by kernel_rfl) (by kernel_rfl)
theorem flow_rises_ok : SoundFn PP 78 (flow_rises) := by
  exact fn_ok (P := PP) (fn := Go.Proofs.Tryz.f78) 1 mix_ok (by kernel_rfl) (SoundTab.cons label_Leq_call label_Leq_ok (SoundTab.nil)) (SoundNames.nil') (fun args objs hl => match args, hl with | [a0], _ => (evalF_same _ _ _).trans (flow_rises_eq a0 objs)) (fun args objs hl => match args, hl with | [], _ => rfl | [_], hl => absurd rfl hl | _ :: _ :: _, _ => rfl)
theorem flow_Reads_call : Callable PP 74 := callable_of (fn := Go.Proofs.Tryz.f74) (by kernel_rfl) (by kernel_rfl) (by kernel_rfl)
theorem flow_Reads_ok : SoundFn PP 74 (flow_Reads) := by
  exact fn_ok (P := PP) (fn := Go.Proofs.Tryz.f74) 2 mix_ok (by kernel_rfl) (SoundTab.cons label_Raise_call label_Raise_ok (SoundTab.cons flow_rises_call flow_rises_ok (SoundTab.nil))) (SoundNames.nil') (fun args objs hl => match args, hl with | [a0, a1], _ => (evalF_same _ _ _).trans (flow_Reads_eq a0 a1 objs)) (fun args objs hl => match args, hl with | [], _ => rfl | [_], _ => rfl | [_, _], hl => absurd rfl hl | _ :: _ :: _ :: _, _ => rfl)
theorem kern_act_open_call : Callable PP 44 := callable_of (fn := Go.Proofs.Tryz.f44) (by kernel_rfl) (by kernel_rfl) (by kernel_rfl)
theorem kern_act_open_ok : SoundFn PP 44 (kern_act_open) := by
  exact fn_ok (P := PP) (fn := Go.Proofs.Tryz.f44) 2 mix_ok (by kernel_rfl) (SoundTab.cons kern_check_call kern_check_ok (SoundTab.cons gate_Who_call gate_Who_ok (SoundTab.cons flow_Reads_call flow_Reads_ok (SoundTab.cons kern_act_find_call kern_act_find_ok (SoundTab.nil))))) (SoundNames.nil') (fun args objs hl => match args, hl with | [a0, a1], _ => (evalF_same _ _ _).trans (kern_act_open_eq a0 a1 objs)) (fun args objs hl => match args, hl with | [], _ => rfl | [_], _ => rfl | [_, _], hl => absurd rfl hl | _ :: _ :: _ :: _, _ => rfl)
theorem flow_Writes_call : Callable PP 75 := callable_of (fn := Go.Proofs.Tryz.f75) (by kernel_rfl) (by kernel_rfl) (by kernel_rfl)
theorem flow_Writes_ok : SoundFn PP 75 (flow_Writes) := by
  exact fn_ok (P := PP) (fn := Go.Proofs.Tryz.f75) 2 mix_ok (by kernel_rfl) (SoundTab.cons label_Raise_call label_Raise_ok (SoundTab.cons flow_rises_call flow_rises_ok (SoundTab.nil))) (SoundNames.nil') (fun args objs hl => match args, hl with | [a0, a1], _ => (evalF_same _ _ _).trans (flow_Writes_eq a0 a1 objs)) (fun args objs hl => match args, hl with | [], _ => rfl | [_], _ => rfl | [_, _], hl => absurd rfl hl | _ :: _ :: _ :: _, _ => rfl)
theorem kern_act_writes_call : Callable PP 45 := callable_of (fn := Go.Proofs.Tryz.f45) (by kernel_rfl) (by kernel_rfl) (by kernel_rfl)
theorem kern_act_writes_ok : SoundFn PP 45 (kern_act_writes) := by
  exact fn_ok (P := PP) (fn := Go.Proofs.Tryz.f45) 2 mix_ok (by kernel_rfl) (SoundTab.cons kern_check_call kern_check_ok (SoundTab.cons gate_Who_call gate_Who_ok (SoundTab.cons flow_Writes_call flow_Writes_ok (SoundTab.nil)))) (SoundNames.nil') (fun args objs hl => match args, hl with | [a0, a1], _ => (evalF_same _ _ _).trans (kern_act_writes_eq a0 a1 objs)) (fun args objs hl => match args, hl with | [], _ => rfl | [_], _ => rfl | [_, _], hl => absurd rfl hl | _ :: _ :: _ :: _, _ => rfl)
theorem num_Canon_call : Callable PP 47 := callable_of (fn := Go.Proofs.Tryz.f47) (by kernel_rfl) (by kernel_rfl) (by kernel_rfl)
theorem num_Canon_ok : SoundFn PP 47 (num_Canon) := by
  exact fn_ok (P := PP) (fn := Go.Proofs.Tryz.f47) 1 mix_ok (by kernel_rfl) (SoundTab.nil) (SoundNames.nil') (fun args objs hl => match args, hl with | [a0], _ => (evalF_same _ _ _).trans (num_Canon_eq a0 objs)) (fun args objs hl => match args, hl with | [], _ => rfl | [_], hl => absurd rfl hl | _ :: _ :: _, _ => rfl)
theorem slices_Equal_Sapi_Cat_api_Cat_call : Callable PP 113 := callable_of (fn := Go.Proofs.Tryz.f113) (by kernel_rfl) (by kernel_rfl) (by kernel_rfl)
theorem slices_Equal_Sapi_Cat_api_Cat_ok : SoundFn PP 113 (slices_Equal_Sapi_Cat_api_Cat) := by
  exact fn_ok (P := PP) (fn := Go.Proofs.Tryz.f113) 2 mix_ok (by kernel_rfl) (SoundTab.nil) (SoundNames.nil') (fun args objs hl => match args, hl with | [a0, a1], _ => (evalF_same _ _ _).trans (slices_Equal_Sapi_Cat_api_Cat_eq a0 a1 objs)) (fun args objs hl => match args, hl with | [], _ => rfl | [_], _ => rfl | [_, _], hl => absurd rfl hl | _ :: _ :: _ :: _, _ => rfl)
theorem label_Right_c1_call : Callable PP 115 := callable_of (fn := Go.Proofs.Tryz.f115) (by kernel_rfl) (by kernel_rfl) (by kernel_rfl)
theorem label_Right_c1_ok : SoundFn PP 115 (label_Right_c1) := by
  exact fn_ok (P := PP) (fn := Go.Proofs.Tryz.f115) 1 mix_ok (by kernel_rfl) (SoundTab.nil) (SoundNames.nil') (fun args objs hl => match args, hl with | [a0], _ => (evalF_same _ _ _).trans (label_Right_c1_eq a0 objs)) (fun args objs hl => match args, hl with | [], _ => rfl | [_], hl => absurd rfl hl | _ :: _ :: _, _ => rfl)
theorem label_Right_call : Callable PP 90 := callable_of (fn := Go.Proofs.Tryz.f90) (by kernel_rfl) (by kernel_rfl) (by kernel_rfl)
theorem En_label_Right_ok : SoundNames PP (En_label_Right) := SoundNames.cons (by kernel_rfl) label_Right_c1_call label_Right_c1_ok (SoundNames.nil)
theorem label_Right_ok : SoundFn PP 90 (label_Right) := by
  have hEn := En_label_Right_ok; exact fn_ok (P := PP) (fn := Go.Proofs.Tryz.f90) 1 mix_ok (by kernel_rfl) (SoundTab.cons slices_Equal_Sapi_Cat_api_Cat_call slices_Equal_Sapi_Cat_api_Cat_ok (SoundTab.cons slices_ContainsFunc_Sapi_Cat_api_Cat_call (slices_ContainsFunc_Sapi_Cat_api_Cat_ok (En_label_Right) hEn) (SoundTab.cons label_Right_c1_call label_Right_c1_ok (SoundTab.cons label_Make_call label_Make_ok (SoundTab.nil))))) (hEn) (fun args objs hl => match args, hl with | [a0], _ => (evalF_same _ _ _).trans (label_Right_eq a0 objs)) (fun args objs hl => match args, hl with | [], _ => rfl | [_], hl => absurd rfl hl | _ :: _ :: _, _ => rfl)
theorem flow_pure_c1_call : Callable PP 104 := callable_of (fn := Go.Proofs.Tryz.f104) (by kernel_rfl) (by kernel_rfl) (by kernel_rfl)
theorem flow_pure_c1_ok : SoundFn PP 104 (flow_pure_c1) := by
  exact fn_ok (P := PP) (fn := Go.Proofs.Tryz.f104) 1 mix_ok (by kernel_rfl) (SoundTab.nil) (SoundNames.nil') (fun args objs hl => match args, hl with | [a0], _ => (evalF_same _ _ _).trans (flow_pure_c1_eq a0 objs)) (fun args objs hl => match args, hl with | [], _ => rfl | [_], hl => absurd rfl hl | _ :: _ :: _, _ => rfl)
theorem flow_pure_call : Callable PP 79 := callable_of (fn := Go.Proofs.Tryz.f79) (by kernel_rfl) (by kernel_rfl) (by kernel_rfl)
theorem En_flow_pure_ok : SoundNames PP (En_flow_pure) := SoundNames.cons (by kernel_rfl) flow_pure_c1_call flow_pure_c1_ok (SoundNames.nil)
theorem flow_pure_ok : SoundFn PP 79 (flow_pure) := by
  have hEn := En_flow_pure_ok; exact fn_ok (P := PP) (fn := Go.Proofs.Tryz.f79) 1 mix_ok (by kernel_rfl) (SoundTab.cons slices_ContainsFunc_Sapi_Cat_api_Cat_call (slices_ContainsFunc_Sapi_Cat_api_Cat_ok (En_flow_pure) hEn) (SoundTab.cons label_Right_call label_Right_ok (SoundTab.cons flow_pure_c1_call flow_pure_c1_ok (SoundTab.nil)))) (hEn) (fun args objs hl => match args, hl with | [a0], _ => (evalF_same _ _ _).trans (flow_pure_eq a0 objs)) (fun args objs hl => match args, hl with | [], _ => rfl | [_], hl => absurd rfl hl | _ :: _ :: _, _ => rfl)
theorem flow_Who_right_call : Callable PP 77 := callable_of (fn := Go.Proofs.Tryz.f77) (by kernel_rfl) (by kernel_rfl) (by kernel_rfl)
theorem flow_Who_right_ok : SoundFn PP 77 (flow_Who_right) := by
  exact fn_ok (P := PP) (fn := Go.Proofs.Tryz.f77) 1 mix_ok (by kernel_rfl) (SoundTab.cons label_Right_call label_Right_ok (SoundTab.cons flow_pure_call flow_pure_ok (SoundTab.nil))) (SoundNames.nil') (fun args objs hl => match args, hl with | [a0], _ => (evalF_same _ _ _).trans (flow_Who_right_eq a0 objs)) (fun args objs hl => match args, hl with | [], _ => rfl | [_], hl => absurd rfl hl | _ :: _ :: _, _ => rfl)
theorem flow_Spawns_call : Callable PP 48 := callable_of (fn := Go.Proofs.Tryz.f48) (by kernel_rfl) (by kernel_rfl) (by kernel_rfl)
theorem flow_Spawns_ok : SoundFn PP 48 (flow_Spawns) := by
  exact fn_ok (P := PP) (fn := Go.Proofs.Tryz.f48) 3 mix_ok (by kernel_rfl) (SoundTab.cons flow_rises_call flow_rises_ok (SoundTab.cons flow_Who_right_call flow_Who_right_ok (SoundTab.nil))) (SoundNames.nil') (fun args objs hl => match args, hl with | [a0, a1, a2], _ => (evalF_same _ _ _).trans (flow_Spawns_eq a0 a1 a2 objs)) (fun args objs hl => match args, hl with | [], _ => rfl | [_], _ => rfl | [_, _], _ => rfl | [_, _, _], hl => absurd rfl hl | _ :: _ :: _ :: _ :: _, _ => rfl)
theorem flow_Makes_call : Callable PP 49 := callable_of (fn := Go.Proofs.Tryz.f49) (by kernel_rfl) (by kernel_rfl) (by kernel_rfl)
theorem flow_Makes_ok : SoundFn PP 49 (flow_Makes) := by
  exact fn_ok (P := PP) (fn := Go.Proofs.Tryz.f49) 2 mix_ok (by kernel_rfl) (SoundTab.cons flow_rises_call flow_rises_ok (SoundTab.cons flow_pure_call flow_pure_ok (SoundTab.nil))) (SoundNames.nil') (fun args objs hl => match args, hl with | [a0, a1], _ => (evalF_same _ _ _).trans (flow_Makes_eq a0 a1 objs)) (fun args objs hl => match args, hl with | [], _ => rfl | [_], _ => rfl | [_, _], hl => absurd rfl hl | _ :: _ :: _ :: _, _ => rfl)
theorem dir_Fresh_call : Callable PP 80 := callable_of (fn := Go.Proofs.Tryz.f80) (by kernel_rfl) (by kernel_rfl) (by kernel_rfl)
theorem dir_Fresh_ok : SoundFn PP 80 (dir_Fresh) := by
  exact fn_ok (P := PP) (fn := Go.Proofs.Tryz.f80) 1 mix_ok (by kernel_rfl) (SoundTab.nil) (SoundNames.nil') (fun args objs hl => match args, hl with | [a0], _ => (evalF_same _ _ _).trans (dir_Fresh_eq a0 objs)) (fun args objs hl => match args, hl with | [], _ => rfl | [_], hl => absurd rfl hl | _ :: _ :: _, _ => rfl)
theorem slices_BinarySearchFunc_Sapi_Link_api_Link_uint64_call : Callable PP 109 := callable_of (fn := Go.Proofs.Tryz.f109) (by kernel_rfl) (by kernel_rfl) (by kernel_rfl)
theorem slices_BinarySearchFunc_Sapi_Link_api_Link_uint64_ok (En : String → CallFn) (hEn : SoundNames PP En) : SoundFn PP 109 (slices_BinarySearchFunc_Sapi_Link_api_Link_uint64 En) := by
  exact fn_ok (P := PP) (fn := Go.Proofs.Tryz.f109) 3 mix_ok (by kernel_rfl) (SoundTab.nil) (hEn) (fun args objs hl => match args, hl with | [a0, a1, a2], _ => (evalF_same _ _ _).trans (slices_BinarySearchFunc_Sapi_Link_api_Link_uint64_eq En a0 a1 a2 objs)) (fun args objs hl => match args, hl with | [], _ => rfl | [_], _ => rfl | [_, _], _ => rfl | [_, _, _], hl => absurd rfl hl | _ :: _ :: _ :: _ :: _, _ => rfl)
theorem dir_place_c1_call : Callable PP 110 := callable_of (fn := Go.Proofs.Tryz.f110) (by kernel_rfl) (by kernel_rfl) (by kernel_rfl)
theorem dir_place_c1_ok : SoundFn PP 110 (dir_place_c1) := by
  exact fn_ok (P := PP) (fn := Go.Proofs.Tryz.f110) 2 mix_ok (by kernel_rfl) (SoundTab.cons cmp_Compare_uint64_call cmp_Compare_uint64_ok (SoundTab.nil)) (SoundNames.nil') (fun args objs hl => match args, hl with | [a0, a1], _ => (evalF_same _ _ _).trans (dir_place_c1_eq a0 a1 objs)) (fun args objs hl => match args, hl with | [], _ => rfl | [_], _ => rfl | [_, _], hl => absurd rfl hl | _ :: _ :: _ :: _, _ => rfl)
theorem dir_place_call : Callable PP 87 := callable_of (fn := Go.Proofs.Tryz.f87) (by kernel_rfl) (by kernel_rfl) (by kernel_rfl)
theorem En_dir_place_ok : SoundNames PP (En_dir_place) := SoundNames.cons (by kernel_rfl) dir_place_c1_call dir_place_c1_ok (SoundNames.nil)
theorem dir_place_ok : SoundFn PP 87 (dir_place) := by
  have hEn := En_dir_place_ok; exact fn_ok (P := PP) (fn := Go.Proofs.Tryz.f87) 2 mix_ok (by kernel_rfl) (SoundTab.cons slices_BinarySearchFunc_Sapi_Link_api_Link_uint64_call (slices_BinarySearchFunc_Sapi_Link_api_Link_uint64_ok (En_dir_place) hEn) (SoundTab.cons dir_place_c1_call dir_place_c1_ok (SoundTab.nil))) (hEn) (fun args objs hl => match args, hl with | [a0, a1], _ => (evalF_same _ _ _).trans (dir_place_eq a0 a1 objs)) (fun args objs hl => match args, hl with | [], _ => rfl | [_], _ => rfl | [_, _], hl => absurd rfl hl | _ :: _ :: _ :: _, _ => rfl)
theorem dir_Used_call : Callable PP 88 := callable_of (fn := Go.Proofs.Tryz.f88) (by kernel_rfl) (by kernel_rfl) (by kernel_rfl)
theorem dir_Used_ok : SoundFn PP 88 (dir_Used) := by
  exact fn_ok (P := PP) (fn := Go.Proofs.Tryz.f88) 1 mix_ok (by kernel_rfl) (SoundTab.nil) (SoundNames.nil') (fun args objs hl => match args, hl with | [a0], _ => (evalF_same _ _ _).trans (dir_Used_eq a0 objs)) (fun args objs hl => match args, hl with | [], _ => rfl | [_], hl => absurd rfl hl | _ :: _ :: _, _ => rfl)
theorem slices_Insert_Sapi_Link_api_Link_ok : SoundFn PP 89 (primInsert 2 16) := insert89
theorem slices_Insert_Sapi_Link_api_Link_call : Callable PP 89 := callable_of (fn := Go.Proofs.Tryz.f89) (by kernel_rfl) (by kernel_rfl) (by kernel_rfl)
theorem dir_Add_call : Callable PP 57 := callable_of (fn := Go.Proofs.Tryz.f57) (by kernel_rfl) (by kernel_rfl) (by kernel_rfl)
theorem dir_Add_ok : SoundFn PP 57 (dir_Add) := by
  exact fn_ok (P := PP) (fn := Go.Proofs.Tryz.f57) 3 mix_ok (by kernel_rfl) (SoundTab.cons slices_Insert_Sapi_Link_api_Link_call slices_Insert_Sapi_Link_api_Link_ok (SoundTab.cons thing_Copy_call thing_Copy_ok (SoundTab.cons dir_place_call dir_place_ok (SoundTab.cons dir_Used_call dir_Used_ok (SoundTab.nil))))) (SoundNames.nil') (fun args objs hl => match args, hl with | [a0, a1, a2], _ => (evalF_same _ _ _).trans (dir_Add_eq a0 a1 a2 objs)) (fun args objs hl => match args, hl with | [], _ => rfl | [_], _ => rfl | [_, _], _ => rfl | [_, _, _], hl => absurd rfl hl | _ :: _ :: _ :: _ :: _, _ => rfl)
theorem dir_Born_call : Callable PP 50 := callable_of (fn := Go.Proofs.Tryz.f50) (by kernel_rfl) (by kernel_rfl) (by kernel_rfl)
theorem dir_Born_ok : SoundFn PP 50 (dir_Born) := by
  exact fn_ok (P := PP) (fn := Go.Proofs.Tryz.f50) 2 mix_ok (by kernel_rfl) (SoundTab.cons dir_Fresh_call dir_Fresh_ok (SoundTab.cons dir_Add_call dir_Add_ok (SoundTab.nil))) (SoundNames.nil') (fun args objs hl => match args, hl with | [a0, a1], _ => (evalF_same _ _ _).trans (dir_Born_eq a0 a1 objs)) (fun args objs hl => match args, hl with | [], _ => rfl | [_], _ => rfl | [_, _], hl => absurd rfl hl | _ :: _ :: _ :: _, _ => rfl)
theorem kern_done_call : Callable PP 51 := callable_of (fn := Go.Proofs.Tryz.f51) (by kernel_rfl) (by kernel_rfl) (by kernel_rfl)
theorem kern_done_ok : SoundFn PP 51 (kern_done) := by
  exact fn_ok (P := PP) (fn := Go.Proofs.Tryz.f51) 1 mix_ok (by kernel_rfl) (SoundTab.cons kern_check_call kern_check_ok (SoundTab.nil)) (SoundNames.nil') (fun args objs hl => match args, hl with | [a0], _ => (evalF_same _ _ _).trans (kern_done_eq a0 objs)) (fun args objs hl => match args, hl with | [], _ => rfl | [_], hl => absurd rfl hl | _ :: _ :: _, _ => rfl)
theorem graph_copyAll_call : Callable PP 82 := callable_of (fn := Go.Proofs.Tryz.f82) (by kernel_rfl) (by kernel_rfl) (by kernel_rfl)
theorem graph_copyAll_ok : SoundFn PP 82 (graph_copyAll) := by
  exact fn_ok (P := PP) (fn := Go.Proofs.Tryz.f82) 1 mix_ok (by kernel_rfl) (SoundTab.cons thing_Copy_call thing_Copy_ok (SoundTab.nil)) (SoundNames.nil') (fun args objs hl => match args, hl with | [a0], _ => (evalF_same _ _ _).trans (graph_copyAll_eq a0 objs)) (fun args objs hl => match args, hl with | [], _ => rfl | [_], hl => absurd rfl hl | _ :: _ :: _, _ => rfl)
theorem slices_Insert_Sapi_Thing_api_Thing_ok : SoundFn PP 105 (primInsert 26 272) := insert105
theorem slices_Insert_Sapi_Thing_api_Thing_call : Callable PP 105 := callable_of (fn := Go.Proofs.Tryz.f105) (by kernel_rfl) (by kernel_rfl) (by kernel_rfl)
theorem graph_Put_call : Callable PP 81 := callable_of (fn := Go.Proofs.Tryz.f81) (by kernel_rfl) (by kernel_rfl) (by kernel_rfl)
theorem graph_Put_ok : SoundFn PP 81 (graph_Put) := by
  exact fn_ok (P := PP) (fn := Go.Proofs.Tryz.f81) 2 mix_ok (by kernel_rfl) (SoundTab.cons slices_Insert_Sapi_Thing_api_Thing_call slices_Insert_Sapi_Thing_api_Thing_ok (SoundTab.cons thing_Copy_call thing_Copy_ok (SoundTab.cons graph_place_call graph_place_ok (SoundTab.cons graph_copyAll_call graph_copyAll_ok (SoundTab.nil))))) (SoundNames.nil') (fun args objs hl => match args, hl with | [a0, a1], _ => (evalF_same _ _ _).trans (graph_Put_eq a0 a1 objs)) (fun args objs hl => match args, hl with | [], _ => rfl | [_], _ => rfl | [_, _], hl => absurd rfl hl | _ :: _ :: _ :: _, _ => rfl)
theorem kern_act_put_call : Callable PP 52 := callable_of (fn := Go.Proofs.Tryz.f52) (by kernel_rfl) (by kernel_rfl) (by kernel_rfl)
theorem kern_act_put_ok : SoundFn PP 52 (kern_act_put) := by
  exact fn_ok (P := PP) (fn := Go.Proofs.Tryz.f52) 2 mix_ok (by kernel_rfl) (SoundTab.cons graph_Put_call graph_Put_ok (SoundTab.nil)) (SoundNames.nil') (fun args objs hl => match args, hl with | [a0, a1], _ => (evalF_same _ _ _).trans (kern_act_put_eq a0 a1 objs)) (fun args objs hl => match args, hl with | [], _ => rfl | [_], _ => rfl | [_, _], hl => absurd rfl hl | _ :: _ :: _ :: _, _ => rfl)
theorem kern_act_make_call : Callable PP 34 := callable_of (fn := Go.Proofs.Tryz.f34) (by kernel_rfl) (by kernel_rfl) (by kernel_rfl)
theorem kern_act_make_ok : SoundFn PP 34 (kern_act_make) := by
  exact fn_ok (P := PP) (fn := Go.Proofs.Tryz.f34) 1 mix_ok (by kernel_rfl) (SoundTab.cons num_Canon_call num_Canon_ok (SoundTab.cons kern_done_call kern_done_ok (SoundTab.cons kern_check_call kern_check_ok (SoundTab.cons gate_Who_call gate_Who_ok (SoundTab.cons flow_Spawns_call flow_Spawns_ok (SoundTab.cons flow_Makes_call flow_Makes_ok (SoundTab.cons dir_Born_call dir_Born_ok (SoundTab.cons kern_act_writes_call kern_act_writes_ok (SoundTab.cons kern_act_put_call kern_act_put_ok (SoundTab.cons kern_act_open_call kern_act_open_ok (SoundTab.nil))))))))))) (SoundNames.nil') (fun args objs hl => match args, hl with | [a0], _ => (evalF_same _ _ _).trans (kern_act_make_eq a0 objs)) (fun args objs hl => match args, hl with | [], _ => rfl | [_], hl => absurd rfl hl | _ :: _ :: _, _ => rfl)
theorem dir_Has_call : Callable PP 67 := callable_of (fn := Go.Proofs.Tryz.f67) (by kernel_rfl) (by kernel_rfl) (by kernel_rfl)
theorem dir_Has_ok : SoundFn PP 67 (dir_Has) := by
  exact fn_ok (P := PP) (fn := Go.Proofs.Tryz.f67) 2 mix_ok (by kernel_rfl) (SoundTab.cons dir_place_call dir_place_ok (SoundTab.nil)) (SoundNames.nil') (fun args objs hl => match args, hl with | [a0, a1], _ => (evalF_same _ _ _).trans (dir_Has_eq a0 a1 objs)) (fun args objs hl => match args, hl with | [], _ => rfl | [_], _ => rfl | [_, _], hl => absurd rfl hl | _ :: _ :: _ :: _, _ => rfl)
theorem kern_act_held_call : Callable PP 39 := callable_of (fn := Go.Proofs.Tryz.f39) (by kernel_rfl) (by kernel_rfl) (by kernel_rfl)
theorem kern_act_held_ok : SoundFn PP 39 (kern_act_held) := by
  exact fn_ok (P := PP) (fn := Go.Proofs.Tryz.f39) 3 mix_ok (by kernel_rfl) (SoundTab.cons kern_check_call kern_check_ok (SoundTab.cons dir_Has_call dir_Has_ok (SoundTab.cons kern_act_open_call kern_act_open_ok (SoundTab.cons kern_act_find_call kern_act_find_ok (SoundTab.nil))))) (SoundNames.nil') (fun args objs hl => match args, hl with | [a0, a1, a2], _ => (evalF_same _ _ _).trans (kern_act_held_eq a0 a1 a2 objs)) (fun args objs hl => match args, hl with | [], _ => rfl | [_], _ => rfl | [_, _], _ => rfl | [_, _, _], hl => absurd rfl hl | _ :: _ :: _ :: _ :: _, _ => rfl)
theorem kern_act_run_call : Callable PP 19 := callable_of (fn := Go.Proofs.Tryz.f19) (by kernel_rfl) (by kernel_rfl) (by kernel_rfl)
theorem kern_act_run_ok : SoundFn PP 19 (kern_act_run) := by
  exact fn_ok (P := PP) (fn := Go.Proofs.Tryz.f19) 1 mix_ok (by kernel_rfl) (SoundTab.cons kern_check_call kern_check_ok (SoundTab.cons graph_Find_call graph_Find_ok (SoundTab.cons kern_act_make_call kern_act_make_ok (SoundTab.cons kern_act_held_call kern_act_held_ok (SoundTab.nil))))) (SoundNames.nil') (fun args objs hl => match args, hl with | [a0], _ => (evalF_same _ _ _).trans (kern_act_run_eq a0 objs)) (fun args objs hl => match args, hl with | [], _ => rfl | [_], hl => absurd rfl hl | _ :: _ :: _, _ => rfl)
theorem kern_Step_call : Callable PP 10 := callable_of (fn := Go.Proofs.Tryz.f10) (by kernel_rfl) (by kernel_rfl) (by kernel_rfl)
theorem quiet_17_call : Callable PP 17 := callable_of (fn := Go.Proofs.Tryz.f17) (by kernel_rfl) (by kernel_rfl) (by kernel_rfl)
theorem quiet_17 : QuietF PP 17 := quiet_of_shape (fn := Go.Proofs.Tryz.f17) (by kernel_rfl) rfl rfl rfl rfl rfl rfl rfl rfl rfl (fun a w => rfl) rfl rfl (fun a w h => by
  have h2 : a.eval (.const .nilIface) = .nilIface := rfl
  generalize a.eval = ρ at h h2 ⊢
  unfold execOp
  simp only [h, h2]
  show _ = _
  kernel_rfl) rfl (by kernel_rfl)
theorem kern_Step_ok : SoundFn PP 10 (kern_Step) := by
  exact fnD_ok (P := PP) (fn := Go.Proofs.Tryz.f10) 4 mix_ok (by kernel_rfl) (SoundTab.cons thing_Copy_call thing_Copy_ok (SoundTab.cons kern_act_run_call kern_act_run_ok (SoundTab.nil))) (SoundNames.nil') (m := 17) (q := "bailey/kern.Step$1") (by kernel_rfl) quiet_17_call quiet_17 (fun args objs hl => match args, hl with | [a0, a1, a2, a3], _ => (evalFD_same _ _ _ _).trans (kern_Step_eq a0 a1 a2 a3 objs)) (fun args objs hl => match args, hl with | [], _ => rfl | [_], _ => rfl | [_, _], _ => rfl | [_, _, _], _ => rfl | [_, _, _, _], hl => absurd rfl hl | _ :: _ :: _ :: _ :: _ :: _, _ => rfl)
theorem law20_kernAlive_call : Callable PP 5 := callable_of (fn := Go.Proofs.Tryz.f5) (by kernel_rfl) (by kernel_rfl) (by kernel_rfl)
theorem law20_kernAlive_ok : SoundFn PP 5 (law20_kernAlive) := by
  exact fn_ok (P := PP) (fn := Go.Proofs.Tryz.f5) 0 mix_ok (by kernel_rfl) (SoundTab.cons kern_World_call kern_World_ok (SoundTab.cons kern_Step_call kern_Step_ok (SoundTab.nil))) (SoundNames.nil') (fun args objs hl => match args, hl with | [], _ => (evalF_same _ _ _).trans (law20_kernAlive_eq objs)) (fun args objs hl => by cases args with | nil => exact absurd rfl hl | cons a r => rfl)
theorem law20_KernNames_call : Callable PP 3 := callable_of (fn := Go.Proofs.Tryz.f3) (by kernel_rfl) (by kernel_rfl) (by kernel_rfl)
theorem law20_KernNames_ok : SoundFn PP 3 (law20_KernNames) := by
  exact fn_ok (P := PP) (fn := Go.Proofs.Tryz.f3) 0 mix_ok (by kernel_rfl) (SoundTab.cons law20_kernAlive_call law20_kernAlive_ok (SoundTab.nil)) (SoundNames.nil') (fun args objs hl => match args, hl with | [], _ => (evalF_same _ _ _).trans (law20_KernNames_eq objs)) (fun args objs hl => by cases args with | nil => exact absurd rfl hl | cons a r => rfl)
theorem ref20_World_call : Callable PP 7 := callable_of (fn := Go.Proofs.Tryz.f7) (by kernel_rfl) (by kernel_rfl) (by kernel_rfl)
theorem ref20_World_ok : SoundFn PP 7 (ref20_World) := by
  exact fn_ok (P := PP) (fn := Go.Proofs.Tryz.f7) 1 mix_ok (by kernel_rfl) (SoundTab.nil) (SoundNames.nil') (fun args objs hl => match args, hl with | [a0], _ => (evalF_same _ _ _).trans (ref20_World_eq a0 objs)) (fun args objs hl => match args, hl with | [], _ => rfl | [_], hl => absurd rfl hl | _ :: _ :: _, _ => rfl)
theorem ref09_Exact_call : Callable PP 20 := callable_of (fn := Go.Proofs.Tryz.f20) (by kernel_rfl) (by kernel_rfl) (by kernel_rfl)
theorem ref09_Exact_ok : SoundFn PP 20 (ref09_Exact) := by
  exact fn_ok (P := PP) (fn := Go.Proofs.Tryz.f20) 2 mix_ok (by kernel_rfl) (SoundTab.nil) (SoundNames.nil') (fun args objs hl => match args, hl with | [a0, a1], _ => (evalF_same _ _ _).trans (ref09_Exact_eq a0 a1 objs)) (fun args objs hl => match args, hl with | [], _ => rfl | [_], _ => rfl | [_, _], hl => absurd rfl hl | _ :: _ :: _ :: _, _ => rfl)
theorem ref11_Same_call : Callable PP 11 := callable_of (fn := Go.Proofs.Tryz.f11) (by kernel_rfl) (by kernel_rfl) (by kernel_rfl)
theorem ref11_Same_ok : SoundFn PP 11 (ref11_Same) := by
  exact fn_ok (P := PP) (fn := Go.Proofs.Tryz.f11) 2 mix_ok (by kernel_rfl) (SoundTab.cons ref09_Exact_call ref09_Exact_ok (SoundTab.nil)) (SoundNames.nil') (fun args objs hl => match args, hl with | [a0, a1], _ => (evalF_same _ _ _).trans (ref11_Same_eq a0 a1 objs)) (fun args objs hl => match args, hl with | [], _ => rfl | [_], _ => rfl | [_, _], hl => absurd rfl hl | _ :: _ :: _ :: _, _ => rfl)
theorem ref13_Same_call : Callable PP 8 := callable_of (fn := Go.Proofs.Tryz.f8) (by kernel_rfl) (by kernel_rfl) (by kernel_rfl)
theorem ref13_Same_ok : SoundFn PP 8 (ref13_Same) := by
  exact fn_ok (P := PP) (fn := Go.Proofs.Tryz.f8) 2 mix_ok (by kernel_rfl) (SoundTab.cons ref11_Same_call ref11_Same_ok (SoundTab.nil)) (SoundNames.nil') (fun args objs hl => match args, hl with | [a0, a1], _ => (evalF_same _ _ _).trans (ref13_Same_eq a0 a1 objs)) (fun args objs hl => match args, hl with | [], _ => rfl | [_], _ => rfl | [_, _], hl => absurd rfl hl | _ :: _ :: _ :: _, _ => rfl)
theorem ref13_Graph_call : Callable PP 12 := callable_of (fn := Go.Proofs.Tryz.f12) (by kernel_rfl) (by kernel_rfl) (by kernel_rfl)
theorem ref13_Graph_ok : SoundFn PP 12 (ref13_Graph) := by
  exact fn_ok (P := PP) (fn := Go.Proofs.Tryz.f12) 1 mix_ok (by kernel_rfl) (SoundTab.nil) (SoundNames.nil') (fun args objs hl => match args, hl with | [a0], _ => (evalF_same _ _ _).trans (ref13_Graph_eq a0 objs)) (fun args objs hl => match args, hl with | [], _ => rfl | [_], hl => absurd rfl hl | _ :: _ :: _, _ => rfl)
theorem ref12_Has_call : Callable PP 21 := callable_of (fn := Go.Proofs.Tryz.f21) (by kernel_rfl) (by kernel_rfl) (by kernel_rfl)
theorem ref12_Has_ok : SoundFn PP 21 (ref12_Has) := by
  exact fn_ok (P := PP) (fn := Go.Proofs.Tryz.f21) 2 mix_ok (by kernel_rfl) (SoundTab.nil) (SoundNames.nil') (fun args objs hl => match args, hl with | [a0, a1], _ => (evalF_same _ _ _).trans (ref12_Has_eq a0 a1 objs)) (fun args objs hl => match args, hl with | [], _ => rfl | [_], _ => rfl | [_, _], hl => absurd rfl hl | _ :: _ :: _ :: _, _ => rfl)
theorem ref13_Refs_call : Callable PP 13 := callable_of (fn := Go.Proofs.Tryz.f13) (by kernel_rfl) (by kernel_rfl) (by kernel_rfl)
theorem ref13_Refs_ok : SoundFn PP 13 (ref13_Refs) := by
  exact fn_ok (P := PP) (fn := Go.Proofs.Tryz.f13) 2 mix_ok (by kernel_rfl) (SoundTab.cons ref12_Has_call ref12_Has_ok (SoundTab.nil)) (SoundNames.nil') (fun args objs hl => match args, hl with | [a0, a1], _ => (evalF_same _ _ _).trans (ref13_Refs_eq a0 a1 objs)) (fun args objs hl => match args, hl with | [], _ => rfl | [_], _ => rfl | [_, _], hl => absurd rfl hl | _ :: _ :: _ :: _, _ => rfl)
theorem ref11_id_call : Callable PP 22 := callable_of (fn := Go.Proofs.Tryz.f22) (by kernel_rfl) (by kernel_rfl) (by kernel_rfl)
theorem ref11_id_ok : SoundFn PP 22 (ref11_id) := by
  exact fn_ok (P := PP) (fn := Go.Proofs.Tryz.f22) 1 mix_ok (by kernel_rfl) (SoundTab.nil) (SoundNames.nil') (fun args objs hl => match args, hl with | [a0], _ => (evalF_same _ _ _).trans (ref11_id_eq a0 objs)) (fun args objs hl => match args, hl with | [], _ => rfl | [_], hl => absurd rfl hl | _ :: _ :: _, _ => rfl)
theorem ref09_IDs_call : Callable PP 69 := callable_of (fn := Go.Proofs.Tryz.f69) (by kernel_rfl) (by kernel_rfl) (by kernel_rfl)
theorem ref09_IDs_ok : SoundFn PP 69 (ref09_IDs) := by
  exact fn_ok (P := PP) (fn := Go.Proofs.Tryz.f69) 1 mix_ok (by kernel_rfl) (SoundTab.nil) (SoundNames.nil') (fun args objs hl => match args, hl with | [a0], _ => (evalF_same _ _ _).trans (ref09_IDs_eq a0 objs)) (fun args objs hl => match args, hl with | [], _ => rfl | [_], hl => absurd rfl hl | _ :: _ :: _, _ => rfl)
theorem ref09_Level_call : Callable PP 70 := callable_of (fn := Go.Proofs.Tryz.f70) (by kernel_rfl) (by kernel_rfl) (by kernel_rfl)
theorem ref09_Level_ok : SoundFn PP 70 (ref09_Level) := by
  exact fn_ok (P := PP) (fn := Go.Proofs.Tryz.f70) 2 mix_ok (by kernel_rfl) (SoundTab.nil) (SoundNames.nil') (fun args objs hl => match args, hl with | [a0, a1], _ => (evalF_same _ _ _).trans (ref09_Level_eq a0 a1 objs)) (fun args objs hl => match args, hl with | [], _ => rfl | [_], _ => rfl | [_, _], hl => absurd rfl hl | _ :: _ :: _ :: _, _ => rfl)
theorem ref09_Form_call : Callable PP 41 := callable_of (fn := Go.Proofs.Tryz.f41) (by kernel_rfl) (by kernel_rfl) (by kernel_rfl)
theorem ref09_Form_ok : SoundFn PP 41 (ref09_Form) := by
  exact fn_ok (P := PP) (fn := Go.Proofs.Tryz.f41) 1 mix_ok (by kernel_rfl) (SoundTab.cons ref09_Level_call ref09_Level_ok (SoundTab.cons ref09_IDs_call ref09_IDs_ok (SoundTab.nil))) (SoundNames.nil') (fun args objs hl => match args, hl with | [a0], _ => (evalF_same _ _ _).trans (ref09_Form_eq a0 objs)) (fun args objs hl => match args, hl with | [], _ => rfl | [_], hl => absurd rfl hl | _ :: _ :: _, _ => rfl)
theorem ref09_Right_call : Callable PP 23 := callable_of (fn := Go.Proofs.Tryz.f23) (by kernel_rfl) (by kernel_rfl) (by kernel_rfl)
theorem ref09_Right_ok : SoundFn PP 23 (ref09_Right) := by
  exact fn_ok (P := PP) (fn := Go.Proofs.Tryz.f23) 1 mix_ok (by kernel_rfl) (SoundTab.cons ref09_Form_call ref09_Form_ok (SoundTab.cons ref09_Exact_call ref09_Exact_ok (SoundTab.nil))) (SoundNames.nil') (fun args objs hl => match args, hl with | [a0], _ => (evalF_same _ _ _).trans (ref09_Right_eq a0 objs)) (fun args objs hl => match args, hl with | [], _ => rfl | [_], hl => absurd rfl hl | _ :: _ :: _, _ => rfl)
theorem ref10_Pure_call : Callable PP 24 := callable_of (fn := Go.Proofs.Tryz.f24) (by kernel_rfl) (by kernel_rfl) (by kernel_rfl)
theorem ref10_Pure_ok : SoundFn PP 24 (ref10_Pure) := by
  exact fn_ok (P := PP) (fn := Go.Proofs.Tryz.f24) 1 mix_ok (by kernel_rfl) (SoundTab.nil) (SoundNames.nil') (fun args objs hl => match args, hl with | [a0], _ => (evalF_same _ _ _).trans (ref10_Pure_eq a0 objs)) (fun args objs hl => match args, hl with | [], _ => rfl | [_], hl => absurd rfl hl | _ :: _ :: _, _ => rfl)
theorem ref01_parts_call : Callable PP 42 := callable_of (fn := Go.Proofs.Tryz.f42) (by kernel_rfl) (by kernel_rfl) (by kernel_rfl)
theorem ref01_parts_ok : SoundFn PP 42 (ref01_parts) := by
  exact fn_ok (P := PP) (fn := Go.Proofs.Tryz.f42) 1 mix_ok (by kernel_rfl) (SoundTab.nil) (SoundNames.nil') (fun args objs hl => match args, hl with | [a0], _ => (evalF_same _ _ _).trans (ref01_parts_eq a0 objs)) (fun args objs hl => match args, hl with | [], _ => rfl | [_], hl => absurd rfl hl | _ :: _ :: _, _ => rfl)
theorem ref01_Canon_call : Callable PP 25 := callable_of (fn := Go.Proofs.Tryz.f25) (by kernel_rfl) (by kernel_rfl) (by kernel_rfl)
theorem ref01_Canon_ok : SoundFn PP 25 (ref01_Canon) := by
  exact fn_ok (P := PP) (fn := Go.Proofs.Tryz.f25) 1 mix_ok (by kernel_rfl) (SoundTab.cons ref01_parts_call ref01_parts_ok (SoundTab.nil)) (SoundNames.nil') (fun args objs hl => match args, hl with | [a0], _ => (evalF_same _ _ _).trans (ref01_Canon_eq a0 objs)) (fun args objs hl => match args, hl with | [], _ => rfl | [_], hl => absurd rfl hl | _ :: _ :: _, _ => rfl)
theorem ref11_clean_call : Callable PP 26 := callable_of (fn := Go.Proofs.Tryz.f26) (by kernel_rfl) (by kernel_rfl) (by kernel_rfl)
theorem ref11_clean_ok : SoundFn PP 26 (ref11_clean) := by
  exact fn_ok (P := PP) (fn := Go.Proofs.Tryz.f26) 1 mix_ok (by kernel_rfl) (SoundTab.cons ref10_Pure_call ref10_Pure_ok (SoundTab.cons ref09_Right_call ref09_Right_ok (SoundTab.nil))) (SoundNames.nil') (fun args objs hl => match args, hl with | [a0], _ => (evalF_same _ _ _).trans (ref11_clean_eq a0 objs)) (fun args objs hl => match args, hl with | [], _ => rfl | [_], hl => absurd rfl hl | _ :: _ :: _, _ => rfl)
theorem ref11_Right_call : Callable PP 14 := callable_of (fn := Go.Proofs.Tryz.f14) (by kernel_rfl) (by kernel_rfl) (by kernel_rfl)
theorem ref11_Right_ok : SoundFn PP 14 (ref11_Right) := by
  exact fn_ok (P := PP) (fn := Go.Proofs.Tryz.f14) 1 mix_ok (by kernel_rfl) (SoundTab.cons ref11_id_call ref11_id_ok (SoundTab.cons ref11_clean_call ref11_clean_ok (SoundTab.cons ref11_Same_call ref11_Same_ok (SoundTab.cons ref10_Pure_call ref10_Pure_ok (SoundTab.cons ref09_Right_call ref09_Right_ok (SoundTab.cons ref01_Canon_call ref01_Canon_ok (SoundTab.nil))))))) (SoundNames.nil') (fun args objs hl => match args, hl with | [a0], _ => (evalF_same _ _ _).trans (ref11_Right_eq a0 objs)) (fun args objs hl => match args, hl with | [], _ => rfl | [_], hl => absurd rfl hl | _ :: _ :: _, _ => rfl)
theorem ref13_Find_call : Callable PP 27 := callable_of (fn := Go.Proofs.Tryz.f27) (by kernel_rfl) (by kernel_rfl) (by kernel_rfl)
theorem ref13_Find_ok : SoundFn PP 27 (ref13_Find) := by
  exact fn_ok (P := PP) (fn := Go.Proofs.Tryz.f27) 2 mix_ok (by kernel_rfl) (SoundTab.nil) (SoundNames.nil') (fun args objs hl => match args, hl with | [a0, a1], _ => (evalF_same _ _ _).trans (ref13_Find_eq a0 a1 objs)) (fun args objs hl => match args, hl with | [], _ => rfl | [_], _ => rfl | [_, _], hl => absurd rfl hl | _ :: _ :: _ :: _, _ => rfl)
theorem ref13_Fits_call : Callable PP 15 := callable_of (fn := Go.Proofs.Tryz.f15) (by kernel_rfl) (by kernel_rfl) (by kernel_rfl)
theorem ref13_Fits_ok : SoundFn PP 15 (ref13_Fits) := by
  exact fn_ok (P := PP) (fn := Go.Proofs.Tryz.f15) 3 mix_ok (by kernel_rfl) (SoundTab.cons ref13_Find_call ref13_Find_ok (SoundTab.nil)) (SoundNames.nil') (fun args objs hl => match args, hl with | [a0, a1, a2], _ => (evalF_same _ _ _).trans (ref13_Fits_eq a0 a1 a2 objs)) (fun args objs hl => match args, hl with | [], _ => rfl | [_], _ => rfl | [_, _], _ => rfl | [_, _, _], hl => absurd rfl hl | _ :: _ :: _ :: _ :: _, _ => rfl)
theorem ref13_Above_call : Callable PP 28 := callable_of (fn := Go.Proofs.Tryz.f28) (by kernel_rfl) (by kernel_rfl) (by kernel_rfl)
theorem ref13_Above_step_ok (self : CallFn) (hself : SoundFn PP 28 self) : SoundFn PP 28 (ref13_Above_step self) := by
  have me_call := ref13_Above_call
  exact fn_ok (P := PP) (fn := Go.Proofs.Tryz.f28) 1 mix_ok (by kernel_rfl) (SoundTab.cons me_call hself (SoundTab.nil)) (SoundNames.nil') (fun args objs hl => match args, hl with | [a0], _ => (evalF_same _ _ _).trans (ref13_Above_eq self a0 objs)) (fun args objs hl => match args, hl with | [], _ => rfl | [_], hl => absurd rfl hl | _ :: _ :: _, _ => rfl)
theorem ref13_Above_ok : ∀ n, SoundFn PP 28 (ref13_Above n)
  | 0 => SoundFn.none 28
  | n + 1 => ref13_Above_step_ok _ (ref13_Above_ok n)
theorem ref13_Given_call : Callable PP 16 := callable_of (fn := Go.Proofs.Tryz.f16) (by kernel_rfl) (by kernel_rfl) (by kernel_rfl)
theorem ref13_Given_ok : SoundFn PP 16 (ref13_Given) := by
  exact fn_ok (P := PP) (fn := Go.Proofs.Tryz.f16) 2 mix_ok (by kernel_rfl) (SoundTab.cons ref13_Above_call (ref13_Above_ok big) (SoundTab.nil)) (SoundNames.nil') (fun args objs hl => match args, hl with | [a0, a1], _ => (evalF_same _ _ _).trans (ref13_Given_eq a0 a1 objs)) (fun args objs hl => match args, hl with | [], _ => rfl | [_], _ => rfl | [_, _], hl => absurd rfl hl | _ :: _ :: _ :: _, _ => rfl)
theorem ref13_Sound_call : Callable PP 9 := callable_of (fn := Go.Proofs.Tryz.f9) (by kernel_rfl) (by kernel_rfl) (by kernel_rfl)
theorem ref13_Sound_ok : SoundFn PP 9 (ref13_Sound) := by
  exact fn_ok (P := PP) (fn := Go.Proofs.Tryz.f9) 1 mix_ok (by kernel_rfl) (SoundTab.cons ref13_Refs_call ref13_Refs_ok (SoundTab.cons ref13_Graph_call ref13_Graph_ok (SoundTab.cons ref13_Given_call ref13_Given_ok (SoundTab.cons ref13_Fits_call ref13_Fits_ok (SoundTab.cons ref11_Right_call ref11_Right_ok (SoundTab.nil)))))) (SoundNames.nil') (fun args objs hl => match args, hl with | [a0], _ => (evalF_same _ _ _).trans (ref13_Sound_eq a0 objs)) (fun args objs hl => match args, hl with | [], _ => rfl | [_], hl => absurd rfl hl | _ :: _ :: _, _ => rfl)
theorem law20_KernWorlds_call : Callable PP 4 := callable_of (fn := Go.Proofs.Tryz.f4) (by kernel_rfl) (by kernel_rfl) (by kernel_rfl)
theorem law20_KernWorlds_ok : SoundFn PP 4 (law20_KernWorlds) := by
  exact fn_ok (P := PP) (fn := Go.Proofs.Tryz.f4) 1 mix_ok (by kernel_rfl) (SoundTab.cons kern_World_call kern_World_ok (SoundTab.cons ref20_World_call ref20_World_ok (SoundTab.cons ref13_Sound_call ref13_Sound_ok (SoundTab.cons ref13_Same_call ref13_Same_ok (SoundTab.cons law20_kernAlive_call law20_kernAlive_ok (SoundTab.nil)))))) (SoundNames.nil') (fun args objs hl => match args, hl with | [a0], _ => (evalF_same _ _ _).trans (law20_KernWorlds_eq a0 objs)) (fun args objs hl => match args, hl with | [], _ => rfl | [_], hl => absurd rfl hl | _ :: _ :: _, _ => rfl)
end Go.Ab.F
