/-
  THAT THE PROGRAM'S FUNCTIONS ARE WHAT THEIR WALKS COME TO. Written by a program (emit.py).
-/
import Derived.Test.YtffjjeifgejplaaFnQ0
import Derived.Test.YtffjjeifgejplaaFnQ1
import Derived.Test.YtffjjeifgejplaaFnQ2
import Derived.Test.YtffjjeifgejplaaFnQ3
import Derived.Test.YtffjjeifgejplaaFnW
import Derived.Test.YtffjjeifgejplaaAbsTab
import Derived.KernelRfl
set_option maxRecDepth 100000
set_option linter.unusedVariables false
namespace Go.Ab.F
open Go Go.Ab Go.Proofs
noncomputable abbrev PP : Program := Go.Proofs.Try.prog
theorem mix_ok : PP.follows .mixedOrders = true := by kernel_rfl
theorem law24_secrets_call : Callable PP 40 := callable_of (fn := Go.Proofs.Try.f40) (by kernel_rfl) (by kernel_rfl) (by kernel_rfl)
theorem law24_secrets_ok : SoundFn PP 40 (law24_secrets) := by
  exact fn_ok (P := PP) (fn := Go.Proofs.Try.f40) 0 mix_ok (by kernel_rfl) (SoundTab.nil) (SoundNames.nil') (fun args objs hl => match args, hl with | [], _ => (evalF_same _ _ _).trans (law24_secrets_eq objs)) (fun args objs hl => by cases args with | nil => exact absurd rfl hl | cons a r => rfl)
theorem slices_BinarySearchFunc_Sapi_Link_api_Link_uint64_call : Callable PP 73 := callable_of (fn := Go.Proofs.Try.f73) (by kernel_rfl) (by kernel_rfl) (by kernel_rfl)
theorem slices_BinarySearchFunc_Sapi_Link_api_Link_uint64_ok (En : String → CallFn) (hEn : SoundNames PP En) : SoundFn PP 73 (slices_BinarySearchFunc_Sapi_Link_api_Link_uint64 En) := by
  exact fn_ok (P := PP) (fn := Go.Proofs.Try.f73) 3 mix_ok (by kernel_rfl) (SoundTab.nil) (hEn) (fun args objs hl => match args, hl with | [a0, a1, a2], _ => (evalF_same _ _ _).trans (slices_BinarySearchFunc_Sapi_Link_api_Link_uint64_eq En a0 a1 a2 objs)) (fun args objs hl => match args, hl with | [], _ => rfl | [_], _ => rfl | [_, _], _ => rfl | [_, _, _], hl => absurd rfl hl | _ :: _ :: _ :: _ :: _, _ => rfl)
theorem cmp_isNaN_uint64_call : Callable PP 82 := callable_of (fn := Go.Proofs.Try.f82) (by kernel_rfl) (by kernel_rfl) (by kernel_rfl)
theorem cmp_isNaN_uint64_ok : SoundFn PP 82 (cmp_isNaN_uint64) := by
  exact fn_ok (P := PP) (fn := Go.Proofs.Try.f82) 1 mix_ok (by kernel_rfl) (SoundTab.nil) (SoundNames.nil') (fun args objs hl => match args, hl with | [a0], _ => (evalF_same _ _ _).trans (cmp_isNaN_uint64_eq a0 objs)) (fun args objs hl => match args, hl with | [], _ => rfl | [_], hl => absurd rfl hl | _ :: _ :: _, _ => rfl)
theorem cmp_Compare_uint64_call : Callable PP 75 := callable_of (fn := Go.Proofs.Try.f75) (by kernel_rfl) (by kernel_rfl) (by kernel_rfl)
theorem cmp_Compare_uint64_ok : SoundFn PP 75 (cmp_Compare_uint64) := by
  exact fn_ok (P := PP) (fn := Go.Proofs.Try.f75) 2 mix_ok (by kernel_rfl) (SoundTab.cons cmp_isNaN_uint64_call cmp_isNaN_uint64_ok (SoundTab.nil)) (SoundNames.nil') (fun args objs hl => match args, hl with | [a0, a1], _ => (evalF_same _ _ _).trans (cmp_Compare_uint64_eq a0 a1 objs)) (fun args objs hl => match args, hl with | [], _ => rfl | [_], _ => rfl | [_, _], hl => absurd rfl hl | _ :: _ :: _ :: _, _ => rfl)
theorem dir_place_c1_call : Callable PP 74 := callable_of (fn := Go.Proofs.Try.f74) (by kernel_rfl) (by kernel_rfl) (by kernel_rfl)
theorem dir_place_c1_ok : SoundFn PP 74 (dir_place_c1) := by
  exact fn_ok (P := PP) (fn := Go.Proofs.Try.f74) 2 mix_ok (by kernel_rfl) (SoundTab.cons cmp_Compare_uint64_call cmp_Compare_uint64_ok (SoundTab.nil)) (SoundNames.nil') (fun args objs hl => match args, hl with | [a0, a1], _ => (evalF_same _ _ _).trans (dir_place_c1_eq a0 a1 objs)) (fun args objs hl => match args, hl with | [], _ => rfl | [_], _ => rfl | [_, _], hl => absurd rfl hl | _ :: _ :: _ :: _, _ => rfl)
theorem dir_place_call : Callable PP 56 := callable_of (fn := Go.Proofs.Try.f56) (by kernel_rfl) (by kernel_rfl) (by kernel_rfl)
theorem En_dir_place_ok : SoundNames PP (En_dir_place) := SoundNames.cons (by kernel_rfl) dir_place_c1_call dir_place_c1_ok (SoundNames.nil)
theorem dir_place_ok : SoundFn PP 56 (dir_place) := by
  have hEn := En_dir_place_ok; exact fn_ok (P := PP) (fn := Go.Proofs.Try.f56) 2 mix_ok (by kernel_rfl) (SoundTab.cons slices_BinarySearchFunc_Sapi_Link_api_Link_uint64_call (slices_BinarySearchFunc_Sapi_Link_api_Link_uint64_ok (En_dir_place) hEn) (SoundTab.cons dir_place_c1_call dir_place_c1_ok (SoundTab.nil))) (hEn) (fun args objs hl => match args, hl with | [a0, a1], _ => (evalF_same _ _ _).trans (dir_place_eq a0 a1 objs)) (fun args objs hl => match args, hl with | [], _ => rfl | [_], _ => rfl | [_, _], hl => absurd rfl hl | _ :: _ :: _ :: _, _ => rfl)
theorem dir_Has_call : Callable PP 29 := callable_of (fn := Go.Proofs.Try.f29) (by kernel_rfl) (by kernel_rfl) (by kernel_rfl)
theorem dir_Has_ok : SoundFn PP 29 (dir_Has) := by
  exact fn_ok (P := PP) (fn := Go.Proofs.Try.f29) 2 mix_ok (by kernel_rfl) (SoundTab.cons dir_place_call dir_place_ok (SoundTab.nil)) (SoundNames.nil') (fun args objs hl => match args, hl with | [a0, a1], _ => (evalF_same _ _ _).trans (dir_Has_eq a0 a1 objs)) (fun args objs hl => match args, hl with | [], _ => rfl | [_], _ => rfl | [_, _], hl => absurd rfl hl | _ :: _ :: _ :: _, _ => rfl)
theorem label_Level_call : Callable PP 48 := callable_of (fn := Go.Proofs.Try.f48) (by kernel_rfl) (by kernel_rfl) (by kernel_rfl)
theorem label_Level_ok : SoundFn PP 48 (label_Level) := by
  exact fn_ok (P := PP) (fn := Go.Proofs.Try.f48) 2 mix_ok (by kernel_rfl) (SoundTab.nil) (SoundNames.nil') (fun args objs hl => match args, hl with | [a0, a1], _ => (evalF_same _ _ _).trans (label_Level_eq a0 a1 objs)) (fun args objs hl => match args, hl with | [], _ => rfl | [_], _ => rfl | [_, _], hl => absurd rfl hl | _ :: _ :: _ :: _, _ => rfl)
theorem twin_Hidden_c1_call : Callable PP 47 := callable_of (fn := Go.Proofs.Try.f47) (by kernel_rfl) (by kernel_rfl) (by kernel_rfl)
theorem twin_Hidden_c1_ok : SoundFn PP 47 (twin_Hidden_c1) := by
  exact fn_ok (P := PP) (fn := Go.Proofs.Try.f47) 2 mix_ok (by kernel_rfl) (SoundTab.cons label_Level_call label_Level_ok (SoundTab.nil)) (SoundNames.nil') (fun args objs hl => match args, hl with | [a0, a1], _ => (evalF_same _ _ _).trans (twin_Hidden_c1_eq a0 a1 objs)) (fun args objs hl => match args, hl with | [], _ => rfl | [_], _ => rfl | [_, _], hl => absurd rfl hl | _ :: _ :: _ :: _, _ => rfl)
theorem slices_IndexFunc_Suint64_uint64_call : Callable PP 67 := callable_of (fn := Go.Proofs.Try.f67) (by kernel_rfl) (by kernel_rfl) (by kernel_rfl)
theorem slices_IndexFunc_Suint64_uint64_ok (En : String → CallFn) (hEn : SoundNames PP En) : SoundFn PP 67 (slices_IndexFunc_Suint64_uint64 En) := by
  exact fn_ok (P := PP) (fn := Go.Proofs.Try.f67) 2 mix_ok (by kernel_rfl) (SoundTab.nil) (hEn) (fun args objs hl => match args, hl with | [a0, a1], _ => (evalF_same _ _ _).trans (slices_IndexFunc_Suint64_uint64_eq En a0 a1 objs)) (fun args objs hl => match args, hl with | [], _ => rfl | [_], _ => rfl | [_, _], hl => absurd rfl hl | _ :: _ :: _ :: _, _ => rfl)
theorem slices_ContainsFunc_Suint64_uint64_call : Callable PP 46 := callable_of (fn := Go.Proofs.Try.f46) (by kernel_rfl) (by kernel_rfl) (by kernel_rfl)
theorem slices_ContainsFunc_Suint64_uint64_ok (En : String → CallFn) (hEn : SoundNames PP En) : SoundFn PP 46 (slices_ContainsFunc_Suint64_uint64 En) := by
  exact fn_ok (P := PP) (fn := Go.Proofs.Try.f46) 2 mix_ok (by kernel_rfl) (SoundTab.cons slices_IndexFunc_Suint64_uint64_call (slices_IndexFunc_Suint64_uint64_ok En hEn) (SoundTab.nil)) (hEn) (fun args objs hl => match args, hl with | [a0, a1], _ => (evalF_same _ _ _).trans (slices_ContainsFunc_Suint64_uint64_eq En a0 a1 objs)) (fun args objs hl => match args, hl with | [], _ => rfl | [_], _ => rfl | [_, _], hl => absurd rfl hl | _ :: _ :: _ :: _, _ => rfl)
theorem twin_Hidden_call : Callable PP 13 := callable_of (fn := Go.Proofs.Try.f13) (by kernel_rfl) (by kernel_rfl) (by kernel_rfl)
theorem En_twin_Hidden_ok : SoundNames PP (En_twin_Hidden) := SoundNames.cons (by kernel_rfl) twin_Hidden_c1_call twin_Hidden_c1_ok (SoundNames.nil)
theorem twin_Hidden_ok : SoundFn PP 13 (twin_Hidden) := by
  have hEn := En_twin_Hidden_ok; exact fn_ok (P := PP) (fn := Go.Proofs.Try.f13) 2 mix_ok (by kernel_rfl) (SoundTab.cons slices_ContainsFunc_Suint64_uint64_call (slices_ContainsFunc_Suint64_uint64_ok (En_twin_Hidden) hEn) (SoundTab.cons twin_Hidden_c1_call twin_Hidden_c1_ok (SoundTab.nil))) (hEn) (fun args objs hl => match args, hl with | [a0, a1], _ => (evalF_same _ _ _).trans (twin_Hidden_eq a0 a1 objs)) (fun args objs hl => match args, hl with | [], _ => rfl | [_], _ => rfl | [_, _], hl => absurd rfl hl | _ :: _ :: _ :: _, _ => rfl)
theorem twin_View_c1_call : Callable PP 54 := callable_of (fn := Go.Proofs.Try.f54) (by kernel_rfl) (by kernel_rfl) (by kernel_rfl)
theorem twin_View_c1_ok : SoundFn PP 54 (twin_View_c1) := by
  exact fn_ok (P := PP) (fn := Go.Proofs.Try.f54) 3 mix_ok (by kernel_rfl) (SoundTab.cons twin_Hidden_call twin_Hidden_ok (SoundTab.cons dir_Has_call dir_Has_ok (SoundTab.nil))) (SoundNames.nil') (fun args objs hl => match args, hl with | [a0, a1, a2], _ => (evalF_same _ _ _).trans (twin_View_c1_eq a0 a1 a2 objs)) (fun args objs hl => match args, hl with | [], _ => rfl | [_], _ => rfl | [_, _], _ => rfl | [_, _, _], hl => absurd rfl hl | _ :: _ :: _ :: _ :: _, _ => rfl)
theorem slices_IndexFunc_Sapi_Thing_api_Thing_call : Callable PP 69 := callable_of (fn := Go.Proofs.Try.f69) (by kernel_rfl) (by kernel_rfl) (by kernel_rfl)
theorem slices_IndexFunc_Sapi_Thing_api_Thing_ok (En : String → CallFn) (hEn : SoundNames PP En) : SoundFn PP 69 (slices_IndexFunc_Sapi_Thing_api_Thing En) := by
  exact fn_ok (P := PP) (fn := Go.Proofs.Try.f69) 2 mix_ok (by kernel_rfl) (SoundTab.nil) (hEn) (fun args objs hl => match args, hl with | [a0, a1], _ => (evalF_same _ _ _).trans (slices_IndexFunc_Sapi_Thing_api_Thing_eq En a0 a1 objs)) (fun args objs hl => match args, hl with | [], _ => rfl | [_], _ => rfl | [_, _], hl => absurd rfl hl | _ :: _ :: _ :: _, _ => rfl)
theorem slices_ContainsFunc_Sapi_Thing_api_Thing_call : Callable PP 53 := callable_of (fn := Go.Proofs.Try.f53) (by kernel_rfl) (by kernel_rfl) (by kernel_rfl)
theorem slices_ContainsFunc_Sapi_Thing_api_Thing_ok (En : String → CallFn) (hEn : SoundNames PP En) : SoundFn PP 53 (slices_ContainsFunc_Sapi_Thing_api_Thing En) := by
  exact fn_ok (P := PP) (fn := Go.Proofs.Try.f53) 2 mix_ok (by kernel_rfl) (SoundTab.cons slices_IndexFunc_Sapi_Thing_api_Thing_call (slices_IndexFunc_Sapi_Thing_api_Thing_ok En hEn) (SoundTab.nil)) (hEn) (fun args objs hl => match args, hl with | [a0, a1], _ => (evalF_same _ _ _).trans (slices_ContainsFunc_Sapi_Thing_api_Thing_eq En a0 a1 objs)) (fun args objs hl => match args, hl with | [], _ => rfl | [_], _ => rfl | [_, _], hl => absurd rfl hl | _ :: _ :: _ :: _, _ => rfl)
theorem slices_Clone_Sapi_Cat_api_Cat_ok : SoundFn PP 70 (primClone 2 16) := clone70
theorem slices_Clone_Sapi_Cat_api_Cat_call : Callable PP 70 := callable_of (fn := Go.Proofs.Try.f70) (by kernel_rfl) (by kernel_rfl) (by kernel_rfl)
theorem slices_Clone_Sapi_Link_api_Link_ok : SoundFn PP 71 (primClone 2 16) := clone71
theorem slices_Clone_Sapi_Link_api_Link_call : Callable PP 71 := callable_of (fn := Go.Proofs.Try.f71) (by kernel_rfl) (by kernel_rfl) (by kernel_rfl)
theorem slices_Clone_Sbyte_byte_ok : SoundFn PP 72 (primClone 1 1) := clone72
theorem slices_Clone_Sbyte_byte_call : Callable PP 72 := callable_of (fn := Go.Proofs.Try.f72) (by kernel_rfl) (by kernel_rfl) (by kernel_rfl)
theorem thing_Copy_call : Callable PP 55 := callable_of (fn := Go.Proofs.Try.f55) (by kernel_rfl) (by kernel_rfl) (by kernel_rfl)
theorem thing_Copy_ok : SoundFn PP 55 (thing_Copy) := by
  exact fn_ok (P := PP) (fn := Go.Proofs.Try.f55) 1 mix_ok (by kernel_rfl) (SoundTab.cons slices_Clone_Sbyte_byte_call slices_Clone_Sbyte_byte_ok (SoundTab.cons slices_Clone_Sapi_Link_api_Link_call slices_Clone_Sapi_Link_api_Link_ok (SoundTab.cons slices_Clone_Sapi_Cat_api_Cat_call slices_Clone_Sapi_Cat_api_Cat_ok (SoundTab.nil)))) (SoundNames.nil') (fun args objs hl => match args, hl with | [a0], _ => (evalF_same _ _ _).trans (thing_Copy_eq a0 objs)) (fun args objs hl => match args, hl with | [], _ => rfl | [_], hl => absurd rfl hl | _ :: _ :: _, _ => rfl)
theorem twin_View_call : Callable PP 20 := callable_of (fn := Go.Proofs.Try.f20) (by kernel_rfl) (by kernel_rfl) (by kernel_rfl)
theorem En_twin_View_ok : SoundNames PP (En_twin_View) := SoundNames.cons (by kernel_rfl) twin_View_c1_call twin_View_c1_ok (SoundNames.nil)
theorem twin_View_ok : SoundFn PP 20 (twin_View) := by
  have hEn := En_twin_View_ok; exact fn_ok (P := PP) (fn := Go.Proofs.Try.f20) 2 mix_ok (by kernel_rfl) (SoundTab.cons slices_ContainsFunc_Sapi_Thing_api_Thing_call (slices_ContainsFunc_Sapi_Thing_api_Thing_ok (En_twin_View) hEn) (SoundTab.cons twin_View_c1_call twin_View_c1_ok (SoundTab.cons twin_Hidden_call twin_Hidden_ok (SoundTab.cons thing_Copy_call thing_Copy_ok (SoundTab.nil))))) (hEn) (fun args objs hl => match args, hl with | [a0, a1], _ => (evalF_same _ _ _).trans (twin_View_eq a0 a1 objs)) (fun args objs hl => match args, hl with | [], _ => rfl | [_], _ => rfl | [_, _], hl => absurd rfl hl | _ :: _ :: _ :: _, _ => rfl)
theorem watch_Owners_call : Callable PP 51 := callable_of (fn := Go.Proofs.Try.f51) (by kernel_rfl) (by kernel_rfl) (by kernel_rfl)
theorem watch_Owners_ok : SoundFn PP 51 (watch_Owners) := by
  exact fn_ok (P := PP) (fn := Go.Proofs.Try.f51) 2 mix_ok (by kernel_rfl) (SoundTab.cons label_Level_call label_Level_ok (SoundTab.nil)) (SoundNames.nil') (fun args objs hl => match args, hl with | [a0, a1], _ => (evalF_same _ _ _).trans (watch_Owners_eq a0 a1 objs)) (fun args objs hl => match args, hl with | [], _ => rfl | [_], _ => rfl | [_, _], hl => absurd rfl hl | _ :: _ :: _ :: _, _ => rfl)
theorem twin_Owned_c1_call : Callable PP 50 := callable_of (fn := Go.Proofs.Try.f50) (by kernel_rfl) (by kernel_rfl) (by kernel_rfl)
theorem twin_Owned_c1_ok : SoundFn PP 50 (twin_Owned_c1) := by
  exact fn_ok (P := PP) (fn := Go.Proofs.Try.f50) 2 mix_ok (by kernel_rfl) (SoundTab.cons watch_Owners_call watch_Owners_ok (SoundTab.nil)) (SoundNames.nil') (fun args objs hl => match args, hl with | [a0, a1], _ => (evalF_same _ _ _).trans (twin_Owned_c1_eq a0 a1 objs)) (fun args objs hl => match args, hl with | [], _ => rfl | [_], _ => rfl | [_, _], hl => absurd rfl hl | _ :: _ :: _ :: _, _ => rfl)
theorem twin_Owned_call : Callable PP 15 := callable_of (fn := Go.Proofs.Try.f15) (by kernel_rfl) (by kernel_rfl) (by kernel_rfl)
theorem En_twin_Owned_ok : SoundNames PP (En_twin_Owned) := SoundNames.cons (by kernel_rfl) twin_Owned_c1_call twin_Owned_c1_ok (SoundNames.nil)
theorem twin_Owned_ok : SoundFn PP 15 (twin_Owned) := by
  have hEn := En_twin_Owned_ok; exact fn_ok (P := PP) (fn := Go.Proofs.Try.f15) 2 mix_ok (by kernel_rfl) (SoundTab.cons slices_ContainsFunc_Suint64_uint64_call (slices_ContainsFunc_Suint64_uint64_ok (En_twin_Owned) hEn) (SoundTab.cons twin_Owned_c1_call twin_Owned_c1_ok (SoundTab.nil))) (hEn) (fun args objs hl => match args, hl with | [a0, a1], _ => (evalF_same _ _ _).trans (twin_Owned_eq a0 a1 objs)) (fun args objs hl => match args, hl with | [], _ => rfl | [_], _ => rfl | [_, _], hl => absurd rfl hl | _ :: _ :: _ :: _, _ => rfl)
theorem slices_BinarySearchFunc_Sapi_Thing_api_Thing_uint64_call : Callable PP 80 := callable_of (fn := Go.Proofs.Try.f80) (by kernel_rfl) (by kernel_rfl) (by kernel_rfl)
theorem slices_BinarySearchFunc_Sapi_Thing_api_Thing_uint64_ok (En : String → CallFn) (hEn : SoundNames PP En) : SoundFn PP 80 (slices_BinarySearchFunc_Sapi_Thing_api_Thing_uint64 En) := by
  exact fn_ok (P := PP) (fn := Go.Proofs.Try.f80) 3 mix_ok (by kernel_rfl) (SoundTab.nil) (hEn) (fun args objs hl => match args, hl with | [a0, a1, a2], _ => (evalF_same _ _ _).trans (slices_BinarySearchFunc_Sapi_Thing_api_Thing_uint64_eq En a0 a1 a2 objs)) (fun args objs hl => match args, hl with | [], _ => rfl | [_], _ => rfl | [_, _], _ => rfl | [_, _, _], hl => absurd rfl hl | _ :: _ :: _ :: _ :: _, _ => rfl)
theorem graph_place_c1_call : Callable PP 81 := callable_of (fn := Go.Proofs.Try.f81) (by kernel_rfl) (by kernel_rfl) (by kernel_rfl)
theorem graph_place_c1_ok : SoundFn PP 81 (graph_place_c1) := by
  exact fn_ok (P := PP) (fn := Go.Proofs.Try.f81) 2 mix_ok (by kernel_rfl) (SoundTab.cons cmp_Compare_uint64_call cmp_Compare_uint64_ok (SoundTab.nil)) (SoundNames.nil') (fun args objs hl => match args, hl with | [a0, a1], _ => (evalF_same _ _ _).trans (graph_place_c1_eq a0 a1 objs)) (fun args objs hl => match args, hl with | [], _ => rfl | [_], _ => rfl | [_, _], hl => absurd rfl hl | _ :: _ :: _ :: _, _ => rfl)
theorem graph_place_call : Callable PP 68 := callable_of (fn := Go.Proofs.Try.f68) (by kernel_rfl) (by kernel_rfl) (by kernel_rfl)
theorem En_graph_place_ok : SoundNames PP (En_graph_place) := SoundNames.cons (by kernel_rfl) graph_place_c1_call graph_place_c1_ok (SoundNames.nil)
theorem graph_place_ok : SoundFn PP 68 (graph_place) := by
  have hEn := En_graph_place_ok; exact fn_ok (P := PP) (fn := Go.Proofs.Try.f68) 2 mix_ok (by kernel_rfl) (SoundTab.cons slices_BinarySearchFunc_Sapi_Thing_api_Thing_uint64_call (slices_BinarySearchFunc_Sapi_Thing_api_Thing_uint64_ok (En_graph_place) hEn) (SoundTab.cons graph_place_c1_call graph_place_c1_ok (SoundTab.nil))) (hEn) (fun args objs hl => match args, hl with | [a0, a1], _ => (evalF_same _ _ _).trans (graph_place_eq a0 a1 objs)) (fun args objs hl => match args, hl with | [], _ => rfl | [_], _ => rfl | [_, _], hl => absurd rfl hl | _ :: _ :: _ :: _, _ => rfl)
theorem graph_Find_call : Callable PP 52 := callable_of (fn := Go.Proofs.Try.f52) (by kernel_rfl) (by kernel_rfl) (by kernel_rfl)
theorem graph_Find_ok : SoundFn PP 52 (graph_Find) := by
  exact fn_ok (P := PP) (fn := Go.Proofs.Try.f52) 2 mix_ok (by kernel_rfl) (SoundTab.cons thing_Copy_call thing_Copy_ok (SoundTab.cons graph_place_call graph_place_ok (SoundTab.nil))) (SoundNames.nil') (fun args objs hl => match args, hl with | [a0, a1], _ => (evalF_same _ _ _).trans (graph_Find_eq a0 a1 objs)) (fun args objs hl => match args, hl with | [], _ => rfl | [_], _ => rfl | [_, _], hl => absurd rfl hl | _ :: _ :: _ :: _, _ => rfl)
theorem twin_Nested_call : Callable PP 17 := callable_of (fn := Go.Proofs.Try.f17) (by kernel_rfl) (by kernel_rfl) (by kernel_rfl)
theorem twin_Nested_ok : SoundFn PP 17 (twin_Nested) := by
  exact fn_ok (P := PP) (fn := Go.Proofs.Try.f17) 2 mix_ok (by kernel_rfl) (SoundTab.cons twin_Hidden_call twin_Hidden_ok (SoundTab.cons graph_Find_call graph_Find_ok (SoundTab.nil))) (SoundNames.nil') (fun args objs hl => match args, hl with | [a0, a1], _ => (evalF_same _ _ _).trans (twin_Nested_eq a0 a1 objs)) (fun args objs hl => match args, hl with | [], _ => rfl | [_], _ => rfl | [_, _], hl => absurd rfl hl | _ :: _ :: _ :: _, _ => rfl)
theorem law24_twinAlive_call : Callable PP 11 := callable_of (fn := Go.Proofs.Try.f11) (by kernel_rfl) (by kernel_rfl) (by kernel_rfl)
theorem law24_twinAlive_ok : SoundFn PP 11 (law24_twinAlive) := by
  exact fn_ok (P := PP) (fn := Go.Proofs.Try.f11) 0 mix_ok (by kernel_rfl) (SoundTab.cons twin_View_call twin_View_ok (SoundTab.cons twin_Owned_call twin_Owned_ok (SoundTab.cons twin_Nested_call twin_Nested_ok (SoundTab.cons twin_Hidden_call twin_Hidden_ok (SoundTab.cons law24_secrets_call law24_secrets_ok (SoundTab.nil)))))) (SoundNames.nil') (fun args objs hl => match args, hl with | [], _ => (evalF_same _ _ _).trans (law24_twinAlive_eq objs)) (fun args objs hl => by cases args with | nil => exact absurd rfl hl | cons a r => rfl)
theorem ref13_Graph_call : Callable PP 41 := callable_of (fn := Go.Proofs.Try.f41) (by kernel_rfl) (by kernel_rfl) (by kernel_rfl)
theorem ref13_Graph_ok : SoundFn PP 41 (ref13_Graph) := by
  exact fn_ok (P := PP) (fn := Go.Proofs.Try.f41) 1 mix_ok (by kernel_rfl) (SoundTab.nil) (SoundNames.nil') (fun args objs hl => match args, hl with | [a0], _ => (evalF_same _ _ _).trans (ref13_Graph_eq a0 objs)) (fun args objs hl => match args, hl with | [], _ => rfl | [_], hl => absurd rfl hl | _ :: _ :: _, _ => rfl)
theorem ref12_Has_call : Callable PP 30 := callable_of (fn := Go.Proofs.Try.f30) (by kernel_rfl) (by kernel_rfl) (by kernel_rfl)
theorem ref12_Has_ok : SoundFn PP 30 (ref12_Has) := by
  exact fn_ok (P := PP) (fn := Go.Proofs.Try.f30) 2 mix_ok (by kernel_rfl) (SoundTab.nil) (SoundNames.nil') (fun args objs hl => match args, hl with | [a0, a1], _ => (evalF_same _ _ _).trans (ref12_Has_eq a0 a1 objs)) (fun args objs hl => match args, hl with | [], _ => rfl | [_], _ => rfl | [_, _], hl => absurd rfl hl | _ :: _ :: _ :: _, _ => rfl)
theorem ref13_Refs_call : Callable PP 42 := callable_of (fn := Go.Proofs.Try.f42) (by kernel_rfl) (by kernel_rfl) (by kernel_rfl)
theorem ref13_Refs_ok : SoundFn PP 42 (ref13_Refs) := by
  exact fn_ok (P := PP) (fn := Go.Proofs.Try.f42) 2 mix_ok (by kernel_rfl) (SoundTab.cons ref12_Has_call ref12_Has_ok (SoundTab.nil)) (SoundNames.nil') (fun args objs hl => match args, hl with | [a0, a1], _ => (evalF_same _ _ _).trans (ref13_Refs_eq a0 a1 objs)) (fun args objs hl => match args, hl with | [], _ => rfl | [_], _ => rfl | [_, _], hl => absurd rfl hl | _ :: _ :: _ :: _, _ => rfl)
theorem ref11_id_call : Callable PP 61 := callable_of (fn := Go.Proofs.Try.f61) (by kernel_rfl) (by kernel_rfl) (by kernel_rfl)
theorem ref11_id_ok : SoundFn PP 61 (ref11_id) := by
  exact fn_ok (P := PP) (fn := Go.Proofs.Try.f61) 1 mix_ok (by kernel_rfl) (SoundTab.nil) (SoundNames.nil') (fun args objs hl => match args, hl with | [a0], _ => (evalF_same _ _ _).trans (ref11_id_eq a0 objs)) (fun args objs hl => match args, hl with | [], _ => rfl | [_], hl => absurd rfl hl | _ :: _ :: _, _ => rfl)
theorem ref09_IDs_call : Callable PP 84 := callable_of (fn := Go.Proofs.Try.f84) (by kernel_rfl) (by kernel_rfl) (by kernel_rfl)
theorem ref09_IDs_ok : SoundFn PP 84 (ref09_IDs) := by
  exact fn_ok (P := PP) (fn := Go.Proofs.Try.f84) 1 mix_ok (by kernel_rfl) (SoundTab.nil) (SoundNames.nil') (fun args objs hl => match args, hl with | [a0], _ => (evalF_same _ _ _).trans (ref09_IDs_eq a0 objs)) (fun args objs hl => match args, hl with | [], _ => rfl | [_], hl => absurd rfl hl | _ :: _ :: _, _ => rfl)
theorem ref09_Level_call : Callable PP 49 := callable_of (fn := Go.Proofs.Try.f49) (by kernel_rfl) (by kernel_rfl) (by kernel_rfl)
theorem ref09_Level_ok : SoundFn PP 49 (ref09_Level) := by
  exact fn_ok (P := PP) (fn := Go.Proofs.Try.f49) 2 mix_ok (by kernel_rfl) (SoundTab.nil) (SoundNames.nil') (fun args objs hl => match args, hl with | [a0, a1], _ => (evalF_same _ _ _).trans (ref09_Level_eq a0 a1 objs)) (fun args objs hl => match args, hl with | [], _ => rfl | [_], _ => rfl | [_, _], hl => absurd rfl hl | _ :: _ :: _ :: _, _ => rfl)
theorem ref09_Form_call : Callable PP 78 := callable_of (fn := Go.Proofs.Try.f78) (by kernel_rfl) (by kernel_rfl) (by kernel_rfl)
theorem ref09_Form_ok : SoundFn PP 78 (ref09_Form) := by
  exact fn_ok (P := PP) (fn := Go.Proofs.Try.f78) 1 mix_ok (by kernel_rfl) (SoundTab.cons ref09_Level_call ref09_Level_ok (SoundTab.cons ref09_IDs_call ref09_IDs_ok (SoundTab.nil))) (SoundNames.nil') (fun args objs hl => match args, hl with | [a0], _ => (evalF_same _ _ _).trans (ref09_Form_eq a0 objs)) (fun args objs hl => match args, hl with | [], _ => rfl | [_], hl => absurd rfl hl | _ :: _ :: _, _ => rfl)
theorem ref09_Exact_call : Callable PP 60 := callable_of (fn := Go.Proofs.Try.f60) (by kernel_rfl) (by kernel_rfl) (by kernel_rfl)
theorem ref09_Exact_ok : SoundFn PP 60 (ref09_Exact) := by
  exact fn_ok (P := PP) (fn := Go.Proofs.Try.f60) 2 mix_ok (by kernel_rfl) (SoundTab.nil) (SoundNames.nil') (fun args objs hl => match args, hl with | [a0, a1], _ => (evalF_same _ _ _).trans (ref09_Exact_eq a0 a1 objs)) (fun args objs hl => match args, hl with | [], _ => rfl | [_], _ => rfl | [_, _], hl => absurd rfl hl | _ :: _ :: _ :: _, _ => rfl)
theorem ref09_Right_call : Callable PP 62 := callable_of (fn := Go.Proofs.Try.f62) (by kernel_rfl) (by kernel_rfl) (by kernel_rfl)
theorem ref09_Right_ok : SoundFn PP 62 (ref09_Right) := by
  exact fn_ok (P := PP) (fn := Go.Proofs.Try.f62) 1 mix_ok (by kernel_rfl) (SoundTab.cons ref09_Form_call ref09_Form_ok (SoundTab.cons ref09_Exact_call ref09_Exact_ok (SoundTab.nil))) (SoundNames.nil') (fun args objs hl => match args, hl with | [a0], _ => (evalF_same _ _ _).trans (ref09_Right_eq a0 objs)) (fun args objs hl => match args, hl with | [], _ => rfl | [_], hl => absurd rfl hl | _ :: _ :: _, _ => rfl)
theorem ref10_Pure_call : Callable PP 63 := callable_of (fn := Go.Proofs.Try.f63) (by kernel_rfl) (by kernel_rfl) (by kernel_rfl)
theorem ref10_Pure_ok : SoundFn PP 63 (ref10_Pure) := by
  exact fn_ok (P := PP) (fn := Go.Proofs.Try.f63) 1 mix_ok (by kernel_rfl) (SoundTab.nil) (SoundNames.nil') (fun args objs hl => match args, hl with | [a0], _ => (evalF_same _ _ _).trans (ref10_Pure_eq a0 objs)) (fun args objs hl => match args, hl with | [], _ => rfl | [_], hl => absurd rfl hl | _ :: _ :: _, _ => rfl)
theorem ref01_parts_call : Callable PP 79 := callable_of (fn := Go.Proofs.Try.f79) (by kernel_rfl) (by kernel_rfl) (by kernel_rfl)
theorem ref01_parts_ok : SoundFn PP 79 (ref01_parts) := by
  exact fn_ok (P := PP) (fn := Go.Proofs.Try.f79) 1 mix_ok (by kernel_rfl) (SoundTab.nil) (SoundNames.nil') (fun args objs hl => match args, hl with | [a0], _ => (evalF_same _ _ _).trans (ref01_parts_eq a0 objs)) (fun args objs hl => match args, hl with | [], _ => rfl | [_], hl => absurd rfl hl | _ :: _ :: _, _ => rfl)
theorem ref01_Canon_call : Callable PP 64 := callable_of (fn := Go.Proofs.Try.f64) (by kernel_rfl) (by kernel_rfl) (by kernel_rfl)
theorem ref01_Canon_ok : SoundFn PP 64 (ref01_Canon) := by
  exact fn_ok (P := PP) (fn := Go.Proofs.Try.f64) 1 mix_ok (by kernel_rfl) (SoundTab.cons ref01_parts_call ref01_parts_ok (SoundTab.nil)) (SoundNames.nil') (fun args objs hl => match args, hl with | [a0], _ => (evalF_same _ _ _).trans (ref01_Canon_eq a0 objs)) (fun args objs hl => match args, hl with | [], _ => rfl | [_], hl => absurd rfl hl | _ :: _ :: _, _ => rfl)
theorem ref11_clean_call : Callable PP 65 := callable_of (fn := Go.Proofs.Try.f65) (by kernel_rfl) (by kernel_rfl) (by kernel_rfl)
theorem ref11_clean_ok : SoundFn PP 65 (ref11_clean) := by
  exact fn_ok (P := PP) (fn := Go.Proofs.Try.f65) 1 mix_ok (by kernel_rfl) (SoundTab.cons ref10_Pure_call ref10_Pure_ok (SoundTab.cons ref09_Right_call ref09_Right_ok (SoundTab.nil))) (SoundNames.nil') (fun args objs hl => match args, hl with | [a0], _ => (evalF_same _ _ _).trans (ref11_clean_eq a0 objs)) (fun args objs hl => match args, hl with | [], _ => rfl | [_], hl => absurd rfl hl | _ :: _ :: _, _ => rfl)
theorem ref11_Same_call : Callable PP 39 := callable_of (fn := Go.Proofs.Try.f39) (by kernel_rfl) (by kernel_rfl) (by kernel_rfl)
theorem ref11_Same_ok : SoundFn PP 39 (ref11_Same) := by
  exact fn_ok (P := PP) (fn := Go.Proofs.Try.f39) 2 mix_ok (by kernel_rfl) (SoundTab.cons ref09_Exact_call ref09_Exact_ok (SoundTab.nil)) (SoundNames.nil') (fun args objs hl => match args, hl with | [a0, a1], _ => (evalF_same _ _ _).trans (ref11_Same_eq a0 a1 objs)) (fun args objs hl => match args, hl with | [], _ => rfl | [_], _ => rfl | [_, _], hl => absurd rfl hl | _ :: _ :: _ :: _, _ => rfl)
theorem ref11_Right_call : Callable PP 43 := callable_of (fn := Go.Proofs.Try.f43) (by kernel_rfl) (by kernel_rfl) (by kernel_rfl)
theorem ref11_Right_ok : SoundFn PP 43 (ref11_Right) := by
  exact fn_ok (P := PP) (fn := Go.Proofs.Try.f43) 1 mix_ok (by kernel_rfl) (SoundTab.cons ref11_id_call ref11_id_ok (SoundTab.cons ref11_clean_call ref11_clean_ok (SoundTab.cons ref11_Same_call ref11_Same_ok (SoundTab.cons ref10_Pure_call ref10_Pure_ok (SoundTab.cons ref09_Right_call ref09_Right_ok (SoundTab.cons ref01_Canon_call ref01_Canon_ok (SoundTab.nil))))))) (SoundNames.nil') (fun args objs hl => match args, hl with | [a0], _ => (evalF_same _ _ _).trans (ref11_Right_eq a0 objs)) (fun args objs hl => match args, hl with | [], _ => rfl | [_], hl => absurd rfl hl | _ :: _ :: _, _ => rfl)
theorem ref13_Find_call : Callable PP 22 := callable_of (fn := Go.Proofs.Try.f22) (by kernel_rfl) (by kernel_rfl) (by kernel_rfl)
theorem ref13_Find_ok : SoundFn PP 22 (ref13_Find) := by
  exact fn_ok (P := PP) (fn := Go.Proofs.Try.f22) 2 mix_ok (by kernel_rfl) (SoundTab.nil) (SoundNames.nil') (fun args objs hl => match args, hl with | [a0, a1], _ => (evalF_same _ _ _).trans (ref13_Find_eq a0 a1 objs)) (fun args objs hl => match args, hl with | [], _ => rfl | [_], _ => rfl | [_, _], hl => absurd rfl hl | _ :: _ :: _ :: _, _ => rfl)
theorem ref13_Fits_call : Callable PP 44 := callable_of (fn := Go.Proofs.Try.f44) (by kernel_rfl) (by kernel_rfl) (by kernel_rfl)
theorem ref13_Fits_ok : SoundFn PP 44 (ref13_Fits) := by
  exact fn_ok (P := PP) (fn := Go.Proofs.Try.f44) 3 mix_ok (by kernel_rfl) (SoundTab.cons ref13_Find_call ref13_Find_ok (SoundTab.nil)) (SoundNames.nil') (fun args objs hl => match args, hl with | [a0, a1, a2], _ => (evalF_same _ _ _).trans (ref13_Fits_eq a0 a1 a2 objs)) (fun args objs hl => match args, hl with | [], _ => rfl | [_], _ => rfl | [_, _], _ => rfl | [_, _, _], hl => absurd rfl hl | _ :: _ :: _ :: _ :: _, _ => rfl)
theorem ref13_Above_call : Callable PP 66 := callable_of (fn := Go.Proofs.Try.f66) (by kernel_rfl) (by kernel_rfl) (by kernel_rfl)
theorem ref13_Above_step_ok (self : CallFn) (hself : SoundFn PP 66 self) : SoundFn PP 66 (ref13_Above_step self) := by
  have me_call := ref13_Above_call
  exact fn_ok (P := PP) (fn := Go.Proofs.Try.f66) 1 mix_ok (by kernel_rfl) (SoundTab.cons me_call hself (SoundTab.nil)) (SoundNames.nil') (fun args objs hl => match args, hl with | [a0], _ => (evalF_same _ _ _).trans (ref13_Above_eq self a0 objs)) (fun args objs hl => match args, hl with | [], _ => rfl | [_], hl => absurd rfl hl | _ :: _ :: _, _ => rfl)
theorem ref13_Above_ok : ∀ n, SoundFn PP 66 (ref13_Above n)
  | 0 => SoundFn.none 66
  | n + 1 => ref13_Above_step_ok _ (ref13_Above_ok n)
theorem ref13_Given_call : Callable PP 45 := callable_of (fn := Go.Proofs.Try.f45) (by kernel_rfl) (by kernel_rfl) (by kernel_rfl)
theorem ref13_Given_ok : SoundFn PP 45 (ref13_Given) := by
  exact fn_ok (P := PP) (fn := Go.Proofs.Try.f45) 2 mix_ok (by kernel_rfl) (SoundTab.cons ref13_Above_call (ref13_Above_ok big) (SoundTab.nil)) (SoundNames.nil') (fun args objs hl => match args, hl with | [a0, a1], _ => (evalF_same _ _ _).trans (ref13_Given_eq a0 a1 objs)) (fun args objs hl => match args, hl with | [], _ => rfl | [_], _ => rfl | [_, _], hl => absurd rfl hl | _ :: _ :: _ :: _, _ => rfl)
theorem ref13_Sound_call : Callable PP 12 := callable_of (fn := Go.Proofs.Try.f12) (by kernel_rfl) (by kernel_rfl) (by kernel_rfl)
theorem ref13_Sound_ok : SoundFn PP 12 (ref13_Sound) := by
  exact fn_ok (P := PP) (fn := Go.Proofs.Try.f12) 1 mix_ok (by kernel_rfl) (SoundTab.cons ref13_Refs_call ref13_Refs_ok (SoundTab.cons ref13_Graph_call ref13_Graph_ok (SoundTab.cons ref13_Given_call ref13_Given_ok (SoundTab.cons ref13_Fits_call ref13_Fits_ok (SoundTab.cons ref11_Right_call ref11_Right_ok (SoundTab.nil)))))) (SoundNames.nil') (fun args objs hl => match args, hl with | [a0], _ => (evalF_same _ _ _).trans (ref13_Sound_eq a0 objs)) (fun args objs hl => match args, hl with | [], _ => rfl | [_], hl => absurd rfl hl | _ :: _ :: _, _ => rfl)
theorem ref24_Hidden_call : Callable PP 14 := callable_of (fn := Go.Proofs.Try.f14) (by kernel_rfl) (by kernel_rfl) (by kernel_rfl)
theorem ref24_Hidden_ok : SoundFn PP 14 (ref24_Hidden) := by
  exact fn_ok (P := PP) (fn := Go.Proofs.Try.f14) 2 mix_ok (by kernel_rfl) (SoundTab.cons ref09_Level_call ref09_Level_ok (SoundTab.nil)) (SoundNames.nil') (fun args objs hl => match args, hl with | [a0, a1], _ => (evalF_same _ _ _).trans (ref24_Hidden_eq a0 a1 objs)) (fun args objs hl => match args, hl with | [], _ => rfl | [_], _ => rfl | [_, _], hl => absurd rfl hl | _ :: _ :: _ :: _, _ => rfl)
theorem ref24_Owned_call : Callable PP 16 := callable_of (fn := Go.Proofs.Try.f16) (by kernel_rfl) (by kernel_rfl) (by kernel_rfl)
theorem ref24_Owned_ok : SoundFn PP 16 (ref24_Owned) := by
  exact fn_ok (P := PP) (fn := Go.Proofs.Try.f16) 2 mix_ok (by kernel_rfl) (SoundTab.cons ref09_Level_call ref09_Level_ok (SoundTab.nil)) (SoundNames.nil') (fun args objs hl => match args, hl with | [a0, a1], _ => (evalF_same _ _ _).trans (ref24_Owned_eq a0 a1 objs)) (fun args objs hl => match args, hl with | [], _ => rfl | [_], _ => rfl | [_, _], hl => absurd rfl hl | _ :: _ :: _ :: _, _ => rfl)
theorem ref24_Nested_call : Callable PP 18 := callable_of (fn := Go.Proofs.Try.f18) (by kernel_rfl) (by kernel_rfl) (by kernel_rfl)
theorem ref24_Nested_ok : SoundFn PP 18 (ref24_Nested) := by
  exact fn_ok (P := PP) (fn := Go.Proofs.Try.f18) 2 mix_ok (by kernel_rfl) (SoundTab.cons ref24_Hidden_call ref24_Hidden_ok (SoundTab.cons ref12_Has_call ref12_Has_ok (SoundTab.nil))) (SoundNames.nil') (fun args objs hl => match args, hl with | [a0, a1], _ => (evalF_same _ _ _).trans (ref24_Nested_eq a0 a1 objs)) (fun args objs hl => match args, hl with | [], _ => rfl | [_], _ => rfl | [_, _], hl => absurd rfl hl | _ :: _ :: _ :: _, _ => rfl)
theorem ref24_View_call : Callable PP 21 := callable_of (fn := Go.Proofs.Try.f21) (by kernel_rfl) (by kernel_rfl) (by kernel_rfl)
theorem ref24_View_ok : SoundFn PP 21 (ref24_View) := by
  exact fn_ok (P := PP) (fn := Go.Proofs.Try.f21) 2 mix_ok (by kernel_rfl) (SoundTab.cons ref24_Hidden_call ref24_Hidden_ok (SoundTab.cons ref12_Has_call ref12_Has_ok (SoundTab.nil))) (SoundNames.nil') (fun args objs hl => match args, hl with | [a0, a1], _ => (evalF_same _ _ _).trans (ref24_View_eq a0 a1 objs)) (fun args objs hl => match args, hl with | [], _ => rfl | [_], _ => rfl | [_, _], hl => absurd rfl hl | _ :: _ :: _ :: _, _ => rfl)
theorem ref13_Same_call : Callable PP 19 := callable_of (fn := Go.Proofs.Try.f19) (by kernel_rfl) (by kernel_rfl) (by kernel_rfl)
theorem ref13_Same_ok : SoundFn PP 19 (ref13_Same) := by
  exact fn_ok (P := PP) (fn := Go.Proofs.Try.f19) 2 mix_ok (by kernel_rfl) (SoundTab.cons ref11_Same_call ref11_Same_ok (SoundTab.nil)) (SoundNames.nil') (fun args objs hl => match args, hl with | [a0, a1], _ => (evalF_same _ _ _).trans (ref13_Same_eq a0 a1 objs)) (fun args objs hl => match args, hl with | [], _ => rfl | [_], _ => rfl | [_, _], hl => absurd rfl hl | _ :: _ :: _ :: _, _ => rfl)
theorem law24_TwinTells_call : Callable PP 3 := callable_of (fn := Go.Proofs.Try.f3) (by kernel_rfl) (by kernel_rfl) (by kernel_rfl)
theorem law24_TwinTells_ok : SoundFn PP 3 (law24_TwinTells) := by
  exact fn_ok (P := PP) (fn := Go.Proofs.Try.f3) 2 mix_ok (by kernel_rfl) (SoundTab.cons twin_View_call twin_View_ok (SoundTab.cons twin_Owned_call twin_Owned_ok (SoundTab.cons twin_Nested_call twin_Nested_ok (SoundTab.cons twin_Hidden_call twin_Hidden_ok (SoundTab.cons ref24_View_call ref24_View_ok (SoundTab.cons ref24_Owned_call ref24_Owned_ok (SoundTab.cons ref24_Nested_call ref24_Nested_ok (SoundTab.cons ref24_Hidden_call ref24_Hidden_ok (SoundTab.cons ref13_Sound_call ref13_Sound_ok (SoundTab.cons ref13_Same_call ref13_Same_ok (SoundTab.cons law24_twinAlive_call law24_twinAlive_ok (SoundTab.nil)))))))))))) (SoundNames.nil') (fun args objs hl => match args, hl with | [a0, a1], _ => (evalF_same _ _ _).trans (law24_TwinTells_eq a0 a1 objs)) (fun args objs hl => match args, hl with | [], _ => rfl | [_], _ => rfl | [_, _], hl => absurd rfl hl | _ :: _ :: _ :: _, _ => rfl)
theorem law24_TwinLess_call : Callable PP 4 := callable_of (fn := Go.Proofs.Try.f4) (by kernel_rfl) (by kernel_rfl) (by kernel_rfl)
theorem law24_TwinLess_ok : SoundFn PP 4 (law24_TwinLess) := by
  exact fn_ok (P := PP) (fn := Go.Proofs.Try.f4) 2 mix_ok (by kernel_rfl) (SoundTab.cons twin_View_call twin_View_ok (SoundTab.cons twin_Hidden_call twin_Hidden_ok (SoundTab.cons ref13_Sound_call ref13_Sound_ok (SoundTab.cons ref13_Same_call ref13_Same_ok (SoundTab.cons ref13_Find_call ref13_Find_ok (SoundTab.cons law24_twinAlive_call law24_twinAlive_ok (SoundTab.nil))))))) (SoundNames.nil') (fun args objs hl => match args, hl with | [a0, a1], _ => (evalF_same _ _ _).trans (law24_TwinLess_eq a0 a1 objs)) (fun args objs hl => match args, hl with | [], _ => rfl | [_], _ => rfl | [_, _], hl => absurd rfl hl | _ :: _ :: _ :: _, _ => rfl)
theorem law12_small_call : Callable PP 31 := callable_of (fn := Go.Proofs.Try.f31) (by kernel_rfl) (by kernel_rfl) (by kernel_rfl)
theorem law12_small_ok : SoundFn PP 31 (law12_small) := by
  exact fn_ok (P := PP) (fn := Go.Proofs.Try.f31) 2 mix_ok (by kernel_rfl) (SoundTab.nil) (SoundNames.nil') (fun args objs hl => match args, hl with | [a0, a1], _ => (evalF_same _ _ _).trans (law12_small_eq a0 a1 objs)) (fun args objs hl => match args, hl with | [], _ => rfl | [_], _ => rfl | [_, _], hl => absurd rfl hl | _ :: _ :: _ :: _, _ => rfl)
theorem dir_Fresh_call : Callable PP 25 := callable_of (fn := Go.Proofs.Try.f25) (by kernel_rfl) (by kernel_rfl) (by kernel_rfl)
theorem dir_Fresh_ok : SoundFn PP 25 (dir_Fresh) := by
  exact fn_ok (P := PP) (fn := Go.Proofs.Try.f25) 1 mix_ok (by kernel_rfl) (SoundTab.nil) (SoundNames.nil') (fun args objs hl => match args, hl with | [a0], _ => (evalF_same _ _ _).trans (dir_Fresh_eq a0 objs)) (fun args objs hl => match args, hl with | [], _ => rfl | [_], hl => absurd rfl hl | _ :: _ :: _, _ => rfl)
theorem dir_Used_call : Callable PP 27 := callable_of (fn := Go.Proofs.Try.f27) (by kernel_rfl) (by kernel_rfl) (by kernel_rfl)
theorem dir_Used_ok : SoundFn PP 27 (dir_Used) := by
  exact fn_ok (P := PP) (fn := Go.Proofs.Try.f27) 1 mix_ok (by kernel_rfl) (SoundTab.nil) (SoundNames.nil') (fun args objs hl => match args, hl with | [a0], _ => (evalF_same _ _ _).trans (dir_Used_eq a0 objs)) (fun args objs hl => match args, hl with | [], _ => rfl | [_], hl => absurd rfl hl | _ :: _ :: _, _ => rfl)
theorem slices_Insert_Sapi_Link_api_Link_ok : SoundFn PP 58 (primInsert 2 16) := insert58
theorem slices_Insert_Sapi_Link_api_Link_call : Callable PP 58 := callable_of (fn := Go.Proofs.Try.f58) (by kernel_rfl) (by kernel_rfl) (by kernel_rfl)
theorem dir_Add_call : Callable PP 33 := callable_of (fn := Go.Proofs.Try.f33) (by kernel_rfl) (by kernel_rfl) (by kernel_rfl)
theorem dir_Add_ok : SoundFn PP 33 (dir_Add) := by
  exact fn_ok (P := PP) (fn := Go.Proofs.Try.f33) 3 mix_ok (by kernel_rfl) (SoundTab.cons slices_Insert_Sapi_Link_api_Link_call slices_Insert_Sapi_Link_api_Link_ok (SoundTab.cons thing_Copy_call thing_Copy_ok (SoundTab.cons dir_place_call dir_place_ok (SoundTab.cons dir_Used_call dir_Used_ok (SoundTab.nil))))) (SoundNames.nil') (fun args objs hl => match args, hl with | [a0, a1, a2], _ => (evalF_same _ _ _).trans (dir_Add_eq a0 a1 a2 objs)) (fun args objs hl => match args, hl with | [], _ => rfl | [_], _ => rfl | [_, _], _ => rfl | [_, _, _], hl => absurd rfl hl | _ :: _ :: _ :: _ :: _, _ => rfl)
theorem dir_Born_call : Callable PP 35 := callable_of (fn := Go.Proofs.Try.f35) (by kernel_rfl) (by kernel_rfl) (by kernel_rfl)
theorem dir_Born_ok : SoundFn PP 35 (dir_Born) := by
  exact fn_ok (P := PP) (fn := Go.Proofs.Try.f35) 2 mix_ok (by kernel_rfl) (SoundTab.cons dir_Fresh_call dir_Fresh_ok (SoundTab.cons dir_Add_call dir_Add_ok (SoundTab.nil))) (SoundNames.nil') (fun args objs hl => match args, hl with | [a0, a1], _ => (evalF_same _ _ _).trans (dir_Born_eq a0 a1 objs)) (fun args objs hl => match args, hl with | [], _ => rfl | [_], _ => rfl | [_, _], hl => absurd rfl hl | _ :: _ :: _ :: _, _ => rfl)
theorem law12_dirAlive_call : Callable PP 23 := callable_of (fn := Go.Proofs.Try.f23) (by kernel_rfl) (by kernel_rfl) (by kernel_rfl)
theorem law12_dirAlive_ok : SoundFn PP 23 (law12_dirAlive) := by
  exact fn_ok (P := PP) (fn := Go.Proofs.Try.f23) 0 mix_ok (by kernel_rfl) (SoundTab.cons dir_Used_call dir_Used_ok (SoundTab.cons dir_Has_call dir_Has_ok (SoundTab.cons dir_Born_call dir_Born_ok (SoundTab.cons law12_small_call law12_small_ok (SoundTab.nil))))) (SoundNames.nil') (fun args objs hl => match args, hl with | [], _ => (evalF_same _ _ _).trans (law12_dirAlive_eq objs)) (fun args objs hl => by cases args with | nil => exact absurd rfl hl | cons a r => rfl)
theorem law12_DirNames_call : Callable PP 5 := callable_of (fn := Go.Proofs.Try.f5) (by kernel_rfl) (by kernel_rfl) (by kernel_rfl)
theorem law12_DirNames_ok : SoundFn PP 5 (law12_DirNames) := by
  exact fn_ok (P := PP) (fn := Go.Proofs.Try.f5) 0 mix_ok (by kernel_rfl) (SoundTab.cons law12_dirAlive_call law12_dirAlive_ok (SoundTab.nil)) (SoundNames.nil') (fun args objs hl => match args, hl with | [], _ => (evalF_same _ _ _).trans (law12_DirNames_eq objs)) (fun args objs hl => by cases args with | nil => exact absurd rfl hl | cons a r => rfl)
theorem law12_directory_call : Callable PP 24 := callable_of (fn := Go.Proofs.Try.f24) (by kernel_rfl) (by kernel_rfl) (by kernel_rfl)
theorem law12_directory_ok : SoundFn PP 24 (law12_directory) := by
  exact fn_ok (P := PP) (fn := Go.Proofs.Try.f24) 1 mix_ok (by kernel_rfl) (SoundTab.cons ref11_Right_call ref11_Right_ok (SoundTab.nil)) (SoundNames.nil') (fun args objs hl => match args, hl with | [a0], _ => (evalF_same _ _ _).trans (law12_directory_eq a0 objs)) (fun args objs hl => match args, hl with | [], _ => rfl | [_], hl => absurd rfl hl | _ :: _ :: _, _ => rfl)
theorem ref12_Fresh_call : Callable PP 26 := callable_of (fn := Go.Proofs.Try.f26) (by kernel_rfl) (by kernel_rfl) (by kernel_rfl)
theorem ref12_Fresh_ok : SoundFn PP 26 (ref12_Fresh) := by
  exact fn_ok (P := PP) (fn := Go.Proofs.Try.f26) 1 mix_ok (by kernel_rfl) (SoundTab.nil) (SoundNames.nil') (fun args objs hl => match args, hl with | [a0], _ => (evalF_same _ _ _).trans (ref12_Fresh_eq a0 objs)) (fun args objs hl => match args, hl with | [], _ => rfl | [_], hl => absurd rfl hl | _ :: _ :: _, _ => rfl)
theorem ref12_Used_call : Callable PP 28 := callable_of (fn := Go.Proofs.Try.f28) (by kernel_rfl) (by kernel_rfl) (by kernel_rfl)
theorem ref12_Used_ok : SoundFn PP 28 (ref12_Used) := by
  exact fn_ok (P := PP) (fn := Go.Proofs.Try.f28) 1 mix_ok (by kernel_rfl) (SoundTab.nil) (SoundNames.nil') (fun args objs hl => match args, hl with | [a0], _ => (evalF_same _ _ _).trans (ref12_Used_eq a0 objs)) (fun args objs hl => match args, hl with | [], _ => rfl | [_], hl => absurd rfl hl | _ :: _ :: _, _ => rfl)
theorem law12_DirTells_call : Callable PP 6 := callable_of (fn := Go.Proofs.Try.f6) (by kernel_rfl) (by kernel_rfl) (by kernel_rfl)
theorem law12_DirTells_ok : SoundFn PP 6 (law12_DirTells) := by
  exact fn_ok (P := PP) (fn := Go.Proofs.Try.f6) 2 mix_ok (by kernel_rfl) (SoundTab.cons dir_Used_call dir_Used_ok (SoundTab.cons dir_Has_call dir_Has_ok (SoundTab.cons dir_Fresh_call dir_Fresh_ok (SoundTab.cons ref12_Used_call ref12_Used_ok (SoundTab.cons ref12_Has_call ref12_Has_ok (SoundTab.cons ref12_Fresh_call ref12_Fresh_ok (SoundTab.cons law12_directory_call law12_directory_ok (SoundTab.cons law12_dirAlive_call law12_dirAlive_ok (SoundTab.nil))))))))) (SoundNames.nil') (fun args objs hl => match args, hl with | [a0, a1], _ => (evalF_same _ _ _).trans (law12_DirTells_eq a0 a1 objs)) (fun args objs hl => match args, hl with | [], _ => rfl | [_], _ => rfl | [_, _], hl => absurd rfl hl | _ :: _ :: _ :: _, _ => rfl)
theorem ref09_Copy_call : Callable PP 57 := callable_of (fn := Go.Proofs.Try.f57) (by kernel_rfl) (by kernel_rfl) (by kernel_rfl)
theorem ref09_Copy_ok : SoundFn PP 57 (ref09_Copy) := by
  exact fn_ok (P := PP) (fn := Go.Proofs.Try.f57) 1 mix_ok (by kernel_rfl) (SoundTab.nil) (SoundNames.nil') (fun args objs hl => match args, hl with | [a0], _ => (evalF_same _ _ _).trans (ref09_Copy_eq a0 objs)) (fun args objs hl => match args, hl with | [], _ => rfl | [_], hl => absurd rfl hl | _ :: _ :: _, _ => rfl)
theorem ref11_Copy_call : Callable PP 32 := callable_of (fn := Go.Proofs.Try.f32) (by kernel_rfl) (by kernel_rfl) (by kernel_rfl)
theorem ref11_Copy_ok : SoundFn PP 32 (ref11_Copy) := by
  exact fn_ok (P := PP) (fn := Go.Proofs.Try.f32) 1 mix_ok (by kernel_rfl) (SoundTab.cons ref09_Copy_call ref09_Copy_ok (SoundTab.nil)) (SoundNames.nil') (fun args objs hl => match args, hl with | [a0], _ => (evalF_same _ _ _).trans (ref11_Copy_eq a0 objs)) (fun args objs hl => match args, hl with | [], _ => rfl | [_], hl => absurd rfl hl | _ :: _ :: _, _ => rfl)
theorem ref12_Add_call : Callable PP 34 := callable_of (fn := Go.Proofs.Try.f34) (by kernel_rfl) (by kernel_rfl) (by kernel_rfl)
theorem ref12_Add_ok : SoundFn PP 34 (ref12_Add) := by
  exact fn_ok (P := PP) (fn := Go.Proofs.Try.f34) 3 mix_ok (by kernel_rfl) (SoundTab.cons ref12_Used_call ref12_Used_ok (SoundTab.cons ref12_Has_call ref12_Has_ok (SoundTab.nil))) (SoundNames.nil') (fun args objs hl => match args, hl with | [a0, a1, a2], _ => (evalF_same _ _ _).trans (ref12_Add_eq a0 a1 a2 objs)) (fun args objs hl => match args, hl with | [], _ => rfl | [_], _ => rfl | [_, _], _ => rfl | [_, _, _], hl => absurd rfl hl | _ :: _ :: _ :: _ :: _, _ => rfl)
theorem ref12_Born_call : Callable PP 36 := callable_of (fn := Go.Proofs.Try.f36) (by kernel_rfl) (by kernel_rfl) (by kernel_rfl)
theorem ref12_Born_ok : SoundFn PP 36 (ref12_Born) := by
  exact fn_ok (P := PP) (fn := Go.Proofs.Try.f36) 2 mix_ok (by kernel_rfl) (SoundTab.cons ref12_Fresh_call ref12_Fresh_ok (SoundTab.cons ref12_Add_call ref12_Add_ok (SoundTab.nil))) (SoundNames.nil') (fun args objs hl => match args, hl with | [a0, a1], _ => (evalF_same _ _ _).trans (ref12_Born_eq a0 a1 objs)) (fun args objs hl => match args, hl with | [], _ => rfl | [_], _ => rfl | [_, _], hl => absurd rfl hl | _ :: _ :: _ :: _, _ => rfl)
theorem slices_Delete_Sapi_Link_api_Link_ok : SoundFn PP 59 (primDelete 2 16) := delete59
theorem slices_Delete_Sapi_Link_api_Link_call : Callable PP 59 := callable_of (fn := Go.Proofs.Try.f59) (by kernel_rfl) (by kernel_rfl) (by kernel_rfl)
theorem dir_Drop_call : Callable PP 37 := callable_of (fn := Go.Proofs.Try.f37) (by kernel_rfl) (by kernel_rfl) (by kernel_rfl)
theorem dir_Drop_ok : SoundFn PP 37 (dir_Drop) := by
  exact fn_ok (P := PP) (fn := Go.Proofs.Try.f37) 2 mix_ok (by kernel_rfl) (SoundTab.cons slices_Delete_Sapi_Link_api_Link_call slices_Delete_Sapi_Link_api_Link_ok (SoundTab.cons thing_Copy_call thing_Copy_ok (SoundTab.cons dir_place_call dir_place_ok (SoundTab.nil)))) (SoundNames.nil') (fun args objs hl => match args, hl with | [a0, a1], _ => (evalF_same _ _ _).trans (dir_Drop_eq a0 a1 objs)) (fun args objs hl => match args, hl with | [], _ => rfl | [_], _ => rfl | [_, _], hl => absurd rfl hl | _ :: _ :: _ :: _, _ => rfl)
theorem ref12_Drop_call : Callable PP 38 := callable_of (fn := Go.Proofs.Try.f38) (by kernel_rfl) (by kernel_rfl) (by kernel_rfl)
theorem ref12_Drop_ok : SoundFn PP 38 (ref12_Drop) := by
  exact fn_ok (P := PP) (fn := Go.Proofs.Try.f38) 2 mix_ok (by kernel_rfl) (SoundTab.cons ref12_Has_call ref12_Has_ok (SoundTab.nil)) (SoundNames.nil') (fun args objs hl => match args, hl with | [a0, a1], _ => (evalF_same _ _ _).trans (ref12_Drop_eq a0 a1 objs)) (fun args objs hl => match args, hl with | [], _ => rfl | [_], _ => rfl | [_, _], hl => absurd rfl hl | _ :: _ :: _ :: _, _ => rfl)
theorem law12_DirChanges_call : Callable PP 8 := callable_of (fn := Go.Proofs.Try.f8) (by kernel_rfl) (by kernel_rfl) (by kernel_rfl)
theorem law12_DirChanges_ok : SoundFn PP 8 (law12_DirChanges) := by
  exact fn_ok (P := PP) (fn := Go.Proofs.Try.f8) 3 mix_ok (by kernel_rfl) (SoundTab.cons dir_Drop_call dir_Drop_ok (SoundTab.cons dir_Born_call dir_Born_ok (SoundTab.cons dir_Add_call dir_Add_ok (SoundTab.cons ref12_Drop_call ref12_Drop_ok (SoundTab.cons ref12_Born_call ref12_Born_ok (SoundTab.cons ref12_Add_call ref12_Add_ok (SoundTab.cons ref11_Same_call ref11_Same_ok (SoundTab.cons ref11_Copy_call ref11_Copy_ok (SoundTab.cons law12_directory_call law12_directory_ok (SoundTab.cons law12_dirAlive_call law12_dirAlive_ok (SoundTab.nil))))))))))) (SoundNames.nil') (fun args objs hl => match args, hl with | [a0, a1, a2], _ => (evalF_same _ _ _).trans (law12_DirChanges_eq a0 a1 a2 objs)) (fun args objs hl => match args, hl with | [], _ => rfl | [_], _ => rfl | [_, _], _ => rfl | [_, _, _], hl => absurd rfl hl | _ :: _ :: _ :: _ :: _, _ => rfl)
theorem law12_DirHolds_call : Callable PP 9 := callable_of (fn := Go.Proofs.Try.f9) (by kernel_rfl) (by kernel_rfl) (by kernel_rfl)
theorem law12_DirHolds_ok : SoundFn PP 9 (law12_DirHolds) := by
  exact fn_ok (P := PP) (fn := Go.Proofs.Try.f9) 3 mix_ok (by kernel_rfl) (SoundTab.cons dir_Used_call dir_Used_ok (SoundTab.cons dir_Has_call dir_Has_ok (SoundTab.cons dir_Drop_call dir_Drop_ok (SoundTab.cons dir_Born_call dir_Born_ok (SoundTab.cons dir_Add_call dir_Add_ok (SoundTab.cons law12_small_call law12_small_ok (SoundTab.cons law12_directory_call law12_directory_ok (SoundTab.cons law12_dirAlive_call law12_dirAlive_ok (SoundTab.nil))))))))) (SoundNames.nil') (fun args objs hl => match args, hl with | [a0, a1, a2], _ => (evalF_same _ _ _).trans (law12_DirHolds_eq a0 a1 a2 objs)) (fun args objs hl => match args, hl with | [], _ => rfl | [_], _ => rfl | [_, _], _ => rfl | [_, _, _], hl => absurd rfl hl | _ :: _ :: _ :: _ :: _, _ => rfl)
theorem law12_DirBack_call : Callable PP 10 := callable_of (fn := Go.Proofs.Try.f10) (by kernel_rfl) (by kernel_rfl) (by kernel_rfl)
theorem law12_DirBack_ok : SoundFn PP 10 (law12_DirBack) := by
  exact fn_ok (P := PP) (fn := Go.Proofs.Try.f10) 3 mix_ok (by kernel_rfl) (SoundTab.cons dir_Drop_call dir_Drop_ok (SoundTab.cons dir_Born_call dir_Born_ok (SoundTab.cons dir_Add_call dir_Add_ok (SoundTab.cons ref11_Same_call ref11_Same_ok (SoundTab.cons law12_directory_call law12_directory_ok (SoundTab.cons law12_dirAlive_call law12_dirAlive_ok (SoundTab.nil))))))) (SoundNames.nil') (fun args objs hl => match args, hl with | [a0, a1, a2], _ => (evalF_same _ _ _).trans (law12_DirBack_eq a0 a1 a2 objs)) (fun args objs hl => match args, hl with | [], _ => rfl | [_], _ => rfl | [_, _], _ => rfl | [_, _, _], hl => absurd rfl hl | _ :: _ :: _ :: _ :: _, _ => rfl)
theorem law12_DirApart_call : Callable PP 7 := callable_of (fn := Go.Proofs.Try.f7) (by kernel_rfl) (by kernel_rfl) (by kernel_rfl)
theorem law12_DirApart_ok : SoundFn PP 7 (law12_DirApart) := by
  exact fn_ok (P := PP) (fn := Go.Proofs.Try.f7) 2 mix_ok (by kernel_rfl) (SoundTab.cons dir_Fresh_call dir_Fresh_ok (SoundTab.cons law12_small_call law12_small_ok (SoundTab.cons law12_directory_call law12_directory_ok (SoundTab.cons law12_dirAlive_call law12_dirAlive_ok (SoundTab.nil))))) (SoundNames.nil') (fun args objs hl => match args, hl with | [a0, a1], _ => (evalF_same _ _ _).trans (law12_DirApart_eq a0 a1 objs)) (fun args objs hl => match args, hl with | [], _ => rfl | [_], _ => rfl | [_, _], hl => absurd rfl hl | _ :: _ :: _ :: _, _ => rfl)
end Go.Ab.F
