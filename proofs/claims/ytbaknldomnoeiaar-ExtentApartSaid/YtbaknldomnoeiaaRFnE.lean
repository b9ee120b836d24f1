/-
  THAT THE PROGRAM'S FUNCTIONS ARE WHAT THEIR WALKS COME TO. Written by a program (emit.py).
-/
import Derived.Test.YtbaknldomnoeiaaRFnQ0
import Derived.Test.YtbaknldomnoeiaaRFnQ1
import Derived.Test.YtbaknldomnoeiaaRFnQ2
import Derived.Test.YtbaknldomnoeiaaRFnQ3
import Derived.Test.YtbaknldomnoeiaaRFnW
import Derived.Test.YtbaknldomnoeiaaRAbsTab
import Derived.KernelRfl
set_option maxRecDepth 100000
set_option linter.unusedVariables false
namespace Go.Ab.F
open Go Go.Ab Go.Proofs
noncomputable abbrev PP : Program := Go.Proofs.Try.prog
theorem mix_ok : PP.follows .mixedOrders = true := by kernel_rfl
theorem extent_New_call : Callable PP 6 := callable_of (fn := Go.Proofs.Try.f6) (by kernel_rfl) (by kernel_rfl) (by kernel_rfl)
theorem extent_New_ok : SoundFn PP 6 (extent_New) := by
  exact fn_ok (P := PP) (fn := Go.Proofs.Try.f6) 1 mix_ok (by kernel_rfl) (SoundTab.nil) (SoundNames.nil') (fun args objs hl => match args, hl with | [a0], _ => (evalF_same _ _ _).trans (extent_New_eq a0 objs)) (fun args objs hl => match args, hl with | [], _ => rfl | [_], hl => absurd rfl hl | _ :: _ :: _, _ => rfl)
theorem extent_end_call : Callable PP 23 := callable_of (fn := Go.Proofs.Try.f23) (by kernel_rfl) (by kernel_rfl) (by kernel_rfl)
theorem extent_end_ok : SoundFn PP 23 (extent_end) := by
  exact fn_ok (P := PP) (fn := Go.Proofs.Try.f23) 1 mix_ok (by kernel_rfl) (SoundTab.nil) (SoundNames.nil') (fun args objs hl => match args, hl with | [a0], _ => (evalF_same _ _ _).trans (extent_end_eq a0 objs)) (fun args objs hl => match args, hl with | [], _ => rfl | [_], hl => absurd rfl hl | _ :: _ :: _, _ => rfl)
theorem extent_cut_call : Callable PP 17 := callable_of (fn := Go.Proofs.Try.f17) (by kernel_rfl) (by kernel_rfl) (by kernel_rfl)
theorem extent_cut_ok : SoundFn PP 17 (extent_cut) := by
  exact fn_ok (P := PP) (fn := Go.Proofs.Try.f17) 2 mix_ok (by kernel_rfl) (SoundTab.cons extent_end_call extent_end_ok (SoundTab.nil)) (SoundNames.nil') (fun args objs hl => match args, hl with | [a0, a1], _ => (evalF_same _ _ _).trans (extent_cut_eq a0 a1 objs)) (fun args objs hl => match args, hl with | [], _ => rfl | [_], _ => rfl | [_, _], hl => absurd rfl hl | _ :: _ :: _ :: _, _ => rfl)
theorem extent_Map_Alloc_call : Callable PP 7 := callable_of (fn := Go.Proofs.Try.f7) (by kernel_rfl) (by kernel_rfl) (by kernel_rfl)
theorem extent_Map_Alloc_ok : SoundFn PP 7 (extent_Map_Alloc) := by
  exact fn_ok (P := PP) (fn := Go.Proofs.Try.f7) 2 mix_ok (by kernel_rfl) (SoundTab.cons extent_cut_call extent_cut_ok (SoundTab.nil)) (SoundNames.nil') (fun args objs hl => match args, hl with | [a0, a1], _ => (evalF_same _ _ _).trans (extent_Map_Alloc_eq a0 a1 objs)) (fun args objs hl => match args, hl with | [], _ => rfl | [_], _ => rfl | [_, _], hl => absurd rfl hl | _ :: _ :: _ :: _, _ => rfl)
theorem extent_Map_there_call : Callable PP 21 := callable_of (fn := Go.Proofs.Try.f21) (by kernel_rfl) (by kernel_rfl) (by kernel_rfl)
theorem extent_Map_there_ok : SoundFn PP 21 (extent_Map_there) := by
  exact fn_ok (P := PP) (fn := Go.Proofs.Try.f21) 2 mix_ok (by kernel_rfl) (SoundTab.nil) (SoundNames.nil') (fun args objs hl => match args, hl with | [a0, a1], _ => (evalF_same _ _ _).trans (extent_Map_there_eq a0 a1 objs)) (fun args objs hl => match args, hl with | [], _ => rfl | [_], _ => rfl | [_, _], hl => absurd rfl hl | _ :: _ :: _ :: _, _ => rfl)
theorem extent_meets_c1_call : Callable PP 29 := callable_of (fn := Go.Proofs.Try.f29) (by kernel_rfl) (by kernel_rfl) (by kernel_rfl)
theorem extent_meets_c1_ok : SoundFn PP 29 (extent_meets_c1) := by
  exact fn_ok (P := PP) (fn := Go.Proofs.Try.f29) 2 mix_ok (by kernel_rfl) (SoundTab.cons extent_end_call extent_end_ok (SoundTab.nil)) (SoundNames.nil') (fun args objs hl => match args, hl with | [a0, a1], _ => (evalF_same _ _ _).trans (extent_meets_c1_eq a0 a1 objs)) (fun args objs hl => match args, hl with | [], _ => rfl | [_], _ => rfl | [_, _], hl => absurd rfl hl | _ :: _ :: _ :: _, _ => rfl)
theorem slices_IndexFunc_Sapi_Extent_api_Extent_call : Callable PP 32 := callable_of (fn := Go.Proofs.Try.f32) (by kernel_rfl) (by kernel_rfl) (by kernel_rfl)
theorem slices_IndexFunc_Sapi_Extent_api_Extent_ok (En : String → CallFn) (hEn : SoundNames PP En) : SoundFn PP 32 (slices_IndexFunc_Sapi_Extent_api_Extent En) := by
  exact fn_ok (P := PP) (fn := Go.Proofs.Try.f32) 2 mix_ok (by kernel_rfl) (SoundTab.nil) (hEn) (fun args objs hl => match args, hl with | [a0, a1], _ => (evalF_same _ _ _).trans (slices_IndexFunc_Sapi_Extent_api_Extent_eq En a0 a1 objs)) (fun args objs hl => match args, hl with | [], _ => rfl | [_], _ => rfl | [_, _], hl => absurd rfl hl | _ :: _ :: _ :: _, _ => rfl)
theorem slices_ContainsFunc_Sapi_Extent_api_Extent_call : Callable PP 27 := callable_of (fn := Go.Proofs.Try.f27) (by kernel_rfl) (by kernel_rfl) (by kernel_rfl)
theorem slices_ContainsFunc_Sapi_Extent_api_Extent_ok (En : String → CallFn) (hEn : SoundNames PP En) : SoundFn PP 27 (slices_ContainsFunc_Sapi_Extent_api_Extent En) := by
  exact fn_ok (P := PP) (fn := Go.Proofs.Try.f27) 2 mix_ok (by kernel_rfl) (SoundTab.cons slices_IndexFunc_Sapi_Extent_api_Extent_call (slices_IndexFunc_Sapi_Extent_api_Extent_ok En hEn) (SoundTab.nil)) (hEn) (fun args objs hl => match args, hl with | [a0, a1], _ => (evalF_same _ _ _).trans (slices_ContainsFunc_Sapi_Extent_api_Extent_eq En a0 a1 objs)) (fun args objs hl => match args, hl with | [], _ => rfl | [_], _ => rfl | [_, _], hl => absurd rfl hl | _ :: _ :: _ :: _, _ => rfl)
theorem extent_meets_call : Callable PP 24 := callable_of (fn := Go.Proofs.Try.f24) (by kernel_rfl) (by kernel_rfl) (by kernel_rfl)
theorem En_extent_meets_ok : SoundNames PP (En_extent_meets) := SoundNames.cons (by kernel_rfl) extent_meets_c1_call extent_meets_c1_ok (SoundNames.nil)
theorem extent_meets_ok : SoundFn PP 24 (extent_meets) := by
  have hEn := En_extent_meets_ok; exact fn_ok (P := PP) (fn := Go.Proofs.Try.f24) 2 mix_ok (by kernel_rfl) (SoundTab.cons slices_ContainsFunc_Sapi_Extent_api_Extent_call (slices_ContainsFunc_Sapi_Extent_api_Extent_ok (En_extent_meets) hEn) (SoundTab.cons extent_meets_c1_call extent_meets_c1_ok (SoundTab.nil))) (hEn) (fun args objs hl => match args, hl with | [a0, a1], _ => (evalF_same _ _ _).trans (extent_meets_eq a0 a1 objs)) (fun args objs hl => match args, hl with | [], _ => rfl | [_], _ => rfl | [_, _], hl => absurd rfl hl | _ :: _ :: _ :: _, _ => rfl)
theorem extent_Map_taken_call : Callable PP 18 := callable_of (fn := Go.Proofs.Try.f18) (by kernel_rfl) (by kernel_rfl) (by kernel_rfl)
theorem extent_Map_taken_ok : SoundFn PP 18 (extent_Map_taken) := by
  exact fn_ok (P := PP) (fn := Go.Proofs.Try.f18) 2 mix_ok (by kernel_rfl) (SoundTab.cons extent_meets_call extent_meets_ok (SoundTab.cons extent_Map_there_call extent_Map_there_ok (SoundTab.nil))) (SoundNames.nil') (fun args objs hl => match args, hl with | [a0, a1], _ => (evalF_same _ _ _).trans (extent_Map_taken_eq a0 a1 objs)) (fun args objs hl => match args, hl with | [], _ => rfl | [_], _ => rfl | [_, _], hl => absurd rfl hl | _ :: _ :: _ :: _, _ => rfl)
theorem slices_Insert_Sapi_Extent_api_Extent_ok : SoundFn PP 25 (primInsert 2 16) := insert25
theorem slices_Insert_Sapi_Extent_api_Extent_call : Callable PP 25 := callable_of (fn := Go.Proofs.Try.f25) (by kernel_rfl) (by kernel_rfl) (by kernel_rfl)
theorem slices_Delete_Sapi_Extent_api_Extent_ok : SoundFn PP 26 (primDelete 2 16) := delete26
theorem slices_Delete_Sapi_Extent_api_Extent_call : Callable PP 26 := callable_of (fn := Go.Proofs.Try.f26) (by kernel_rfl) (by kernel_rfl) (by kernel_rfl)
theorem extent_put_call : Callable PP 19 := callable_of (fn := Go.Proofs.Try.f19) (by kernel_rfl) (by kernel_rfl) (by kernel_rfl)
theorem extent_put_ok : SoundFn PP 19 (extent_put) := by
  exact fn_ok (P := PP) (fn := Go.Proofs.Try.f19) 2 mix_ok (by kernel_rfl) (SoundTab.cons slices_Insert_Sapi_Extent_api_Extent_call slices_Insert_Sapi_Extent_api_Extent_ok (SoundTab.cons slices_Delete_Sapi_Extent_api_Extent_call slices_Delete_Sapi_Extent_api_Extent_ok (SoundTab.cons extent_end_call extent_end_ok (SoundTab.nil)))) (SoundNames.nil') (fun args objs hl => match args, hl with | [a0, a1], _ => (evalF_same _ _ _).trans (extent_put_eq a0 a1 objs)) (fun args objs hl => match args, hl with | [], _ => rfl | [_], _ => rfl | [_, _], hl => absurd rfl hl | _ :: _ :: _ :: _, _ => rfl)
theorem extent_Map_Free_call : Callable PP 9 := callable_of (fn := Go.Proofs.Try.f9) (by kernel_rfl) (by kernel_rfl) (by kernel_rfl)
theorem extent_Map_Free_ok : SoundFn PP 9 (extent_Map_Free) := by
  exact fn_ok (P := PP) (fn := Go.Proofs.Try.f9) 2 mix_ok (by kernel_rfl) (SoundTab.cons extent_put_call extent_put_ok (SoundTab.cons extent_Map_taken_call extent_Map_taken_ok (SoundTab.nil))) (SoundNames.nil') (fun args objs hl => match args, hl with | [a0, a1], _ => (evalF_same _ _ _).trans (extent_Map_Free_eq a0 a1 objs)) (fun args objs hl => match args, hl with | [], _ => rfl | [_], _ => rfl | [_, _], hl => absurd rfl hl | _ :: _ :: _ :: _, _ => rfl)
theorem extent_Map_Count_call : Callable PP 15 := callable_of (fn := Go.Proofs.Try.f15) (by kernel_rfl) (by kernel_rfl) (by kernel_rfl)
theorem extent_Map_Count_ok : SoundFn PP 15 (extent_Map_Count) := by
  exact fn_ok (P := PP) (fn := Go.Proofs.Try.f15) 1 mix_ok (by kernel_rfl) (SoundTab.nil) (SoundNames.nil') (fun args objs hl => match args, hl with | [a0], _ => (evalF_same _ _ _).trans (extent_Map_Count_eq a0 objs)) (fun args objs hl => match args, hl with | [], _ => rfl | [_], hl => absurd rfl hl | _ :: _ :: _, _ => rfl)
theorem law07_extentAlive_call : Callable PP 5 := callable_of (fn := Go.Proofs.Try.f5) (by kernel_rfl) (by kernel_rfl) (by kernel_rfl)
theorem law07_extentAlive_ok : SoundFn PP 5 (law07_extentAlive) := by
  exact fn_ok (P := PP) (fn := Go.Proofs.Try.f5) 0 mix_ok (by kernel_rfl) (SoundTab.cons extent_New_call extent_New_ok (SoundTab.cons extent_Map_Free_call extent_Map_Free_ok (SoundTab.cons extent_Map_Count_call extent_Map_Count_ok (SoundTab.cons extent_Map_Alloc_call extent_Map_Alloc_ok (SoundTab.nil))))) (SoundNames.nil') (fun args objs hl => match args, hl with | [], _ => (evalF_same _ _ _).trans (law07_extentAlive_eq objs)) (fun args objs hl => by cases args with | nil => exact absurd rfl hl | cons a r => rfl)
theorem extent_Map_All_call : Callable PP 8 := callable_of (fn := Go.Proofs.Try.f8) (by kernel_rfl) (by kernel_rfl) (by kernel_rfl)
theorem extent_Map_All_ok : SoundFn PP 8 (extent_Map_All) := by
  exact fn_ok (P := PP) (fn := Go.Proofs.Try.f8) 2 mix_ok (by kernel_rfl) (SoundTab.cons extent_Map_Count_call extent_Map_Count_ok (SoundTab.cons extent_Map_Alloc_call extent_Map_Alloc_ok (SoundTab.nil))) (SoundNames.nil') (fun args objs hl => match args, hl with | [a0, a1], _ => (evalF_same _ _ _).trans (extent_Map_All_eq a0 a1 objs)) (fun args objs hl => match args, hl with | [], _ => rfl | [_], _ => rfl | [_, _], hl => absurd rfl hl | _ :: _ :: _ :: _, _ => rfl)
theorem extent_Map_Later_call : Callable PP 10 := callable_of (fn := Go.Proofs.Try.f10) (by kernel_rfl) (by kernel_rfl) (by kernel_rfl)
theorem extent_Map_Later_ok : SoundFn PP 10 (extent_Map_Later) := by
  exact fn_ok (P := PP) (fn := Go.Proofs.Try.f10) 2 mix_ok (by kernel_rfl) (SoundTab.cons extent_put_call extent_put_ok (SoundTab.cons extent_Map_taken_call extent_Map_taken_ok (SoundTab.nil))) (SoundNames.nil') (fun args objs hl => match args, hl with | [a0, a1], _ => (evalF_same _ _ _).trans (extent_Map_Later_eq a0 a1 objs)) (fun args objs hl => match args, hl with | [], _ => rfl | [_], _ => rfl | [_, _], hl => absurd rfl hl | _ :: _ :: _ :: _, _ => rfl)
theorem extent_Map_Commit_call : Callable PP 11 := callable_of (fn := Go.Proofs.Try.f11) (by kernel_rfl) (by kernel_rfl) (by kernel_rfl)
theorem extent_Map_Commit_ok : SoundFn PP 11 (extent_Map_Commit) := by
  exact fn_ok (P := PP) (fn := Go.Proofs.Try.f11) 1 mix_ok (by kernel_rfl) (SoundTab.cons extent_put_call extent_put_ok (SoundTab.nil)) (SoundNames.nil') (fun args objs hl => match args, hl with | [a0], _ => (evalF_same _ _ _).trans (extent_Map_Commit_eq a0 objs)) (fun args objs hl => match args, hl with | [], _ => rfl | [_], hl => absurd rfl hl | _ :: _ :: _, _ => rfl)
theorem slices_Clone_Sapi_Extent_api_Extent_ok : SoundFn PP 20 (primClone 2 16) := clone20
theorem slices_Clone_Sapi_Extent_api_Extent_call : Callable PP 20 := callable_of (fn := Go.Proofs.Try.f20) (by kernel_rfl) (by kernel_rfl) (by kernel_rfl)
theorem extent_Map_List_call : Callable PP 12 := callable_of (fn := Go.Proofs.Try.f12) (by kernel_rfl) (by kernel_rfl) (by kernel_rfl)
theorem extent_Map_List_ok : SoundFn PP 12 (extent_Map_List) := by
  exact fn_ok (P := PP) (fn := Go.Proofs.Try.f12) 1 mix_ok (by kernel_rfl) (SoundTab.cons slices_Clone_Sapi_Extent_api_Extent_call slices_Clone_Sapi_Extent_api_Extent_ok (SoundTab.nil)) (SoundNames.nil') (fun args objs hl => match args, hl with | [a0], _ => (evalF_same _ _ _).trans (extent_Map_List_eq a0 objs)) (fun args objs hl => match args, hl with | [], _ => rfl | [_], hl => absurd rfl hl | _ :: _ :: _, _ => rfl)
theorem extent_Map_Waiting_call : Callable PP 13 := callable_of (fn := Go.Proofs.Try.f13) (by kernel_rfl) (by kernel_rfl) (by kernel_rfl)
theorem extent_Map_Waiting_ok : SoundFn PP 13 (extent_Map_Waiting) := by
  exact fn_ok (P := PP) (fn := Go.Proofs.Try.f13) 1 mix_ok (by kernel_rfl) (SoundTab.cons slices_Clone_Sapi_Extent_api_Extent_call slices_Clone_Sapi_Extent_api_Extent_ok (SoundTab.nil)) (SoundNames.nil') (fun args objs hl => match args, hl with | [a0], _ => (evalF_same _ _ _).trans (extent_Map_Waiting_eq a0 objs)) (fun args objs hl => match args, hl with | [], _ => rfl | [_], hl => absurd rfl hl | _ :: _ :: _, _ => rfl)
theorem law07_ExtentApart_call : Callable PP 3 := callable_of (fn := Go.Proofs.Try.f3) (by kernel_rfl) (by kernel_rfl) (by kernel_rfl)
theorem law07_ExtentApart_ok : SoundFn PP 3 (law07_ExtentApart) := by
  exact fn_ok (P := PP) (fn := Go.Proofs.Try.f3) 2 mix_ok (by kernel_rfl) (SoundTab.cons extent_New_call extent_New_ok (SoundTab.cons law07_extentAlive_call law07_extentAlive_ok (SoundTab.cons extent_Map_Waiting_call extent_Map_Waiting_ok (SoundTab.cons extent_Map_List_call extent_Map_List_ok (SoundTab.cons extent_Map_Later_call extent_Map_Later_ok (SoundTab.cons extent_Map_Free_call extent_Map_Free_ok (SoundTab.cons extent_Map_Commit_call extent_Map_Commit_ok (SoundTab.cons extent_Map_Alloc_call extent_Map_Alloc_ok (SoundTab.cons extent_Map_All_call extent_Map_All_ok (SoundTab.nil)))))))))) (SoundNames.nil') (fun args objs hl => match args, hl with | [a0, a1], _ => (evalF_same _ _ _).trans (law07_ExtentApart_eq a0 a1 objs)) (fun args objs hl => match args, hl with | [], _ => rfl | [_], _ => rfl | [_, _], hl => absurd rfl hl | _ :: _ :: _ :: _, _ => rfl)
theorem extent_within_c1_call : Callable PP 28 := callable_of (fn := Go.Proofs.Try.f28) (by kernel_rfl) (by kernel_rfl) (by kernel_rfl)
theorem extent_within_c1_ok : SoundFn PP 28 (extent_within_c1) := by
  exact fn_ok (P := PP) (fn := Go.Proofs.Try.f28) 2 mix_ok (by kernel_rfl) (SoundTab.cons extent_end_call extent_end_ok (SoundTab.nil)) (SoundNames.nil') (fun args objs hl => match args, hl with | [a0, a1], _ => (evalF_same _ _ _).trans (extent_within_c1_eq a0 a1 objs)) (fun args objs hl => match args, hl with | [], _ => rfl | [_], _ => rfl | [_, _], hl => absurd rfl hl | _ :: _ :: _ :: _, _ => rfl)
theorem extent_within_call : Callable PP 22 := callable_of (fn := Go.Proofs.Try.f22) (by kernel_rfl) (by kernel_rfl) (by kernel_rfl)
theorem En_extent_within_ok : SoundNames PP (En_extent_within) := SoundNames.cons (by kernel_rfl) extent_within_c1_call extent_within_c1_ok (SoundNames.nil)
theorem extent_within_ok : SoundFn PP 22 (extent_within) := by
  have hEn := En_extent_within_ok; exact fn_ok (P := PP) (fn := Go.Proofs.Try.f22) 2 mix_ok (by kernel_rfl) (SoundTab.cons slices_ContainsFunc_Sapi_Extent_api_Extent_call (slices_ContainsFunc_Sapi_Extent_api_Extent_ok (En_extent_within) hEn) (SoundTab.cons extent_within_c1_call extent_within_c1_ok (SoundTab.nil))) (hEn) (fun args objs hl => match args, hl with | [a0, a1], _ => (evalF_same _ _ _).trans (extent_within_eq a0 a1 objs)) (fun args objs hl => match args, hl with | [], _ => rfl | [_], _ => rfl | [_, _], hl => absurd rfl hl | _ :: _ :: _ :: _, _ => rfl)
theorem extent_Map_Take_call : Callable PP 14 := callable_of (fn := Go.Proofs.Try.f14) (by kernel_rfl) (by kernel_rfl) (by kernel_rfl)
theorem extent_Map_Take_ok : SoundFn PP 14 (extent_Map_Take) := by
  exact fn_ok (P := PP) (fn := Go.Proofs.Try.f14) 2 mix_ok (by kernel_rfl) (SoundTab.cons extent_within_call extent_within_ok (SoundTab.cons extent_cut_call extent_cut_ok (SoundTab.cons extent_Map_there_call extent_Map_there_ok (SoundTab.nil)))) (SoundNames.nil') (fun args objs hl => match args, hl with | [a0, a1], _ => (evalF_same _ _ _).trans (extent_Map_Take_eq a0 a1 objs)) (fun args objs hl => match args, hl with | [], _ => rfl | [_], _ => rfl | [_, _], hl => absurd rfl hl | _ :: _ :: _ :: _, _ => rfl)
theorem ref07_Same_call : Callable PP 16 := callable_of (fn := Go.Proofs.Try.f16) (by kernel_rfl) (by kernel_rfl) (by kernel_rfl)
theorem ref07_Same_ok : SoundFn PP 16 (ref07_Same) := by
  exact fn_ok (P := PP) (fn := Go.Proofs.Try.f16) 2 mix_ok (by kernel_rfl) (SoundTab.nil) (SoundNames.nil') (fun args objs hl => match args, hl with | [a0, a1], _ => (evalF_same _ _ _).trans (ref07_Same_eq a0 a1 objs)) (fun args objs hl => match args, hl with | [], _ => rfl | [_], _ => rfl | [_, _], hl => absurd rfl hl | _ :: _ :: _ :: _, _ => rfl)
theorem law07_ExtentWaits_call : Callable PP 4 := callable_of (fn := Go.Proofs.Try.f4) (by kernel_rfl) (by kernel_rfl) (by kernel_rfl)
theorem law07_ExtentWaits_ok : SoundFn PP 4 (law07_ExtentWaits) := by
  exact fn_ok (P := PP) (fn := Go.Proofs.Try.f4) 2 mix_ok (by kernel_rfl) (SoundTab.cons extent_New_call extent_New_ok (SoundTab.cons ref07_Same_call ref07_Same_ok (SoundTab.cons law07_extentAlive_call law07_extentAlive_ok (SoundTab.cons extent_Map_Waiting_call extent_Map_Waiting_ok (SoundTab.cons extent_Map_Take_call extent_Map_Take_ok (SoundTab.cons extent_Map_List_call extent_Map_List_ok (SoundTab.cons extent_Map_Later_call extent_Map_Later_ok (SoundTab.cons extent_Map_Free_call extent_Map_Free_ok (SoundTab.cons extent_Map_Count_call extent_Map_Count_ok (SoundTab.cons extent_Map_Commit_call extent_Map_Commit_ok (SoundTab.cons extent_Map_Alloc_call extent_Map_Alloc_ok (SoundTab.cons extent_Map_All_call extent_Map_All_ok (SoundTab.nil))))))))))))) (SoundNames.nil') (fun args objs hl => match args, hl with | [a0, a1], _ => (evalF_same _ _ _).trans (law07_ExtentWaits_eq a0 a1 objs)) (fun args objs hl => match args, hl with | [], _ => rfl | [_], _ => rfl | [_, _], hl => absurd rfl hl | _ :: _ :: _ :: _, _ => rfl)
end Go.Ab.F
