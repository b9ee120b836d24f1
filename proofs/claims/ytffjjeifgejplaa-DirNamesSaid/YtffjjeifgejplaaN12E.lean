/-
  THAT THE PROGRAM'S FUNCTIONS ARE WHAT THEIR WALKS COME TO. Written by a program (emit.py).
-/
import Derived.Test.YtffjjeifgejplaaN12F
import Derived.Test.YtffjjeifgejplaaN12W
import Derived.Test.YtffjjeifgejplaaAbsTab
import Derived.KernelRfl
set_option maxRecDepth 100000
set_option linter.unusedVariables false
namespace Go.Ab.F
open Go Go.Ab Go.Proofs
noncomputable abbrev PP : Program := Go.Proofs.Try.prog
theorem mix_ok : PP.follows .mixedOrders = true := by kernel_rfl
theorem law12_small_call : Callable PP 31 := callable_of (fn := Go.Proofs.Try.f31) (by kernel_rfl) (by kernel_rfl) (by kernel_rfl)
theorem law12_small_eq (a0 a1 : A) (objs : Heap) : evalF PP (fun g => (fun _ _ => none)) (fun _ _ _ => none) ⟨[], [], [], []⟩ Go.Proofs.Try.f31 [a0, a1] objs = law12_small [a0, a1] objs := by kernel_rfl
theorem law12_small_ok : SoundFn PP 31 (law12_small) := by
  exact fn_ok (P := PP) (fn := Go.Proofs.Try.f31) 2 mix_ok (by kernel_rfl) (SoundTab.nil) (SoundNames.nil') (fun args objs hl => match args, hl with | [a0, a1], _ => law12_small_eq a0 a1 objs) (fun args objs hl => match args, hl with | [], _ => rfl | [_], _ => rfl | [_, _], hl => absurd rfl hl | _ :: _ :: _ :: _, _ => rfl)
theorem dir_Fresh_call : Callable PP 25 := callable_of (fn := Go.Proofs.Try.f25) (by kernel_rfl) (by kernel_rfl) (by kernel_rfl)
theorem dir_Fresh_eq (a0 : A) (objs : Heap) : evalF PP (fun g => (fun _ _ => none)) (fun _ _ _ => none) ⟨[], [((1, 1), [11], true)], [], []⟩ Go.Proofs.Try.f25 [a0] objs = dir_Fresh [a0] objs := by kernel_rfl
theorem dir_Fresh_ok : SoundFn PP 25 (dir_Fresh) := by
  exact fn_ok (P := PP) (fn := Go.Proofs.Try.f25) 1 mix_ok (by kernel_rfl) (SoundTab.nil) (SoundNames.nil') (fun args objs hl => match args, hl with | [a0], _ => dir_Fresh_eq a0 objs) (fun args objs hl => match args, hl with | [], _ => rfl | [_], hl => absurd rfl hl | _ :: _ :: _, _ => rfl)
theorem slices_BinarySearchFunc_Sapi_Link_api_Link_uint64_call : Callable PP 73 := callable_of (fn := Go.Proofs.Try.f73) (by kernel_rfl) (by kernel_rfl) (by kernel_rfl)
theorem slices_BinarySearchFunc_Sapi_Link_api_Link_uint64_eq (En : String → CallFn) (a0 a1 a2 : A) (objs : Heap) : evalF PP (fun g => (fun _ _ => none)) En ⟨[(0, ⟨[9, 10], [9], [], true⟩)], [], [], []⟩ Go.Proofs.Try.f73 [a0, a1, a2] objs = slices_BinarySearchFunc_Sapi_Link_api_Link_uint64 En [a0, a1, a2] objs := by kernel_rfl
theorem slices_BinarySearchFunc_Sapi_Link_api_Link_uint64_ok (En : String → CallFn) (hEn : SoundNames PP En) : SoundFn PP 73 (slices_BinarySearchFunc_Sapi_Link_api_Link_uint64 En) := by
  exact fn_ok (P := PP) (fn := Go.Proofs.Try.f73) 3 mix_ok (by kernel_rfl) (SoundTab.nil) (hEn) (fun args objs hl => match args, hl with | [a0, a1, a2], _ => slices_BinarySearchFunc_Sapi_Link_api_Link_uint64_eq En a0 a1 a2 objs) (fun args objs hl => match args, hl with | [], _ => rfl | [_], _ => rfl | [_, _], _ => rfl | [_, _, _], hl => absurd rfl hl | _ :: _ :: _ :: _ :: _, _ => rfl)
theorem cmp_isNaN_uint64_call : Callable PP 82 := callable_of (fn := Go.Proofs.Try.f82) (by kernel_rfl) (by kernel_rfl) (by kernel_rfl)
theorem cmp_isNaN_uint64_eq (a0 : A) (objs : Heap) : evalF PP (fun g => (fun _ _ => none)) (fun _ _ _ => none) ⟨[], [], [], []⟩ Go.Proofs.Try.f82 [a0] objs = cmp_isNaN_uint64 [a0] objs := by kernel_rfl
theorem cmp_isNaN_uint64_ok : SoundFn PP 82 (cmp_isNaN_uint64) := by
  exact fn_ok (P := PP) (fn := Go.Proofs.Try.f82) 1 mix_ok (by kernel_rfl) (SoundTab.nil) (SoundNames.nil') (fun args objs hl => match args, hl with | [a0], _ => cmp_isNaN_uint64_eq a0 objs) (fun args objs hl => match args, hl with | [], _ => rfl | [_], hl => absurd rfl hl | _ :: _ :: _, _ => rfl)
theorem cmp_Compare_uint64_call : Callable PP 75 := callable_of (fn := Go.Proofs.Try.f75) (by kernel_rfl) (by kernel_rfl) (by kernel_rfl)
theorem cmp_Compare_uint64_eq (a0 a1 : A) (objs : Heap) : evalF PP (fun g => if g = 82 then cmp_isNaN_uint64 else (fun _ _ => none)) (fun _ _ _ => none) ⟨[], [], [], []⟩ Go.Proofs.Try.f75 [a0, a1] objs = cmp_Compare_uint64 [a0, a1] objs := by kernel_rfl
theorem cmp_Compare_uint64_ok : SoundFn PP 75 (cmp_Compare_uint64) := by
  exact fn_ok (P := PP) (fn := Go.Proofs.Try.f75) 2 mix_ok (by kernel_rfl) (SoundTab.cons cmp_isNaN_uint64_call cmp_isNaN_uint64_ok (SoundTab.nil)) (SoundNames.nil') (fun args objs hl => match args, hl with | [a0, a1], _ => cmp_Compare_uint64_eq a0 a1 objs) (fun args objs hl => match args, hl with | [], _ => rfl | [_], _ => rfl | [_, _], hl => absurd rfl hl | _ :: _ :: _ :: _, _ => rfl)
theorem dir_place_c1_call : Callable PP 74 := callable_of (fn := Go.Proofs.Try.f74) (by kernel_rfl) (by kernel_rfl) (by kernel_rfl)
theorem dir_place_c1_eq (a0 a1 : A) (objs : Heap) : evalF PP (fun g => if g = 75 then cmp_Compare_uint64 else (fun _ _ => none)) (fun _ _ _ => none) ⟨[], [], [], []⟩ Go.Proofs.Try.f74 [a0, a1] objs = dir_place_c1 [a0, a1] objs := by kernel_rfl
theorem dir_place_c1_ok : SoundFn PP 74 (dir_place_c1) := by
  exact fn_ok (P := PP) (fn := Go.Proofs.Try.f74) 2 mix_ok (by kernel_rfl) (SoundTab.cons cmp_Compare_uint64_call cmp_Compare_uint64_ok (SoundTab.nil)) (SoundNames.nil') (fun args objs hl => match args, hl with | [a0, a1], _ => dir_place_c1_eq a0 a1 objs) (fun args objs hl => match args, hl with | [], _ => rfl | [_], _ => rfl | [_, _], hl => absurd rfl hl | _ :: _ :: _ :: _, _ => rfl)
theorem dir_place_call : Callable PP 56 := callable_of (fn := Go.Proofs.Try.f56) (by kernel_rfl) (by kernel_rfl) (by kernel_rfl)
theorem dir_place_eq (a0 a1 : A) (objs : Heap) : evalF PP (fun g => if g = 73 then (slices_BinarySearchFunc_Sapi_Link_api_Link_uint64 (En_dir_place)) else if g = 74 then dir_place_c1 else (fun _ _ => none)) (En_dir_place) ⟨[], [], [], []⟩ Go.Proofs.Try.f56 [a0, a1] objs = dir_place [a0, a1] objs := by kernel_rfl
theorem En_dir_place_ok : SoundNames PP (En_dir_place) := SoundNames.cons (by kernel_rfl) dir_place_c1_call dir_place_c1_ok (SoundNames.nil)
theorem dir_place_ok : SoundFn PP 56 (dir_place) := by
  have hEn := En_dir_place_ok; exact fn_ok (P := PP) (fn := Go.Proofs.Try.f56) 2 mix_ok (by kernel_rfl) (SoundTab.cons slices_BinarySearchFunc_Sapi_Link_api_Link_uint64_call (slices_BinarySearchFunc_Sapi_Link_api_Link_uint64_ok (En_dir_place) hEn) (SoundTab.cons dir_place_c1_call dir_place_c1_ok (SoundTab.nil))) (hEn) (fun args objs hl => match args, hl with | [a0, a1], _ => dir_place_eq a0 a1 objs) (fun args objs hl => match args, hl with | [], _ => rfl | [_], _ => rfl | [_, _], hl => absurd rfl hl | _ :: _ :: _ :: _, _ => rfl)
theorem dir_Used_call : Callable PP 27 := callable_of (fn := Go.Proofs.Try.f27) (by kernel_rfl) (by kernel_rfl) (by kernel_rfl)
theorem dir_Used_eq (a0 : A) (objs : Heap) : evalF PP (fun g => (fun _ _ => none)) (fun _ _ _ => none) ⟨[(0, ⟨[3, 9], [3], [], true⟩)], [], [], []⟩ Go.Proofs.Try.f27 [a0] objs = dir_Used [a0] objs := by kernel_rfl
theorem dir_Used_ok : SoundFn PP 27 (dir_Used) := by
  exact fn_ok (P := PP) (fn := Go.Proofs.Try.f27) 1 mix_ok (by kernel_rfl) (SoundTab.nil) (SoundNames.nil') (fun args objs hl => match args, hl with | [a0], _ => dir_Used_eq a0 objs) (fun args objs hl => match args, hl with | [], _ => rfl | [_], hl => absurd rfl hl | _ :: _ :: _, _ => rfl)
theorem slices_Clone_Sapi_Cat_api_Cat_ok : SoundFn PP 70 (primClone 2 16) := clone70
theorem slices_Clone_Sapi_Cat_api_Cat_call : Callable PP 70 := callable_of (fn := Go.Proofs.Try.f70) (by kernel_rfl) (by kernel_rfl) (by kernel_rfl)
theorem slices_Clone_Sapi_Link_api_Link_ok : SoundFn PP 71 (primClone 2 16) := clone71
theorem slices_Clone_Sapi_Link_api_Link_call : Callable PP 71 := callable_of (fn := Go.Proofs.Try.f71) (by kernel_rfl) (by kernel_rfl) (by kernel_rfl)
theorem slices_Clone_Sbyte_byte_ok : SoundFn PP 72 (primClone 1 1) := clone72
theorem slices_Clone_Sbyte_byte_call : Callable PP 72 := callable_of (fn := Go.Proofs.Try.f72) (by kernel_rfl) (by kernel_rfl) (by kernel_rfl)
theorem thing_Copy_call : Callable PP 55 := callable_of (fn := Go.Proofs.Try.f55) (by kernel_rfl) (by kernel_rfl) (by kernel_rfl)
theorem thing_Copy_eq (a0 : A) (objs : Heap) : evalF PP (fun g => if g = 72 then (primClone 1 1) else if g = 71 then (primClone 2 16) else if g = 70 then (primClone 2 16) else (fun _ _ => none)) (fun _ _ _ => none) ⟨[], [], [6, 10, 17, 20], []⟩ Go.Proofs.Try.f55 [a0] objs = thing_Copy [a0] objs := by kernel_rfl
theorem thing_Copy_ok : SoundFn PP 55 (thing_Copy) := by
  exact fn_ok (P := PP) (fn := Go.Proofs.Try.f55) 1 mix_ok (by kernel_rfl) (SoundTab.cons slices_Clone_Sbyte_byte_call slices_Clone_Sbyte_byte_ok (SoundTab.cons slices_Clone_Sapi_Link_api_Link_call slices_Clone_Sapi_Link_api_Link_ok (SoundTab.cons slices_Clone_Sapi_Cat_api_Cat_call slices_Clone_Sapi_Cat_api_Cat_ok (SoundTab.nil)))) (SoundNames.nil') (fun args objs hl => match args, hl with | [a0], _ => thing_Copy_eq a0 objs) (fun args objs hl => match args, hl with | [], _ => rfl | [_], hl => absurd rfl hl | _ :: _ :: _, _ => rfl)
theorem slices_Insert_Sapi_Link_api_Link_ok : SoundFn PP 58 (primInsert 2 16) := insert58
theorem slices_Insert_Sapi_Link_api_Link_call : Callable PP 58 := callable_of (fn := Go.Proofs.Try.f58) (by kernel_rfl) (by kernel_rfl) (by kernel_rfl)
theorem dir_Add_call : Callable PP 33 := callable_of (fn := Go.Proofs.Try.f33) (by kernel_rfl) (by kernel_rfl) (by kernel_rfl)
theorem dir_Add_eq (a0 a1 a2 : A) (objs : Heap) : evalF PP (fun g => if g = 58 then (primInsert 2 16) else if g = 55 then thing_Copy else if g = 56 then dir_place else if g = 27 then dir_Used else (fun _ _ => none)) (fun _ _ _ => none) ⟨[], [((6, 6), [25], true)], [39, 47], [47]⟩ Go.Proofs.Try.f33 [a0, a1, a2] objs = dir_Add [a0, a1, a2] objs := by kernel_rfl
theorem dir_Add_ok : SoundFn PP 33 (dir_Add) := by
  exact fn_ok (P := PP) (fn := Go.Proofs.Try.f33) 3 mix_ok (by kernel_rfl) (SoundTab.cons slices_Insert_Sapi_Link_api_Link_call slices_Insert_Sapi_Link_api_Link_ok (SoundTab.cons thing_Copy_call thing_Copy_ok (SoundTab.cons dir_place_call dir_place_ok (SoundTab.cons dir_Used_call dir_Used_ok (SoundTab.nil))))) (SoundNames.nil') (fun args objs hl => match args, hl with | [a0, a1, a2], _ => dir_Add_eq a0 a1 a2 objs) (fun args objs hl => match args, hl with | [], _ => rfl | [_], _ => rfl | [_, _], _ => rfl | [_, _, _], hl => absurd rfl hl | _ :: _ :: _ :: _ :: _, _ => rfl)
theorem dir_Born_call : Callable PP 35 := callable_of (fn := Go.Proofs.Try.f35) (by kernel_rfl) (by kernel_rfl) (by kernel_rfl)
theorem dir_Born_eq (a0 a1 : A) (objs : Heap) : evalF PP (fun g => if g = 25 then dir_Fresh else if g = 33 then dir_Add else (fun _ _ => none)) (fun _ _ _ => none) ⟨[], [], [], []⟩ Go.Proofs.Try.f35 [a0, a1] objs = dir_Born [a0, a1] objs := by kernel_rfl
theorem dir_Born_ok : SoundFn PP 35 (dir_Born) := by
  exact fn_ok (P := PP) (fn := Go.Proofs.Try.f35) 2 mix_ok (by kernel_rfl) (SoundTab.cons dir_Fresh_call dir_Fresh_ok (SoundTab.cons dir_Add_call dir_Add_ok (SoundTab.nil))) (SoundNames.nil') (fun args objs hl => match args, hl with | [a0, a1], _ => dir_Born_eq a0 a1 objs) (fun args objs hl => match args, hl with | [], _ => rfl | [_], _ => rfl | [_, _], hl => absurd rfl hl | _ :: _ :: _ :: _, _ => rfl)
theorem dir_Has_call : Callable PP 29 := callable_of (fn := Go.Proofs.Try.f29) (by kernel_rfl) (by kernel_rfl) (by kernel_rfl)
theorem dir_Has_eq (a0 a1 : A) (objs : Heap) : evalF PP (fun g => if g = 56 then dir_place else (fun _ _ => none)) (fun _ _ _ => none) ⟨[], [], [], []⟩ Go.Proofs.Try.f29 [a0, a1] objs = dir_Has [a0, a1] objs := by kernel_rfl
theorem dir_Has_ok : SoundFn PP 29 (dir_Has) := by
  exact fn_ok (P := PP) (fn := Go.Proofs.Try.f29) 2 mix_ok (by kernel_rfl) (SoundTab.cons dir_place_call dir_place_ok (SoundTab.nil)) (SoundNames.nil') (fun args objs hl => match args, hl with | [a0, a1], _ => dir_Has_eq a0 a1 objs) (fun args objs hl => match args, hl with | [], _ => rfl | [_], _ => rfl | [_, _], hl => absurd rfl hl | _ :: _ :: _ :: _, _ => rfl)
theorem law12_dirAlive_call : Callable PP 23 := callable_of (fn := Go.Proofs.Try.f23) (by kernel_rfl) (by kernel_rfl) (by kernel_rfl)
theorem law12_dirAlive_eq (objs : Heap) : evalF PP (fun g => if g = 27 then dir_Used else if g = 29 then dir_Has else if g = 35 then dir_Born else if g = 31 then law12_small else (fun _ _ => none)) (fun _ _ _ => none) ⟨[], [], [], []⟩ Go.Proofs.Try.f23 [] objs = law12_dirAlive [] objs := by kernel_rfl
theorem law12_dirAlive_ok : SoundFn PP 23 (law12_dirAlive) := by
  exact fn_ok (P := PP) (fn := Go.Proofs.Try.f23) 0 mix_ok (by kernel_rfl) (SoundTab.cons dir_Used_call dir_Used_ok (SoundTab.cons dir_Has_call dir_Has_ok (SoundTab.cons dir_Born_call dir_Born_ok (SoundTab.cons law12_small_call law12_small_ok (SoundTab.nil))))) (SoundNames.nil') (fun args objs hl => match args, hl with | [], _ => law12_dirAlive_eq objs) (fun args objs hl => by cases args with | nil => exact absurd rfl hl | cons a r => rfl)
theorem law12_DirNames_call : Callable PP 5 := callable_of (fn := Go.Proofs.Try.f5) (by kernel_rfl) (by kernel_rfl) (by kernel_rfl)
theorem law12_DirNames_eq (objs : Heap) : evalF PP (fun g => if g = 23 then law12_dirAlive else (fun _ _ => none)) (fun _ _ _ => none) ⟨[], [], [], []⟩ Go.Proofs.Try.f5 [] objs = law12_DirNames [] objs := by kernel_rfl
theorem law12_DirNames_ok : SoundFn PP 5 (law12_DirNames) := by
  exact fn_ok (P := PP) (fn := Go.Proofs.Try.f5) 0 mix_ok (by kernel_rfl) (SoundTab.cons law12_dirAlive_call law12_dirAlive_ok (SoundTab.nil)) (SoundNames.nil') (fun args objs hl => match args, hl with | [], _ => law12_DirNames_eq objs) (fun args objs hl => by cases args with | nil => exact absurd rfl hl | cons a r => rfl)
end Go.Ab.F
