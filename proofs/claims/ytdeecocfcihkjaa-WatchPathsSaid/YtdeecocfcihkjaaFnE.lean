/-
  THAT THE PROGRAM'S FUNCTIONS ARE WHAT THEIR WALKS COME TO. Written by a program (emit.py).
-/
import Derived.Test.YtdeecocfcihkjaaFnQ0
import Derived.Test.YtdeecocfcihkjaaFnQ1
import Derived.Test.YtdeecocfcihkjaaFnQ2
import Derived.Test.YtdeecocfcihkjaaFnQ3
import Derived.Test.YtdeecocfcihkjaaFnW
import Derived.Test.YtdeecocfcihkjaaAbsDefer
import Derived.KernelRfl
set_option maxRecDepth 100000
set_option linter.unusedVariables false
namespace Go.Ab.F
open Go Go.Ab Go.Proofs
noncomputable abbrev PP : Program := Go.Proofs.Try.prog
theorem mix_ok : PP.follows .mixedOrders = true := by kernel_rfl
theorem ref20_World_call : Callable PP 21 := callable_of (fn := Go.Proofs.Try.f21) (by kernel_rfl) (by kernel_rfl) (by kernel_rfl)
theorem ref20_World_ok : SoundFn PP 21 (ref20_World) := by
  exact fn_ok (P := PP) (fn := Go.Proofs.Try.f21) 1 mix_ok (by kernel_rfl) (SoundTab.nil) (SoundNames.nil') (fun args objs hl => match args, hl with | [a0], _ => (evalF_same _ _ _).trans (ref20_World_eq a0 objs)) (fun args objs hl => match args, hl with | [], _ => rfl | [_], hl => absurd rfl hl | _ :: _ :: _, _ => rfl)
theorem slices_Grow_Sapi_Cat_api_Cat_call : Callable PP 66 := callable_of (fn := Go.Proofs.Try.f66) (by kernel_rfl) (by kernel_rfl) (by kernel_rfl)
theorem slices_Grow_Sapi_Cat_api_Cat_ok : SoundFn PP 66 (slices_Grow_Sapi_Cat_api_Cat) := by
  exact fn_ok (P := PP) (fn := Go.Proofs.Try.f66) 2 mix_ok (by kernel_rfl) (SoundTab.nil) (SoundNames.nil') (fun args objs hl => match args, hl with | [a0, a1], _ => (evalF_same _ _ _).trans (slices_Grow_Sapi_Cat_api_Cat_eq a0 a1 objs)) (fun args objs hl => match args, hl with | [], _ => rfl | [_], _ => rfl | [_, _], hl => absurd rfl hl | _ :: _ :: _ :: _, _ => rfl)
theorem slices_Concat_Sapi_Cat_api_Cat_call : Callable PP 39 := callable_of (fn := Go.Proofs.Try.f39) (by kernel_rfl) (by kernel_rfl) (by kernel_rfl)
theorem slices_Concat_Sapi_Cat_api_Cat_ok : SoundFn PP 39 (slices_Concat_Sapi_Cat_api_Cat) := by
  exact fn_ok (P := PP) (fn := Go.Proofs.Try.f39) 1 mix_ok (by kernel_rfl) (SoundTab.cons slices_Grow_Sapi_Cat_api_Cat_call slices_Grow_Sapi_Cat_api_Cat_ok (SoundTab.nil)) (SoundNames.nil') (fun args objs hl => match args, hl with | [a0], _ => (evalF_same _ _ _).trans (slices_Concat_Sapi_Cat_api_Cat_eq a0 objs)) (fun args objs hl => match args, hl with | [], _ => rfl | [_], hl => absurd rfl hl | _ :: _ :: _, _ => rfl)
theorem math_bits_Len32_call : Callable PP 93 := callable_of (fn := Go.Proofs.Try.f93) (by kernel_rfl) (by kernel_rfl) (by kernel_rfl)
theorem math_bits_Len32_ok : SoundFn PP 93 (math_bits_Len32) := by
  exact fn_ok (P := PP) (fn := Go.Proofs.Try.f93) 1 mix_ok (by kernel_rfl) (SoundTab.nil) (SoundNames.nil') (fun args objs hl => match args, hl with | [a0], _ => (evalF_same _ _ _).trans (math_bits_Len32_eq a0 objs)) (fun args objs hl => match args, hl with | [], _ => rfl | [_], hl => absurd rfl hl | _ :: _ :: _, _ => rfl)
theorem math_bits_Len64_call : Callable PP 94 := callable_of (fn := Go.Proofs.Try.f94) (by kernel_rfl) (by kernel_rfl) (by kernel_rfl)
theorem math_bits_Len64_ok : SoundFn PP 94 (math_bits_Len64) := by
  exact fn_ok (P := PP) (fn := Go.Proofs.Try.f94) 1 mix_ok (by kernel_rfl) (SoundTab.nil) (SoundNames.nil') (fun args objs hl => match args, hl with | [a0], _ => (evalF_same _ _ _).trans (math_bits_Len64_eq a0 objs)) (fun args objs hl => match args, hl with | [], _ => rfl | [_], hl => absurd rfl hl | _ :: _ :: _, _ => rfl)
theorem math_bits_Len_call : Callable PP 68 := callable_of (fn := Go.Proofs.Try.f68) (by kernel_rfl) (by kernel_rfl) (by kernel_rfl)
theorem math_bits_Len_ok : SoundFn PP 68 (math_bits_Len) := by
  exact fn_ok (P := PP) (fn := Go.Proofs.Try.f68) 1 mix_ok (by kernel_rfl) (SoundTab.cons math_bits_Len64_call math_bits_Len64_ok (SoundTab.cons math_bits_Len32_call math_bits_Len32_ok (SoundTab.nil))) (SoundNames.nil') (fun args objs hl => match args, hl with | [a0], _ => (evalF_same _ _ _).trans (math_bits_Len_eq a0 objs)) (fun args objs hl => match args, hl with | [], _ => rfl | [_], hl => absurd rfl hl | _ :: _ :: _, _ => rfl)
theorem cmp_isNaN_uint64_call : Callable PP 82 := callable_of (fn := Go.Proofs.Try.f82) (by kernel_rfl) (by kernel_rfl) (by kernel_rfl)
theorem cmp_isNaN_uint64_ok : SoundFn PP 82 (cmp_isNaN_uint64) := by
  exact fn_ok (P := PP) (fn := Go.Proofs.Try.f82) 1 mix_ok (by kernel_rfl) (SoundTab.nil) (SoundNames.nil') (fun args objs hl => match args, hl with | [a0], _ => (evalF_same _ _ _).trans (cmp_isNaN_uint64_eq a0 objs)) (fun args objs hl => match args, hl with | [], _ => rfl | [_], hl => absurd rfl hl | _ :: _ :: _, _ => rfl)
theorem cmp_Less_uint64_call : Callable PP 90 := callable_of (fn := Go.Proofs.Try.f90) (by kernel_rfl) (by kernel_rfl) (by kernel_rfl)
theorem cmp_Less_uint64_ok : SoundFn PP 90 (cmp_Less_uint64) := by
  exact fn_ok (P := PP) (fn := Go.Proofs.Try.f90) 2 mix_ok (by kernel_rfl) (SoundTab.cons cmp_isNaN_uint64_call cmp_isNaN_uint64_ok (SoundTab.nil)) (SoundNames.nil') (fun args objs hl => match args, hl with | [a0, a1], _ => (evalF_same _ _ _).trans (cmp_Less_uint64_eq a0 a1 objs)) (fun args objs hl => match args, hl with | [], _ => rfl | [_], _ => rfl | [_, _], hl => absurd rfl hl | _ :: _ :: _ :: _, _ => rfl)
theorem slices_insertionSortOrdered_uint64_call : Callable PP 84 := callable_of (fn := Go.Proofs.Try.f84) (by kernel_rfl) (by kernel_rfl) (by kernel_rfl)
theorem slices_insertionSortOrdered_uint64_ok : SoundFn PP 84 (slices_insertionSortOrdered_uint64) := by
  exact fn_ok (P := PP) (fn := Go.Proofs.Try.f84) 3 mix_ok (by kernel_rfl) (SoundTab.cons cmp_Less_uint64_call cmp_Less_uint64_ok (SoundTab.nil)) (SoundNames.nil') (fun args objs hl => match args, hl with | [a0, a1, a2], _ => (evalF_same _ _ _).trans (slices_insertionSortOrdered_uint64_eq a0 a1 a2 objs)) (fun args objs hl => match args, hl with | [], _ => rfl | [_], _ => rfl | [_, _], _ => rfl | [_, _, _], hl => absurd rfl hl | _ :: _ :: _ :: _ :: _, _ => rfl)
theorem slices_pdqsortOrdered_uint64_call : Callable PP 67 := callable_of (fn := Go.Proofs.Try.f67) (by kernel_rfl) (by kernel_rfl) (by kernel_rfl)
theorem slices_pdqsortOrdered_uint64_step_ok (self : CallFn) (hself : SoundFn PP 67 self) : SoundFn PP 67 (slices_pdqsortOrdered_uint64_step self) := by
  have me_call := slices_pdqsortOrdered_uint64_call
  exact fn_ok (P := PP) (fn := Go.Proofs.Try.f67) 4 mix_ok (by kernel_rfl) (SoundTab.cons me_call hself (SoundTab.cons slices_insertionSortOrdered_uint64_call slices_insertionSortOrdered_uint64_ok (SoundTab.cons cmp_Less_uint64_call cmp_Less_uint64_ok (SoundTab.nil)))) (SoundNames.nil') (fun args objs hl => match args, hl with | [a0, a1, a2, a3], _ => (evalF_same _ _ _).trans (slices_pdqsortOrdered_uint64_eq self a0 a1 a2 a3 objs)) (fun args objs hl => match args, hl with | [], _ => rfl | [_], _ => rfl | [_, _], _ => rfl | [_, _, _], _ => rfl | [_, _, _, _], hl => absurd rfl hl | _ :: _ :: _ :: _ :: _ :: _, _ => rfl)
theorem slices_pdqsortOrdered_uint64_ok : ∀ n, SoundFn PP 67 (slices_pdqsortOrdered_uint64 n)
  | 0 => SoundFn.none 67
  | n + 1 => slices_pdqsortOrdered_uint64_step_ok _ (slices_pdqsortOrdered_uint64_ok n)
theorem slices_Sort_Suint64_uint64_call : Callable PP 40 := callable_of (fn := Go.Proofs.Try.f40) (by kernel_rfl) (by kernel_rfl) (by kernel_rfl)
theorem slices_Sort_Suint64_uint64_ok : SoundFn PP 40 (slices_Sort_Suint64_uint64) := by
  exact fn_ok (P := PP) (fn := Go.Proofs.Try.f40) 1 mix_ok (by kernel_rfl) (SoundTab.cons slices_pdqsortOrdered_uint64_call (slices_pdqsortOrdered_uint64_ok big) (SoundTab.cons math_bits_Len_call math_bits_Len_ok (SoundTab.nil))) (SoundNames.nil') (fun args objs hl => match args, hl with | [a0], _ => (evalF_same _ _ _).trans (slices_Sort_Suint64_uint64_eq a0 objs)) (fun args objs hl => match args, hl with | [], _ => rfl | [_], hl => absurd rfl hl | _ :: _ :: _, _ => rfl)
theorem slices_Compact_Suint64_uint64_call : Callable PP 41 := callable_of (fn := Go.Proofs.Try.f41) (by kernel_rfl) (by kernel_rfl) (by kernel_rfl)
theorem slices_Compact_Suint64_uint64_ok : SoundFn PP 41 (slices_Compact_Suint64_uint64) := by
  exact fn_ok (P := PP) (fn := Go.Proofs.Try.f41) 1 mix_ok (by kernel_rfl) (SoundTab.nil) (SoundNames.nil') (fun args objs hl => match args, hl with | [a0], _ => (evalF_same _ _ _).trans (slices_Compact_Suint64_uint64_eq a0 objs)) (fun args objs hl => match args, hl with | [], _ => rfl | [_], hl => absurd rfl hl | _ :: _ :: _, _ => rfl)
theorem watch_Cats_call : Callable PP 22 := callable_of (fn := Go.Proofs.Try.f22) (by kernel_rfl) (by kernel_rfl) (by kernel_rfl)
theorem watch_Cats_ok : SoundFn PP 22 (watch_Cats) := by
  exact fn_ok (P := PP) (fn := Go.Proofs.Try.f22) 1 mix_ok (by kernel_rfl) (SoundTab.cons slices_Sort_Suint64_uint64_call slices_Sort_Suint64_uint64_ok (SoundTab.cons slices_Concat_Sapi_Cat_api_Cat_call slices_Concat_Sapi_Cat_api_Cat_ok (SoundTab.cons slices_Compact_Suint64_uint64_call slices_Compact_Suint64_uint64_ok (SoundTab.nil)))) (SoundNames.nil') (fun args objs hl => match args, hl with | [a0], _ => (evalF_same _ _ _).trans (watch_Cats_eq a0 objs)) (fun args objs hl => match args, hl with | [], _ => rfl | [_], hl => absurd rfl hl | _ :: _ :: _, _ => rfl)
theorem watch_Units_call : Callable PP 9 := callable_of (fn := Go.Proofs.Try.f9) (by kernel_rfl) (by kernel_rfl) (by kernel_rfl)
theorem watch_Units_ok : SoundFn PP 9 (watch_Units) := by
  exact fn_ok (P := PP) (fn := Go.Proofs.Try.f9) 1 mix_ok (by kernel_rfl) (SoundTab.nil) (SoundNames.nil') (fun args objs hl => match args, hl with | [a0], _ => (evalF_same _ _ _).trans (watch_Units_eq a0 objs)) (fun args objs hl => match args, hl with | [], _ => rfl | [_], hl => absurd rfl hl | _ :: _ :: _, _ => rfl)
theorem slices_BinarySearchFunc_Sapi_Thing_api_Thing_uint64_call : Callable PP 58 := callable_of (fn := Go.Proofs.Try.f58) (by kernel_rfl) (by kernel_rfl) (by kernel_rfl)
theorem slices_BinarySearchFunc_Sapi_Thing_api_Thing_uint64_ok (En : String → CallFn) (hEn : SoundNames PP En) : SoundFn PP 58 (slices_BinarySearchFunc_Sapi_Thing_api_Thing_uint64 En) := by
  exact fn_ok (P := PP) (fn := Go.Proofs.Try.f58) 3 mix_ok (by kernel_rfl) (SoundTab.nil) (hEn) (fun args objs hl => match args, hl with | [a0, a1, a2], _ => (evalF_same _ _ _).trans (slices_BinarySearchFunc_Sapi_Thing_api_Thing_uint64_eq En a0 a1 a2 objs)) (fun args objs hl => match args, hl with | [], _ => rfl | [_], _ => rfl | [_, _], _ => rfl | [_, _, _], hl => absurd rfl hl | _ :: _ :: _ :: _ :: _, _ => rfl)
theorem cmp_Compare_uint64_call : Callable PP 60 := callable_of (fn := Go.Proofs.Try.f60) (by kernel_rfl) (by kernel_rfl) (by kernel_rfl)
theorem cmp_Compare_uint64_ok : SoundFn PP 60 (cmp_Compare_uint64) := by
  exact fn_ok (P := PP) (fn := Go.Proofs.Try.f60) 2 mix_ok (by kernel_rfl) (SoundTab.cons cmp_isNaN_uint64_call cmp_isNaN_uint64_ok (SoundTab.nil)) (SoundNames.nil') (fun args objs hl => match args, hl with | [a0, a1], _ => (evalF_same _ _ _).trans (cmp_Compare_uint64_eq a0 a1 objs)) (fun args objs hl => match args, hl with | [], _ => rfl | [_], _ => rfl | [_, _], hl => absurd rfl hl | _ :: _ :: _ :: _, _ => rfl)
theorem graph_place_c1_call : Callable PP 59 := callable_of (fn := Go.Proofs.Try.f59) (by kernel_rfl) (by kernel_rfl) (by kernel_rfl)
theorem graph_place_c1_ok : SoundFn PP 59 (graph_place_c1) := by
  exact fn_ok (P := PP) (fn := Go.Proofs.Try.f59) 2 mix_ok (by kernel_rfl) (SoundTab.cons cmp_Compare_uint64_call cmp_Compare_uint64_ok (SoundTab.nil)) (SoundNames.nil') (fun args objs hl => match args, hl with | [a0, a1], _ => (evalF_same _ _ _).trans (graph_place_c1_eq a0 a1 objs)) (fun args objs hl => match args, hl with | [], _ => rfl | [_], _ => rfl | [_, _], hl => absurd rfl hl | _ :: _ :: _ :: _, _ => rfl)
theorem graph_place_call : Callable PP 35 := callable_of (fn := Go.Proofs.Try.f35) (by kernel_rfl) (by kernel_rfl) (by kernel_rfl)
theorem En_graph_place_ok : SoundNames PP (En_graph_place) := SoundNames.cons (by kernel_rfl) graph_place_c1_call graph_place_c1_ok (SoundNames.nil)
theorem graph_place_ok : SoundFn PP 35 (graph_place) := by
  have hEn := En_graph_place_ok; exact fn_ok (P := PP) (fn := Go.Proofs.Try.f35) 2 mix_ok (by kernel_rfl) (SoundTab.cons slices_BinarySearchFunc_Sapi_Thing_api_Thing_uint64_call (slices_BinarySearchFunc_Sapi_Thing_api_Thing_uint64_ok (En_graph_place) hEn) (SoundTab.cons graph_place_c1_call graph_place_c1_ok (SoundTab.nil))) (hEn) (fun args objs hl => match args, hl with | [a0, a1], _ => (evalF_same _ _ _).trans (graph_place_eq a0 a1 objs)) (fun args objs hl => match args, hl with | [], _ => rfl | [_], _ => rfl | [_, _], hl => absurd rfl hl | _ :: _ :: _ :: _, _ => rfl)
theorem slices_Clone_Sapi_Cat_api_Cat_ok : SoundFn PP 61 (primClone 2 16) := clone61
theorem slices_Clone_Sapi_Cat_api_Cat_call : Callable PP 61 := callable_of (fn := Go.Proofs.Try.f61) (by kernel_rfl) (by kernel_rfl) (by kernel_rfl)
theorem slices_Clone_Sapi_Link_api_Link_ok : SoundFn PP 62 (primClone 2 16) := clone62
theorem slices_Clone_Sapi_Link_api_Link_call : Callable PP 62 := callable_of (fn := Go.Proofs.Try.f62) (by kernel_rfl) (by kernel_rfl) (by kernel_rfl)
theorem slices_Clone_Sbyte_byte_ok : SoundFn PP 63 (primClone 1 1) := clone63
theorem slices_Clone_Sbyte_byte_call : Callable PP 63 := callable_of (fn := Go.Proofs.Try.f63) (by kernel_rfl) (by kernel_rfl) (by kernel_rfl)
theorem thing_Copy_call : Callable PP 36 := callable_of (fn := Go.Proofs.Try.f36) (by kernel_rfl) (by kernel_rfl) (by kernel_rfl)
theorem thing_Copy_ok : SoundFn PP 36 (thing_Copy) := by
  exact fn_ok (P := PP) (fn := Go.Proofs.Try.f36) 1 mix_ok (by kernel_rfl) (SoundTab.cons slices_Clone_Sbyte_byte_call slices_Clone_Sbyte_byte_ok (SoundTab.cons slices_Clone_Sapi_Link_api_Link_call slices_Clone_Sapi_Link_api_Link_ok (SoundTab.cons slices_Clone_Sapi_Cat_api_Cat_call slices_Clone_Sapi_Cat_api_Cat_ok (SoundTab.nil)))) (SoundNames.nil') (fun args objs hl => match args, hl with | [a0], _ => (evalF_same _ _ _).trans (thing_Copy_eq a0 objs)) (fun args objs hl => match args, hl with | [], _ => rfl | [_], hl => absurd rfl hl | _ :: _ :: _, _ => rfl)
theorem graph_Find_call : Callable PP 19 := callable_of (fn := Go.Proofs.Try.f19) (by kernel_rfl) (by kernel_rfl) (by kernel_rfl)
theorem graph_Find_ok : SoundFn PP 19 (graph_Find) := by
  exact fn_ok (P := PP) (fn := Go.Proofs.Try.f19) 2 mix_ok (by kernel_rfl) (SoundTab.cons thing_Copy_call thing_Copy_ok (SoundTab.cons graph_place_call graph_place_ok (SoundTab.nil))) (SoundNames.nil') (fun args objs hl => match args, hl with | [a0, a1], _ => (evalF_same _ _ _).trans (graph_Find_eq a0 a1 objs)) (fun args objs hl => match args, hl with | [], _ => rfl | [_], _ => rfl | [_, _], hl => absurd rfl hl | _ :: _ :: _ :: _, _ => rfl)
theorem slices_Clone_Suint64_uint64_ok : SoundFn PP 29 (primClone 1 8) := clone29
theorem slices_Clone_Suint64_uint64_call : Callable PP 29 := callable_of (fn := Go.Proofs.Try.f29) (by kernel_rfl) (by kernel_rfl) (by kernel_rfl)
theorem watch_Path_call : Callable PP 12 := callable_of (fn := Go.Proofs.Try.f12) (by kernel_rfl) (by kernel_rfl) (by kernel_rfl)
theorem watch_Path_ok : SoundFn PP 12 (watch_Path) := by
  exact fn_ok (P := PP) (fn := Go.Proofs.Try.f12) 2 mix_ok (by kernel_rfl) (SoundTab.cons slices_Clone_Suint64_uint64_call slices_Clone_Suint64_uint64_ok (SoundTab.cons graph_Find_call graph_Find_ok (SoundTab.nil))) (SoundNames.nil') (fun args objs hl => match args, hl with | [a0, a1], _ => (evalF_same _ _ _).trans (watch_Path_eq a0 a1 objs)) (fun args objs hl => match args, hl with | [], _ => rfl | [_], _ => rfl | [_, _], hl => absurd rfl hl | _ :: _ :: _ :: _, _ => rfl)
theorem ref13_SameIDs_call : Callable PP 28 := callable_of (fn := Go.Proofs.Try.f28) (by kernel_rfl) (by kernel_rfl) (by kernel_rfl)
theorem ref13_SameIDs_ok : SoundFn PP 28 (ref13_SameIDs) := by
  exact fn_ok (P := PP) (fn := Go.Proofs.Try.f28) 2 mix_ok (by kernel_rfl) (SoundTab.nil) (SoundNames.nil') (fun args objs hl => match args, hl with | [a0, a1], _ => (evalF_same _ _ _).trans (ref13_SameIDs_eq a0 a1 objs)) (fun args objs hl => match args, hl with | [], _ => rfl | [_], _ => rfl | [_, _], hl => absurd rfl hl | _ :: _ :: _ :: _, _ => rfl)
theorem ref23_Same_call : Callable PP 11 := callable_of (fn := Go.Proofs.Try.f11) (by kernel_rfl) (by kernel_rfl) (by kernel_rfl)
theorem ref23_Same_ok : SoundFn PP 11 (ref23_Same) := by
  exact fn_ok (P := PP) (fn := Go.Proofs.Try.f11) 2 mix_ok (by kernel_rfl) (SoundTab.cons ref13_SameIDs_call ref13_SameIDs_ok (SoundTab.nil)) (SoundNames.nil') (fun args objs hl => match args, hl with | [a0, a1], _ => (evalF_same _ _ _).trans (ref23_Same_eq a0 a1 objs)) (fun args objs hl => match args, hl with | [], _ => rfl | [_], _ => rfl | [_, _], hl => absurd rfl hl | _ :: _ :: _ :: _, _ => rfl)
theorem gate_Minter_call : Callable PP 42 := callable_of (fn := Go.Proofs.Try.f42) (by kernel_rfl) (by kernel_rfl) (by kernel_rfl)
theorem gate_Minter_ok : SoundFn PP 42 (gate_Minter) := by
  exact fn_ok (P := PP) (fn := Go.Proofs.Try.f42) 1 mix_ok (by kernel_rfl) (SoundTab.nil) (SoundNames.nil') (fun args objs hl => match args, hl with | [a0], _ => (evalF_same _ _ _).trans (gate_Minter_eq a0 objs)) (fun args objs hl => match args, hl with | [], _ => rfl | [_], hl => absurd rfl hl | _ :: _ :: _, _ => rfl)
theorem watch_Boots_call : Callable PP 23 := callable_of (fn := Go.Proofs.Try.f23) (by kernel_rfl) (by kernel_rfl) (by kernel_rfl)
theorem watch_Boots_ok : SoundFn PP 23 (watch_Boots) := by
  exact fn_ok (P := PP) (fn := Go.Proofs.Try.f23) 1 mix_ok (by kernel_rfl) (SoundTab.cons watch_Cats_call watch_Cats_ok (SoundTab.cons gate_Minter_call gate_Minter_ok (SoundTab.nil))) (SoundNames.nil') (fun args objs hl => match args, hl with | [a0], _ => (evalF_same _ _ _).trans (watch_Boots_eq a0 objs)) (fun args objs hl => match args, hl with | [], _ => rfl | [_], hl => absurd rfl hl | _ :: _ :: _, _ => rfl)
theorem law23_watchAlive_call : Callable PP 7 := callable_of (fn := Go.Proofs.Try.f7) (by kernel_rfl) (by kernel_rfl) (by kernel_rfl)
theorem law23_watchAlive_ok : SoundFn PP 7 (law23_watchAlive) := by
  exact fn_ok (P := PP) (fn := Go.Proofs.Try.f7) 0 mix_ok (by kernel_rfl) (SoundTab.cons watch_Units_call watch_Units_ok (SoundTab.cons watch_Path_call watch_Path_ok (SoundTab.cons watch_Cats_call watch_Cats_ok (SoundTab.cons watch_Boots_call watch_Boots_ok (SoundTab.cons ref23_Same_call ref23_Same_ok (SoundTab.cons ref20_World_call ref20_World_ok (SoundTab.nil))))))) (SoundNames.nil') (fun args objs hl => match args, hl with | [], _ => (evalF_same _ _ _).trans (law23_watchAlive_eq objs)) (fun args objs hl => by cases args with | nil => exact absurd rfl hl | cons a r => rfl)
theorem ref13_Graph_call : Callable PP 17 := callable_of (fn := Go.Proofs.Try.f17) (by kernel_rfl) (by kernel_rfl) (by kernel_rfl)
theorem ref13_Graph_ok : SoundFn PP 17 (ref13_Graph) := by
  exact fn_ok (P := PP) (fn := Go.Proofs.Try.f17) 1 mix_ok (by kernel_rfl) (SoundTab.nil) (SoundNames.nil') (fun args objs hl => match args, hl with | [a0], _ => (evalF_same _ _ _).trans (ref13_Graph_eq a0 objs)) (fun args objs hl => match args, hl with | [], _ => rfl | [_], hl => absurd rfl hl | _ :: _ :: _, _ => rfl)
theorem ref12_Has_call : Callable PP 15 := callable_of (fn := Go.Proofs.Try.f15) (by kernel_rfl) (by kernel_rfl) (by kernel_rfl)
theorem ref12_Has_ok : SoundFn PP 15 (ref12_Has) := by
  exact fn_ok (P := PP) (fn := Go.Proofs.Try.f15) 2 mix_ok (by kernel_rfl) (SoundTab.nil) (SoundNames.nil') (fun args objs hl => match args, hl with | [a0, a1], _ => (evalF_same _ _ _).trans (ref12_Has_eq a0 a1 objs)) (fun args objs hl => match args, hl with | [], _ => rfl | [_], _ => rfl | [_, _], hl => absurd rfl hl | _ :: _ :: _ :: _, _ => rfl)
theorem ref13_Refs_call : Callable PP 24 := callable_of (fn := Go.Proofs.Try.f24) (by kernel_rfl) (by kernel_rfl) (by kernel_rfl)
theorem ref13_Refs_ok : SoundFn PP 24 (ref13_Refs) := by
  exact fn_ok (P := PP) (fn := Go.Proofs.Try.f24) 2 mix_ok (by kernel_rfl) (SoundTab.cons ref12_Has_call ref12_Has_ok (SoundTab.nil)) (SoundNames.nil') (fun args objs hl => match args, hl with | [a0, a1], _ => (evalF_same _ _ _).trans (ref13_Refs_eq a0 a1 objs)) (fun args objs hl => match args, hl with | [], _ => rfl | [_], _ => rfl | [_, _], hl => absurd rfl hl | _ :: _ :: _ :: _, _ => rfl)
theorem ref11_id_call : Callable PP 43 := callable_of (fn := Go.Proofs.Try.f43) (by kernel_rfl) (by kernel_rfl) (by kernel_rfl)
theorem ref11_id_ok : SoundFn PP 43 (ref11_id) := by
  exact fn_ok (P := PP) (fn := Go.Proofs.Try.f43) 1 mix_ok (by kernel_rfl) (SoundTab.nil) (SoundNames.nil') (fun args objs hl => match args, hl with | [a0], _ => (evalF_same _ _ _).trans (ref11_id_eq a0 objs)) (fun args objs hl => match args, hl with | [], _ => rfl | [_], hl => absurd rfl hl | _ :: _ :: _, _ => rfl)
theorem ref09_IDs_call : Callable PP 95 := callable_of (fn := Go.Proofs.Try.f95) (by kernel_rfl) (by kernel_rfl) (by kernel_rfl)
theorem ref09_IDs_ok : SoundFn PP 95 (ref09_IDs) := by
  exact fn_ok (P := PP) (fn := Go.Proofs.Try.f95) 1 mix_ok (by kernel_rfl) (SoundTab.nil) (SoundNames.nil') (fun args objs hl => match args, hl with | [a0], _ => (evalF_same _ _ _).trans (ref09_IDs_eq a0 objs)) (fun args objs hl => match args, hl with | [], _ => rfl | [_], hl => absurd rfl hl | _ :: _ :: _, _ => rfl)
theorem ref09_Level_call : Callable PP 96 := callable_of (fn := Go.Proofs.Try.f96) (by kernel_rfl) (by kernel_rfl) (by kernel_rfl)
theorem ref09_Level_ok : SoundFn PP 96 (ref09_Level) := by
  exact fn_ok (P := PP) (fn := Go.Proofs.Try.f96) 2 mix_ok (by kernel_rfl) (SoundTab.nil) (SoundNames.nil') (fun args objs hl => match args, hl with | [a0, a1], _ => (evalF_same _ _ _).trans (ref09_Level_eq a0 a1 objs)) (fun args objs hl => match args, hl with | [], _ => rfl | [_], _ => rfl | [_, _], hl => absurd rfl hl | _ :: _ :: _ :: _, _ => rfl)
theorem ref09_Form_call : Callable PP 69 := callable_of (fn := Go.Proofs.Try.f69) (by kernel_rfl) (by kernel_rfl) (by kernel_rfl)
theorem ref09_Form_ok : SoundFn PP 69 (ref09_Form) := by
  exact fn_ok (P := PP) (fn := Go.Proofs.Try.f69) 1 mix_ok (by kernel_rfl) (SoundTab.cons ref09_Level_call ref09_Level_ok (SoundTab.cons ref09_IDs_call ref09_IDs_ok (SoundTab.nil))) (SoundNames.nil') (fun args objs hl => match args, hl with | [a0], _ => (evalF_same _ _ _).trans (ref09_Form_eq a0 objs)) (fun args objs hl => match args, hl with | [], _ => rfl | [_], hl => absurd rfl hl | _ :: _ :: _, _ => rfl)
theorem ref09_Exact_call : Callable PP 38 := callable_of (fn := Go.Proofs.Try.f38) (by kernel_rfl) (by kernel_rfl) (by kernel_rfl)
theorem ref09_Exact_ok : SoundFn PP 38 (ref09_Exact) := by
  exact fn_ok (P := PP) (fn := Go.Proofs.Try.f38) 2 mix_ok (by kernel_rfl) (SoundTab.nil) (SoundNames.nil') (fun args objs hl => match args, hl with | [a0, a1], _ => (evalF_same _ _ _).trans (ref09_Exact_eq a0 a1 objs)) (fun args objs hl => match args, hl with | [], _ => rfl | [_], _ => rfl | [_, _], hl => absurd rfl hl | _ :: _ :: _ :: _, _ => rfl)
theorem ref09_Right_call : Callable PP 44 := callable_of (fn := Go.Proofs.Try.f44) (by kernel_rfl) (by kernel_rfl) (by kernel_rfl)
theorem ref09_Right_ok : SoundFn PP 44 (ref09_Right) := by
  exact fn_ok (P := PP) (fn := Go.Proofs.Try.f44) 1 mix_ok (by kernel_rfl) (SoundTab.cons ref09_Form_call ref09_Form_ok (SoundTab.cons ref09_Exact_call ref09_Exact_ok (SoundTab.nil))) (SoundNames.nil') (fun args objs hl => match args, hl with | [a0], _ => (evalF_same _ _ _).trans (ref09_Right_eq a0 objs)) (fun args objs hl => match args, hl with | [], _ => rfl | [_], hl => absurd rfl hl | _ :: _ :: _, _ => rfl)
theorem ref10_Pure_call : Callable PP 45 := callable_of (fn := Go.Proofs.Try.f45) (by kernel_rfl) (by kernel_rfl) (by kernel_rfl)
theorem ref10_Pure_ok : SoundFn PP 45 (ref10_Pure) := by
  exact fn_ok (P := PP) (fn := Go.Proofs.Try.f45) 1 mix_ok (by kernel_rfl) (SoundTab.nil) (SoundNames.nil') (fun args objs hl => match args, hl with | [a0], _ => (evalF_same _ _ _).trans (ref10_Pure_eq a0 objs)) (fun args objs hl => match args, hl with | [], _ => rfl | [_], hl => absurd rfl hl | _ :: _ :: _, _ => rfl)
theorem ref01_parts_call : Callable PP 70 := callable_of (fn := Go.Proofs.Try.f70) (by kernel_rfl) (by kernel_rfl) (by kernel_rfl)
theorem ref01_parts_ok : SoundFn PP 70 (ref01_parts) := by
  exact fn_ok (P := PP) (fn := Go.Proofs.Try.f70) 1 mix_ok (by kernel_rfl) (SoundTab.nil) (SoundNames.nil') (fun args objs hl => match args, hl with | [a0], _ => (evalF_same _ _ _).trans (ref01_parts_eq a0 objs)) (fun args objs hl => match args, hl with | [], _ => rfl | [_], hl => absurd rfl hl | _ :: _ :: _, _ => rfl)
theorem ref01_Canon_call : Callable PP 46 := callable_of (fn := Go.Proofs.Try.f46) (by kernel_rfl) (by kernel_rfl) (by kernel_rfl)
theorem ref01_Canon_ok : SoundFn PP 46 (ref01_Canon) := by
  exact fn_ok (P := PP) (fn := Go.Proofs.Try.f46) 1 mix_ok (by kernel_rfl) (SoundTab.cons ref01_parts_call ref01_parts_ok (SoundTab.nil)) (SoundNames.nil') (fun args objs hl => match args, hl with | [a0], _ => (evalF_same _ _ _).trans (ref01_Canon_eq a0 objs)) (fun args objs hl => match args, hl with | [], _ => rfl | [_], hl => absurd rfl hl | _ :: _ :: _, _ => rfl)
theorem ref11_clean_call : Callable PP 47 := callable_of (fn := Go.Proofs.Try.f47) (by kernel_rfl) (by kernel_rfl) (by kernel_rfl)
theorem ref11_clean_ok : SoundFn PP 47 (ref11_clean) := by
  exact fn_ok (P := PP) (fn := Go.Proofs.Try.f47) 1 mix_ok (by kernel_rfl) (SoundTab.cons ref10_Pure_call ref10_Pure_ok (SoundTab.cons ref09_Right_call ref09_Right_ok (SoundTab.nil))) (SoundNames.nil') (fun args objs hl => match args, hl with | [a0], _ => (evalF_same _ _ _).trans (ref11_clean_eq a0 objs)) (fun args objs hl => match args, hl with | [], _ => rfl | [_], hl => absurd rfl hl | _ :: _ :: _, _ => rfl)
theorem ref11_Same_call : Callable PP 20 := callable_of (fn := Go.Proofs.Try.f20) (by kernel_rfl) (by kernel_rfl) (by kernel_rfl)
theorem ref11_Same_ok : SoundFn PP 20 (ref11_Same) := by
  exact fn_ok (P := PP) (fn := Go.Proofs.Try.f20) 2 mix_ok (by kernel_rfl) (SoundTab.cons ref09_Exact_call ref09_Exact_ok (SoundTab.nil)) (SoundNames.nil') (fun args objs hl => match args, hl with | [a0, a1], _ => (evalF_same _ _ _).trans (ref11_Same_eq a0 a1 objs)) (fun args objs hl => match args, hl with | [], _ => rfl | [_], _ => rfl | [_, _], hl => absurd rfl hl | _ :: _ :: _ :: _, _ => rfl)
theorem ref11_Right_call : Callable PP 25 := callable_of (fn := Go.Proofs.Try.f25) (by kernel_rfl) (by kernel_rfl) (by kernel_rfl)
theorem ref11_Right_ok : SoundFn PP 25 (ref11_Right) := by
  exact fn_ok (P := PP) (fn := Go.Proofs.Try.f25) 1 mix_ok (by kernel_rfl) (SoundTab.cons ref11_id_call ref11_id_ok (SoundTab.cons ref11_clean_call ref11_clean_ok (SoundTab.cons ref11_Same_call ref11_Same_ok (SoundTab.cons ref10_Pure_call ref10_Pure_ok (SoundTab.cons ref09_Right_call ref09_Right_ok (SoundTab.cons ref01_Canon_call ref01_Canon_ok (SoundTab.nil))))))) (SoundNames.nil') (fun args objs hl => match args, hl with | [a0], _ => (evalF_same _ _ _).trans (ref11_Right_eq a0 objs)) (fun args objs hl => match args, hl with | [], _ => rfl | [_], hl => absurd rfl hl | _ :: _ :: _, _ => rfl)
theorem ref13_Find_call : Callable PP 14 := callable_of (fn := Go.Proofs.Try.f14) (by kernel_rfl) (by kernel_rfl) (by kernel_rfl)
theorem ref13_Find_ok : SoundFn PP 14 (ref13_Find) := by
  exact fn_ok (P := PP) (fn := Go.Proofs.Try.f14) 2 mix_ok (by kernel_rfl) (SoundTab.nil) (SoundNames.nil') (fun args objs hl => match args, hl with | [a0, a1], _ => (evalF_same _ _ _).trans (ref13_Find_eq a0 a1 objs)) (fun args objs hl => match args, hl with | [], _ => rfl | [_], _ => rfl | [_, _], hl => absurd rfl hl | _ :: _ :: _ :: _, _ => rfl)
theorem ref13_Fits_call : Callable PP 26 := callable_of (fn := Go.Proofs.Try.f26) (by kernel_rfl) (by kernel_rfl) (by kernel_rfl)
theorem ref13_Fits_ok : SoundFn PP 26 (ref13_Fits) := by
  exact fn_ok (P := PP) (fn := Go.Proofs.Try.f26) 3 mix_ok (by kernel_rfl) (SoundTab.cons ref13_Find_call ref13_Find_ok (SoundTab.nil)) (SoundNames.nil') (fun args objs hl => match args, hl with | [a0, a1, a2], _ => (evalF_same _ _ _).trans (ref13_Fits_eq a0 a1 a2 objs)) (fun args objs hl => match args, hl with | [], _ => rfl | [_], _ => rfl | [_, _], _ => rfl | [_, _, _], hl => absurd rfl hl | _ :: _ :: _ :: _ :: _, _ => rfl)
theorem ref13_Above_call : Callable PP 48 := callable_of (fn := Go.Proofs.Try.f48) (by kernel_rfl) (by kernel_rfl) (by kernel_rfl)
theorem ref13_Above_step_ok (self : CallFn) (hself : SoundFn PP 48 self) : SoundFn PP 48 (ref13_Above_step self) := by
  have me_call := ref13_Above_call
  exact fn_ok (P := PP) (fn := Go.Proofs.Try.f48) 1 mix_ok (by kernel_rfl) (SoundTab.cons me_call hself (SoundTab.nil)) (SoundNames.nil') (fun args objs hl => match args, hl with | [a0], _ => (evalF_same _ _ _).trans (ref13_Above_eq self a0 objs)) (fun args objs hl => match args, hl with | [], _ => rfl | [_], hl => absurd rfl hl | _ :: _ :: _, _ => rfl)
theorem ref13_Above_ok : ∀ n, SoundFn PP 48 (ref13_Above n)
  | 0 => SoundFn.none 48
  | n + 1 => ref13_Above_step_ok _ (ref13_Above_ok n)
theorem ref13_Given_call : Callable PP 27 := callable_of (fn := Go.Proofs.Try.f27) (by kernel_rfl) (by kernel_rfl) (by kernel_rfl)
theorem ref13_Given_ok : SoundFn PP 27 (ref13_Given) := by
  exact fn_ok (P := PP) (fn := Go.Proofs.Try.f27) 2 mix_ok (by kernel_rfl) (SoundTab.cons ref13_Above_call (ref13_Above_ok big) (SoundTab.nil)) (SoundNames.nil') (fun args objs hl => match args, hl with | [a0, a1], _ => (evalF_same _ _ _).trans (ref13_Given_eq a0 a1 objs)) (fun args objs hl => match args, hl with | [], _ => rfl | [_], _ => rfl | [_, _], hl => absurd rfl hl | _ :: _ :: _ :: _, _ => rfl)
theorem ref13_Sound_call : Callable PP 8 := callable_of (fn := Go.Proofs.Try.f8) (by kernel_rfl) (by kernel_rfl) (by kernel_rfl)
theorem ref13_Sound_ok : SoundFn PP 8 (ref13_Sound) := by
  exact fn_ok (P := PP) (fn := Go.Proofs.Try.f8) 1 mix_ok (by kernel_rfl) (SoundTab.cons ref13_Refs_call ref13_Refs_ok (SoundTab.cons ref13_Graph_call ref13_Graph_ok (SoundTab.cons ref13_Given_call ref13_Given_ok (SoundTab.cons ref13_Fits_call ref13_Fits_ok (SoundTab.cons ref11_Right_call ref11_Right_ok (SoundTab.nil)))))) (SoundNames.nil') (fun args objs hl => match args, hl with | [a0], _ => (evalF_same _ _ _).trans (ref13_Sound_eq a0 objs)) (fun args objs hl => match args, hl with | [], _ => rfl | [_], hl => absurd rfl hl | _ :: _ :: _, _ => rfl)
theorem ref23_Units_call : Callable PP 10 := callable_of (fn := Go.Proofs.Try.f10) (by kernel_rfl) (by kernel_rfl) (by kernel_rfl)
theorem ref23_Units_ok : SoundFn PP 10 (ref23_Units) := by
  exact fn_ok (P := PP) (fn := Go.Proofs.Try.f10) 1 mix_ok (by kernel_rfl) (SoundTab.nil) (SoundNames.nil') (fun args objs hl => match args, hl with | [a0], _ => (evalF_same _ _ _).trans (ref23_Units_eq a0 objs)) (fun args objs hl => match args, hl with | [], _ => rfl | [_], hl => absurd rfl hl | _ :: _ :: _, _ => rfl)
theorem law23_WatchUnits_call : Callable PP 3 := callable_of (fn := Go.Proofs.Try.f3) (by kernel_rfl) (by kernel_rfl) (by kernel_rfl)
theorem law23_WatchUnits_ok : SoundFn PP 3 (law23_WatchUnits) := by
  exact fn_ok (P := PP) (fn := Go.Proofs.Try.f3) 1 mix_ok (by kernel_rfl) (SoundTab.cons watch_Units_call watch_Units_ok (SoundTab.cons ref23_Units_call ref23_Units_ok (SoundTab.cons ref13_Sound_call ref13_Sound_ok (SoundTab.cons law23_watchAlive_call law23_watchAlive_ok (SoundTab.nil))))) (SoundNames.nil') (fun args objs hl => match args, hl with | [a0], _ => (evalF_same _ _ _).trans (law23_WatchUnits_eq a0 objs)) (fun args objs hl => match args, hl with | [], _ => rfl | [_], hl => absurd rfl hl | _ :: _ :: _, _ => rfl)
theorem law23_WatchReach_call : Callable PP 5 := callable_of (fn := Go.Proofs.Try.f5) (by kernel_rfl) (by kernel_rfl) (by kernel_rfl)
theorem law23_WatchReach_ok : SoundFn PP 5 (law23_WatchReach) := by
  exact fn_ok (P := PP) (fn := Go.Proofs.Try.f5) 2 mix_ok (by kernel_rfl) (SoundTab.cons watch_Path_call watch_Path_ok (SoundTab.cons ref13_Sound_call ref13_Sound_ok (SoundTab.cons ref13_Find_call ref13_Find_ok (SoundTab.cons ref12_Has_call ref12_Has_ok (SoundTab.cons law23_watchAlive_call law23_watchAlive_ok (SoundTab.nil)))))) (SoundNames.nil') (fun args objs hl => match args, hl with | [a0, a1], _ => (evalF_same _ _ _).trans (law23_WatchReach_eq a0 a1 objs)) (fun args objs hl => match args, hl with | [], _ => rfl | [_], _ => rfl | [_, _], hl => absurd rfl hl | _ :: _ :: _ :: _, _ => rfl)
theorem ref23_less_call : Callable PP 30 := callable_of (fn := Go.Proofs.Try.f30) (by kernel_rfl) (by kernel_rfl) (by kernel_rfl)
theorem ref23_less_ok : SoundFn PP 30 (ref23_less) := by
  exact fn_ok (P := PP) (fn := Go.Proofs.Try.f30) 2 mix_ok (by kernel_rfl) (SoundTab.nil) (SoundNames.nil') (fun args objs hl => match args, hl with | [a0, a1], _ => (evalF_same _ _ _).trans (ref23_less_eq a0 a1 objs)) (fun args objs hl => match args, hl with | [], _ => rfl | [_], _ => rfl | [_, _], hl => absurd rfl hl | _ :: _ :: _ :: _, _ => rfl)
theorem ref23_Path_call : Callable PP 13 := callable_of (fn := Go.Proofs.Try.f13) (by kernel_rfl) (by kernel_rfl) (by kernel_rfl)
theorem ref23_Path_ok : SoundFn PP 13 (ref23_Path) := by
  exact fn_ok (P := PP) (fn := Go.Proofs.Try.f13) 2 mix_ok (by kernel_rfl) (SoundTab.cons ref23_less_call ref23_less_ok (SoundTab.cons ref12_Has_call ref12_Has_ok (SoundTab.nil))) (SoundNames.nil') (fun args objs hl => match args, hl with | [a0, a1], _ => (evalF_same _ _ _).trans (ref23_Path_eq a0 a1 objs)) (fun args objs hl => match args, hl with | [], _ => rfl | [_], _ => rfl | [_, _], hl => absurd rfl hl | _ :: _ :: _ :: _, _ => rfl)
theorem law23_WatchPaths_call : Callable PP 4 := callable_of (fn := Go.Proofs.Try.f4) (by kernel_rfl) (by kernel_rfl) (by kernel_rfl)
theorem law23_WatchPaths_ok : SoundFn PP 4 (law23_WatchPaths) := by
  exact fn_ok (P := PP) (fn := Go.Proofs.Try.f4) 2 mix_ok (by kernel_rfl) (SoundTab.cons watch_Path_call watch_Path_ok (SoundTab.cons ref23_Same_call ref23_Same_ok (SoundTab.cons ref23_Path_call ref23_Path_ok (SoundTab.cons ref13_Sound_call ref13_Sound_ok (SoundTab.cons law23_watchAlive_call law23_watchAlive_ok (SoundTab.nil)))))) (SoundNames.nil') (fun args objs hl => match args, hl with | [a0, a1], _ => (evalF_same _ _ _).trans (law23_WatchPaths_eq a0 a1 objs)) (fun args objs hl => match args, hl with | [], _ => rfl | [_], _ => rfl | [_, _], hl => absurd rfl hl | _ :: _ :: _ :: _, _ => rfl)
end Go.Ab.F
