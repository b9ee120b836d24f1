/-
  EXTENTS: a new map; what is read of one.
-/
import Derived.Test.YtijekkbagkpjdaaTOpsF
import Derived.KernelRfl
set_option linter.unusedSimpArgs false
set_option linter.unusedVariables false
namespace Go.Ab.T
open Go Go.Ab Go.Ab.F

theorem alive_v : law07_extentAlive [] [] = some (.ok (.s (.bool true)), []) := by kernel_rfl
theorem alive_call {β : Type} (kp k : A → Heap → Option β) : oLend law07_extentAlive [] [] kp k = k (.s (.bool true)) [] := oLend_val _ _ _ _ _ _ (by simp) (by simp) alive_v

def newT (t : Int) : Int := if 0 < t then (if t < 1024 then t else 1024) else 0
def newF (T : Int) : List Extent := if 0 < T then [⟨0, T⟩] else []
theorem New_v (t : Int) : ∃ h p, extent_New [.s (.int .i64 t)] [] = some (.ok (.ptr 0 0 0 0), h) ∧ MapP h 0 [] (newT t) (newF (newT t)) [] p none ∧ (∀ f, (∀ i, f i = some i) → renHeap f h = some h) := by
  have hid : ∀ (f : Nat → Option Nat) (T : Int), (∀ i, f i = some i) → renHeap f [mslot T none none [] []] = some [mslot T none none [] []] := fun f T h => by
    simp [mslot, renSlot, mrow, lA]
  have hid2 : ∀ (f : Nat → Option Nat) (T : Int), (∀ i, f i = some i) → renHeap f [mslot T (some (1, 0)) none [⟨0, T⟩] [], xs ⟨0, T⟩] = some [mslot T (some (1, 0)) none [⟨0, T⟩] [], xs ⟨0, T⟩] := fun f T h => by
    simp [mslot, xs, renSlot, mrow, lA, extentC, h]
  have hrow : ∀ T : Int, putCells [A.s (.int .i64 T), .s (.slice none 0 0), .s (.slice none 0 0)] 1 [.osl 1 0 2 0 1] = [.s (.int .i64 T), .osl 1 0 2 0 1, .s (.slice none 0 0)] := fun T => rfl
  have key : ∀ T : Int, (0 < T → ∃ h p, extent_New_k1 [] (.ptr 0 0 0 0) .normal [] [mslot T (some (1, 0)) none [⟨0, T⟩] [], xs ⟨0, T⟩] = some (.ok (.ptr 0 0 0 0), h) ∧ MapP h 0 [] T (newF T) [] p none ∧ (∀ f, (∀ i, f i = some i) → renHeap f h = some h)) ∧
      (¬ 0 < T → ∃ h p, extent_New_k1 [] (.ptr 0 0 0 0) .normal [] [mslot T none none [] []] = some (.ok (.ptr 0 0 0 0), h) ∧ MapP h 0 [] T (newF T) [] p none ∧ (∀ f, (∀ i, f i = some i) → renHeap f h = some h)) := by
    intro T
    constructor
    · intro hT
      refine ⟨[mslot T (some (1, 0)) none [⟨0, T⟩] [], xs ⟨0, T⟩], some (1, 0), ?_, ⟨by simp [newF, hT], by show _ = _; simp [newF, hT, xs], rfl, by simp [lIds], by simp [lIds], by simp [lIds], by simp⟩, fun f h => hid2 f T h⟩
      have hr : reach [mslot T (some (1, 0)) none [⟨0, T⟩] [], xs ⟨0, T⟩] reachFuel [] [0] = [0, 1] := by
        rw [show reachFuel = 99998 + 1 + 1 from rfl, reach, if_neg (by simp)]
        have : ([mslot T (some (1, 0)) none [⟨0, T⟩] [], xs ⟨0, T⟩].getD 0 .dead).ids = [1] := by simp [mslot_ids, lIds]
        rw [this, List.append_nil, reach, if_neg (by simp)]
        have h2 : ([mslot T (some (1, 0)) none [⟨0, T⟩] [], xs ⟨0, T⟩].getD 1 .dead).ids = [] := by simp [xs, Go.Ab.Slot.ids]
        rw [h2]; simp
      have i0 : idx [0, 1] 0 = some 0 := rfl
      have i1 : idx [0, 1] 1 = some 1 := rfl
      have hr2 := hr
      simp only [mslot, mrow, lA, xs, extentC, List.length_cons, List.length_nil, Nat.zero_add] at hr2
      simp [extent_New_k1, finish, hr2, i0, mslot, renSlot, mrow, lA, i1, xs, extentC]
    · intro hT
      refine ⟨[mslot T none none [] []], none, ?_, ⟨by simp [newF, hT], by simp [newF, hT, lAt], rfl, by simp [lIds], by simp [lIds], by simp [lIds], by simp⟩, fun f h => hid f T h⟩
      have hr : reach [mslot T none none [] []] reachFuel [] [0] = [0] := by
        rw [show reachFuel = 99998 + 1 + 1 from rfl, reach, if_neg (by simp)]
        have : ([mslot T none none [] []].getD 0 .dead).ids = [] := by simp [mslot_ids, lIds]
        rw [this]; simp
      have i0 : idx [0] 0 = some 0 := rfl
      have hr2 := hr
      simp only [mslot, mrow, lA] at hr2
      simp [extent_New_k1, finish, hr2, i0, mslot, renSlot, mrow, lA]
  have h1 : ∀ T : Int, [mslot T (some (1, 0)) none [⟨0, T⟩] [], xs ⟨0, T⟩] = [.live ⟨0, 3, [[.s (.int .i64 T), .osl 1 0 2 0 1, .s (.slice none 0 0)]]⟩, .live ⟨0, 2, [extentC ⟨0, T⟩]⟩] := fun T => rfl
  have h2 : ∀ T : Int, [mslot T none none [] []] = [.live ⟨0, 3, [[.s (.int .i64 T), .s (.slice none 0 0), .s (.slice none 0 0)]]⟩] := fun T => rfl
  obtain ⟨k1, k2⟩ := key (newT t)
  rw [h1] at k1
  rw [h2] at k2
  have hmm : ∀ {β : Type} (k : A → Option β), (oMin (.s (.int .i64 t)) (.s (.int .i64 1024)) fun x1 => oMax (.s (.int .i64 0)) x1 k) = k (.s (.int .i64 (newT t))) := by
    intro β k
    by_cases c1 : 0 < t
    · by_cases c2 : t < 1024
      · have : ¬ 1024 < t := by omega
        simp [newT, c1, c2, this]
        try omega
      · by_cases c3 : 1024 < t
        · simp [newT, c1, c2, c3]
        · have : t = 1024 := by omega
          subst this; simp [newT]
    · have : ¬ 1024 < t := by omega
      simp [newT, c1, this]
      try omega
  unfold extent_New
  simp only [hmm]
  generalize newT t = T at *
  by_cases c : 0 < T
  · obtain ⟨h, p, e1, e2, e3⟩ := k1 c
    refine ⟨h, p, ?_, e2, e3⟩
    rw [← e1]
    have hpe : putCells [A.s (.int .i64 0), .s (.int .i64 0)] 1 [.s (.int .i64 T)] = extentC ⟨0, T⟩ := rfl
    simp [fillA, c, hpe, hrow, asRows, trim, allBelow]
  · obtain ⟨h, p, e1, e2, e3⟩ := k2 c
    refine ⟨h, p, ?_, e2, e3⟩
    rw [← e1]
    simp [fillA, c, hrow, trim, allBelow]
theorem New_call (t : Int) : ∃ h p, (∀ {β : Type} (kp k : A → Heap → Option β), oLend extent_New [.s (.int .i64 t)] [] kp k = k (.ptr 0 0 0 0) h) ∧ MapP h 0 [] (newT t) (newF (newT t)) [] p none := by
  obtain ⟨h, p, e1, e2, e3⟩ := New_v t
  refine ⟨h, p, fun kp k => ?_, e2⟩
  have hb : ∀ i, backIdx [] 0 i = some i := fun i => by simp [backIdx]
  have hl : lendL lendFuel [A.s (.int .i64 t)] [] = some [A.s (.int .i64 t)] := lendL_pure 999 _ _ (by simp)
  simp [oLend, hl, e1, giveBack, hb, e3 _ hb, setAll]

/-- Its lists, copied. -/
theorem List_call {H : Heap} {m : Nat} {X : List Nat} {T : Int} {fs ls : List Extent} {p q : Option (Nat × Nat)} (hM : MapP H m X T fs ls p q) (hf : fs.length < 900000) {β : Type} (kp k : A → Heap → Option β) :
    (oLend extent_Map_List [.ptr m 0 0 0] H kp fun w h => oFrz w h k) = k (mkF 2 (fs.map extentC)) (H ++ [.dead]) := by
  have hcl : ∀ (kp k : A → Heap → Option (Out × Heap)), oLend (primClone 2 16) [mkF 2 (fs.map extentC)] [] kp k = k (.osl 0 1 2 0 fs.length) [.live ⟨1, 2, fs.map extentC⟩] := fun kp k => by
    have hap : appendOk fs.length 16 := by constructor <;> omega
    exact oLend_own (primClone 2 16) _ _ [] kp k 1 2 fs.length (fs.map extentC) (by simp) (lendL_pure 999 _ _ (by simp)) (fun f => ext_ren f fs) (by simp [primClone, hap])
  have hF : extent_Map_List [.cptr (mapF T fs ls)] [] = some (.ok (.osl 0 1 2 0 fs.length), [.live ⟨1, 2, fs.map extentC⟩]) := by
    simp [extent_Map_List, hcl]
    exact finish_own 0 1 2 _ _ _ rfl (ext_ids fs) (fun f => ext_ren f fs)
  have ho : ownH [.live ⟨1, 2, fs.map extentC⟩] = true := by simp [ownH, ownRows, extentC, ownL, ownA]
  have hls : renSlot (backIdx [] H.length) (.live ⟨1, 2, fs.map extentC⟩) = some (.live ⟨1, 2, fs.map extentC⟩) := by simp [renSlot, ext_ren]
  unfold oLend
  have hl : lendL lendFuel [.ptr m 0 0 0] (if (idsL [A.ptr m 0 0 0]).isEmpty = true then [] else H) = some [.cptr (mapF T fs ls)] := by simpa using lend_map1 hM.at_ hM.fr hM.la
  simp only [hl, hF, ownO, ho, ownA, Bool.and_self, Bool.or_true, if_true, giveBack, renOut_ok, renA_osl]
  have hfz : ∀ (k : A → Heap → Option β), oFrz (.osl H.length 1 2 0 fs.length) (H ++ [Go.Ab.Slot.live ⟨1, 2, fs.map extentC⟩]) k = k (mkF 2 (fs.map extentC)) ((H ++ [Go.Ab.Slot.live ⟨1, 2, fs.map extentC⟩]).set H.length .dead) := fun k =>
    oFrz_own _ H.length 1 2 _ (fs.map extentC) k (by simp) (by simp) (ext_pure fs)
  have hs : (H ++ [Go.Ab.Slot.live ⟨1, 2, fs.map extentC⟩]).set H.length .dead = H ++ [.dead] := set1 _ _ _ _
  rw [hs] at hfz
  simp [backIdx, hls, setAll, hfz]
theorem Waiting_call {H : Heap} {m : Nat} {X : List Nat} {T : Int} {fs ls : List Extent} {p q : Option (Nat × Nat)} (hM : MapP H m X T fs ls p q) (hf : ls.length < 900000) {β : Type} (kp k : A → Heap → Option β) :
    (oLend extent_Map_Waiting [.ptr m 0 0 0] H kp fun w h => oFrz w h k) = k (mkF 2 (ls.map extentC)) (H ++ [.dead]) := by
  have hcl : ∀ (kp k : A → Heap → Option (Out × Heap)), oLend (primClone 2 16) [mkF 2 (ls.map extentC)] [] kp k = k (.osl 0 1 2 0 ls.length) [.live ⟨1, 2, ls.map extentC⟩] := fun kp k => by
    have hap : appendOk ls.length 16 := by constructor <;> omega
    exact oLend_own (primClone 2 16) _ _ [] kp k 1 2 ls.length (ls.map extentC) (by simp) (lendL_pure 999 _ _ (by simp)) (fun f => ext_ren f ls) (by simp [primClone, hap])
  have hF : extent_Map_Waiting [.cptr (mapF T fs ls)] [] = some (.ok (.osl 0 1 2 0 ls.length), [.live ⟨1, 2, ls.map extentC⟩]) := by
    simp [extent_Map_Waiting, hcl]
    exact finish_own 0 1 2 _ _ _ rfl (ext_ids ls) (fun f => ext_ren f ls)
  have ho : ownH [.live ⟨1, 2, ls.map extentC⟩] = true := by simp [ownH, ownRows, extentC, ownL, ownA]
  have hls : renSlot (backIdx [] H.length) (.live ⟨1, 2, ls.map extentC⟩) = some (.live ⟨1, 2, ls.map extentC⟩) := by simp [renSlot, ext_ren]
  unfold oLend
  have hl : lendL lendFuel [.ptr m 0 0 0] (if (idsL [A.ptr m 0 0 0]).isEmpty = true then [] else H) = some [.cptr (mapF T fs ls)] := by simpa using lend_map1 hM.at_ hM.fr hM.la
  simp only [hl, hF, ownO, ho, ownA, Bool.and_self, Bool.or_true, if_true, giveBack, renOut_ok, renA_osl]
  have hfz : ∀ (k : A → Heap → Option β), oFrz (.osl H.length 1 2 0 ls.length) (H ++ [Go.Ab.Slot.live ⟨1, 2, ls.map extentC⟩]) k = k (mkF 2 (ls.map extentC)) ((H ++ [Go.Ab.Slot.live ⟨1, 2, ls.map extentC⟩]).set H.length .dead) := fun k =>
    oFrz_own _ H.length 1 2 _ (ls.map extentC) k (by simp) (by simp) (ext_pure ls)
  have hs : (H ++ [Go.Ab.Slot.live ⟨1, 2, ls.map extentC⟩]).set H.length .dead = H ++ [.dead] := set1 _ _ _ _
  rw [hs] at hfz
  simp [backIdx, hls, setAll, hfz]
end Go.Ab.T
