/-
  THE DOCUMENT'S COPIES.
-/
import Derived.Test.YtffjjeifgejplaaTRef
set_option linter.unusedSimpArgs false
set_option linter.unusedVariables false
namespace Go.Ab.T
open Go Go.Ab Go.Ab.F

theorem ref09_Copy_v (l : Label) (hl : l.cats.length < 1000000) : ref09_Copy [.agg (labelC l)] [] = some (.ok (.agg [.s (.int .i64 l.df), .osl 0 1 2 0 l.cats.length]), [.live ⟨1, 2, l.cats.map catC⟩]) := by
  have hok : appendOk l.cats.length 16 := ok16 (by omega)
  simp [ref09_Copy, oLoadD, List.replicate, Go.Ab.place, oAppendD, oAppend_osl, hok, putCells, cellsAt]
  exact finish_one _ _ 2 _ _ (by simp) (by simp) (by simp) (idsRows_map _ catC_ids _) (fun f => renRow_cats f _)

theorem Copy09_call {β : Type} (l : Label) (hl : l.cats.length < 1000000) (h : Heap) (kp k : A → Heap → Option β) :
    (oLend ref09_Copy [.agg (labelC l)] h kp fun w h' => oFrz w h' k) = k (.agg (labelC l)) (h ++ [.dead]) := by
  have hF := ref09_Copy_v l hl
  have hi : (idsL [A.agg (labelC l)]).isEmpty = true := by simp
  have hll : lendL lendFuel [.agg (labelC l)] (if (idsL [A.agg (labelC l)]).isEmpty = true then [] else h) = some [.agg (labelC l)] := lendL_pure 999 _ _ (by simp)
  have e1 : (oLend ref09_Copy [.agg (labelC l)] h kp fun w h' => oFrz w h' k) = oFrz (.agg [.s (.int .i64 l.df), .osl h.length 1 2 0 l.cats.length]) (h ++ [.live ⟨1, 2, l.cats.map catC⟩]) k := by
    unfold oLend
    rw [hll]
    simp only [hF]
    simp [giveBack, backIdx, renRow_cats, setAll]
  rw [e1, frz_cell2 _ (mkF 2 (l.cats.map catC)) _ _ ((h ++ [Go.Ab.Slot.live ⟨1, 2, l.cats.map catC⟩]).set h.length Go.Ab.Slot.dead) k rfl (fun n h => by simp [frzA, nilS]) rfl
    (fun n => frz_own n h.length 1 2 l.cats.length (l.cats.map catC) (h ++ [Go.Ab.Slot.live ⟨1, 2, l.cats.map catC⟩]) (by simp) (by simp) (pureRows_map _ (fun x => by simp) _))]
  simp [labelC]

/-- A thing's cells, its links and its bytes in objects of their own. -/
def cpRow (t : Thing) (c d : Nat) : List A := [.s (.int .u64 t.id), .s (.int .i64 t.kind), .s (.int .i64 t.label.df), mkF 2 (t.label.cats.map catC), .s (.int .i64 t.clear.df), mkF 2 (t.clear.cats.map catC), .s (.int .i64 t.quota), .s (.int .i64 t.next), .osl c 1 2 0 t.links.length, .osl d 1 1 0 t.data.length, .s (.int .u64 t.r0), .s (.int .u64 t.r1), .s (.int .u64 t.r2), .s (.int .u64 t.r3), .s (.int .i64 t.minted), .s (.int .i64 t.boot), .s (.bool t.halted), .s (.int .u64 t.value), .s (.int .u64 t.s0.dir), .s (.int .u64 t.s0.seg), .s (.int .u64 t.s1.dir), .s (.int .u64 t.s1.seg), .s (.int .u64 t.s2.dir), .s (.int .u64 t.s2.seg), .s (.int .u64 t.s3.dir), .s (.int .u64 t.s3.seg)]

theorem ref11_Copy_v (t : Thing) (sm : small t) : ref11_Copy [.agg (thingC t)] [] = some (.ok (.agg (cpRow t 0 1)), [.live ⟨1, 2, t.links.map linkC⟩, .live ⟨1, 1, t.data.map (cellC .u8)⟩]) := by
  have s1 := sm.label; have s2 := sm.clear; have s3 := sm.links; have s4 := sm.data
  have hok : appendOk t.links.length 16 := ok16 (by omega)
  have hok1 : appendOk t.data.length 1 := by constructor <;> omega
  have hc := fun (l : Label) hl (h : Heap) (kp k : A → Heap → Option (Out × Heap)) => Copy09_call l hl h kp k
  have hp1 : putCells (thingC t) 2 (labelC t.label) = thingC t := rfl
  have hp2 : putCells (thingC t) 4 (labelC t.clear) = thingC t := rfl
  simp [ref11_Copy, hc _ s1, hc _ s2, hp1, hp2, oAppend_osl, hok, hok1]
  simp [putCells, thingC, cellsAt, oAppend_osl, hok1]
  refine (finish_flat _ (.agg (cpRow t 0 1)) [4, 5] _ (by simp) (by decide) (by decide) (by
    intro id hid
    simp only [List.mem_cons, List.not_mem_nil, or_false] at hid
    rcases hid with rfl | rfl
    · refine ⟨by simp [idsRows_map _ linkC_ids], fun f => by simp [renRow_links]⟩
    · refine ⟨by simp [idsRows_map _ (cellC_ids .u8)], fun f => by simp [renRow_data]⟩) (by simp [cpRow, idx, List.idxOf?_cons])).trans ?_
  simp

theorem Copy11_call {β : Type} (t : Thing) (sm : small t) (h : Heap) (kp k : A → Heap → Option β) :
    (oLend ref11_Copy [.agg (thingC t)] h kp fun w h' => oFrz w h' k) = k (.agg (thingC t)) (h ++ [.dead, .dead]) := by
  have hF := ref11_Copy_v t sm
  have hll : lendL lendFuel [.agg (thingC t)] (if (idsL [A.agg (thingC t)]).isEmpty = true then [] else h) = some [.agg (thingC t)] := lendL_pure 999 _ _ (by simp)
  have e1 : (oLend ref11_Copy [.agg (thingC t)] h kp fun w h' => oFrz w h' k) = oFrz (.agg (cpRow t h.length (h.length + 1))) (h ++ [.live ⟨1, 2, t.links.map linkC⟩, .live ⟨1, 1, t.data.map (cellC .u8)⟩]) k := by
    unfold oLend
    rw [hll]
    simp only [hF]
    simp [cpRow, giveBack, backIdx, renRow_links, renRow_data, setAll]
  rw [e1]
  have hcells : FrzCells (cpRow t h.length (h.length + 1)) (h ++ [.live ⟨1, 2, t.links.map linkC⟩, .live ⟨1, 1, t.data.map (cellC .u8)⟩])
      (List.map normA [.s (.int .u64 t.id), .s (.int .i64 t.kind), .s (.int .i64 t.label.df), mkF 2 (t.label.cats.map catC), .s (.int .i64 t.clear.df), mkF 2 (t.clear.cats.map catC), .s (.int .i64 t.quota), .s (.int .i64 t.next)] ++ (mkF 2 (t.links.map linkC) :: mkF 1 (t.data.map (cellC .u8)) ::
        List.map normA [.s (.int .u64 t.r0), .s (.int .u64 t.r1), .s (.int .u64 t.r2), .s (.int .u64 t.r3), .s (.int .i64 t.minted), .s (.int .i64 t.boot), .s (.bool t.halted), .s (.int .u64 t.value), .s (.int .u64 t.s0.dir), .s (.int .u64 t.s0.seg), .s (.int .u64 t.s1.dir), .s (.int .u64 t.s1.seg), .s (.int .u64 t.s2.dir), .s (.int .u64 t.s2.seg), .s (.int .u64 t.s3.dir), .s (.int .u64 t.s3.seg)]))
      (((h ++ [Go.Ab.Slot.live ⟨1, 2, t.links.map linkC⟩, Go.Ab.Slot.live ⟨1, 1, t.data.map (cellC .u8)⟩]).set h.length .dead).set (h.length + 1) .dead) := by
    refine .flat _ _ _ _ _ rfl (.flat _ _ _ _ _ rfl (.flat _ _ _ _ _ rfl (.flat _ _ _ _ _ (by simp) (.flat _ _ _ _ _ rfl (.flat _ _ _ _ _ (by simp) (.flat _ _ _ _ _ rfl (.flat _ _ _ _ _ rfl (.own _ 1 2 _ (t.links.map linkC) _ _ _ _ (by simp) (by simp) (pureRows_map _ (fun x => by simp) _)
      (.own _ 1 1 _ (t.data.map (cellC .u8)) _ _ _ _ (by rw [List.getElem?_set_ne (by omega), List.getElem?_append_right (by omega)]; simp) (by simp) (pureRows_map _ (fun x => by simp) _) ?_)))))))))
    repeat (first | exact .nil _ | refine .flat _ _ _ _ _ rfl ?_)
  have hH : ((h ++ [Go.Ab.Slot.live ⟨1, 2, t.links.map linkC⟩, Go.Ab.Slot.live ⟨1, 1, t.data.map (cellC .u8)⟩]).set h.length .dead).set (h.length + 1) .dead = h ++ [.dead, .dead] := by
    rw [List.set_append_right _ _ (by omega), List.set_append_right _ _ (by omega)]; simp
  rw [hH] at hcells
  refine (oFrz_agg hcells (by simp [cpRow, pureA]) (by simp [cpRow]) k).trans ?_
  simp [thingC]
end Go.Ab.T
