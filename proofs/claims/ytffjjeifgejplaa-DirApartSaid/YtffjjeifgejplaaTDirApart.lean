/-
  DirApart: plain.
-/
import Derived.Test.YtffjjeifgejplaaTDirHolds
import Derived.Test.YtffjjeifgejplaaTForm
set_option linter.unusedSimpArgs false
set_option linter.unusedVariables false
namespace Go.Ab.T
open Go Go.Ab Go.Ab.F

def twoC (r : Int × Int) : List A := cellC .i64 r.1 ++ cellC .i64 r.2
@[simp] theorem twoC_len (r : Int × Int) : (twoC r).length = 2 := _root_.id rfl
@[simp] theorem twoC_ne (r : Int × Int) : (twoC r = []) = False := by simp [twoC, cellC]
@[simp] theorem twoC_ids (r : Int × Int) : idsL (twoC r) = [] := _root_.id rfl
@[simp] theorem twoC_pure (r : Int × Int) : pureL (twoC r) = true := by simp [twoC, cellC]
@[simp] theorem twoC_at (r : Int × Int) : cellsAt (some 2) (twoC r) 0 = some (.agg (twoC r)) := _root_.id rfl
@[simp] theorem twoC_0 (r : Int × Int) : (twoC r)[0]? = some (.s (.int .i64 r.1)) := _root_.id rfl
@[simp] theorem twoC_1 (r : Int × Int) : (twoC r)[1]? = some (.s (.int .i64 r.2)) := _root_.id rfl
@[simp] theorem twoC_g0 (r : Int × Int) (h : 0 < (twoC r).length) : (twoC r)[0] = .s (.int .i64 r.1) := _root_.id rfl
@[simp] theorem twoC_g1 (r : Int × Int) (h : 1 < (twoC r).length) : (twoC r)[1] = .s (.int .i64 r.2) := _root_.id rfl
theorem twoC_eq (a b : Int × Int) : eqCells [true, true] (twoC a) (twoC b) = some (decide (a = b)) := by
  obtain ⟨a1, a2⟩ := a; obtain ⟨b1, b2⟩ := b
  by_cases h1 : a1 = b1 <;> by_cases h2 : a2 = b2 <;> simp [twoC, cellC, eqCells, h1, h2]
theorem form_two {P : Program} {d : Nat} {t e : TypeId} (hu : P.underlying t = some (.array 2 e)) (h : Form P d e (cellC .i64) (wfI .i64)) :
    Form P (d + 1) t twoC (fun r => wfI .i64 r.1 ∧ wfI .i64 r.2) := by
  intro cs hg
  simp only [Gd, hu] at hg
  obtain ⟨rows, rfl, hl, hr⟩ := hg
  obtain ⟨xs, rfl, hx⟩ := form_rows h rows hr
  match xs, hl, hx with
  | [a, b], _, hx => exact ⟨(a, b), by simp [twoC], hx a (by simp), hx b (by simp)⟩
theorem okWide_array {P : Program} {w : World} {r : Reach} {base n : Nat} {t e : TypeId} {v : Value} (ht : P.underlying t = some (.array n e)) (h : Value.okWide P w r base t v) : ∃ cs, v = .agg cs ∧ cs.size = P.cellsOf t := by
  simp only [Value.okWide, ht] at h
  obtain ⟨cs, h1, h2, _⟩ := h
  exact ⟨cs, h1, h2⟩

def nextT (id n : Int) : Thing := { smallT id 48 with next := n }
theorem put_next7 (id n : Int) : putCells (thingC (smallT id 48)) 7 [.s (.int .i64 n)] = thingC (nextT id n) := rfl
theorem smallF_call (id q : Int) {β : Type} (n0 : Nat) (wr : List Nat) (h : Heap) (k : A → Heap → Option β) : (oCallF n0 wr law12_small [.s (.int .u64 id), .s (.int .i64 q)] h fun w h' => oFrz w h' k) = k (.agg (thingC (smallT id q))) h := by
  rw [oCallF_val _ _ _ _ _ _ _ (by simp) (by simp [smallRow]) (small_run id q)]
  refine oFrz_agg (l' := thingC (smallT id q)) (H' := h) ?_ (by simp [smallRow, notSlice]) (by simp [smallRow]) k
  have : FrzCells (smallRow id q) h ((smallRow id q).map normA) h := by
    unfold smallRow
    repeat (first | exact .nil _ | refine .flat _ _ _ _ _ rfl ?_)
  exact this
theorem wrap_inj {a b : Int} (ha : wfI .i64 a) (hb : wfI .i64 b) (h : IntKind.u64.wrap a = IntKind.u64.wrap b) : a = b := by
  have ha := wf_i64 ha
  have hb := wf_i64 hb
  have e : ∀ n : Int, IntKind.u64.wrap n = n % 18446744073709551616 := fun n => by simp [IntKind.wrap, IntKind.bits, IntKind.signed]
  rw [e, e] at h
  omega

set_option maxHeartbeats 2000000 in
theorem DirApart_v (a b : Int × Int) (wa : wfI .i64 a.1 ∧ wfI .i64 a.2) (wb : wfI .i64 b.1 ∧ wfI .i64 b.2) : law12_DirApart [.agg (twoC a), .agg (twoC b)] [] = some (.ok (.s (.bool true)), []) := by
  have c1 : ∀ (β : Type) (h : Heap) (kp k : A → Heap → Option β), oLend law12_dirAlive [] h kp k = k (.s (.bool true)) h := fun β h kp k => oLend_val _ _ _ _ _ _ (by simp) (by simp) dirAlive_v
  have cS := fun (id q : Int) (n0 : Nat) (wr : List Nat) (h : Heap) (k : A → Heap → Option (Out × Heap)) => smallF_call id q n0 wr h k
  have dirOf : ∀ (id n : Int), ∃ bb : Bool, law12_directory [.agg (thingC (nextT id n))] [] = some (.ok (.s (.bool bb)), []) ∧ (bb = true → dirRight (nextT id n)) := fun id n => by
    obtain ⟨bb, h1, h2⟩ := directory_v (nextT id n) ⟨by simp [nextT, smallT, bareT], by simp [nextT, smallT, bareT], by simp [nextT, smallT, bareT], by intro n hn; cases hn⟩
    exact ⟨bb, h1, fun h => (h2.1 h).2⟩
  obtain ⟨bx, hbx, hdx⟩ := dirOf (IntKind.u64.wrap a.1) a.2
  obtain ⟨by', hby, hdy⟩ := dirOf (IntKind.u64.wrap b.1) b.2
  have c2 : ∀ (β : Type) (h : Heap) (kp k : A → Heap → Option β), oLend law12_directory [.agg (thingC (nextT (IntKind.u64.wrap a.1) a.2))] h kp k = k (.s (.bool bx)) h := fun β h kp k => oLend_val _ _ _ _ _ _ (by simp) (by simp) hbx
  have c3 : ∀ (β : Type) (h : Heap) (kp k : A → Heap → Option β), oLend law12_directory [.agg (thingC (nextT (IntKind.u64.wrap b.1) b.2))] h kp k = k (.s (.bool by')) h := fun β h kp k => oLend_val _ _ _ _ _ _ (by simp) (by simp) hby
  have f1 : ∀ (β : Type) (h : Heap) (kp k : A → Heap → Option β), oLend dir_Fresh [.agg (thingC (nextT (IntKind.u64.wrap a.1) a.2))] h kp k = k (.tup [.s (.int .u64 (fresh (nextT (IntKind.u64.wrap a.1) a.2)).1), .s (.int .i64 (fresh (nextT (IntKind.u64.wrap a.1) a.2)).2)]) h := fun β h kp k => oLend_val _ _ _ _ _ _ (by simp) (by simp) (dir_Fresh_v _)
  have f2 : ∀ (β : Type) (h : Heap) (kp k : A → Heap → Option β), oLend dir_Fresh [.agg (thingC (nextT (IntKind.u64.wrap b.1) b.2))] h kp k = k (.tup [.s (.int .u64 (fresh (nextT (IntKind.u64.wrap b.1) b.2)).1), .s (.int .i64 (fresh (nextT (IntKind.u64.wrap b.1) b.2)).2)]) h := fun β h kp k => oLend_val _ _ _ _ _ _ (by simp) (by simp) (dir_Fresh_v _)
  let H : Heap := [.live ⟨0, 2, [twoC a]⟩, .live ⟨0, 2, [twoC b]⟩, .live ⟨0, 26, [thingC (nextT (IntKind.u64.wrap a.1) a.2)]⟩, .live ⟨0, 26, [thingC (nextT (IntKind.u64.wrap b.1) b.2)]⟩]
  have hH : H = [.live ⟨0, 2, [twoC a]⟩, .live ⟨0, 2, [twoC b]⟩, .live ⟨0, 26, [thingC (nextT (IntKind.u64.wrap a.1) a.2)]⟩, .live ⟨0, 26, [thingC (nextT (IntKind.u64.wrap b.1) b.2)]⟩] := rfl
  have fin : ∀ bad : Bool, (bad = false → bx = true ∧ by' = true) → law12_DirApart_k2 [] (.ptr 2 0 0 0) (.ptr 3 0 0 0) (.ptr 0 0 0 0) (.ptr 1 0 0 0) .normal [.s (.bool bad)] H = some (.ok (.s (.bool true)), []) := by
    intro bad hbad
    cases bad with
    | true => simp [law12_DirApart_k2, finish_val]
    | false =>
      obtain ⟨rfl, rfl⟩ := hbad rfl
      have rx := hdx rfl
      have ry := hdy rfl
      have ex : ∀ t : Thing, (fresh t).2 ≠ 0 → (fresh t).1 = 0 := fun t h => by
        unfold fresh at h ⊢; split
        · rename_i hc; rw [if_pos hc] at h; exact absurd rfl h
        · rfl
      have fx := ex (nextT (IntKind.u64.wrap a.1) a.2)
      have fy := ex (nextT (IntKind.u64.wrap b.1) b.2)
      by_cases ea : (fresh (nextT (IntKind.u64.wrap a.1) a.2)).2 = 0
      · by_cases eb : (fresh (nextT (IntKind.u64.wrap b.1) b.2)).2 = 0
        · obtain ⟨n1, n2, n3⟩ := fresh_ok rx ea
          obtain ⟨m1, m2, m3⟩ := fresh_ok ry eb
          have i1 := rx.id1; have i2 := ry.id1; have j1 := rx.next1; have j2 := ry.next1
          have e1 : (nextT (IntKind.u64.wrap a.1) a.2).id = IntKind.u64.wrap a.1 := rfl
          have e2 : (nextT (IntKind.u64.wrap a.1) a.2).next = a.2 := rfl
          have e3 : (nextT (IntKind.u64.wrap b.1) b.2).id = IntKind.u64.wrap b.1 := rfl
          have e4 : (nextT (IntKind.u64.wrap b.1) b.2).next = b.2 := rfl
          rw [e1] at n1 n3 i1; rw [e2] at n1 n2 j1; rw [e3] at m1 m3 i2; rw [e4] at m1 m2 j2
          have hab : decide ((fresh (nextT (IntKind.u64.wrap a.1) a.2)).1 = (fresh (nextT (IntKind.u64.wrap b.1) b.2)).1) = decide (a = b) := by
            rw [n1, m1]
            by_cases h : a = b
            · simp [h]
            · have : ¬ (IntKind.u64.wrap a.1 * 64 + a.2 + 1 = IntKind.u64.wrap b.1 * 64 + b.2 + 1) := fun hh => h (by
                have h1 : IntKind.u64.wrap a.1 = IntKind.u64.wrap b.1 := by omega
                have h2 : a.2 = b.2 := by omega
                exact Prod.ext (wrap_inj wa.1 wb.1 h1) h2)
              simp [h, this]
          have g1 : IntKind.u64.wrap a.1 < (fresh (nextT (IntKind.u64.wrap a.1) a.2)).1 := by omega
          have g2 : IntKind.u64.wrap b.1 < (fresh (nextT (IntKind.u64.wrap b.1) b.2)).1 := by omega
          have g3 : (fresh (nextT (IntKind.u64.wrap a.1) a.2)).1 < 281474976710656 := by omega
          simp [law12_DirApart_k2, law12_DirApart_k1, hH, f1, f2, ea, eb, e1, e3, g1, g2, g3, hab, twoC_eq, trim, allBelow, finish_val]
        · have := fy eb
          simp [law12_DirApart_k2, law12_DirApart_k1, hH, f1, f2, ea, eb, this, trim, allBelow, finish_val]
      · have := fx ea
        by_cases eb : (fresh (nextT (IntKind.u64.wrap b.1) b.2)).2 = 0
        · simp [law12_DirApart_k2, law12_DirApart_k1, hH, f1, f2, ea, eb, this, trim, allBelow, finish_val]
        · have h2 := fy eb
          simp [law12_DirApart_k2, law12_DirApart_k1, hH, f1, f2, ea, eb, this, h2, trim, allBelow, finish_val]
  rw [hH] at fin
  have ft := fin true (by simp)
  cases bx with
  | false => simp [law12_DirApart, c1, c2, cS, put_thing, drop_thing, put_next7, oLoadD, oStoreD, Go.Ab.place, wrL, wrA, idTop, trim, allBelow, ft]
  | true =>
    cases by' with
    | false => simp [law12_DirApart, c1, c2, c3, cS, put_thing, drop_thing, put_next7, oLoadD, oStoreD, Go.Ab.place, wrL, wrA, idTop, trim, allBelow, ft]
    | true =>
      have ff := fin false (by simp)
      simp [law12_DirApart, c1, c2, c3, cS, put_thing, drop_thing, put_next7, oLoadD, oStoreD, Go.Ab.place, wrL, wrA, idTop, trim, allBelow, ff]
end Go.Ab.T
