/-
  DirHolds: plain.
-/
import Derived.Test.YtffjjeifgejplaaTDirs
import Derived.Test.YtffjjeifgejplaaTDirBack
set_option linter.unusedSimpArgs false
set_option linter.unusedVariables false
namespace Go.Ab.T
open Go Go.Ab Go.Ab.F

structure Act where
  kind : Int
  quota : Int
  id : Int
def actC (t : Act) : List A := [.s (.int .i64 t.kind), .s (.int .i64 t.quota), .s (.int .u64 t.id)]
@[simp] theorem actC_len (t : Act) : (actC t).length = 3 := _root_.id rfl
@[simp] theorem actC_ids (t : Act) : idsL (actC t) = [] := _root_.id rfl
@[simp] theorem actC_pure (t : Act) : pureL (actC t) = true := by simp [actC]
@[simp] theorem actC_at (t : Act) : cellsAt (some 3) (actC t) 0 = some (.agg (actC t)) := _root_.id rfl
@[simp] theorem actC_0 (t : Act) : (actC t)[0]? = some (.s (.int .i64 t.kind)) := _root_.id rfl
@[simp] theorem actC_1 (t : Act) : (actC t)[1]? = some (.s (.int .i64 t.quota)) := _root_.id rfl
@[simp] theorem actC_2 (t : Act) : (actC t)[2]? = some (.s (.int .u64 t.id)) := _root_.id rfl
@[simp] theorem actC_g0 (t : Act) (h : 0 < (actC t).length) : (actC t)[0] = .s (.int .i64 t.kind) := _root_.id rfl
@[simp] theorem actC_g1 (t : Act) (h : 1 < (actC t).length) : (actC t)[1] = .s (.int .i64 t.quota) := _root_.id rfl
@[simp] theorem actC_g2 (t : Act) (h : 2 < (actC t).length) : (actC t)[2] = .s (.int .u64 t.id) := _root_.id rfl

/-! what the links use -/
def sumQ (ls : List Link) : Int := (ls.map Link.quota).sum
theorem fold_sum : ∀ (ls : List Link) (n : Int), (∀ l ∈ ls, 0 ≤ l.quota ∧ l.quota ≤ 48) → 0 ≤ n → n + 48 * ls.length < 1000000 → ls.foldl (fun n l => IntKind.i64.wrap (n + l.quota)) n = n + sumQ ls ∧ 0 ≤ sumQ ls ∧ sumQ ls ≤ 48 * ls.length
  | [], n, _, _, _ => by simp [sumQ]
  | l :: ls, n, h, h0, h1 => by
    have hl := h l (by simp)
    simp only [List.length_cons] at h1
    have hw : IntKind.i64.wrap (n + l.quota) = n + l.quota := wrap64_id (by omega) (by omega)
    obtain ⟨e1, e2, e3⟩ := fold_sum ls (n + l.quota) (fun x hx => h x (by simp [hx])) (by omega) (by omega)
    simp only [List.foldl_cons, hw, e1, sumQ, List.map_cons, List.sum_cons, List.length_cons] at *
    omega
theorem goodL.mem {ls : List Link} (h : goodL ls) : ∀ l ∈ ls, 1 ≤ l.id ∧ l.id < 281474976710656 ∧ 1 ≤ l.quota ∧ l.quota ≤ 48 := by
  intro l hl
  obtain ⟨i, hi, rfl⟩ := List.mem_iff_getElem.1 hl
  have := h i _ (List.getElem?_eq_getElem hi)
  exact ⟨this.1, this.2.1, this.2.2.1, this.2.2.2.1⟩
theorem goodL.len {ls : List Link} (h : goodL ls) : ls.length ≤ 16 := by
  apply Classical.byContradiction
  intro hc
  have := (h 16 (ls[16]'(by omega)) (List.getElem?_eq_getElem (by omega))).2.2.2.2.2
  omega
theorem goodL.mk {ls : List Link} (h : ∀ l ∈ ls, 1 ≤ l.id ∧ l.id < 281474976710656 ∧ 1 ≤ l.quota ∧ l.quota ≤ 48) (hs : sortedL ls) (hl : ls.length ≤ 16) : goodL ls := by
  intro j l hj
  obtain ⟨hlt, rfl⟩ := List.getElem?_eq_some_iff.1 hj
  have := h _ (List.getElem_mem hlt)
  refine ⟨this.1, this.2.1, this.2.2.1, this.2.2.2, fun h0 p hp => ?_, by omega⟩
  exact hs (j - 1) p _ hp (by rw [Nat.sub_add_cancel h0]; exact hj)
theorem used_sum {t : Thing} (h : goodL t.links) : used t = 1 + sumQ t.links ∧ 0 ≤ sumQ t.links ∧ sumQ t.links ≤ 768 := by
  have hl := h.len
  obtain ⟨e1, e2, e3⟩ := fold_sum t.links 1 (fun l hl => by have := h.mem l hl; omega) (by omega) (by omega)
  exact ⟨e1, e2, by omega⟩
theorem sumQ_append (a b : List Link) : sumQ (a ++ b) = sumQ a + sumQ b := by simp [sumQ]
theorem sumQ_add (ls : List Link) (id q : Int) : sumQ (addLinks ls id q) = sumQ ls + q := by
  have h : sumQ ls = sumQ (ls.take (place ls id)) + sumQ (ls.drop (place ls id)) := by rw [← sumQ_append, List.take_append_drop]
  rw [addLinks, sumQ_append, h]
  simp [sumQ]; omega
theorem dropLinks_sub (ls : List Link) (id : Int) : (dropLinks ls id).Sublist ls := by
  have h : (ls.drop (place ls id + 1)).Sublist (ls.drop (place ls id)) := by
    rw [← List.drop_drop]; exact List.drop_sublist _ _
  have := List.Sublist.append (List.Sublist.refl (ls.take (place ls id))) h
  rwa [List.take_append_drop] at this
theorem sumQ_sub {a b : List Link} (h : a.Sublist b) : (∀ l ∈ b, 0 ≤ l.quota) → sumQ a ≤ sumQ b := by
  induction h with
  | slnil => intro _; simp
  | cons x _ ih => intro hb; have := hb x (by simp); have := ih fun l hl => hb l (by simp [hl]); simp only [sumQ, List.map_cons, List.sum_cons] at *; omega
  | cons_cons x _ ih => intro hb; have := ih fun l hl => hb l (by simp [hl]); simp only [sumQ, List.map_cons, List.sum_cons] at *; omega
theorem addLinks_good {ls : List Link} (h : goodL ls) (hl : ls.length < 16) {id q : Int} (hn : has ls id = false) (i1 : 1 ≤ id) (i2 : id < 281474976710656) (q1 : 1 ≤ q) (q2 : q ≤ 48) : goodL (addLinks ls id q) := by
  refine .mk (fun l hm => ?_) (addLinks_sorted (goodL_sorted h) q hn) (by rw [addLinks_len]; omega)
  rw [addLinks, List.mem_append, List.mem_cons] at hm
  rcases hm with hm | rfl | hm
  · exact h.mem l (List.mem_of_mem_take hm)
  · exact ⟨i1, i2, q1, q2⟩
  · exact h.mem l (List.mem_of_mem_drop hm)
theorem dropLinks_good {ls : List Link} (h : goodL ls) (id : Int) : goodL (dropLinks ls id) :=
  .mk (fun l hm => h.mem l ((dropLinks_sub ls id).subset hm)) (sorted_of ((pairwise_of (goodL_sorted h)).sublist (dropLinks_sub ls id))) (Nat.le_trans (dropLinks_sub ls id).length_le h.len)
theorem dropLinks_has {ls : List Link} (hs : sortedL ls) (id : Int) : has (dropLinks ls id) id = false := by
  rw [has, Option.isSome_eq_false_iff, Option.isNone_iff_eq_none, List.find?_eq_none]
  intro l hl
  rw [dropLinks, List.mem_append] at hl
  rcases hl with hl | hl
  · have := take_lt hs id l hl; simp; omega
  · have hp := pairwise_of hs
    obtain ⟨j, hj, rfl⟩ := List.mem_iff_getElem.1 hl
    rw [List.length_drop] at hj
    have hpl : place ls id < ls.length := by omega
    have h1 := List.pairwise_iff_getElem.1 hp (place ls id) (place ls id + 1 + j) hpl (by omega) (by omega)
    have h2 : ¬ ls[place ls id].id < id := fun hlt => by
      have := (place_lt hs id _ _ (List.getElem?_eq_getElem hpl)).1 hlt
      omega
    rw [List.getElem_drop]
    simp; omega

/-! what stays right -/
theorem dirRight.t1 {t : Thing} (h : dirRight t) : okT1 t := by
  have h1 := lr_len _ h.label
  have hb := h.bare
  have hc : t.clear = ⟨0, []⟩ := congrArg Thing.clear hb
  have hd : t.data = [] := congrArg Thing.data hb
  have hl := h.len
  exact ⟨by omega, by simp [hc], by omega, by rw [hd]; intro n hn; cases hn⟩
theorem dirRight.with {t : Thing} (h : dirRight t) {ls : List Link} (hg : goodL ls) {n : Int} (n0 : 0 ≤ n) (n1 : n ≤ 63) (hu : 1 + sumQ ls ≤ t.quota) : dirRight { withLinks t ls with next := n } := by
  refine ⟨h.id1, h.id2, h.label, h.pure, hg, h.quota1, h.quota2, ?_, n0, n1, ?_⟩
  · rw [(used_sum (t := { withLinks t ls with next := n }) hg).1]; exact hu
  · exact h.bare
theorem dirRight.withL {t : Thing} (h : dirRight t) {ls : List Link} (hg : goodL ls) (hu : 1 + sumQ ls ≤ t.quota) : dirRight (withLinks t ls) :=
  h.with hg h.next1 h.next2 hu

theorem addErr_ok {t : Thing} (h : dirRight t) {id q : Int} (e : addErr t id q = 0) : has t.links id = false ∧ t.links.length < 16 ∧ 1 ≤ q ∧ q ≤ t.quota - used t := by
  have hu := used_sum h.links
  have hq2 := h.quota2
  have hq1 := h.quota1
  have hr := h.room
  have hw : IntKind.i64.wrap (t.quota - used t) = t.quota - used t := wrap64_id (by omega) (by omega)
  unfold addErr at e
  rw [hw] at e
  split at e
  · simp at e
  · rename_i h1
    split at e
    · simp at e
    · split at e
      · simp at e
      · rename_i h2 h3
        exact ⟨by simpa using h1, by omega, by omega, by omega⟩
theorem add_right {t : Thing} (h : dirRight t) {id q : Int} (e : addErr t id q = 0) (i1 : 1 ≤ id) (i2 : id < 281474976710656) {n : Int} (n0 : 0 ≤ n) (n1 : n ≤ 63) :
    dirRight { withLinks t (addLinks t.links id q) with next := n } ∧ used { withLinks t (addLinks t.links id q) with next := n } = IntKind.i64.wrap (used t + q) := by
  obtain ⟨e1, e2, e3, e4⟩ := addErr_ok h e
  have hu := used_sum h.links
  have hq2 := h.quota2
  have hg : goodL (addLinks t.links id q) := addLinks_good h.links e2 e1 i1 i2 e3 (by omega)
  have hs := sumQ_add t.links id q
  refine ⟨h.with hg n0 n1 (by omega), ?_⟩
  rw [(used_sum (t := { withLinks t (addLinks t.links id q) with next := n }) hg).1, wrap64_id (by omega) (by omega)]
  show 1 + sumQ (addLinks t.links id q) = _
  omega
theorem drop_right {t : Thing} (h : dirRight t) (id : Int) : dirRight (drop t id) ∧ (drop t id).kind = t.kind ∧ (drop t id).id = t.id ∧ (drop t id).quota = t.quota ∧ (drop t id).next = t.next ∧ has (drop t id).links id = false := by
  unfold drop
  split
  · have hs := sumQ_sub (dropLinks_sub t.links id) fun l hl => by have := h.links.mem l hl; omega
    have hu := used_sum h.links
    have hr := h.room
    exact ⟨h.withL (dropLinks_good h.links id) (by omega), rfl, rfl, rfl, rfl, dropLinks_has (goodL_sorted h.links) id⟩
  · rename_i hh
    exact ⟨h, rfl, rfl, rfl, rfl, by simpa using hh⟩
theorem fresh_ok {t : Thing} (h : dirRight t) (hf : (fresh t).2 = 0) : (fresh t).1 = t.id * 64 + t.next + 1 ∧ t.next < 63 ∧ t.id < 4398046511104 := by
  have h1 := h.id1; have h2 := h.id2; have h3 := h.next1; have h4 := h.next2
  unfold fresh at hf ⊢
  split at hf
  · rename_i hc
    have := hc.2
    rw [if_pos hc]
    refine ⟨?_, hc.1, hc.2⟩
    show IntKind.u64.wrap (IntKind.u64.wrap (IntKind.u64.wrap (t.id * 64) + IntKind.u64.wrap t.next) + 1) = t.id * 64 + t.next + 1
    rw [wrap_u64 (n := t.id * 64) (by omega) (by omega), wrap_u64 (n := t.next) (by omega) (by omega), wrap_u64 (n := t.id * 64 + t.next) (by omega) (by omega), wrap_u64 (by omega) (by omega)]
  · simp at hf

/-! the walk -/
/-- What holds ahead of each act. -/
structure HI (id q : Int) (i : Nat) (d : Thing) (bs : List Int) : Prop where
  right : dirRight d
  kind : d.kind = 1
  did : d.id = id
  dq : d.quota = q
  bl : bs.length ≤ i
  bnd : ∀ x ∈ bs, x ≤ d.id * 64 + d.next

def hp2 (d : Thing) (bs : List Int) (ver : Nat) : Heap := [.live ⟨0, 26, [thingC d]⟩, .live ⟨ver, 1, bs.map (cellC .u64)⟩]

theorem dir_call {d : Thing} (h : dirRight d) (hk : d.kind = 1) {β : Type} (H : Heap) (kp k : A → Heap → Option β) : oLend law12_directory [.agg (thingC d)] H kp k = k (.s (.bool true)) H := by
  obtain ⟨b, hb, hd⟩ := directory_v d h.t1
  obtain rfl : b = true := hd.2 ⟨hk, h⟩
  exact oLend_val _ _ _ _ _ _ (by simp) (by simp) hb
theorem used_call {d : Thing} (h : dirRight d) {β : Type} (H : Heap) (kp k : A → Heap → Option β) : oLend dir_Used [.agg (thingC d)] H kp k = k (.s (.int .i64 (used d))) H :=
  oLend_val _ _ _ _ _ _ (by simp) (by simp) (dir_Used_v d h.t1.links)
theorem used_callF {d : Thing} (h : dirRight d) {β : Type} (n0 : Nat) (wr : List Nat) (H : Heap) (k : A → Heap → Option β) : oCallF n0 wr dir_Used [.agg (thingC d)] H k = k (.s (.int .i64 (used d))) H :=
  oCallF_val _ _ _ _ _ _ _ (by simp) (by simp) (dir_Used_v d h.t1.links)
theorem has_call {d : Thing} (h : dirRight d) (id : Int) {β : Type} (H : Heap) (kp k : A → Heap → Option β) : oLend dir_Has [.agg (thingC d), .s (.int .u64 id)] H kp k = k (.s (.bool (has d.links id))) H :=
  oLend_val _ _ _ _ _ _ (by simp) (by simp) (dir_Has_v d id h.t1.links (goodL_sorted h.links))
theorem has_callF {d : Thing} (h : dirRight d) (id : Int) {β : Type} (n0 : Nat) (wr : List Nat) (H : Heap) (k : A → Heap → Option β) : oCallF n0 wr dir_Has [.agg (thingC d), .s (.int .u64 id)] H k = k (.s (.bool (has d.links id))) H :=
  oCallF_val _ _ _ _ _ _ _ (by simp) (by simp) (dir_Has_v d id h.t1.links (goodL_sorted h.links))
theorem born_call {d : Thing} (h : dirRight d) (q : Int) {β : Type} (H : Heap) (kp k : A → Heap → Option β) : (oLend dir_Born [.agg (thingC d), .s (.int .i64 q)] H kp fun w h' => oFrz w h' k) = k (.tup [.agg (thingC (born d q).1), .s (.int .u64 (born d q).2.1), .s (.int .i64 (born d q).2.2)]) H :=
  val_call _ _ _ H kp k (by simp) (by simp) (by simp) (dir_Born_v d q h.small (goodL_sorted h.links))

theorem put_thing (row : List A) (t : Thing) (h : row.length = 26) : putCells row 0 (thingC t) = thingC t := by
  simp [putCells, List.drop_eq_nil_of_le, h]
theorem put_act (row : List A) (t : Act) (h : row.length = 3) : putCells row 0 (actC t) = actC t := by
  simp [putCells, List.drop_eq_nil_of_le, h]

theorem drop_thing (t : Thing) : List.drop 26 (thingC t) = [] := rfl
theorem drop_act (t : Act) : List.drop 3 (actC t) = [] := rfl
theorem app_name (n : Int) (bs : List Int) (ver : Nat) (s0 s2 s3 : Go.Ab.Slot) (hap : appendOk (bs.length + 1) 8) {β : Type} (k : A → Heap → Option β) :
    oAppend none 1 8 (.osl 1 ver 1 0 bs.length) (.osl 4 0 1 0 1) [s0, .live ⟨ver, 1, bs.map (cellC .u64)⟩, s2, s3, .live ⟨0, 1, [[.s (.int .u64 n)]]⟩] k =
      k (.osl 1 (ver + 1) 1 0 (bs.length + 1)) [s0, .live ⟨ver + 1, 1, (bs ++ [n]).map (cellC .u64)⟩, s2, s3, .live ⟨0, 1, [[.s (.int .u64 n)]]⟩] := by
  simp [oAppend_osl, rowsOf_osl, hap, List.take_of_length_le, cellC]

/-- What is asked after an act. -/
theorem Holds_check {id q : Int} {d : Thing} (h : dirRight d) (hk : d.kind = 1) (hi : d.id = id) (hq : d.quota = q) (bs : List Int) (ver : Nat) (r : Go.Ab.Slot) (s31 : List A × Heap) (hs : s31.2.length = 2) :
    law12_DirHolds_k10 (.ptr 0 0 0 0) (.s (.int .i64 q)) (.s (.int .u64 id)) s31 .normal [.any, .osl 1 ver 1 0 bs.length] (hp2 d bs ver ++ [r]) = some (.normal, [.any, .osl 1 ver 1 0 bs.length], hp2 d bs ver) := by
  have hr : ¬ q < used d := by have := h.room; omega
  subst hi; subst hq
  have c1 := fun (H : Heap) (kp k : A → Heap → Option (Ex × List A × Heap)) => dir_call h hk H kp k
  have c2 := fun (H : Heap) (kp k : A → Heap → Option (Ex × List A × Heap)) => used_call h H kp k
  simp [law12_DirHolds_k10, law12_DirHolds_k9, hp2, c1, c2, hs, hr, trim, allBelow, idsRows_map _ (cellC_ids .u64)]

def hst (d : Thing) (bs : List Int) (ver i : Nat) : List A × Heap := ([.osl 1 ver 1 0 bs.length, .s (.int .i64 i)], hp2 d bs ver)
def hlp (acts : List Act) (id q : Int) (h29 : Heap) : List A × Heap → Option ((List A × Heap) ⊕ (Ex × List A × Heap)) :=
  law12_DirHolds_l12 (.s (.int .i64 acts.length)) (mkF 3 (acts.map actC)) (.ptr 0 0 0 0) (.s (.int .u64 id)) (.s (.int .i64 q)) h29

theorem HI.up {id q : Int} {i : Nat} {d : Thing} {bs : List Int} (h : HI id q i d bs) : HI id q (i + 1) d bs := ⟨h.right, h.kind, h.did, h.dq, by have := h.bl; omega, h.bnd⟩

/-- The search among the names. -/
theorem Holds_names (n : Int) (bs : List Int) (ver : Nat) (hno : ∀ x ∈ bs, x ≠ n) (d : Thing) (r1 r2 : Go.Ab.Slot) (i1 : r1.ids = []) (y : A) (hh : Heap) (h58 : Heap) (hl : h58 = hp2 d bs ver ++ [r1, r2]) (i2 : r2.ids = []) (hb : bs.length < 2 ^ 63) {β : Type} (k : Ex → List A → Heap → Option β) :
    oLoop (law12_DirHolds_l1 (.s (.int .i64 bs.length)) ([.osl 1 ver 1 0 bs.length, y], hh) (.s (.int .u64 n)) h58) ([.s (.int .i64 0)], h58) k = k (.exit 3) [.any] h58 := by
  subst hl
  refine (oLoop_find (enc := fun i => ([.s (.int .i64 i)], hp2 d bs ver ++ [r1, r2])) (fun x : Int => x == n) (fun x => (.ret, [.s (.bool false)], hp2 d bs ver ++ [r1, r2])) (.exit 3, [.any], hp2 d bs ver ++ [r1, r2]) bs (by simp) hb ?_ ?_).trans ?_
  · intro i x hx hi
    have hix := fun (k : A → Option ((List A × Heap) ⊕ (Ex × List A × Heap))) => idx_own (cellC .u64) (hp2 d bs ver ++ [r1, r2]) 1 ver 1 bs.length bs none (.s (.int .u64 x)) i x .i64 rfl (by simp [hp2]) hx rfl k
    have hw := wrap_succ hi hb
    simp only [law12_DirHolds_l1, List.getD_cons_zero, oCmp_s, cmpInt_lss, if_true, oCond_s]
    rw [if_pos (by simpa using hi), hix]
    by_cases hxn : x = n <;> simp [hxn, hw, trim, allBelow, hp2, i1, i2, idsRows_map _ (cellC_ids .u64)]
  · simp [law12_DirHolds_l1, trim, allBelow, hp2, i1, i2, idsRows_map _ (cellC_ids .u64)]
  · have : bs.find? (fun x => x == n) = none := by
      rw [List.find?_eq_none]; intro x hx; simpa using hno x hx
    rw [this]

set_option maxHeartbeats 2000000 in
theorem Holds_step {id q : Int} {i : Nat} {d : Thing} {bs : List Int} (acts : List Act) (h : HI id q i d bs) (ver : Nat) (hi : i < acts.length) (hl : acts.length ≤ 200) (h29 : Heap) (h2 : h29.length = 2) :
    ∃ d' bs' ver', hlp acts id q h29 (hst d bs ver i) = some (.inl (hst d' bs' ver' (i + 1))) ∧ HI id q (i + 1) d' bs' := by
  have hx : acts[i]? = some acts[i] := List.getElem?_eq_getElem hi
  generalize acts[i] = a at hx
  have hw := wrap_succ hi (by omega)
  have hbl := h.bl
  have hr := h.right
  have did := h.did
  have dq := h.dq
  have hix : ∀ (β : Type) (k : A → Option β), oIdxA 3 (mkF 3 (acts.map actC)) (.s (.int .i64 i)) k = k (.cptr (actC a)) := fun β k => oIdxA_mkF 3 actC acts .i64 i a k hx
  have cU := fun (β : Type) (H : Heap) (kp k : A → Heap → Option β) => used_call hr H kp k
  have hchk : ∀ (d' : Thing) (bs' : List Int) (ver' : Nat) (r : Go.Ab.Slot), dirRight d' → d'.kind = 1 → d'.id = id → d'.quota = q → law12_DirHolds_k10 (.ptr 0 0 0 0) (.s (.int .i64 q)) (.s (.int .u64 id)) (hst d bs ver i) .normal [.any, .osl 1 ver' 1 0 bs'.length] (hp2 d' bs' ver' ++ [r]) = some (.normal, [.any, .osl 1 ver' 1 0 bs'.length], hp2 d' bs' ver') :=
    fun d' bs' ver' r e1 e2 e3 e4 => Holds_check e1 e2 e3 e4 bs' ver' r _ rfl
  simp only [hp2, hst, List.cons_append, List.nil_append] at hchk
  have hcell : ∀ bs : List Int, idsRows (bs.map (cellC .u64)) = [] := idsRows_map _ (cellC_ids .u64)
  by_cases k0 : a.kind = 0
  · have cB := fun (H : Heap) (kp k : A → Heap → Option (Ex × List A × Heap)) => born_call hr a.quota H kp k
    by_cases e1 : (fresh d).2 = 0 ∧ addErr d (fresh d).1 a.quota = 0
    · obtain ⟨e1, e2⟩ := e1
      obtain ⟨f1, f2, f3⟩ := fresh_ok hr e1
      have n1 := hr.next1
      have i1 := hr.id1
      have hwn : IntKind.i64.wrap (d.next + 1) = d.next + 1 := wrap64_id (by omega) (by omega)
      obtain ⟨hR, hU⟩ := add_right hr e2 (by omega) (by omega) (n := d.next + 1) (by omega) (by omega)
      have hb : born d a.quota = ({ withLinks d (addLinks d.links (fresh d).1 a.quota) with next := d.next + 1 }, (fresh d).1, 0) := by simp [born, e1, e2, add, hwn]
      rw [hb] at cB
      have hH : has ({ withLinks d (addLinks d.links (fresh d).1 a.quota) with next := d.next + 1 } : Thing).links (fresh d).1 = true := addLinks_has _ _ _
      have hbd : ∀ x ∈ bs, x ≠ (fresh d).1 := fun x hx => by have := h.bnd x hx; omega
      have hq64 : (fresh d).1.tdiv 64 = id := by rw [f1, Int.tdiv_eq_ediv_of_nonneg (by omega)]; omega
      generalize hd' : ({ withLinks d (addLinks d.links (fresh d).1 a.quota) with next := d.next + 1 } : Thing) = d' at *
      have g1 : d'.kind = 1 := by subst hd'; exact h.kind
      have g2 : d'.id = id := by subst hd'; exact did
      have g3 : d'.quota = q := by subst hd'; exact dq
      have g4 : d'.next = d.next + 1 := by subst hd'; rfl
      generalize (fresh d).1 = n at *
      have cU1 := fun (n0 : Nat) (wr : List Nat) (H : Heap) (k : A → Heap → Option (Ex × List A × Heap)) => used_callF hR n0 wr H k
      have cH1 := fun (n0 : Nat) (wr : List Nat) (H : Heap) (k : A → Heap → Option (Ex × List A × Heap)) => has_callF hR n n0 wr H k
      have hN := fun (k : Ex → List A → Heap → Option (Ex × List A × Heap)) => Holds_names n bs ver hbd d (.live ⟨0, 3, [actC a]⟩) (.live ⟨0, 26, [thingC d']⟩) rfl (.s (.int .i64 i)) (hp2 d bs ver) _ rfl rfl (by omega) k
      refine ⟨d', bs ++ [n], ver + 1, ?_, ⟨hR, g1, g2, g3, by simp; omega, fun x hx => ?_⟩⟩
      · have hc := hchk d' (bs ++ [n]) (ver + 1) (.live ⟨0, 3, [actC a]⟩) hR g1 g2 g3
        have hcell2 : idsRows (bs.map (cellC .u64) ++ [cellC .u64 n]) = [] := by have := hcell (bs ++ [n]); rwa [List.map_append] at this
        have hap : appendOk (bs.length + 1) 8 := by constructor <;> omega
        have hwid : IntKind.u64.wrap id = id := wrap_u64 (by omega) (by omega)
        have happ := fun (s0 s2 s3 : Go.Ab.Slot) (k : A → Heap → Option (Ex × List A × Heap)) => app_name n bs ver s0 s2 s3 hap k
        simp only [List.length_append, List.length_cons, List.length_nil, List.map_append, List.map_cons, List.map_nil] at hc happ
        simp only [hp2, hst, List.cons_append, List.nil_append] at hN
        simp [hlp, hst, law12_DirHolds_l12, law12_DirHolds_k11, law12_DirHolds_k4, law12_DirHolds_k3, law12_DirHolds_k2, hp2, hi, hix, cU, cB, hN, cU1, cH1, hH, hU, happ, hcell2, hq64, hwid, k0, trim, allBelow, drop_thing, drop_act, put_thing, put_act, h2, hw, hcell, hc, oLoadD]
      · rcases List.mem_append.1 hx with hx | hx
        · have := h.bnd x hx; omega
        · simp at hx; omega
    · have hb : ∃ e, e ≠ 0 ∧ born d a.quota = (d, 0, e) := by
        by_cases c1 : (fresh d).2 = 0
        · exact ⟨_, fun h2 => e1 ⟨c1, h2⟩, by simp [born, c1]; intro h2; exact absurd ⟨c1, h2⟩ e1⟩
        · exact ⟨_, c1, by simp [born, c1]⟩
      obtain ⟨e, he, hb⟩ := hb
      rw [hb] at cB
      refine ⟨d, bs, ver, ?_, h.up⟩
      have hc := hchk d bs ver (.live ⟨0, 3, [actC a]⟩) hr h.kind did dq
      simp [hlp, hst, law12_DirHolds_l12, law12_DirHolds_k11, law12_DirHolds_k4, hp2, hi, hix, cU, cB, he, k0, trim, allBelow, drop_thing, drop_act, put_thing, put_act, h2, hw, hcell, hc]
  by_cases k1 : a.kind = 1
  · by_cases i1 : a.id < 1
    · refine ⟨d, bs, ver, ?_, h.up⟩
      simp [hlp, hst, law12_DirHolds_l12, law12_DirHolds_k11, law12_DirHolds_k10, law12_DirHolds_k7, law12_DirHolds_k5, hp2, hi, hix, cU, k0, k1, i1, trim, allBelow, drop_thing, drop_act, put_thing, put_act, h2, hw, hcell]
    by_cases i2 : 281474976710656 ≤ a.id
    · refine ⟨d, bs, ver, ?_, h.up⟩
      simp [hlp, hst, law12_DirHolds_l12, law12_DirHolds_k11, law12_DirHolds_k10, law12_DirHolds_k7, law12_DirHolds_k5, hp2, hi, hix, cU, k0, k1, i1, i2, trim, allBelow, drop_thing, drop_act, put_thing, put_act, h2, hw, hcell]
    obtain ⟨ex, hex, hA⟩ := Add_call d a.id a.quota hr.small (goodL_sorted hr.links)
    have hA' := fun (H : Heap) (kp k : A → Heap → Option (Ex × List A × Heap)) => hA H kp k
    rcases hex with ⟨rfl, he⟩ | ⟨rfl, he⟩
    · have hx : add d a.id a.quota = d := by simp [add, he]
      rw [hx] at hA'
      refine ⟨d, bs, ver, ?_, h.up⟩
      have hc := hchk d bs ver (.live ⟨0, 3, [actC a]⟩) hr h.kind did dq
      simp [hlp, hst, law12_DirHolds_l12, law12_DirHolds_k11, law12_DirHolds_k7, law12_DirHolds_k6, law12_DirHolds_k5, hp2, hi, hix, cU, hA', he, k0, k1, i1, i2, trim, allBelow, drop_thing, drop_act, put_thing, put_act, h2, hw, hcell, hc]
    · obtain ⟨hR, hU⟩ := add_right hr he (by omega) (by omega) (n := d.next) hr.next1 hr.next2
      have hx : add d a.id a.quota = { withLinks d (addLinks d.links a.id a.quota) with next := d.next } := by simp [add, he]; rfl
      rw [hx] at hA'
      have hH : has ({ withLinks d (addLinks d.links a.id a.quota) with next := d.next } : Thing).links a.id = true := addLinks_has _ _ _
      generalize hd' : ({ withLinks d (addLinks d.links a.id a.quota) with next := d.next } : Thing) = d' at *
      have g1 : d'.kind = 1 := by subst hd'; exact h.kind
      have g2 : d'.id = id := by subst hd'; exact did
      have g3 : d'.quota = q := by subst hd'; exact dq
      have g4 : d'.next = d.next := by subst hd'; rfl
      have cU1 := fun (n0 : Nat) (wr : List Nat) (H : Heap) (k : A → Heap → Option (Ex × List A × Heap)) => used_callF hR n0 wr H k
      have cH1 := fun (n0 : Nat) (wr : List Nat) (H : Heap) (k : A → Heap → Option (Ex × List A × Heap)) => has_callF hR a.id n0 wr H k
      refine ⟨d', bs, ver, ?_, ⟨hR, g1, g2, g3, by omega, fun x hx => by have := h.bnd x hx; omega⟩⟩
      have hc := hchk d' bs ver (.live ⟨0, 3, [actC a]⟩) hR g1 g2 g3
      simp [hlp, hst, law12_DirHolds_l12, law12_DirHolds_k11, law12_DirHolds_k7, law12_DirHolds_k6, law12_DirHolds_k5, hp2, hi, hix, cU, hA', cU1, cH1, hH, hU, he, k0, k1, i1, i2, trim, allBelow, drop_thing, drop_act, put_thing, put_act, h2, hw, hcell, hc, dead4, oLoadD]
  by_cases k2 : a.kind = 2
  · obtain ⟨ex, hex, hA⟩ := Drop_call d a.id hr.small (goodL_sorted hr.links)
    have hA' := fun (H : Heap) (kp k : A → Heap → Option (Ex × List A × Heap)) => hA H kp k
    obtain ⟨hR, g1, g2, g3, g4, hH⟩ := drop_right hr a.id
    have hE : decide (dropErr d a.id = 0) = has d.links a.id := by unfold dropErr; split <;> simp_all
    generalize drop d a.id = d' at *
    rw [h.kind] at g1; rw [did] at g2; rw [dq] at g3
    have cH0 := fun (H : Heap) (kp k : A → Heap → Option (Ex × List A × Heap)) => has_call hr a.id H kp k
    have cH1 := fun (H : Heap) (kp k : A → Heap → Option (Ex × List A × Heap)) => has_call hR a.id H kp k
    rw [hH] at cH1
    refine ⟨d', bs, ver, ?_, ⟨hR, g1, g2, g3, by omega, fun x hx => by have := h.bnd x hx; omega⟩⟩
    have hc := hchk d' bs ver (.live ⟨0, 3, [actC a]⟩) hR g1 g2 g3
    rcases hex with rfl | rfl
    · simp [hlp, hst, law12_DirHolds_l12, law12_DirHolds_k11, law12_DirHolds_k8, hp2, hi, hix, cU, hA', cH0, cH1, hE, k0, k1, k2, trim, allBelow, drop_thing, drop_act, put_thing, put_act, h2, hw, hcell, hc]
    · simp [hlp, hst, law12_DirHolds_l12, law12_DirHolds_k11, law12_DirHolds_k8, hp2, hi, hix, cU, hA', cH0, cH1, hE, k0, k1, k2, trim, allBelow, drop_thing, drop_act, put_thing, put_act, h2, hw, hcell, hc, dead4]
  refine ⟨d, bs, ver, ?_, h.up⟩
  have hc := hchk d bs ver (.live ⟨0, 3, [actC a]⟩) hr h.kind did dq
  simp [hlp, hst, law12_DirHolds_l12, law12_DirHolds_k11, hp2, hi, hix, cU, k0, k1, k2, trim, allBelow, drop_thing, drop_act, put_thing, put_act, h2, hw, hcell, hc]

def okAct (a : Act) : Prop := (Lit.int .i64 a.kind).wf = true ∧ (Lit.int .i64 a.quota).wf = true ∧ (Lit.int .u64 a.id).wf = true
def smallT (id q : Int) : Thing := bareT id 1 ⟨2, []⟩ q
def smallRow (id q : Int) : List A := [.s (.int .u64 id), .s (.int .i64 1), .s (.int .i64 2), .s (.slice none 0 0), .s (.int .i64 0), .s (.slice none 0 0), .s (.int .i64 q), .s (.int .i64 0), .s (.slice none 0 0), .s (.slice none 0 0), .s (.int .u64 0), .s (.int .u64 0), .s (.int .u64 0), .s (.int .u64 0), .s (.int .i64 0), .s (.int .i64 0), .s (.bool false), .s (.int .u64 0), .s (.int .u64 0), .s (.int .u64 0), .s (.int .u64 0), .s (.int .u64 0), .s (.int .u64 0), .s (.int .u64 0), .s (.int .u64 0), .s (.int .u64 0)]
theorem small_run (id q : Int) : law12_small [.s (.int .u64 id), .s (.int .i64 q)] [] = some (.ok (.agg (smallRow id q)), []) := by
  simp [law12_small, putCells, smallRow, finish_val, cellsAt]
theorem small_call (id q : Int) {β : Type} (h : Heap) (kp k : A → Heap → Option β) : (oLend law12_small [.s (.int .u64 id), .s (.int .i64 q)] h kp fun w h' => oFrz w h' k) = k (.agg (thingC (smallT id q))) h := by
  rw [oLend_val _ _ _ _ _ _ (by simp) (by simp [smallRow]) (small_run id q)]
  refine oFrz_agg (l' := thingC (smallT id q)) (H' := h) ?_ (by simp [smallRow, notSlice]) (by simp [smallRow]) k
  have : FrzCells (smallRow id q) h ((smallRow id q).map normA) h := by
    unfold smallRow
    repeat (first | exact .nil _ | refine .flat _ _ _ _ _ rfl ?_)
  exact this
theorem DirHolds_v (id q : Int) (acts : List Act) (w1 : (Lit.int .u64 id).wf = true) (w2 : (Lit.int .i64 q).wf = true) (w3 : acts.length ≤ maxLen ∧ ∀ x ∈ acts, okAct x) :
    law12_DirHolds [.s (.int .u64 id), .s (.int .i64 q), mkF 3 (acts.map actC)] [] = some (.ok (.s (.bool true)), []) := by
  have c1 : ∀ (β : Type) (h : Heap) (kp k : A → Heap → Option β), oLend law12_dirAlive [] h kp k = k (.s (.bool true)) h := fun β h kp k => oLend_val _ _ _ _ _ _ (by simp) (by simp) dirAlive_v
  have cS := fun (h : Heap) (kp k : A → Heap → Option (Out × Heap)) => small_call id q h kp k
  obtain ⟨b, hb, hd⟩ := directory_v (smallT id q) ⟨by simp [smallT, bareT], by simp [smallT, bareT], by simp [smallT, bareT], by intro n hn; cases hn⟩
  have c2 : ∀ (β : Type) (h : Heap) (kp k : A → Heap → Option β), oLend law12_directory [.agg (thingC (smallT id q))] h kp k = k (.s (.bool b)) h := fun β h kp k => oLend_val _ _ _ _ _ _ (by simp) (by simp) hb
  have fin : ∀ bad : Bool, (bad = false → b = true ∧ acts.length ≤ 200) → law12_DirHolds_k14 [] (mkF 3 (acts.map actC)) (.ptr 0 0 0 0) (.s (.int .u64 id)) (.s (.int .i64 q)) .normal [.s (.bool bad)] [.live ⟨0, 26, [thingC (smallT id q)]⟩] = some (.ok (.s (.bool true)), []) := by
    intro bad hbad
    cases bad with
    | true => simp [law12_DirHolds_k14, finish_val]
    | false =>
      obtain ⟨hbt, hl⟩ := hbad rfl
      obtain ⟨hk, hr⟩ := hd.1 hbt
      simp [law12_DirHolds_k14]
      have h0 : HI id q 0 (smallT id q) [] := ⟨hr, rfl, rfl, rfl, by simp, by simp⟩
      obtain ⟨r, hr, hloop⟩ := oLoop_inv (β := Out × Heap) (step := hlp acts id q (hp2 (smallT id q) [] 0)) (s0 := hst (smallT id q) [] 0 0) (k := law12_DirHolds_k13 []) (fun i s => ∃ d bs ver, s = hst d bs ver i ∧ HI id q i d bs)
        (fun r => ∃ H, r = (.exit 0, [.any], H)) acts.length ⟨_, _, _, rfl, h0⟩ (by omega)
        (by
          rintro i s hi ⟨d, bs, ver, rfl, h⟩
          obtain ⟨d', bs', ver', h1, h2⟩ := Holds_step acts h ver hi hl (hp2 (smallT id q) [] 0) rfl
          exact .inl ⟨_, h1, _, _, _, rfl, h2⟩)
        (by
          rintro s ⟨d, bs, ver, rfl, h⟩
          simp [hlp, hst, law12_DirHolds_l12, trim, allBelow, hp2, idsRows_map _ (cellC_ids .u64)])
      refine hloop.trans ?_
      obtain ⟨H, rfl⟩ := hr
      simp [law12_DirHolds_k13, finish_val]
  cases b with
  | false => simp [law12_DirHolds, c1, c2, cS, trim, allBelow, fin, put_thing]
  | true =>
    by_cases hl : (200 : Int) < acts.length
    · simp [law12_DirHolds, c1, c2, cS, trim, allBelow, fin, hl, put_thing]
    · have := fin false (fun _ => ⟨rfl, by omega⟩)
      simp [law12_DirHolds, c1, c2, cS, trim, allBelow, this, hl, put_thing]
end Go.Ab.T
