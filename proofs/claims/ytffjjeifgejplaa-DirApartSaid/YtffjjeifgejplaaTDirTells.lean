/-
  DirTells: plain.
-/
import Derived.Test.YtffjjeifgejplaaTDirs
import Derived.Test.YtffjjeifgejplaaTForm
import Derived.KernelRfl
set_option linter.unusedSimpArgs false
set_option linter.unusedVariables false
namespace Go.Ab.T
open Go Go.Ab Go.Ab.F

theorem dirAlive_v : law12_dirAlive [] [] = some (.ok (.s (.bool true)), []) := by kernel_rfl

theorem directory_v (t : Thing) (ok : okT1 t) : ∃ b : Bool, law12_directory [.agg (thingC t)] [] = some (.ok (.s (.bool b)), []) ∧ (b = true ↔ t.kind = 1 ∧ dirRight t) := by
  by_cases hk : t.kind = 1
  · obtain ⟨b, h1, h2⟩ := Right_dir t ok hk
    have hc : ∀ (β : Type) (h : Heap) (kp k : A → Heap → Option β), oLend ref11_Right [.agg (thingC t)] h kp k = k (.s (.bool b)) h := fun β h kp k =>
      oLend_val _ _ _ _ _ _ (by simp) (by simp) h1
    exact ⟨b, by simp [law12_directory, hk, hc, finish_val], by simp [hk, h2]⟩
  · exact ⟨false, by simp [law12_directory, hk, finish_val], by simp [hk]⟩

theorem goodL_sorted {ls : List Link} (h : goodL ls) : sortedL ls := fun i a b ha hb => (h (i + 1) b hb).2.2.2.2.1 (by omega) a (by simpa using ha)

theorem fresh_eq (t : Thing) (h : dirRight t) : fresh t = rfresh t := by
  unfold fresh rfresh
  have h1 := h.id1; have h2 := h.id2; have h3 := h.next1; have h4 := h.next2
  by_cases c1 : t.next < 63
  · by_cases c2 : t.id < 4398046511104
    · have e1 : t.next ≠ 63 := by omega
      have e2 : ¬ 4398046511103 < t.id := by omega
      rw [if_pos ⟨c1, c2⟩, if_pos ⟨e1, e2⟩, wrap_u64 (n := t.id * 64) (by omega) (by omega), wrap_u64 (n := 64 * t.id) (by omega) (by omega), wrap_u64 (n := t.next) (by omega) (by omega), wrap64_id (n := t.next + 1) (by omega) (by omega), wrap_u64 (n := t.next + 1) (by omega) (by omega),
        wrap_u64 (n := t.id * 64 + t.next) (by omega) (by omega), wrap_u64 (by omega) (by omega), wrap_u64 (by omega) (by omega)]
      simp; omega
    · have e2 : 4398046511103 < t.id := by omega
      rw [if_neg (fun h => c2 h.2), if_neg (fun h => h.2 e2)]
  · have e1 : t.next = 63 := by omega
    rw [if_neg (fun h => c1 h.1), if_neg (fun h => h.1 e1)]

theorem DirTells_v (t : Thing) (id : Int) (okT : okThing t) (w1 : (Lit.int .u64 id).wf = true) : law12_DirTells [.agg (thingC t), .s (.int .u64 id)] [] = some (.ok (.s (.bool true)), []) := by
  have ok := okT.t1
  obtain ⟨b, hb, hd⟩ := directory_v t ok
  have c1 : ∀ (β : Type) (h : Heap) (kp k : A → Heap → Option β), oLend law12_dirAlive [] h kp k = k (.s (.bool true)) h := fun β h kp k => oLend_val _ _ _ _ _ _ (by simp) (by simp) dirAlive_v
  have c2 : ∀ (β : Type) (h : Heap) (kp k : A → Heap → Option β), oLend law12_directory [.agg (thingC t)] h kp k = k (.s (.bool b)) h := fun β h kp k => oLend_val _ _ _ _ _ _ (by simp) (by simp) hb
  cases b with
  | false => simp [law12_DirTells, c1, c2, finish_val]
  | true =>
    obtain ⟨hk, hr⟩ := hd.1 rfl
    have hs := goodL_sorted hr.links
    have c3 : ∀ (β : Type) (h : Heap) (kp k : A → Heap → Option β), oLend dir_Fresh [.agg (thingC t)] h kp k = k (.tup [.s (.int .u64 (fresh t).1), .s (.int .i64 (fresh t).2)]) h := fun β h kp k => oLend_val _ _ _ _ _ _ (by simp) (by simp) (dir_Fresh_v t)
    have c4 : ∀ (β : Type) (h : Heap) (kp k : A → Heap → Option β), oLend ref12_Fresh [.agg (thingC t)] h kp k = k (.tup [.s (.int .u64 (fresh t).1), .s (.int .i64 (fresh t).2)]) h := fun β h kp k => oLend_val _ _ _ _ _ _ (by simp) (by simp) (by rw [ref12_Fresh_v, fresh_eq t hr])
    have c5 : ∀ (β : Type) (n0 : Nat) (wr : List Nat) (h : Heap) (k : A → Heap → Option β), oCallF n0 wr dir_Used [.agg (thingC t)] h k = k (.s (.int .i64 (used t))) h := fun β n0 wr h k => oCallF_val _ _ _ _ _ _ _ (by simp) (by simp) (dir_Used_v t ok.links)
    have c6 : ∀ (β : Type) (n0 : Nat) (wr : List Nat) (h : Heap) (k : A → Heap → Option β), oCallF n0 wr ref12_Used [.agg (thingC t)] h k = k (.s (.int .i64 (used t))) h := fun β n0 wr h k => oCallF_val _ _ _ _ _ _ _ (by simp) (by simp) (ref12_Used_v t ok.links)
    have c7 : ∀ (β : Type) (n0 : Nat) (wr : List Nat) (h : Heap) (k : A → Heap → Option β), oCallF n0 wr dir_Has [.agg (thingC t), .s (.int .u64 id)] h k = k (.s (.bool (has t.links id))) h := fun β n0 wr h k => oCallF_val _ _ _ _ _ _ _ (by simp) (by simp) (dir_Has_v t id ok.links hs)
    have c8 : ∀ (β : Type) (n0 : Nat) (wr : List Nat) (h : Heap) (k : A → Heap → Option β), oCallF n0 wr ref12_Has [.agg (thingC t), .s (.int .u64 id)] h k = k (.s (.bool (has t.links id))) h := fun β n0 wr h k => oCallF_val _ _ _ _ _ _ _ (by simp) (by simp) (ref12_Has_v t id ok.links)
    simp [law12_DirTells, c1, c2, c3, c4, c5, c6, c7, c8, oLoadD, finish_val]
end Go.Ab.T
