/-
  THE DOCUMENT'S THINGS: which directories can be?
-/
import Derived.Test.YtffjjeifgejplaaT5
import Derived.Test.YtffjjeifgejplaaT2
set_option linter.unusedSimpArgs false
set_option linter.unusedVariables false
namespace Go.Ab.T
open Go Go.Ab Go.Ab.F

/-- A link that can stand at a place. -/
def goodAt (ls : List Link) (j : Nat) (l : Link) : Prop := 1 ≤ l.id ∧ l.id < 281474976710656 ∧ 1 ≤ l.quota ∧ l.quota ≤ 48 ∧ (0 < j → ∀ p, ls[j - 1]? = some p → p.id < l.id) ∧ j < 16
def goodL (ls : List Link) : Prop := ∀ (j : Nat) (l : Link), ls[j]? = some l → goodAt ls j l

/-- A bare thing. -/
def bareT (id kind : Int) (label : Label) (quota : Int) : Thing := ⟨id, kind, label, ⟨0, []⟩, quota, 0, [], [], 0, 0, 0, 0, 0, 0, false, 0, ⟨0, 0⟩, ⟨0, 0⟩, ⟨0, 0⟩, ⟨0, 0⟩⟩

def sumTo (ls : List Link) (i : Nat) : Int := (ls.take i).foldl (fun n l => IntKind.i64.wrap (n + l.quota)) 1
theorem sumTo_succ (ls : List Link) (i : Nat) (l : Link) (h : ls[i]? = some l) : sumTo ls (i + 1) = IntKind.i64.wrap (sumTo ls i + l.quota) := by
  have hi : i < ls.length := by
    rcases Nat.lt_or_ge i ls.length with h' | h'
    · exact h'
    · rw [List.getElem?_eq_none h'] at h; exact absurd h (by simp)
  have : ls[i] = l := by rw [List.getElem?_eq_getElem hi] at h; simpa using h
  simp [sumTo, List.take_add_one, h]

theorem Right_links (t : Thing) (hl : t.links.length < 2 ^ 63) (row : List A) (hr : idsL row = []) :
    ∃ q : Ex × List A × Heap, ((∃ n, q = (.ret, [.s (.bool false), .s (.int .i64 n)], [Go.Ab.Slot.live ⟨0, 26, [thingC t]⟩, Go.Ab.Slot.live ⟨0, 26, [row]⟩]) ∧ ¬ goodL t.links) ∨ (q = (.exit 1, [.any, .s (.int .i64 (used t))], [Go.Ab.Slot.live ⟨0, 26, [thingC t]⟩, Go.Ab.Slot.live ⟨0, 26, [row]⟩]) ∧ goodL t.links)) ∧
      ∀ {β : Type} (k : Ex → List A → Heap → Option β), oLoop (ref11_Right_l2 (.s (.int .i64 t.links.length)) (mkF 2 (t.links.map linkC)) (.ptr 0 0 0 0) [Go.Ab.Slot.live ⟨0, 26, [thingC t]⟩, Go.Ab.Slot.live ⟨0, 26, [row]⟩]) ([.s (.int .i64 1), .s (.int .i64 0)], [Go.Ab.Slot.live ⟨0, 26, [thingC t]⟩, Go.Ab.Slot.live ⟨0, 26, [row]⟩]) k = k q.1 q.2.1 q.2.2 := by
  have hid : ∀ (β : Type) (n0 : Nat) (wr : List Nat) (id : Int) (h : Heap) (k : A → Heap → Option β), oCallF n0 wr ref11_id [.s (.int .u64 id)] h k = k (.s (.bool (decide (1 ≤ id ∧ id < 281474976710656)))) h := fun β n0 wr id h k =>
    oCallF_val _ _ _ _ _ _ _ (by simp) (by simp) (ref11_id_v id)
  exact oLoop_inv' (step := ref11_Right_l2 (.s (.int .i64 t.links.length)) (mkF 2 (t.links.map linkC)) (.ptr 0 0 0 0) [Go.Ab.Slot.live ⟨0, 26, [thingC t]⟩, Go.Ab.Slot.live ⟨0, 26, [row]⟩]) (s0 := ([.s (.int .i64 1), .s (.int .i64 0)], [Go.Ab.Slot.live ⟨0, 26, [thingC t]⟩, Go.Ab.Slot.live ⟨0, 26, [row]⟩]))
    (fun i s => s = ([.s (.int .i64 (sumTo t.links i)), .s (.int .i64 i)], [Go.Ab.Slot.live ⟨0, 26, [thingC t]⟩, Go.Ab.Slot.live ⟨0, 26, [row]⟩]) ∧ ∀ j l, j < i → t.links[j]? = some l → goodAt t.links j l)
    (fun q => (∃ n, q = (.ret, [.s (.bool false), .s (.int .i64 n)], [Go.Ab.Slot.live ⟨0, 26, [thingC t]⟩, Go.Ab.Slot.live ⟨0, 26, [row]⟩]) ∧ ¬ goodL t.links) ∨ (q = (.exit 1, [.any, .s (.int .i64 (used t))], [Go.Ab.Slot.live ⟨0, 26, [thingC t]⟩, Go.Ab.Slot.live ⟨0, 26, [row]⟩]) ∧ goodL t.links))
    t.links.length ⟨rfl, fun j l hj => by omega⟩ hl
    (by
      rintro i s hi ⟨rfl, hg⟩
      have hx : t.links[i]? = some t.links[i] := by simp [hi]
      have hw := wrap_succ hi hl
      have hbad : ¬ goodAt t.links i t.links[i] → ¬ goodL t.links := fun hb hgl => hb (hgl i _ hx)
      have hss := sumTo_succ t.links i _ hx
      generalize hlk : t.links[i] = l at hx hbad hss
      have hok : goodAt t.links i l → ∀ j m, j < i + 1 → t.links[j]? = some m → goodAt t.links j m := fun hgi j m hj hm => by
        rcases Nat.lt_or_ge j i with h | h
        · exact hg j m h hm
        · obtain rfl : j = i := by omega
          rw [hx] at hm; cases hm; exact hgi
      by_cases c1 : 1 ≤ l.id ∧ l.id < 281474976710656
      · by_cases c2 : l.quota < 1
        · right
          exact ⟨(.ret, [.s (.bool false), .s (.int .i64 (sumTo t.links i))], [Go.Ab.Slot.live ⟨0, 26, [thingC t]⟩, Go.Ab.Slot.live ⟨0, 26, [row]⟩]), by simp [ref11_Right_l2, ref11_Right_k1, oLoadD, hi, oIdxA_mkF _ _ _ _ _ _ _ hx, hid, trim, allBelow, hr, c1, c2], .inl ⟨_, rfl, hbad fun g => by have := g.2.2.1; omega⟩⟩
        · by_cases c3 : 48 < l.quota
          · right
            exact ⟨(.ret, [.s (.bool false), .s (.int .i64 (sumTo t.links i))], [Go.Ab.Slot.live ⟨0, 26, [thingC t]⟩, Go.Ab.Slot.live ⟨0, 26, [row]⟩]), by simp [ref11_Right_l2, ref11_Right_k1, oLoadD, hi, oIdxA_mkF _ _ _ _ _ _ _ hx, hid, trim, allBelow, hr, c1, c2, c3], .inl ⟨_, rfl, hbad fun g => by have := g.2.2.2.1; omega⟩⟩
          · by_cases c4 : i = 0
            · left
              have c4' : ¬ (0 : Int) < i := by omega
              have c4n : ¬ 0 < i := by omega
              have c6 : ¬ (16 : Int) ≤ i := by omega
              exact ⟨([.s (.int .i64 (sumTo t.links (i + 1))), .s (.int .i64 (i + 1 : Nat))], [Go.Ab.Slot.live ⟨0, 26, [thingC t]⟩, Go.Ab.Slot.live ⟨0, 26, [row]⟩]), by rw [hss]; simp [ref11_Right_l2, ref11_Right_k1, oLoadD, hi, oIdxA_mkF _ _ _ _ _ _ _ hx, hid, trim, allBelow, hr, hw, c1, c2, c3, c4', c4n, c6], rfl, hok ⟨c1.1, c1.2, by omega, by omega, fun h => by omega, by omega⟩⟩
            · have hprev : t.links[i - 1]? = some t.links[i - 1] := List.getElem?_eq_getElem (by omega)
              have hwm : IntKind.i64.wrap ((i : Int) - 1) = ((i - 1 : Nat) : Int) := by rw [wrap64_id (by omega) (by omega)]; omega
              generalize t.links[i - 1] = p at hprev
              have c4' : (0 : Int) < i := by omega
              have c4n : 0 < i := by omega
              have hpm := fun {β : Type} (k : A → Option β) => oIdxA_mkF 2 linkC t.links .i64 (i - 1) p k hprev
              by_cases c5 : l.id ≤ p.id
              · right
                exact ⟨(.ret, [.s (.bool false), .s (.int .i64 (sumTo t.links i))], [Go.Ab.Slot.live ⟨0, 26, [thingC t]⟩, Go.Ab.Slot.live ⟨0, 26, [row]⟩]), by simp [ref11_Right_l2, ref11_Right_k1, oLoadD, hi, oIdxA_mkF _ _ _ _ _ _ _ hx, hid, trim, allBelow, hr, c1, c2, c3, c4', c4n, c5, hwm, hpm], .inl ⟨_, rfl, hbad fun g => by have := g.2.2.2.2.1 (by omega) p hprev; omega⟩⟩
              · by_cases c6 : (16 : Int) ≤ i
                · right
                  exact ⟨(.ret, [.s (.bool false), .s (.int .i64 (sumTo t.links i))], [Go.Ab.Slot.live ⟨0, 26, [thingC t]⟩, Go.Ab.Slot.live ⟨0, 26, [row]⟩]), by simp [ref11_Right_l2, ref11_Right_k1, oLoadD, hi, oIdxA_mkF _ _ _ _ _ _ _ hx, hid, trim, allBelow, hr, c1, c2, c3, c4', c4n, c5, c6, hwm, hpm], .inl ⟨_, rfl, hbad fun g => by have := g.2.2.2.2.2; omega⟩⟩
                · left
                  exact ⟨([.s (.int .i64 (sumTo t.links (i + 1))), .s (.int .i64 (i + 1 : Nat))], [Go.Ab.Slot.live ⟨0, 26, [thingC t]⟩, Go.Ab.Slot.live ⟨0, 26, [row]⟩]), by rw [hss]; simp [ref11_Right_l2, ref11_Right_k1, oLoadD, hi, oIdxA_mkF _ _ _ _ _ _ _ hx, hid, trim, allBelow, hr, hw, c1, c2, c3, c4', c4n, c5, c6, hwm, hpm], rfl, hok ⟨c1.1, c1.2, by omega, by omega, fun h q hq => by rw [hprev] at hq; cases hq; omega, by omega⟩⟩
      · right
        exact ⟨(.ret, [.s (.bool false), .s (.int .i64 (sumTo t.links i))], [Go.Ab.Slot.live ⟨0, 26, [thingC t]⟩, Go.Ab.Slot.live ⟨0, 26, [row]⟩]), by simp [ref11_Right_l2, ref11_Right_k1, oLoadD, hi, oIdxA_mkF _ _ _ _ _ _ _ hx, hid, trim, allBelow, hr, c1], .inl ⟨_, rfl, hbad fun g => c1 ⟨g.1, g.2.1⟩⟩⟩)
    (by
      rintro s ⟨rfl, hg⟩
      refine ⟨_, ?_, .inr ⟨rfl, fun j l hj => hg j l (by
        rcases Nat.lt_or_ge j t.links.length with h' | h'
        · exact h'
        · rw [List.getElem?_eq_none h'] at hj; exact absurd hj (by simp)) hj⟩⟩
      have hs : sumTo t.links t.links.length = used t := by simp [sumTo, used]
      simp [ref11_Right_l2, hs, trim, allBelow, hr])
end Go.Ab.T
