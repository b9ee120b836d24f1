/-
  WHAT IS READ OF A VALUE OF THE PROGRAM'S TYPES. Written by a program (tread.py).
-/
import Derived.Test.YtffjjeifgejplaaTForm
import Derived.Test.YtffjjeifgejplaaFnE
set_option linter.unusedSimpArgs false
set_option linter.unusedVariables false
set_option maxRecDepth 10000
namespace Go.Ab.T
open Go Go.Ab Go.Ab.F Go.Proofs

theorem form_u64 (d : Nat) : Form PP (d + 1) 26 (cellC .u64) (wfI .u64) := form_int Try.underlying26
theorem form_i64 (d : Nat) : Form PP (d + 1) 3 (cellC .i64) (wfI .i64) := form_int Try.underlying3
theorem form_u8 (d : Nat) : Form PP (d + 1) 5 (cellC .u8) (wfI .u8) := form_int Try.underlying5
theorem form_bool (d : Nat) : Form PP (d + 1) 4 (fun b : Bool => [.s (.bool b)]) (fun _ => True) := form_bool' Try.underlying4
theorem form_cat (d : Nat) : Form PP (d + 2) 89 catC okCat := by
  intro cs h
  obtain ⟨a, b, rfl, h1, a', b', rfl, h2, rfl⟩ := gd_struct Try.underlying89 h
  obtain ⟨x, rfl, w1⟩ := form_u64 d _ h1
  obtain ⟨y, rfl, w2⟩ := form_i64 d _ h2
  exact ⟨⟨x, y⟩, rfl, w1, w2⟩
theorem form_link (d : Nat) : Form PP (d + 2) 75 linkC okLink := by
  intro cs h
  obtain ⟨a, b, rfl, h1, a', b', rfl, h2, rfl⟩ := gd_struct Try.underlying75 h
  obtain ⟨x, rfl, w1⟩ := form_u64 d _ h1
  obtain ⟨y, rfl, w2⟩ := form_i64 d _ h2
  exact ⟨⟨x, y⟩, rfl, w1, w2⟩
theorem form_slot (d : Nat) : Form PP (d + 2) 34 slotC okSlot := by
  intro cs h
  obtain ⟨a, b, rfl, h1, a', b', rfl, h2, rfl⟩ := gd_struct Try.underlying34 h
  obtain ⟨x, rfl, w1⟩ := form_u64 d _ h1
  obtain ⟨y, rfl, w2⟩ := form_u64 d _ h2
  exact ⟨⟨x, y⟩, rfl, w1, w2⟩
theorem form_cats (d : Nat) : Form PP (d + 3) 27 (fun xs : List Cat => [mkF 2 (xs.map catC)]) (fun xs => xs.length ≤ maxLen ∧ ∀ x ∈ xs, okCat x) := form_slice Try.underlying27 (by kernel_rfl) (form_cat d)
theorem form_links (d : Nat) : Form PP (d + 3) 30 (fun xs : List Link => [mkF 2 (xs.map linkC)]) (fun xs => xs.length ≤ maxLen ∧ ∀ x ∈ xs, okLink x) := form_slice Try.underlying30 (by kernel_rfl) (form_link d)
theorem form_data (d : Nat) : Form PP (d + 2) 31 (fun xs : List Int => [mkF 1 (xs.map (cellC .u8))]) (fun xs => xs.length ≤ maxLen ∧ ∀ x ∈ xs, wfI .u8 x) := form_slice Try.underlying31 (by kernel_rfl) (form_u8 d)
theorem form_label (d : Nat) : Form PP (d + 4) 29 labelC okLabel := by
  intro cs h
  obtain ⟨a, b, rfl, h1, a', b', rfl, h2, rfl⟩ := gd_struct Try.underlying29 h
  obtain ⟨x, rfl, w1⟩ := form_i64 (d + 2) _ h1
  obtain ⟨y, rfl, w2, w3⟩ := form_cats d _ h2
  exact ⟨⟨x, y⟩, rfl, w1, w2, w3⟩
theorem form_regs (d : Nat) : Form PP (d + 2) 32 (fun r : Int × Int × Int × Int => cellC .u64 r.1 ++ (cellC .u64 r.2.1 ++ (cellC .u64 r.2.2.1 ++ cellC .u64 r.2.2.2))) (fun r => wfI .u64 r.1 ∧ wfI .u64 r.2.1 ∧ wfI .u64 r.2.2.1 ∧ wfI .u64 r.2.2.2) := form_four Try.underlying32 (form_u64 d)
theorem form_slots (d : Nat) : Form PP (d + 3) 35 (fun r : Slot × Slot × Slot × Slot => slotC r.1 ++ (slotC r.2.1 ++ (slotC r.2.2.1 ++ slotC r.2.2.2))) (fun r => okSlot r.1 ∧ okSlot r.2.1 ∧ okSlot r.2.2.1 ∧ okSlot r.2.2.2) := form_four Try.underlying35 (form_slot d)
theorem form_thing (d : Nat) : Form PP (d + 5) 37 thingC okThing := by
  intro cs h
  obtain ⟨_, _, rfl, h1, _, _, rfl, h2, _, _, rfl, h3, _, _, rfl, h4, _, _, rfl, h5, _, _, rfl, h6, _, _, rfl, h7, _, _, rfl, h8, _, _, rfl, h9, _, _, rfl, h10, _, _, rfl, h11, _, _, rfl, h12, _, _, rfl, h13, _, _, rfl, h14, rfl⟩ := gd_struct Try.underlying37 h
  obtain ⟨x1, rfl, w1⟩ := form_u64 (d + 3) _ h1
  obtain ⟨x2, rfl, w2⟩ := form_i64 (d + 3) _ h2
  obtain ⟨x3, rfl, w3⟩ := form_label d _ h3
  obtain ⟨x4, rfl, w4⟩ := form_label d _ h4
  obtain ⟨x5, rfl, w5⟩ := form_i64 (d + 3) _ h5
  obtain ⟨x6, rfl, w6⟩ := form_i64 (d + 3) _ h6
  obtain ⟨x7, rfl, w7⟩ := form_links (d + 1) _ h7
  obtain ⟨x8, rfl, w8⟩ := form_data (d + 2) _ h8
  obtain ⟨⟨r0, r1, r2, r3⟩, rfl, w9⟩ := form_regs (d + 2) _ h9
  obtain ⟨x10, rfl, w10⟩ := form_i64 (d + 3) _ h10
  obtain ⟨x11, rfl, w11⟩ := form_i64 (d + 3) _ h11
  obtain ⟨x12, rfl, w12⟩ := form_bool (d + 3) _ h12
  obtain ⟨x13, rfl, w13⟩ := form_u64 (d + 3) _ h13
  obtain ⟨⟨s0, s1, s2, s3⟩, rfl, w14⟩ := form_slots (d + 1) _ h14
  exact ⟨⟨x1, x2, x3, x4, x5, x6, x7, x8, r0, r1, r2, r3, x10, x11, x12, x13, s0, s1, s2, s3⟩, rfl, ⟨w1, w2, w3, w4, w5, w6, w7, w8, w9, w10, w11, w13, w14⟩⟩
theorem form_things (d : Nat) : Form PP (d + 6) 22 (fun xs : List Thing => [mkF 26 (xs.map thingC)]) (fun xs => xs.length ≤ maxLen ∧ ∀ x ∈ xs, okThing x) := form_slice Try.underlying22 (by kernel_rfl) (form_thing d)
theorem form_ids (d : Nat) : Form PP (d + 2) 23 (fun xs : List Int => [mkF 1 (xs.map (cellC .u64))]) (fun xs => xs.length ≤ maxLen ∧ ∀ x ∈ xs, wfI .u64 x) := form_slice Try.underlying23 (by kernel_rfl) (form_u64 d)
end Go.Ab.T
