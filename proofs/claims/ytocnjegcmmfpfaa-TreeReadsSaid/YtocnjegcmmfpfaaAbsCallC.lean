/-
 A CALL, AND THE END OF A FRAME.
-/
import Derived.Test.YtocnjegcmmfpfaaAbsCallB
set_option linter.unusedSimpArgs false
set_option linter.unusedVariables false
namespace Go.Ab
open Go
section
variable {P : Program} {w w' : World} {F F' : Cells} {ρ ρ' ρ2 : Nat → Reg} {h h' h2 : Heap} {β : Type} {r : β}
theorem qh1 {l : List (List A)} {id : Nat} : id ∈ idsRows l ↔ ∃ row ∈ l, id ∈ idsL row := by
 induction l with
 | nil => simp [idsRows]
 | cons a r ih => simp only [idsRows, List.mem_append, ih, List.mem_cons]; constructor
                  · rintro (h | ⟨row, h1, h2⟩)
                    · exact ⟨a, .inl rfl, h⟩
                    · exact ⟨row, .inr h1, h2⟩
                  · rintro ⟨row, rfl | h1, h2⟩
                    · exact .inl h2
                    · exact .inr ⟨row, h1, h2⟩
theorem Inv.slotIds (i : Inv P w F ρ h) (id x : Nat) (hx : x ∈ (h.getD id .dead).ids) : x < h.length := by
 cases hs : h.getD id .dead with
 | dead => rw [hs] at hx; simp [Slot.ids] at hx
 | res => rw [hs] at hx; simp [Slot.ids] at hx
 | mp kd es => rw [hs] at hx; simp [Slot.ids] at hx
 | live ob =>
   rw [hs] at hx
   have k := i.obj id ob (qm4 hs)
   obtain ⟨row, hrow, hx⟩ := qh1.1 hx
   obtain ⟨a, ha, rfl⟩ := List.mem_iff_getElem.1 hrow
   obtain ⟨b, hb, hx⟩ := qe3.1 hx
   obtain ⟨v, _, _, h3⟩ := k.rel a b ha hb
   exact h3.ids x hx
theorem qkU {N : Nat} (hh : ∀ id x, x ∈ (h.getD id .dead).ids → x < N) : ∀ (n : Nat) (seen todo : List Nat), (∀ x ∈ seen, x < N) → (∀ x ∈ todo, x < N) → ∀ x ∈ reach h n seen todo, x < N
 | 0, seen, _, hs, _ => by simpa only [reach] using hs
 | n + 1, seen, [], hs, _ => by simpa only [reach] using hs
 | n + 1, seen, id :: todo, hs, ht => by
   simp only [reach]
   split
   · exact qkU hh n seen todo hs fun x hx => ht x (by simp [hx])
   · refine qkU hh n _ _ (fun x hx => ?_) fun x hx => ?_
     · simp at hx
       rcases hx with hx | rfl
       · exact hs x hx
       · exact ht x (by simp)
     · simp only [List.mem_append] at hx
       rcases hx with hx | hx
       · exact hh id x hx
       · exact ht x (by simp [hx])
def CEnd (P : Program) (w : World) (F : Cells) (ρ : Nat → Reg) (h : Heap) (ok pan : A → Heap → Prop) (e : Ending) (w' : World) : Prop :=
 ∃ F' ρ' h', Inv P w' F' ρ' h' ∧ Tr w F ρ h w' F' ρ' h' ∧
   match e with
   | .returned v => ∃ a, Rel P w' F' ρ' h' v a ∧ ok a h'
   | .panicked chain => ∃ v a, chain = [{ v, recovered := false }] ∧ Rel P w' F' ρ' h' v a ∧ pan a h'
   | .outgrown => False
def ArgsRel (P : Program) (w : World) (F : Cells) (ρ : Nat → Reg) (h : Heap) (vs : Array Value) (args : List A) : Prop :=
 vs.size = args.length ∧ ∀ i (hi : i < args.length), Rel P w F ρ h (vs.getD i undef) args[i]
def SoundFn (P : Program) (f : FuncId) (D : CallFn) : Prop :=
 ∀ (args : List A) (objs : Heap) (R : Out) (objs' : Heap), D args objs = some (R, objs') → ∀ (w : World) (F : Cells) (ρ : Nat → Reg) (vs : Array Value), Inv P w F ρ objs → ArgsRel P w F ρ objs vs args →
   Calls P f vs w (CEnd P w F ρ objs (fun a h' => R = .ok a ∧ h' = objs') (fun a h' => R = .pan a ∧ h' = objs'))
theorem ArgsRel.ids {vs : Array Value} {args : List A} (ha : ArgsRel P w F ρ h vs args) : ∀ id ∈ idsL args, id < h.length := by
 intro id hid
 obtain ⟨i, hi, h⟩ := qe3.1 hid
 exact (ha.2 i hi).ids id h
theorem qdr {f : FuncId} {D : CallFn} {args : List A} {vs : Array Value} {kp k : A → Heap → Option β} (hD : SoundFn P f D) (i : Inv P w F ρ h) (ha : ArgsRel P w F ρ h vs args) (hk : oCall D args h kp k = some r) :
 Calls P f vs w (CEnd P w F ρ h (fun a h' => k a h' = some r) (fun a h' => kp a h' = some r)) := by
 unfold oCall at hk
 split at hk <;> try (cases hk; done)
 rename_i ids args' objs hb
 split at hk <;> try (cases hk; done)
 rename_i R objs' hD'
 unfold borrow at hb
 simp only [Option.bind_eq_some_iff, Option.map_eq_some_iff] at hb
 obtain ⟨args1, hb1, objs1, hb2, heq⟩ := hb
 generalize hids : reach h qa3 [] (idsL args) = ids0 at hb1 hb2 heq
 cases heq
 have hn : ids.Nodup := by rw [← hids]; exact (qfm h _ _ _ (by simp)).1
 have hlt : ∀ id ∈ ids, id < h.length := by
  rw [← hids]
  exact qkU i.slotIds _ _ _ (by simp) ha.ids
 obtain ⟨n0, ol, _⟩ := qhC (ρ := ρ) hn hb2
 obtain ⟨g1, g2⟩ := qfv hb1
 have hcall := hD args' objs R objs' hD' w F _ vs (i.pick hn hb2).1 ⟨by rw [ha.1, g1], fun j hj => (ha.2 j (by omega)).ren n0 (g2 j (by omega) hj)⟩
 refine hcall.mono fun e w' he => ?_
 obtain ⟨F', ρc, h1, ic, t, he⟩ := he
 cases e with
 | returned v =>
   obtain ⟨a, hr, rfl, rfl⟩ := he
   split at hk <;> try (cases hk; done)
   · rename_i a' h' hg
     obtain ⟨ρ', j1, j2, j3, j4⟩ := qeg i hn hlt hb2 ic t hg
     simp only [renOut, Option.map_eq_some_iff] at j4
     obtain ⟨a2, j4, heq⟩ := j4
     cases heq
     exact ⟨F', ρ', h', j1, j2, a', hr.ren j3 j4, hk⟩
   · rename_i a' h' hg
     obtain ⟨ρ', j1, j2, j3, j4⟩ := qeg i hn hlt hb2 ic t hg
     simp only [renOut, Option.map_eq_some_iff] at j4
     obtain ⟨a2, j4, heq⟩ := j4
     cases heq
 | panicked chain =>
   obtain ⟨v, a, rfl, hr, rfl, rfl⟩ := he
   split at hk <;> try (cases hk; done)
   · rename_i a' h' hg
     obtain ⟨ρ', j1, j2, j3, j4⟩ := qeg i hn hlt hb2 ic t hg
     simp only [renOut, Option.map_eq_some_iff] at j4
     obtain ⟨a2, j4, heq⟩ := j4
     cases heq
   · rename_i a' h' hg
     obtain ⟨ρ', j1, j2, j3, j4⟩ := qeg i hn hlt hb2 ic t hg
     simp only [renOut, Option.map_eq_some_iff] at j4
     obtain ⟨a2, j4, heq⟩ := j4
     cases heq
     exact ⟨F', ρ', h', j1, j2, v, a', rfl, hr.ren j3 j4, hk⟩
 | outgrown => exact he.elim
mutual
theorem qjr (f : Nat → Option Nat) : ∀ a : A, idsA a = [] → renA f a = some a
 | .s v, _ => rfl
 | .any, _ => rfl
 | .cptr _, _ => rfl
 | .fsl _ _, _ => rfl
 | .ptr .., h => by simp [idsA] at h
 | .osl .., h => by simp [idsA] at h
 | .mref _, h => by simp [idsA] at h
 | .agg cs, h => by simp only [renA]; rw [qhv f cs h]; rfl
 | .tup cs, h => by simp only [renA]; rw [qhv f cs h]; rfl
 | .fn n cs, h => by simp only [renA]; rw [qhv f cs h]; rfl
 | .iface t a, h => by simp only [renA]; rw [qjr f a h]; rfl
theorem qhv (f : Nat → Option Nat) : ∀ l : List A, idsL l = [] → renL f l = some l
 | [], _ => rfl
 | a :: r, h => by
   simp only [idsL, List.append_eq_nil_iff] at h
   simp only [renL]; rw [qjr f a h.1, qhv f r h.2]; rfl
end
theorem Inv.nil (i : Inv P w F ρ h) : Inv P w F ρ [] := ⟨fun id ob h => by simp at h, fun _ _ _ _ _ h => by simp at h, i.fin, fun _ _ _ h => by simp at h, fun _ _ _ _ _ _ _ h => by simp at h⟩
theorem Inv.nil0 {F' : Cells} (hf : ∀ b o, F' b o → b < w.heap.size) (ρ : Nat → Reg) : Inv P w F' ρ [] := ⟨fun id ob h => by simp at h, fun _ _ _ _ _ h => by simp at h, hf, fun _ _ _ h => by simp at h, fun _ _ _ _ _ _ _ h => by simp at h⟩
theorem ownH_live {h : Heap} (ho : ownH h = true) {id : Nat} {ob : Obj} (hob : h[id]? = some (.live ob)) {a b : Nat} (ha : a < ob.rows.length) (hb : b < ob.rows[a].length) : ownA ob.rows[a][b] = true := by
 unfold ownH at ho
 rw [List.all_eq_true] at ho
 have := ho _ (List.mem_of_getElem? hob)
 simp only [ownRows] at this
 rw [List.all_eq_true] at this
 exact qey (this _ (List.getElem_mem ha)) b hb
theorem CEnd.unlend {ok pan : A → Heap → Prop} {e : Ending} {w' : World} {ρ0 : Nat → Reg} (i : Inv P w F ρ h) (ho : ∀ a h', ok a h' → ownA a = true ∧ ownH h' = true) (hp : ∀ a h', pan a h' → ownA a = true ∧ ownH h' = true)
 (he : CEnd P w (lentF F ρ h) ρ0 [] ok pan e w') : CEnd P w F ρ0 [] ok pan e w' := by
 obtain ⟨F', ρ', h', i', t, he⟩ := he
 have sub : ∀ b o, (F b o ∨ (F' b o ∧ w.heap.size ≤ b)) → F' b o := fun b o hf => hf.elim (fun hf => t.sub b o (.inl hf)) fun hf => hf.1
 have inv : ownH h' = true → Inv P w' (fun b o => F b o ∨ (F' b o ∧ w.heap.size ≤ b)) ρ' h' := fun hh => by
  refine ⟨fun id ob hob => ?_, i'.disj, fun b o hf => i'.fin b o (sub b o hf), fun id kd es hes => ?_, i'.mpd⟩
  rotate_left
  · exact absurd (List.mem_of_getElem? hes) (by
     intro hm
     unfold ownH at hh
     have := (List.all_eq_true.1 hh) _ hm
     simp at this)
  have k := i'.obj id ob hob
  refine ⟨k.sz, k.pos, k.len, k.width, fun j hj => ?_, fun a b ha hb => ?_⟩
  · obtain ⟨h1, h2, h3⟩ := k.cell j hj
    exact ⟨h1, h2, fun hf => h3 (sub _ _ hf)⟩
  · obtain ⟨v, h1, h2, h3⟩ := k.rel a b ha hb
    exact ⟨v, h1, h2, h3.own (ownH_live hh hob ha hb)⟩
 have tr : Tr w F ρ0 [] w' (fun b o => F b o ∨ (F' b o ∧ w.heap.size ≤ b)) ρ' h' :=
  ⟨t.upd, fun b o hf => .inl hf, fun b o hf => hf.elim .inl fun hf => .inr (.inr hf.2), t.reg, t.evo⟩
 refine ⟨_, ρ', h', inv ?_, tr, ?_⟩
 · cases e with
   | returned v => obtain ⟨a, hr, hk⟩ := he; exact (ho _ _ hk).2
   | panicked c => obtain ⟨v, a, _, hr, hk⟩ := he; exact (hp _ _ hk).2
   | outgrown => exact he.elim
 · cases e with
   | returned v => obtain ⟨a, hr, hk⟩ := he; exact ⟨a, hr.own (ho _ _ hk).1, hk⟩
   | panicked c => obtain ⟨v, a, hc, hr, hk⟩ := he; exact ⟨v, a, hc, hr.own (hp _ _ hk).1, hk⟩
   | outgrown => exact he.elim
theorem CEnd.back {R : Out} {objs' : Heap} {k kp : A → Heap → Option β} {e : Ending} {w' : World} (i : Inv P w F ρ h) (hk : (match qaa [] h R objs' with | some (.ok a, h') => k a h' | some (.pan a, h') => kp a h' | none => none) = some r)
 (he : CEnd P w F (fun j => ρ (([] : List Nat).getD j 0)) [] (fun a h' => R = .ok a ∧ h' = objs') (fun a h' => R = .pan a ∧ h' = objs') e w') : CEnd P w F ρ h (fun a h' => k a h' = some r) (fun a h' => kp a h' = some r) e w' := by
 obtain ⟨F', ρc, h1, ic, t, he⟩ := he
 cases e with
 | returned v =>
   obtain ⟨a1, hr, hh, rfl⟩ := he
   subst hh
   split at hk <;> try (cases hk; done)
   · rename_i a' h' hg
     obtain ⟨ρ', j1, j2, j3, j4⟩ := qeg (ids := []) (objs := []) i (by simp) (by simp) rfl ic t hg
     simp only [renOut, Option.map_eq_some_iff] at j4
     obtain ⟨a2, j4, heq⟩ := j4
     cases heq
     exact ⟨F', ρ', h', j1, j2, a', hr.ren j3 j4, hk⟩
   · rename_i a' h' hg
     obtain ⟨ρ', j1, j2, j3, j4⟩ := qeg (ids := []) (objs := []) i (by simp) (by simp) rfl ic t hg
     simp only [renOut, Option.map_eq_some_iff] at j4
     obtain ⟨a2, j4, heq⟩ := j4
     cases heq
 | panicked chain =>
   obtain ⟨v, a1, hc, hr, hh, rfl⟩ := he
   subst hh
   split at hk <;> try (cases hk; done)
   · rename_i a' h' hg
     obtain ⟨ρ', j1, j2, j3, j4⟩ := qeg (ids := []) (objs := []) i (by simp) (by simp) rfl ic t hg
     simp only [renOut, Option.map_eq_some_iff] at j4
     obtain ⟨a2, j4, heq⟩ := j4
     cases heq
   · rename_i a' h' hg
     obtain ⟨ρ', j1, j2, j3, j4⟩ := qeg (ids := []) (objs := []) i (by simp) (by simp) rfl ic t hg
     simp only [renOut, Option.map_eq_some_iff] at j4
     obtain ⟨a2, j4, heq⟩ := j4
     cases heq
     exact ⟨F', ρ', h', j1, j2, v, a', hc, hr.ren j3 j4, hk⟩
 | outgrown => exact he.elim
theorem ArgsRel.idless {vs : Array Value} {args args' : List A} (ha : ArgsRel P w F ρ h vs args) (i : Inv P w F ρ h) (hids : (idsL args).isEmpty = true) (hl : lendL qbB args [] = some args') (ρ' : Nat → Reg) : ArgsRel P w F ρ' [] vs args' := by
 have hids : idsL args = [] := by simpa using hids
 have none : Ren (fun _ => none) ρ h ρ [] := ⟨fun _ _ h => (by cases h), fun _ _ h => (by cases h), fun _ _ _ h => (by cases h), fun _ _ _ _ h => (by cases h)⟩
 obtain ⟨l1, l2⟩ := (qkl (P := P) (w := w) (F := F) (ρ := ρ) (h := []) (.nil0 i.fin ρ) qbB).2.1 args (fun j => vs.getD j undef) args' (fun j hj => (ha.2 j hj).ren none (qjr _ _ (by
  have : ∀ x ∈ idsA args[j], False := fun x hx => by
   have := qe3.2 ⟨j, hj, hx⟩
   rw [hids] at this; simp at this
  exact List.eq_nil_iff_forall_not_mem.2 this))) hl
 rw [lentF_nil] at l2
 exact ⟨by rw [ha.1, l1], fun j hj => .pure _ _ (l2 j hj)⟩
theorem lend_mono {g h : Heap} (hm : ∀ (id : Nat) (ob : Obj), g[id]? = some (Slot.live ob) → h[id]? = some (Slot.live ob)) : ∀ n,
 (∀ a a', lendA n a g = some a' → lendA n a h = some a') ∧ (∀ l l', lendL n l g = some l' → lendL n l h = some l') ∧ (∀ l l', qdP n l g = some l' → qdP n l h = some l') := by
 intro n
 induction n with
 | zero => exact ⟨fun a a' hk => by simp [lendA] at hk, fun a a' hk => by simp [lendL] at hk, fun a a' hk => by simp [qdP] at hk⟩
 | succ n ih =>
   obtain ⟨ihA, ihL, ihR⟩ := ih
   refine ⟨fun a a' hk => ?_, fun l l' hk => ?_, fun l l' hk => ?_⟩
   · cases a with
     | s v => exact hk
     | cptr cs => exact hk
     | fsl sz rows => exact hk
     | any => exact hk
     | mref id => simp [lendA] at hk
     | ptr id ver row off =>
       simp only [lendA] at hk ⊢
       split at hk <;> try (cases hk; done)
       rename_i ob hob
       simp only [hm id ob hob]
       split at hk <;> try (cases hk; done)
       rename_i hv
       simp only [hv, if_true]
       split at hk <;> try (cases hk; done)
       rename_i rr hrows
       simp only [Option.map_eq_some_iff] at hk ⊢
       obtain ⟨x, hx, rfl⟩ := hk
       exact ⟨x, ihL _ _ hx, rfl⟩
     | osl id ver sz lo len =>
       simp only [lendA] at hk ⊢
       split at hk <;> try (cases hk; done)
       rename_i ob hob
       simp only [hm id ob hob]
       split at hk <;> try (cases hk; done)
       rename_i hv
       rw [if_pos hv]
       simp only [Option.map_eq_some_iff] at hk ⊢
       obtain ⟨x, hx, rfl⟩ := hk
       exact ⟨x, ihR _ _ hx, rfl⟩
     | agg cs =>
       simp only [lendA, Option.map_eq_some_iff] at hk ⊢
       obtain ⟨x, hx, rfl⟩ := hk
       exact ⟨x, ihL _ _ hx, rfl⟩
     | tup cs =>
       simp only [lendA, Option.map_eq_some_iff] at hk ⊢
       obtain ⟨x, hx, rfl⟩ := hk
       exact ⟨x, ihL _ _ hx, rfl⟩
     | fn nm cs =>
       simp only [lendA, Option.map_eq_some_iff] at hk ⊢
       obtain ⟨x, hx, rfl⟩ := hk
       exact ⟨x, ihL _ _ hx, rfl⟩
     | iface t b =>
       simp only [lendA, Option.map_eq_some_iff] at hk ⊢
       obtain ⟨x, hx, rfl⟩ := hk
       exact ⟨x, ihA _ _ hx, rfl⟩
   · simp only [lendL] at hk ⊢
     split at hk
     · rename_i hp; rw [if_pos hp]; exact hk
     · rename_i hp
       rw [if_neg hp]
       cases l with
       | nil => exact hk
       | cons a rest =>
         simp only [Option.bind_eq_some_iff, Option.map_eq_some_iff] at hk ⊢
         obtain ⟨x, hx, y, hy, rfl⟩ := hk
         exact ⟨x, ihA _ _ hx, y, ihL _ _ hy, rfl⟩
   · simp only [qdP] at hk ⊢
     split at hk
     · rename_i hp; rw [if_pos hp]; exact hk
     · rename_i hp
       rw [if_neg hp]
       cases l with
       | nil => exact hk
       | cons a rest =>
         simp only [Option.bind_eq_some_iff, Option.map_eq_some_iff] at hk ⊢
         obtain ⟨x, hx, y, hy, rfl⟩ := hk
         exact ⟨x, ihL _ _ hx, y, ihR _ _ hy, rfl⟩
theorem qeR : ∀ (l : List Nat) (h : Heap) (i : Nat), (killAll l h)[i]? = if i ∈ l then (h[i]?).map fun _ => .dead else h[i]?
 | [], h, i => by simp [killAll]
 | id :: r, h, i => by
   simp only [killAll]
   rw [qeR r _ i, List.getElem?_set]
   by_cases h1 : i ∈ r
   · simp only [h1, if_true, List.mem_cons, or_true]
     by_cases h2 : id = i
     · subst h2
       by_cases h3 : id < h.length
       · simp [h3]
       · simp [h3]
     · simp [h2]
   · by_cases h2 : id = i
     · subst h2
       by_cases h3 : id < h.length
       · simp [h3]
       · simp [h3]
     · simp [h1, h2, Ne.symm h2]
theorem maskH_live {n0 : Nat} {wr : List Nat} {h : Heap} (id : Nat) (ob : Obj) (hg : (maskH n0 wr h)[id]? = some (.live ob)) : h[id]? = some (.live ob) := by
 unfold maskH at hg
 rw [qeR] at hg
 split at hg
 · simp only [Option.map_eq_some_iff] at hg; obtain ⟨x, _, hx⟩ := hg; cases hx
 · rw [List.getElem?_take] at hg
   split at hg
   · exact hg
   · cases hg
theorem qjH {F : CallFn} {args : List A} {n0 : Nat} {wr : List Nat} {k : A → Heap → Option β} (hk : oCallF n0 wr F args h k = some r) : oLend F args h (fun _ _ => none) k = some r := by
 unfold oCallF at hk
 unfold oLend
 split at hk <;> try (cases hk; done)
 rename_i args' hl
 have hl' : lendL qbB args (if (idsL args).isEmpty then [] else h) = some args' := by
  split at hl
  · rename_i hc; rw [if_pos hc]; exact hl
  · rename_i hc; rw [if_neg hc]; exact (lend_mono maskH_live qbB).2.1 _ _ hl
 rw [hl']
 simp only
 split at hk <;> try (cases hk; done)
 rename_i a objs' hF
 simp only [hF]
 split at hk <;> try (cases hk; done)
 rename_i hc
 simp only [ownO, hc, if_true]
 split at hk <;> try (cases hk; done)
 rename_i a' h' hg
 simp only [hg]
 exact hk
theorem qgW {f : FuncId} {D : CallFn} {args : List A} {vs : Array Value} {kp k : A → Heap → Option β} (hD : SoundFn P f D) (i : Inv P w F ρ h) (ha : ArgsRel P w F ρ h vs args) (hk : oLend D args h kp k = some r) :
 Calls P f vs w (CEnd P w F ρ h (fun a h' => k a h' = some r) (fun a h' => kp a h' = some r)) := by
 unfold oLend at hk
 split at hk <;> try (cases hk; done)
 rename_i args' hl
 split at hk <;> try (cases hk; done)
 rename_i R objs' hD'
 split at hk <;> try (cases hk; done)
 rename_i hown
 by_cases hids : (idsL args).isEmpty = true
 · rw [if_pos hids] at hl
   exact (hD args' [] R objs' hD' w F (fun j => ρ (([] : List Nat).getD j 0)) vs (.nil0 i.fin _) (ha.idless i hids hl _)).mono fun e w' he => he.back i hk
 · rw [if_neg hids] at hl
   simp only [hids, Bool.false_or, Bool.and_eq_true] at hown
   obtain ⟨l1, l2⟩ := (qkl i qbB).2.1 args (fun j => vs.getD j undef) args' ha.2 hl
   refine (hD args' [] R objs' hD' w (lentF F ρ h) (fun j => ρ (([] : List Nat).getD j 0)) vs (.nil0 (fun b o hf => ?_) _) ⟨by rw [ha.1, l1], fun j hj => .pure _ _ (l2 j hj)⟩).mono fun e w' he => (he.unlend i ?_ ?_).back i hk
   · rcases hf with hf | ⟨id, ob, hob, hr⟩ | ⟨id, kd, es, hes, hb⟩
     · exact i.fin b o hf
     · exact (i.obj id ob hob).block hr
     · obtain ⟨ces, clock, hc, _⟩ := i.mp id kd es hes
       have := (Array.getElem?_eq_some_iff.1 hc).1
       omega
   · rintro a h' ⟨rfl, rfl⟩; exact hown
   · rintro a h' ⟨rfl, rfl⟩; exact hown
theorem qiC {f : FuncId} {D : CallFn} {args : List A} {vs : Array Value} {n0 : Nat} {wr : List Nat} {k : A → Heap → Option β} (hD : SoundFn P f D) (i : Inv P w F ρ h) (ha : ArgsRel P w F ρ h vs args) (hk : oCallF n0 wr D args h k = some r) :
 Calls P f vs w (CEnd P w F ρ h (fun a h' => k a h' = some r) (fun _ _ => (none : Option β) = some r)) :=
 qgW hD i ha (qjH hk)
theorem qlI {n : Nat} {l : List Nat} {j : Nat} (h : j < n) : (List.range n ++ l)[j]? = some j := by
 rw [List.getElem?_append_left (by simpa using h)]; simp [h]
theorem qla {w0 : World} {F0 : Cells} {ρ0 : Nat → Reg} {h0 : Heap} {R R' : Out} {objs' : Heap} (first : List Nat) (i : Inv P w F ρ h) (t : Tr w0 F0 ρ0 h0 w F ρ h)
 (hk : ((renOut (idx (reach h qa3 (List.range h0.length) first)) R).bind fun r => (renHeap (idx (reach h qa3 (List.range h0.length) first)) ((reach h qa3 (List.range h0.length) first).map (h.getD · .dead))).map fun objs => (r, objs)) = some (R', objs')) :
 ∃ ids ρ', Inv P w F ρ' objs' ∧ Tr w0 F0 ρ0 h0 w F ρ' objs' ∧ Ren (idx ids) ρ h ρ' objs' ∧ renOut (idx ids) R = some R' := by
 obtain ⟨hn, l, hl⟩ := qfm h qa3 (List.range h0.length) first List.nodup_range
 generalize reach h qa3 (List.range h0.length) first = ids at hk hn hl
 simp only [Option.bind_eq_some_iff, Option.map_eq_some_iff] at hk
 obtain ⟨R1, hR, xs, hxs, heq⟩ := hk
 cases heq
 obtain ⟨n0, ol, slot⟩ := qhC (ρ := ρ) hn hxs
 obtain ⟨ip, live⟩ := i.pick hn hxs
 have hpre : ∀ j, j < h0.length → ids[j]? = some j := fun j hj => by rw [hl]; exact qlI hj
 have hlen : h0.length ≤ ids.length := by rw [hl]; simp
 refine ⟨ids, fun j => ρ (ids.getD j 0), ip, ⟨t.upd, t.sub, t.new, fun b o hm => ?_, ?_⟩, n0, hR⟩
 · obtain ⟨id, _, e⟩ := i.pick_mem hn hxs hm
   exact t.reg b o e.mem
 · refine ⟨by omega, fun id hid hr => ?_, fun id ob' hid hob => ?_, fun id kd es hid hes => ?_⟩
   rotate_left 2
   · obtain ⟨id2, e1, e2⟩ := slot id _ hes
     rw [hpre id hid] at e1
     cases e1
     rcases t.evo.mp id kd es hid (getD_mp (qbG e2)) with g1 | ⟨es0, g1, g2⟩
     · exact .inl g1
     · refine .inr ⟨es0, g1, ?_⟩
       have := hpre id hid
       simp only [List.getD_eq_getElem?_getD, this, Option.getD_some]
       exact g2
   · obtain ⟨id2, e1, e2⟩ := slot id _ hr
     exact (qcJ e2).elim
   · obtain ⟨id2, ob, e1, e2, e3, e4⟩ := live id ob' hob
     rw [hpre id hid] at e1
     cases e1
     rcases t.evo.live id ob hid e2 with g1 | ⟨ob0, g1, g2, g3⟩
     · exact .inl g1
     · refine .inr ⟨ob0, g1, by omega, fun hv => ?_⟩
       exact e4.trans (g3 (by omega))
theorem qiD {w0 : World} {F0 : Cells} {ρ0 : Nat → Reg} {h0 : Heap} {R R' : Out} {objs' : Heap} (i : Inv P w F ρ h) (t : Tr w0 F0 ρ0 h0 w F ρ h) (hk : finish h0.length R h = some (R', objs')) :
 ∃ ids ρ', Inv P w F ρ' objs' ∧ Tr w0 F0 ρ0 h0 w F ρ' objs' ∧ Ren (idx ids) ρ h ρ' objs' ∧ renOut (idx ids) R = some R' :=
 qla _ i t hk
end
end Go.Ab
