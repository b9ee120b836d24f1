/-
 copy; what never changes any more.
-/
import Derived.Test.YtocnjegcmmfpfaaAbsSoundW
set_option linter.unusedSimpArgs false
set_option linter.unusedVariables false
namespace Go.Ab
open Go
section
variable {P : Program} {w w' : World} {F : Cells} {ρ ρ' : Nat → Reg} {h h' : Heap} {β : Type} {r : β}
theorem sound_copy {t u e ty : TypeId} {sz : Nat} {dst src : A} {vd vs : Value} {k : A → Heap → Option β} (i : Inv P w F ρ h) (hd : Rel P w F ρ h vd dst) (hs : Rel P w F ρ h vs src)
 (hu : P.underlying t = some (.slice e)) (he : sizeT P e = some sz) (hk : oCopy sz dst src h k = some r) :
 HYld P w F ρ h (do pure (.value (← Builtin.copy_ #[t, u] ty #[vd, vs]))) k r := by
 obtain ⟨ie, hie, rfl⟩ : ∃ ie, P.info? e = some ie ∧ ie.size = sz := by
  unfold sizeT at he; cases hh : P.info? e <;> simp_all
 unfold oCopy at hk
 split at hk <;> try (cases hk; done)
 rename_i new id ver sz' lo len hnew
 obtain ⟨sa, sc, us, rfl, swid, srel, srun, -⟩ := qce i hs hnew
 split at hk <;> try (cases hk; done)
 rename_i ob hob
 split at hk <;> try (cases hk; done)
 rename_i hcond
 obtain ⟨hver, hsz', hle⟩ := hcond
 subst hsz'
 obtain ⟨a, c, rfl, hl, hn, hlc, hsm, hy⟩ := hd.osl_inv
 have ko := i.obj id ob hob
 obtain ⟨g1, g2⟩ := (hy ob hob).2 hver.symm
 have hsz : ie.size = ob.sz := by rw [g1, ko.sz]
 simp only at hk
 generalize hm : min new.length len = m at hk
 have hm1 : m ≤ new.length := by omega
 have hm2 : m ≤ len := by omega
 have hnw : ∀ row ∈ new.take m, row.length = ob.sz := fun row hr => by rw [← hsz]; exact swid _ (List.mem_of_mem_take hr)
 have hnf : (new.take m).flatten = new.flatten.take (m * ie.size) := qdg m _ swid
 have hrel : RelC P w F ρ h (us.take (m * ie.size)) (new.take m).flatten := by
  rw [hnf]; simpa using srel.sub 0 (m * ie.size)
 have hwid' : ∀ row ∈ ob.rows.take lo ++ new.take m ++ ob.rows.drop (lo + m), row.length = ob.sz := fun row hr => by
  simp only [List.mem_append] at hr
  rcases hr with (hr | hr) | hr
  · exact ko.width _ (List.mem_of_mem_take hr)
  · exact hnw _ hr
  · exact ko.width _ (List.mem_of_mem_drop hr)
 have hnl : (new.take m).flatten.length = m * ob.sz := by rw [qb4 _ hnw]; simp [Nat.min_eq_left hm1]
 have hbnd : (lo + m) * ob.sz ≤ ob.rows.length * ob.sz := Nat.mul_le_mul_right _ (by omega)
 rw [Nat.add_mul] at hbnd
 obtain ⟨s1, s2, s3⟩ := i.write hob (rows' := ob.rows.take lo ++ new.take m ++ ob.rows.drop (lo + m)) (o := lo * ob.sz) hrel (by rw [hnl, qb4 _ ko.width]; exact hbnd)
  (by simp; omega) hwid' (by
   unfold qa5
   simp only [List.flatten_append]
   rw [qdg lo _ ko.width, qdR _ _ ko.width, hnl, Nat.add_mul])
 refine .value (v := goInt m) (w' := _) ?_ (.pure _ _ (.s _)) s2 s3 hk
 have hlen : Nat.min new.length len = m := hm
 have hrun := srun w (fun _ _ => rfl) m hm1
 have s1' := s1 P
 by_cases hc0 : c = 0
 · have hm0 : m = 0 := by omega
   have hus : us.take (m * ie.size) = [] := by simp [hm0]
   rw [hus] at s1' hrun ⊢
   have hw0 : w.setCells (ρ id).b ((ρ id).o + lo * ob.sz) [] = w := rfl
   rw [hw0]
   simp only [Builtin.copy_, List.getElem?_toArray, List.getElem?_cons_zero, List.getElem?_cons_succ, Sem.run_bind, run_underlying hu, Result.andThen_ok, Builtin.lenOf, Sem.run_pure, qac hie, hlen, hrun]
   cases a <;> simp [storeCells]
 · obtain ⟨g3, g4⟩ := g2 (by omega)
   subst g3
   rw [← hsz] at s1' ⊢
   simp only [Builtin.copy_, List.getElem?_toArray, List.getElem?_cons_zero, List.getElem?_cons_succ, Sem.run_bind, run_underlying hu, Result.andThen_ok, Builtin.lenOf, Sem.run_pure, qac hie, hlen, hrun, s1']
theorem Inv.kill (i : Inv P w F ρ h) {id : Nat} {ob : Obj} (hob : h[id]? = some (.live ob)) :
 Inv P w (fun b o => F b o ∨ (ρ id).has b o) ρ (h.set id .dead) ∧ Tr w F ρ h w (fun b o => F b o ∨ (ρ id).has b o) ρ (h.set id .dead) := by
 have hlt : id < h.length := (List.getElem?_eq_some_iff.1 hob).1
 have get : ∀ j ob', (h.set id .dead)[j]? = some (.live ob') → j ≠ id ∧ h[j]? = some (.live ob') := by
  intro j ob' hj
  rw [List.getElem?_set] at hj
  by_cases hji : id = j
  · subst hji; simp [hlt] at hj
  · simp only [hji, if_false] at hj; exact ⟨Ne.symm hji, hj⟩
 have getm : ∀ (j : Nat) kd es, (h.set id .dead)[j]? = some (Slot.mp kd es) → h[j]? = some (Slot.mp kd es) := by
  intro j kd es hj
  rw [List.getElem?_set] at hj
  by_cases hji : id = j
  · subst hji; simp [hlt] at hj
  · simpa only [hji, if_false] using hj
 have evo : Evo ρ h ρ (h.set id .dead) := by
  refine ⟨by simp, fun j hj hr => ?_, fun j oj hj hl => .inr ?_, fun j kd es hj hl => .inr ⟨es, getm j kd es hl, rfl⟩⟩
  · rw [List.getElem?_set] at hr
    by_cases hji : id = j
    · subst hji; simp [hlt] at hr
    · simpa only [hji, if_false] using hr
  · exact ⟨oj, (get j oj hl).2, Nat.le_refl _, fun _ => rfl⟩
 have tr : Tr w F ρ h w (fun b o => F b o ∨ (ρ id).has b o) ρ (h.set id .dead) := by
  refine ⟨.refl _ _, fun _ _ h => .inl h, fun b o hf => ?_, fun b o hm => .inl ?_, evo⟩
  · rcases hf with hf | hf
    · exact .inl hf
    · exact .inr (.inl (.of hob hf))
  · rcases hm with ⟨j, oj, hj, hr⟩ | ⟨j, kd, es, hj, rfl⟩
    · exact .of (get j oj hj).2 hr
    · exact .mp (getm j kd es hj) o
 refine ⟨⟨fun j oj hoj => ?_, fun j m oj om hjm hoj hom b o hb => i.disj j m oj om hjm (get _ _ hoj).2 (get _ _ hom).2 b o hb, fun b o hf => ?_, fun j kd es hj => (i.mp j kd es (getm j kd es hj)).keep (fun _ _ h => .inl h) (fun _ _ _ => rfl) rfl, fun j m kj ej km em hjm hj hm => i.mpd j m _ _ _ _ hjm (getm _ _ _ hj) (getm _ _ _ hm)⟩, tr⟩
 · obtain ⟨hne, hoj⟩ := get j oj hoj
   have k := i.obj j oj hoj
   refine ⟨k.sz, k.pos, k.len, k.width, fun m hm => ?_, fun a b ha hb => ?_⟩
   · obtain ⟨h1, h2, h3⟩ := k.cell m hm
     refine ⟨h1, h2, fun hh => hh.elim h3 fun hh => ?_⟩
     exact i.disj j id oj ob hne hoj hob _ _ (Reg.has_cell _ m hm) hh
   · obtain ⟨v, h1, h2, h3⟩ := k.rel a b ha hb
     exact ⟨v, h1, h2, h3.step i tr⟩
 · rcases hf with hf | hf
   · exact i.fin b o hf
   · exact (i.obj id ob hob).block hf
def FrzA (P : Program) (w : World) (ρ : Nat → Reg) (n : Nat) : Prop :=
 ∀ (F : Cells) (a : A) (h : Heap) (v : Value) (a' : A) (h' : Heap), Inv P w F ρ h → Rel P w F ρ h v a → frzA n a h = some (a', h') → ∃ F', Inv P w F' ρ h' ∧ Tr w F ρ h w F' ρ h' ∧ Fz P w F' v a'
def FrzL (P : Program) (w : World) (ρ : Nat → Reg) (n : Nat) : Prop :=
 ∀ (F : Cells) (l : List A) (h : Heap) (us : Nat → Value) (l' : List A) (h' : Heap), Inv P w F ρ h → (∀ i (hi : i < l.length), Rel P w F ρ h (us i) l[i]) → frzL n l h = some (l', h') →
   ∃ F', Inv P w F' ρ h' ∧ Tr w F ρ h w F' ρ h' ∧ l'.length = l.length ∧ ∀ i (hi : i < l'.length), Fz P w F' (us i) l'[i]
def FrzRows (P : Program) (w : World) (ρ : Nat → Reg) (n : Nat) : Prop :=
 ∀ (F : Cells) (l : List (List A)) (h : Heap) (us : Nat → Nat → Value) (l' : List (List A)) (h' : Heap), Inv P w F ρ h → (∀ i j (hi : i < l.length) (hj : j < l[i].length), Rel P w F ρ h (us i j) l[i][j]) →
   frzRows n l h = some (l', h') →
   ∃ F', Inv P w F' ρ h' ∧ Tr w F ρ h w F' ρ h' ∧ l'.length = l.length ∧ (∀ i (hi : i < l'.length) (hi' : i < l.length), l'[i].length = l[i].length) ∧ ∀ i j (hi : i < l'.length) (hj : j < l'[i].length), Fz P w F' (us i j) l'[i][j]
theorem frz_sound : ∀ n, FrzA P w ρ n ∧ FrzL P w ρ n ∧ FrzRows P w ρ n := by
 intro n
 induction n with
 | zero =>
   refine ⟨fun F a h v a' h' _ _ hk => ?_, fun F l h us l' h' _ _ hk => ?_, fun F l h us l' h' _ _ hk => ?_⟩
   · simp [frzA] at hk
   · simp [frzL] at hk
   · simp [frzRows] at hk
 | succ n ih =>
   obtain ⟨ihA, ihL, ihR⟩ := ih
   refine ⟨fun F a h v a' h' i hr hk => ?_, fun F l h us l' h' i hr hk => ?_, fun F l h us l' h' i hr hk => ?_⟩
   · unfold frzA at hk
     split at hk
     · simp at hk; obtain ⟨rfl, rfl⟩ := hk
       obtain rfl := hr.s_inv
       exact ⟨F, i, .refl _ _ _ _, .nilS _⟩
     · simp at hk; obtain ⟨rfl, rfl⟩ := hk
       exact ⟨F, i, .refl _ _ _ _, hr.fz rfl⟩
     · simp at hk; obtain ⟨rfl, rfl⟩ := hk
       exact ⟨F, i, .refl _ _ _ _, hr.fslFz.mkF⟩
     · cases hk
     · rename_i id ver row off
       obtain ⟨x, rfl, hl, hn, hx⟩ := hr.ptr_inv
       split at hk <;> try (cases hk; done)
       rename_i ob hob
       split at hk <;> try (cases hk; done)
       rename_i hver
       split at hk <;> try (cases hk; done)
       rename_i r hrows
       rw [Option.map_eq_some_iff] at hk
       obtain ⟨⟨r', h2⟩, hk, heq⟩ := hk
       cases heq
       have k := i.obj id ob hob
       have := (hx ob hob).2 hver.symm
       subst this
       have hrl : r.length = ob.sz := k.width r (by simp [hrows])
       have hcap : 1 ≤ (ρ id).cap := by have := k.len; simp [hrows] at this; omega
       have hcells : ∀ j (hj : j < r.length), ∃ v, w.cell? ⟨(ρ id).b, (ρ id).o + j, none⟩ = some v ∧ v.oneCell = true ∧ Rel P w F ρ h v r[j] := by
        intro j hj
        have := k.rel 0 j (by simp [hrows]) (by simpa [hrows] using hj)
        simpa [hrows] using this
       obtain ⟨i1, t1⟩ := i.kill hob
       let us : Nat → Value := fun j => (w.cell? ⟨(ρ id).b, (ρ id).o + j, none⟩).getD undef
       obtain ⟨F', i2, t2, l2, f2⟩ := ihL _ r _ us r' _ i1 (fun j hj => by
        obtain ⟨v, e1, e2, e3⟩ := hcells j hj
        simp only [us, e1, Option.getD_some]
        exact e3.step i t1) hk
       refine ⟨F', i2, t1.trans t2, ?_⟩
       have := Fz.cptr (P := P) (w := w) (F := F') (ρ id).b (ρ id).o r' us (fun j hj => ?_) f2
       · simpa using this
       · obtain ⟨v, e1, e2, e3⟩ := hcells j (by omega)
         refine ⟨t2.sub _ _ (.inr ⟨rfl, by omega, ?_⟩), by simp [us, e1], by simp [us, e1, e2]⟩
         have : 1 * (ρ id).sz ≤ (ρ id).cap * (ρ id).sz := Nat.mul_le_mul_right _ hcap
         have := k.sz
         omega
     · rename_i id ver sz lo len
       obtain ⟨a, c, rfl, hl, hn, hlc, hsm, hy⟩ := hr.osl_inv
       split at hk <;> try (cases hk; done)
       rename_i ob hob
       split at hk <;> try (cases hk; done)
       rename_i hcond
       obtain ⟨hver, hle⟩ := hcond
       rw [Option.map_eq_some_iff] at hk
       obtain ⟨⟨r', h2⟩, hk, heq⟩ := hk
       cases heq
       have k := i.obj id ob hob
       obtain ⟨g1, g2⟩ := (hy ob hob).2 hver.symm
       have hrl : ((ob.rows.drop lo).take len).length = len := by simp; omega
       have hget : ∀ j (hj : j < ((ob.rows.drop lo).take len).length), ((ob.rows.drop lo).take len)[j] = ob.rows[lo + j]'(by omega) := by intro j hj; simp
       have hcells : ∀ j m (hj : j < ((ob.rows.drop lo).take len).length) (hm : m < ((ob.rows.drop lo).take len)[j].length),
        ∃ v, w.cell? ⟨(ρ id).b, (ρ id).o + lo * ob.sz + j * ob.sz + m, none⟩ = some v ∧ v.oneCell = true ∧ Rel P w F ρ h v ((ob.rows.drop lo).take len)[j][m] := by
        intro j m hj hm
        have hm' := hm
        simp only [hget j hj] at hm'
        obtain ⟨v, e1, e2, e3⟩ := k.rel (lo + j) m (by omega) hm'
        refine ⟨v, ?_, e2, ?_⟩
        · rw [k.sz, Nat.add_mul, ← Nat.add_assoc] at e1; exact e1
        · simp only [hget j hj]; exact e3
       obtain ⟨i1, t1⟩ := i.kill hob
       let us : Nat → Nat → Value := fun j m => (w.cell? ⟨(ρ id).b, (ρ id).o + lo * ob.sz + j * ob.sz + m, none⟩).getD undef
       obtain ⟨F', i2, t2, l2, l3, f2⟩ := ihR _ _ _ us r' _ i1 (fun j m hj hm => by
        obtain ⟨v, e1, e2, e3⟩ := hcells j m hj hm
        simp only [us, e1, Option.getD_some]
        exact e3.step i t1) hk
       refine ⟨F', i2, t1.trans t2, Fz.mkF ?_⟩
       have hlen' : r'.length = len := by rw [l2, hrl]
       have hw' : ∀ row ∈ r', row.length = ob.sz := by
        intro row hrow
        obtain ⟨j, hj, rfl⟩ := List.mem_iff_getElem.1 hrow
        rw [l3 j hj (by omega), hget j (by omega)]
        exact k.width _ (List.getElem_mem _)
       have := Fz.fsl (P := P) (w := w) (F := F') a c ob.sz r' (ρ id).b ((ρ id).o + lo * ob.sz) us (by omega) (fun h0 => ?_) hw' (fun j m hj hm => ?_) f2
       · rwa [hlen'] at this
       · have := (g2 (by omega)).1; rw [this, g1, k.sz]
       · obtain ⟨v, e1, e2, e3⟩ := hcells j m (by omega) (by rw [hget j (by omega), k.width _ (List.getElem_mem _)]; exact hm)
         refine ⟨t2.sub _ _ (.inr ⟨rfl, by omega, ?_⟩), by simp [us, e1], by simp [us, e1, e2]⟩
         have h1 := k.len
         have : (lo + j + 1) * ob.sz ≤ (ρ id).cap * (ρ id).sz := by rw [k.sz]; exact Nat.mul_le_mul_right _ (by omega)
         rw [Nat.add_mul, Nat.add_mul] at this
         omega
     · rename_i cs
       obtain ⟨vs, rfl, hs, h1, hr⟩ := hr.agg_inv
       rw [Option.map_eq_some_iff] at hk
       obtain ⟨⟨r', h2⟩, hk, heq⟩ := hk
       cases heq
       obtain ⟨F', i2, t2, l2, f2⟩ := ihL _ cs _ (fun i => vs.getD i undef) r' _ i hr hk
       exact ⟨F', i2, t2, .agg vs r' (by omega) (fun j hj => h1 j (by omega)) f2⟩
     · rename_i cs
       obtain ⟨vs, rfl, hs, hr⟩ := hr.tup_inv
       rw [Option.map_eq_some_iff] at hk
       obtain ⟨⟨r', h2⟩, hk, heq⟩ := hk
       cases heq
       obtain ⟨F', i2, t2, l2, f2⟩ := ihL _ cs _ (fun i => vs.getD i undef) r' _ i hr hk
       exact ⟨F', i2, t2, .tup vs r' (by omega) f2⟩
     · rename_i nm cs
       rw [Option.map_eq_some_iff] at hk
       obtain ⟨⟨r', h2⟩, hk, heq⟩ := hk
       cases heq
       rcases hr.fn_inv with ⟨f, fn, caps, rfl, hf, hnm, hs, hr⟩ | ⟨f, fn, u, a, rfl, hf, hnm, rfl, hp, hr⟩
       · obtain ⟨F', i2, t2, l2, f2⟩ := ihL _ cs _ (fun i => caps.getD i undef) r' _ i hr hk
         exact ⟨F', i2, t2, hnm ▸ .fn f fn caps r' hf (by omega) f2⟩
       · have hq : pureL [bndM, a] = true := by simp [pureL, pureA, hp]
         cases n with
         | zero => simp [frzL] at hk
         | succ n =>
           simp only [frzL, hq, if_true, Option.some.injEq, Prod.mk.injEq] at hk
           obtain ⟨rfl, rfl⟩ := hk
           exact ⟨F, i, .refl _ _ _ _, hnm ▸ .bound f fn u a hf hp hr⟩
     · rename_i ty a
       obtain ⟨t, v, rfl, ht, hr⟩ := hr.iface_inv
       rw [Option.map_eq_some_iff] at hk
       obtain ⟨⟨a', h2⟩, hk, heq⟩ := hk
       cases heq
       obtain ⟨F', i2, t2, f2⟩ := ihA _ a _ v a' _ i hr hk
       exact ⟨F', i2, t2, .iface t ty v a' ht f2⟩
     · cases hk
   · unfold frzL at hk
     split at hk
     · rename_i hp
       simp at hk; obtain ⟨rfl, rfl⟩ := hk
       exact ⟨F, i, .refl _ _ _ _, rfl, fun j hj => (hr j hj).fz (qed hp j hj)⟩
     · split at hk
       · simp at hk; obtain ⟨rfl, rfl⟩ := hk
         exact ⟨F, i, .refl _ _ _ _, rfl, fun j hj => by simp at hj⟩
       · rename_i a rest _
         simp only [Option.bind_eq_some_iff, Option.map_eq_some_iff] at hk
         obtain ⟨⟨a', h1⟩, hk1, ⟨r', h2⟩, hk2, heq⟩ := hk
         cases heq
         obtain ⟨F1, i1, t1, f1⟩ := ihA _ a _ (us 0) a' h1 i (hr 0 (by simp)) hk1
         obtain ⟨F2, i2, t2, l2, f2⟩ := ihL _ rest _ (fun j => us (j + 1)) r' _ i1 (fun j hj => (hr (j + 1) (by simp; omega)).step i t1) hk2
         refine ⟨F2, i2, t1.trans t2, by simp [l2], fun j hj => ?_⟩
         cases j with
         | zero => exact f1.mono t2.sub (i1.kept t2.upd)
         | succ j => exact f2 j (by simpa using hj)
   · unfold frzRows at hk
     split at hk
     · rename_i hp
       simp at hk; obtain ⟨rfl, rfl⟩ := hk
       refine ⟨F, i, .refl _ _ _ _, rfl, fun _ _ _ => rfl, fun j m hj hm => (hr j m hj hm).fz (qed ?_ m hm)⟩
       unfold qay at hp
       exact List.all_eq_true.1 hp _ (List.getElem_mem hj)
     · split at hk
       · simp at hk; obtain ⟨rfl, rfl⟩ := hk
         exact ⟨F, i, .refl _ _ _ _, rfl, fun _ _ _ => rfl, fun j m hj => by simp at hj⟩
       · rename_i a rest _
         simp only [Option.bind_eq_some_iff, Option.map_eq_some_iff] at hk
         obtain ⟨⟨a', h1⟩, hk1, ⟨r', h2⟩, hk2, heq⟩ := hk
         cases heq
         obtain ⟨F1, i1, t1, l1, f1⟩ := ihL _ a _ (us 0) a' h1 i (fun m hm => hr 0 m (by simp) hm) hk1
         obtain ⟨F2, i2, t2, l2, l3, f2⟩ := ihR _ rest _ (fun j => us (j + 1)) r' _ i1 (fun j m hj hm => (hr (j + 1) m (by simp; omega) hm).step i t1) hk2
         refine ⟨F2, i2, t1.trans t2, by simp [l2], fun j hj hj' => ?_, fun j m hj hm => ?_⟩
         · cases j with
           | zero => exact l1
           | succ j => exact l3 j (by simpa using hj) (by simpa using hj')
         · cases j with
           | zero => exact (f1 m hm).mono t2.sub (i1.kept t2.upd)
           | succ j => exact f2 j m (by simpa using hj) hm
def lentF (F : Cells) (ρ : Nat → Reg) (h : Heap) : Cells := fun b o => F b o ∨ Mem ρ h b o
theorem lentF_nil (F : Cells) (ρ : Nat → Reg) : lentF F ρ [] = F := by
 funext b o
 apply propext
 constructor
 · rintro (h | ⟨id, ob, h, _⟩ | ⟨id, kd, es, h, _⟩)
   · exact h
   · simp at h
   · simp at h
 · exact .inl
theorem Fz.lent {v : Value} {a : A} (z : Fz P w F v a) : Fz P w (lentF F ρ h) v a := z.mono (fun _ _ h => .inl h) fun _ _ _ => rfl
theorem qkl (i : Inv P w F ρ h) : ∀ n,
 (∀ (a : A) (v : Value) (a' : A), Rel P w F ρ h v a → lendA n a h = some a' → Fz P w (lentF F ρ h) v a') ∧
 (∀ (l : List A) (us : Nat → Value) (l' : List A), (∀ j (hj : j < l.length), Rel P w F ρ h (us j) l[j]) → lendL n l h = some l' → l'.length = l.length ∧ ∀ j (hj : j < l'.length), Fz P w (lentF F ρ h) (us j) l'[j]) ∧
 (∀ (l : List (List A)) (us : Nat → Nat → Value) (l' : List (List A)), (∀ j m (hj : j < l.length) (hm : m < l[j].length), Rel P w F ρ h (us j m) l[j][m]) → qdP n l h = some l' →
  l'.length = l.length ∧ (∀ j (hj : j < l'.length) (hj' : j < l.length), l'[j].length = l[j].length) ∧ ∀ j m (hj : j < l'.length) (hm : m < l'[j].length), Fz P w (lentF F ρ h) (us j m) l'[j][m]) := by
 intro n
 induction n with
 | zero =>
   refine ⟨fun a v a' _ hk => ?_, fun l us l' _ hk => ?_, fun l us l' _ hk => ?_⟩
   · simp [lendA] at hk
   · simp [lendL] at hk
   · simp [qdP] at hk
 | succ n ih =>
   obtain ⟨ihA, ihL, ihR⟩ := ih
   refine ⟨fun a v a' hr hk => ?_, fun l us l' hr hk => ?_, fun l us l' hr hk => ?_⟩
   · unfold lendA at hk
     split at hk
     · simp at hk; subst hk
       obtain rfl := hr.s_inv
       exact .nilS _
     · simp at hk; subst hk
       exact (hr.fz rfl).lent
     · simp at hk; subst hk
       exact hr.fslFz.mkF.lent
     · cases hk
     · rename_i id ver row off
       obtain ⟨x, rfl, hl, hn, hx⟩ := hr.ptr_inv
       split at hk <;> try (cases hk; done)
       rename_i ob hob
       split at hk <;> try (cases hk; done)
       rename_i hver
       split at hk <;> try (cases hk; done)
       rename_i r hrows
       rw [Option.map_eq_some_iff] at hk
       obtain ⟨r', hk, heq⟩ := hk
       cases heq
       have k := i.obj id ob hob
       have := (hx ob hob).2 hver.symm
       subst this
       have hrl : r.length = ob.sz := k.width r (by simp [hrows])
       have hcap : 1 ≤ (ρ id).cap := by have := k.len; simp [hrows] at this; omega
       have hcells : ∀ j (hj : j < r.length), ∃ v, w.cell? ⟨(ρ id).b, (ρ id).o + j, none⟩ = some v ∧ v.oneCell = true ∧ Rel P w F ρ h v r[j] := by
        intro j hj
        have := k.rel 0 j (by simp [hrows]) (by simpa [hrows] using hj)
        simpa [hrows] using this
       let us : Nat → Value := fun j => (w.cell? ⟨(ρ id).b, (ρ id).o + j, none⟩).getD undef
       obtain ⟨l2, f2⟩ := ihL r us r' (fun j hj => by
        obtain ⟨v, e1, e2, e3⟩ := hcells j hj
        simp only [us, e1, Option.getD_some]
        exact e3) hk
       have := Fz.cptr (P := P) (w := w) (F := lentF F ρ h) (ρ id).b (ρ id).o r' us (fun j hj => ?_) f2
       · simpa using this
       · obtain ⟨v, e1, e2, e3⟩ := hcells j (by omega)
         refine ⟨.inr (.of hob ⟨rfl, by omega, ?_⟩), by simp [us, e1], by simp [us, e1, e2]⟩
         have : 1 * (ρ id).sz ≤ (ρ id).cap * (ρ id).sz := Nat.mul_le_mul_right _ hcap
         have := k.sz
         omega
     · rename_i id ver sz lo len
       obtain ⟨a, c, rfl, hl, hn, hlc, hsm, hy⟩ := hr.osl_inv
       split at hk <;> try (cases hk; done)
       rename_i ob hob
       split at hk <;> try (cases hk; done)
       rename_i hcond
       obtain ⟨hver, hle⟩ := hcond
       rw [Option.map_eq_some_iff] at hk
       obtain ⟨r', hk, heq⟩ := hk
       subst heq
       have k := i.obj id ob hob
       obtain ⟨g1, g2⟩ := (hy ob hob).2 hver.symm
       have hrl : ((ob.rows.drop lo).take len).length = len := by simp; omega
       have hget : ∀ j (hj : j < ((ob.rows.drop lo).take len).length), ((ob.rows.drop lo).take len)[j] = ob.rows[lo + j]'(by omega) := by intro j hj; simp
       have hcells : ∀ j m (hj : j < ((ob.rows.drop lo).take len).length) (hm : m < ((ob.rows.drop lo).take len)[j].length),
        ∃ v, w.cell? ⟨(ρ id).b, (ρ id).o + lo * ob.sz + j * ob.sz + m, none⟩ = some v ∧ v.oneCell = true ∧ Rel P w F ρ h v ((ob.rows.drop lo).take len)[j][m] := by
        intro j m hj hm
        have hm' := hm
        simp only [hget j hj] at hm'
        obtain ⟨v, e1, e2, e3⟩ := k.rel (lo + j) m (by omega) hm'
        refine ⟨v, ?_, e2, ?_⟩
        · rw [k.sz, Nat.add_mul, ← Nat.add_assoc] at e1; exact e1
        · simp only [hget j hj]; exact e3
       let us : Nat → Nat → Value := fun j m => (w.cell? ⟨(ρ id).b, (ρ id).o + lo * ob.sz + j * ob.sz + m, none⟩).getD undef
       obtain ⟨l2, l3, f2⟩ := ihR _ us r' (fun j m hj hm => by
        obtain ⟨v, e1, e2, e3⟩ := hcells j m hj hm
        simp only [us, e1, Option.getD_some]
        exact e3) hk
       refine Fz.mkF ?_
       have hlen' : r'.length = len := by rw [l2, hrl]
       have hw' : ∀ row ∈ r', row.length = ob.sz := by
        intro row hrow
        obtain ⟨j, hj, rfl⟩ := List.mem_iff_getElem.1 hrow
        rw [l3 j hj (by omega), hget j (by omega)]
        exact k.width _ (List.getElem_mem _)
       have := Fz.fsl (P := P) (w := w) (F := lentF F ρ h) a c ob.sz r' (ρ id).b ((ρ id).o + lo * ob.sz) us (by omega) (fun h0 => ?_) hw' (fun j m hj hm => ?_) f2
       · rwa [hlen'] at this
       · have := (g2 (by omega)).1; rw [this, g1, k.sz]
       · obtain ⟨v, e1, e2, e3⟩ := hcells j m (by omega) (by rw [hget j (by omega), k.width _ (List.getElem_mem _)]; exact hm)
         refine ⟨.inr (.of hob ⟨rfl, by omega, ?_⟩), by simp [us, e1], by simp [us, e1, e2]⟩
         have h1 := k.len
         have : (lo + j + 1) * ob.sz ≤ (ρ id).cap * (ρ id).sz := by rw [k.sz]; exact Nat.mul_le_mul_right _ (by omega)
         rw [Nat.add_mul, Nat.add_mul] at this
         omega
     · rename_i cs
       obtain ⟨vs, rfl, hs, h1, hr⟩ := hr.agg_inv
       rw [Option.map_eq_some_iff] at hk
       obtain ⟨r', hk, heq⟩ := hk
       cases heq
       obtain ⟨l2, f2⟩ := ihL cs (fun i => vs.getD i undef) r' hr hk
       exact .agg vs r' (by omega) (fun j hj => h1 j (by omega)) f2
     · rename_i cs
       obtain ⟨vs, rfl, hs, hr⟩ := hr.tup_inv
       rw [Option.map_eq_some_iff] at hk
       obtain ⟨r', hk, heq⟩ := hk
       cases heq
       obtain ⟨l2, f2⟩ := ihL cs (fun i => vs.getD i undef) r' hr hk
       exact .tup vs r' (by omega) f2
     · rename_i nm cs
       rw [Option.map_eq_some_iff] at hk
       obtain ⟨r', hk, heq⟩ := hk
       cases heq
       rcases hr.fn_inv with ⟨f, fn, caps, rfl, hf, hnm, hs, hr⟩ | ⟨f, fn, u, a, rfl, hf, hnm, rfl, hp, hr⟩
       · obtain ⟨l2, f2⟩ := ihL cs (fun i => caps.getD i undef) r' hr hk
         exact hnm ▸ .fn f fn caps r' hf (by omega) f2
       · have hq : pureL [bndM, a] = true := by simp [pureL, pureA, hp]
         cases n with
         | zero => simp [lendL] at hk
         | succ n =>
           simp only [lendL, hq, if_true, Option.some.injEq] at hk
           subst hk
           exact hnm ▸ .bound f fn u a hf hp hr.lent
     · rename_i ty a
       obtain ⟨t, v, rfl, ht, hr⟩ := hr.iface_inv
       rw [Option.map_eq_some_iff] at hk
       obtain ⟨a', hk, heq⟩ := hk
       cases heq
       exact .iface t ty v a' ht (ihA a v a' hr hk)
     · cases hk
   · unfold lendL at hk
     split at hk
     · rename_i hp
       simp at hk; subst hk
       exact ⟨rfl, fun j hj => ((hr j hj).fz (qed hp j hj)).lent⟩
     · split at hk
       · simp at hk; subst hk
         exact ⟨rfl, fun j hj => by simp at hj⟩
       · rename_i a rest _
         simp only [Option.bind_eq_some_iff, Option.map_eq_some_iff] at hk
         obtain ⟨a', hk1, r', hk2, heq⟩ := hk
         subst heq
         have f1 := ihA a (us 0) a' (hr 0 (by simp)) hk1
         obtain ⟨l2, f2⟩ := ihL rest (fun j => us (j + 1)) r' (fun j hj => hr (j + 1) (by simp; omega)) hk2
         refine ⟨by simp [l2], fun j hj => ?_⟩
         cases j with
         | zero => exact f1
         | succ j => exact f2 j (by simpa using hj)
   · unfold qdP at hk
     split at hk
     · rename_i hp
       simp at hk; subst hk
       refine ⟨rfl, fun _ _ _ => rfl, fun j m hj hm => ((hr j m hj hm).fz (qed ?_ m hm)).lent⟩
       unfold qay at hp
       exact List.all_eq_true.1 hp _ (List.getElem_mem hj)
     · split at hk
       · simp at hk; subst hk
         exact ⟨rfl, fun _ _ _ => rfl, fun j m hj => by simp at hj⟩
       · rename_i a rest _
         simp only [Option.bind_eq_some_iff, Option.map_eq_some_iff] at hk
         obtain ⟨a', hk1, r', hk2, heq⟩ := hk
         subst heq
         obtain ⟨l1, f1⟩ := ihL a (us 0) a' (fun m hm => hr 0 m (by simp) hm) hk1
         obtain ⟨l2, l3, f2⟩ := ihR rest (fun j => us (j + 1)) r' (fun j m hj hm => hr (j + 1) m (by simp; omega) hm) hk2
         refine ⟨by simp [l2], fun j hj hj' => ?_, fun j m hj hm => ?_⟩
         · cases j with
           | zero => exact l1
           | succ j => exact l3 j (by simpa using hj) (by simpa using hj')
         · cases j with
           | zero => exact f1 m hm
           | succ j => exact f2 j m (by simpa using hj) hm
theorem qey : ∀ {l : List A}, ownL l = true → ∀ i (h : i < l.length), ownA l[i] = true
 | a :: r, hp, i, hi => by
   simp only [ownL, Bool.and_eq_true] at hp
   cases i with
   | zero => exact hp.1
   | succ i => exact qey hp.2 i (by simpa using hi)
theorem Fz.own {F' : Cells} {v : Value} {a : A} (z : Fz P w F v a) (ho : ownA a = true) : Fz P w F' v a := by
 induction z with
 | s v => exact .s v
 | cptr => cases ho
 | fsl a c sz rows b o vs hlc ha hw hc hr ih =>
   cases rows with
   | cons x y => cases ho
   | nil => exact .fsl a c sz [] b o vs hlc ha hw (fun i j h => by simp at h) fun i j h => by simp at h
 | agg vs cs hs h1 hr ih => exact .agg vs cs hs h1 fun i hi => ih i hi (qey ho i hi)
 | tup vs cs hs hr ih => exact .tup vs cs hs fun i hi => ih i hi (qey ho i hi)
 | fn f fn caps cs hf hs hr ih => exact .fn f fn caps cs hf hs fun i hi => ih i hi (qey ho i hi)
 | bound f fn v a hf hp hr ih => exact .bound f fn v a hf hp (ih (qey (l := [bndM, a]) ho 1 (by simp)))
 | iface t ty v a ht hr ih => exact .iface t ty v a ht (ih ho)
theorem Rel.own {F' : Cells} {v : Value} {a : A} (r : Rel P w F ρ h v a) (ho : ownA a = true) : Rel P w F' ρ h v a := by
 induction r with
 | pure v a hz => exact .pure _ _ (hz.own ho)
 | any v => exact .any v
 | ptr x id ver row off hl hn hx => exact .ptr x id ver row off hl hn hx
 | osl a len c id ver sz lo hl hn hc ha hx => exact .osl a len c id ver sz lo hl hn hc ha hx
 | agg vs cs hs h1 hr ih => exact .agg vs cs hs h1 fun i hi => ih i hi (qey ho i hi)
 | tup vs cs hs hr ih => exact .tup vs cs hs fun i hi => ih i hi (qey ho i hi)
 | fn f fn caps cs hf hs hr ih => exact .fn f fn caps cs hf hs fun i hi => ih i hi (qey ho i hi)
 | iface t ty v a ht hr ih => exact .iface t ty v a ht (ih ho)
 | mref b id hl hn hx => cases ho
theorem qkd {a : A} {v : Value} {k : A → Heap → Option β} (i : Inv P w F ρ h) (hr : Rel P w F ρ h v a) (hk : oFrz a h k = some r) :
 ∃ F' a' h', Inv P w F' ρ h' ∧ Tr w F ρ h w F' ρ h' ∧ Rel P w F' ρ h' v a' ∧ k a' h' = some r := by
 unfold oFrz at hk
 split at hk
 · exact ⟨F, a, h, i, .refl _ _ _ _, hr, hk⟩
 · split at hk <;> try (cases hk; done)
   rename_i a' h' ha
   obtain ⟨F', i1, t1, f1⟩ := (frz_sound 1000).1 F a h v a' h' i hr ha
   exact ⟨F', a', h', i1, t1, .pure _ _ f1, hk⟩
end
end Go.Ab
