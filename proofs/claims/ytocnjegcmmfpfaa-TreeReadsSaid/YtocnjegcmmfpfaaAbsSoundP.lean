/-
 THE ABSTRACT MACHINE's OPERATIONS ON VALUES ALONE do what the machine's do.
-/
import Derived.Test.YtocnjegcmmfpfaaAbsInv
set_option linter.unusedSimpArgs false
set_option linter.unusedVariables false
namespace Go.Ab
open Go
section
variable {P : Program} {w : World} {F : Cells} {ρ : Nat → Reg} {hp : Heap} {β : Type} {r : β} {k : A → Option β}
def Yld (P : Program) (w : World) (F : Cells) (ρ : Nat → Reg) (hp : Heap) (s : Sem Value) (k : A → Option β) (r : β) : Prop :=
 ∃ v a, s.run P w = .ok v w ∧ Rel P w F ρ hp v a ∧ k a = some r
theorem sound_pick {c a b : A} {vc va vb : Value} (hc : Rel P w F ρ hp vc c) (ha : Rel P w F ρ hp va a) (hb : Rel P w F ρ hp vb b) (h : oPick c a b k = some r) :
 Yld P w F ρ hp (do pure (if ← asBool vc then va else vb)) k r := by
 unfold oPick at h
 split at h
 · rename_i c
   obtain rfl := hc.s_inv
   cases c
   · exact ⟨vb, b, by simp [asBool], hb, by simpa using h⟩
   · exact ⟨va, a, by simp [asBool], ha, by simpa using h⟩
 · cases h
theorem qlv {s : TypeId} {f off : Nat} {sh : Option Nat} {n : Nat} {x : A} {vx : Value} (hf : fieldT P s f = some (off, sh, n)) (hx : Rel P w F ρ hp vx x) (h : oFieldA off x k = some r) :
 Yld P w F ρ hp (Instr.fieldAt s vx f) k r := by
 unfold fieldT at hf
 split at hf <;> try (simp at hf; done)
 rename_i fs hu
 split at hf <;> try (simp at hf; done)
 rename_i fd hfd
 split at hf <;> try (simp at hf; done)
 rename_i sh' i hsh hi
 split at hf <;> simp at hf
 rename_i hz
 obtain ⟨rfl, rfl, rfl⟩ := hf
 unfold oFieldA at h
 split at h
 · rename_i id ver row o
   obtain ⟨y, rfl, hl, hn, hy⟩ := hx.ptr_inv
   have hrun : (Instr.fieldAt s (.pointer (some y)) f).run P w = .ok (.pointer (some (y.add fd.offset))) w := by
    simp [Instr.fieldAt, run_underlying hu, hfd, Instr.sureAddr, fieldPlace, qac hi, hz]
   refine ⟨_, _, hrun, .ptr _ id ver row (o + fd.offset) hl hn fun ob hob => ⟨(hy ob hob).1, fun hv => ?_⟩, h⟩
   rw [(hy ob hob).2 hv, qcg]; simp [Nat.add_assoc]
 · rename_i cs
   obtain ⟨b, o, vs, rfl, hc, hr⟩ := hx.cptr_inv
   have hrun : (Instr.fieldAt s (.pointer (some ⟨b, o, none⟩)) f).run P w = .ok (.pointer (some ⟨b, o + fd.offset, none⟩)) w := by
    simp [Instr.fieldAt, run_underlying hu, hfd, Instr.sureAddr, fieldPlace, qac hi, hz, qcg]
   refine ⟨_, _, hrun, .pure _ _ (.cptr b (o + fd.offset) _ (fun i => vs (fd.offset + i)) (fun i hi => ?_) (fun i hi => ?_)), h⟩
   · simp at hi
     have := hc (fd.offset + i) (by omega)
     rwa [← Nat.add_assoc] at this
   · simp at hi
     have := hr (fd.offset + i) (by omega)
     simpa using this
 · cases h
theorem arr_get (vs : Array Value) (i : Nat) (h : i < vs.size) : vs[i]? = some (vs.getD i undef) := by
 rw [Array.getElem?_eq_getElem h]; simp [Array.getD, h]
theorem qiE {α : Type} (vs : Array α) (a n j : Nat) (d : α) (h : a + j < vs.size) (hj : j < n) : (vs.extract a (a + n)).getD j d = vs.getD (a + j) d := by
 have h1 : j < (vs.extract a (a + n)).size := by simp; omega
 simp only [Array.getD, h1, h, dif_pos]
 simp
theorem qn5 {t : TypeId} {sh : Option Nat} {vs : Array Value} {cs : List A} {off : Nat} {a : A} (hsh : shapeT P t = some sh) (hs : vs.size = cs.length)
 (h1 : ∀ i, i < cs.length → (vs.getD i undef).oneCell = true) (hr : ∀ i (h' : i < cs.length), Rel P w F ρ hp (vs.getD i undef) cs[i]) (hc : cellsAt sh cs off = some a) :
 ∃ v, (part t vs off).run P w = .ok v w ∧ Rel P w F ρ hp v a := by
 cases sh with
 | none =>
   simp only [cellsAt] at hc
   obtain ⟨ho, rfl⟩ := List.getElem?_eq_some_iff.1 hc
   refine ⟨vs.getD off undef, ?_, hr off ho⟩
   simp only [part, Sem.run_bind, qgM hsh, Result.andThen_ok, Bool.false_eq_true, if_false]
   rw [arr_get vs off (by omega)]; rfl
 | some n =>
   simp only [cellsAt] at hc
   split at hc <;> simp at hc
   rename_i hle
   subst hc
   obtain ⟨i, hi, hn, _⟩ := qdq hsh
   refine ⟨.agg (vs.extract off (off + n)), ?_, .agg _ _ (by simp; omega) (fun j hj => ?_) (fun j hj => ?_)⟩
   · simp [part, qgL hsh, qac hi, hn]
   · simp at hj
     rw [qiE _ _ _ _ _ (by omega) (by omega)]; exact h1 (off + j) (by omega)
   · simp at hj
     rw [qiE _ _ _ _ _ (by omega) (by omega)]
     have := hr (off + j) (by omega)
     simpa using this
theorem qmz {s : TypeId} {f off : Nat} {sh : Option Nat} {n : Nat} {x : A} {vx : Value} (hf : fieldT P s f = some (off, sh, n)) (hx : Rel P w F ρ hp vx x) (h : oField off sh x k = some r) :
 Yld P w F ρ hp (Instr.field s vx f) k r := by
 unfold fieldT at hf
 split at hf <;> try (simp at hf; done)
 rename_i fs hu
 split at hf <;> try (simp at hf; done)
 rename_i fd hfd
 split at hf <;> try (simp at hf; done)
 rename_i sh' i hsh hi
 split at hf <;> simp at hf
 obtain ⟨rfl, rfl, rfl⟩ := hf
 unfold oField at h
 split at h <;> try (simp at h; done)
 rename_i cs
 obtain ⟨vs, rfl, hs, h1, hr⟩ := hx.agg_inv
 split at h <;> try (simp at h; done)
 rename_i a hc
 obtain ⟨v, hv, hva⟩ := qn5 hsh hs h1 hr hc
 exact ⟨v, a, by simp [Instr.field, run_underlying hu, hfd, asAgg, hv], hva, h⟩
theorem sound_idxA {t e : TypeId} {sz : Nat} {x i : A} {vx vi : Value} (hu : P.underlying t = some (.slice e)) (he : sizeT P e = some sz) (hx : Rel P w F ρ hp vx x) (hi : Rel P w F ρ hp vi i)
 (h : oIdxA sz x i k = some r) : Yld P w F ρ hp (Instr.indexAt t vx vi) k r := by
 obtain ⟨ie, hie, rfl⟩ : ∃ ie, P.info? e = some ie ∧ ie.size = sz := by
  unfold sizeT at he; cases hh : P.info? e <;> simp_all
 unfold oIdxA at h
 split at h
 · rename_i id ver sz' lo len kd n
   obtain rfl := hi.s_inv
   obtain ⟨a, c, rfl, hl, hn, hlc, hsm, hy⟩ := hx.osl_inv
   split at h <;> try (simp at h; done)
   rename_i hcond
   obtain ⟨rfl, h0, h1⟩ := hcond
   obtain ⟨a, rfl⟩ := hsm (by omega)
   have hrun : (Instr.indexAt t (.slice (some a) len c) (.int kd n)).run P w = .ok (.pointer (some (a.add (n.toNat * ie.size)))) w := by
    simp [Instr.indexAt, asIntOf, run_underlying hu, h0, h1, qac hie]
   refine ⟨_, _, hrun, .ptr _ id ver (lo + n.toNat) 0 hl hn fun ob hob => ⟨(hy ob hob).1, fun hv => ?_⟩, h⟩
   obtain ⟨g1, g2⟩ := (hy ob hob).2 hv
   obtain ⟨g3, g4⟩ := g2 (by omega)
   simp at g3
   rw [g3, qcg, ← g1, Nat.add_mul]; simp [Nat.add_assoc]
 · rename_i sz' rows kd n
   obtain rfl := hi.s_inv
   obtain ⟨a, c, b, o, vs, rfl, hlc, ha, hw, hc, hr⟩ := hx.fsl_inv
   split at h <;> try (simp at h; done)
   rename_i hcond
   obtain ⟨rfl, h0⟩ := hcond
   split at h <;> try (simp at h; done)
   rename_i row hrow
   obtain ⟨hlt, rfl⟩ := List.getElem?_eq_some_iff.1 hrow
   obtain rfl := ha (by omega)
   have hrun : (Instr.indexAt t (.slice (some ⟨b, o, none⟩) rows.length c) (.int kd n)).run P w = .ok (.pointer (some ⟨b, o + n.toNat * ie.size, none⟩)) w := by
    have : n < (rows.length : Int) := by omega
    simp [Instr.indexAt, asIntOf, run_underlying hu, h0, this, qac hie, qcg]
   refine ⟨_, _, hrun, .pure _ _ (.cptr b _ _ (vs n.toNat) (fun j hj => ?_) (fun j hj => hr _ _ hlt hj)), h⟩
   rw [hw _ (List.getElem_mem hlt)] at hj
   exact hc _ _ hlt hj
 · cases h
theorem qlu {t e : TypeId} {len sz : Nat} {x i : A} {vx vi : Value} (hu : P.underlying t = some (.array len e)) (he : sizeT P e = some sz) (hx : Rel P w F ρ hp vx x) (hi : Rel P w F ρ hp vi i)
 (h : oIdxArr len sz x i k = some r) : Yld P w F ρ hp (Instr.indexAt t vx vi) k r := by
 obtain ⟨ie, hie, rfl⟩ : ∃ ie, P.info? e = some ie ∧ ie.size = sz := by
  unfold sizeT at he; cases hh : P.info? e <;> simp_all
 unfold oIdxArr at h
 split at h
 · rename_i id ver row o kd n
   obtain rfl := hi.s_inv
   obtain ⟨y, rfl, hl, hn, hy⟩ := hx.ptr_inv
   split at h <;> try (simp at h; done)
   rename_i hcond
   have hrun : (Instr.indexAt t (.pointer (some y)) (.int kd n)).run P w = .ok (.pointer (some (y.add (n.toNat * ie.size)))) w := by
    simp [Instr.indexAt, asIntOf, run_underlying hu, hcond.1, hcond.2, qac hie, Instr.sureAddr]
   refine ⟨_, _, hrun, .ptr _ id ver row _ hl hn fun ob hob => ⟨(hy ob hob).1, fun hv => ?_⟩, h⟩
   rw [(hy ob hob).2 hv, qcg]; simp [Nat.add_assoc]
 · rename_i cs kd n
   obtain rfl := hi.s_inv
   obtain ⟨b, o, vs, rfl, hc, hr⟩ := hx.cptr_inv
   split at h <;> try (simp at h; done)
   rename_i hcond
   have hrun : (Instr.indexAt t (.pointer (some ⟨b, o, none⟩)) (.int kd n)).run P w = .ok (.pointer (some ⟨b, o + n.toNat * ie.size, none⟩)) w := by
    simp [Instr.indexAt, asIntOf, run_underlying hu, hcond.1, hcond.2, qac hie, Instr.sureAddr, qcg]
   refine ⟨_, _, hrun, .pure _ _ (.cptr b _ _ (fun i => vs (n.toNat * ie.size + i)) (fun i hi => ?_) (fun i hi => ?_)), h⟩
   · simp at hi
     have := hc (n.toNat * ie.size + i) (by omega)
     rwa [← Nat.add_assoc] at this
   · simp at hi
     have := hr (n.toNat * ie.size + i) (by omega)
     simpa using this
 · cases h
theorem qmy {t e : TypeId} {len sz : Nat} {sh : Option Nat} {x i : A} {vx vi : Value} (hu : P.underlying t = some (.array len e)) (he : sizeT P e = some sz) (hsh : shapeT P e = some sh)
 (hx : Rel P w F ρ hp vx x) (hi : Rel P w F ρ hp vi i) (h : oIndex len sz sh x i k = some r) : Yld P w F ρ hp (Instr.index t vx vi) k r := by
 obtain ⟨ie, hie, rfl⟩ : ∃ ie, P.info? e = some ie ∧ ie.size = sz := by
  unfold sizeT at he; cases hh : P.info? e <;> simp_all
 unfold oIndex at h
 split at h <;> try (simp at h; done)
 rename_i cs kd n
 obtain rfl := hi.s_inv
 obtain ⟨vs, rfl, hs, h1, hr⟩ := hx.agg_inv
 split at h <;> try (simp at h; done)
 rename_i hcond
 split at h <;> try (simp at h; done)
 rename_i a hc
 obtain ⟨v, hv, hva⟩ := qn5 hsh hs h1 hr hc
 exact ⟨v, a, by simp [Instr.index, asIntOf, run_underlying hu, hcond.1, hcond.2, qac hie, hv], hva, h⟩
theorem qjV {t : TypeId} {x i : A} {vx vi : Value} (hu : P.underlying t = some .string) (hx : Rel P w F ρ hp vx x) (hi : Rel P w F ρ hp vi i) (h : qfo x i k = some r) :
 Yld P w F ρ hp (Instr.index t vx vi) k r := by
 unfold qfo at h
 split at h <;> try (simp at h; done)
 rename_i s kd n
 obtain rfl := hx.s_inv
 obtain rfl := hi.s_inv
 split at h <;> try (simp at h; done)
 rename_i h0
 split at h <;> try (simp at h; done)
 rename_i b hb
 exact ⟨_, _, by simp [Instr.index, asIntOf, run_underlying hu, h0, hb], .s_mk _, h⟩
theorem qkD {i : Nat} {x : A} {vx : Value} (hx : Rel P w F ρ hp vx x) (h : qae i x k = some r) : Yld P w F ρ hp (Instr.extract vx i) k r := by
 unfold qae at h
 split at h <;> try (simp at h; done)
 rename_i cs
 obtain ⟨vs, rfl, hs, hr⟩ := hx.tup_inv
 split at h <;> try (simp at h; done)
 rename_i a ha
 obtain ⟨hi, rfl⟩ := List.getElem?_eq_some_iff.1 ha
 refine ⟨vs.getD i undef, _, ?_, hr i hi, h⟩
 simp only [Instr.extract]
 rw [arr_get vs i (by omega)]; rfl
theorem qe1 {x : A} {vx : Value} {a y : Nat} {d : Nat} {code : BoundsCode} (hx : Rel P w F ρ hp vx x) (h : bnd (some x) d = some a) (hy : a ≤ y) : (Instr.sliceBound vx y code).run P w = .ok a w := by
 cases x <;> simp only [bnd] at h <;> try (cases h; done)
 rename_i u
 obtain rfl := hx.s_inv
 cases vx <;> simp only [] at h <;> try (cases h; done)
 rename_i kd n
 split at h <;> simp at h
 rename_i h0
 subst h
 simp [Instr.sliceBound, asIntOf, h0, show n ≤ (y : Int) by omega]
theorem qfY {lo hi : Option A} {vlo vhi : Option Value} {len cap a b : Nat} (hlo : ∀ x, lo = some x → ∃ v, vlo = some v ∧ Rel P w F ρ hp v x) (hlo' : lo = none → vlo = none)
 (hhi : ∀ x, hi = some x → ∃ v, vhi = some v ∧ Rel P w F ρ hp v x) (hhi' : hi = none → vhi = none)
 (ha : bnd lo 0 = some a) (hb : bnd hi len = some b) (hab : a ≤ b) (hbc : b ≤ cap) : (Instr.sliceBounds true len cap vlo vhi none).run P w = .ok (a, b, cap) w := by
 unfold Instr.sliceBounds
 cases hi with
 | none =>
   obtain rfl := hhi' rfl
   simp [bnd] at hb
   subst hb
   cases lo with
   | none => obtain rfl := hlo' rfl; simp [bnd] at ha; simp [ha]
   | some x => obtain ⟨v, rfl, hv⟩ := hlo x rfl; simp [qe1 hv ha hab]
 | some y =>
   obtain ⟨u, rfl, hu⟩ := hhi y rfl
   cases lo with
   | none => obtain rfl := hlo' rfl; simp [bnd] at ha; simp [ha, qe1 hu hb hbc]
   | some x => obtain ⟨v, rfl, hv⟩ := hlo x rfl; simp [qe1 hv ha hab, qe1 hu hb hbc]
theorem qmx {t e : TypeId} {sz : Nat} {x : A} {lo hi : Option A} {vx : Value} {vlo vhi : Option Value} (hu : P.underlying t = some (.slice e)) (he : sizeT P e = some sz) (hx : Rel P w F ρ hp vx x)
 (hlo : ∀ x, lo = some x → ∃ v, vlo = some v ∧ Rel P w F ρ hp v x) (hlo' : lo = none → vlo = none)
 (hhi : ∀ x, hi = some x → ∃ v, vhi = some v ∧ Rel P w F ρ hp v x) (hhi' : hi = none → vhi = none) (h : oSlice sz x lo hi k = some r) :
 Yld P w F ρ hp (Instr.sliceAt t vx vlo vhi none) k r := by
 obtain ⟨ie, hie, rfl⟩ : ∃ ie, P.info? e = some ie ∧ ie.size = sz := by
  unfold sizeT at he; cases hh : P.info? e <;> simp_all
 have heq : Instr.sliceAt t vx vlo vhi none = (do match ← underlying t with | .array n elem => (do let a ← Instr.sureAddr vx; let (l, h, m) ← Instr.sliceBounds false n n vlo vhi none; let size ← Go.sizeOf elem; pure (.slice (some (if m = l then a else a.add (l * size))) (h - l) (m - l))) | _ => Instr.slice t vx vlo vhi none) := rfl
 unfold oSlice at h
 split at h
 · rename_i id ver sz' l len
   obtain ⟨a, c, rfl, hl, hn, hlc, hsm, hy⟩ := hx.osl_inv
   split at h <;> try (simp at h; done)
   rename_i p q hp' hq'
   split at h <;> try (simp at h; done)
   rename_i hcond
   obtain ⟨rfl, hpq, hql⟩ := hcond
   have hb := qfY (cap := c) hlo hlo' hhi hhi' hp' hq' hpq (by omega)
   refine ⟨_, _, by simp only [heq, Sem.run_bind, run_underlying hu, Result.andThen_ok, Instr.slice, hb, qac hie]; rfl, .osl _ _ _ _ _ _ _ hl hn (by omega) (fun hc => ?_) (fun ob hob => ⟨(hy ob hob).1, fun hv => ?_⟩), h⟩
   · obtain ⟨y, rfl⟩ := hsm (by omega)
     split <;> exact ⟨_, rfl⟩
   · obtain ⟨g1, g2⟩ := (hy ob hob).2 hv
     refine ⟨g1, fun hc => ?_⟩
     obtain ⟨g3, g4⟩ := g2 (by omega)
     rw [if_neg (by omega), g3]
     simp only [Option.map_some, qcg, Nat.add_mul, Nat.add_assoc, true_and]
     omega
 · rename_i sz' rows
   split at h <;> try (simp at h; done)
   rename_i p q hp' hq'
   split at h <;> try (simp at h; done)
   rename_i hcond
   obtain ⟨hsz0, hpq, hql⟩ := hcond
   have hx := Rel.pure (ρ := ρ) (h := hp) _ _ (hx.fslFz.resz hsz0)
   obtain ⟨a, c, b, o, vs, rfl, hlc, ha, hw, hc, hr⟩ := hx.fsl_inv
   have hb := qfY (cap := c) hlo hlo' hhi hhi' hp' hq' hpq (by omega)
   have hlen : ((rows.take q).drop p).length = q - p := by simp; omega
   refine ⟨_, _, by simp only [heq, Sem.run_bind, run_underlying hu, Result.andThen_ok, Instr.slice, hb, qac hie]; rfl, .pure _ _ ?_, h⟩
   refine Fz.mkF ?_
   rw [← hlen]
   refine .fsl _ _ _ _ b (o + p * ie.size) (fun i j => vs (p + i) j) (by omega) (fun h0 => ?_) (fun row hrow => hw row (List.mem_of_mem_take (List.mem_of_mem_drop hrow))) (fun i j hi hj => ?_) (fun i j hi hj => ?_)
   · rw [hlen] at h0
     rw [if_neg (by omega), ha (by omega)]
     simp [qcg]
   · rw [hlen] at hi
     have := hc (p + i) j (by omega) hj
     rw [Nat.add_mul] at this
     rwa [show o + p * ie.size + i * ie.size + j = o + (p * ie.size + i * ie.size) + j by omega]
   · rw [hlen] at hi
     have := hr (p + i) j (by omega) (by simpa using hj)
     simpa using this
 · cases h
end
end Go.Ab
