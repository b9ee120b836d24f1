/-
 TWO OPERATIONS IN EITHER ORDER.
-/
import Derived.Test.YtocnjegcmmfpfaaAbsDrawE
set_option linter.unusedSimpArgs false
set_option linter.unusedVariables false
namespace Go.Ab
open Go
section
variable {P : Program} {β : Type} {r : β} {h h' h1 h2 : Heap} {v : A}
theorem mayTurn_w {cy : Cls} (h : mayTurn .w cy = true) : cy = .p := by cases cy <;> simp [mayTurn] at h ⊢
theorem qkj {cx : Cls} (h : mayTurn cx .w = true) : cx = .p := by cases cx <;> simp [mayTurn] at h ⊢
theorem Eff.swap {fx fy : HF} {n0 : Nat} {wr : List Nat} {Ix Iy : Nat → Prop} {cx cy : Cls} {vx vy : A} (ex : Eff fx n0 wr Ix cx h vx h1) (ey : Eff fy n0 wr Iy cy h1 vy h2) (hx : fx h = some (vx, h1)) (hy : fy h1 = some (vy, h2))
 (hm : mayTurn cx cy = true) (hIx : ∀ id, Ix id → id < h.length ∧ h[id]? ≠ some .res) (hIy : ∀ id, Iy id → id < h.length ∧ h[id]? ≠ some .res) : ∃ g1, fy h = some (vy, g1) ∧ fx g1 = some (vx, h2) := by
 cases ex with
 | pure e again => subst e; exact ⟨h2, hy, again h2⟩
 | other hc =>
   subst hc
   obtain rfl := mayTurn_w hm
   cases ey with
   | pure e again => subst e; exact ⟨h, again h, hx⟩
   | loc R W hc => simp at hc
   | call hc => cases hc
   | other hc => cases hc
 | loc R W hc foot info =>
   cases ey with
   | pure e again => subst e; exact ⟨h, again h, hx⟩
   | other hc' => subst hc'; obtain rfl := qkj hm; simp at hc
   | call hc' objs e nores again =>
     have e2 := again h foot.len.symm fun id h1 h2 => (foot.out id fun hW => by
      rcases (info.wo id hW).1 with h3 | h3
      · omega
      · exact h2 h3).symm
     refine ⟨h ++ objs, e2, ?_⟩
     have lt : ∀ id ∈ R, id < h.length := foot.inR
     obtain ⟨g', q1, q2, q3, q4⟩ := foot.again (h ++ objs) (fun id hid => List.getElem?_append_left (lt id hid))
     rw [q1, e]
     congr 2
     apply List.ext_getElem?
     intro j
     by_cases hj : j ∈ W
     · rw [q3 j hj, List.getElem?_append_left (by rw [foot.len]; exact lt j (foot.sub j hj))]
     · rw [q4 j hj]
       by_cases hl : j < h.length
       · rw [List.getElem?_append_left hl, List.getElem?_append_left (by rw [foot.len]; exact hl), foot.out j hj]
       · rw [List.getElem?_append_right (by omega), List.getElem?_append_right (by rw [foot.len]; omega), foot.len]
   | loc R' W' hc' foot' info' =>
     have d1 : ∀ id ∈ R', id ∉ W := by
      intro id hR hW
      obtain ⟨w1, w2, w3⟩ := info.wo id hW
      have nl : cy ≠ .l := fun hl => by
       have := info'.l hl id hR
       rcases w1 with w1 | w1
       · omega
       · exact this.2 w1
      have yap : id ∉ W' ∨ cy ≠ .ap → False := by
       intro hh
       rcases hc' with rfl | rfl | rfl
       · exact nl rfl
       · have := info'.r rfl id hR
         obtain ⟨u1, u2, u3⟩ := info'.wo id this
         rcases u3 with u3 | ⟨_, u3⟩
         · exact w2 u3
         · cases u3
       · have hnW := hh.resolve_right (by simp)
         have hI := (info'.rd id hR).resolve_left hnW
         rcases w3 with w3 | ⟨w3, w4⟩
         · exact (hIy id hI).2 w3
         · subst w4; simp [mayTurn] at hm
      by_cases hW' : id ∈ W'
      · by_cases hap : cy = .ap
        · subst hap
          obtain ⟨u1, u2, u3⟩ := info'.wo id hW'
          rcases u3 with u3 | ⟨u3, _⟩
          · exact w2 u3
          · rcases w3 with w3 | ⟨w3, w4⟩
            · exact (hIy id u3).2 w3
            · subst w4; simp [mayTurn] at hm
        · exact yap (.inr hap)
      · exact yap (.inl hW')
     have d2 : ∀ id ∈ R, id ∉ W' := by
      intro id hR hW'
      obtain ⟨u1, u2, u3⟩ := info'.wo id hW'
      by_cases hW : id ∈ W
      · exact d1 id (foot'.sub id hW') hW
      · have hI := (info.rd id hR).resolve_left hW
        rw [foot.out id hW] at u3
        rcases u3 with u3 | ⟨u3, u4⟩
        · exact (hIx id hI).2 u3
        · rcases hc with rfl | rfl | rfl
          · have := info.l rfl id hR
            rcases u1 with u1 | u1
            · omega
            · exact this.2 u1
          · exact hW (info.r rfl id hR)
          · subst u4; simp [mayTurn] at hm
     obtain ⟨g1, p1, p2, p3, p4⟩ := foot'.again h (fun id hid => (foot.out id (d1 id hid)).symm)
     obtain ⟨g2, q1, q2, q3, q4⟩ := foot.again g1 (fun id hid => p4 id (d2 id hid))
     refine ⟨g1, p1, ?_⟩
     rw [q1]
     congr 2
     apply List.ext_getElem?
     intro j
     by_cases hj : j ∈ W
     · rw [q3 j hj]
       have : j ∉ W' := d2 j (foot.sub j hj)
       rw [foot'.out j this]
     · rw [q4 j hj]
       by_cases hj' : j ∈ W'
       · rw [p3 j hj']
       · rw [p4 j hj', foot'.out j hj', foot.out j hj]
 | call hc objs e nores again =>
   cases ey with
   | pure e' again' => subst e'; exact ⟨h, again' h, hx⟩
   | other hc' => subst hc'; obtain rfl := qkj hm; cases hc
   | call hc' => subst hc; subst hc'; simp [mayTurn] at hm
   | loc R' W' hc' foot' info' =>
     have old : ∀ id, id < h.length → h1[id]? = h[id]? := fun id hid => by rw [e]; exact List.getElem?_append_left hid
     have lt : ∀ id ∈ R', id < h.length := by
      intro id hR
      rcases info'.rd id hR with hW | hI
      · obtain ⟨u1, u2, u3⟩ := info'.wo id hW
        rcases u3 with u3 | ⟨u3, _⟩
        · rcases Nat.lt_or_ge id h.length with hl | hl
          · exact hl
          · rw [e, List.getElem?_append_right hl] at u3; exact absurd u3 (nores _)
        · exact (hIy id u3).1
      · exact (hIy id hI).1
     obtain ⟨g1, p1, p2, p3, p4⟩ := foot'.again h (fun id hid => (old id (lt id hid)).symm)
     refine ⟨g1, p1, ?_⟩
     rw [again g1 p2 fun id h1 h2 => p4 id fun hW => by
      rcases (info'.wo id hW).1 with h3 | h3
      · omega
      · exact h2 h3]
     congr 2
     apply List.ext_getElem?
     intro j
     by_cases hj : j ∈ W'
     · have hl := lt j (foot'.sub j hj)
       rw [List.getElem?_append_left (by omega), p3 j hj]
     · rw [foot'.out j hj, e]
       by_cases hl : j < h.length
       · rw [List.getElem?_append_left (by omega), List.getElem?_append_left hl, p4 j hj]
       · rw [List.getElem?_append_right (by omega), List.getElem?_append_right (by omega), p2]
def gate (ops : Array Oper) (o : Oper) (regs : List A) : Option Bool :=
 match o.guard with
 | none => some true
 | some (j, want) =>
   match (ops[j]?).bind (·.dst) with
   | none => none
   | some t =>
     match regs.getD t .any with
     | .s (.bool b) => some (b == want)
     | .s (.tuple a) => if a.isEmpty then some false else none
     | _ => none
def dVal (P : Program) (E : FuncId → CallFn) (En : String → CallFn) (an : FAnn) (ops : Array Oper) (o : Oper) (d : DM) (regs : List A) : HF := fun h =>
 match gate ops o regs with
 | some true => qbF P E En an (some d) o regs h kSome kNone
 | some false => some (.s undef, h)
 | none => none
def dOp (P : Program) (E : FuncId → CallFn) (En : String → CallFn) (an : FAnn) (ops : Array Oper) (o : Oper) (d : DM) (s : List A × Heap) : Option (List A × Heap) :=
 (dVal P E En an ops o d s.1 s.2).map fun p => (putR s.1 o.dst p.1, p.2)
def dOps (P : Program) (E : FuncId → CallFn) (En : String → CallFn) (an : FAnn) (ops : Array Oper) : List (Oper × DM) → List A × Heap → Option (List A × Heap)
 | [], s => some s
 | (o, d) :: l, s => (dOp P E En an ops o d s).bind (dOps P E En an ops l)
theorem gate_undef {ops : Array Oper} {o : Oper} {regs : List A} {j : Nat} {want : Bool} {t : Nat} (hg : o.guard = some (j, want)) (ht : (ops[j]?).bind (·.dst) = some t) (hr : regs.getD t .any = .s undef) : gate ops o regs = some false := by
 simp only [gate, hg, ht, hr, undef]; rfl
theorem qm6 {ops : Array Oper} {o : Oper} {regs : List A} {j : Nat} {want : Bool} {t : Nat} {b : Bool} (hg : o.guard = some (j, want)) (ht : (ops[j]?).bind (·.dst) = some t) (hr : regs.getD t .any = .bool b) : gate ops o regs = some (b == want) := by
 simp only [gate, hg, ht, hr]
theorem qfD {E : FuncId → CallFn} {En : String → CallFn} {an : FAnn} {ops : Array Oper} {kp : A → Heap → Option β} :
 ∀ (l : List (Oper × DM)) (kn : List Nat) (regs : List A) (h : Heap) (k : List A → Heap → Option β), KnOk regs kn → evalOps P E En an ops kp (l.map fun x => (x.1, some x.2)) kn regs h k = some r →
   ∃ s, dOps P E En an ops l (regs, h) = some s ∧ k s.1 s.2 = some r
 | [], kn, regs, h, k, _, hk => ⟨(regs, h), rfl, by simpa only [List.map_nil, evalOps] using hk⟩
 | (o, d) :: l, kn, regs, h, k, hkn, hk => by
   simp only [List.map_cons, evalOps] at hk
   have act : ∀ (kk : A → Heap → Option β), qbF P E En an (some d) o regs h kk kp = some r → gate ops o regs = some true → (∀ v h', kk v h' = evalOps P E En an ops kp (l.map fun x => (x.1, some x.2)) (knOff kn o.dst) (putR regs o.dst v) h' k) →
    ∃ s, dOps P E En an ops ((o, d) :: l) (regs, h) = some s ∧ k s.1 s.2 = some r := by
    intro kk hs hg hkk
    obtain ⟨v, h', h1, h2⟩ := qmi hs
    rw [hkk] at h2
    obtain ⟨s, h3, h4⟩ := qfD l _ _ h' k (hkn.off _ _) h2
    refine ⟨s, ?_, h4⟩
    simp only [dOps, dOp, dVal, hg, h1, Option.map_some, Option.bind_some]
    exact h3
   have pass : evalOps P E En an ops kp (l.map fun x => (x.1, some x.2)) (knOn kn o.dst regs.length) (putR regs o.dst (.s undef)) h k = some r → gate ops o regs = some false →
    ∃ s, dOps P E En an ops ((o, d) :: l) (regs, h) = some s ∧ k s.1 s.2 = some r := by
    intro hk hg
    obtain ⟨s, h3, h4⟩ := qfD l _ _ h k (hkn.on _) hk
    refine ⟨s, ?_, h4⟩
    simp only [dOps, dOp, dVal, hg, Option.map_some, Option.bind_some]
    exact h3
   split at hk
   · rename_i hg
     exact act _ hk (by simp [gate, hg]) fun _ _ => rfl
   · rename_i g want hg
     split at hk <;> try (cases hk; done)
     rename_i t ht
     split at hk
     · rename_i hc
       exact pass hk (gate_undef hg ht (hkn t (by simpa using hc)))
     · rcases qjG hk with ⟨hb, hk⟩ | ⟨hb, hk⟩
       · have hset := qiW hb (by simp)
         rw [hset] at hk
         exact act _ hk (by rw [qm6 hg ht hb]; simp) fun v h' => rfl
       · have hset := qiW hb (by simp)
         rw [hset] at hk
         exact pass hk (by rw [qm6 hg ht hb]; cases want <;> rfl)
theorem qnq {E : FuncId → CallFn} {En : String → CallFn} {an : FAnn} {ops : Array Oper} {o : Oper} {d : DM} {regs : List A} {dst : Option Nat} {v : A} (hd : ∀ t, dst = some t → t ∉ o.looksAt ops) :
 dVal P E En an ops o d (putR regs dst v) = dVal P E En an ops o d regs := by
 have hop : ∀ x ∈ o.op.operands, opnd P (putR regs dst v) x = opnd P regs x := by
  intro x hx
  cases x with
  | tmp t =>
    simp only [opnd]
    refine qf7 fun t' ht' e => hd t' ht' ?_
    subst e
    exact List.mem_append_left _ (List.mem_filterMap.2 ⟨.tmp t', by simpa using hx, rfl⟩)
  | _ => rfl
 have hg : gate ops o (putR regs dst v) = gate ops o regs := by
  unfold gate
  split
  · rfl
  · rename_i j want hj
    split
    · rfl
    · rename_i t ht
      rw [qf7]
      intro t' ht' e
      subst e
      exact hd t' ht' (by simp [Oper.looksAt, hj, ht])
 funext h
 unfold dVal
 rw [hg]
 split
 · unfold qbF
   split
   · exact qmT _ hop _
   · exact qmW _ hop _ _ _
 · rfl
 · rfl
theorem putR_comm {regs : List A} {x y : Option Nat} {u v : A} (h : ∀ d, x = some d → y ≠ some d) : putR (putR regs x u) y v = putR (putR regs y v) x u := by
 cases x with
 | none => rfl
 | some d =>
   cases y with
   | none => rfl
   | some e =>
     have : d ≠ e := by rintro rfl; exact h d rfl rfl
     simp only [putR]
     exact List.set_comm _ _ this
def Good (P : Program) (s : List A × Heap) : Prop := ∃ (a : Act) (w : World) (F : Cells) (ρ : Nat → Reg), Inv P w F ρ s.2 ∧ RegsRel P w F ρ s.2 a.tmps s.1
theorem Rel.noRes {w : World} {F : Cells} {ρ : Nat → Reg} {v : Value} {a : A} (hr : Rel P w F ρ h v a) : ∀ id ∈ idsA a, id < h.length ∧ h[id]? ≠ some .res := by
 induction hr with
 | pure v a hz => rw [hz.ids]; intro id hid; cases hid
 | any v => intro id hid; simp [idsA] at hid
 | ptr x id ver row off hl hn hx => intro i hi; simp [idsA] at hi; subst hi; exact ⟨hl, fun hr => hn _ hr rfl⟩
 | osl a len c id ver sz lo hl hn hc ha hx => intro i hi; simp [idsA] at hi; subst hi; exact ⟨hl, fun hr => hn _ hr rfl⟩
 | mref b id hl hn hx => intro i hi; simp [idsA] at hi; subst hi; exact ⟨hl, fun hr => hn _ hr rfl⟩
 | agg vs cs hs h1 hr ih => intro id hid; obtain ⟨i, hi, h⟩ := qe3.1 hid; exact ih i hi id h
 | tup vs cs hs hr ih => intro id hid; obtain ⟨i, hi, h⟩ := qe3.1 hid; exact ih i hi id h
 | fn f fn caps cs hf hs hr ih => intro id hid; obtain ⟨i, hi, h⟩ := qe3.1 hid; exact ih i hi id h
 | iface t ty v a ht hr ih => exact ih
theorem Good.ids {s : List A × Heap} (g : Good P s) (x : Operand) : ∀ id ∈ idsA (opnd P s.1 x), id < s.2.length ∧ s.2[id]? ≠ some .res := by
 obtain ⟨a, w, F, ρ, i, q⟩ := g
 exact (q.opnd x).noRes
theorem qnr {E : FuncId → CallFn} {En : String → CallFn} {an : FAnn} {ops : Array Oper} {o : Oper} {d : DM} {regs : List A} (hn : d.n0 ≤ d.slot) (hf : dVal P E En an ops o d regs h = some (v, h')) :
 Eff (dVal P E En an ops o d regs) d.n0 d.wr (fun id => ∃ x ∈ o.op.operands, id ∈ idsA (opnd P regs x)) (clsA an d.st o) h v h' := by
 unfold dVal at hf ⊢
 split at hf
 · rename_i hg
   exact qmh hn hf
 · simp only [Option.some.injEq, Prod.mk.injEq] at hf
   obtain ⟨rfl, rfl⟩ := hf
   exact .pure rfl fun g => rfl
 · cases hf
theorem dOp_swap {E : FuncId → CallFn} {En : String → CallFn} {an : FAnn} {ops : Array Oper} {x y : Oper} {dx dy : DM} {s s1 s2 : List A × Heap} (g : Good P s) (hnx : dx.n0 ≤ dx.slot) (hny : dy.n0 ≤ dy.slot) (hnn : dx.n0 = dy.n0) (hnw : dx.wr = dy.wr)
 (hm : mayTurn (clsA an dx.st x) (clsA an dy.st y) = true) (hap : x.apart ops y = true) (hx : dOp P E En an ops x dx s = some s1) (hy : dOp P E En an ops y dy s1 = some s2) :
 ∃ s1', dOp P E En an ops y dy s = some s1' ∧ dOp P E En an ops x dx s1' = some s2 := by
 obtain ⟨a1, a2, a3⟩ := Oper.apart_spec hap
 simp only [dOp, Option.map_eq_some_iff] at hx hy
 obtain ⟨⟨vx, h1⟩, hx, rfl⟩ := hx
 obtain ⟨⟨vy, h2⟩, hy, rfl⟩ := hy
 simp only at hy
 rw [qnq a1] at hy
 have ex := qnr hnx hx
 have ey := qnr hny hy
 rw [← hnn, ← hnw] at ey
 obtain ⟨g1, e1, e2⟩ := ex.swap ey hx hy hm (fun id ⟨z, _, hz⟩ => g.ids z id hz) (fun id ⟨z, _, hz⟩ => g.ids z id hz)
 refine ⟨(putR s.1 y.dst vy, g1), by simp [dOp, e1], ?_⟩
 simp only [dOp]
 rw [qnq a3, e2]
 simp only [Option.map_some, Option.some.injEq, Prod.mk.injEq, and_true]
 exact (putR_comm a2).symm
end
end Go.Ab
