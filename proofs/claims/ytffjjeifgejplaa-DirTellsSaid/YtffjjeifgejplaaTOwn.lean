/-
  OWNED SLICES THAT GROW.
-/
import Derived.Test.YtffjjeifgejplaaTSearch
set_option linter.unusedSimpArgs false
set_option linter.unusedVariables false
namespace Go.Ab
open Go

/-- What H' keeps of H: all but one object. -/
def KeepBut (id : Nat) (H H' : Heap) : Prop := ∀ (i : Nat) (o : Slot), i ≠ id → H[i]? = some o → H'[i]? = some o
/-- What H' keeps of H: all. -/
def KeepAll (H H' : Heap) : Prop := ∀ (i : Nat) (o : Slot), H[i]? = some o → H'[i]? = some o
theorem KeepAll.append (H r : Heap) : KeepAll H (H ++ r) := fun i o h => by
  have hi : i < H.length := by
    rcases Nat.lt_or_ge i H.length with h' | h'
    · exact h'
    · rw [List.getElem?_eq_none h'] at h; exact absurd h (by simp)
  rw [List.getElem?_append_left hi]; exact h
theorem at_end (H : Heap) (s : Slot) : (H ++ [s])[H.length]? = some s := by simp
theorem lt_of_some {H : Heap} {i : Nat} {o : Slot} (h : H[i]? = some o) : i < H.length := by
  rcases Nat.lt_or_ge i H.length with h' | h'
  · exact h'
  · rw [List.getElem?_eq_none h'] at h; exact absurd h (by simp)

/-- One more element. -/
theorem app1 {α : Type} (enc : α → List A) (H : Heap) (kn ver sz bytes n : Nat) (xs : List α) (x : α) (ld : Option Nat) (v : A) (hn : n = xs.length)
    (hk : H[kn]? = some (.live ⟨ver, sz, xs.map enc⟩)) (hc : asCells ld v = some (enc x)) (hz : sz ≠ 0) (ok : appendOk (xs.length + 1) bytes) :
    ∃ H', (∀ {β : Type} (k : A → Heap → Option β), (oNewSlice none sz (asRows ld [v]) H fun x h => oAppend none sz bytes (.osl kn ver sz 0 n) x h k) = k (.osl kn (ver + 1) sz 0 (n + 1)) H') ∧
      H'[kn]? = some (.live ⟨ver + 1, sz, (xs ++ [x]).map enc⟩) ∧ KeepBut kn H H' := by
  subst hn
  have hlt := lt_of_some hk
  refine ⟨(H ++ [Slot.live ⟨0, sz, [enc x]⟩]).set kn (Slot.live ⟨ver + 1, sz, (xs ++ [x]).map enc⟩), fun k => ?_, ?_, ?_⟩
  · have h1 : (H ++ [Slot.live ⟨0, sz, [enc x]⟩])[kn]? = some (.live ⟨ver, sz, xs.map enc⟩) := by rw [List.getElem?_append_left hlt]; exact hk
    simp only [oNewSlice_eq, asRows_cons, asRows_nil, hc, Option.bind_some, Option.map_some, if_neg hz, place_none, oAppend_osl, rowsOf_osl, at_end, List.length_cons, List.length_nil, h1]
    simp [ok, hlt, List.take_of_length_le]
  · rw [List.getElem?_set_self (by simp; omega)]
  · intro i o hi ho
    rw [List.getElem?_set_ne (by omega)]
    exact KeepAll.append H _ i o ho
/-- A new object. -/
theorem KeepAll.trans {H H1 H2 : Heap} (h1 : KeepAll H H1) (h2 : KeepAll H1 H2) : KeepAll H H2 := fun i o h => h2 i o (h1 i o h)
theorem KeepBut.trans {k : Nat} {H H1 H2 : Heap} (h1 : KeepBut k H H1) (h2 : KeepBut k H1 H2) : KeepBut k H H2 := fun i o hi h => h2 i o hi (h1 i o hi h)
theorem KeepBut.refl (k : Nat) (H : Heap) : KeepBut k H H := fun _ _ _ h => h
theorem set_end (H : Heap) (a b : Slot) : (H ++ [a]).set H.length b = H ++ [b] := by simp
theorem app_some {H : Heap} {i : Nat} {o : Slot} (h : H[i]? = some o) (r : Heap) : (H ++ r)[i]? = some o := KeepAll.append H r i o h
theorem app_set' {H : Heap} {i : Nat} {o : Slot} (h : H[i]? = some o) (r : Heap) (x : Slot) : (H ++ r).set i x = H.set i x ++ r := by
  rw [List.set_append_left _ _ (lt_of_some h)]
theorem at_get {H : Heap} {i : Nat} {o : Slot} (h : H[i]? = some o) (p : i < H.length) : H[i] = o := by
  rw [List.getElem?_eq_getElem p] at h; simpa using h
theorem app_get' {H : Heap} {i : Nat} {o : Slot} (h : H[i]? = some o) (r : Heap) (p : i < (H ++ r).length) : (H ++ r)[i] = o := at_get (app_some h r) p
theorem app_len0 (H : Heap) (a : Slot) (r : Heap) : (H ++ a :: r)[H.length]? = some a := by simp
theorem app_len1 (H : Heap) (a b : Slot) (r : Heap) : (H ++ a :: b :: r)[H.length + 1]? = some b := by simp
theorem set_len0 (H : Heap) (a x : Slot) (r : Heap) : (H ++ a :: r).set H.length x = H ++ x :: r := by simp
theorem set_len1 (H : Heap) (a b x : Slot) (r : Heap) : (H ++ a :: b :: r).set (H.length + 1) x = H ++ a :: x :: r := by
  rw [List.set_append_right _ _ (by omega)]; simp
/-- The last act of a function that comes to an owned slice. -/
theorem finish_own (id ver sz n : Nat) (rows : List (List A)) (H : Heap) (hk : H[id]? = some (.live ⟨ver, sz, rows⟩)) (hp : idsRows rows = []) (hr : ∀ f, renRows f rows = some rows) :
    finish 0 (.ok (.osl id ver sz 0 n)) H = some (.ok (.osl 0 ver sz 0 n), [.live ⟨ver, sz, rows⟩]) := by
  have h1 : reach H reachFuel [] [id] = [id] := by
    rw [show reachFuel = 99999 + 1 from rfl, reach]
    simp [hk, hp]
  have h2 : idx [id] id = some 0 := by simp [idx]
  simp [finish, hk, hp, hr, h1, h2]
/-- The last act of a function whose value leads to one object, of pure rows. -/
theorem finish_one (a a' : A) (id : Nat) (ob : Obj) (H : Heap) (ha : idsA a = [id]) (hr : renA (fun j => if j = id then some 0 else none) a = some a') (hk : H[id]? = some (.live ob)) (hp : idsRows ob.rows = []) (hrr : ∀ f, renRows f ob.rows = some ob.rows) :
    finish 0 (.ok a) H = some (.ok a', [.live ob]) := by
  have h1 : reach H reachFuel [] [id] = [id] := by
    rw [show reachFuel = 99999 + 1 from rfl, reach]
    simp [hk, hp]
  have h2 : idx [id] = fun j => if j = id then some 0 else none := by
    funext j
    by_cases hj : j = id
    · subst hj; simp [idx]
    · simp [idx, hj, Ne.symm hj]
  simp [finish, ha, hk, hp, hrr, h1, h2, hr]
@[simp] theorem idsL_append (a b : List A) : idsL (a ++ b) = idsL a ++ idsL b := by induction a <;> simp_all
/-- What is lent of a cell that leads to no object. -/
def normA : A → A
  | .s v => nilS v
  | .fsl sz rows => mkF sz rows
  | a => a
def flatA : A → Bool
  | .s _ => true
  | .fsl _ _ => true
  | .cptr _ => true
  | _ => false
@[simp] theorem flatA_s (v : Value) : flatA (.s v) = true := _root_.id rfl
@[simp] theorem flatA_mkF (sz : Nat) (rows : List (List A)) : flatA (mkF sz rows) = true := _root_.id rfl
@[simp] theorem normA_mkF (sz : Nat) (rows : List (List A)) : normA (mkF sz rows) = mkF sz rows := by cases rows <;> simp [normA, mkF]
@[simp] theorem normA_int (kd : IntKind) (n : Int) : normA (.s (.int kd n)) = .s (.int kd n) := _root_.id rfl
@[simp] theorem normA_bool (b : Bool) : normA (.s (.bool b)) = .s (.bool b) := _root_.id rfl
@[simp] theorem normA_nil : normA (.s (.slice none 0 0)) = .fsl 0 [] := _root_.id rfl
theorem normA_pure {a : A} (h : pureA a = true) (hf : flatA a = true) : normA a = a := by
  cases a <;> simp [flatA] at hf <;> try rfl
  · rename_i v; simp only [pureA_s] at h; cases v <;> simp [notSlice] at h <;> rfl
  · rename_i sz rows
    cases rows with
    | nil => simp [pureA] at h; simp [normA, mkF, h]
    | cons r rs => simp [normA, mkF]
theorem lendA_flat (n : Nat) (a : A) (h : Heap) (hf : flatA a = true) : lendA (n + 1) a h = some (normA a) := by
  cases a <;> simp [flatA] at hf <;> simp [lendA, normA]
theorem pureL_mem : ∀ (l : List A), pureL l = true → ∀ x ∈ l, pureA x = true
  | [], _, x, hx => by cases hx
  | y :: ys, hp, x, hx => by
    simp only [pureL_cons, Bool.and_eq_true] at hp
    rcases List.mem_cons.1 hx with h | h
    · exact h ▸ hp.1
    · exact pureL_mem ys hp.2 x h
theorem norm_pure {l : List A} (hp : pureL l = true) (hf : ∀ a ∈ l, flatA a = true) : l.map normA = l := by
  have h : l.map normA = l.map fun x => x := List.map_congr_left fun x hx => normA_pure (pureL_mem l hp x hx) (hf x hx)
  rw [h]; simp
theorem lendL_flat (h : Heap) : ∀ (l : List A) (n : Nat), (∀ a ∈ l, flatA a = true) → lendL (n + l.length + 2) l h = some (l.map normA)
  | [], n, _ => by simp [lendL]
  | a :: r, n, hf => by
    rw [show n + (a :: r).length + 2 = (n + r.length + 2) + 1 by simp; omega, lendL]
    split
    · rename_i hp
      rw [norm_pure hp hf]
    · have e1 : lendA (n + r.length + 2) a h = some (normA a) := lendA_flat (n + r.length + 1) a h (hf a (by simp))
      rw [e1, lendL_flat h r n fun x hx => hf x (by simp [hx])]
      simp
/-- One bundle of cells is lent. -/
theorem lend_agg (cs cs' : List A) (h : Heap) (hf : ∀ a ∈ cs, flatA a = true) (hn : cs.length < 900) (hc : cs.map normA = cs') : lendL lendFuel [.agg cs] h = some [.agg cs'] := by
  subst hc
  rw [show lendFuel = 999 + 1 from rfl, lendL]
  split
  · rename_i hp
    simp only [pureL_cons, pureA_agg, pureL_nil, Bool.and_true] at hp
    rw [norm_pure hp hf]
  · have e := lendL_flat h cs (998 - cs.length - 2) hf
    rw [show 998 - cs.length - 2 + cs.length + 2 = 998 by omega] at e
    simp only [lendA, e, Option.map_some, Option.bind_some]
    simp [lendL]
theorem lend_agg2 (cs cs' ds ds' : List A) (h : Heap) (hf : ∀ a ∈ cs, flatA a = true) (hn : cs.length < 900) (hc : cs.map normA = cs') (hf2 : ∀ a ∈ ds, flatA a = true) (hn2 : ds.length < 900) (hc2 : ds.map normA = ds') :
    lendL lendFuel [.agg cs, .agg ds] h = some [.agg cs', .agg ds'] := by
  subst hc; subst hc2
  rw [show lendFuel = 999 + 1 from rfl, lendL]
  split
  · rename_i hp
    simp only [pureL_cons, pureA_agg, pureL_nil, Bool.and_true, Bool.and_eq_true] at hp
    rw [norm_pure hp.1 hf, norm_pure hp.2 hf2]
  · have e := lendL_flat h cs (998 - cs.length - 2) hf
    rw [show 998 - cs.length - 2 + cs.length + 2 = 998 by omega] at e
    have e1 : lendA 999 (.agg cs) h = some (.agg (cs.map normA)) := by
      rw [show (999 : Nat) = 998 + 1 from rfl]
      simp only [lendA, e, Option.map_some]
    have e2 : lendL 999 [.agg ds] h = some [.agg (ds.map normA)] := by
      rw [show (999 : Nat) = 998 + 1 from rfl, lendL]
      split
      · rename_i hp
        simp only [pureL_cons, pureA_agg, pureL_nil, Bool.and_true] at hp
        rw [norm_pure hp hf2]
      · have e := lendL_flat h ds (997 - ds.length - 2) hf2
        rw [show 997 - ds.length - 2 + ds.length + 2 = 997 by omega] at e
        have e3 : lendA 998 (.agg ds) h = some (.agg (ds.map normA)) := by
          rw [show (998 : Nat) = 997 + 1 from rfl]
          simp only [lendA, e, Option.map_some]
        rw [e3]
        simp [lendL]
    rw [e1, Option.bind_some, e2]
    rfl
/-- A call whose arguments lead to no object, which comes to an owned slice of pure rows. -/
theorem oLend_own (F : CallFn) (args args' : List A) (h : Heap) {β : Type} (kp k : A → Heap → Option β) (ver sz n : Nat) (rows : List (List A)) (ha : idsL args = []) (hl : lendL lendFuel args [] = some args') (hp : ∀ f, renRows f rows = some rows)
    (hF : F args' [] = some (.ok (.osl 0 ver sz 0 n), [.live ⟨ver, sz, rows⟩])) :
    oLend F args h kp k = k (.osl h.length ver sz 0 n) (h ++ [.live ⟨ver, sz, rows⟩]) := by
  have hi : (idsL args).isEmpty = true := by rw [ha]; rfl
  unfold oLend
  rw [if_pos hi, hl]
  simp only [hF]
  simp [hi, giveBack, backIdx, hp, setAll]
/-- The same, of a value that leads to no object. -/
theorem oLend_val' (F : CallFn) (args args' : List A) (h : Heap) {β : Type} (kp k : A → Heap → Option β) (a : A) (ha : idsL args = []) (hl : lendL lendFuel args [] = some args') (hr : idsA a = [])
    (hF : F args' [] = some (.ok a, [])) : oLend F args h kp k = k a h := by
  have hi : (idsL args).isEmpty = true := by rw [ha]; rfl
  unfold oLend
  rw [if_pos hi, hl]
  simp only [hF]
  simp [hi, giveBack, renA_of_ids a _ hr, setAll]
/-- What is frozen of an owned slice of pure rows. -/
theorem oFrz_own (H : Heap) (id ver sz n : Nat) (rows : List (List A)) {β : Type} (k : A → Heap → Option β) (hk : H[id]? = some (.live ⟨ver, sz, rows⟩)) (hn : n = rows.length) (hp : pureRows rows = true) :
    oFrz (.osl id ver sz 0 n) H k = k (mkF sz rows) (H.set id .dead) := by
  subst hn
  simp [oFrz, pureA, frzA, hk, frzRows, hp]
theorem pureRows_map {α : Type} (enc : α → List A) (h : ∀ x, pureL (enc x) = true) (xs : List α) : pureRows (xs.map enc) = true := by
  simp [pureRows, h]
theorem frz_cell2 (C C' : A) (d : A) (h h' : Heap) {β : Type} (k : A → Heap → Option β) (hd : pureA d = true) (hdn : ∀ n h, frzA (n + 1) d h = some (d, h)) (hp : pureA C = false) (hc : ∀ n, frzA (n + 2) C h = some (C', h')) :
    oFrz (.agg [d, C]) h k = k (.agg [d, C']) h' := by
  have e3 : frzL 998 [C] h = some ([C'], h') := by
    rw [show (998 : Nat) = 997 + 1 from rfl]
    simp only [frzL, pureL_cons, hp, Bool.false_and, Bool.false_eq_true, if_false, hc 995, Option.bind_some]
    simp [frzL]
  have e2 : frzL 999 [d, C] h = some ([d, C'], h') := by
    rw [show (999 : Nat) = 998 + 1 from rfl]
    rw [frzL, if_neg (by simp [hp]), hdn 997, Option.bind_some]
    simp only [e3, Option.map_some]
  have e1 : frzA 1000 (.agg [d, C]) h = some (.agg [d, C'], h') := by
    rw [show (1000 : Nat) = 999 + 1 from rfl]
    simp only [frzA, e2, Option.map_some]
  simp only [oFrz, pureA_agg, pureL_cons, hp, Bool.false_and, Bool.and_false, Bool.false_eq_true, if_false, e1]
theorem frz_own (n id ver sz m : Nat) (rows : List (List A)) (h : Heap) (hk : h[id]? = some (.live ⟨ver, sz, rows⟩)) (hm : m = rows.length) (hp : pureRows rows = true) : frzA (n + 2) (.osl id ver sz 0 m) h = some (mkF sz rows, h.set id .dead) := by
  subst hm
  simp [frzA, hk, frzRows, hp]
/-- An element of an owned slice. -/
theorem idx_own {α : Type} (enc : α → List A) (H : Heap) (id ver sz n : Nat) (xs : List α) (ld : Option Nat) (val : A) (j : Nat) (x : α) (kd : IntKind) (hn : n = xs.length)
    (hk : H[id]? = some (.live ⟨ver, sz, xs.map enc⟩)) (hj : xs[j]? = some x) (hv : cellsAt ld (enc x) 0 = some val) {β : Type} (k : A → Option β) :
    (oIdxA sz (.osl id ver sz 0 n) (.s (.int kd j)) fun p => oLoad ld p H k) = k val := by
  have hl : j < xs.length := by
    rcases Nat.lt_or_ge j xs.length with h | h
    · exact h
    · rw [List.getElem?_eq_none h] at hj; exact absurd hj (by simp)
  subst hn
  have hx : xs[j] = x := by rw [List.getElem?_eq_getElem hl] at hj; simpa using hj
  subst hx
  simp [hl, hk, hv]
end Go.Ab
