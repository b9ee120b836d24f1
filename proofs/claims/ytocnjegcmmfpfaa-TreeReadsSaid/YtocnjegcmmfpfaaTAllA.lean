/-
 THE PLAIN LAWS, AND WHAT THEY STAND ON, TOGETHER.
-/
import Derived.Test.YtocnjegcmmfpfaaAbsSimp
import Derived.Test.YtocnjegcmmfpfaaAbsRead
import Derived.Test.YtocnjegcmmfpfaaFnF
set_option linter.unusedSimpArgs false
set_option linter.unusedVariables false
namespace Go.Ab.T
open Go Go.Ab
def cellC (k : IntKind) (n : Int) : List A := [.s (.int k n)]
@[simp] theorem cellC_len (k : IntKind) (n : Int) : (cellC k n).length = 1 := _root_.id rfl
@[simp] theorem cellC_g0 (k : IntKind) (n : Int) (h : 0 < (cellC k n).length) : (cellC k n)[0] = .s (.int k n) := _root_.id rfl
structure Slot where
 dir : Int
 seg : Int
 deriving DecidableEq
structure Extent where
 start : Int
 len : Int
 deriving DecidableEq
def extentC (t : Extent) : List A := [.s (.int .i64 t.start), .s (.int .i64 t.len)]
@[simp] theorem qmR (t : Extent) : (extentC t).length = 2 := _root_.id rfl
@[simp] theorem extentC_ne (t : Extent) : (extentC t = []) = False := by simp [extentC]
@[simp] theorem extentC_ids (t : Extent) : idsL (extentC t) = [] := _root_.id rfl
@[simp] theorem extentC_pure (t : Extent) : pureL (extentC t) = true := by simp [extentC]
@[simp] theorem qkr (t : Extent) : cellsAt (some 2) (extentC t) 0 = some (.agg (extentC t)) := _root_.id rfl
end Go.Ab.T
namespace Go.Ab
open Go
theorem qnk {τ ρ : Type} {step : τ → Option (τ ⊕ ρ)} {I : Nat → τ → Prop} {Q : ρ → Prop} (n : Nat)
 (hin : ∀ i s, i < n → I i s → (∃ s', step s = some (.inl s') ∧ I (i + 1) s') ∨ (∃ q, step s = some (.inr q) ∧ Q q))
 (hout : ∀ s, I n s → ∃ q, step s = some (.inr q) ∧ Q q) :
 ∀ (d i m : Nat) (s : τ), i + d = n → d < m → I i s → ∃ q, iterN step m s = some q ∧ Q q := by
 intro d
 induction d with
 | zero =>
   intro i m s hi hm hI
   obtain ⟨m, rfl⟩ : ∃ k, m = k + 1 := ⟨m - 1, by omega⟩
   obtain rfl : i = n := by omega
   obtain ⟨q, hq, h⟩ := hout s hI
   exact ⟨q, by simp [iterN, hq], h⟩
 | succ d ih =>
   intro i m s hi hm hI
   obtain ⟨m, rfl⟩ : ∃ k, m = k + 1 := ⟨m - 1, by omega⟩
   rcases hin i s (by omega) hI with ⟨s', h1, h2⟩ | ⟨q, h1, h2⟩
   · obtain ⟨q, hq, h⟩ := ih (i + 1) m s' (by omega) (by omega) h2
     exact ⟨q, by simp [iterN, h1, hq], h⟩
   · exact ⟨q, by simp [iterN, h1], h2⟩
theorem oLoop_inv {β : Type} {step : List A × Heap → Option ((List A × Heap) ⊕ (Ex × List A × Heap))} {s0 : List A × Heap} {k : Ex → List A → Heap → Option β}
 (I : Nat → List A × Heap → Prop) (Q : Ex × List A × Heap → Prop) (n : Nat) (h0 : I 0 s0) (hn : n < 2 ^ 63)
 (hin : ∀ i s, i < n → I i s → (∃ s', step s = some (.inl s') ∧ I (i + 1) s') ∨ (∃ q, step s = some (.inr q) ∧ Q q))
 (hout : ∀ s, I n s → ∃ q, step s = some (.inr q) ∧ Q q) :
 ∃ q, Q q ∧ oLoop step s0 k = k q.1 q.2.1 q.2.2 := by
 obtain ⟨q, hq, h⟩ := qnk n hin hout n 0 big s0 (by omega) (by rw [big_eq]; omega) h0
 exact ⟨q, h, by unfold oLoop; rw [hq]⟩
theorem qb6 {step : List A × Heap → Option ((List A × Heap) ⊕ (Ex × List A × Heap))} {s0 : List A × Heap}
 (I : Nat → List A × Heap → Prop) (Q : Ex × List A × Heap → Prop) (n : Nat) (h0 : I 0 s0) (hn : n < 2 ^ 63)
 (hin : ∀ i s, i < n → I i s → (∃ s', step s = some (.inl s') ∧ I (i + 1) s') ∨ (∃ q, step s = some (.inr q) ∧ Q q))
 (hout : ∀ s, I n s → ∃ q, step s = some (.inr q) ∧ Q q) :
 ∃ q, Q q ∧ ∀ {β : Type} (k : Ex → List A → Heap → Option β), oLoop step s0 k = k q.1 q.2.1 q.2.2 := by
 obtain ⟨q, hq, h⟩ := qnk n hin hout n 0 big s0 (by omega) (by rw [big_eq]; omega) h0
 exact ⟨q, h, fun k => by unfold oLoop; rw [hq]⟩
@[simp] theorem ite_normal (c : Prop) [Decidable c] (x y : Bool) (h : Heap) :
 (if c then some (Ex.normal, [A.s (.bool x)], h) else some (Ex.normal, [A.s (.bool y)], h)) = some (Ex.normal, [A.s (.bool (if c then x else y))], h) := by split <;> rfl
@[simp] theorem notSlice_int (kd : IntKind) (n : Int) : qbX (.int kd n) = true := _root_.id rfl
@[simp] theorem notSlice_bool (b : Bool) : qbX (.bool b) = true := _root_.id rfl
@[simp] theorem notSlice_ptr : qbX (.pointer none) = true := _root_.id rfl
@[simp] theorem pureA_s (v : Value) : pureA (.s v) = qbX v := _root_.id rfl
@[simp] theorem oFrz_pure' (a : A) (h : Heap) {β : Type} (k : A → Heap → Option β) (hp : pureA a = true) : oFrz a h k = k a h := qgf a h k hp
end Go.Ab
namespace Go.Ab
open Go
@[simp] theorem oShift_shr (kx ky : IntKind) (a b : Int) {β : Type} (k : A → Option β) : oShift .shr (.s (.int kx a)) (.s (.int ky b)) k = if 0 ≤ b then k (.int kx (a.fdiv (2 ^ min b.toNat kx.bits))) else none := _root_.id rfl
theorem mid_eq {lo hi : Nat} (h : lo < hi) (hn : hi < 2 ^ 63) :
 IntKind.i64.wrap ((IntKind.u64.wrap (IntKind.i64.wrap ((lo : Int) + hi))).fdiv (2 ^ min (1 : Int).toNat IntKind.u64.bits)) = (((lo + hi) / 2 : Nat) : Int) := by
 have e1 : (2 ^ min (1 : Int).toNat IntKind.u64.bits : Int) = 2 := by decide
 rw [e1]
 have key : IntKind.u64.wrap (IntKind.i64.wrap ((lo : Int) + hi)) = (lo : Int) + hi := by
  have a : ∀ n : Int, IntKind.u64.wrap n = n % 18446744073709551616 := fun n => by simp [IntKind.wrap, IntKind.bits, IntKind.signed]
  have b : ∀ n : Int, IntKind.i64.wrap n = (let m := n % 18446744073709551616; if m ≥ 9223372036854775808 then m - 18446744073709551616 else m) := fun n => by
   simp [IntKind.wrap, IntKind.bits, IntKind.signed]
  rw [a, b]
  dsimp only
  split <;> omega
 rw [key, Int.fdiv_eq_ediv_of_nonneg _ (by omega), qad (by omega) (by omega)]
 omega
end Go.Ab
namespace Go.Ab
open Go
def KeepBut (id : Nat) (H H' : Heap) : Prop := ∀ (i : Nat) (o : Slot), i ≠ id → H[i]? = some o → H'[i]? = some o
def KeepAll (H H' : Heap) : Prop := ∀ (i : Nat) (o : Slot), H[i]? = some o → H'[i]? = some o
theorem KeepAll.append (H r : Heap) : KeepAll H (H ++ r) := fun i o h => by
 have hi : i < H.length := by
  rcases Nat.lt_or_ge i H.length with h' | h'
  · exact h'
  · rw [List.getElem?_eq_none h'] at h; exact absurd h (by simp)
 rw [List.getElem?_append_left hi]; exact h
theorem qaE {H : Heap} {i : Nat} {o : Slot} (h : H[i]? = some o) : i < H.length := by
 rcases Nat.lt_or_ge i H.length with h' | h'
 · exact h'
 · rw [List.getElem?_eq_none h'] at h; exact absurd h (by simp)
theorem KeepAll.trans {H H1 H2 : Heap} (h1 : KeepAll H H1) (h2 : KeepAll H1 H2) : KeepAll H H2 := fun i o h => h2 i o (h1 i o h)
theorem KeepBut.trans {k : Nat} {H H1 H2 : Heap} (h1 : KeepBut k H H1) (h2 : KeepBut k H1 H2) : KeepBut k H H2 := fun i o hi h => h2 i o hi (h1 i o hi h)
theorem KeepBut.refl (k : Nat) (H : Heap) : KeepBut k H H := fun _ _ _ h => h
theorem set_end (H : Heap) (a b : Slot) : (H ++ [a]).set H.length b = H ++ [b] := by simp
theorem qfF {H : Heap} {i : Nat} {o : Slot} (h : H[i]? = some o) (r : Heap) : (H ++ r)[i]? = some o := KeepAll.append H r i o h
theorem qll {H : Heap} {i : Nat} {o : Slot} (h : H[i]? = some o) (r : Heap) (x : Slot) : (H ++ r).set i x = H.set i x ++ r := by
 rw [List.set_append_left _ _ (qaE h)]
theorem at_get {H : Heap} {i : Nat} {o : Slot} (h : H[i]? = some o) (p : i < H.length) : H[i] = o := by
 rw [List.getElem?_eq_getElem p] at h; simpa using h
theorem app_get' {H : Heap} {i : Nat} {o : Slot} (h : H[i]? = some o) (r : Heap) (p : i < (H ++ r).length) : (H ++ r)[i] = o := at_get (qfF h r) p
theorem set_len1 (H : Heap) (a b x : Slot) (r : Heap) : (H ++ a :: b :: r).set (H.length + 1) x = H ++ a :: x :: r := by
 rw [List.set_append_right _ _ (by omega)]; simp
theorem qgF (id ver sz n : Nat) (rows : List (List A)) (H : Heap) (hk : H[id]? = some (.live ⟨ver, sz, rows⟩)) (hp : idsRows rows = []) (hr : ∀ f, renRows f rows = some rows) :
 finish 0 (.ok (.osl id ver sz 0 n)) H = some (.ok (.osl 0 ver sz 0 n), [.live ⟨ver, sz, rows⟩]) := by
 have h1 : reach H qa3 [] [id] = [id] := by
  rw [show qa3 = 99999 + 1 from rfl, reach]
  simp [hk, hp]
 have h2 : idx [id] id = some 0 := by simp [idx]
 simp [finish, hk, hp, hr, h1, h2]
@[simp] theorem idsL_append (a b : List A) : idsL (a ++ b) = idsL a ++ idsL b := by induction a <;> simp_all
def normA : A → A
 | .s v => nilS v
 | .fsl sz rows => mkF sz rows
 | a => a
def flatA : A → Bool
 | .s _ => true
 | .fsl _ _ => true
 | .cptr _ => true
 | _ => false
theorem normA_pure {a : A} (h : pureA a = true) (hf : flatA a = true) : normA a = a := by
 cases a <;> simp [flatA] at hf <;> try rfl
 · rename_i v; simp only [pureA_s] at h; cases v <;> simp [qbX] at h <;> rfl
 · rename_i sz rows
   cases rows with
   | nil => simp [pureA] at h; simp [normA, mkF, h]
   | cons r rs => simp [normA, mkF]
theorem qjF (F : CallFn) (args args' : List A) (h : Heap) {β : Type} (kp k : A → Heap → Option β) (ver sz n : Nat) (rows : List (List A)) (ha : idsL args = []) (hl : lendL qbB args [] = some args') (hp : ∀ f, renRows f rows = some rows)
 (hF : F args' [] = some (.ok (.osl 0 ver sz 0 n), [.live ⟨ver, sz, rows⟩])) :
 oLend F args h kp k = k (.osl h.length ver sz 0 n) (h ++ [.live ⟨ver, sz, rows⟩]) := by
 have hi : (idsL args).isEmpty = true := by rw [ha]; rfl
 unfold oLend
 rw [if_pos hi, hl]
 simp only [hF]
 simp [hi, qaa, backIdx, hp, setAll]
theorem ql2 (H : Heap) (id ver sz n : Nat) (rows : List (List A)) {β : Type} (k : A → Heap → Option β) (hk : H[id]? = some (.live ⟨ver, sz, rows⟩)) (hn : n = rows.length) (hp : qay rows = true) :
 oFrz (.osl id ver sz 0 n) H k = k (mkF sz rows) (H.set id .dead) := by
 subst hn
 simp [oFrz, pureA, frzA, hk, frzRows, hp]
theorem qaq {α : Type} (enc : α → List A) (h : ∀ x, pureL (enc x) = true) (xs : List α) : qay (xs.map enc) = true := by
 simp [qay, h]
end Go.Ab
namespace Go.Ab
open Go
theorem qk8 (H : Heap) : ∀ (l seen : List Nat) (n : Nat), (∀ id ∈ l, (H.getD id .dead).ids = []) → (seen ++ l).Nodup → l.length < n → reach H n seen l = seen ++ l
 | [], seen, n, _, _, _ => by simp
 | id :: l, seen, n, h, hn, hl => by
   obtain ⟨n, rfl⟩ : ∃ m, n = m + 1 := ⟨n - 1, by simp at hl; omega⟩
   have hni : id ∉ seen := fun hm => by
    rw [List.nodup_append] at hn
    exact hn.2.2 id hm id (by simp) rfl
   rw [reach, if_neg (by simpa using hni), h id (by simp), List.nil_append]
   rw [qk8 H l (seen ++ [id]) n (fun x hx => h x (by simp [hx])) (by simpa using hn) (by simp at hl; omega)]
   simp
theorem qdH {H : Heap} {i : Nat} {o : Slot} (h : H[i]? = some o) : H.set i o = H := by
 apply List.ext_getElem?
 intro j
 rw [List.getElem?_set]
 split
 · rename_i hij; subst hij; rw [h]; simp [qaE h]
 · rfl
end Go.Ab
namespace Go.Ab.T
open Go Go.Ab
theorem qdY (n : Nat) (a : A) (r : List A) (H : Heap) (hp : pureL (a :: r) = false) : lendL (n + 1) (a :: r) H = (lendA n a H).bind fun a => (lendL n r H).map fun r => a :: r := by
 rw [lendL, if_neg (by simp [hp])]
theorem qik (n : Nat) (H : Heap) : lendL (n + 1) [] H = some [] := by rw [lendL]; split <;> rfl
end Go.Ab.T
namespace Go.Ab.T
open Go Go.Ab
def Form {α : Type} (P : Program) (d : Nat) (t : TypeId) (C : α → List A) (ok : α → Prop) : Prop := ∀ cs, Gd P d t cs → ∃ x, cs = C x ∧ ok x
def wfI (k : IntKind) (n : Int) : Prop := (Lit.int k n).wf = true
variable {P : Program} {d : Nat} {t e : TypeId}
theorem qm5 {fs : Array Field} {cs : List A} (hu : P.underlying t = some (.struct fs)) (h : Gd P (d + 1) t cs) : GdF (Gd P d) fs.toList cs := by
 simpa only [Gd, hu] using h
theorem qnn {k : IntKind} (hu : P.underlying t = some (.int k)) : Form P (d + 1) t (cellC k) (wfI k) := by
 intro cs h
 simp only [Gd, hu] at h
 obtain ⟨n, rfl, hw⟩ := h
 exact ⟨n, rfl, hw⟩
theorem qma {α : Type} {C : α → List A} {ok : α → Prop} (h : Form P d e C ok) : ∀ (rows : List (List A)), (∀ row ∈ rows, Gd P d e row) → ∃ xs : List α, rows = xs.map C ∧ ∀ x ∈ xs, ok x
 | [], _ => ⟨[], rfl, by simp⟩
 | row :: rows, hr => by
   obtain ⟨x, h1, h2⟩ := h row (hr row (by simp))
   obtain ⟨xs, h3, h4⟩ := qma h rows fun r hm => hr r (by simp [hm])
   refine ⟨x :: xs, by simp [h1, h3], fun y hy => ?_⟩
   rcases List.mem_cons.1 hy with rfl | hy
   · exact h2
   · exact h4 y hy
def fitsM (n b : Nat) : Prop := n ≤ maxLen ∧ n * b ≤ 140737488351232
theorem qgC {α : Type} {C : α → List A} {ok : α → Prop} {sz b : Nat} (hu : P.underlying t = some (.slice e)) (hs : P.cellsOf e = sz) (hb : P.bytesOf e = b) (h : Form P d e C ok) :
 Form P (d + 1) t (fun xs : List α => [mkF sz (xs.map C)]) (fun xs => fitsM xs.length b ∧ ∀ x ∈ xs, ok x) := by
 intro cs hg
 simp only [Gd, hu] at hg
 obtain ⟨rows, rfl, hl, hm, hr⟩ := hg
 obtain ⟨xs, rfl, hx⟩ := qma h rows hr
 rw [hb] at hm
 exact ⟨xs, by rw [hs], ⟨by simpa using hl, by simpa [reachBytes] using hm⟩, hx⟩
end Go.Ab.T
namespace Go.Ab.T
inductive Nd where
 | mk (ks : List Int) (vs : List Extent) (kids : List Nd)
def Nd.ks : Nd → List Int | .mk ks _ _ => ks
def Nd.vs : Nd → List Extent | .mk _ vs _ => vs
def Nd.kids : Nd → List Nd | .mk _ _ kids => kids
@[simp] theorem Nd.ks_mk (ks : List Int) (vs : List Extent) (kids : List Nd) : (Nd.mk ks vs kids).ks = ks := _root_.id rfl
@[simp] theorem Nd.vs_mk (ks : List Int) (vs : List Extent) (kids : List Nd) : (Nd.mk ks vs kids).vs = vs := _root_.id rfl
@[simp] theorem Nd.kids_mk (ks : List Int) (vs : List Extent) (kids : List Nd) : (Nd.mk ks vs kids).kids = kids := _root_.id rfl
abbrev Pr := Int × Extent
mutual
def flat : Nd → List Pr
 | .mk ks vs kids => ks.zip vs ++ flats kids
def flats : List Nd → List Pr
 | [] => []
 | n :: ns => flat n ++ flats ns
end
theorem qc8 : ∀ a b : List Nd, flats (a ++ b) = flats a ++ flats b
 | [], b => rfl
 | n :: a, b => by simp only [List.cons_append, flats, qc8 a b, List.append_assoc]
def lb (lo : Option Int) (x : Int) : Prop := ∀ a, lo = some a → a ≤ x
def sl (lo : Option Int) (x : Int) : Prop := ∀ a, lo = some a → a < x
def ub (hi : Option Int) (x : Int) : Prop := ∀ b, hi = some b → x < b
theorem sl.lb {lo : Option Int} {x : Int} (h : sl lo x) : lb lo x := fun a e => Int.le_of_lt (h a e)
theorem lb.le {lo : Option Int} {x y : Int} (h : lb lo x) (hy : x ≤ y) : lb lo y := fun a e => Int.le_trans (h a e) hy
theorem sl.le {lo : Option Int} {x y : Int} (h : sl lo x) (hy : x ≤ y) : sl lo y := fun a e => by have := h a e; omega
theorem lb.lt {lo : Option Int} {x y : Int} (h : lb lo x) (hy : x < y) : sl lo y := fun a e => by have := h a e; omega
theorem ub.le {hi : Option Int} {x y : Int} (h : ub hi x) (hy : y ≤ x) : ub hi y := fun a e => by have := h a e; omega
@[simp] theorem lb_none (x : Int) : lb none x := fun a e => by simp at e
@[simp] theorem sl_none (x : Int) : sl none x := fun a e => by simp at e
@[simp] theorem ub_none (x : Int) : ub none x := fun a e => by simp at e
@[simp] theorem lb_some (a x : Int) : lb (some a) x ↔ a ≤ x := ⟨fun h => h a rfl, fun h b e => by cases e; exact h⟩
@[simp] theorem sl_some (a x : Int) : sl (some a) x ↔ a < x := ⟨fun h => h a rfl, fun h b e => by cases e; exact h⟩
@[simp] theorem ub_some (a x : Int) : ub (some a) x ↔ x < a := ⟨fun h => h a rfl, fun h b e => by cases e; exact h⟩
def chain (P : Option Int → Option Int → Nd → Prop) : Option Int → List Int → List Nd → Option Int → Prop
 | lo, [], [n], hi => P lo hi n
 | lo, k :: ks, n :: ns, hi => P lo (some k) n ∧ sl lo k ∧ ub hi k ∧ chain P (some k) ks ns hi
 | _, [], [], _ => False
 | _, [], _ :: _ :: _, _ => False
 | _, _ :: _, [], _ => False
def sz (n : Nd) : Prop := 3 ≤ n.ks.length ∧ n.ks.length ≤ 7
def okN : Nat → Option Int → Option Int → Nd → Prop
 | 0, lo, hi, .mk ks vs kids => kids = [] ∧ vs.length = ks.length ∧ ks.Pairwise (· < ·) ∧ ∀ k ∈ ks, lb lo k ∧ ub hi k
 | h + 1, lo, hi, .mk ks vs kids => vs = [] ∧ chain (okN h) lo ks kids hi ∧ ∀ n ∈ kids, sz n
section
variable {P : Option Int → Option Int → Nd → Prop}
theorem qbb : ∀ {lo : Option Int} {ks : List Int} {kids : List Nd} {hi : Option Int}, chain P lo ks kids hi → kids.length = ks.length + 1
 | lo, [], [n], hi, _ => rfl
 | lo, k :: ks, n :: ns, hi, h => by
   have := qbb h.2.2.2
   simp [this]
 | _, [], [], _, h => h.elim
 | _, [], _ :: _ :: _, _, h => h.elim
 | _, _ :: _, [], _, h => h.elim
theorem qdy : ∀ {lo : Option Int} {ks : List Int} {kids : List Nd} {hi : Option Int}, chain P lo ks kids hi → ks.Pairwise (· < ·) ∧ ∀ k ∈ ks, sl lo k ∧ ub hi k
 | lo, [], [n], hi, _ => by simp
 | lo, k :: ks, n :: ns, hi, h => by
   obtain ⟨h1, h2⟩ := qdy h.2.2.2
   refine ⟨List.pairwise_cons.2 ⟨fun x hx => by simpa using (h2 x hx).1, h1⟩, fun x hx => ?_⟩
   rcases List.mem_cons.1 hx with rfl | hx
   · exact ⟨h.2.1, h.2.2.1⟩
   · exact ⟨h.2.1.le (by have := (h2 x hx).1; simp at this; omega), (h2 x hx).2⟩
 | _, [], [], _, h => h.elim
 | _, [], _ :: _ :: _, _, h => h.elim
 | _, _ :: _, [], _, h => h.elim
theorem qkv : ∀ {lo : Option Int} {A : List Int} {C : List Nd} {k : Int} {B : List Int} {D : List Nd} {hi : Option Int}, chain P lo A C (some k) → chain P (some k) B D hi → sl lo k → ub hi k → chain P lo (A ++ k :: B) (C ++ D) hi
 | lo, [], [n], k, B, D, hi, h1, h2, h3, h4 => by
   cases D with
   | nil => have := qbb h2; simp at this
   | cons d D => exact ⟨h1, h3, h4, h2⟩
 | lo, a :: A, n :: C, k, B, D, hi, h1, h2, h3, h4 => by
   have hak : a < k := by simpa using h1.2.2.1
   exact ⟨h1.1, h1.2.1, h4.le (by omega), qkv h1.2.2.2 h2 (by simpa using hak) h4⟩
 | _, [], [], _, _, _, _, h, _, _, _ => h.elim
 | _, [], _ :: _ :: _, _, _, _, _, h, _, _, _ => h.elim
 | _, _ :: _, [], _, _, _, _, h, _, _, _ => h.elim
theorem qku : ∀ {ks : List Int} {lo : Option Int} {kids : List Nd} {hi : Option Int} (j : Nat) (k : Int), chain P lo ks kids hi → ks[j]? = some k → chain P lo (ks.take j) (kids.take (j + 1)) (some k) ∧ chain P (some k) (ks.drop (j + 1)) (kids.drop (j + 1)) hi ∧ sl lo k ∧ ub hi k
 | [], _, _, _, j, k, _, h => by simp at h
 | _ :: _, _, [], _, _, _, h, _ => h.elim
 | a :: ks, lo, n :: ns, hi, 0, k, h, hk => by
   simp at hk
   subst hk
   exact ⟨h.1, h.2.2.2, h.2.1, h.2.2.1⟩
 | a :: ks, lo, n :: ns, hi, j + 1, k, h, hk => by
   have hk' : ks[j]? = some k := by simpa using hk
   obtain ⟨h1, h2, h3, h4⟩ := qku j k h.2.2.2 hk'
   have hak : a < k := by simpa using h3
   exact ⟨⟨h.1, h.2.1, by simpa using hak, h1⟩, h2, h.2.1.le (by omega), h4⟩
end
theorem qgs {ks : List Int} {vs : List Extent} {p : Pr} (h : p ∈ ks.zip vs) : p.1 ∈ ks := (List.of_mem_zip (a := p.1) (b := p.2) h).1
def inB (lo hi : Option Int) (l : List Pr) : Prop := ∀ p ∈ l, lb lo p.1 ∧ ub hi p.1
theorem qi0 {P : Option Int → Option Int → Nd → Prop} (hP : ∀ lo hi n, P lo hi n → inB lo hi (flat n)) : ∀ {lo : Option Int} {ks : List Int} {kids : List Nd} {hi : Option Int}, chain P lo ks kids hi → inB lo hi (flats kids)
 | lo, [], [n], hi, h => by
   intro p hp
   simp only [flats, List.append_nil] at hp
   exact hP _ _ _ h p hp
 | lo, k :: ks, n :: ns, hi, h => by
   intro p hp
   simp only [flats, List.mem_append] at hp
   rcases hp with hp | hp
   · have := hP _ _ _ h.1 p hp
     refine ⟨this.1, ?_⟩
     have h2 : p.1 < k := by simpa using this.2
     exact h.2.2.1.le (by omega)
   · have := qi0 hP h.2.2.2 p hp
     have h2 : k ≤ p.1 := by simpa using this.1
     exact ⟨(h.2.1.le h2).lb, this.2⟩
 | _, [], [], _, h => h.elim
 | _, [], _ :: _ :: _, _, h => h.elim
 | _, _ :: _, [], _, h => h.elim
theorem okN_inB : ∀ (h : Nat) (lo hi : Option Int) (n : Nd), okN h lo hi n → inB lo hi (flat n)
 | 0, lo, hi, .mk ks vs kids, hn => by
   obtain ⟨rfl, h2, h3, h4⟩ := hn
   intro p hp
   simp only [flat, flats, List.append_nil] at hp
   exact h4 _ (qgs hp)
 | h + 1, lo, hi, .mk ks vs kids, hn => by
   obtain ⟨rfl, h2, h3⟩ := hn
   intro p hp
   simp only [flat, List.zip_nil_right, List.nil_append] at hp
   exact qi0 (okN_inB h) h2 p hp
theorem qk4 : ∀ (ks : List Int) (vs : List Extent), ks.Pairwise (· < ·) → (ks.zip vs).Pairwise (fun p q => p.1 < q.1)
 | [], _, _ => by simp
 | _ :: _, [], _ => by simp
 | k :: ks, v :: vs, h => by
   obtain ⟨h1, h2⟩ := List.pairwise_cons.1 h
   simp only [List.zip_cons_cons]
   exact List.pairwise_cons.2 ⟨fun p hp => h1 _ (qgs hp), qk4 ks vs h2⟩
theorem qiH {P : Option Int → Option Int → Nd → Prop} (hP : ∀ lo hi n, P lo hi n → inB lo hi (flat n)) (hS : ∀ lo hi n, P lo hi n → (flat n).Pairwise (fun p q => p.1 < q.1)) :
 ∀ {lo : Option Int} {ks : List Int} {kids : List Nd} {hi : Option Int}, chain P lo ks kids hi → (flats kids).Pairwise (fun p q => p.1 < q.1)
 | lo, [], [n], hi, h => by
   simp only [flats, List.append_nil]
   exact hS _ _ _ h
 | lo, k :: ks, n :: ns, hi, h => by
   simp only [flats]
   rw [List.pairwise_append]
   refine ⟨hS _ _ _ h.1, qiH hP hS h.2.2.2, fun p hp q hq => ?_⟩
   have h1 := (hP _ _ _ h.1 p hp).2
   have h2 := (qi0 hP h.2.2.2 q hq).1
   simp at h1 h2
   omega
 | _, [], [], _, h => h.elim
 | _, [], _ :: _ :: _, _, h => h.elim
 | _, _ :: _, [], _, h => h.elim
theorem qig : ∀ (h : Nat) (lo hi : Option Int) (n : Nd), okN h lo hi n → (flat n).Pairwise (fun p q => p.1 < q.1)
 | 0, lo, hi, .mk ks vs kids, hn => by
   obtain ⟨rfl, h2, h3, h4⟩ := hn
   simp only [flat, flats, List.append_nil]
   exact qk4 _ _ h3
 | h + 1, lo, hi, .mk ks vs kids, hn => by
   obtain ⟨rfl, h2, h3⟩ := hn
   simp only [flat, List.zip_nil_right, List.nil_append]
   exact qiH (okN_inB h) (qig h) h2
theorem qj3 : ∀ {h : Nat} {lo hi : Option Int} {n : Nd}, okN h lo hi n → n.ks.Pairwise (· < ·) ∧ ∀ k ∈ n.ks, lb lo k ∧ ub hi k
 | 0, lo, hi, .mk ks vs kids, hn => ⟨hn.2.2.1, hn.2.2.2⟩
 | h + 1, lo, hi, .mk ks vs kids, hn => by
   obtain ⟨h1, h2⟩ := qdy hn.2.1
   exact ⟨h1, fun k hk => ⟨(h2 k hk).1.lb, (h2 k hk).2⟩⟩
def pos : List Int → Int → Nat
 | [], _ => 0
 | k :: ks, x => if k < x then pos ks x + 1 else 0
def way : List Int → Int → Nat
 | [], _ => 0
 | k :: ks, x => if k ≤ x then way ks x + 1 else 0
theorem way_le : ∀ (ks : List Int) (x : Int), way ks x ≤ ks.length
 | [], _ => by simp [way]
 | k :: ks, x => by
   have := way_le ks x
   simp only [way, List.length_cons]; split <;> omega
theorem pos_le : ∀ (ks : List Int) (x : Int), pos ks x ≤ ks.length
 | [], _ => by simp [pos]
 | k :: ks, x => by
   have := pos_le ks x
   simp only [pos, List.length_cons]; split <;> omega
theorem way_eq : ∀ (ks : List Int) (x : Int), ks.Pairwise (· < ·) → way ks x = if ks[pos ks x]? = some x then pos ks x + 1 else pos ks x
 | [], _, _ => by simp [way, pos]
 | k :: ks, x, h => by
   obtain ⟨h1, h2⟩ := List.pairwise_cons.1 h
   have ih := way_eq ks x h2
   rcases Int.lt_trichotomy k x with hk | hk | hk
   · have e1 : pos (k :: ks) x = pos ks x + 1 := by simp [pos, hk]
     have e2 : way (k :: ks) x = way ks x + 1 := by simp only [way]; rw [if_pos (by omega)]
     simp only [e1, e2, ih, List.getElem?_cons_succ]
     split <;> rfl
   · subst hk
     have e1 : pos (k :: ks) k = 0 := by simp [pos]
     have e2 : way (k :: ks) k = 1 := by
      simp only [way]
      rw [if_pos (by omega)]
      cases ks with
      | nil => simp [way]
      | cons b bl =>
        have := h1 b (by simp)
        simp only [way]; rw [if_neg (by omega)]
     simp [e1, e2]
   · have e1 : pos (k :: ks) x = 0 := by simp only [pos]; rw [if_neg (by omega)]
     have e2 : way (k :: ks) x = 0 := by simp only [way]; rw [if_neg (by omega)]
     simp only [e1, e2, List.getElem?_cons_zero, Option.some.injEq]
     rw [if_neg (by omega)]
def insP (x : Int) (a : Extent) : List Pr → List Pr
 | [] => [(x, a)]
 | p :: r => if p.1 < x then p :: insP x a r else if p.1 = x then (x, a) :: r else (x, a) :: p :: r
def delP (x : Int) (l : List Pr) : List Pr := l.filter fun p => !decide (p.1 = x)
def getP (x : Int) (l : List Pr) : Option Extent := (l.find? fun p => decide (p.1 = x)).map (·.2)
theorem qgk {x : Int} {a : Extent} : ∀ (X Y : List Pr), (∀ p ∈ X, p.1 < x) → insP x a (X ++ Y) = X ++ insP x a Y
 | [], Y, _ => rfl
 | p :: X, Y, h => by
   have := qgk (a := a) X Y fun q hq => h q (by simp [hq])
   simp only [List.cons_append, insP]
   rw [if_pos (h p (by simp)), this]
theorem qil {x : Int} {a : Extent} : ∀ (X Y : List Pr), (∀ p ∈ Y, x < p.1) → insP x a (X ++ Y) = insP x a X ++ Y
 | [], [], _ => rfl
 | [], p :: Y, h => by
   have := h p (by simp)
   simp only [List.nil_append, insP, List.cons_append]
   rw [if_neg (by omega), if_neg (by omega)]
 | q :: X, Y, h => by
   have := qil (a := a) X Y h
   simp only [List.cons_append, insP]
   split
   · rw [this]; rfl
   · split <;> rfl
theorem qh4 (x : Int) (X Y : List Pr) : delP x (X ++ Y) = delP x X ++ delP x Y := by simp [delP]
theorem qfq {x : Int} {X : List Pr} (h : ∀ p ∈ X, p.1 ≠ x) : delP x X = X := by
 unfold delP
 rw [List.filter_eq_self]
 intro p hp
 simp [h p hp]
theorem getP_mid {x : Int} {X M Y : List Pr} (h1 : ∀ p ∈ X, p.1 < x) (h2 : ∀ p ∈ Y, x < p.1) : getP x (X ++ M ++ Y) = getP x M := by
 unfold getP
 rw [List.find?_append, List.find?_append]
 have e1 : X.find? (fun p => decide (p.1 = x)) = none := List.find?_eq_none.2 fun p hp => by have := h1 p hp; simp; omega
 have e2 : Y.find? (fun p => decide (p.1 = x)) = none := List.find?_eq_none.2 fun p hp => by have := h2 p hp; simp; omega
 rw [e1, e2]
 simp
end Go.Ab.T
namespace Go.Ab.T
theorem inB_lt {lo : Option Int} {k : Int} {l : List Pr} (h : inB lo (some k) l) {x : Int} (hk : k ≤ x) : ∀ p ∈ l, p.1 < x := fun p hp => by
 have := (h p hp).2
 simp at this; omega
theorem inB_gt {hi : Option Int} {k : Int} {l : List Pr} (h : inB (some k) hi l) {x : Int} (hk : x < k) : ∀ p ∈ l, x < p.1 := fun p hp => by
 have := (h p hp).1
 simp at this; omega
structure AtK (P : Option Int → Option Int → Nd → Prop) (lo : Option Int) (ks : List Int) (kids : List Nd) (hi : Option Int) (x : Int) (i : Nat) (n : Nd) (lo' hi' : Option Int) (X Y : List Pr) : Prop where
 get : kids[i]? = some n
 ok : P lo' hi' n
 lbx : lb lo' x
 ubx : ub hi' x
 parts : flats kids = X ++ flat n ++ Y
 left : ∀ p ∈ X, p.1 < x
 right : ∀ p ∈ Y, x < p.1
 set1 : ∀ n', P lo' hi' n' → chain P lo ks (kids.set i n') hi ∧ flats (kids.set i n') = X ++ flat n' ++ Y
 set2 : ∀ n' b m, P lo' (some b) n' → P (some b) hi' m → sl lo' b → ub hi' b → chain P lo (ks.insertIdx i b) ((kids.set i n').insertIdx (i + 1) m) hi ∧ flats ((kids.set i n').insertIdx (i + 1) m) = X ++ (flat n' ++ flat m) ++ Y
theorem atK {P : Option Int → Option Int → Nd → Prop} (hP : ∀ lo hi n, P lo hi n → inB lo hi (flat n)) {x : Int} : ∀ {lo : Option Int} {ks : List Int} {kids : List Nd} {hi : Option Int}, chain P lo ks kids hi → lb lo x → ub hi x →
 ∃ n lo' hi' X Y, AtK P lo ks kids hi x (way ks x) n lo' hi' X Y
 | lo, [], [n], hi, h, h1, h2 => ⟨n, lo, hi, [], [], rfl, h, h1, h2, by simp [flats], by simp, by simp, fun n' h' => ⟨h', by simp [flats, way]⟩, fun n' b m h3 h4 h5 h6 => ⟨⟨h3, h5, h6, h4⟩, by simp [flats, way]⟩⟩
 | lo, k :: ks, n :: ns, hi, h, h1, h2 => by
   obtain ⟨c1, c2, c3, c4⟩ := h
   by_cases hk : k ≤ x
   · obtain ⟨m, lo', hi', X, Y, a⟩ := atK hP c4 (by simpa using hk) h2
     have e : way (k :: ks) x = way ks x + 1 := by simp only [way]; rw [if_pos hk]
     rw [e]
     refine ⟨m, lo', hi', flat n ++ X, Y, by simpa using a.get, a.ok, a.lbx, a.ubx, by simp [flats, a.parts], fun p hp => ?_, a.right, fun n' h' => ?_, fun n' b m' h3 h4 h5 h6 => ?_⟩
     · rcases List.mem_append.1 hp with hp | hp
       · exact inB_lt (hP _ _ _ c1) hk p hp
       · exact a.left p hp
     · obtain ⟨s1, s2⟩ := a.set1 n' h'
       exact ⟨⟨c1, c2, c3, s1⟩, by simp [flats, s2]⟩
     · obtain ⟨s1, s2⟩ := a.set2 n' b m' h3 h4 h5 h6
       refine ⟨?_, ?_⟩
       · simp only [List.set_cons_succ, List.insertIdx_succ_cons]
         exact ⟨c1, c2, c3, s1⟩
       · simp only [List.set_cons_succ, List.insertIdx_succ_cons, flats, s2, List.append_assoc]
   · have e : way (k :: ks) x = 0 := by simp only [way]; rw [if_neg hk]
     rw [e]
     have hk' : x < k := by omega
     refine ⟨n, lo, some k, [], flats ns, rfl, c1, h1, by simpa using hk', by simp [flats], by simp, inB_gt (qi0 hP c4) hk', fun n' h' => ⟨⟨h', c2, c3, c4⟩, by simp [flats]⟩, fun n' b m' h3 h4 h5 h6 => ?_⟩
     have hbk : b < k := by simpa using h6
     refine ⟨?_, by simp [flats]⟩
     exact ⟨h3, h5, c3.le (y := b) (by omega), h4, by simpa using hbk, c3, c4⟩
 | _, [], [], _, h, _, _ => h.elim
 | _, [], _ :: _ :: _, _, h, _, _ => h.elim
 | _, _ :: _, [], _, h, _, _ => h.elim
theorem mem_ins {α : Type} {a b : α} : ∀ {l : List α} {i : Nat}, b ∈ l.insertIdx i a → b = a ∨ b ∈ l
 | l, 0, h => by simpa using h
 | [], i + 1, h => by simp at h
 | c :: l, i + 1, h => by
   rw [List.insertIdx_succ_cons] at h
   rcases List.mem_cons.1 h with rfl | h
   · exact .inr (by simp)
   · rcases mem_ins h with h | h
     · exact .inl h
     · exact .inr (by simp [h])
theorem zip_ins (x : Int) (a : Extent) : ∀ (ks : List Int) (vs : List Extent), vs.length = ks.length → ks.Pairwise (· < ·) →
 (if ks[pos ks x]? = some x then ks.zip (vs.set (pos ks x) a) else (ks.insertIdx (pos ks x) x).zip (vs.insertIdx (pos ks x) a)) = insP x a (ks.zip vs)
 | [], [], _, _ => by simp [pos, insP]
 | [], _ :: _, h, _ => by simp at h
 | _ :: _, [], h, _ => by simp at h
 | k :: ks, v :: vs, h, hs => by
   have ih := zip_ins x a ks vs (by simpa using h) (List.pairwise_cons.1 hs).2
   rcases Int.lt_trichotomy k x with hk | hk | hk
   · have e1 : pos (k :: ks) x = pos ks x + 1 := by simp [pos, hk]
     simp only [e1, List.getElem?_cons_succ, List.set_cons_succ, List.insertIdx_succ_cons, List.zip_cons_cons, insP, if_pos hk]
     rw [← ih]
     split <;> rfl
   · subst hk
     have e1 : pos (k :: ks) k = 0 := by simp [pos]
     simp [e1, insP]
   · have e1 : pos (k :: ks) x = 0 := by simp only [pos]; rw [if_neg (by omega)]
     have e2 : ¬ k = x := by omega
     have e3 : ¬ k < x := by omega
     simp [e1, insP, e2, e3]
theorem qko (x : Int) : ∀ (ks : List Int), ks.Pairwise (· < ·) → ks[pos ks x]? ≠ some x → (ks.insertIdx (pos ks x) x).Pairwise (· < ·)
 | [], _, _ => by simp [pos]
 | k :: ks, hs, hn => by
   obtain ⟨h1, h2⟩ := List.pairwise_cons.1 hs
   rcases Int.lt_trichotomy k x with hk | hk | hk
   · have e1 : pos (k :: ks) x = pos ks x + 1 := by simp [pos, hk]
     rw [e1] at hn ⊢
     have ih := qko x ks h2 (by simpa using hn)
     rw [List.insertIdx_succ_cons]
     refine List.pairwise_cons.2 ⟨fun y hy => ?_, ih⟩
     rcases mem_ins hy with rfl | hy
     · exact hk
     · exact h1 y hy
   · subst hk
     have e1 : pos (k :: ks) k = 0 := by simp [pos]
     simp [e1] at hn
   · have e1 : pos (k :: ks) x = 0 := by simp only [pos]; rw [if_neg (by omega)]
     rw [e1]
     simp only [List.insertIdx_zero]
     refine List.pairwise_cons.2 ⟨fun y hy => ?_, hs⟩
     rcases List.mem_cons.1 hy with rfl | hy
     · exact hk
     · have := h1 y hy; omega
theorem zip_del (x : Int) : ∀ (ks : List Int) (vs : List Extent), vs.length = ks.length → ks.Pairwise (· < ·) →
 (if ks[pos ks x]? = some x then (ks.eraseIdx (pos ks x)).zip (vs.eraseIdx (pos ks x)) else ks.zip vs) = delP x (ks.zip vs)
 | [], [], _, _ => by simp [pos, delP]
 | [], _ :: _, h, _ => by simp at h
 | _ :: _, [], h, _ => by simp at h
 | k :: ks, v :: vs, h, hs => by
   obtain ⟨h1, h2⟩ := List.pairwise_cons.1 hs
   have ih := zip_del x ks vs (by simpa using h) h2
   rcases Int.lt_trichotomy k x with hk | hk | hk
   · have e1 : pos (k :: ks) x = pos ks x + 1 := by simp [pos, hk]
     have e2 : ¬ k = x := by omega
     simp only [e1, List.getElem?_cons_succ, List.eraseIdx_cons_succ, List.zip_cons_cons]
     have : delP x ((k, v) :: ks.zip vs) = (k, v) :: delP x (ks.zip vs) := by simp [delP, e2]
     rw [this, ← ih]
     split <;> rfl
   · subst hk
     have e1 : pos (k :: ks) k = 0 := by simp [pos]
     have : delP k (ks.zip vs) = ks.zip vs := qfq fun p hp => by have := h1 _ (qgs hp); omega
     simp only [e1, List.getElem?_cons_zero, if_true, List.eraseIdx_cons_zero, List.zip_cons_cons]
     have e3 : delP k ((k, v) :: ks.zip vs) = delP k (ks.zip vs) := by simp [delP]
     rw [e3, this]
   · have e1 : pos (k :: ks) x = 0 := by simp only [pos]; rw [if_neg (by omega)]
     have e2 : ¬ k = x := by omega
     have : delP x (ks.zip vs) = ks.zip vs := qfq fun p hp => by have := h1 _ (qgs hp); omega
     have e3 : delP x ((k, v) :: ks.zip vs) = (k, v) :: delP x (ks.zip vs) := by simp [delP, e2]
     simp [e1, e2, e3, this]
theorem zip_get (x : Int) : ∀ (ks : List Int) (vs : List Extent), vs.length = ks.length → ks.Pairwise (· < ·) →
 (if ks[pos ks x]? = some x then vs[pos ks x]? else none) = getP x (ks.zip vs)
 | [], [], _, _ => by simp [pos, getP]
 | [], _ :: _, h, _ => by simp at h
 | _ :: _, [], h, _ => by simp at h
 | k :: ks, v :: vs, h, hs => by
   obtain ⟨h1, h2⟩ := List.pairwise_cons.1 hs
   have ih := zip_get x ks vs (by simpa using h) h2
   rcases Int.lt_trichotomy k x with hk | hk | hk
   · have e1 : pos (k :: ks) x = pos ks x + 1 := by simp [pos, hk]
     have e2 : ¬ k = x := by omega
     simp only [e1, List.getElem?_cons_succ, ih, List.zip_cons_cons]
     simp [getP, e2]
   · subst hk
     have e1 : pos (k :: ks) k = 0 := by simp [pos]
     simp [e1, getP]
   · have e1 : pos (k :: ks) x = 0 := by simp only [pos]; rw [if_neg (by omega)]
     have e2 : ¬ k = x := by omega
     have : getP x (ks.zip vs) = none := by
      unfold getP
      rw [List.find?_eq_none.2 fun p hp => by have := h1 _ (qgs hp); simp; omega]
      rfl
     simp only [e1, List.getElem?_cons_zero, Option.some.injEq, e2, if_false]
     rw [← this]
     simp [getP, e2]
def splitN : Nd → Nd × Int × Option Nd
 | .mk ks vs kids =>
   if ks.length ≤ 7 then (.mk ks vs kids, 0, none)
   else if kids = [] then (.mk (ks.take (ks.length / 2)) (vs.take (ks.length / 2)) [], ks.getD (ks.length / 2) 0, some (.mk (ks.drop (ks.length / 2)) (vs.drop (ks.length / 2)) []))
   else (.mk (ks.take (ks.length / 2)) [] (kids.take (ks.length / 2 + 1)), ks.getD (ks.length / 2) 0, some (.mk (ks.drop (ks.length / 2 + 1)) [] (kids.drop (ks.length / 2 + 1))))
theorem qe6 (ks : List Int) (vs : List Extent) (kids : List Nd) : splitN (.mk ks vs kids) = if ks.length ≤ 7 then (.mk ks vs kids, 0, none)
 else if kids = [] then (.mk (ks.take (ks.length / 2)) (vs.take (ks.length / 2)) [], ks.getD (ks.length / 2) 0, some (.mk (ks.drop (ks.length / 2)) (vs.drop (ks.length / 2)) []))
 else (.mk (ks.take (ks.length / 2)) [] (kids.take (ks.length / 2 + 1)), ks.getD (ks.length / 2) 0, some (.mk (ks.drop (ks.length / 2 + 1)) [] (kids.drop (ks.length / 2 + 1)))) := rfl
def okS (h : Nat) (lo hi : Option Int) (l : List Pr) (r : Nd × Int × Option Nd) : Prop :=
 match r with
 | (n1, _, none) => okN h lo hi n1 ∧ flat n1 = l
 | (n1, b, some m) => okN h lo (some b) n1 ∧ okN h (some b) hi m ∧ sl lo b ∧ ub hi b ∧ flat n1 ++ flat m = l ∧ sz n1 ∧ sz m
theorem split_leaf {lo hi : Option Int} {n : Nd} (h : okN 0 lo hi n) (hl : n.ks.length ≤ 14) : okS 0 lo hi (flat n) (splitN n) ∧ ((splitN n).2.2 = none → (splitN n).1 = n ∧ n.ks.length ≤ 7) ∧ ((splitN n).2.2 ≠ none → 8 ≤ n.ks.length) := by
 obtain ⟨ks, vs, kids⟩ := n
 obtain ⟨rfl, h2, h3, h4⟩ := h
 simp only [Nd.ks_mk] at hl
 rw [qe6]
 by_cases hk : ks.length ≤ 7
 · rw [if_pos hk]
   refine ⟨⟨⟨rfl, h2, h3, h4⟩, rfl⟩, fun _ => ⟨rfl, hk⟩, by simp⟩
 · rw [if_neg hk, if_pos rfl]
   have hlt : ks.length / 2 < ks.length := by omega
   have hg : ks.getD (ks.length / 2) 0 = ks[ks.length / 2] := by simp [hlt]
   have hm := List.getElem_mem hlt
   have hp := List.pairwise_iff_getElem.1 h3
   refine ⟨⟨⟨rfl, by simp [h2], h3.sublist (List.take_sublist _ _), fun k hk' => ?_⟩, ⟨rfl, by simp [h2], h3.sublist (List.drop_sublist _ _), fun k hk' => ?_⟩, ?_, ?_, ?_, ?_, ?_⟩, by simp, fun _ => by simp; omega⟩
   · refine ⟨(h4 k (List.mem_of_mem_take hk')).1, ?_⟩
     obtain ⟨j, hj, rfl⟩ := List.mem_take_iff_getElem.1 hk'
     rw [hg]
     simpa using hp j _ (by omega) hlt (by omega)
   · refine ⟨?_, (h4 k (List.mem_of_mem_drop hk')).2⟩
     obtain ⟨j, hj, rfl⟩ := List.mem_iff_getElem.1 hk'
     rw [hg, List.getElem_drop]
     simp only [lb_some]
     rcases Nat.eq_zero_or_pos j with rfl | h0
     · simp
     · exact Int.le_of_lt (hp _ _ hlt (by simp at hj; omega) (by omega))
   · rw [hg]
     have h0 : 0 < ks.length := by omega
     exact (h4 ks[0] (List.getElem_mem h0)).1.lt (hp 0 _ h0 hlt (by omega))
   · rw [hg]; exact (h4 _ hm).2
   · simp only [flat, flats, List.append_nil]
     rw [← List.zip_append (by simp [h2]), List.take_append_drop, List.take_append_drop]
   · simp [sz]; omega
   · simp [sz]; omega
theorem qmu {h : Nat} {lo hi : Option Int} {n : Nd} (hn : okN (h + 1) lo hi n) (hl : n.ks.length ≤ 14) : okS (h + 1) lo hi (flat n) (splitN n) ∧ ((splitN n).2.2 = none → (splitN n).1 = n ∧ n.ks.length ≤ 7) ∧ ((splitN n).2.2 ≠ none → 8 ≤ n.ks.length) := by
 obtain ⟨ks, vs, kids⟩ := n
 obtain ⟨rfl, h2, h3⟩ := hn
 simp only [Nd.ks_mk] at hl
 have hkl := qbb h2
 rw [qe6]
 by_cases hk : ks.length ≤ 7
 · rw [if_pos hk]
   refine ⟨⟨⟨rfl, h2, h3⟩, rfl⟩, fun _ => ⟨rfl, hk⟩, by simp⟩
 · have hkn : ¬ kids = [] := by rintro rfl; simp at hkl
   rw [if_neg hk, if_neg hkn]
   have hlt : ks.length / 2 < ks.length := by omega
   have hg : ks[ks.length / 2]? = some (ks.getD (ks.length / 2) 0) := by simp [hlt]
   obtain ⟨c1, c2, c3, c4⟩ := qku _ _ h2 hg
   refine ⟨⟨⟨rfl, c1, fun n hn => h3 n (List.mem_of_mem_take hn)⟩, ⟨rfl, c2, fun n hn => h3 n (List.mem_of_mem_drop hn)⟩, c3, c4, ?_, ?_, ?_⟩, by simp, fun _ => by simp; omega⟩
   · simp only [flat, List.zip_nil_right, List.nil_append]
     rw [← qc8, List.take_append_drop]
   · simp [sz]; omega
   · simp [sz]; omega
theorem qiU {h : Nat} {lo hi : Option Int} {n : Nd} (hn : okN h lo hi n) (hl : n.ks.length ≤ 14) : okS h lo hi (flat n) (splitN n) ∧ ((splitN n).2.2 = none → (splitN n).1 = n ∧ n.ks.length ≤ 7) ∧ ((splitN n).2.2 ≠ none → 8 ≤ n.ks.length) := by
 cases h with
 | zero => exact split_leaf hn hl
 | succ h => exact qmu hn hl
def putN (x : Int) (a : Extent) : Nat → Nd → Nd × Int × Option Nd
 | 0, .mk ks vs kids => if ks[pos ks x]? = some x then (.mk ks (vs.set (pos ks x) a) kids, 0, none) else splitN (.mk (ks.insertIdx (pos ks x) x) (vs.insertIdx (pos ks x) a) kids)
 | h + 1, .mk ks vs kids =>
   match putN x a h (kids.getD (way ks x) (.mk [] [] [])) with
   | (n, _, none) => splitN (.mk ks vs (kids.set (way ks x) n))
   | (n, b, some m) => splitN (.mk (ks.insertIdx (way ks x) b) vs ((kids.set (way ks x) n).insertIdx (way ks x + 1) m))
theorem put_ok {x : Int} {a : Extent} : ∀ {h : Nat} {lo hi : Option Int} {n : Nd}, okN h lo hi n → n.ks.length ≤ 7 → lb lo x → ub hi x →
 okS h lo hi (insP x a (flat n)) (putN x a h n) ∧ ((putN x a h n).2.2 = none → n.ks.length ≤ (putN x a h n).1.ks.length ∧ (putN x a h n).1.ks.length ≤ 7)
 | 0, lo, hi, .mk ks vs kids, hn, hl, h1, h2 => by
   obtain ⟨rfl, e2, e3, e4⟩ := hn
   have hz := zip_ins x a ks vs e2 e3
   simp only [Nd.ks_mk] at hl
   unfold putN
   by_cases hf : ks[pos ks x]? = some x
   · rw [if_pos hf] at hz ⊢
     refine ⟨⟨⟨rfl, by simp [e2], e3, e4⟩, by simp only [flat, flats, List.append_nil]; exact hz⟩, fun _ => ⟨Nat.le_refl _, hl⟩⟩
   · rw [if_neg hf] at hz ⊢
     have hp := pos_le ks x
     have hlen : (ks.insertIdx (pos ks x) x).length = ks.length + 1 := List.length_insertIdx_of_le_length hp _
     have hok : okN 0 lo hi (.mk (ks.insertIdx (pos ks x) x) (vs.insertIdx (pos ks x) a) []) := by
      refine ⟨rfl, ?_, qko x ks e3 hf, fun k hk => ?_⟩
      · rw [hlen, List.length_insertIdx_of_le_length (by omega), e2]
      · rcases mem_ins hk with rfl | hk
        · exact ⟨h1, h2⟩
        · exact e4 k hk
     obtain ⟨s1, s2, s3⟩ := qiU hok (by simp [hlen]; omega)
     have hfl : flat (.mk (ks.insertIdx (pos ks x) x) (vs.insertIdx (pos ks x) a) []) = insP x a (flat (.mk ks vs [])) := by
      simp only [flat, flats, List.append_nil]; exact hz
     rw [hfl] at s1
     refine ⟨s1, fun hnone => ?_⟩
     obtain ⟨e5, e6⟩ := s2 hnone
     rw [e5]
     simp only [Nd.ks_mk, hlen] at e6 ⊢
     omega
 | h + 1, lo, hi, .mk ks vs kids, hn, hl, h1, h2 => by
   obtain ⟨rfl, e2, e3⟩ := hn
   simp only [Nd.ks_mk] at hl
   obtain ⟨n, lo', hi', X, Y, A⟩ := atK (okN_inB h) e2 h1 h2
   have hnm := e3 n (List.mem_of_getElem? A.get)
   have ih := put_ok (x := x) (a := a) A.ok hnm.2 A.lbx A.ubx
   have hgd : kids.getD (way ks x) (.mk [] [] []) = n := by simp [List.getD_eq_getElem?_getD, A.get]
   have hfl : flat (.mk ks [] kids) = X ++ flat n ++ Y := by simp only [flat, List.zip_nil_right, List.nil_append]; exact A.parts
   have hins : insP x a (X ++ flat n ++ Y) = X ++ insP x a (flat n) ++ Y := by
    rw [qil _ _ A.right, qgk _ _ A.left]
   have hset : ∀ n', sz n' → ∀ y ∈ kids.set (way ks x) n', sz y := fun n' hn' y hy => by
    rcases List.mem_or_eq_of_mem_set hy with hy | rfl
    · exact e3 y hy
    · exact hn'
   unfold putN
   rw [hgd]
   generalize putN x a h n = r at ih
   obtain ⟨n1, b, m⟩ := r
   cases m with
   | none =>
     obtain ⟨⟨i1, i2⟩, i3⟩ := ih
     obtain ⟨i4, i5⟩ := i3 rfl
     obtain ⟨s1, s2⟩ := A.set1 n1 i1
     have hok : okN (h + 1) lo hi (.mk ks [] (kids.set (way ks x) n1)) := ⟨rfl, s1, hset n1 ⟨by have := hnm.1; simp only at i4; omega, i5⟩⟩
     obtain ⟨t1, t2, t3⟩ := qiU hok (by simp; omega)
     have hf2 : flat (.mk ks [] (kids.set (way ks x) n1)) = insP x a (flat (.mk ks [] kids)) := by
      rw [hfl, hins]
      simp only [flat, List.zip_nil_right, List.nil_append]
      rw [s2, i2]
     rw [hf2] at t1
     refine ⟨t1, fun hnone => ?_⟩
     obtain ⟨e5, e6⟩ := t2 hnone
     rw [e5]
     exact ⟨Nat.le_refl _, e6⟩
   | some m =>
     obtain ⟨⟨i1, i2, i3, i4, i5, i6, i7⟩, -⟩ := ih
     obtain ⟨s1, s2⟩ := A.set2 n1 b m i1 i2 i3 i4
     have hwl := way_le ks x
     have hlen : (ks.insertIdx (way ks x) b).length = ks.length + 1 := List.length_insertIdx_of_le_length hwl _
     have hok : okN (h + 1) lo hi (.mk (ks.insertIdx (way ks x) b) [] ((kids.set (way ks x) n1).insertIdx (way ks x + 1) m)) := ⟨rfl, s1, fun y hy => by
      rcases mem_ins hy with rfl | hy
      · exact i7
      · exact hset n1 i6 y hy⟩
     obtain ⟨t1, t2, t3⟩ := qiU hok (by simp [hlen]; omega)
     have hf2 : flat (.mk (ks.insertIdx (way ks x) b) [] ((kids.set (way ks x) n1).insertIdx (way ks x + 1) m)) = insP x a (flat (.mk ks [] kids)) := by
      rw [hfl, hins]
      simp only [flat, List.zip_nil_right, List.nil_append]
      rw [s2, i5]
     rw [hf2] at t1
     refine ⟨t1, fun hnone => ?_⟩
     obtain ⟨e5, e6⟩ := t2 hnone
     rw [e5]
     simp only [Nd.ks_mk, hlen] at e6 ⊢
     omega
end Go.Ab.T
namespace Go.Ab.T
def joinN (a : Nd) (k : Int) (b : Nd) : Nd := if a.kids = [] then .mk (a.ks ++ b.ks) (a.vs ++ b.vs) [] else .mk (a.ks ++ k :: b.ks) [] (a.kids ++ b.kids)
def mendN (n : Nd) (j : Nat) : Nd :=
 let a := n.kids.getD j (.mk [] [] [])
 let b := n.kids.getD (j + 1) (.mk [] [] [])
 let c := joinN a (n.ks.getD j 0) b
 if c.ks.length ≤ 7 then .mk (n.ks.eraseIdx j) n.vs ((n.kids.eraseIdx (j + 1)).set j c)
 else match splitN c with
  | (p, m, some q) => .mk (n.ks.set j m) n.vs ((n.kids.set j p).set (j + 1) q)
  | (p, m, none) => .mk (n.ks.set j m) n.vs ((n.kids.set j p).set (j + 1) (.mk [] [] []))
def delN (x : Int) : Nat → Nd → Nd
 | 0, .mk ks vs kids => if ks[pos ks x]? = some x then .mk (ks.eraseIdx (pos ks x)) (vs.eraseIdx (pos ks x)) kids else .mk ks vs kids
 | h + 1, .mk ks vs kids =>
   let n := delN x h (kids.getD (way ks x) (.mk [] [] []))
   if n.ks.length < 3 then mendN (.mk ks vs (kids.set (way ks x) n)) (way ks x - 1) else .mk ks vs (kids.set (way ks x) n)
structure AtM (P : Option Int → Option Int → Nd → Prop) (lo : Option Int) (ks : List Int) (kids : List Nd) (hi : Option Int) (j : Nat) (a b : Nd) (k : Int) (lo' hi' : Option Int) (X Y : List Pr) : Prop where
 ga : kids[j]? = some a
 gb : kids[j + 1]? = some b
 gk : ks[j]? = some k
 oka : P lo' (some k) a
 okb : P (some k) hi' b
 slk : sl lo' k
 ubk : ub hi' k
 parts : flats kids = X ++ (flat a ++ flat b) ++ Y
 one : ∀ c, P lo' hi' c → chain P lo (ks.eraseIdx j) ((kids.eraseIdx (j + 1)).set j c) hi ∧ flats ((kids.eraseIdx (j + 1)).set j c) = X ++ flat c ++ Y
 two : ∀ p m q, P lo' (some m) p → P (some m) hi' q → sl lo' m → ub hi' m → chain P lo (ks.set j m) ((kids.set j p).set (j + 1) q) hi ∧ flats ((kids.set j p).set (j + 1) q) = X ++ (flat p ++ flat q) ++ Y
theorem atM {P : Option Int → Option Int → Nd → Prop} : ∀ {ks : List Int} {lo : Option Int} {kids : List Nd} {hi : Option Int} (j : Nat), chain P lo ks kids hi → j < ks.length →
 ∃ a b k lo' hi' X Y, AtM P lo ks kids hi j a b k lo' hi' X Y
 | [], _, _, _, j, _, h => by simp at h
 | _ :: _, _, [], _, _, h, _ => h.elim
 | k :: ks, lo, [n], hi, j, h, hj => by have := qbb h; simp at this
 | [k], lo, [n, m], hi, 0, h, hj => by
   obtain ⟨c1, c2, c3, c4⟩ := h
   exact ⟨n, m, k, lo, hi, [], [], rfl, rfl, rfl, c1, c4, c2, c3, by simp [flats], fun c hc => ⟨hc, by simp [flats]⟩, fun p m' q h1 h2 h3 h4 => ⟨⟨h1, h3, h4, h2⟩, by simp [flats]⟩⟩
 | [k], lo, n :: m :: m2 :: ns, hi, j, h, hj => by have := qbb h; simp at this
 | k :: k2 :: ks, lo, n :: m :: ns, hi, 0, h, hj => by
   obtain ⟨c1, c2, c3, c4, c5, c6, c7⟩ := h
   have hk : k < k2 := by simpa using c5
   refine ⟨n, m, k, lo, some k2, [], flats ns, rfl, rfl, rfl, c1, c4, c2, by simpa using hk, by simp [flats], fun c hc => ⟨⟨hc, c2.le (by omega), c6, c7⟩, by simp [flats]⟩, fun p m' q h1 h2 h3 h4 => ⟨⟨h1, h3, ?_, h2, ?_, c6, c7⟩, by simp [flats]⟩⟩
   · have : m' < k2 := by simpa using h4
     exact c6.le (y := m') (by omega)
   · simpa using h4
 | k :: ks, lo, n :: m :: ns, hi, j + 1, h, hj => by
   obtain ⟨c1, c2, c3, c4⟩ := h
   obtain ⟨a, b, k', lo', hi', X, Y, A⟩ := atM j c4 (by simpa using hj)
   refine ⟨a, b, k', lo', hi', flat n ++ X, Y, by simpa using A.ga, by simpa using A.gb, by simpa using A.gk, A.oka, A.okb, A.slk, A.ubk, ?_, fun c hc => ?_, fun p m' q h1 h2 h3 h4 => ?_⟩
   · rw [flats, A.parts]; simp
   · obtain ⟨s1, s2⟩ := A.one c hc
     simp only [List.eraseIdx_cons_succ, List.set_cons_succ]
     simp only [List.eraseIdx_cons_succ] at s1 s2
     exact ⟨⟨c1, c2, c3, s1⟩, by rw [flats, s2]; simp⟩
   · obtain ⟨s1, s2⟩ := A.two p m' q h1 h2 h3 h4
     simp only [List.set_cons_succ]
     exact ⟨⟨c1, c2, c3, s1⟩, by rw [flats, s2]; simp⟩
theorem join_ok {h : Nat} {lo hi : Option Int} {a b : Nd} {k : Int} (ha : okN h lo (some k) a) (hb : okN h (some k) hi b) (h1 : sl lo k) (h2 : ub hi k) (hz : a.kids = [] ↔ h = 0) :
 okN h lo hi (joinN a k b) ∧ flat (joinN a k b) = flat a ++ flat b ∧ (joinN a k b).ks.length = a.ks.length + b.ks.length + (if h = 0 then 0 else 1) := by
 obtain ⟨aks, avs, akids⟩ := a
 obtain ⟨bks, bvs, bkids⟩ := b
 cases h with
 | zero =>
   obtain ⟨rfl, a2, a3, a4⟩ := ha
   obtain ⟨rfl, b2, b3, b4⟩ := hb
   simp only [joinN, Nd.kids_mk, if_true, Nd.ks_mk, Nd.vs_mk]
   refine ⟨⟨rfl, by simp [a2, b2], List.pairwise_append.2 ⟨a3, b3, fun x hx y hy => ?_⟩, fun x hx => ?_⟩, ?_, by simp⟩
   · have e1 : x < k := by simpa using (a4 x hx).2
     have e2 : k ≤ y := by simpa using (b4 y hy).1
     omega
   · rcases List.mem_append.1 hx with hx | hx
     · have e1 : x < k := by simpa using (a4 x hx).2
       exact ⟨(a4 x hx).1, h2.le (by omega)⟩
     · have e2 : k ≤ x := by simpa using (b4 x hx).1
       exact ⟨(h1.le e2).lb, (b4 x hx).2⟩
   · simp only [flat, flats, List.append_nil]
     rw [List.zip_append a2.symm]
 | succ h =>
   obtain ⟨rfl, a2, a3⟩ := ha
   obtain ⟨rfl, b2, b3⟩ := hb
   have hk : ¬ akids = [] := by simpa using hz
   simp only [joinN, Nd.kids_mk, if_neg hk, Nd.ks_mk, Nd.vs_mk]
   refine ⟨⟨rfl, qkv a2 b2 h1 h2, fun n hn => ?_⟩, ?_, by simp; omega⟩
   · rcases List.mem_append.1 hn with hn | hn
     · exact a3 n hn
     · exact b3 n hn
   · simp only [flat, List.zip_nil_right, List.nil_append, qc8]
theorem ql5 {h : Nat} {lo hi : Option Int} {n : Nd} (hn : okN h lo hi n) : n.kids = [] ↔ h = 0 := by
 obtain ⟨ks, vs, kids⟩ := n
 cases h with
 | zero => simp [hn.1]
 | succ h =>
   have := qbb hn.2.1
   simp only [Nd.kids_mk, Nat.add_one_ne_zero, iff_false]
   rintro rfl
   simp at this
theorem mend_ok {h : Nat} {lo hi : Option Int} {ks : List Int} {kids : List Nd} {j : Nat} (hc : chain (okN h) lo ks kids hi) (hj : j < ks.length) (hsz : ∀ (i : Nat) n, kids[i]? = some n → i ≠ j → i ≠ j + 1 → sz n)
 (hab : ∀ a b, kids[j]? = some a → kids[j + 1]? = some b → 5 ≤ a.ks.length + b.ks.length ∧ a.ks.length + b.ks.length ≤ 13) :
 okN (h + 1) lo hi (mendN (.mk ks [] kids) j) ∧ flat (mendN (.mk ks [] kids) j) = flats kids ∧ ks.length ≤ (mendN (.mk ks [] kids) j).ks.length + 1 ∧ (mendN (.mk ks [] kids) j).ks.length ≤ ks.length := by
 obtain ⟨a, b, k, lo', hi', X, Y, A⟩ := atM j hc hj
 have hga : kids.getD j (.mk [] [] []) = a := by simp [List.getD_eq_getElem?_getD, A.ga]
 have hgb : kids.getD (j + 1) (.mk [] [] []) = b := by simp [List.getD_eq_getElem?_getD, A.gb]
 have hgk : ks.getD j 0 = k := by simp [List.getD_eq_getElem?_getD, A.gk]
 obtain ⟨h1, h2⟩ := hab a b A.ga A.gb
 obtain ⟨j1, j2, j3⟩ := join_ok A.oka A.okb A.slk A.ubk (ql5 A.oka)
 simp only [mendN, Nd.ks_mk, Nd.vs_mk, Nd.kids_mk, hga, hgb, hgk]
 generalize joinN a k b = c at j1 j2 j3
 have hc14 : c.ks.length ≤ 14 := by rw [j3]; split <;> omega
 have hkl := qbb hc
 by_cases h7 : c.ks.length ≤ 7
 · rw [if_pos h7]
   obtain ⟨s1, s2⟩ := A.one c j1
   have hcz : sz c := ⟨by rw [j3]; omega, h7⟩
   refine ⟨⟨rfl, s1, fun n hn => ?_⟩, ?_, ?_, ?_⟩
   · obtain ⟨i, hi⟩ := List.getElem?_of_mem hn
     rw [List.getElem?_set] at hi
     split at hi
     · split at hi
       · cases hi; exact hcz
       · cases hi
     · rename_i hij
       rw [List.getElem?_eraseIdx] at hi
       split at hi
       · exact hsz i n hi (by omega) (by omega)
       · exact hsz (i + 1) n hi (by omega) (by omega)
   · simp only [flat, List.zip_nil_right, List.nil_append]
     rw [s2, j2, A.parts]
   · simp only [Nd.ks_mk, List.length_eraseIdx, if_pos hj]; omega
   · simp only [Nd.ks_mk, List.length_eraseIdx, if_pos hj]; omega
 · rw [if_neg h7]
   obtain ⟨t1, t2, t3⟩ := qiU j1 hc14
   generalize splitN c = r at t1 t2 t3
   obtain ⟨p, m, q⟩ := r
   cases q with
   | none => exact absurd (t2 rfl).2 h7
   | some q =>
     obtain ⟨u1, u2, u3, u4, u5, u6, u7⟩ := t1
     obtain ⟨s1, s2⟩ := A.two p m q u1 u2 u3 u4
     refine ⟨⟨rfl, s1, fun n hn => ?_⟩, ?_, by simp, by simp⟩
     · obtain ⟨i, hi⟩ := List.getElem?_of_mem hn
       rw [List.getElem?_set] at hi
       split at hi
       · split at hi
         · cases hi; exact u7
         · cases hi
       · rename_i hij
         rw [List.getElem?_set] at hi
         split at hi
         · split at hi
           · cases hi; exact u6
           · cases hi
         · rename_i hij2
           exact hsz i n hi (by omega) (by omega)
     · simp only [flat, List.zip_nil_right, List.nil_append]
       rw [s2, u5, j2, A.parts]
theorem del_ok {x : Int} : ∀ {h : Nat} {lo hi : Option Int} {n : Nd}, okN h lo hi n → n.ks.length ≤ 7 → (0 < h → n.ks ≠ []) → lb lo x → ub hi x →
 okN h lo hi (delN x h n) ∧ flat (delN x h n) = delP x (flat n) ∧ n.ks.length ≤ (delN x h n).ks.length + 1 ∧ (delN x h n).ks.length ≤ n.ks.length
 | 0, lo, hi, .mk ks vs kids, hn, hl, _, h1, h2 => by
   obtain ⟨rfl, e2, e3, e4⟩ := hn
   have hz := zip_del x ks vs e2 e3
   unfold delN
   by_cases hf : ks[pos ks x]? = some x
   · rw [if_pos hf] at hz ⊢
     have hp := (List.getElem?_eq_some_iff.1 hf).1
     refine ⟨⟨rfl, ?_, e3.sublist (List.eraseIdx_sublist ..), fun k hk => e4 k (List.mem_of_mem_eraseIdx hk)⟩, by simp only [flat, flats, List.append_nil]; exact hz, ?_, ?_⟩
     · rw [List.length_eraseIdx, List.length_eraseIdx, e2]
     · simp only [Nd.ks_mk, List.length_eraseIdx, if_pos hp]; omega
     · simp only [Nd.ks_mk, List.length_eraseIdx, if_pos hp]; omega
   · rw [if_neg hf] at hz ⊢
     exact ⟨⟨rfl, e2, e3, e4⟩, by simp only [flat, flats, List.append_nil]; exact hz, by simp, by simp⟩
 | h + 1, lo, hi, .mk ks vs kids, hn, hl, hk0, h1, h2 => by
   obtain ⟨rfl, e2, e3⟩ := hn
   have hk0 : ks ≠ [] := hk0 (by omega)
   have hkpos : 0 < ks.length := List.length_pos_iff.2 hk0
   obtain ⟨n, lo', hi', X, Y, A⟩ := atK (okN_inB h) e2 h1 h2
   have hnm := e3 n (List.mem_of_getElem? A.get)
   obtain ⟨i1, i2, i3, i4⟩ := del_ok (x := x) A.ok hnm.2 (fun _ => by rintro e; have := hnm.1; rw [e] at this; simp at this) A.lbx A.ubx
   have hgd : kids.getD (way ks x) (.mk [] [] []) = n := by simp [List.getD_eq_getElem?_getD, A.get]
   have hfl : flat (.mk ks [] kids) = X ++ flat n ++ Y := by simp only [flat, List.zip_nil_right, List.nil_append]; exact A.parts
   have hdel : delP x (X ++ flat n ++ Y) = X ++ delP x (flat n) ++ Y := by
    rw [qh4, qh4, qfq fun p hp => by have := A.left p hp; omega, qfq (X := Y) fun p hp => by have := A.right p hp; omega]
   simp only [delN, hgd]
   generalize delN x h n = n1 at i1 i2 i3 i4
   obtain ⟨s1, s2⟩ := A.set1 n1 i1
   have hwl := way_le ks x
   have hkl := qbb e2
   have hn1 := hnm.1
   have hn2 := hnm.2
   by_cases h3 : n1.ks.length < 3
   · rw [if_pos h3]
     have hin : way ks x < kids.length := (List.getElem?_eq_some_iff.1 A.get).1
     obtain ⟨m1, m2, m3, m4⟩ := mend_ok (j := way ks x - 1) s1 (by omega) (fun i m hi ne1 ne2 => by
      rw [List.getElem?_set] at hi
      split at hi
      · rename_i hij; omega
      · exact e3 m (List.mem_of_getElem? hi)) (fun a b ha hb => by
      rw [List.getElem?_set] at ha hb
      by_cases hw : way ks x = 0
      · rw [if_pos (by omega), if_pos hin] at ha
        rw [if_neg (by omega)] at hb
        obtain ⟨z1, z2⟩ := e3 b (List.mem_of_getElem? hb)
        cases ha
        omega
      · rw [if_neg (by omega)] at ha
        rw [if_pos (by omega), if_pos hin] at hb
        obtain ⟨z1, z2⟩ := e3 a (List.mem_of_getElem? ha)
        cases hb
        omega)
     refine ⟨m1, ?_, by simpa using m3, by simpa using m4⟩
     rw [m2, s2, i2, hfl, hdel]
   · rw [if_neg h3]
     refine ⟨⟨rfl, s1, fun y hy => ?_⟩, ?_, by simp, by simp⟩
     · rcases List.mem_or_eq_of_mem_set hy with hy | rfl
       · exact e3 y hy
       · exact ⟨by omega, by omega⟩
     · rw [hfl, hdel]
       simp only [flat, List.zip_nil_right, List.nil_append]
       rw [s2, i2]
end Go.Ab.T
namespace Go.Ab.T
open Go Go.Ab Go.Ab.F
mutual
def nodeC : Nd → List A
 | .mk ks vs kids => [mkF 1 (ks.map (cellC .u64)), mkF 2 (vs.map extentC), mkF 1 (nodesC kids)]
def nodesC : List Nd → List (List A)
 | [] => []
 | n :: ns => [.cptr (nodeC n)] :: nodesC ns
end
abbrev kidC (n : Nd) : List A := [.cptr (nodeC n)]
theorem qij : ∀ l : List Nd, nodesC l = l.map kidC
 | [] => rfl
 | n :: ns => by simp only [nodesC, qij ns, List.map_cons]
theorem qfC (ks : List Int) (vs : List Extent) (kids : List Nd) : nodeC (.mk ks vs kids) = [mkF 1 (ks.map (cellC .u64)), mkF 2 (vs.map extentC), mkF 1 (kids.map kidC)] := by rw [nodeC, qij]
theorem qeB (n : Nd) : nodeC n = [mkF 1 (n.ks.map (cellC .u64)), mkF 2 (n.vs.map extentC), mkF 1 (n.kids.map kidC)] := by
 obtain ⟨ks, vs, kids⟩ := n
 exact qfC ks vs kids
@[simp] theorem nodeC_len (n : Nd) : (nodeC n).length = 3 := by rw [qeB]; rfl
theorem at_getL {α : Type} {l : List α} {i : Nat} {a : α} (h : l[i]? = some a) (p : i < l.length) : l[i] = a := by
 rw [List.getElem?_eq_getElem p] at h; exact Option.some.inj h
@[simp] theorem nodeC_0 (n : Nd) : (nodeC n)[0]? = some (mkF 1 (n.ks.map (cellC .u64))) := by rw [qeB]; rfl
@[simp] theorem nodeC_1 (n : Nd) : (nodeC n)[1]? = some (mkF 2 (n.vs.map extentC)) := by rw [qeB]; rfl
@[simp] theorem nodeC_2 (n : Nd) : (nodeC n)[2]? = some (mkF 1 (n.kids.map kidC)) := by rw [qeB]; rfl
@[simp] theorem nodeC_g0 (n : Nd) (h : 0 < (nodeC n).length) : (nodeC n)[0] = mkF 1 (n.ks.map (cellC .u64)) := at_getL (nodeC_0 n) h
@[simp] theorem nodeC_g1 (n : Nd) (h : 1 < (nodeC n).length) : (nodeC n)[1] = mkF 2 (n.vs.map extentC) := at_getL (nodeC_1 n) h
@[simp] theorem nodeC_g2 (n : Nd) (h : 2 < (nodeC n).length) : (nodeC n)[2] = mkF 1 (n.kids.map kidC) := at_getL (nodeC_2 n) h
theorem qeC (n : Nd) : ((nodeC n).drop 1)[0]? = some (mkF 2 (n.vs.map extentC)) := by rw [qeB]; rfl
theorem qdo (n : Nd) : ((nodeC n).drop 2)[0]? = some (mkF 1 (n.kids.map kidC)) := by rw [qeB]; rfl
theorem qbS (n : Nd) : ((nodeC n).drop 0)[0]? = some (mkF 1 (n.ks.map (cellC .u64))) := by rw [qeB]; rfl
theorem leaf_v (n : Nd) : qar [.cptr (nodeC n)] [] = some (.ok (.s (.bool (decide (n.kids = [])))), []) := by
 have : decide ((n.kids.length : Int) = 0) = decide (n.kids = []) := by simp
 simp [qar, qdo, qa9, this]
theorem qdQ (n : Nd) {β : Type} (h : Heap) (kp k : A → Heap → Option β) : (oLend qar [.cptr (nodeC n)] h kp fun w h' => oFrz w h' k) = k (.s (.bool (decide (n.kids = [])))) h := by
 rw [qbi _ _ _ _ _ _ (by simp) (by simp) (leaf_v n)]; simp
theorem pos_iff : ∀ (ks : List Int) (x : Int), ks.Pairwise (· < ·) → ∀ (j : Nat) (k : Int), ks[j]? = some k → (k < x ↔ j < pos ks x)
 | [], _, _, j, k, h => by simp at h
 | a :: ks, x, hs, j, k, h => by
   obtain ⟨h1, h2⟩ := List.pairwise_cons.1 hs
   by_cases ha : a < x
   · have e : pos (a :: ks) x = pos ks x + 1 := by simp [pos, ha]
     rw [e]
     cases j with
     | zero => simp at h; subst h; omega
     | succ j =>
       have := pos_iff ks x h2 j k (by simpa using h)
       omega
   · have e : pos (a :: ks) x = 0 := by simp [pos, ha]
     rw [e]
     cases j with
     | zero => simp at h; subst h; omega
     | succ j =>
       have hm : k ∈ ks := List.mem_of_getElem? (by simpa using h)
       have := h1 k hm
       omega
theorem isNaN_v (x : Int) : qbq [.s (.int .u64 x)] [] = some (.ok (.s (.bool false)), []) := by simp [qbq, qa9]
theorem isNaN2_v (x : Int) : qb5 [.s (.int .u64 x)] [] = some (.ok (.s (.bool false)), []) := by simp [qb5, qa9]
theorem Less_v (x y : Int) : qbM [.s (.int .u64 x), .s (.int .u64 y)] [] = some (.ok (.s (.bool (decide (x < y)))), []) := by
 have h : ∀ (β : Type) (x : Int) (h : Heap) (kp k : A → Heap → Option β), oLend qbq [.s (.int .u64 x)] h kp k = k (.s (.bool false)) h := fun β x h kp k => qbi _ _ _ _ _ _ (by simp) (by simp) (isNaN_v x)
 simp [qbM, h, qa9]
theorem Search_v (ks : List Int) (x : Int) (hs : ks.Pairwise (· < ·)) (hl : ks.length < 1000) : qa6 [mkF 1 (ks.map (cellC .u64)), .s (.int .u64 x)] [] =
 some (.ok (.tup [.s (.int .i64 (pos ks x)), .s (.bool (decide (ks[pos ks x]? = some x)))]), []) := by
 have hL : ∀ (β : Type) (y : Int) (h : Heap) (kp k : A → Heap → Option β), oLend qbM [.s (.int .u64 y), .s (.int .u64 x)] h kp k = k (.s (.bool (decide (y < x)))) h := fun β y h kp k => qbi _ _ _ _ _ _ (by simp) (by simp) (Less_v y x)
 have hN : ∀ (β : Type) (y : Int) (h : Heap) (kp k : A → Heap → Option β), oLend qb5 [.s (.int .u64 y)] h kp k = k (.s (.bool false)) h := fun β y h kp k => qbi _ _ _ _ _ _ (by simp) (by simp) (isNaN2_v y)
 have hpl := pos_le ks x
 simp only [qa6, qnd, List.length_map]
 obtain ⟨q, rfl, hq⟩ := qb6 (step := qax (mkF 1 (ks.map (cellC .u64))) (.s (.int .u64 x)) []) (s0 := ([.s (.int .i64 0), .s (.int .i64 ks.length)], []))
  (fun i s => ∃ lo hi : Nat, s = ([.s (.int .i64 lo), .s (.int .i64 hi)], []) ∧ lo ≤ pos ks x ∧ pos ks x ≤ hi ∧ hi ≤ ks.length ∧ hi - lo ≤ ks.length - i)
  (fun q => q = (Ex.exit 0, [.s (.int .i64 (pos ks x))], [])) ks.length ⟨0, ks.length, rfl, by omega, hpl, by omega, by omega⟩ (by omega)
  (by
   rintro i s hi ⟨lo, hi', rfl, h1, h2, h3, h4⟩
   by_cases hlh : lo < hi'
   · left
     have hm := mid_eq hlh (by omega)
     have hx : (lo + hi') / 2 < ks.length := by omega
     have hxs : ks[(lo + hi') / 2]? = some ks[(lo + hi') / 2] := by simp [hx]
     have hp := pos_iff ks x hs _ _ hxs
     have hw : IntKind.i64.wrap ((((lo + hi') / 2 : Nat) : Int) + 1) = (((lo + hi') / 2 + 1 : Nat) : Int) := wrap_succ hx (by omega)
     have ia : ∀ (β : Type) (k : A → Option β), oIdxA 1 (mkF 1 (ks.map (cellC .u64))) (.s (.int .i64 ((lo + hi') / 2 : Nat))) k = k (.cptr (cellC .u64 ks[(lo + hi') / 2])) := fun β k => qbE 1 _ ks .i64 _ _ k hxs
     generalize ks[(lo + hi') / 2] = y at hp ia
     simp only [qax, List.getD_cons_zero, List.getD_cons_succ, oCmp_s, cmpInt_lss, if_true, oCond_s, Int.ofNat_lt, hlh, decide_true, oAr_s, qjS, oConv_s, oShift_shr, hm,
      show (0 : Int) ≤ 1 from by decide, ia, qeJ, cellC, qc9, List.getElem?_cons_zero, hL, oFrz_bool, hw]
     by_cases hneg : y < x
     · refine ⟨([.s (.int .i64 ((lo + hi') / 2 + 1 : Nat)), .s (.int .i64 hi')], []), ?_, (lo + hi') / 2 + 1, hi', rfl, ?_, h2, h3, ?_⟩
       · simp [hneg, trim, qa2]
       · have := hp.1 hneg; omega
       · omega
     · refine ⟨([.s (.int .i64 lo), .s (.int .i64 ((lo + hi') / 2 : Nat))], []), ?_, lo, (lo + hi') / 2, rfl, h1, ?_, ?_, ?_⟩
       · simp [hneg, trim, qa2]
       · have := mt hp.2 hneg; omega
       · omega
       · omega
   · right
     refine ⟨_, ?_, rfl⟩
     have : lo = pos ks x := by omega
     subst this
     simp [qax, hlh, trim, qa2])
  (by
   rintro s ⟨lo, hi', rfl, h1, h2, h3, h4⟩
   have hlh : ¬ lo < hi' := by omega
   refine ⟨_, ?_, rfl⟩
   have : lo = pos ks x := by omega
   subst this
   simp [qax, hlh, trim, qa2])
 rw [hq]
 by_cases hpk : pos ks x < ks.length
 · have hxs : ks[pos ks x]? = some ks[pos ks x] := by simp [hpk]
   have ia : ∀ (β : Type) (k : A → Option β), oIdxA 1 (mkF 1 (ks.map (cellC .u64))) (.s (.int .i64 (pos ks x))) k = k (.cptr (cellC .u64 ks[pos ks x])) := fun β k => qbE 1 _ ks .i64 _ _ k hxs
   rw [hxs]
   generalize ks[pos ks x] = y at ia
   by_cases hy : y = x
   · simp [qaN, hpk, ia, cellC, hy, qa9]
   · simp [qaN, hpk, ia, cellC, hy, hN, qa9]
 · have hxs : ks[pos ks x]? = none := by simp; omega
   rw [hxs]
   simp [qaN, hpk, qa9]
theorem qfG (ks : List Int) (x : Int) (hs : ks.Pairwise (· < ·)) (hl : ks.length < 1000) {β : Type} (h : Heap) (kp k : A → Heap → Option β) :
 (oLend qa6 [mkF 1 (ks.map (cellC .u64)), .s (.int .u64 x)] h kp fun w h' => oFrz w h' k) = k (.tup [.s (.int .i64 (pos ks x)), .s (.bool (decide (ks[pos ks x]? = some x)))]) h := by
 rw [qbi _ _ _ _ _ _ (by simp) (by simp) (Search_v ks x hs hl), qgf _ _ _ (by simp)]
theorem way_v (n : Nd) (x : Int) (hs : n.ks.Pairwise (· < ·)) (hl : n.ks.length < 1000) : qaU [.cptr (nodeC n), .s (.int .u64 x)] [] = some (.ok (.s (.int .i64 (way n.ks x))), []) := by
 have hS := fun (h : Heap) (kp k : A → Heap → Option (Out × Heap)) => qfG n.ks x hs hl h kp k
 have hw := way_eq n.ks x hs
 have hpl := pos_le n.ks x
 have hw1 : IntKind.i64.wrap ((pos n.ks x : Int) + 1) = ((pos n.ks x + 1 : Nat) : Int) := by rw [qad (by omega) (by omega)]; simp
 by_cases hf : n.ks[pos n.ks x]? = some x
 · rw [if_pos hf] at hw
   simp [qaU, qbS, hS, hf, hw1, hw, trim, qa2, qek, qa9]
   trace_state
 · rw [if_neg hf] at hw
   simp [qaU, qbS, hS, hf, hw, trim, qa2, qek, qa9]
   trace_state
theorem qn4 (n : Nd) (x : Int) (hs : n.ks.Pairwise (· < ·)) (hl : n.ks.length < 1000) {β : Type} (h : Heap) (kp k : A → Heap → Option β) :
 (oLend qaU [.cptr (nodeC n), .s (.int .u64 x)] h kp fun w h' => oFrz w h' k) = k (.s (.int .i64 (way n.ks x))) h := by
 rw [qbi _ _ _ _ _ _ (by simp) (by simp) (way_v n x hs hl)]; simp
theorem qlo (m : Nat) (wr : List Nat) (n : Nd) (x : Int) (hs : n.ks.Pairwise (· < ·)) (hl : n.ks.length < 1000) {β : Type} (h : Heap) (k : A → Heap → Option β) :
 (oCallF m wr qaU [.cptr (nodeC n), .s (.int .u64 x)] h fun w h' => oFrz w h' k) = k (.s (.int .i64 (way n.ks x))) h := by
 rw [oCallF_val _ _ _ _ _ _ _ (by simp) (by simp) (way_v n x hs hl)]; simp
def FzA (n : Nat) (a : A) (H : Heap) (a' : A) (H' : Heap) : Prop := ∀ m, frzA (m + n) a H = some (a', H')
def FzL (n : Nat) (l : List A) (H : Heap) (l' : List A) (H' : Heap) : Prop := ∀ m, frzL (m + n) l H = some (l', H')
def FzR (n : Nat) (l : List (List A)) (H : Heap) (l' : List (List A)) (H' : Heap) : Prop := ∀ m, frzRows (m + n) l H = some (l', H')
def elemA (a : A) : Bool := match a with
 | .s _ => true
 | .fsl _ _ => true
 | .cptr _ => true
 | .osl .. => true
 | .ptr .. => true
 | _ => false
theorem qmk {a : A} (h : elemA a = true) (hp : pureA a = true) : flatA a = true := by
 cases a <;> simp [elemA, flatA, pureA] at h hp ⊢
theorem FzA.le {n k : Nat} {a a' : A} {H H' : Heap} (h : FzA n a H a' H') (hk : n ≤ k) : FzA k a H a' H' := fun m => by
 rw [show m + k = (m + (k - n)) + n by omega]; exact h _
theorem FzL.le {n k : Nat} {a a' : List A} {H H' : Heap} (h : FzL n a H a' H') (hk : n ≤ k) : FzL k a H a' H' := fun m => by
 rw [show m + k = (m + (k - n)) + n by omega]; exact h _
theorem FzR.le {n k : Nat} {a a' : List (List A)} {H H' : Heap} (h : FzR n a H a' H') (hk : n ≤ k) : FzR k a H a' H' := fun m => by
 rw [show m + k = (m + (k - n)) + n by omega]; exact h _
theorem qm8 (n : Nat) (l : List A) (h : Heap) (hp : pureL l = true) : frzL (n + 1) l h = some (l, h) := by simp only [frzL, hp, if_true]
theorem qjO (n : Nat) (l : List (List A)) (h : Heap) (hp : qay l = true) : frzRows (n + 1) l h = some (l, h) := by simp only [frzRows, hp, if_true]
theorem qm9 (n : Nat) (a : A) (H : Heap) (hf : flatA a = true) : frzA (n + 1) a H = some (normA a, H) := by
 cases a <;> simp [flatA] at hf <;> simp [frzA, normA]
theorem fz_flat {a : A} (H : Heap) (hf : flatA a = true) : FzA 1 a H (normA a) H := fun m => qm9 m a H hf
theorem fz_pure {n : Nat} {a a' : A} {H H' : Heap} (h : FzA (n + 1) a H a' H') (he : elemA a = true) (hp : pureA a = true) : a' = a ∧ H' = H := by
 have h1 := h 0
 rw [Nat.zero_add, qm9 n a H (qmk he hp), normA_pure hp (qmk he hp)] at h1
 cases h1; exact ⟨rfl, rfl⟩
theorem fzl_pure {n : Nat} {l l' : List A} {H H' : Heap} (h : FzL (n + 1) l H l' H') (hp : pureL l = true) : l' = l ∧ H' = H := by
 have h1 := h 0
 rw [Nat.zero_add, qm8 _ _ _ hp] at h1
 cases h1; exact ⟨rfl, rfl⟩
theorem fzr_pure {n : Nat} {l l' : List (List A)} {H H' : Heap} (h : FzR (n + 1) l H l' H') (hp : qay l = true) : l' = l ∧ H' = H := by
 have h1 := h 0
 rw [Nat.zero_add, qjO _ _ _ hp] at h1
 cases h1; exact ⟨rfl, rfl⟩
theorem fzl_nil (H : Heap) : FzL 1 [] H [] H := fun m => qm8 m _ _ rfl
theorem qaJ {n : Nat} {a a' : A} {r r' : List A} {H H1 H2 : Heap} (he : elemA a = true) (h1 : FzA (n + 1) a H a' H1) (h2 : FzL (n + 1) r H1 r' H2) : FzL (n + 2) (a :: r) H (a' :: r') H2 := fun m => by
 rw [show m + (n + 2) = (m + (n + 1)) + 1 by omega, frzL]
 split
 · rename_i hp
   simp only [qif, Bool.and_eq_true] at hp
   obtain ⟨rfl, rfl⟩ := fz_pure h1 he hp.1
   obtain ⟨rfl, rfl⟩ := fzl_pure h2 hp.2
   rfl
 · simp only [h1 m, Option.bind_some, h2 m, Option.map_some]
theorem fzr_nil (H : Heap) : FzR 1 [] H [] H := fun m => qjO m _ _ rfl
theorem fzr_all {rows : List (List A)} (H : Heap) (hp : qay rows = true) : FzR 1 rows H rows H := fun m => qjO m _ _ hp
theorem qgB {n : Nat} {a a' : A} {r r' : List (List A)} {H H1 H2 : Heap} (he : elemA a = true) (h1 : FzA (n + 1) a H a' H1) (h2 : FzR (n + 3) r H1 r' H2) : FzR (n + 4) ([a] :: r) H ([a'] :: r') H2 := fun m => by
 have hl : FzL (n + 2) [a] H [a'] H1 := qaJ he h1 ((fzl_nil H1).le (by omega))
 rw [show m + (n + 4) = (m + (n + 3)) + 1 by omega, frzRows]
 split
 · rename_i hp
   simp only [qay, List.all_cons, Bool.and_eq_true, qif, pureL_nil, Bool.and_true] at hp
   obtain ⟨rfl, rfl⟩ := fz_pure h1 he hp.1
   obtain ⟨rfl, rfl⟩ := fzr_pure h2 hp.2
   rfl
 · simp only [hl.le (show n + 2 ≤ n + 3 by omega) m, Option.bind_some, h2 m, Option.map_some]
theorem qj8 {n : Nat} {r r' : List (List A)} {H H1 : Heap} (h2 : FzR (n + 3) r H r' H1) : ∀ (pre : List Nd), FzR (n + 3 + pre.length) (pre.map kidC ++ r) H (pre.map kidC ++ r') H1
 | [] => by simpa using h2
 | x :: pre => by
   have ih := qj8 h2 pre
   have h1 : FzA (n + pre.length + 1) (.cptr (nodeC x)) H (.cptr (nodeC x)) H := (fz_flat (a := .cptr (nodeC x)) H rfl).le (by omega)
   have := qgB (n := n + pre.length) (by rfl) h1 (ih.le (by omega))
   exact FzR.le this (by simp; omega)
theorem fz_own {id ver sz sz' m : Nat} {rows : List (List A)} {H : Heap} (hk : H[id]? = some (.live ⟨ver, sz, rows⟩)) (hm : m = rows.length) (hp : qay rows = true) : FzA 2 (.osl id ver sz' 0 m) H (mkF sz rows) (H.set id .dead) := fun n => by
 subst hm
 have : frzRows (n + 1) rows (H.set id .dead) = some (rows, H.set id .dead) := fzr_all _ hp n
 rw [frzA, hk]
 simp [this]
theorem fz_osl {n id ver sz sz' m : Nat} {rows rows' : List (List A)} {H H' : Heap} (hk : H[id]? = some (.live ⟨ver, sz, rows⟩)) (hm : m = rows.length) (h : FzR n rows (H.set id .dead) rows' H') : FzA (n + 1) (.osl id ver sz' 0 m) H (mkF sz rows') H' := fun k => by
 subst hm
 have := h k
 rw [show k + (n + 1) = k + n + 1 by omega, frzA, hk]
 simp [this]
theorem fz_ptr {n id ver sz : Nat} {row row' : List A} {H H' : Heap} (hk : H[id]? = some (.live ⟨ver, sz, [row]⟩)) (h : FzL n row (H.set id .dead) row' H') : FzA (n + 1) (.ptr id ver 0 0) H (.cptr row') H' := fun k => by
 have := h k
 rw [show k + (n + 1) = k + n + 1 by omega, frzA, hk]
 simp [this]
theorem fz_tup {n : Nat} {l l' : List A} {H H' : Heap} (h : FzL n l H l' H') : FzA (n + 1) (.tup l) H (.tup l') H' := fun k => by
 rw [show k + (n + 1) = k + n + 1 by omega, frzA, h k]; rfl
theorem fz_oFrz {n : Nat} {a a' : A} {H H' : Heap} (h : FzA n a H a' H') (hn : n ≤ 1000) (hp : pureA a = false) {β : Type} (k : A → Heap → Option β) : oFrz a H k = k a' H' := by
 have := h (1000 - n)
 rw [show 1000 - n + n = 1000 by omega] at this
 simp [oFrz, hp, this]
theorem fz_node {id v kid kv vid vv cid cv kn vn cn : Nat} {n : Nd} {H : Heap} (h0 : H[id]? = some (.live ⟨v, 3, [[.osl kid kv 1 0 kn, .osl vid vv 2 0 vn, .osl cid cv 1 0 cn]]⟩)) (h1 : H[kid]? = some (.live ⟨kv, 1, n.ks.map (cellC .u64)⟩)) (h2 : H[vid]? = some (.live ⟨vv, 2, n.vs.map extentC⟩))
 (h3 : H[cid]? = some (.live ⟨cv, 1, n.kids.map kidC⟩)) (e1 : kn = n.ks.length) (e2 : vn = n.vs.length) (e3 : cn = n.kids.length) (d1 : id ≠ kid) (d2 : id ≠ vid) (d3 : id ≠ cid) (d4 : kid ≠ vid) (d5 : kid ≠ cid) (d6 : vid ≠ cid) :
 FzA 7 (.ptr id v 0 0) H (.cptr (nodeC n)) ((((H.set id .dead).set kid .dead).set vid .dead).set cid .dead) := by
 rw [qeB]
 refine fz_ptr h0 (n := 6) ?_
 refine qaJ (n := 4) rfl (FzA.le (fz_own (rows := n.ks.map (cellC .u64)) (by rw [List.getElem?_set_ne d1]; exact h1) (by simp [e1]) (qaq _ (fun x => by simp [cellC]) _)) (by omega)) ?_
 refine qaJ (n := 3) rfl (FzA.le (fz_own (rows := n.vs.map extentC) (by rw [List.getElem?_set_ne d4, List.getElem?_set_ne d2]; exact h2) (by simp [e2]) (qaq _ (fun x => by simp) _)) (by omega)) ?_
 refine qaJ (n := 2) rfl (FzA.le (fz_own (rows := n.kids.map kidC) (by rw [List.getElem?_set_ne d6, List.getElem?_set_ne d5, List.getElem?_set_ne d3]; exact h3) (by simp [e3]) (qaq _ (fun x => by simp) _)) (by omega)) ?_
 exact (fzl_nil _).le (by omega)
theorem fz_leaf {id v kid kv vid vv kn vn : Nat} {ks : List Int} {vs : List Extent} {H : Heap} (h0 : H[id]? = some (.live ⟨v, 3, [[.osl kid kv 1 0 kn, .osl vid vv 2 0 vn, .s (.slice none 0 0)]]⟩)) (h1 : H[kid]? = some (.live ⟨kv, 1, ks.map (cellC .u64)⟩)) (h2 : H[vid]? = some (.live ⟨vv, 2, vs.map extentC⟩))
 (e1 : kn = ks.length) (e2 : vn = vs.length) (d1 : id ≠ kid) (d2 : id ≠ vid) (d4 : kid ≠ vid) :
 FzA 7 (.ptr id v 0 0) H (.cptr (nodeC (.mk ks vs []))) (((H.set id .dead).set kid .dead).set vid .dead) := by
 rw [qfC]
 refine fz_ptr h0 (n := 6) ?_
 refine qaJ (n := 4) rfl (FzA.le (fz_own (rows := ks.map (cellC .u64)) (by rw [List.getElem?_set_ne d1]; exact h1) (by simp [e1]) (qaq _ (fun x => by simp [cellC]) _)) (by omega)) ?_
 refine qaJ (n := 3) rfl (FzA.le (fz_own (rows := vs.map extentC) (by rw [List.getElem?_set_ne d4, List.getElem?_set_ne d2]; exact h2) (by simp [e2]) (qaq _ (fun x => by simp) _)) (by omega)) ?_
 exact qaJ (n := 2) rfl (FzA.le (fz_flat _ rfl) (by omega)) ((fzl_nil _).le (by omega))
theorem qhX {id v kid kv cid cv kn cn : Nat} {ks : List Int} {kids : List Nd} {H : Heap} (h0 : H[id]? = some (.live ⟨v, 3, [[.osl kid kv 1 0 kn, .s (.slice none 0 0), .osl cid cv 1 0 cn]]⟩)) (h1 : H[kid]? = some (.live ⟨kv, 1, ks.map (cellC .u64)⟩)) (h2 : H[cid]? = some (.live ⟨cv, 1, kids.map kidC⟩))
 (e1 : kn = ks.length) (e2 : cn = kids.length) (d1 : id ≠ kid) (d2 : id ≠ cid) (d4 : kid ≠ cid) :
 FzA 7 (.ptr id v 0 0) H (.cptr (nodeC (.mk ks [] kids))) (((H.set id .dead).set kid .dead).set cid .dead) := by
 rw [qfC]
 refine fz_ptr h0 (n := 6) ?_
 refine qaJ (n := 4) rfl (FzA.le (fz_own (rows := ks.map (cellC .u64)) (by rw [List.getElem?_set_ne d1]; exact h1) (by simp [e1]) (qaq _ (fun x => by simp [cellC]) _)) (by omega)) ?_
 refine qaJ (n := 3) rfl (FzA.le (fz_flat _ rfl) (by omega)) ?_
 refine qaJ (n := 2) rfl (FzA.le (fz_own (rows := kids.map kidC) (by rw [List.getElem?_set_ne d4, List.getElem?_set_ne d2]; exact h2) (by simp [e2]) (qaq _ (fun x => by simp) _)) (by omega)) ?_
 exact (fzl_nil _).le (by omega)
end Go.Ab.T
namespace Go.Ab.T
open Go Go.Ab Go.Ab.F
def treeC (n : Nd) (len : Int) : List A := [.cptr (nodeC n), .s (.int .i64 len)]
@[simp] theorem drop_ext (e : Extent) : (extentC e).drop 2 = [] := rfl
theorem ext_put (a b : Extent) : qa5 (extentC a) 0 (extentC b) = extentC b := rfl
theorem Get_v {h : Nat} {root : Nd} (hr : okN h none none root) (hh : h < 2 ^ 62) (hl : root.ks.length ≤ 7) (len x : Int) : qbn [.cptr (treeC root len), .s (.int .u64 x)] [] =
 some (.ok (.tup [.agg (extentC ((getP x (flat root)).getD ⟨0, 0⟩)), .s (.bool (getP x (flat root)).isSome)]), []) := by
 have hz : extentC ⟨0, 0⟩ = [.s (.int .i64 0), .s (.int .i64 0)] := rfl
 have hL := fun (β : Type) (n : Nd) (h : Heap) (kp k : A → Heap → Option β) => qdQ n h kp k
 obtain ⟨q, ⟨n, lo, hi, rfl, q1, q2, q3⟩, hq⟩ := qb6 (step := qcj (.s (.int .u64 x)) [.live ⟨0, 2, [extentC ⟨0, 0⟩]⟩]) (s0 := ([.cptr (nodeC root)], [.live ⟨0, 2, [extentC ⟨0, 0⟩]⟩]))
  (fun i s => ∃ n lo hi, s = ([A.cptr (nodeC n)], [.live ⟨0, 2, [extentC ⟨0, 0⟩]⟩]) ∧ okN (h - i) lo hi n ∧ lb lo x ∧ ub hi x ∧ n.ks.length ≤ 7 ∧ getP x (flat n) = getP x (flat root))
  (fun q => ∃ n lo hi, q = (Ex.exit 0, [.cptr (nodeC n)], [.live ⟨0, 2, [extentC ⟨0, 0⟩]⟩]) ∧ okN 0 lo hi n ∧ n.ks.length ≤ 7 ∧ getP x (flat n) = getP x (flat root)) h
  ⟨root, none, none, rfl, hr, by simp, by simp, hl, rfl⟩ (by omega)
  (by
   rintro i s hi ⟨n, lo, hi', rfl, h1, h2, h3, h4, h5⟩
   left
   obtain ⟨ks, vs, kids⟩ := n
   obtain ⟨d, hd⟩ : ∃ d, h - i = d + 1 := ⟨h - i - 1, by omega⟩
   rw [hd] at h1
   have hk := ql5 h1
   have hs := (qj3 h1).1
   obtain ⟨rfl, c1, c2⟩ := h1
   obtain ⟨m, lo2, hi2, X, Y, A⟩ := atK (okN_inB d) c1 h2 h3
   have hm := c2 m (List.mem_of_getElem? A.get)
   have hkn : ¬ kids = [] := by simpa using hk
   have hw := fun (β : Type) (m : Nat) (h : Heap) (k : Go.Ab.A → Heap → Option β) => qlo m [] (.mk ks [] kids) x hs (by simp only [Nd.ks_mk] at h4; simpa using (by omega : ks.length < 1000)) h k
   simp only [Nd.ks_mk] at hw
   have ia : ∀ (β : Type) (k : Go.Ab.A → Option β), oIdxA 1 (mkF 1 (kids.map kidC)) (.s (.int .i64 (way ks x))) k = k (.cptr (kidC m)) := fun β k => qbE 1 kidC kids .i64 _ _ k A.get
   have hf : getP x (flat m) = getP x (flat (.mk ks [] kids)) := by
    simp only [flat, List.zip_nil_right, List.nil_append]
    rw [A.parts, getP_mid A.left A.right]
   refine ⟨([.cptr (nodeC m)], [.live ⟨0, 2, [extentC ⟨0, 0⟩]⟩]), ?_, m, lo2, hi2, rfl, by rw [show h - (i + 1) = d by omega]; exact A.ok, A.lbx, A.ubx, hm.2, by rw [hf, h5]⟩
   simp [qcj, hL, hkn, oLoadD, qdo, hw, ia, trim, qa2, extentC])
  (by
   rintro s ⟨n, lo, hi', rfl, h1, h2, h3, h4, h5⟩
   rw [Nat.sub_self] at h1
   have hk := ql5 h1
   refine ⟨_, ?_, n, lo, hi', rfl, h1, h4, h5⟩
   simp [qcj, hL, hk.2 rfl, trim, qa2, extentC])
 have hstart : qbn [.cptr (treeC root len), .s (.int .u64 x)] [] = oLoop (qcj (.s (.int .u64 x)) [.live ⟨0, 2, [extentC ⟨0, 0⟩]⟩]) ([.cptr (nodeC root)], [.live ⟨0, 2, [extentC ⟨0, 0⟩]⟩]) (qdl (.s (.int .u64 x)) [] (.ptr 0 0 0 0)) := by
  simp [qbn, treeC, hz]
 rw [hstart, hq, ← q3]
 obtain ⟨ks, vs, kids⟩ := n
 obtain ⟨rfl, e2, e3, e4⟩ := q1
 simp only [Nd.ks_mk] at q2
 have hg := zip_get x ks vs e2 e3
 have hfl : flat (.mk ks vs []) = ks.zip vs := by simp only [flat, flats, List.append_nil]
 rw [hfl]
 have hS := fun (h : Heap) (kp k : A → Heap → Option (Out × Heap)) => qfG ks x e3 (by omega) h kp k
 by_cases hf : ks[pos ks x]? = some x
 · rw [if_pos hf] at hg
   have hp : pos ks x < vs.length := by rw [e2]; exact (List.getElem?_eq_some_iff.1 hf).1
   have hv : vs[pos ks x]? = some vs[pos ks x] := List.getElem?_eq_getElem hp
   have ia : ∀ (β : Type) (k : A → Option β), oIdxA 2 (mkF 2 (vs.map extentC)) (.s (.int .i64 (pos ks x))) k = k (.cptr (extentC vs[pos ks x])) := fun β k => qbE 2 extentC vs .i64 _ _ k hv
   rw [← hg, hv]
   generalize vs[pos ks x] = v at ia
   simp [qdl, qbS, qeC, hS, hf, ia, ext_put, qa9]
 · rw [if_neg hf] at hg
   rw [← hg]
   simp [qdl, qbS, qeC, hS, hf, ← hz, ext_put, qa9]
theorem qln {h : Nat} {root : Nd} (hr : okN h none none root) (hh : h < 2 ^ 62) (hl : root.ks.length ≤ 7) (len x : Int) {β : Type} (H : Heap) (kp k : A → Heap → Option β) : (oLend qbn [.cptr (treeC root len), .s (.int .u64 x)] H kp fun w h' => oFrz w h' k) =
 k (.tup [.agg (extentC ((getP x (flat root)).getD ⟨0, 0⟩)), .s (.bool (getP x (flat root)).isSome)]) H := by
 rw [qbi _ _ _ _ _ _ (by simp) (by simp) (Get_v hr hh hl len x), qgf _ _ _ (by simp)]
theorem qbK {β : Type} (n0 : Nat) (wr : List Nat) (F : CallFn) (args : List A) (h : Heap) (k : A → Heap → Option β) (ver sz n : Nat) (rows : List (List A)) (ha : pureL args = true) (hp : ∀ f, renRows f rows = some rows)
 (hF : F args [] = some (.ok (.osl 0 ver sz 0 n), [.live ⟨ver, sz, rows⟩])) :
 oCallF n0 wr F args h k = k (.osl h.length ver sz 0 n) (h ++ [.live ⟨ver, sz, rows⟩]) := by
 have hi : (idsL args).isEmpty = true := by rw [qdd args ha]; rfl
 have hl : lendL qbB args [] = some args := qco 999 _ _ ha
 unfold oCallF
 rw [if_pos hi, hl]
 simp only [hF]
 simp [hi, qaa, backIdx, hp, setAll]
def ownN (n : Nd) (rv kv vv cv : Nat) : Heap := [.live ⟨rv, 3, [[.osl 1 kv 1 0 n.ks.length, .osl 2 vv 2 0 n.vs.length, .osl 3 cv 1 0 n.kids.length]]⟩, .live ⟨kv, 1, n.ks.map (cellC .u64)⟩, .live ⟨vv, 2, n.vs.map extentC⟩, .live ⟨cv, 1, n.kids.map kidC⟩]
theorem ids_ks (ks : List Int) : idsRows (ks.map (cellC .u64)) = [] := qdZ _ (fun x => by simp [cellC]) ks
theorem ids_vs (vs : List Extent) : idsRows (vs.map extentC) = [] := qdZ _ (fun x => by simp [extentC]) vs
theorem qaZ (kids : List Nd) : idsRows (kids.map kidC) = [] := qdZ _ (fun x => by simp) kids
theorem ren_ks (f : Nat → Option Nat) (ks : List Int) : renRows f (ks.map (cellC .u64)) = some (ks.map (cellC .u64)) := qb9 f _ (ids_ks ks)
theorem ren_vs (f : Nat → Option Nat) (vs : List Extent) : renRows f (vs.map extentC) = some (vs.map extentC) := qb9 f _ (ids_vs vs)
theorem qbj (f : Nat → Option Nat) (kids : List Nd) : renRows f (kids.map kidC) = some (kids.map kidC) := qb9 f _ (qaZ kids)
theorem reach_own (n : Nd) (rv kv vv cv : Nat) : reach (ownN n rv kv vv cv) qa3 [] [0] = [0, 1, 2, 3] := by
 rw [show qa3 = 99990 + 10 from rfl]
 simp [reach, ownN, ids_ks, ids_vs, qaZ]
theorem clone_v (n : Nd) (hk : n.ks.length < 1000) (hv : n.vs.length < 1000) (hc : n.kids.length < 1000) : qbm [.cptr (nodeC n)] [] = some (.ok (.ptr 0 0 0 0), ownN n 0 1 1 1) := by
 have c1 : ∀ (β : Type) (m : Nat) (h : Heap) (k : A → Heap → Option β), oCallF m [] (qa8 1 8) [mkF 1 (n.ks.map (cellC .u64))] h k = k (.osl h.length 1 1 0 n.ks.length) (h ++ [.live ⟨1, 1, n.ks.map (cellC .u64)⟩]) := fun β m h k => by
  have : qa4 n.ks.length 8 := by unfold qa4; omega
  exact qbK _ _ _ _ _ _ 1 1 n.ks.length _ (by simp) (fun f => ren_ks f _) (by simp [qa8, this])
 have c2 : ∀ (β : Type) (m : Nat) (h : Heap) (k : A → Heap → Option β), oCallF m [] (qa8 2 16) [mkF 2 (n.vs.map extentC)] h k = k (.osl h.length 1 2 0 n.vs.length) (h ++ [.live ⟨1, 2, n.vs.map extentC⟩]) := fun β m h k => by
  have : qa4 n.vs.length 16 := by unfold qa4; omega
  exact qbK _ _ _ _ _ _ 1 2 n.vs.length _ (by simp) (fun f => ren_vs f _) (by simp [qa8, this])
 have c3 : ∀ (β : Type) (m : Nat) (h : Heap) (k : A → Heap → Option β), oCallF m [] (qa8 1 8) [mkF 1 (n.kids.map kidC)] h k = k (.osl h.length 1 1 0 n.kids.length) (h ++ [.live ⟨1, 1, n.kids.map kidC⟩]) := fun β m h k => by
  have : qa4 n.kids.length 8 := by unfold qa4; omega
  exact qbK _ _ _ _ _ _ 1 1 n.kids.length _ (by simp) (fun f => qbj f _) (by simp [qa8, this])
 have hfin : finish 0 (.ok (.ptr 0 0 0 0)) (ownN n 0 1 1 1) = some (.ok (.ptr 0 0 0 0), ownN n 0 1 1 1) := by
  have hr := reach_own n 0 1 1 1
  simp [finish, hr]
  simp [idx, ownN, ren_ks, ren_vs, qbj, List.idxOf?_cons]
 simp [qbm, qbS, qeC, qdo, oLoadD, c1, c2, c3, qa5, Go.Ab.place]
 exact hfin
theorem qkm (n id ver sz sz' lo m : Nat) (rows : List (List A)) (H : Heap) (hk : H[id]? = some (.live ⟨ver, sz, rows⟩)) (hl : lo + m ≤ rows.length) (hp : qay ((rows.drop lo).take m) = true) : lendA (n + 2) (.osl id ver sz' lo m) H = some (mkF sz ((rows.drop lo).take m)) := by
 rw [lendA, hk]
 have : qdP (n + 1) ((rows.drop lo).take m) H = some ((rows.drop lo).take m) := by unfold qdP; rw [if_pos hp]
 simp [hl, this]
theorem lend_part {id ver sz lo m : Nat} {rows : List (List A)} {H : Heap} (hk : H[id]? = some (.live ⟨ver, sz, rows⟩)) (hl : lo + m ≤ rows.length) (hp : qay rows = true) : lendL qbB [.osl id ver sz lo m] H = some [mkF sz ((rows.drop lo).take m)] := by
 have hp2 : qay ((rows.drop lo).take m) = true := by
  simp only [qay, List.all_eq_true] at hp ⊢
  exact fun x hx => hp x (List.mem_of_mem_drop (List.mem_of_mem_take hx))
 rw [show qbB = 999 + 1 from rfl, qdY _ _ _ _ (by simp), show (999 : Nat) = 997 + 2 from rfl, qkm _ _ _ _ _ _ _ _ _ hk hl hp2, Option.bind_some, show (997 + 2 : Nat) = 998 + 1 from rfl, qik]
 rfl
theorem qml {n0 id ver sz by_ lo m : Nat} {rows : List (List A)} {h : Heap} (hk : h[id]? = some (.live ⟨ver, sz, rows⟩)) (hid : id < n0) (hl : lo + m ≤ rows.length) (hp : qay rows = true) (ho : ownRows rows = true) (hi : idsRows rows = []) (ok : qa4 m by_) (hz : sz ≠ 0) {β : Type} (k : A → Heap → Option β) :
 oCallF n0 [] (qa8 sz by_) [.osl id ver sz lo m] h k = k (.osl h.length 1 sz 0 m) (h ++ [.live ⟨1, sz, (rows.drop lo).take m⟩]) := by
 have hm : (maskH n0 [] h)[id]? = some (.live ⟨ver, sz, rows⟩) := by
  simp only [maskH, killAll, List.getElem?_take, if_pos hid]; exact hk
 have hlen : ((rows.drop lo).take m).length = m := by simp; omega
 have hsub : idsRows ((rows.drop lo).take m) = [] := by
  rw [← List.append_nil ([] : List Nat)]
  have e := hi
  rw [← List.take_append_drop lo rows, qas, List.append_eq_nil_iff] at e
  have e2 := e.2
  rw [← List.take_append_drop m (rows.drop lo), qas, List.append_eq_nil_iff] at e2
  simp [e2.1]
 have ho2 : ownRows ((rows.drop lo).take m) = true := by
  simp only [ownRows, List.all_eq_true] at ho ⊢
  exact fun x hx => ho x (List.mem_of_mem_drop (List.mem_of_mem_take hx))
 have hc : qa8 sz by_ [mkF sz ((rows.drop lo).take m)] [] = some (.ok (.osl 0 1 sz 0 m), [.live ⟨1, sz, (rows.drop lo).take m⟩]) := by
  simp [qa8, hlen, ok, hz]
 simp only [oCallF, qhW, qj7, qnl, List.append_nil, List.isEmpty_cons, Bool.false_eq_true, if_false, lend_part hm hl hp, hc]
 simp [show ownA (.osl 0 1 sz 0 m) = true from rfl, ownH, ho2, qaa, backIdx, qb9 _ _ hsub, setAll]
mutual
theorem sw_node : ∀ n : Nd, sameWL (nodeC n) (nodeC n) = true
 | .mk ks vs kids => by
   have h1 : ∀ l : List Int, sameWR (l.map (cellC .u64)) (l.map (cellC .u64)) = true := fun l => by
    induction l with
    | nil => rfl
    | cons a r ih => simp [cellC, sameWR, sameWL, sameW] at ih ⊢; exact ih
   have h2 : ∀ l : List Extent, sameWR (l.map extentC) (l.map extentC) = true := fun l => by
    induction l with
    | nil => rfl
    | cons a r ih => simp [extentC, sameWR, sameWL, sameW] at ih ⊢; exact ih
   rw [nodeC]
   simp [sameWL, sameW, mkF, h1, h2, qkC kids]
theorem qkC : ∀ l : List Nd, sameWR (nodesC l) (nodesC l) = true
 | [] => rfl
 | n :: ns => by
   simp [nodesC, sameWR, sameWL, sameW, sw_node n, qkC ns]
end
theorem sw_kids (l : List Nd) : sameWR (l.map kidC) (l.map kidC) = true := by rw [← qij]; exact qkC l
theorem sw_ks (l : List Int) : sameWR (l.map (cellC .u64)) (l.map (cellC .u64)) = true := by
 induction l with
 | nil => rfl
 | cons a r ih => simp [cellC, sameWR, sameWL, sameW] at ih ⊢; exact ih
theorem sw_vs (l : List Extent) : sameWR (l.map extentC) (l.map extentC) = true := by
 induction l with
 | nil => rfl
 | cons a r ih => simp [extentC, sameWR, sameWL, sameW] at ih ⊢; exact ih
theorem qmm {n0 id ver lo m : Nat} {kids : List Nd} {h : Heap} (hk : h[id]? = some (.live ⟨ver, 1, kids.map kidC⟩)) (hid : id < n0) (hl : lo + m ≤ kids.length) (ok : m < 1000) {β : Type} (k : A → Heap → Option β) :
 oCallK n0 [] (qa8 1 8) [.osl id ver 1 lo m] h k = k (.osl h.length 1 1 0 m) (h ++ [.live ⟨1, 1, ((kids.drop lo).take m).map kidC⟩]) := by
 have hm : (maskH n0 [] h)[id]? = some (.live ⟨ver, 1, kids.map kidC⟩) := by
  simp only [maskH, killAll, List.getElem?_take, if_pos hid]; exact hk
 have hr : reach (maskH n0 [] h) qa3 [] [id] = [id] := qk8 _ _ _ _ (by simp [List.getD_eq_getElem?_getD, hm, qaZ]) (by simp) (by simp [qa3])
 have hi : idx [id] id = some 0 := by simp [idx]
 have hb : borrow [.osl id ver 1 lo m] (maskH n0 [] h) = some ([id], [.osl 0 ver 1 lo m], [.live ⟨ver, 1, kids.map kidC⟩]) := by
  unfold borrow
  simp [hr, hi, List.getD_eq_getElem?_getD, hm, qbj]
 have hap : qa4 m 8 := by unfold qa4; omega
 have hlen : ((kids.drop lo).take m).length = m := by simp; omega
 have hc : qa8 1 8 [.osl 0 ver 1 lo m] [.live ⟨ver, 1, kids.map kidC⟩] = some (.ok (.osl 1 1 1 0 m), [.live ⟨ver, 1, kids.map kidC⟩, .live ⟨1, 1, ((kids.drop lo).take m).map kidC⟩]) := by
  have h1 : lo + m ≤ (kids.map kidC).length := by simpa using hl
  have h2 : ((kids.map kidC).drop lo).take m = ((kids.drop lo).take m).map kidC := by simp [List.map_take, List.map_drop]
  have h3 : (((kids.drop lo).take m).map kidC).length = m := by simpa using hlen
  simp only [qa8, rowsOf_osl, List.getElem?_cons_zero, true_and, h1, if_true, h2, h3, hap, ne_eq, Nat.one_ne_zero, not_false_eq_true, and_self, List.length_cons, List.length_nil, List.cons_append, List.nil_append]
 have hs : sameWH [.live ⟨ver, 1, kids.map kidC⟩] [.live ⟨ver, 1, kids.map kidC⟩] = true := by simp [sameWH, sameWS, sw_kids]
 simp only [oCallK, hb, hc, List.all_cons, List.all_nil, hid, decide_true, List.contains_nil, Bool.not_false, Bool.and_self, if_true, List.length_cons, List.length_nil, List.take_succ_cons, List.take_zero, Nat.zero_add, hs, List.drop_succ_cons, List.drop_zero]
 have hren : ∀ f, renRows f (((kids.map kidC).drop lo).take m) = some (((kids.map kidC).drop lo).take m) := fun f => by
  rw [← List.map_drop, ← List.map_take]; exact qbj f _
 simp [backIdx, hren]
def twoLeaf (b : Nat) (p q : Nd) : Heap := [.live ⟨0, 3, [[.osl (b + 1) 1 1 0 p.ks.length, .osl (b + 2) 1 2 0 p.vs.length, .s (.slice none 0 0)]]⟩, .live ⟨1, 1, p.ks.map (cellC .u64)⟩, .live ⟨1, 2, p.vs.map extentC⟩,
 .live ⟨0, 3, [[.osl (b + 4) 1 1 0 q.ks.length, .osl (b + 5) 1 2 0 q.vs.length, .s (.slice none 0 0)]]⟩, .live ⟨1, 1, q.ks.map (cellC .u64)⟩, .live ⟨1, 2, q.vs.map extentC⟩]
def qai (b : Nat) (p q : Nd) : Heap := [.live ⟨0, 3, [[.osl (b + 1) 1 1 0 p.ks.length, .s (.slice none 0 0), .osl (b + 2) 1 1 0 p.kids.length]]⟩, .live ⟨1, 1, p.ks.map (cellC .u64)⟩, .live ⟨1, 1, p.kids.map kidC⟩,
 .live ⟨0, 3, [[.osl (b + 4) 1 1 0 q.ks.length, .s (.slice none 0 0), .osl (b + 5) 1 1 0 q.kids.length]]⟩, .live ⟨1, 1, q.ks.map (cellC .u64)⟩, .live ⟨1, 1, q.kids.map kidC⟩]
theorem split_le {n : Nd} {kv vv cv : Nat} (h : n.ks.length ≤ 7) : qan [.ptr 0 0 0 0] (ownN n 0 kv vv cv) = some (.ok (.tup [.ptr 0 0 0 0, .s (.int .u64 0), .s (.pointer none)]), ownN n 0 kv vv cv) := by
 have c1 : ((n.ks.length : Int) ≤ 7) := by omega
 have hfin : finish 4 (.ok (.tup [.ptr 0 0 0 0, .s (.int .u64 0), .s (.pointer none)])) (ownN n 0 kv vv cv) = some (.ok (.tup [.ptr 0 0 0 0, .s (.int .u64 0), .s (.pointer none)]), ownN n 0 kv vv cv) := by
  have hr : reach (ownN n 0 kv vv cv) qa3 (List.range 4) [0, 1, 2, 3] = [0, 1, 2, 3] := by
   rw [show qa3 = 99990 + 10 from rfl]
   simp [reach, List.range_succ]
  simp [finish, ownN, ids_ks, ids_vs, qaZ] at hr ⊢
  simp [hr, idx, ren_ks, ren_vs, qbj, List.idxOf?_cons]
 simp [qan, ownN, c1] at hfin ⊢
 exact hfin
theorem qjM (n id ver sz' sz m : Nat) (rows : List (List A)) (H : Heap) (hk : H[id]? = some (.live ⟨ver, sz, rows⟩)) (hm : m = rows.length) (hp : qay rows = true) : lendA (n + 2) (.osl id ver sz' 0 m) H = some (mkF sz rows) := by
 subst hm
 have := qkm n id ver sz sz' 0 rows.length rows H hk (by omega) (by simpa using hp)
 simpa using this
theorem lendA_ptrR (n id sz : Nat) (row row' : List A) (H : Heap) (hk : H[id]? = some (.live ⟨0, sz, [row]⟩)) (h : lendL n row H = some row') : lendA (n + 1) (.ptr id 0 0 0) H = some (.cptr row') := by
 rw [lendA, hk]; simp [h]
theorem qnj {n : Nd} {kv vv cv : Nat} {β : Type} (r : Heap) (kp k : A → Heap → Option β) : (oLend qar [.ptr 0 0 0 0] (ownN n 0 kv vv cv ++ r) kp fun w h' => oFrz w h' k) = k (.s (.bool (decide (n.kids = [])))) (ownN n 0 kv vv cv ++ r) := by
 have hl : lendL qbB [.ptr 0 0 0 0] (ownN n 0 kv vv cv ++ r) = some [.cptr (nodeC n)] := by
  have e1 : lendA (995 + 2) (.osl 1 kv 1 0 n.ks.length) (ownN n 0 kv vv cv ++ r) = some (mkF 1 (n.ks.map (cellC .u64))) := qjM _ _ _ _ _ _ _ _ (by simp [ownN]) (by simp) (qaq _ (fun x => by simp [cellC]) _)
  have e2 : lendA (994 + 2) (.osl 2 vv 2 0 n.vs.length) (ownN n 0 kv vv cv ++ r) = some (mkF 2 (n.vs.map extentC)) := qjM _ _ _ _ _ _ _ _ (by simp [ownN]) (by simp) (qaq _ (fun x => by simp) _)
  have e3 : lendA (993 + 2) (.osl 3 cv 1 0 n.kids.length) (ownN n 0 kv vv cv ++ r) = some (mkF 1 (n.kids.map kidC)) := qjM _ _ _ _ _ _ _ _ (by simp [ownN]) (by simp) (qaq _ (fun x => by simp) _)
  have e4 : lendL 998 [.osl 1 kv 1 0 n.ks.length, .osl 2 vv 2 0 n.vs.length, .osl 3 cv 1 0 n.kids.length] (ownN n 0 kv vv cv ++ r) = some (nodeC n) := by
   rw [show (998 : Nat) = 997 + 1 from rfl, qdY _ _ _ _ (by simp), show (997 : Nat) = 995 + 2 from rfl, e1, Option.bind_some,
    show (995 + 2 : Nat) = 996 + 1 from rfl, qdY _ _ _ _ (by simp), show (996 : Nat) = 994 + 2 from rfl, e2, Option.bind_some,
    show (994 + 2 : Nat) = 995 + 1 from rfl, qdY _ _ _ _ (by simp), show (995 : Nat) = 993 + 2 from rfl, e3, Option.bind_some, show (993 + 2 : Nat) = 994 + 1 from rfl, qik, qeB]
   rfl
  rw [show qbB = 999 + 1 from rfl, qdY _ _ _ _ (by simp), show (999 : Nat) = 998 + 1 from rfl, lendA_ptrR 998 0 3 _ _ _ (by simp [ownN]) e4, Option.bind_some, qik]
  rfl
 rw [oLend_lent _ _ _ _ _ _ _ (by simpa using hl) (by simp) rfl (leaf_v n)]
 simp
theorem qnf {α : Type} (enc : α → List A) (l : List α) (lo m : Nat) : ((l.map enc).drop lo).take m = ((l.drop lo).take m).map enc := by simp [List.map_take, List.map_drop]
theorem own_ks (ks : List Int) : ownRows (ks.map (cellC .u64)) = true := by simp [ownRows, cellC, ownL, ownA]
theorem own_vs (vs : List Extent) : ownRows (vs.map extentC) = true := by simp [ownRows, extentC, ownL, ownA]
theorem cloneK {n0 id ver lo m : Nat} {ks : List Int} {h : Heap} (hk : h[id]? = some (.live ⟨ver, 1, ks.map (cellC .u64)⟩)) (hid : id < n0) (hl : lo + m ≤ ks.length) (hm : m < 1000) {β : Type} (k : A → Heap → Option β) :
 oCallF n0 [] (qa8 1 8) [.osl id ver 1 lo m] h k = k (.osl h.length 1 1 0 m) (h ++ [.live ⟨1, 1, ((ks.drop lo).take m).map (cellC .u64)⟩]) := by
 rw [qml hk hid (by simpa using hl) (qaq _ (fun x => by simp [cellC]) _) (own_ks ks) (ids_ks ks) (by unfold qa4; omega) (by decide), qnf]
theorem cloneV {n0 id ver lo m : Nat} {vs : List Extent} {h : Heap} (hk : h[id]? = some (.live ⟨ver, 2, vs.map extentC⟩)) (hid : id < n0) (hl : lo + m ≤ vs.length) (hm : m < 1000) {β : Type} (k : A → Heap → Option β) :
 oCallF n0 [] (qa8 2 16) [.osl id ver 2 lo m] h k = k (.osl h.length 1 2 0 m) (h ++ [.live ⟨1, 2, ((vs.drop lo).take m).map extentC⟩]) := by
 rw [qml hk hid (by simpa using hl) (qaq _ (fun x => by simp) _) (own_vs vs) (ids_vs vs) (by unfold qa4; omega) (by decide), qnf]
theorem qiq {ks : List Int} {vs : List Extent} {kv vv cv : Nat} (hl : 7 < ks.length) (hl2 : ks.length < 100) (hv : vs.length = ks.length) :
 qan [.ptr 0 0 0 0] (ownN (.mk ks vs []) 0 kv vv cv) = some (.ok (.tup [.ptr 4 0 0 0, .s (.int .u64 (ks.getD (ks.length / 2) 0)), .ptr 7 0 0 0]),
  ownN (.mk ks vs []) 0 kv vv cv ++ twoLeaf 4 (.mk (ks.take (ks.length / 2)) (vs.take (ks.length / 2)) []) (.mk (ks.drop (ks.length / 2)) (vs.drop (ks.length / 2)) [])) := by
 have c1 : ¬ ((ks.length : Int) ≤ 7) := by omega
 have c2 : IntKind.i64.wrap ((ks.length : Int) / 2) = ((ks.length / 2 : Nat) : Int) := by
  rw [qad (by omega) (by omega)]; omega
 generalize hh : ks.length / 2 = m at *
 have hm : m < ks.length := by omega
 have hg : ks.getD m 0 = ks[m] := by simp [hm]
 have hg2 : ks[m]? = some ks[m] := by simp [hm]
 have hL := fun (kp k : A → Heap → Option (Out × Heap)) => qnj (n := .mk ks vs []) (kv := kv) (vv := vv) (cv := cv) [] kp k
 simp only [List.append_nil, Nd.kids_mk, decide_true] at hL
 rw [hg]
 generalize ks[m] = b at hg2 hg
 simp only [ownN, Nd.ks_mk, Nd.vs_mk, Nd.kids_mk, List.length_nil] at hL ⊢
 simp [qan, c1, c2, hm, hg2, cellC] at hL ⊢
 rw [hL]
 simp [oLoadD, oSlice, hm, Nat.le_of_lt hm]
 rw [cloneK (ks := ks) (by rfl) (by decide) (by omega) (by omega)]
 simp [hv, Nat.le_of_lt hm]
 rw [cloneV (vs := vs) (by rfl) (by decide) (by omega) (by omega)]
 simp [Go.Ab.place, qa5]
 refine ⟨by omega, ?_⟩
 rw [cloneK (ks := ks) (by rfl) (by decide) (by omega) (by omega)]
 simp [Nat.le_of_lt hm]
 rw [cloneV (vs := vs) (by rfl) (by decide) (by omega) (by omega)]
 simp [Go.Ab.place, qa5]
 have t1 : (ks.drop m).take (ks.length - m) = ks.drop m := List.take_of_length_le (by simp)
 have t2 : (vs.drop m).take (ks.length - m) = vs.drop m := List.take_of_length_le (by simp [hv])
 have t3 : (vs.take m).length = m := by simp; omega
 rw [← List.map_drop, ← List.map_drop, ← List.map_take, ← List.map_take, ← List.map_take, ← List.map_take, t1, t2]
 simp only [twoLeaf, Nd.ks_mk, Nd.vs_mk, List.length_take, List.length_drop, hv, Nat.min_eq_left (Nat.le_of_lt hm)]
 generalize ks.drop m = kq
 generalize vs.drop m = vq
 generalize ks.take m = kp
 generalize vs.take m = vp
 have hr : ∀ (a1 a2 a3 a4 a5 a6 a7 : Nat), reach [Go.Ab.Slot.live ⟨0, 3, [[.osl 1 kv 1 0 a1, .osl 2 vv 2 0 a2, .osl 3 cv 1 0 a3]]⟩, .live ⟨kv, 1, ks.map (cellC .u64)⟩, .live ⟨vv, 2, vs.map extentC⟩, .live ⟨cv, 1, []⟩,
  .live ⟨0, 3, [[.osl 5 1 1 0 a4, .osl 6 1 2 0 a5, .s (.slice none 0 0)]]⟩, .live ⟨1, 1, kq.map (cellC .u64)⟩, .live ⟨1, 2, vq.map extentC⟩, .live ⟨0, 3, [[.osl 8 1 1 0 a6, .osl 9 1 2 0 a7, .s (.slice none 0 0)]]⟩, .live ⟨1, 1, kp.map (cellC .u64)⟩, .live ⟨1, 2, vp.map extentC⟩] qa3 (List.range 4) [7, 4, 1, 2, 3] = [0, 1, 2, 3, 7, 8, 9, 4, 5, 6] := by
  intro a1 a2 a3 a4 a5 a6 a7
  rw [show qa3 = 99980 + 20 from rfl]
  simp [reach, List.range_succ, ids_ks, ids_vs]
 simp [finish, ids_ks, ids_vs, hr]
 simp [idx, ren_ks, ren_vs, List.idxOf?_cons]
 rw [List.getElem?_eq_getElem hm] at hg2
 exact Option.some.inj hg2
theorem qhh {ks : List Int} {kids : List Nd} {kv vv cv : Nat} (hl : 7 < ks.length) (hl2 : ks.length < 100) (hv : kids.length = ks.length + 1) :
 qan [.ptr 0 0 0 0] (ownN (.mk ks [] kids) 0 kv vv cv) = some (.ok (.tup [.ptr 4 0 0 0, .s (.int .u64 (ks.getD (ks.length / 2) 0)), .ptr 7 0 0 0]),
  ownN (.mk ks [] kids) 0 kv vv cv ++ qai 4 (.mk (ks.take (ks.length / 2)) [] (kids.take (ks.length / 2 + 1))) (.mk (ks.drop (ks.length / 2 + 1)) [] (kids.drop (ks.length / 2 + 1)))) := by
 have c1 : ¬ ((ks.length : Int) ≤ 7) := by omega
 have hkn : ¬ kids = [] := by rintro rfl; simp at hv
 have c2 : IntKind.i64.wrap ((ks.length : Int) / 2) = ((ks.length / 2 : Nat) : Int) := by
  rw [qad (by omega) (by omega)]; omega
 have c3 : IntKind.i64.wrap (((ks.length / 2 : Nat) : Int) + 1) = ((ks.length / 2 + 1 : Nat) : Int) := by
  rw [qad (by omega) (by omega)]; omega
 generalize hh : ks.length / 2 = m at *
 have hm : m < ks.length := by omega
 have hm1 : m + 1 ≤ ks.length := by omega
 have hg : ks.getD m 0 = ks[m] := by simp [hm]
 have hg2 : ks[m]? = some ks[m] := by simp [hm]
 have hL := fun (kp k : A → Heap → Option (Out × Heap)) => qnj (n := .mk ks [] kids) (kv := kv) (vv := vv) (cv := cv) [] kp k
 simp only [List.append_nil, Nd.kids_mk, hkn, decide_false] at hL
 rw [hg]
 generalize ks[m] = b at hg2 hg
 simp only [ownN, Nd.ks_mk, Nd.vs_mk, Nd.kids_mk, List.length_nil, hv] at hL ⊢
 have c4 : ¬ ((m : Int) + 1 < 0) := by omega
 have c5 : (0 : Int) ≤ (m : Int) + 1 := by omega
 have c6 : ((m : Int) + 1).toNat = m + 1 := by omega
 simp [qan, c1, c2, c3, hm, hg2, cellC] at hL ⊢
 rw [hL]
 simp [oLoadD, oSlice, hm, hm1, Nat.le_of_lt hm, c5, c6, c3]
 rw [cloneK (ks := ks) (by rfl) (by decide) (by omega) (by omega)]
 simp [hm1, Nat.le_succ_of_le hm1]
 rw [qmm (kids := kids) (by rfl) (by decide) (by omega) (by omega)]
 simp [Go.Ab.place, qa5]
 refine ⟨by omega, ?_⟩
 rw [cloneK (ks := ks) (by rfl) (by decide) (by omega) (by omega)]
 simp [hm1, Nat.le_succ_of_le hm1]
 rw [qmm (kids := kids) (by rfl) (by decide) (by omega) (by omega)]
 simp [Go.Ab.place, qa5]
 have t1 : (ks.drop (m + 1)).take (ks.length - (m + 1)) = ks.drop (m + 1) := List.take_of_length_le (by simp)
 have t2 : (kids.drop (m + 1)).take (ks.length - m) = kids.drop (m + 1) := List.take_of_length_le (by simp [hv])
 rw [← List.map_drop, ← List.map_drop, ← List.map_take, ← List.map_take, ← List.map_take, ← List.map_take, t1, t2]
 simp only [qai, Nd.ks_mk, Nd.kids_mk, List.length_take, List.length_drop, hv, Nat.min_eq_left (Nat.le_of_lt hm), Nat.min_eq_left (Nat.succ_le_succ (Nat.le_of_lt hm)), Nat.add_sub_add_right]
 generalize ks.drop (m + 1) = kq
 generalize kids.drop (m + 1) = vq
 generalize ks.take m = kp
 generalize kids.take (m + 1) = vp
 have hr : ∀ (a1 a2 a3 a4 a5 a6 a7 : Nat), reach [Go.Ab.Slot.live ⟨0, 3, [[.osl 1 kv 1 0 a1, .osl 2 vv 2 0 a2, .osl 3 cv 1 0 a3]]⟩, .live ⟨kv, 1, ks.map (cellC .u64)⟩, .live ⟨vv, 2, []⟩, .live ⟨cv, 1, kids.map kidC⟩,
  .live ⟨0, 3, [[.osl 5 1 1 0 a4, .s (.slice none 0 0), .osl 6 1 1 0 a5]]⟩, .live ⟨1, 1, kq.map (cellC .u64)⟩, .live ⟨1, 1, vq.map kidC⟩, .live ⟨0, 3, [[.osl 8 1 1 0 a6, .s (.slice none 0 0), .osl 9 1 1 0 a7]]⟩, .live ⟨1, 1, kp.map (cellC .u64)⟩, .live ⟨1, 1, vp.map kidC⟩] qa3 (List.range 4) [7, 4, 1, 2, 3] = [0, 1, 2, 3, 7, 8, 9, 4, 5, 6] := by
  intro a1 a2 a3 a4 a5 a6 a7
  rw [show qa3 = 99980 + 20 from rfl]
  simp [reach, List.range_succ, ids_ks, qaZ]
 simp [finish, ids_ks, qaZ, hr]
 simp [idx, ren_ks, qbj, List.idxOf?_cons]
 rw [List.getElem?_eq_getElem hm] at hg2
 exact Option.some.inj hg2
end Go.Ab.T
namespace Go.Ab.T
open Go Go.Ab Go.Ab.F
structure OwnAt (H : Heap) (r k v c : Nat) (n : Nd) (kv vv cv : Nat) : Prop where
 root : H[r]? = some (.live ⟨0, 3, [[.osl k kv 1 0 n.ks.length, .osl v vv 2 0 n.vs.length, .osl c cv 1 0 n.kids.length]]⟩)
 ks : H[k]? = some (.live ⟨kv, 1, n.ks.map (cellC .u64)⟩)
 vs : H[v]? = some (.live ⟨vv, 2, n.vs.map extentC⟩)
 kids : H[c]? = some (.live ⟨cv, 1, n.kids.map kidC⟩)
 d1 : r ≠ k
 d2 : r ≠ v
 d3 : r ≠ c
 d4 : k ≠ v
 d5 : k ≠ c
 d6 : v ≠ c
theorem OwnAt.reach {H : Heap} {r k v c : Nat} {n : Nd} {kv vv cv : Nat} (h : OwnAt H r k v c n kv vv cv) (m : Nat) : Go.Ab.reach H (m + 20) [] [r] = [r, k, v, c] := by
 have e1 : ¬ k = r := Ne.symm h.d1
 have e2 : ¬ v = r := Ne.symm h.d2
 have e3 : ¬ c = r := Ne.symm h.d3
 have e4 : ¬ v = k := Ne.symm h.d4
 have e5 : ¬ c = k := Ne.symm h.d5
 have e6 : ¬ c = v := Ne.symm h.d6
 simp [Go.Ab.reach, List.getD_eq_getElem?_getD, h.root, h.ks, h.vs, h.kids, ids_ks, ids_vs, qaZ, e1, e2, e3, e4, e5, e6]
theorem OwnAt.idx {H : Heap} {r k v c : Nat} {n : Nd} {kv vv cv : Nat} (h : OwnAt H r k v c n kv vv cv) : Go.Ab.idx [r, k, v, c] r = some 0 ∧ Go.Ab.idx [r, k, v, c] k = some 1 ∧ Go.Ab.idx [r, k, v, c] v = some 2 ∧ Go.Ab.idx [r, k, v, c] c = some 3 := by
 have e1 := h.d1
 have e2 := h.d2
 have e3 := h.d3
 have e4 := h.d4
 have e5 := h.d5
 have e6 := h.d6
 simp [Go.Ab.idx, List.idxOf?_cons, e1, e2, e3, e4, e5, e6]
theorem OwnAt.borrow {H : Heap} {r k v c : Nat} {n : Nd} {kv vv cv : Nat} (h : OwnAt H r k v c n kv vv cv) : Go.Ab.borrow [.ptr r 0 0 0] H = some ([r, k, v, c], [.ptr 0 0 0 0], ownN n 0 kv vv cv) := by
 have hr := h.reach 99980
 obtain ⟨i1, i2, i3, i4⟩ := h.idx
 unfold Go.Ab.borrow
 rw [show qa3 = 99980 + 20 from rfl]
 simp [hr, i1, i2, i3, i4, List.getD_eq_getElem?_getD, h.root, h.ks, h.vs, h.kids, ren_ks, ren_vs, qbj, ownN]
theorem qi9 {H : Heap} {r k v c : Nat} {n : Nd} {kv vv cv : Nat} (h : OwnAt H r k v c n kv vv cv) : setAll H [r, k, v, c] [.live ⟨0, 3, [[.osl k kv 1 0 n.ks.length, .osl v vv 2 0 n.vs.length, .osl c cv 1 0 n.kids.length]]⟩, .live ⟨kv, 1, n.ks.map (cellC .u64)⟩, .live ⟨vv, 2, n.vs.map extentC⟩, .live ⟨cv, 1, n.kids.map kidC⟩] = H := by
 simp only [setAll, qdH h.root, qdH h.ks, qdH h.vs, qdH h.kids]
theorem qhj {H : Heap} {r k v c : Nat} {n : Nd} {kv vv cv : Nat} (h : OwnAt H r k v c n kv vv cv) (hl : n.ks.length ≤ 7) {β : Type} (kp kk : A → Heap → Option β) :
 oCall qan [.ptr r 0 0 0] H kp kk = kk (.tup [.ptr r 0 0 0, .s (.int .u64 0), .s (.pointer none)]) H := by
 unfold oCall
 rw [h.borrow]
 simp only [split_le hl]
 have : qaa [r, k, v, c] H (.ok (.tup [.ptr 0 0 0 0, .s (.int .u64 0), .s (.pointer none)])) (ownN n 0 kv vv cv) = some (.ok (.tup [.ptr r 0 0 0, .s (.int .u64 0), .s (.pointer none)]), H) := by
  simp [qaa, backIdx, ownN, ren_ks, ren_vs, qbj, qi9 h]
 rw [this]
theorem qjb {H : Heap} {r k v c : Nat} {ks : List Int} {vs : List Extent} {kv vv cv : Nat} (h : OwnAt H r k v c (.mk ks vs []) kv vv cv) (hl : 7 < ks.length) (hl2 : ks.length < 100) (hv : vs.length = ks.length) {β : Type} (kp kk : A → Heap → Option β) :
 oCall qan [.ptr r 0 0 0] H kp kk = kk (.tup [.ptr H.length 0 0 0, .s (.int .u64 (ks.getD (ks.length / 2) 0)), .ptr (H.length + 3) 0 0 0])
  (H ++ twoLeaf H.length (.mk (ks.take (ks.length / 2)) (vs.take (ks.length / 2)) []) (.mk (ks.drop (ks.length / 2)) (vs.drop (ks.length / 2)) [])) := by
 unfold oCall
 rw [h.borrow]
 simp only [qiq hl hl2 hv]
 generalize ks.getD (ks.length / 2) 0 = b
 generalize Nd.mk (ks.take (ks.length / 2)) (vs.take (ks.length / 2)) [] = p
 generalize Nd.mk (ks.drop (ks.length / 2)) (vs.drop (ks.length / 2)) [] = q
 have hs := qi9 h
 simp only [Nd.ks_mk, Nd.vs_mk, Nd.kids_mk, List.length_nil] at hs
 have : qaa [r, k, v, c] H (.ok (.tup [.ptr 4 0 0 0, .s (.int .u64 b), .ptr 7 0 0 0])) (ownN (.mk ks vs []) 0 kv vv cv ++ twoLeaf 4 p q) = some (.ok (.tup [.ptr H.length 0 0 0, .s (.int .u64 b), .ptr (H.length + 3) 0 0 0]), H ++ twoLeaf H.length p q) := by
  simp [qaa, backIdx, ownN, twoLeaf, ren_ks, ren_vs]
  simpa using hs
 rw [this]
theorem qiS {H : Heap} {r k v c : Nat} {ks : List Int} {kids : List Nd} {kv vv cv : Nat} (h : OwnAt H r k v c (.mk ks [] kids) kv vv cv) (hl : 7 < ks.length) (hl2 : ks.length < 100) (hv : kids.length = ks.length + 1) {β : Type} (kp kk : A → Heap → Option β) :
 oCall qan [.ptr r 0 0 0] H kp kk = kk (.tup [.ptr H.length 0 0 0, .s (.int .u64 (ks.getD (ks.length / 2) 0)), .ptr (H.length + 3) 0 0 0])
  (H ++ qai H.length (.mk (ks.take (ks.length / 2)) [] (kids.take (ks.length / 2 + 1))) (.mk (ks.drop (ks.length / 2 + 1)) [] (kids.drop (ks.length / 2 + 1)))) := by
 unfold oCall
 rw [h.borrow]
 simp only [qhh hl hl2 hv]
 generalize ks.getD (ks.length / 2) 0 = b
 generalize Nd.mk (ks.take (ks.length / 2)) [] (kids.take (ks.length / 2 + 1)) = p
 generalize Nd.mk (ks.drop (ks.length / 2 + 1)) [] (kids.drop (ks.length / 2 + 1)) = q
 have hs := qi9 h
 simp only [Nd.ks_mk, Nd.vs_mk, Nd.kids_mk, List.length_nil, hv] at hs
 have : qaa [r, k, v, c] H (.ok (.tup [.ptr 4 0 0 0, .s (.int .u64 b), .ptr 7 0 0 0])) (ownN (.mk ks [] kids) 0 kv vv cv ++ qai 4 p q) = some (.ok (.tup [.ptr H.length 0 0 0, .s (.int .u64 b), .ptr (H.length + 3) 0 0 0]), H ++ qai H.length p q) := by
  simp [qaa, backIdx, ownN, qai, ren_ks, qbj, hv]
  simpa using hs
 rw [this]
theorem qh2 {H : Heap} {r k v c : Nat} {n : Nd} {kv vv cv : Nat} (h : OwnAt H r k v c n kv vv cv) : finish 0 (.ok (.tup [.ptr r 0 0 0, .s (.int .u64 0), .s (.pointer none)])) H = some (.ok (.tup [.ptr 0 0 0 0, .s (.int .u64 0), .s (.pointer none)]), ownN n 0 kv vv cv) := by
 have hr := h.reach 99980
 obtain ⟨i1, i2, i3, i4⟩ := h.idx
 unfold finish
 rw [show qa3 = 99980 + 20 from rfl]
 simp [hr, i1, i2, i3, i4, List.getD_eq_getElem?_getD, h.root, h.ks, h.vs, h.kids, ren_ks, ren_vs, qbj, ownN]
theorem qgn {H : Heap} {r k v c : Nat} {n : Nd} {kv vv cv : Nat} (h : OwnAt H r k v c n kv vv cv) : finish 0 (.ok (.ptr r 0 0 0)) H = some (.ok (.ptr 0 0 0 0), ownN n 0 kv vv cv) := by
 have hr := h.reach 99980
 obtain ⟨i1, i2, i3, i4⟩ := h.idx
 unfold finish
 rw [show qa3 = 99980 + 20 from rfl]
 simp [hr, i1, i2, i3, i4, List.getD_eq_getElem?_getD, h.root, h.ks, h.vs, h.kids, ren_ks, ren_vs, qbj, ownN]
theorem at_b (H : Heap) (l : Heap) (i : Nat) : (H ++ l)[H.length + i]? = l[i]? := by
 rw [List.getElem?_append_right (by omega)]; congr 1; omega
theorem qme (H : Heap) (p q : Nd) (b : Int) : finish 0 (.ok (.tup [.ptr H.length 0 0 0, .s (.int .u64 b), .ptr (H.length + 3) 0 0 0])) (H ++ twoLeaf H.length p q) =
 some (.ok (.tup [.ptr 0 0 0 0, .s (.int .u64 b), .ptr 3 0 0 0]), twoLeaf 0 p q) := by
 have g0 := at_b H (twoLeaf H.length p q) 0
 have g1 := at_b H (twoLeaf H.length p q) 1
 have g2 := at_b H (twoLeaf H.length p q) 2
 have g3 := at_b H (twoLeaf H.length p q) 3
 have g4 := at_b H (twoLeaf H.length p q) 4
 have g5 := at_b H (twoLeaf H.length p q) 5
 rw [Nat.add_zero] at g0
 generalize H ++ twoLeaf H.length p q = G at *
 generalize H.length = B at *
 simp [twoLeaf] at g0 g1 g2 g3 g4 g5
 have hr : Go.Ab.reach G qa3 [] [B, B + 3] = [B, B + 1, B + 2, B + 3, B + 4, B + 5] := by
  rw [show qa3 = 99980 + 20 from rfl]
  simp [Go.Ab.reach, List.getD_eq_getElem?_getD, g0, g1, g2, g3, g4, g5, ids_ks, ids_vs]
 unfold finish
 simp [hr]
 simp [List.getD_eq_getElem?_getD, g0, g1, g2, g3, g4, g5, ren_ks, ren_vs, twoLeaf, Go.Ab.idx, List.idxOf?_cons]
theorem qlb (H : Heap) (p q : Nd) (b : Int) : finish 0 (.ok (.tup [.ptr H.length 0 0 0, .s (.int .u64 b), .ptr (H.length + 3) 0 0 0])) (H ++ qai H.length p q) =
 some (.ok (.tup [.ptr 0 0 0 0, .s (.int .u64 b), .ptr 3 0 0 0]), qai 0 p q) := by
 have g0 := at_b H (qai H.length p q) 0
 have g1 := at_b H (qai H.length p q) 1
 have g2 := at_b H (qai H.length p q) 2
 have g3 := at_b H (qai H.length p q) 3
 have g4 := at_b H (qai H.length p q) 4
 have g5 := at_b H (qai H.length p q) 5
 rw [Nat.add_zero] at g0
 generalize H ++ qai H.length p q = G at *
 generalize H.length = B at *
 simp [qai] at g0 g1 g2 g3 g4 g5
 have hr : Go.Ab.reach G qa3 [] [B, B + 3] = [B, B + 1, B + 2, B + 3, B + 4, B + 5] := by
  rw [show qa3 = 99980 + 20 from rfl]
  simp [Go.Ab.reach, List.getD_eq_getElem?_getD, g0, g1, g2, g3, g4, g5, ids_ks, qaZ]
 unfold finish
 simp [hr]
 simp [List.getD_eq_getElem?_getD, g0, g1, g2, g3, g4, g5, ren_ks, qbj, qai, Go.Ab.idx, List.idxOf?_cons]
def flatD (d : Heap) : Prop := ∀ s ∈ d, Go.Ab.Slot.ids s = []
def PutV (F : CallFn) (args : List A) (r : Nd × Int × Option Nd) : Prop := match r with
 | (n1, b, none) => b = 0 ∧ ∃ kv vv cv, F args [] = some (.ok (.tup [.ptr 0 0 0 0, .s (.int .u64 0), .s (.pointer none)]), ownN n1 0 kv vv cv)
 | (n1, b, some q) => (n1.kids = [] ∧ q.kids = [] ∧ F args [] = some (.ok (.tup [.ptr 0 0 0 0, .s (.int .u64 b), .ptr 3 0 0 0]), twoLeaf 0 n1 q)) ∨
   (n1.vs = [] ∧ q.vs = [] ∧ F args [] = some (.ok (.tup [.ptr 0 0 0 0, .s (.int .u64 b), .ptr 3 0 0 0]), qai 0 n1 q))
def moreA (m : Option Nd) : A := match m with | none => .s (.pointer none) | some q => .cptr (nodeC q)
def putEnc (r : Nd × Int × Option Nd) : A := .tup [.cptr (nodeC r.1), .s (.int .u64 r.2.1), moreA r.2.2]
theorem qgz {β : Type} {n0 : Nat} {wr : List Nat} {F : CallFn} {args : List A} {h h' : Heap} {a a' : A} {objs : Heap} (k : A → Heap → Option β) (ha : pureL args = true) (hF : F args [] = some (.ok a, objs)) (hg : qaa [] h (.ok a) objs = some (.ok a', h')) : oCallF n0 wr F args h k = k a' h' := by
 have hi : (idsL args).isEmpty = true := by rw [qdd args ha]; rfl
 have hl : lendL qbB args [] = some args := qco 999 _ _ ha
 unfold oCallF
 rw [if_pos hi, hl]
 simp only [hF, hi, Bool.true_or, if_true, hg]
theorem qdf {β : Type} {F : CallFn} {args : List A} {h h' : Heap} {a a' : A} {objs : Heap} (kp k : A → Heap → Option β) (ha : pureL args = true) (hF : F args [] = some (.ok a, objs)) (hg : qaa [] h (.ok a) objs = some (.ok a', h')) : oLend F args h kp k = k a' h' := by
 have hi : (idsL args).isEmpty = true := by rw [qdd args ha]; rfl
 have hl : lendL qbB args [] = some args := qco 999 _ _ ha
 unfold oLend
 rw [if_pos hi, hl]
 simp only [hF, hi, Bool.true_or, if_true, hg]
def ownB (b : Nat) (n : Nd) (kv vv cv : Nat) : Heap := [.live ⟨0, 3, [[.osl (b + 1) kv 1 0 n.ks.length, .osl (b + 2) vv 2 0 n.vs.length, .osl (b + 3) cv 1 0 n.kids.length]]⟩, .live ⟨kv, 1, n.ks.map (cellC .u64)⟩, .live ⟨vv, 2, n.vs.map extentC⟩, .live ⟨cv, 1, n.kids.map kidC⟩]
theorem ownB_at (H : Heap) (n : Nd) (kv vv cv : Nat) : OwnAt (H ++ ownB H.length n kv vv cv) H.length (H.length + 1) (H.length + 2) (H.length + 3) n kv vv cv :=
 ⟨by simp [ownB], by rw [at_b]; rfl, by rw [at_b]; rfl, by rw [at_b]; rfl, by omega, by omega, by omega, by omega, by omega, by omega⟩
theorem dead4' (H : Heap) (a b c d : Go.Ab.Slot) : ((((H ++ [a, b, c, d]).set H.length .dead).set (H.length + 1) .dead).set (H.length + 2) .dead).set (H.length + 3) .dead = H ++ [.dead, .dead, .dead, .dead] := by
 rw [List.set_append_right _ _ (by omega), List.set_append_right _ _ (by omega), List.set_append_right _ _ (by omega), List.set_append_right _ _ (by omega)]
 simp
theorem fz_ownB (H : Heap) (n : Nd) (kv vv cv : Nat) : FzA 7 (.ptr H.length 0 0 0) (H ++ ownB H.length n kv vv cv) (.cptr (nodeC n)) (H ++ [.dead, .dead, .dead, .dead]) := by
 have o := ownB_at H n kv vv cv
 have := fz_node o.root o.ks o.vs o.kids rfl rfl rfl o.d1 o.d2 o.d3 o.d4 o.d5 o.d6
 rw [show H ++ ownB H.length n kv vv cv = H ++ [Go.Ab.Slot.live ⟨0, 3, [[.osl (H.length + 1) kv 1 0 n.ks.length, .osl (H.length + 2) vv 2 0 n.vs.length, .osl (H.length + 3) cv 1 0 n.kids.length]]⟩, .live ⟨kv, 1, n.ks.map (cellC .u64)⟩, .live ⟨vv, 2, n.vs.map extentC⟩, .live ⟨cv, 1, n.kids.map kidC⟩] from rfl] at this ⊢
 rw [dead4'] at this
 exact this
theorem gb_own (h : Heap) (n : Nd) (kv vv cv : Nat) (b : Int) : qaa [] h (.ok (.tup [.ptr 0 0 0 0, .s (.int .u64 b), .s (.pointer none)])) (ownN n 0 kv vv cv) = some (.ok (.tup [.ptr h.length 0 0 0, .s (.int .u64 b), .s (.pointer none)]), h ++ ownB h.length n kv vv cv) := by
 simp [qaa, backIdx, ownN, ownB, ren_ks, ren_vs, qbj, setAll]
theorem gb_own1 (h : Heap) (n : Nd) (kv vv cv : Nat) : qaa [] h (.ok (.ptr 0 0 0 0)) (ownN n 0 kv vv cv) = some (.ok (.ptr h.length 0 0 0), h ++ ownB h.length n kv vv cv) := by
 simp [qaa, backIdx, ownN, ownB, ren_ks, ren_vs, qbj, setAll]
theorem gb_leaf2 (h : Heap) (p q : Nd) (b : Int) : qaa [] h (.ok (.tup [.ptr 0 0 0 0, .s (.int .u64 b), .ptr 3 0 0 0])) (twoLeaf 0 p q) = some (.ok (.tup [.ptr h.length 0 0 0, .s (.int .u64 b), .ptr (h.length + 3) 0 0 0]), h ++ twoLeaf h.length p q) := by
 simp [qaa, backIdx, twoLeaf, ren_ks, ren_vs, setAll]
theorem gb_inner2 (h : Heap) (p q : Nd) (b : Int) : qaa [] h (.ok (.tup [.ptr 0 0 0 0, .s (.int .u64 b), .ptr 3 0 0 0])) (qai 0 p q) = some (.ok (.tup [.ptr h.length 0 0 0, .s (.int .u64 b), .ptr (h.length + 3) 0 0 0]), h ++ qai h.length p q) := by
 simp [qaa, backIdx, qai, ren_ks, qbj, setAll]
def dead6 : Heap := [.dead, .dead, .dead, .dead, .dead, .dead]
theorem set6 (H : Heap) (a b c d e f : Go.Ab.Slot) : ((((((H ++ [a, b, c, d, e, f]).set H.length .dead).set (H.length + 1) .dead).set (H.length + 2) .dead).set (H.length + 3) .dead).set (H.length + 3 + 1) .dead).set (H.length + 3 + 2) .dead = H ++ dead6 := by
 rw [List.set_append_right _ _ (by omega), List.set_append_right _ _ (by omega), List.set_append_right _ _ (by omega), List.set_append_right _ _ (by omega), List.set_append_right _ _ (by omega), List.set_append_right _ _ (by omega)]
 simp [dead6, Nat.add_assoc]
theorem fz_leaf2 (H : Heap) {p q : Nd} (hp : p.kids = []) (hq : q.kids = []) (b : Int) : FzA 20 (.tup [.ptr H.length 0 0 0, .s (.int .u64 b), .ptr (H.length + 3) 0 0 0]) (H ++ twoLeaf H.length p q) (.tup [.cptr (nodeC p), .s (.int .u64 b), .cptr (nodeC q)]) (H ++ dead6) := by
 obtain ⟨pk, pv, pc⟩ := p
 obtain ⟨qk, qv, qc⟩ := q
 simp only [Nd.kids_mk] at hp hq
 subst hp; subst hq
 have g0 : (H ++ twoLeaf H.length (.mk pk pv []) (.mk qk qv []))[H.length]? = _ := at_b H (twoLeaf H.length (.mk pk pv []) (.mk qk qv [])) 0
 have g1 := at_b H (twoLeaf H.length (.mk pk pv []) (.mk qk qv [])) 1
 have g2 := at_b H (twoLeaf H.length (.mk pk pv []) (.mk qk qv [])) 2
 have g3 := at_b H (twoLeaf H.length (.mk pk pv []) (.mk qk qv [])) 3
 have g4 := at_b H (twoLeaf H.length (.mk pk pv []) (.mk qk qv [])) 4
 have g5 := at_b H (twoLeaf H.length (.mk pk pv []) (.mk qk qv [])) 5
 have f1 := fz_leaf (ks := pk) (vs := pv) (g0.trans rfl) (g1.trans rfl) (g2.trans rfl) rfl rfl (by omega) (by omega) (by omega)
 have f2 := fz_leaf (H := (((H ++ twoLeaf H.length (.mk pk pv []) (.mk qk qv [])).set H.length .dead).set (H.length + 1) .dead).set (H.length + 2) .dead) (id := H.length + 3) (v := 0) (kid := H.length + 4) (kv := 1) (vid := H.length + 5) (vv := 1) (ks := qk) (vs := qv)
  (by rw [List.getElem?_set_ne (by omega), List.getElem?_set_ne (by omega), List.getElem?_set_ne (by omega)]; exact g3.trans rfl)
  (by rw [List.getElem?_set_ne (by omega), List.getElem?_set_ne (by omega), List.getElem?_set_ne (by omega)]; exact g4.trans rfl)
  (by rw [List.getElem?_set_ne (by omega), List.getElem?_set_ne (by omega), List.getElem?_set_ne (by omega)]; exact g5.trans rfl) rfl rfl (by omega) (by omega) (by omega)
 have hs := set6 H (.live ⟨0, 3, [[.osl (H.length + 1) 1 1 0 pk.length, .osl (H.length + 2) 1 2 0 pv.length, .s (.slice none 0 0)]]⟩) (.live ⟨1, 1, pk.map (cellC .u64)⟩) (.live ⟨1, 2, pv.map extentC⟩)
  (.live ⟨0, 3, [[.osl (H.length + 4) 1 1 0 qk.length, .osl (H.length + 5) 1 2 0 qv.length, .s (.slice none 0 0)]]⟩) (.live ⟨1, 1, qk.map (cellC .u64)⟩) (.live ⟨1, 2, qv.map extentC⟩)
 refine fz_tup (n := 19) ?_
 refine qaJ (n := 17) rfl (f1.le (by omega)) (qaJ (n := 16) rfl ((fz_flat _ rfl).le (by omega)) (qaJ (n := 15) rfl ((f2.le (by omega)) : FzA 16 _ _ _ _) ?_))
 have he : ((((((H ++ twoLeaf H.length (.mk pk pv []) (.mk qk qv [])).set H.length .dead).set (H.length + 1) .dead).set (H.length + 2) .dead).set (H.length + 3) .dead).set (H.length + 4) .dead).set (H.length + 5) .dead = H ++ dead6 := hs
 rw [he]
 exact (fzl_nil _).le (by omega)
theorem fz_inner2 (H : Heap) {p q : Nd} (hp : p.vs = []) (hq : q.vs = []) (b : Int) : FzA 20 (.tup [.ptr H.length 0 0 0, .s (.int .u64 b), .ptr (H.length + 3) 0 0 0]) (H ++ qai H.length p q) (.tup [.cptr (nodeC p), .s (.int .u64 b), .cptr (nodeC q)]) (H ++ dead6) := by
 obtain ⟨pk, pv, pc⟩ := p
 obtain ⟨qk, qv, qc⟩ := q
 simp only [Nd.vs_mk] at hp hq
 subst hp; subst hq
 have g0 : (H ++ qai H.length (.mk pk [] pc) (.mk qk [] qc))[H.length]? = _ := at_b H (qai H.length (.mk pk [] pc) (.mk qk [] qc)) 0
 have g1 := at_b H (qai H.length (.mk pk [] pc) (.mk qk [] qc)) 1
 have g2 := at_b H (qai H.length (.mk pk [] pc) (.mk qk [] qc)) 2
 have g3 := at_b H (qai H.length (.mk pk [] pc) (.mk qk [] qc)) 3
 have g4 := at_b H (qai H.length (.mk pk [] pc) (.mk qk [] qc)) 4
 have g5 := at_b H (qai H.length (.mk pk [] pc) (.mk qk [] qc)) 5
 have f1 := qhX (ks := pk) (kids := pc) (g0.trans rfl) (g1.trans rfl) (g2.trans rfl) rfl rfl (by omega) (by omega) (by omega)
 have f2 := qhX (H := (((H ++ qai H.length (.mk pk [] pc) (.mk qk [] qc)).set H.length .dead).set (H.length + 1) .dead).set (H.length + 2) .dead) (id := H.length + 3) (v := 0) (kid := H.length + 4) (kv := 1) (cid := H.length + 5) (cv := 1) (ks := qk) (kids := qc)
  (by rw [List.getElem?_set_ne (by omega), List.getElem?_set_ne (by omega), List.getElem?_set_ne (by omega)]; exact g3.trans rfl)
  (by rw [List.getElem?_set_ne (by omega), List.getElem?_set_ne (by omega), List.getElem?_set_ne (by omega)]; exact g4.trans rfl)
  (by rw [List.getElem?_set_ne (by omega), List.getElem?_set_ne (by omega), List.getElem?_set_ne (by omega)]; exact g5.trans rfl) rfl rfl (by omega) (by omega) (by omega)
 have hs := set6 H (.live ⟨0, 3, [[.osl (H.length + 1) 1 1 0 pk.length, .s (.slice none 0 0), .osl (H.length + 2) 1 1 0 pc.length]]⟩) (.live ⟨1, 1, pk.map (cellC .u64)⟩) (.live ⟨1, 1, pc.map kidC⟩)
  (.live ⟨0, 3, [[.osl (H.length + 4) 1 1 0 qk.length, .s (.slice none 0 0), .osl (H.length + 5) 1 1 0 qc.length]]⟩) (.live ⟨1, 1, qk.map (cellC .u64)⟩) (.live ⟨1, 1, qc.map kidC⟩)
 refine fz_tup (n := 19) ?_
 refine qaJ (n := 17) rfl (f1.le (by omega)) (qaJ (n := 16) rfl ((fz_flat _ rfl).le (by omega)) (qaJ (n := 15) rfl ((f2.le (by omega)) : FzA 16 _ _ _ _) ?_))
 have he : ((((((H ++ qai H.length (.mk pk [] pc) (.mk qk [] qc)).set H.length .dead).set (H.length + 1) .dead).set (H.length + 2) .dead).set (H.length + 3) .dead).set (H.length + 4) .dead).set (H.length + 5) .dead = H ++ dead6 := hs
 rw [he]
 exact (fzl_nil _).le (by omega)
theorem qlJ {F : CallFn} {args : List A} {r : Nd × Int × Option Nd} (h : PutV F args r) (ha : pureL args = true) (H : Heap) (n0 : Nat) (wr : List Nat) : ∃ d, flatD d ∧ ∀ {β : Type} (k : A → Heap → Option β),
 (oCallF n0 wr F args H fun w h' => oFrz w h' k) = k (putEnc r) (H ++ d) := by
 obtain ⟨n1, b, m⟩ := r
 cases m with
 | none =>
   obtain ⟨rfl, kv, vv, cv, hF⟩ := h
   refine ⟨[.dead, .dead, .dead, .dead], by simp [flatD], fun k => ?_⟩
   rw [qgz _ ha hF (gb_own H n1 kv vv cv 0)]
   have : FzA 20 (.tup [.ptr H.length 0 0 0, .s (.int .u64 0), .s (.pointer none)]) (H ++ ownB H.length n1 kv vv cv) (.tup [.cptr (nodeC n1), .s (.int .u64 0), .s (.pointer none)]) (H ++ [.dead, .dead, .dead, .dead]) := by
    refine fz_tup (n := 19) ?_
    exact qaJ (n := 17) rfl ((fz_ownB H n1 kv vv cv).le (by omega)) (qaJ (n := 16) rfl ((fz_flat _ rfl).le (by omega)) (qaJ (n := 15) rfl ((fz_flat _ rfl).le (by omega)) ((fzl_nil _).le (by omega))))
   exact fz_oFrz this (by omega) (by simp) k
 | some q =>
   refine ⟨dead6, by simp [flatD, dead6], fun k => ?_⟩
   rcases h with ⟨h1, h2, hF⟩ | ⟨h1, h2, hF⟩
   · rw [qgz _ ha hF (gb_leaf2 H n1 q b)]
     exact fz_oFrz (fz_leaf2 H h1 h2 b) (by omega) (by simp) k
   · rw [qgz _ ha hF (gb_inner2 H n1 q b)]
     exact fz_oFrz (fz_inner2 H h1 h2 b) (by omega) (by simp) k
theorem qez {β : Type} {n0 : Nat} {wr : List Nat} (sz by_ : Nat) {H : Heap} {id ver n i vid : Nat} {rows : List (List A)} {c : List A} (k : A → Heap → Option β)
 (h1 : H[id]? = some (.live ⟨ver, sz, rows⟩)) (h2 : H[vid]? = some (.live ⟨0, sz, [c]⟩)) (hid : n0 ≤ id ∨ id ∈ wr) (hvid : n0 ≤ vid ∨ vid ∈ wr) (hn : n = rows.length) (hne : id ≠ vid) (hi : i ≤ n) (ok : qa4 (2 * (n + 1)) by_)
 (p1 : idsRows rows = []) (p2 : idsL c = []) :
 oCallW n0 wr (qaO sz by_) [.osl id ver sz 0 n, .s (.int .i64 i), .osl vid 0 sz 0 1] H k = k (.osl id (ver + 1) sz 0 (n + 1)) (H.set id (.live ⟨ver + 1, sz, rows.take i ++ c :: rows.drop i⟩)) := by
 subst hn
 have x1 : idx [id, vid] id = some 0 := by simp [idx, List.idxOf?_cons]
 have x2 : idx [id, vid] vid = some 1 := by
  have : (id == vid) = false := by simpa using hne
  simp [idx, List.idxOf?_cons, this]
 have hok : okW n0 wr [id, vid] H = true := by
  simp only [okW, nodupB, List.contains_cons, List.contains_nil, Bool.or_false, List.length_cons, List.length_nil, List.all_cons, List.all_nil, Bool.and_true, Bool.and_eq_true, Bool.or_eq_true, decide_eq_true_eq, List.getD_eq_getElem?_getD, h1, h2, Option.getD_some, liveS, p1, qb7, qmP, p2, List.append_nil, List.isEmpty_nil, Bool.not_false]
  refine ⟨⟨by simpa using hne, by omega⟩, by simpa using hid, by simpa using hvid⟩
 have hp : qaO sz by_ [.osl 0 ver sz 0 rows.length, .s (.int .i64 i), .osl 1 0 sz 0 1] [.live ⟨ver, sz, rows⟩, .live ⟨0, sz, [c]⟩] =
  some (.ok (.osl 0 (ver + 1) sz 0 (rows.length + 1)), [.live ⟨ver + 1, sz, rows.take i ++ c :: rows.drop i⟩, .live ⟨0, sz, [c]⟩]) := by
  have : ((i : Int) ≤ (rows.length : Int)) := by omega
  simp [qaO, ok, this, List.take_of_length_le]
 have hfl : idsRows (rows.take i ++ c :: rows.drop i) = [] := by
  have e := p1
  rw [← List.take_append_drop i rows, qas, List.append_eq_nil_iff] at e
  rw [qas, e.1, qb7, p2, e.2]; rfl
 have hs : (H.set id (.live ⟨ver + 1, sz, rows.take i ++ c :: rows.drop i⟩)).set vid (.live ⟨0, sz, [c]⟩) = H.set id (.live ⟨ver + 1, sz, rows.take i ++ c :: rows.drop i⟩) :=
  qdH (by rw [List.getElem?_set_ne hne]; exact h2)
 have hids : idsL [.osl id ver sz 0 rows.length, .s (.int .i64 i), .osl vid 0 sz 0 1] = [id, vid] := by simp
 unfold oCallW
 rw [hids, if_pos hok]
 simp only [qg6, qiZ, qet, renA_s, x1, x2, Option.map_some, Option.bind_some, List.map_cons, List.map_nil, List.getD_eq_getElem?_getD, h1, h2, Option.getD_some, hp]
 simp [flatS, hfl, p2, setAll, hs]
theorem ins_eq {α : Type} (x : α) : ∀ (l : List α) (i : Nat), i ≤ l.length → l.insertIdx i x = l.take i ++ x :: l.drop i
 | l, 0, _ => by simp
 | [], i + 1, h => by simp at h
 | a :: l, i + 1, h => by
   simp only [List.insertIdx_succ_cons, List.take_succ_cons, List.drop_succ_cons, List.cons_append]
   rw [ins_eq x l i (by simpa using h)]
end Go.Ab.T
namespace Go.Ab.T
open Go Go.Ab Go.Ab.F
theorem qgI (n : Nd) (hk : n.ks.length < 1000) (hv : n.vs.length < 1000) (hc : n.kids.length < 1000) {β : Type} (h : Heap) (kp k : A → Heap → Option β) :
 oLend qbm [.cptr (nodeC n)] h kp k = k (.ptr h.length 0 0 0) (h ++ ownB h.length n 1 1 1) := qdf kp k (by simp) (clone_v n hk hv hc) (gb_own1 h n 1 1 1)
theorem put_leaf_v {ks : List Int} {vs : List Extent} (hs : ks.Pairwise (· < ·)) (hl : ks.length ≤ 7) (hv : vs.length = ks.length) (x : Int) (e : Extent) (self : CallFn) :
 PutV (qaQ self) [.cptr (nodeC (.mk ks vs [])), .s (.int .u64 x), .agg (extentC e)] (putN x e 0 (.mk ks vs [])) := by
 have hC := fun (h : Heap) (kp k : A → Heap → Option (Out × Heap)) => qgI (.mk ks vs []) (by simp only [Nd.ks_mk]; omega) (by simp only [Nd.vs_mk]; omega) (by simp) h kp k
 have hL := fun (h : Heap) (kp k : A → Heap → Option (Out × Heap)) => qdQ (.mk ks vs []) h kp k
 have hS := fun (h : Heap) (kp k : A → Heap → Option (Out × Heap)) => qfG ks x hs (by omega) h kp k
 simp only [Nd.kids_mk, decide_true] at hL
 have hp := pos_le ks x
 by_cases hf : ks[pos ks x]? = some x
 · have hput : putN x e 0 (.mk ks vs []) = (.mk ks (vs.set (pos ks x) e) [], 0, none) := by simp [putN, hf]
   rw [hput]
   refine ⟨rfl, 1, 1, 1, ?_⟩
   have hpl : pos ks x < ks.length := (List.getElem?_eq_some_iff.1 hf).1
   have hpv : (vs.map extentC)[pos ks x]? = some (extentC (vs[pos ks x]'(by omega))) := by simp [hv, hpl]
   have hd : decide (ks[pos ks x]? = some x) = true := by simp [hf]
   rw [hd] at hS
   have hb : (vs.map extentC).set (pos ks x) (extentC e) = (vs.set (pos ks x) e).map extentC := by rw [List.map_set]
   have hfin := qh2 (H := [.live ⟨0, 2, [extentC e]⟩, .live ⟨0, 3, [[.osl 2 1 1 0 ks.length, .osl 3 1 2 0 ks.length, .osl 4 1 1 0 0]]⟩, .live ⟨1, 1, ks.map (cellC .u64)⟩, .live ⟨1, 2, (vs.set (pos ks x) e).map extentC⟩, .live ⟨1, 1, []⟩]) (r := 1) (k := 2) (v := 3) (c := 4) (n := .mk ks (vs.set (pos ks x) e) []) (kv := 1) (vv := 1) (cv := 1)
    ⟨by simp [hv], rfl, rfl, rfl, by omega, by omega, by omega, by omega, by omega, by omega⟩
   simp [qaQ, hC, hL, hS, qbS, ownB, oLoadD, hv, hpl, hpv, ext_put]
   rw [hb]
   exact hfin
 · have hput : putN x e 0 (.mk ks vs []) = splitN (.mk (ks.insertIdx (pos ks x) x) (vs.insertIdx (pos ks x) e) []) := by simp [putN, hf]
   rw [hput]
   have hd : decide (ks[pos ks x]? = some x) = false := by simp [hf]
   rw [hd] at hS
   have hkl : (ks.insertIdx (pos ks x) x).length = ks.length + 1 := List.length_insertIdx_of_le_length hp _
   have hvl : (vs.insertIdx (pos ks x) e).length = ks.length + 1 := by rw [List.length_insertIdx_of_le_length (by omega), hv]
   have hki : (ks.map (cellC .u64)).take (pos ks x) ++ cellC .u64 x :: (ks.map (cellC .u64)).drop (pos ks x) = (ks.insertIdx (pos ks x) x).map (cellC .u64) := by
    rw [ins_eq x ks _ hp]; simp
   have hvi : (vs.map extentC).take (pos ks x) ++ extentC e :: (vs.map extentC).drop (pos ks x) = (vs.insertIdx (pos ks x) e).map extentC := by
    rw [ins_eq e vs _ (by omega)]; simp
   have hw : wrL [.live ⟨0, 2, [extentC e]⟩, .live ⟨0, 3, [[.osl 2 1 1 0 ks.length, .osl 3 1 2 0 ks.length, .osl 4 1 1 0 0]]⟩, .live ⟨1, 1, ks.map (cellC .u64)⟩, .live ⟨1, 2, vs.map extentC⟩, .live ⟨1, 1, []⟩] [(.ptr 1 0 0 0, true)] = [2, 3, 4] := by
    simp [wrL, wrA, idTop]
   have hmain : qaQ self [.cptr (nodeC (.mk ks vs [])), .s (.int .u64 x), .agg (extentC e)] [] =
    oCall qan [.ptr 1 0 0 0] [.live ⟨0, 2, [extentC e]⟩, .live ⟨0, 3, [[.osl 2 2 1 0 (ks.length + 1), .osl 3 2 2 0 (ks.length + 1), .osl 4 1 1 0 0]]⟩, .live ⟨2, 1, (ks.insertIdx (pos ks x) x).map (cellC .u64)⟩, .live ⟨2, 2, (vs.insertIdx (pos ks x) e).map extentC⟩, .live ⟨1, 1, []⟩, .live ⟨0, 1, [[.s (.int .u64 x)]]⟩, .live ⟨0, 2, [extentC e]⟩]
    (fun v54 h55 => finish 0 (.pan v54) h55) fun x52 h53 =>
    qae 0 x52 fun x56 =>
    qae 1 x52 fun x57 =>
    qae 2 x52 fun x58 =>
    finish 0 (.ok (.tup [x56, x57, x58])) h53 := by
    simp [qaQ, hC, hL, hS, qbS, ownB, oLoadD, hv, hw, Go.Ab.place]
    rw [qez 1 8 (i := pos ks x) (rows := ks.map (cellC .u64)) (c := [.s (.int .u64 x)]) _ (by rfl) (by rfl) (by simp) (by simp) (by simp) (by omega) hp (by unfold qa4; omega) (ids_ks ks) (by simp)]
    simp
    rw [qez 2 16 (i := pos ks x) (rows := vs.map extentC) (c := extentC e) _ (by rfl) (by rfl) (by simp) (by simp) (by simp [hv]) (by omega) (by omega) (by unfold qa4; omega) (ids_vs vs) (by simp [extentC])]
    simp only [cellC] at hki
    rw [hki, hvi]
    simp [qa5]
   have hO : OwnAt [.live ⟨0, 2, [extentC e]⟩, .live ⟨0, 3, [[.osl 2 2 1 0 (ks.length + 1), .osl 3 2 2 0 (ks.length + 1), .osl 4 1 1 0 0]]⟩, .live ⟨2, 1, (ks.insertIdx (pos ks x) x).map (cellC .u64)⟩, .live ⟨2, 2, (vs.insertIdx (pos ks x) e).map extentC⟩, .live ⟨1, 1, []⟩, .live ⟨0, 1, [[.s (.int .u64 x)]]⟩, .live ⟨0, 2, [extentC e]⟩] 1 2 3 4 (.mk (ks.insertIdx (pos ks x) x) (vs.insertIdx (pos ks x) e) []) 2 2 1 :=
    ⟨by simp [hkl, hvl], rfl, rfl, rfl, by omega, by omega, by omega, by omega, by omega, by omega⟩
   generalize ks.insertIdx (pos ks x) x = ks2 at *
   generalize vs.insertIdx (pos ks x) e = vs2 at *
   rw [qe6]
   by_cases h7 : ks2.length ≤ 7
   · rw [if_pos h7]
     refine ⟨rfl, 2, 2, 1, ?_⟩
     rw [hmain, qhj hO (by simpa using h7)]
     have hfin := qh2 hO
     simpa using hfin
   · rw [if_neg h7, if_pos rfl]
     refine .inl ⟨rfl, rfl, ?_⟩
     rw [hmain, qjb hO (by omega) (by omega) (by omega)]
     simp only [qef, List.getElem?_cons_zero, List.getElem?_cons_succ]
     exact qme _ _ _ _
theorem trim0 (n0 : Nat) (vs : List A) (h : Heap) : ∃ H', Go.Ab.trim true n0 vs h = some (vs, H') ∧ ∀ (i : Nat), i < n0 → H'[i]? = h[i]? := by
 unfold Go.Ab.trim
 split
 · exact ⟨h.take n0, rfl, fun i hi => by rw [List.getElem?_take, if_pos hi]⟩
 · exact ⟨h, rfl, fun _ _ => rfl⟩
theorem OwnAt.same {H H' : Heap} {r k v c : Nat} {n : Nd} {kv vv cv : Nat} (h : OwnAt H r k v c n kv vv cv) (n0 : Nat) (hr : r < n0) (hk : k < n0) (hv : v < n0) (hc : c < n0) (e : ∀ (i : Nat), i < n0 → H'[i]? = H[i]?) : OwnAt H' r k v c n kv vv cv :=
 ⟨by rw [e r hr]; exact h.root, by rw [e k hk]; exact h.ks, by rw [e v hv]; exact h.vs, by rw [e c hc]; exact h.kids, h.d1, h.d2, h.d3, h.d4, h.d5, h.d6⟩
theorem put_end {H : Heap} {r k v c : Nat} {ks : List Int} {kids : List Nd} {kv vv cv : Nat} (h : OwnAt H r k v c (.mk ks [] kids) kv vv cv) (hl : ks.length < 100) (hk : kids.length = ks.length + 1) {F : CallFn} {args : List A} (hF : F args [] = qch (.ptr r 0 0 0) [] .normal [] H) :
 PutV F args (splitN (.mk ks [] kids)) := by
 have hkn : ¬ kids = [] := by rintro rfl; simp at hk
 rw [qe6]
 by_cases h7 : ks.length ≤ 7
 · rw [if_pos h7]
   refine ⟨rfl, kv, vv, cv, ?_⟩
   rw [hF]
   simp only [qch]
   rw [qhj h h7]
   have hfin := qh2 h
   simpa using hfin
 · rw [if_neg h7, if_neg hkn]
   refine .inr ⟨rfl, rfl, ?_⟩
   rw [hF]
   simp only [qch]
   rw [qiS h (by omega) hl hk]
   simp only [qef, List.getElem?_cons_zero, List.getElem?_cons_succ]
   exact qlb _ _ _ _
def putStep (ks : List Int) (kids : List Nd) (i : Nat) (r : Nd × Int × Option Nd) : Nd × Int × Option Nd := match r with
 | (n, _, none) => splitN (.mk ks [] (kids.set i n))
 | (n, b, some m) => splitN (.mk (ks.insertIdx i b) [] ((kids.set i n).insertIdx (i + 1) m))
theorem qmD {ks : List Int} {kids : List Nd} (hs : ks.Pairwise (· < ·)) (hl : ks.length ≤ 7) (hkl : kids.length = ks.length + 1) (x : Int) (e : Extent) {self : CallFn} {kid : Nd} (hk : kids[way ks x]? = some kid) {r : Nd × Int × Option Nd} (hself : PutV self [.cptr (nodeC kid), .s (.int .u64 x), .agg (extentC e)] r) :
 PutV (qaQ self) [.cptr (nodeC (.mk ks [] kids)), .s (.int .u64 x), .agg (extentC e)]
  (putStep ks kids (way ks x) r) := by
 have hkn : ¬ kids = [] := by rintro rfl; simp at hkl
 have hC := fun (h : Heap) (kp k : A → Heap → Option (Out × Heap)) => qgI (.mk ks [] kids) (by simp only [Nd.ks_mk]; omega) (by simp) (by simp only [Nd.kids_mk]; omega) h kp k
 have hL := fun (h : Heap) (kp k : A → Heap → Option (Out × Heap)) => qdQ (.mk ks [] kids) h kp k
 have hW := fun (h : Heap) (kp k : A → Heap → Option (Out × Heap)) => qn4 (.mk ks [] kids) x hs (by simp only [Nd.ks_mk]; omega) h kp k
 simp only [Nd.kids_mk, hkn, decide_false, Nd.ks_mk] at hL hW
 have hwl := way_le ks x
 have ik : ∀ (β : Type) (k : A → Option β), oIdxA 1 (mkF 1 (kids.map kidC)) (.s (.int .i64 (way ks x))) k = k (.cptr (kidC kid)) := fun β k => qbE 1 kidC kids .i64 _ _ k hk
 obtain ⟨d, hd, hP⟩ := qlJ hself (by simp) [.live ⟨0, 2, [extentC e]⟩, .live ⟨0, 3, [[.osl 2 1 1 0 ks.length, .osl 3 1 2 0 0, .osl 4 1 1 0 kids.length]]⟩, .live ⟨1, 1, ks.map (cellC .u64)⟩, .live ⟨1, 2, []⟩, .live ⟨1, 1, kids.map kidC⟩] 5 []
 have hset : (kids.map kidC).set (way ks x) (kidC r.1) = (kids.set (way ks x) r.1).map kidC := by rw [List.map_set]
 have hmain : ∃ H, OwnAt H 1 2 3 4 (.mk ks [] (kids.set (way ks x) r.1)) 1 1 1 ∧ 5 ≤ H.length ∧ qaQ self [.cptr (nodeC (.mk ks [] kids)), .s (.int .u64 x), .agg (extentC e)] [] =
  oJoin (oEqNil true (match r.2.2 with | none => .s (.pointer none) | some q => .cptr (nodeC q)) (.s (.pointer none)) fun x84 =>
  oCond x84 (qa0 (.ptr 1 0 0 0) fun x85 =>
  oFieldA 0 x85 fun x86 =>
  oLoadD H.length (wrL H [(.ptr 1 0 0 0, true)]) none x86 (H ++ List.replicate 2 .res) fun x87 h88 =>
  qah (some H.length) 1 (asRows none [.s (.int .u64 r.2.1)]) h88 fun x89 h90 =>
  oCallW H.length (wrL H [(.ptr 1 0 0 0, true)]) (qaO 1 8) [x87, .s (.int .i64 (way ks x)), x89] h90 fun x91 h92 =>
  qa0 (.ptr 1 0 0 0) fun x93 =>
  oFieldA 2 x93 fun x94 =>
  oLoadD H.length (wrL H [(.ptr 1 0 0 0, true)]) none x94 h92 fun x95 h96 =>
  oAr .add (.s (.int .i64 (way ks x))) (.s (.int .i64 1)) fun x97 =>
  qah (some (H.length + 1)) 1 (asRows none [match r.2.2 with | none => .s (.pointer none) | some q => .cptr (nodeC q)]) h96 fun x98 h99 =>
  oCallW H.length (wrL H [(.ptr 1 0 0 0, true)]) (qaO 1 8) [x95, x97, x98] h99 fun x100 h101 =>
  qa0 (.ptr 1 0 0 0) fun x102 =>
  oFieldA 0 x102 fun x103 =>
  oStore none x103 x91 h101 fun h104 =>
  qa0 (.ptr 1 0 0 0) fun x105 =>
  oFieldA 2 x105 fun x106 =>
  oStore none x106 x100 h104 fun h107 =>
  (Go.Ab.trim true H.length [] h107).map fun p => (Ex.normal, p.1, p.2))
  ((Go.Ab.trim true H.length [] H).map fun p => (Ex.normal, p.1, p.2))) (qch (.ptr 1 0 0 0) []) := by
  refine ⟨[.live ⟨0, 2, [extentC e]⟩, .live ⟨0, 3, [[.osl 2 1 1 0 ks.length, .osl 3 1 2 0 0, .osl 4 1 1 0 kids.length]]⟩, .live ⟨1, 1, ks.map (cellC .u64)⟩, .live ⟨1, 2, []⟩, .live ⟨1, 1, (kids.set (way ks x) r.1).map kidC⟩] ++ d, ⟨by simp, by simp, by simp, by simp, by omega, by omega, by omega, by omega, by omega, by omega⟩, by simp, ?_⟩
  have hwk : way ks x < kids.length := by omega
  have hik : (kids.map kidC)[way ks x]? = some (kidC kid) := by simp [hk]
  have hE : (extentC e).isEmpty = false := rfl
  have q0 : (0 : Int) ≤ (way ks x : Int) ∧ (way ks x : Int) < (kids.length : Int) := by omega
  simp only [qaQ, oNew_agg, qmR, if_true, hE, Bool.false_eq_true, if_false, place_none, hC, hL, oCond_s, hW, List.nil_append, List.length_nil, ownB, Nd.ks_mk, Nd.vs_mk, Nd.kids_mk, List.map_nil, List.length_cons, Nat.zero_add, Nat.reduceAdd, List.cons_append]
  simp only [qde, qee, oLoadD, qeJ, qc9, qdo, Nd.kids_mk, ik, List.getElem?_cons_zero, qgd, List.not_mem_nil, not_false_eq_true, and_true, Nat.reduceLT, if_true, qkr, List.length_cons, List.length_nil, Nat.zero_add, Nat.reduceAdd]
  rw [hP]
  have st : ∀ {β : Type} (K : Heap → Option β), (qa0 (.ptr 1 0 0 0) fun x79 => oFieldA 2 x79 fun x80 => oLoad none x80 ([.live ⟨0, 2, [extentC e]⟩, .live ⟨0, 3, [[.osl 2 1 1 0 ks.length, .osl 3 1 2 0 0, .osl 4 1 1 0 kids.length]]⟩, .live ⟨1, 1, ks.map (cellC .u64)⟩, .live ⟨1, 2, []⟩, .live ⟨1, 1, kids.map kidC⟩] ++ d) fun x81 =>
   oIdxA 1 x81 (.s (.int .i64 (way ks x))) fun x82 => oStore none x82 (.cptr (nodeC r.1)) ([.live ⟨0, 2, [extentC e]⟩, .live ⟨0, 3, [[.osl 2 1 1 0 ks.length, .osl 3 1 2 0 0, .osl 4 1 1 0 kids.length]]⟩, .live ⟨1, 1, ks.map (cellC .u64)⟩, .live ⟨1, 2, []⟩, .live ⟨1, 1, kids.map kidC⟩] ++ d) K) =
   K ([.live ⟨0, 2, [extentC e]⟩, .live ⟨0, 3, [[.osl 2 1 1 0 ks.length, .osl 3 1 2 0 0, .osl 4 1 1 0 kids.length]]⟩, .live ⟨1, 1, ks.map (cellC .u64)⟩, .live ⟨1, 2, []⟩, .live ⟨1, 1, (kids.set (way ks x) r.1).map kidC⟩] ++ d) := by
   intro β K
   have hik2 : kids[way ks x]? = some kid := hk
   simp [q0.2, hwk, hik2]
  simp only [putEnc, qef, List.getElem?_cons_zero, List.getElem?_cons_succ]
  rw [st]
  rfl
 clear hP hd hC hL hW ik
 obtain ⟨H, hO, hH, hm⟩ := hmain
 obtain ⟨n1, b, m⟩ := r
 have hkl2 : (kids.set (way ks x) n1).length = ks.length + 1 := by simp [hkl]
 cases m with
 | none =>
   simp only [putStep]
   have ht : Go.Ab.trim true H.length [] H = some ([], H) := by
    unfold Go.Ab.trim; rw [List.take_length]; split <;> rfl
   refine put_end hO (by omega) hkl2 ?_
   rw [hm]
   simp [ht]
 | some m =>
   simp only [putStep] at hm hO ⊢
   generalize kids.set (way ks x) n1 = kids2 at *
   generalize way ks x = i at *
   have hw : wrL H [(.ptr 1 0 0 0, true)] = [2, 3, 4] := by
    simp [wrL, wrA, idTop, List.getD_eq_getElem?_getD, hO.root]
   have q1 : IntKind.i64.wrap ((i : Int) + 1) = ((i + 1 : Nat) : Int) := by rw [qad (by omega) (by omega)]; simp
   have hki : (ks.map (cellC .u64)).take i ++ cellC .u64 b :: (ks.map (cellC .u64)).drop i = (ks.insertIdx i b).map (cellC .u64) := by
    rw [ins_eq b ks _ hwl]; simp
   have hvi : (kids2.map kidC).take (i + 1) ++ kidC m :: (kids2.map kidC).drop (i + 1) = (kids2.insertIdx (i + 1) m).map kidC := by
    rw [ins_eq m kids2 _ (by omega)]; simp
   have hkl3 : (ks.insertIdx i b).length = ks.length + 1 := List.length_insertIdx_of_le_length hwl _
   have hkl4 : (kids2.insertIdx (i + 1) m).length = ks.length + 2 := by rw [List.length_insertIdx_of_le_length (by omega), hkl2]
   have e0 : H ++ List.replicate 2 Go.Ab.Slot.res = H ++ [.res, .res] := rfl
   have r1 : (H ++ [.res, .res] : Heap)[1]? = some (.live ⟨0, 3, [[.osl 2 1 1 0 ks.length, .osl 3 1 2 0 0, .osl 4 1 1 0 kids2.length]]⟩) := qfF hO.root _
   let H2 : Heap := H ++ [.live ⟨0, 1, [[.s (.int .u64 b)]]⟩, .res]
   let H3 : Heap := H.set 2 (.live ⟨2, 1, (ks.insertIdx i b).map (cellC .u64)⟩) ++ [.live ⟨0, 1, [[.s (.int .u64 b)]]⟩, .live ⟨0, 1, [kidC m]⟩]
   let H4 : Heap := ((H3.set 4 (.live ⟨2, 1, (kids2.insertIdx (i + 1) m).map kidC⟩)).set 1 (.live ⟨0, 3, [[.osl 2 2 1 0 (ks.length + 1), .osl 3 1 2 0 0, .osl 4 1 1 0 kids2.length]]⟩)).set 1 (.live ⟨0, 3, [[.osl 2 2 1 0 (ks.length + 1), .osl 3 1 2 0 0, .osl 4 2 1 0 (kids2.length + 1)]]⟩)
   have w1 : ∀ {β : Type} (k : A → Heap → Option β), oCallW H.length [2, 3, 4] (qaO 1 8) [.osl 2 1 1 0 ks.length, .s (.int .i64 i), .osl H.length 0 1 0 1] H2 k = k (.osl 2 2 1 0 (ks.length + 1)) (H.set 2 (.live ⟨2, 1, (ks.insertIdx i b).map (cellC .u64)⟩) ++ [.live ⟨0, 1, [[.s (.int .u64 b)]]⟩, .res]) := by
    intro β k
    rw [qez 1 8 (i := i) (rows := ks.map (cellC .u64)) (c := cellC .u64 b) _ (qfF hO.ks _) (by simp [H2, cellC]) (by simp) (by simp) (by simp) (by omega) hwl (by unfold qa4; omega) (ids_ks ks) (by simp [cellC]), hki, qll hO.ks]
   have hl4 := qaE hO.kids
   have hl2 := qaE hO.ks
   have k4 : (H.set 2 (.live ⟨2, 1, (ks.insertIdx i b).map (cellC .u64)⟩))[4]? = some (.live ⟨1, 1, kids2.map kidC⟩) := by rw [List.getElem?_set_ne (by omega)]; exact hO.kids
   have w2 : ∀ {β : Type} (k : A → Heap → Option β), oCallW H.length [2, 3, 4] (qaO 1 8) [.osl 4 1 1 0 kids2.length, .s (.int .i64 ((i + 1 : Nat) : Int)), .osl (H.length + 1) 0 1 0 1] H3 k = k (.osl 4 2 1 0 (kids2.length + 1)) (H3.set 4 (.live ⟨2, 1, (kids2.insertIdx (i + 1) m).map kidC⟩)) := by
    intro β k
    rw [qez 1 8 (i := i + 1) (rows := kids2.map kidC) (c := kidC m) _ (qfF k4 _) (by simp [H3, List.getElem?_append_right]) (by simp) (by simp) (by simp) (by omega) (by omega) (by unfold qa4; omega) (qaZ kids2) (by simp), hvi]
   have hO4 : OwnAt H4 1 2 3 4 (.mk (ks.insertIdx i b) [] (kids2.insertIdx (i + 1) m)) 2 1 2 := by
    have h3l : H3.length = H.length + 2 := by simp [H3]
    refine ⟨?_, ?_, ?_, ?_, by omega, by omega, by omega, by omega, by omega, by omega⟩
    · rw [List.getElem?_set_self (by simp [h3l])]; simp [hkl3, hkl4, hkl2]
    · rw [List.getElem?_set_ne (by omega), List.getElem?_set_ne (by omega), List.getElem?_set_ne (by omega), List.getElem?_append_left (by simp; omega), List.getElem?_set_self (by omega)]
      rfl
    · rw [List.getElem?_set_ne (by omega), List.getElem?_set_ne (by omega), List.getElem?_set_ne (by omega), List.getElem?_append_left (by simp; omega), List.getElem?_set_ne (by omega)]
      exact hO.vs
    · rw [List.getElem?_set_ne (by omega), List.getElem?_set_ne (by omega), List.getElem?_set_self (by omega)]
      rfl
   obtain ⟨H5, t1, t2⟩ := trim0 H.length [] H4
   have hO5 := hO4.same (H' := H5) H.length (by omega) (by omega) (by omega) (by omega) t2
   refine put_end hO5 (by omega) (by omega) ?_
   have l1 : 1 < H.length ∧ 1 ∉ [2, 3, 4] := ⟨by omega, by simp⟩
   have g0 : (H ++ [.res, .res] : Heap)[H.length]? = some .res := by simp
   have s0 : (H ++ [.res, .res] : Heap).set H.length (.live ⟨0, 1, [[.s (.int .u64 b)]]⟩) = H ++ [.live ⟨0, 1, [[.s (.int .u64 b)]]⟩, .res] := by simp
   have gA : ∀ (X : Heap) (a : Go.Ab.Slot), X.length = H.length → (X ++ [a, .res] : Heap)[H.length + 1]? = some .res := fun X a hX => by rw [← hX]; simp
   have sA : ∀ (X : Heap) (a y : Go.Ab.Slot), X.length = H.length → (X ++ [a, .res] : Heap).set (H.length + 1) y = X ++ [a, y] := fun X a y hX => by rw [← hX, List.set_append_right _ _ (by omega)]; simp
   have hXl : (H.set 2 (.live ⟨2, 1, (ks.insertIdx i b).map (cellC .u64)⟩)).length = H.length := by simp
   have r2 : ∀ l : Heap, (H.set 2 (.live ⟨2, 1, (ks.insertIdx i b).map (cellC .u64)⟩) ++ l)[1]? = some (.live ⟨0, 3, [[.osl 2 1 1 0 ks.length, .osl 3 1 2 0 0, .osl 4 1 1 0 kids2.length]]⟩) := fun l => by
    refine qfF ?_ _
    rw [List.getElem?_set_ne (by omega)]; exact hO.root
   have r3 : (H3.set 4 (.live ⟨2, 1, (kids2.insertIdx (i + 1) m).map kidC⟩))[1]? = some (.live ⟨0, 3, [[.osl 2 1 1 0 ks.length, .osl 3 1 2 0 0, .osl 4 1 1 0 kids2.length]]⟩) := by
    rw [List.getElem?_set_ne (by omega)]; exact r2 _
   have h3l : 1 < H3.length := by simp [H3]
   rw [hm, hw, e0]
   simp only [H2] at w1
   simp only [oEqNil_cn, show (false != true) = true from rfl, oCond_s, if_true, qfA, qgX, Nat.zero_add, oLoadD, l1, not_false_eq_true, and_self, qgd, r1, List.getElem?_cons_zero, List.getElem?_cons_succ, qc9, qiA, qn2, asRows_nil, qiJ, isCell_s, qmN, Option.bind_some, Option.map_some,
    Nat.one_ne_zero, if_false, Go.Ab.place, g0, s0, List.length_cons, List.length_nil, w1, r2, oAr_s, qjS, q1, gA _ _ hXl, sA _ _ _ hXl]
   rw [w2]
   simp only [oStore_ptr, r3, if_true, List.getElem?_cons_zero, qiJ, isCell_osl, List.length_cons, List.length_nil, Nat.zero_add, Nat.reduceLeDiff, List.set_cons_zero]
   have p1 : qa5 [A.osl 2 1 1 0 ks.length, .osl 3 1 2 0 0, .osl 4 1 1 0 kids2.length] 0 [.osl 2 2 1 0 (ks.length + 1)] = [.osl 2 2 1 0 (ks.length + 1), .osl 3 1 2 0 0, .osl 4 1 1 0 kids2.length] := rfl
   have p2 : qa5 [A.osl 2 2 1 0 (ks.length + 1), .osl 3 1 2 0 0, .osl 4 1 1 0 kids2.length] 2 [.osl 4 2 1 0 (kids2.length + 1)] = [.osl 2 2 1 0 (ks.length + 1), .osl 3 1 2 0 0, .osl 4 2 1 0 (kids2.length + 1)] := rfl
   have r4 : ∀ y : Go.Ab.Slot, ((H3.set 4 (.live ⟨2, 1, (kids2.insertIdx (i + 1) m).map kidC⟩)).set 1 y)[1]? = some y := fun y => List.getElem?_set_self (by simpa using h3l)
   simp only [H4] at t1
   simp only [p1, r4, if_true, List.getElem?_cons_zero, List.length_cons, List.length_nil, Nat.zero_add, Nat.reduceLeDiff, Nat.reduceAdd, List.set_cons_zero, p2, t1, Option.map_some, qgx]
end Go.Ab.T
namespace Go.Ab.T
open Go Go.Ab Go.Ab.F
theorem qbO {P : Option Int → Option Int → Nd → Prop} : ∀ {lo : Option Int} {ks : List Int} {kids : List Nd} {hi : Option Int}, chain P lo ks kids hi → ∀ n ∈ kids, ∃ lo' hi', P lo' hi' n
 | lo, [], [n], hi, h, m, hm => by simp at hm; subst hm; exact ⟨_, _, h⟩
 | lo, k :: ks, n :: ns, hi, h, m, hm => by
   rcases List.mem_cons.1 hm with rfl | hm
   · exact ⟨_, _, h.1⟩
   · exact qbO h.2.2.2 m hm
 | _, [], [], _, h, _, _ => h.elim
 | _, [], _ :: _ :: _, _, h, _, _ => h.elim
 | _, _ :: _, [], _, h, _, _ => h.elim
theorem put_v (x : Int) (e : Extent) : ∀ (h : Nat) (lo hi : Option Int) (n : Nd), okN h lo hi n → n.ks.length ≤ 7 → ∀ fuel, h < fuel → PutV (qdD fuel) [.cptr (nodeC n), .s (.int .u64 x), .agg (extentC e)] (putN x e h n)
 | 0, lo, hi, .mk ks vs kids, hn, hl, fuel, hf => by
   obtain ⟨f, rfl⟩ : ∃ f, fuel = f + 1 := ⟨fuel - 1, by omega⟩
   obtain ⟨rfl, e2, e3, e4⟩ := hn
   exact put_leaf_v e3 hl e2 x e _
 | h + 1, lo, hi, .mk ks vs kids, hn, hl, fuel, hf => by
   obtain ⟨f, rfl⟩ : ∃ f, fuel = f + 1 := ⟨fuel - 1, by omega⟩
   have hs : ks.Pairwise (· < ·) := (qj3 hn).1
   obtain ⟨rfl, c1, c2⟩ := hn
   have hkl := qbb c1
   have hwl := way_le ks x
   have hk : kids[way ks x]? = some (kids[way ks x]'(by omega)) := List.getElem?_eq_getElem _
   generalize kids[way ks x]'(by omega) = kid at hk
   have hm := List.mem_of_getElem? hk
   obtain ⟨lo', hi', hok⟩ := qbO c1 kid hm
   have ih := put_v x e h lo' hi' kid hok (c2 kid hm).2 f (by omega)
   have hgd : kids.getD (way ks x) (.mk [] [] []) = kid := by simp [List.getD_eq_getElem?_getD, hk]
   have := qmD hs hl hkl x e hk ih
   unfold putN
   rw [hgd]
   simp only [putStep] at this
   exact this
structure TreeI (h : Nat) (root : Nd) : Prop where
 ok : okN h none none root
 few : root.ks.length ≤ 7
 ne : 0 < h → root.ks ≠ []
 low : h < 2 ^ 62
def putRoot (r : Nd × Int × Option Nd) : Nd := match r with
 | (n, _, none) => n
 | (n, b, some m) => .mk [b] [] [n, m]
theorem big_lt : (2 : Nat) ^ 62 < big := by rw [big_eq]; decide
theorem Put_v {h : Nat} {root : Nd} (hT : TreeI h root) (len x : Int) (e : Extent) (hlen : -9223372036854775808 ≤ len ∧ len < 9223372036854775807) (H : Heap) : ∃ d, flatD d ∧ ∀ {β : Type} (kp k : A → Heap → Option β),
 (oLend qaW [.cptr (treeC root len), .s (.int .u64 x), .agg (extentC e)] H kp fun w h' => oFrz w h' k) = k (.cptr (treeC (putRoot (putN x e h root)) (if (getP x (flat root)).isSome then len else len + 1))) (H ++ d) := by
 have hG := fun (H : Heap) (kp k : A → Heap → Option (Ex × List A × Heap)) => qln hT.ok hT.low hT.few len x H kp k
 have hE : (extentC e).isEmpty = false := rfl
 obtain ⟨d, hd, hP⟩ := qlJ (put_v x e h none none root hT.ok hT.few big (by have := big_lt; have := hT.low; omega)) (by simp) [.live ⟨0, 2, [extentC e]⟩] 1 []
 have hw : IntKind.i64.wrap (len + 1) = len + 1 := qad (by omega) (by omega)
 have q : ∃ v : Int, v = (if (getP x (flat root)).isSome then len else len + 1) := ⟨_, rfl⟩
 obtain ⟨v, hv⟩ := q
 rw [← hv]
 have f1 : qaW [.cptr (treeC root len), .s (.int .u64 x), .agg (extentC e)] [] = qdj (.cptr (treeC root len)) (.ptr 0 0 0 0) (.s (.int .u64 x)) [] .normal [.s (.int .i64 v)] [.live ⟨0, 2, [extentC e]⟩] := by
  have hz : ([.s (.int .i64 0), .s (.int .i64 0)] : List A) = extentC ⟨0, 0⟩ := rfl
  cases hg : (getP x (flat root)).isSome with
  | true =>
    rw [hg] at hv
    simp at hv
    subst hv
    simp [qaW, treeC, hE]
    simp only [treeC] at hG
    rw [hG]
    simp [hg, hz, trim, qa2]
  | false =>
    rw [hg] at hv
    simp at hv
    subst hv
    simp [qaW, treeC, hE]
    simp only [treeC] at hG
    rw [hG]
    simp [hg, hz, trim, qa2, hw]
 generalize putN x e h root = r at hP
 obtain ⟨n1, b, m⟩ := r
 have f3 : qdj (.cptr (treeC root len)) (.ptr 0 0 0 0) (.s (.int .u64 x)) [] .normal [.s (.int .i64 v)] [.live ⟨0, 2, [extentC e]⟩] =
  oJoin (oEqNil true (moreA m) (.s (.pointer none)) fun x35 =>
  oCond x35 (qah none 1 (asRows none [.s (.int .u64 b)]) ([.live ⟨0, 2, [extentC e]⟩] ++ d) fun x36 h37 =>
  qah none 1 (asRows none [.cptr (nodeC n1), moreA m]) h37 fun x38 h39 =>
  oBuildP [.s (.slice none 0 0), .s (.slice none 0 0), .s (.slice none 0 0)] [(0, none, x36), (2, none, x38)] fun x40 =>
  oNew none (some 3) x40 h39 fun x41 h42 =>
  (Go.Ab.trim true (d.length + 1) [x41] h42).map fun p => (Ex.normal, p.1, p.2))
  ((Go.Ab.trim true (d.length + 1) [.cptr (nodeC n1)] ([.live ⟨0, 2, [extentC e]⟩] ++ d)).map fun p => (Ex.normal, p.1, p.2))) (qdk [.s (.int .i64 v)] []) := by
  have l1 : ([.live ⟨0, 2, [extentC e]⟩] ++ d : Heap).length = d.length + 1 := by simp
  have t0 : (treeC root len).drop 0 = treeC root len := rfl
  have t1 : (treeC root len)[0]? = some (.cptr (nodeC root)) := rfl
  simp only [qdj, qde, qee, oLoadD, qeJ, qc9, t0, t1, List.length_cons, List.length_nil, Nat.zero_add, Nat.zero_lt_one, List.not_mem_nil, not_false_eq_true, and_self, if_true, qgd, List.getElem?_cons_zero, qkr]
  rw [hP]
  simp only [putEnc, qef, List.getElem?_cons_zero, List.getElem?_cons_succ, l1]
 have hfl : flatD ([.live ⟨0, 2, [extentC e]⟩] ++ d) := by
  intro s hs
  rcases List.mem_append.1 hs with h | h
  · simp at h; subst h; simp [extentC]
  · exact hd s h
 have hGl : ([.live ⟨0, 2, [extentC e]⟩] ++ d : Heap).length = d.length + 1 := by simp
 generalize ([.live ⟨0, 2, [extentC e]⟩] ++ d : Heap) = G at f3 hfl hGl
 rw [f3] at f1
 rw [← hGl] at f1
 clear f3 hP
 have hts : ∀ vs : List A, Go.Ab.trim true G.length vs G = some (vs, G) := fun vs => by
  unfold Go.Ab.trim; rw [List.take_length]; split <;> rfl
 cases m with
 | none =>
   have f2 : qaW [.cptr (treeC root len), .s (.int .u64 x), .agg (extentC e)] [] = some (.ok (.ptr 0 0 0 0), [.live ⟨0, 2, [treeC n1 v]⟩]) := by
    rw [f1]
    have hr : Go.Ab.reach (G ++ [.live ⟨0, 2, [treeC n1 v]⟩]) qa3 [] [G.length] = [G.length] := by
     rw [show qa3 = 99990 + 10 from rfl]
     simp [Go.Ab.reach, treeC]
    have hfin : finish 0 (.ok (.ptr G.length 0 0 0)) (G ++ [.live ⟨0, 2, [treeC n1 v]⟩]) = some (.ok (.ptr 0 0 0 0), [.live ⟨0, 2, [treeC n1 v]⟩]) := by
     simp [finish, hr]
     simp [idx, treeC, List.idxOf?_cons]
    simp [moreA, hts, qdk, qa5]
    simpa [treeC] using hfin
   refine ⟨[.dead], by simp [flatD], fun {β} kp k => ?_⟩
   have hg : qaa [] H (.ok (.ptr 0 0 0 0)) [.live ⟨0, 2, [treeC n1 v]⟩] = some (.ok (.ptr H.length 0 0 0), H ++ [.live ⟨0, 2, [treeC n1 v]⟩]) := by
    simp [qaa, backIdx, treeC, setAll]
   rw [qdf _ _ (by simp) f2 hg]
   have hz : FzA 10 (.ptr H.length 0 0 0) (H ++ [.live ⟨0, 2, [treeC n1 v]⟩]) (.cptr (treeC n1 v)) (H ++ [.dead]) := by
    have := fz_ptr (n := 9) (id := H.length) (ver := 0) (sz := 2) (row := treeC n1 v) (H := H ++ [.live ⟨0, 2, [treeC n1 v]⟩]) (row' := treeC n1 v) (H' := H ++ [.dead]) (by simp) (by
     simp only [set_end]
     exact qaJ (n := 7) rfl ((fz_flat _ rfl).le (by omega)) (qaJ (n := 6) rfl ((fz_flat _ rfl).le (by omega)) ((fzl_nil _).le (by omega))))
    exact this
   exact fz_oFrz hz (by omega) (by simp) k
 | some m =>
   have f2 : qaW [.cptr (treeC root len), .s (.int .u64 x), .agg (extentC e)] [] = some (.ok (.ptr 0 0 0 0), [.live ⟨0, 2, [[.ptr 1 0 0 0, .s (.int .i64 v)]]⟩, .live ⟨0, 3, [[.osl 2 0 1 0 1, .s (.slice none 0 0), .osl 3 0 1 0 2]]⟩, .live ⟨0, 1, [b].map (cellC .u64)⟩, .live ⟨0, 1, [n1, m].map kidC⟩]) := by
    rw [f1]
    simp [moreA, qa5]
    have ht : ∀ X : Heap, Go.Ab.trim true G.length [.ptr (G.length + 1 + 1) 0 0 0] X = some ([.ptr (G.length + 1 + 1) 0 0 0], X) := fun X => by
     unfold Go.Ab.trim
     rw [if_neg]
     simp [qa2]
     intro h; omega
    rw [ht]
    simp [qdk, qa5]
    have g0 := at_b G [.live ⟨0, 1, [[.s (.int .u64 b)]]⟩, .live ⟨0, 1, [kidC n1, kidC m]⟩, .live ⟨0, 3, [[.osl G.length 0 1 0 1, .s (.slice none 0 0), .osl (G.length + 1) 0 1 0 2]]⟩, .live ⟨0, 2, [[.ptr (G.length + 1 + 1) 0 0 0, .s (.int .i64 v)]]⟩] 0
    have g1 := at_b G [.live ⟨0, 1, [[.s (.int .u64 b)]]⟩, .live ⟨0, 1, [kidC n1, kidC m]⟩, .live ⟨0, 3, [[.osl G.length 0 1 0 1, .s (.slice none 0 0), .osl (G.length + 1) 0 1 0 2]]⟩, .live ⟨0, 2, [[.ptr (G.length + 1 + 1) 0 0 0, .s (.int .i64 v)]]⟩] 1
    have g2 := at_b G [.live ⟨0, 1, [[.s (.int .u64 b)]]⟩, .live ⟨0, 1, [kidC n1, kidC m]⟩, .live ⟨0, 3, [[.osl G.length 0 1 0 1, .s (.slice none 0 0), .osl (G.length + 1) 0 1 0 2]]⟩, .live ⟨0, 2, [[.ptr (G.length + 1 + 1) 0 0 0, .s (.int .i64 v)]]⟩] 2
    have g3 := at_b G [.live ⟨0, 1, [[.s (.int .u64 b)]]⟩, .live ⟨0, 1, [kidC n1, kidC m]⟩, .live ⟨0, 3, [[.osl G.length 0 1 0 1, .s (.slice none 0 0), .osl (G.length + 1) 0 1 0 2]]⟩, .live ⟨0, 2, [[.ptr (G.length + 1 + 1) 0 0 0, .s (.int .i64 v)]]⟩] 3
    rw [Nat.add_zero] at g0
    generalize hX : (G ++ [.live ⟨0, 1, [[.s (.int .u64 b)]]⟩, .live ⟨0, 1, [kidC n1, kidC m]⟩, .live ⟨0, 3, [[.osl G.length 0 1 0 1, .s (.slice none 0 0), .osl (G.length + 1) 0 1 0 2]]⟩, .live ⟨0, 2, [[.ptr (G.length + 1 + 1) 0 0 0, .s (.int .i64 v)]]⟩] : Heap) = X at *
    clear hts hGl ht f1 hX
    generalize G.length = B at *
    simp at g0 g1 g2 g3
    have hr : Go.Ab.reach X qa3 [] [B + 1 + 1 + 1] = [B + 3, B + 2, B, B + 1] := by
     rw [show qa3 = 99980 + 20 from rfl]
     simp [Go.Ab.reach, List.getD_eq_getElem?_getD, g0, g1, g2, g3]
     omega
    simp [finish, hr]
    simp [List.getD_eq_getElem?_getD, g0, g1, g2, g3, idx, List.idxOf?_cons, cellC]
   have hg : qaa [] H (.ok (.ptr 0 0 0 0)) [.live ⟨0, 2, [[.ptr 1 0 0 0, .s (.int .i64 v)]]⟩, .live ⟨0, 3, [[.osl 2 0 1 0 1, .s (.slice none 0 0), .osl 3 0 1 0 2]]⟩, .live ⟨0, 1, [b].map (cellC .u64)⟩, .live ⟨0, 1, [n1, m].map kidC⟩] = some (.ok (.ptr H.length 0 0 0), H ++ [.live ⟨0, 2, [[.ptr (H.length + 1) 0 0 0, .s (.int .i64 v)]]⟩, .live ⟨0, 3, [[.osl (H.length + 2) 0 1 0 1, .s (.slice none 0 0), .osl (H.length + 3) 0 1 0 2]]⟩, .live ⟨0, 1, [b].map (cellC .u64)⟩, .live ⟨0, 1, [n1, m].map kidC⟩]) := by
    simp [qaa, backIdx, setAll, cellC]
   refine ⟨[.dead, .dead, .dead, .dead], by simp [flatD], fun {β} kp k => ?_⟩
   rw [qdf _ _ (by simp) f2 hg]
   have q0 := at_b H [.live ⟨0, 2, [[.ptr (H.length + 1) 0 0 0, .s (.int .i64 v)]]⟩, .live ⟨0, 3, [[.osl (H.length + 2) 0 1 0 1, .s (.slice none 0 0), .osl (H.length + 3) 0 1 0 2]]⟩, .live ⟨0, 1, [b].map (cellC .u64)⟩, .live ⟨0, 1, [n1, m].map kidC⟩] 0
   have q1 := at_b H [.live ⟨0, 2, [[.ptr (H.length + 1) 0 0 0, .s (.int .i64 v)]]⟩, .live ⟨0, 3, [[.osl (H.length + 2) 0 1 0 1, .s (.slice none 0 0), .osl (H.length + 3) 0 1 0 2]]⟩, .live ⟨0, 1, [b].map (cellC .u64)⟩, .live ⟨0, 1, [n1, m].map kidC⟩] 1
   have q2 := at_b H [.live ⟨0, 2, [[.ptr (H.length + 1) 0 0 0, .s (.int .i64 v)]]⟩, .live ⟨0, 3, [[.osl (H.length + 2) 0 1 0 1, .s (.slice none 0 0), .osl (H.length + 3) 0 1 0 2]]⟩, .live ⟨0, 1, [b].map (cellC .u64)⟩, .live ⟨0, 1, [n1, m].map kidC⟩] 2
   have q3 := at_b H [.live ⟨0, 2, [[.ptr (H.length + 1) 0 0 0, .s (.int .i64 v)]]⟩, .live ⟨0, 3, [[.osl (H.length + 2) 0 1 0 1, .s (.slice none 0 0), .osl (H.length + 3) 0 1 0 2]]⟩, .live ⟨0, 1, [b].map (cellC .u64)⟩, .live ⟨0, 1, [n1, m].map kidC⟩] 3
   rw [Nat.add_zero] at q0
   have hs4 := dead4' H (.live ⟨0, 2, [[.ptr (H.length + 1) 0 0 0, .s (.int .i64 v)]]⟩) (.live ⟨0, 3, [[.osl (H.length + 2) 0 1 0 1, .s (.slice none 0 0), .osl (H.length + 3) 0 1 0 2]]⟩) (.live ⟨0, 1, [b].map (cellC .u64)⟩) (.live ⟨0, 1, [n1, m].map kidC⟩)
   generalize (H ++ [.live ⟨0, 2, [[.ptr (H.length + 1) 0 0 0, .s (.int .i64 v)]]⟩, .live ⟨0, 3, [[.osl (H.length + 2) 0 1 0 1, .s (.slice none 0 0), .osl (H.length + 3) 0 1 0 2]]⟩, .live ⟨0, 1, [b].map (cellC .u64)⟩, .live ⟨0, 1, [n1, m].map kidC⟩] : Heap) = X at *
   have hn := qhX (id := H.length + 1) (v := 0) (kid := H.length + 2) (kv := 0) (cid := H.length + 3) (cv := 0) (ks := [b]) (kids := [n1, m]) (H := X.set H.length .dead)
    (by rw [List.getElem?_set_ne (by omega)]; exact q1.trans rfl) (by rw [List.getElem?_set_ne (by omega)]; exact q2.trans rfl) (by rw [List.getElem?_set_ne (by omega)]; exact q3.trans rfl) rfl rfl (by omega) (by omega) (by omega)
   have hz : FzA 20 (.ptr H.length 0 0 0) X (.cptr (treeC (.mk [b] [] [n1, m]) v)) (H ++ [.dead, .dead, .dead, .dead]) := by
    refine fz_ptr (n := 19) (q0.trans rfl) ?_
    rw [hs4] at hn
    exact qaJ (n := 17) rfl (hn.le (by omega)) (qaJ (n := 16) rfl ((fz_flat _ rfl).le (by omega)) ((fzl_nil _).le (by omega)))
   exact fz_oFrz hz (by omega) (by simp) k
theorem qk9 {h : Nat} {root : Nd} (hT : TreeI h root) (hb : h + 1 < 2 ^ 62) (x : Int) (e : Extent) : ∃ h', h' ≤ h + 1 ∧ TreeI h' (putRoot (putN x e h root)) ∧ flat (putRoot (putN x e h root)) = insP x e (flat root) := by
 obtain ⟨h1, h2⟩ := put_ok (x := x) (a := e) hT.ok hT.few (by simp) (by simp)
 generalize putN x e h root = r at h1 h2
 obtain ⟨n1, b, m⟩ := r
 cases m with
 | none =>
   obtain ⟨i1, i2⟩ := h1
   obtain ⟨j1, j2⟩ := h2 rfl
   refine ⟨h, by omega, ⟨i1, j2, fun h0 => ?_, hT.low⟩, i2⟩
   have := List.length_pos_iff.2 (hT.ne h0)
   intro hc
   simp only [putRoot] at hc
   simp only [hc, List.length_nil] at j1
   omega
 | some m =>
   obtain ⟨i1, i2, i3, i4, i5, i6, i7⟩ := h1
   refine ⟨h + 1, by omega, ⟨⟨rfl, ⟨i1, i3, i4, i2⟩, ?_⟩, by simp [putRoot], by simp [putRoot], hb⟩, ?_⟩
   · intro n hn
     simp at hn
     rcases hn with rfl | rfl
     · exact i6
     · exact i7
   · simp only [putRoot, flat, flats, List.zip_nil_right, List.nil_append, List.append_nil]
     exact i5
end Go.Ab.T
namespace Go.Ab.T
open Go Go.Ab Go.Ab.F
def gConcat (sz by_ : Nat) : CallFn := fun args objs =>
match args with
| [a0] =>
oLen a0 fun x1 =>
 oLoop (fun s2 =>
 oCmp .lss (s2.1.getD 1 .any) x1 fun x3 =>
 oCond x3 (oJoin (oIdxA 1 a0 (s2.1.getD 1 .any) fun x4 =>
 oLoad none x4 s2.2 fun x5 =>
 oLen x5 fun x6 =>
 oAr .add (s2.1.getD 0 .any) x6 fun x7 =>
 oCmp .lss x7 (.s (.int .i64 0)) fun x8 =>
 oCond x8 (none)
 ((trim true s2.2.length [x7] s2.2).map fun p => (Ex.normal, p.1, p.2))) fun e11 vs9 h10 =>
 (match e11 with
 | .normal => oAr .add (s2.1.getD 1 .any) (.s (.int .i64 1)) fun x14 =>
  (trim true objs.length [(vs9.getD 0 .any), x14] h10).map .inl
 | .exit i12 => (trim true objs.length [(vs9.getD 0 .any)] h10).map fun p => .inr (Ex.exit i12, p.1, p.2)
 | .ret => (trim true objs.length [(vs9.getD 0 .any)] h10).map fun p => .inr (Ex.ret, p.1, p.2)
 | .panic v13 => some (.inr (Ex.panic v13, [.any], h10))))
  ((trim true objs.length [(s2.1.getD 0 .any)] s2.2).map fun p => .inr (Ex.exit 0, p.1, p.2))) ([(.s (.int .i64 0)), (.s (.int .i64 0))], objs) fun e15 vs16 h17 =>
  (match e15 with
 | .normal => none
 | .exit i18 => if i18 = 0 then oCall (qbW sz by_) [(.s (.slice none 0 0)), (vs16.getD 0 .any)] h17 (fun v22 h23 => finish objs.length (.pan v22) h23) fun x20 h21 =>
  oLen a0 fun x24 =>
  oLoop (fun s25 =>
  oCmp .lss (s25.1.getD 1 .any) x24 fun x26 =>
  oCond x26 (oIdxA 1 a0 (s25.1.getD 1 .any) fun x27 =>
  oLoad none x27 s25.2 fun x28 =>
  oAppend none sz by_ (s25.1.getD 0 .any) x28 s25.2 fun x29 h30 =>
  oAr .add (s25.1.getD 1 .any) (.s (.int .i64 1)) fun x31 =>
  (trim true h21.length [x29, x31] h30).map .inl)
  ((trim true h21.length [(s25.1.getD 0 .any)] s25.2).map fun p => .inr (Ex.exit 2, p.1, p.2))) ([x20, (.s (.int .i64 0))], h21) fun e32 vs33 h34 =>
  (match e32 with
 | .normal => none
 | .exit i35 => if i35 = 2 then finish objs.length (.ok (vs33.getD 0 .any)) h34 else none
 | .ret => finish objs.length (.ok (.s (.slice none 0 0))) h34
 | .panic v36 => finish objs.length (.pan v36) h34) else none
 | .ret => finish objs.length (.ok (.s (.slice none 0 0))) h17
 | .panic v19 => finish objs.length (.pan v19) h17)
| _ => none
theorem concatK_eq : qam = gConcat 1 8 := rfl
theorem concatV_eq : qal = gConcat 2 16 := rfl
theorem qm7 {α : Type} (enc : α → List A) (sz by_ : Nat) (hz : sz ≠ 0) (hby : by_ ≤ 16) (henc : ∀ x, idsL (enc x) = []) (xs ys : List α) (hx : xs.length < 100) (hy : ys.length < 100) :
 ∃ ver, gConcat sz by_ [mkF 1 [[mkF sz (xs.map enc)], [mkF sz (ys.map enc)]]] [] = some (.ok (.osl 0 ver sz 0 (xs.length + ys.length)), [.live ⟨ver, sz, (xs ++ ys).map enc⟩]) := by
 have i0 : ∀ (β : Type) (k : A → Option β), oIdxA 1 (mkF 1 [[mkF sz (xs.map enc)], [mkF sz (ys.map enc)]]) (.s (.int .i64 0)) k = k (.cptr [mkF sz (xs.map enc)]) := fun β k => rfl
 have i1 : ∀ (β : Type) (k : A → Option β), oIdxA 1 (mkF 1 [[mkF sz (xs.map enc)], [mkF sz (ys.map enc)]]) (.s (.int .i64 1)) k = k (.cptr [mkF sz (ys.map enc)]) := fun β k => rfl
 have w0 : IntKind.i64.wrap (xs.length : Int) = (xs.length : Int) := qad (by omega) (by omega)
 have w1 : IntKind.i64.wrap ((xs.length : Int) + (ys.length : Int)) = (xs.length : Int) + (ys.length : Int) := qad (by omega) (by omega)
 have w2 : IntKind.i64.wrap 1 = 1 := by decide
 have w3 : IntKind.i64.wrap 2 = 2 := by decide
 have n0 : ¬ (xs.length : Int) < 0 := by omega
 have n1 : ¬ (xs.length : Int) + (ys.length : Int) < 0 := by omega
 have a1 : qa4 xs.length by_ := by
  unfold qa4
  have : (2 * xs.length + 192) * by_ ≤ 1000 * 16 := Nat.mul_le_mul (by omega) hby
  omega
 have a2 : qa4 (xs.length + ys.length) by_ := by
  unfold qa4
  have : (2 * (xs.length + ys.length) + 192) * by_ ≤ 1000 * 16 := Nat.mul_le_mul (by omega) hby
  omega
 simp only [gConcat, qnd]
 obtain ⟨q, rfl, hq⟩ := qb6 (step := fun s2 =>
  oCmp .lss (s2.1.getD 1 .any) (.s (.int .i64 (2 : Nat))) fun x3 =>
  oCond x3 (oJoin (oIdxA 1 (mkF 1 [[mkF sz (xs.map enc)], [mkF sz (ys.map enc)]]) (s2.1.getD 1 .any) fun x4 =>
  oLoad none x4 s2.2 fun x5 =>
  oLen x5 fun x6 =>
  oAr .add (s2.1.getD 0 .any) x6 fun x7 =>
  oCmp .lss x7 (.s (.int .i64 0)) fun x8 =>
  oCond x8 (none)
  ((trim true s2.2.length [x7] s2.2).map fun p => (Ex.normal, p.1, p.2))) fun e11 vs9 h10 =>
  (match e11 with
 | .normal => oAr .add (s2.1.getD 1 .any) (.s (.int .i64 1)) fun x14 =>
  (trim true 0 [(vs9.getD 0 .any), x14] h10).map .inl
 | .exit i12 => (trim true 0 [(vs9.getD 0 .any)] h10).map fun p => .inr (Ex.exit i12, p.1, p.2)
 | .ret => (trim true 0 [(vs9.getD 0 .any)] h10).map fun p => .inr (Ex.ret, p.1, p.2)
 | .panic v13 => some (.inr (Ex.panic v13, [.any], h10))))
  ((trim true 0 [(s2.1.getD 0 .any)] s2.2).map fun p => .inr (Ex.exit 0, p.1, p.2))) (s0 := ([.s (.int .i64 0), .s (.int .i64 0)], []))
   (fun i s => (i = 0 → s = ([.s (.int .i64 0), .s (.int .i64 0)], [])) ∧ (i = 1 → s = ([.s (.int .i64 xs.length), .s (.int .i64 1)], [])) ∧ (i = 2 → s = ([.s (.int .i64 ((xs.length : Int) + (ys.length : Int))), .s (.int .i64 2)], [])))
   (fun q => q = (Ex.exit 0, [.s (.int .i64 ((xs.length : Int) + (ys.length : Int)))], [])) 2 ⟨fun _ => rfl, by simp, by simp⟩ (by omega)
   (by
    rintro i s hi ⟨h0, h1, -⟩
    left
    match i, hi with
    | 0, _ =>
      rw [h0 rfl]
      exact ⟨([.s (.int .i64 xs.length), .s (.int .i64 1)], []), by simp [i0, w0, n0, trim, qa2, w2], by simp, by simp, by simp⟩
    | 1, _ =>
      rw [h1 rfl]
      exact ⟨([.s (.int .i64 ((xs.length : Int) + (ys.length : Int))), .s (.int .i64 2)], []), by simp [i1, w1, n1, trim, qa2, w3], by simp, by simp, by simp⟩)
   (by
    rintro s ⟨-, -, h2⟩
    rw [h2 rfl]
    exact ⟨_, by simp [trim, qa2], rfl⟩)
 have hids : ∀ l : List α, idsRows (l.map enc) = [] := fun l => qdZ enc henc l
 have run : ∀ (x20 : A) (h21 : Heap) (v : Nat), (x20 = .s (.slice none 0 0) ∧ h21 = [] ∧ v = 0) ∨ (x20 = .osl 0 0 sz 0 0 ∧ h21 = [.live ⟨0, sz, []⟩] ∧ v = 1) →
  ∀ {β : Type} (k : Ex → List A → Heap → Option β), oLoop (fun s25 =>
  oCmp .lss (s25.1.getD 1 .any) (.s (.int .i64 (2 : Nat))) fun x26 =>
  oCond x26 (oIdxA 1 (mkF 1 [[mkF sz (xs.map enc)], [mkF sz (ys.map enc)]]) (s25.1.getD 1 .any) fun x27 =>
  oLoad none x27 s25.2 fun x28 =>
  oAppend none sz by_ (s25.1.getD 0 .any) x28 s25.2 fun x29 h30 =>
  oAr .add (s25.1.getD 1 .any) (.s (.int .i64 1)) fun x31 =>
  (trim true h21.length [x29, x31] h30).map .inl)
  ((trim true h21.length [(s25.1.getD 0 .any)] s25.2).map fun p => .inr (Ex.exit 2, p.1, p.2))) ([x20, (.s (.int .i64 0))], h21) k = k (Ex.exit 2) [.osl 0 (v + 1) sz 0 (xs.length + ys.length)] [.live ⟨v + 1, sz, (xs ++ ys).map enc⟩] := by
  intro x20 h21 v hx20 β k
  have tr : ∀ (vs : List A) (ver : Nat) (l : List α), idsL vs = [0] → trim true h21.length vs [.live ⟨ver, sz, l.map enc⟩] = some (vs, [.live ⟨ver, sz, l.map enc⟩]) := by
   intro vs ver l hvs
   rcases hx20 with ⟨-, rfl, -⟩ | ⟨-, rfl, -⟩
   · unfold trim; rw [if_neg (by simp [qa2, hvs])]
   · unfold trim; split <;> rfl
  obtain ⟨q, rfl, hq⟩ := qb6 (step := fun s25 =>
   oCmp .lss (s25.1.getD 1 .any) (.s (.int .i64 (2 : Nat))) fun x26 =>
   oCond x26 (oIdxA 1 (mkF 1 [[mkF sz (xs.map enc)], [mkF sz (ys.map enc)]]) (s25.1.getD 1 .any) fun x27 =>
   oLoad none x27 s25.2 fun x28 =>
   oAppend none sz by_ (s25.1.getD 0 .any) x28 s25.2 fun x29 h30 =>
   oAr .add (s25.1.getD 1 .any) (.s (.int .i64 1)) fun x31 =>
   (trim true h21.length [x29, x31] h30).map .inl)
   ((trim true h21.length [(s25.1.getD 0 .any)] s25.2).map fun p => .inr (Ex.exit 2, p.1, p.2))) (s0 := ([x20, .s (.int .i64 0)], h21))
   (fun i s => (i = 0 → s = ([x20, .s (.int .i64 0)], h21)) ∧ (i = 1 → s = ([.osl 0 v sz 0 xs.length, .s (.int .i64 1)], [.live ⟨v, sz, xs.map enc⟩])) ∧ (i = 2 → s = ([.osl 0 (v + 1) sz 0 (xs.length + ys.length), .s (.int .i64 2)], [.live ⟨v + 1, sz, (xs ++ ys).map enc⟩])))
   (fun q => q = (Ex.exit 2, [.osl 0 (v + 1) sz 0 (xs.length + ys.length)], [.live ⟨v + 1, sz, (xs ++ ys).map enc⟩])) 2 ⟨fun _ => rfl, by simp, by simp⟩ (by omega)
   (by
    rintro i s hi ⟨h0, h1, -⟩
    left
    match i, hi with
    | 0, _ =>
      rw [h0 rfl]
      refine ⟨([.osl 0 v sz 0 xs.length, .s (.int .i64 1)], [.live ⟨v, sz, xs.map enc⟩]), ?_, by simp, by simp, by simp⟩
      have t := tr [.osl 0 v sz 0 xs.length, .s (.int .i64 1)] v xs (by simp)
      rcases hx20 with ⟨rfl, rfl, rfl⟩ | ⟨rfl, rfl, rfl⟩
      · simp [i0, qeQ, a1, hz, w2]
        simpa using t
      · simp [i0, qb1, a1, w2]
        simpa using t
    | 1, _ =>
      rw [h1 rfl]
      refine ⟨([.osl 0 (v + 1) sz 0 (xs.length + ys.length), .s (.int .i64 2)], [.live ⟨v + 1, sz, (xs ++ ys).map enc⟩]), ?_, by simp, by simp, by simp⟩
      have t := tr [.osl 0 (v + 1) sz 0 (xs.length + ys.length), .s (.int .i64 2)] (v + 1) (xs ++ ys) (by simp)
      simp [i1, qb1, a2, w3, List.take_of_length_le]
      simpa using t)
   (by
    rintro s ⟨-, -, h2⟩
    rw [h2 rfl]
    have t := tr [.osl 0 (v + 1) sz 0 (xs.length + ys.length)] (v + 1) (xs ++ ys) (by simp)
    refine ⟨_, ?_, rfl⟩
    simp
    simpa using t)
  exact hq k
 have fin : ∀ v, finish 0 (.ok (.osl 0 v sz 0 (xs.length + ys.length))) [.live ⟨v, sz, (xs ++ ys).map enc⟩] = some (.ok (.osl 0 v sz 0 (xs.length + ys.length)), [.live ⟨v, sz, (xs ++ ys).map enc⟩]) := fun v =>
  qgF 0 v sz _ _ _ rfl (hids _) fun f => qb9 f _ (hids _)
 by_cases ht : xs.length + ys.length = 0
 · refine ⟨1, (hq _).trans ?_⟩
   have hg : ∀ {β : Type} (kp k : A → Heap → Option β), oCall (qbW sz by_) [.s (.slice none 0 0), .s (.int .i64 ((xs.length : Int) + (ys.length : Int)))] [] kp k = k (.s (.slice none 0 0)) [] := by
    intro β kp k
    have e : (xs.length : Int) + (ys.length : Int) = 0 := by omega
    rw [e]
    refine oCall_val _ _ _ _ _ _ (by simp) (by simp) ?_
    have a0 : qa4 0 by_ := by have := a2; rwa [ht] at this
    simp [qbW, a0, Nat.pos_of_ne_zero hz]
   simp only [if_true, List.getD_cons_zero, hg]
   refine (run _ _ 0 (.inl ⟨rfl, rfl, rfl⟩) _).trans ?_
   simp only [if_true, List.getD_cons_zero]
   exact fin 1
 · refine ⟨2, (hq _).trans ?_⟩
   have hg : ∀ {β : Type} (kp k : A → Heap → Option β), oCall (qbW sz by_) [.s (.slice none 0 0), .s (.int .i64 ((xs.length : Int) + (ys.length : Int)))] [] kp k = k (.osl 0 0 sz 0 0) [.live ⟨0, sz, []⟩] := by
    intro β kp k
    have e : ((xs.length : Int) + (ys.length : Int)).toNat = xs.length + ys.length := by omega
    have e2 : ¬ ((xs.length : Int) + (ys.length : Int) = 0) := by omega
    have e3 : (0 : Int) ≤ (xs.length : Int) + (ys.length : Int) := by omega
    have e4 : qbW sz by_ [.s (.slice none 0 0), .s (.int .i64 ((xs.length : Int) + (ys.length : Int)))] [] = some (.ok (.osl 0 0 sz 0 0), [.live ⟨0, sz, []⟩]) := by
     simp only [qbW, e, e2, e3, a2, Nat.pos_of_ne_zero hz, and_self, if_true, if_false, List.length_nil, List.nil_append]
    unfold oCall borrow
    simp [e4, qaa, backIdx, setAll]
   simp only [if_true, List.getD_cons_zero, hg]
   refine (run _ _ 1 (.inr ⟨rfl, rfl, rfl⟩) _).trans ?_
   simp only [if_true, List.getD_cons_zero]
   exact fin 2
end Go.Ab.T
namespace Go.Ab.T
open Go Go.Ab Go.Ab.F
def qe2 (x17 a0 a1 : A) (objs h101 : Heap) : Option (Out × Heap) :=
 qa0 x17 fun x102 =>
 oFieldA 0 x102 fun x103 =>
 oLoad none x103 h101 fun x104 =>
 oLen x104 fun x105 =>
 oCmp .leq x105 (.s (.int .i64 7)) fun x106 =>
 oCond x106 (qa0 a0 fun x107 =>
 oFieldA 0 x107 fun x108 =>
 oLoadD h101.length (wrL h101 [(a0, true)]) none x108 h101 fun x109 h110 =>
 oAr .add a1 (.s (.int .i64 1)) fun x111 =>
 oCallW h101.length (wrL h101 [(a0, true)]) (qaT 1 8) [x109, a1, x111] h110 fun x112 h113 =>
 qa0 a0 fun x114 =>
 oFieldA 2 x114 fun x115 =>
 oLoadD h101.length (wrL h101 [(a0, true)]) none x115 h113 fun x116 h117 =>
 oAr .add a1 (.s (.int .i64 1)) fun x118 =>
 oAr .add a1 (.s (.int .i64 2)) fun x119 =>
 oCallW h101.length (wrL h101 [(a0, true)]) (qaT 1 8) [x116, x118, x119] h117 fun x120 h121 =>
 qa0 a0 fun x122 =>
 oFieldA 0 x122 fun x123 =>
 oStore none x123 x112 h121 fun h124 =>
 qa0 a0 fun x125 =>
 oFieldA 2 x125 fun x126 =>
 oStore none x126 x120 h124 fun h127 =>
 qa0 a0 fun x128 =>
 oFieldA 2 x128 fun x129 =>
 oLoad none x129 h127 fun x130 =>
 oIdxA 1 x130 a1 fun x131 =>
 oStore none x131 x17 h127 fun h132 =>
 finish objs.length (.ok (.s (.tuple #[]))) h132)
 (qa0 a0 fun x133 =>
 oFieldA 2 x133 fun x134 =>
 oLoadD h101.length [] none x134 h101 fun x135 h136 =>
 qa0 a0 fun x137 =>
 oFieldA 0 x137 fun x138 =>
 oLoadD h101.length [] none x138 h136 fun x139 h140 =>
 qa0 a0 fun x141 =>
 oFieldA 2 x141 fun x142 =>
 oLoadD h101.length [] none x142 h140 fun x143 h144 =>
 oAr .add a1 (.s (.int .i64 1)) fun x145 =>
 oCallK h101.length [] qan [x17] h144 fun x146 h147 =>
 qae 0 x146 fun x148 =>
 qae 1 x146 fun x149 =>
 qae 2 x146 fun x150 =>
 oIdxA 1 x135 a1 fun x151 =>
 oStore none x151 x148 h147 fun h152 =>
 oIdxA 1 x139 a1 fun x153 =>
 oStore none x153 x149 h152 fun h154 =>
 oIdxA 1 x143 x145 fun x155 =>
 oStore none x155 x150 h154 fun h156 =>
 finish objs.length (.ok (.s (.tuple #[]))) h156)
theorem qkh (x17 x14 x6 a0 a1 : A) (objs h55 : Heap) (vs : List A) : qff x17 x14 x6 a0 a1 objs .normal vs h55 =
 (qa0 x17 fun x59 =>
 oFieldA 0 x59 fun x60 =>
 oLoadD h55.length (wrL h55 [(x17, true)]) none x60 (h55 ++ List.replicate 1 .res) fun x61 h62 =>
 qa0 x14 fun x63 =>
 oFieldA 0 x63 fun x64 =>
 oLoadD h55.length (wrL h55 [(x17, true)]) none x64 h62 fun x65 h66 =>
 qb2 h55.length (wrL h55 [(x17, true)]) h55.length 1 8 x61 x65 h66 fun x67 h68 =>
 qa0 x17 fun x69 =>
 oFieldA 0 x69 fun x70 =>
 oStore none x70 x67 h68 fun h71 =>
 qa0 x6 fun x72 =>
 oFieldA 1 x72 fun x73 =>
 oLoadD h71.length [] none x73 (h71 ++ List.replicate 1 .res) fun x74 h75 =>
 qa0 x14 fun x76 =>
 oFieldA 1 x76 fun x77 =>
 oLoadD h71.length [] none x77 h75 fun x78 h79 =>
 oNewFz h71.length 1 (asRows none [x74, x78]) h79 fun x80 h81 =>
 oCallF h71.length [] qal [x80] h81 fun x82 h83 =>
 qa0 x17 fun x84 =>
 oFieldA 1 x84 fun x85 =>
 oStore none x85 x82 h83 fun h86 =>
 qa0 x6 fun x87 =>
 oFieldA 2 x87 fun x88 =>
 oLoadD h86.length [] none x88 (h86 ++ List.replicate 1 .res) fun x89 h90 =>
 qa0 x14 fun x91 =>
 oFieldA 2 x91 fun x92 =>
 oLoadD h86.length [] none x92 h90 fun x93 h94 =>
 oNewFz h86.length 1 (asRows none [x89, x93]) h94 fun x95 h96 =>
 oCallF h86.length [] qam [x95] h96 fun x97 h98 =>
 qa0 x17 fun x99 =>
 oFieldA 2 x99 fun x100 =>
 oStore none x100 x97 h98 fun h101 =>
 qe2 x17 a0 a1 objs h101) := rfl
theorem qhJ {slot sz : Nat} {rows : List (List A)} {h : Heap} (hr : h[slot]? = some .res) (hp : qay rows = true) (hz : sz ≠ 0) {β : Type} (k : A → Heap → Option β) : oNewFz slot sz (some rows) h k = k (mkF sz rows) (h.set slot .dead) := by
 simp only [oNewFz, hp, if_true, qiA, if_neg hz, Go.Ab.place, hr]
 have hs := qaE hr
 rw [ql2 _ slot 0 sz rows.length rows _ (List.getElem?_set_self hs) rfl hp]
 simp
theorem qki {ks : List Int} {kids : List Nd} {kv vv cv j : Nat} {a b : Nd} {k : Int} (hks : ks.length ≤ 8) (hkl : kids.length = ks.length + 1) (ha : kids[j]? = some a) (hb : kids[j + 1]? = some b) (hk : ks[j]? = some k)
 (la : a.ks.length ≤ 8) (lb : b.ks.length ≤ 8) (lav : a.vs.length ≤ 8) (lbv : b.vs.length ≤ 8) (lac : a.kids.length ≤ 9) (lbc : b.kids.length ≤ 9) :
 ∃ v1 v2 v3, qb0 [.ptr 0 0 0 0, .s (.int .i64 j)] (ownN (.mk ks [] kids) 0 kv vv cv) =
   qe2 (.ptr 4 0 0 0) (.ptr 0 0 0 0) (.s (.int .i64 j)) (ownN (.mk ks [] kids) 0 kv vv cv)
    (ownN (.mk ks [] kids) 0 kv vv cv ++ [.live ⟨0, 3, [[.osl 5 v1 1 0 ((if a.kids = [] then a.ks else a.ks ++ [k]) ++ b.ks).length, .osl 8 v2 2 0 (a.vs.length + b.vs.length), .osl 10 v3 1 0 (a.kids.length + b.kids.length)]]⟩,
     .live ⟨v1, 1, ((if a.kids = [] then a.ks else a.ks ++ [k]) ++ b.ks).map (cellC .u64)⟩, .res, .dead, .live ⟨v2, 2, (a.vs ++ b.vs).map extentC⟩, .dead, .live ⟨v3, 1, (a.kids ++ b.kids).map kidC⟩]) := by
 obtain ⟨v2, hc2⟩ := qm7 extentC 2 16 (by decide) (by decide) (fun x => by simp [extentC]) a.vs b.vs (by omega) (by omega)
 obtain ⟨v3, hc3⟩ := qm7 kidC 1 8 (by decide) (by decide) (fun x => by simp) a.kids b.kids (by omega) (by omega)
 rw [← concatV_eq] at hc2
 rw [← concatK_eq] at hc3
 have c2 : ∀ (β : Type) (m : Nat) (h : Heap) (kk : A → Heap → Option β), oCallF m [] qal [mkF 1 [[mkF 2 (a.vs.map extentC)], [mkF 2 (b.vs.map extentC)]]] h kk = kk (.osl h.length v2 2 0 (a.vs.length + b.vs.length)) (h ++ [.live ⟨v2, 2, (a.vs ++ b.vs).map extentC⟩]) := fun β m h kk =>
  qbK _ _ _ _ _ _ v2 2 _ _ (by simp) (fun f => ren_vs f _) hc2
 have c3 : ∀ (β : Type) (m : Nat) (h : Heap) (kk : A → Heap → Option β), oCallF m [] qam [mkF 1 [[mkF 1 (a.kids.map kidC)], [mkF 1 (b.kids.map kidC)]]] h kk = kk (.osl h.length v3 1 0 (a.kids.length + b.kids.length)) (h ++ [.live ⟨v3, 1, (a.kids ++ b.kids).map kidC⟩]) := fun β m h kk =>
  qbK _ _ _ _ _ _ v3 1 _ _ (by simp) (fun f => qbj f _) hc3
 have c1 : ∀ (β : Type) (h : Heap) (kp kk : A → Heap → Option β), oLend (qa8 1 8) [mkF 1 (a.ks.map (cellC .u64))] h kp kk = kk (.osl h.length 1 1 0 a.ks.length) (h ++ [.live ⟨1, 1, a.ks.map (cellC .u64)⟩]) := fun β h kp kk => by
  have : qa4 a.ks.length 8 := by unfold qa4; omega
  exact qjF _ _ [mkF 1 (a.ks.map (cellC .u64))] _ _ _ 1 1 a.ks.length _ (by simp) (qco 999 _ _ (by simp)) (fun f => ren_ks f _) (by simp [qa8, this])
 have hL := fun (h : Heap) (kp kk : A → Heap → Option (Ex × List A × Heap)) => qdQ a h kp kk
 have hj : j < ks.length := (List.getElem?_eq_some_iff.1 hk).1
 have q1 : IntKind.i64.wrap ((j : Int) + 1) = ((j + 1 : Nat) : Int) := by rw [qad (by omega) (by omega)]; simp
 have r1 : (kids.map kidC)[j]? = some (kidC a) := by simp [ha]
 have r2 : (kids.map kidC)[j + 1]? = some (kidC b) := by simp [hb]
 have r3 : (ks.map (cellC .u64))[j]? = some [.s (.int .u64 k)] := by simp [hk, cellC]
 have z1 : (0 : Int) ≤ (j : Int) ∧ (j : Int) < (kids.length : Int) := by omega
 have z2 : (0 : Int) ≤ ((j + 1 : Nat) : Int) ∧ ((j + 1 : Nat) : Int) < (kids.length : Int) := by omega
 have z3 : (0 : Int) ≤ (j : Int) ∧ (j : Int) < (ks.length : Int) := by omega
 simp only [qb0, qfA, qgX, Nat.zero_add, oLoadD, ownN, Nd.ks_mk, Nd.vs_mk, Nd.kids_mk, List.length_cons, List.length_nil, Nat.reduceAdd, Nat.reduceLT, List.not_mem_nil, not_false_eq_true, and_self, if_true, qgd, List.getElem?_cons_zero, List.getElem?_cons_succ, qc9, qge, true_and, z1, z2, z3, Int.toNat_natCast, r1, r2, oAr_s, qjS, q1]
 have a1 : qa4 (a.ks.length + b.ks.length) 8 := by unfold qa4; omega
 have a2 : qa4 (a.ks.length + 1) 8 := by unfold qa4; omega
 have a3 : qa4 (a.ks.length + 1 + b.ks.length) 8 := by unfold qa4; omega
 by_cases hk0 : a.kids = []
 · refine ⟨2, v2, v3, ?_⟩
   have hd : decide (a.kids = []) = true := by simp [hk0]
   simp only [hd] at hL
   simp only [if_pos hk0]
   clear hk0 hd
   simp [qbS, c1, hL, trim, qa2, qa5]
   rw [qkh]
   simp [qbS, qeC, qdo, oLoadD, wrL, wrA, idTop, qb2, qb1, List.take_of_length_le, a1, qa5]
   rw [qhJ (by rfl) (by simp [qay]) (by decide)]
   simp [c2, qa5]
   rw [qhJ (by rfl) (by simp [qay]) (by decide)]
   simp [c3, qa5]
 · refine ⟨3, v2, v3, ?_⟩
   have hd : decide (a.kids = []) = false := by simp [hk0]
   simp only [hd] at hL
   simp only [if_neg hk0]
   clear hk0 hd
   have z3' : j < ks.length := hj
   have hk' : ks[j]? = some k := hk
   simp [qbS, c1, hL, trim, qa2, qa5, oLoadD, wrL, wrA, idTop, z3']
   have hk2 : ks[j] = k := by rw [List.getElem?_eq_getElem hj] at hk'; exact Option.some.inj hk'
   rw [qhJ (by rfl) (by simp [qay]) (by decide), hk2]
   simp [qb2, qb1, a2, List.take_of_length_le, qa5, ids_ks, qaZ]
   rw [if_pos]
   · rw [Option.map_some, qgx, qkh]
     simp [qbS, qeC, qdo, oLoadD, wrL, wrA, idTop, qb2, qb1, List.take_of_length_le, a3, qa5]
     rw [qhJ (by rfl) (by simp [qay]) (by decide)]
     simp [c2, qa5]
     rw [qhJ (by rfl) (by simp [qay]) (by decide)]
     simp [c3, qa5]
     rw [show a.ks.length + 1 + b.ks.length = a.ks.length + (b.ks.length + 1) by omega]
     rfl
   · simp [qas, ids_ks]
theorem qeA {β : Type} {n0 : Nat} {wr : List Nat} (sz by_ : Nat) {H : Heap} {id ver n i : Nat} {ii jj : Int} {rows : List (List A)} (k : A → Heap → Option β)
 (h1 : H[id]? = some (.live ⟨ver, sz, rows⟩)) (hid : n0 ≤ id ∨ id ∈ wr) (hn : n = rows.length) (hi : i < n) (hii : ii = (i : Int)) (hjj : jj = (i : Int) + 1) (p1 : idsRows rows = []) :
 oCallW n0 wr (qaT sz by_) [.osl id ver sz 0 n, .s (.int .i64 ii), .s (.int .i64 jj)] H k = k (.osl id (ver + 1) sz 0 (n - 1)) (H.set id (.live ⟨ver + 1, sz, rows.eraseIdx i⟩)) := by
 subst hn
 subst hii
 subst hjj
 have x1 : idx [id] id = some 0 := by simp [idx]
 have hok : okW n0 wr [id] H = true := by
  simp only [okW, nodupB, List.contains_nil, Bool.not_false, Bool.and_true, List.length_cons, List.length_nil, List.all_cons, List.all_nil, Bool.and_eq_true, Bool.or_eq_true, decide_eq_true_eq, List.getD_eq_getElem?_getD, h1, Option.getD_some, liveS, p1, List.isEmpty_nil]
  refine ⟨by simp, by simpa using hid⟩
 have hp : qaT sz by_ [.osl 0 ver sz 0 rows.length, .s (.int .i64 (i : Int)), .s (.int .i64 ((i : Int) + 1))] [.live ⟨ver, sz, rows⟩] =
  some (.ok (.osl 0 (ver + 1) sz 0 (rows.length - 1)), [.live ⟨ver + 1, sz, rows.eraseIdx i⟩]) := by
  have a3 : (((i : Int) + 1) - (i : Int)).toNat = 1 := by omega
  have a4 : (((i : Int) + 1)).toNat = i + 1 := by omega
  have a5 : (0 : Int) ≤ (i : Int) ∧ (i : Int) ≤ (i : Int) + 1 ∧ (i : Int) + 1 ≤ (rows.length : Int) := by omega
  simp only [qaT, List.getElem?_cons_zero, List.drop_zero, List.take_of_length_le (Nat.le_refl _), a3, a4, Int.toNat_natCast, List.set_cons_zero, true_and, Nat.zero_add, Nat.le_refl, a5, if_true]
  rw [List.eraseIdx_eq_take_drop_succ]
 have hfl : idsRows (rows.eraseIdx i) = [] := by
  have e := p1
  rw [← List.take_append_drop i rows, qas, List.append_eq_nil_iff] at e
  have e2 := e.2
  rw [List.eraseIdx_eq_take_drop_succ, qas, e.1, List.nil_append]
  rw [List.drop_eq_getElem_cons hi, qb7, List.append_eq_nil_iff] at e2
  exact e2.2
 have hids : idsL [.osl id ver sz 0 rows.length, .s (.int .i64 (i : Int)), .s (.int .i64 ((i : Int) + 1))] = [id] := by simp
 unfold oCallW
 rw [hids, if_pos hok]
 simp only [qg6, qiZ, qet, renA_s, x1, Option.map_some, Option.bind_some, List.map_cons, List.map_nil, List.getD_eq_getElem?_getD, h1, Option.getD_some, hp]
 simp [flatS, hfl, setAll]
theorem qgl {l : List (List A)} {i : Nat} {row : List A} (h : idsRows l = []) (hi : i < l.length) : idsRows (l.set i row) = idsL row := by
 rw [← List.take_append_drop i l, qas, List.append_eq_nil_iff] at h
 obtain ⟨h1, h2⟩ := h
 rw [List.drop_eq_getElem_cons hi, qb7, List.append_eq_nil_iff] at h2
 rw [List.set_eq_take_append_cons_drop, if_pos hi, qas, qb7, h1, h2.2]; simp
theorem qiw {f : Nat → Option Nat} {l : List (List A)} {i : Nat} {row row' : List A} (h : idsRows l = []) (hi : i < l.length) (hr : renL f row = some row') : renRows f (l.set i row) = some (l.set i row') := by
 rw [← List.take_append_drop i l, qas, List.append_eq_nil_iff] at h
 obtain ⟨h1, h2⟩ := h
 rw [List.drop_eq_getElem_cons hi, qb7, List.append_eq_nil_iff] at h2
 rw [List.set_eq_take_append_cons_drop, if_pos hi, List.set_eq_take_append_cons_drop, if_pos hi, qgN, qb9 _ _ h1, qdv, hr, qb9 _ _ h2.2]; rfl
theorem qdx {l : List (List A)} {i : Nat} {r1 r2 : List A} (h : idsRows l = []) (hi : i + 1 < l.length) : idsRows ((l.set i r1).set (i + 1) r2) = idsL r1 ++ idsL r2 := by
 rw [← List.take_append_drop i l, qas, List.append_eq_nil_iff] at h
 obtain ⟨h1, h2⟩ := h
 have e : (l.set i r1).set (i + 1) r2 = l.take i ++ r1 :: r2 :: l.drop (i + 2) := by
  apply List.ext_getElem?
  intro n
  rw [List.getElem?_set, List.getElem?_set, List.getElem?_append, List.length_take, Nat.min_eq_left (by omega)]
  by_cases h1 : n < i
  · rw [if_neg (by omega), if_neg (by omega), if_pos h1, List.getElem?_take, if_pos h1]
  · rw [if_neg h1]
    by_cases h2 : n = i
    · subst h2; simp; omega
    · by_cases h3 : n = i + 1
      · subst h3; simp; omega
      · rw [if_neg (by omega), if_neg (by omega), show n - i = (n - (i + 2)) + 1 + 1 by omega, List.getElem?_cons_succ, List.getElem?_cons_succ, List.getElem?_drop]
        congr 1; omega
 rw [List.drop_eq_getElem_cons (by omega), qb7, List.append_eq_nil_iff, List.drop_eq_getElem_cons hi, qb7, List.append_eq_nil_iff] at h2
 rw [e, qas, qb7, qb7, h1, h2.2.2]; simp
theorem qf4 {f : Nat → Option Nat} {l : List (List A)} {i : Nat} {r1 r2 r1' r2' : List A} (h : idsRows l = []) (hi : i + 1 < l.length) (hr1 : renL f r1 = some r1') (hr2 : renL f r2 = some r2') : renRows f ((l.set i r1).set (i + 1) r2) = some ((l.set i r1').set (i + 1) r2') := by
 have e : ∀ r1 r2 : List A, (l.set i r1).set (i + 1) r2 = l.take i ++ r1 :: r2 :: l.drop (i + 2) := by
  intro r1 r2
  apply List.ext_getElem?
  intro n
  rw [List.getElem?_set, List.getElem?_set, List.getElem?_append, List.length_take, Nat.min_eq_left (by omega)]
  by_cases h1 : n < i
  · rw [if_neg (by omega), if_neg (by omega), if_pos h1, List.getElem?_take, if_pos h1]
  · rw [if_neg h1]
    by_cases h2 : n = i
    · subst h2; simp; omega
    · by_cases h3 : n = i + 1
      · subst h3; simp; omega
      · rw [if_neg (by omega), if_neg (by omega), show n - i = (n - (i + 2)) + 1 + 1 by omega, List.getElem?_cons_succ, List.getElem?_cons_succ, List.getElem?_drop]
        congr 1; omega
 rw [← List.take_append_drop i l, qas, List.append_eq_nil_iff] at h
 obtain ⟨h1, h2⟩ := h
 rw [List.drop_eq_getElem_cons (by omega), qb7, List.append_eq_nil_iff, List.drop_eq_getElem_cons hi, qb7, List.append_eq_nil_iff] at h2
 rw [e, e, qgN, qb9 _ _ h1, qdv, hr1, qdv, hr2, qb9 _ _ h2.2.2]; rfl
theorem qhN {α β : Type} (f : α → β) : ∀ (l : List α) (i : Nat), (l.map f).eraseIdx i = (l.eraseIdx i).map f
 | [], _ => rfl
 | a :: l, 0 => rfl
 | a :: l, i + 1 => by simp [qhN f l i]
def h11 (n : Nd) (kv vv cv : Nat) (C : Nd) (v1 v2 v3 : Nat) : Heap := ownN n 0 kv vv cv ++ [.live ⟨0, 3, [[.osl 5 v1 1 0 C.ks.length, .osl 8 v2 2 0 C.vs.length, .osl 10 v3 1 0 C.kids.length]]⟩, .live ⟨v1, 1, C.ks.map (cellC .u64)⟩, .res, .dead, .live ⟨v2, 2, C.vs.map extentC⟩, .dead, .live ⟨v3, 1, C.kids.map kidC⟩]
def hOne (ks : List Int) (kids : List Nd) (kv vv cv : Nat) (C : Nd) (v1 v2 v3 j : Nat) (b : Nat) : Heap := [.live ⟨0, 3, [[.osl 1 kv 1 0 ks.length, .osl 2 vv 2 0 0, .osl 3 cv 1 0 kids.length]]⟩, .live ⟨kv, 1, ks.map (cellC .u64)⟩, .live ⟨vv, 2, []⟩, .live ⟨cv, 1, (kids.map kidC).set j [.ptr b 0 0 0]⟩]
theorem qne {ks : List Int} {kids : List Nd} {kv vv cv v1 v2 v3 j : Nat} {C : Nd} (hkl : kids.length = ks.length + 1) (hj : j < ks.length) (hks : ks.length ≤ 8) (hC : C.ks.length ≤ 7) :
 qe2 (.ptr 4 0 0 0) (.ptr 0 0 0 0) (.s (.int .i64 j)) (ownN (.mk ks [] kids) 0 kv vv cv) (h11 (.mk ks [] kids) kv vv cv C v1 v2 v3) =
  some (.ok (.s (.tuple #[])), hOne (ks.eraseIdx j) (kids.eraseIdx (j + 1)) (kv + 1) vv (cv + 1) C v1 v2 v3 j 4 ++ ownB 4 C v1 v2 v3) := by
 have c7 : (C.ks.length : Int) ≤ 7 := by omega
 have q1 : IntKind.i64.wrap ((j : Int) + 1) = ((j + 1 : Nat) : Int) := by rw [qad (by omega) (by omega)]; simp
 have q2 : IntKind.i64.wrap ((j : Int) + 2) = ((j + 1 + 1 : Nat) : Int) := by rw [qad (by omega) (by omega)]; omega
 simp [qe2, h11, ownN, c7, oLoadD, wrL, wrA, idTop, q1, q2]
 rw [qeA (i := j) 1 8 _ (by rfl) (by simp) (by simp) (by omega) rfl rfl (ids_ks _)]
 simp
 rw [qeA (i := j + 1) 1 8 _ (by rfl) (by simp) (by simp) (by omega) (by simp) (by omega) (qaZ _)]
 have hlk : (kids.eraseIdx (j + 1)).length = kids.length - 1 := by rw [List.length_eraseIdx]; split <;> omega
 have hlk2 : (ks.eraseIdx j).length = ks.length - 1 := by rw [List.length_eraseIdx]; split <;> omega
 have hgj : j < (kids.eraseIdx (j + 1)).length := by omega
 have hr : ((kids.eraseIdx (j + 1)).map kidC)[j]? = some (kidC (kids.eraseIdx (j + 1))[j]) := by simp [hgj]
 have hl : j < kids.length - 1 := by omega
 have em1 := qhN kidC kids (j + 1)
 have em2 := qhN (cellC .u64) ks j
 simp only [em1, em2, qa5]
 simp [qge, oStore, hj, hl]
 rw [← List.getElem?_map, hr, ← hlk, ← hlk2]
 simp
 generalize kids.eraseIdx (j + 1) = kd at *
 generalize ks.eraseIdx j = kk at *
 have i1 := qaZ kd
 have i2 : idsRows ((kd.map kidC).set j [.ptr 4 0 0 0]) = [4] := by rw [qgl i1 (by simpa using hgj)]; simp
 have i3 : ∀ f, f 4 = some 4 → renRows f ((kd.map kidC).set j [.ptr 4 0 0 0]) = some ((kd.map kidC).set j [.ptr 4 0 0 0]) := fun f hf =>
  qiw i1 (by simpa using hgj) (by simp [hf])
 simp only [hOne, ownB]
 generalize (kd.map kidC).set j [.ptr 4 0 0 0] = rows at *
 have hre : reach [.live ⟨0, 3, [[.osl 1 (kv + 1) 1 0 kk.length, .osl 2 vv 2 0 0, .osl 3 (cv + 1) 1 0 kd.length]]⟩, .live ⟨kv + 1, 1, kk.map (cellC .u64)⟩, .live ⟨vv, 2, []⟩, .live ⟨cv + 1, 1, rows⟩,
  .live ⟨0, 3, [[.osl 5 v1 1 0 C.ks.length, .osl 8 v2 2 0 C.vs.length, .osl 10 v3 1 0 C.kids.length]]⟩, .live ⟨v1, 1, C.ks.map (cellC .u64)⟩, .res, .dead, .live ⟨v2, 2, C.vs.map extentC⟩, .dead, .live ⟨v3, 1, C.kids.map kidC⟩] qa3 [0, 1, 2, 3] [1, 2, 3, 4] = [0, 1, 2, 3, 4, 5, 8, 10] := by
  rw [show qa3 = 99980 + 20 from rfl]
  simp [reach, ids_ks, ids_vs, qaZ]
 unfold finish
 have hr4 : List.range 4 = [0, 1, 2, 3] := rfl
 simp [hr4, i2, ids_ks, hre]
 simp [idx, List.idxOf?_cons, ren_ks, ren_vs, qbj, i3]
theorem sw_own (n : Nd) (kv vv cv : Nat) : sameWH (ownN n 0 kv vv cv) (ownN n 0 kv vv cv) = true := by
 simp [ownN, sameWH, sameWS, sameWR, sameWL, sameW, sw_ks, sw_vs, sw_kids]
theorem qmv {H : Heap} {r k v c n0 : Nat} {ks : List Int} {vs : List Extent} {kv vv cv : Nat} (h : OwnAt H r k v c (.mk ks vs []) kv vv cv) (hn : n0 = H.length) (hl : 7 < ks.length) (hl2 : ks.length < 100) (hv : vs.length = ks.length) {β : Type} (kk : A → Heap → Option β) :
 oCallK n0 [] qan [.ptr r 0 0 0] H kk = kk (.tup [.ptr H.length 0 0 0, .s (.int .u64 (ks.getD (ks.length / 2) 0)), .ptr (H.length + 3) 0 0 0])
  (H ++ twoLeaf H.length (.mk (ks.take (ks.length / 2)) (vs.take (ks.length / 2)) []) (.mk (ks.drop (ks.length / 2)) (vs.drop (ks.length / 2)) [])) := by
 subst hn
 have hm : maskH H.length [] H = H := by simp [maskH, killAll]
 have b1 := qaE h.root
 have b2 := qaE h.ks
 have b3 := qaE h.vs
 have b4 := qaE h.kids
 unfold oCallK
 rw [hm, h.borrow]
 simp only [qiq hl hl2 hv]
 generalize ks.getD (ks.length / 2) 0 = b
 generalize Nd.mk (ks.take (ks.length / 2)) (vs.take (ks.length / 2)) [] = p
 generalize Nd.mk (ks.drop (ks.length / 2)) (vs.drop (ks.length / 2)) [] = q
 have hs := sw_own (.mk ks vs []) kv vv cv
 have ht : ((ownN (.mk ks vs []) 0 kv vv cv ++ twoLeaf 4 p q).take [r, k, v, c].length) = ownN (.mk ks vs []) 0 kv vv cv := rfl
 have hd : ((ownN (.mk ks vs []) 0 kv vv cv ++ twoLeaf 4 p q).drop [r, k, v, c].length) = twoLeaf 4 p q := rfl
 rw [ht, hd, hs, if_pos (by simp [b1, b2, b3, b4]), if_pos rfl]
 simp [backIdx, twoLeaf, ren_ks, ren_vs]
theorem qls {H : Heap} {r k v c n0 : Nat} {ks : List Int} {kids : List Nd} {kv vv cv : Nat} (h : OwnAt H r k v c (.mk ks [] kids) kv vv cv) (hn : n0 = H.length) (hl : 7 < ks.length) (hl2 : ks.length < 100) (hv : kids.length = ks.length + 1) {β : Type} (kk : A → Heap → Option β) :
 oCallK n0 [] qan [.ptr r 0 0 0] H kk = kk (.tup [.ptr H.length 0 0 0, .s (.int .u64 (ks.getD (ks.length / 2) 0)), .ptr (H.length + 3) 0 0 0])
  (H ++ qai H.length (.mk (ks.take (ks.length / 2)) [] (kids.take (ks.length / 2 + 1))) (.mk (ks.drop (ks.length / 2 + 1)) [] (kids.drop (ks.length / 2 + 1)))) := by
 subst hn
 have hm : maskH H.length [] H = H := by simp [maskH, killAll]
 have b1 := qaE h.root
 have b2 := qaE h.ks
 have b3 := qaE h.vs
 have b4 := qaE h.kids
 unfold oCallK
 rw [hm, h.borrow]
 simp only [qhh hl hl2 hv]
 generalize ks.getD (ks.length / 2) 0 = b
 generalize Nd.mk (ks.take (ks.length / 2)) [] (kids.take (ks.length / 2 + 1)) = p
 generalize Nd.mk (ks.drop (ks.length / 2 + 1)) [] (kids.drop (ks.length / 2 + 1)) = q
 have hs := sw_own (.mk ks [] kids) kv vv cv
 have ht : ((ownN (.mk ks [] kids) 0 kv vv cv ++ qai 4 p q).take [r, k, v, c].length) = ownN (.mk ks [] kids) 0 kv vv cv := rfl
 have hd : ((ownN (.mk ks [] kids) 0 kv vv cv ++ qai 4 p q).drop [r, k, v, c].length) = qai 4 p q := rfl
 rw [ht, hd, hs, if_pos (by simp [b1, b2, b3, b4]), if_pos rfl]
 simp [backIdx, qai, ren_ks, qbj, hv]
theorem h11_at (n C : Nd) (kv vv cv v1 v2 v3 : Nat) : OwnAt (h11 n kv vv cv C v1 v2 v3) 4 5 8 10 C v1 v2 v3 := ⟨rfl, rfl, rfl, rfl, by decide, by decide, by decide, by decide, by decide, by decide⟩
def hTwo (ks : List Int) (kids : List Nd) (kv vv cv j : Nat) (b : Int) : Heap := [.live ⟨0, 3, [[.osl 1 kv 1 0 ks.length, .osl 2 vv 2 0 0, .osl 3 cv 1 0 kids.length]]⟩, .live ⟨kv, 1, (ks.set j b).map (cellC .u64)⟩, .live ⟨vv, 2, []⟩, .live ⟨cv, 1, ((kids.map kidC).set j [.ptr 4 0 0 0]).set (j + 1) [.ptr 7 0 0 0]⟩]
theorem ql3 {ks : List Int} {kids : List Nd} {kv vv cv v1 v2 v3 j : Nat} {cks : List Int} {cvs : List Extent} (hkl : kids.length = ks.length + 1) (hj : j < ks.length) (hks : ks.length ≤ 8) (hC : 7 < cks.length) (hC2 : cks.length < 100) (hv : cvs.length = cks.length) :
 qe2 (.ptr 4 0 0 0) (.ptr 0 0 0 0) (.s (.int .i64 j)) (ownN (.mk ks [] kids) 0 kv vv cv) (h11 (.mk ks [] kids) kv vv cv (.mk cks cvs []) v1 v2 v3) =
  some (.ok (.s (.tuple #[])), hTwo ks kids kv vv cv j (cks.getD (cks.length / 2) 0) ++ twoLeaf 4 (.mk (cks.take (cks.length / 2)) (cvs.take (cks.length / 2)) []) (.mk (cks.drop (cks.length / 2)) (cvs.drop (cks.length / 2)) [])) := by
 have c7 : ¬ (cks.length : Int) ≤ 7 := by omega
 have q1 : IntKind.i64.wrap ((j : Int) + 1) = ((j + 1 : Nat) : Int) := by rw [qad (by omega) (by omega)]; simp
 have hsp := fun {β : Type} (kk : A → Heap → Option β) => qmv (h11_at (.mk ks [] kids) (.mk cks cvs []) kv vv cv v1 v2 v3) (n0 := 11) rfl hC hC2 hv kk
 simp only [h11, ownN, Nd.ks_mk, Nd.vs_mk, Nd.kids_mk, List.length_nil] at hsp ⊢
 generalize cks.getD (cks.length / 2) 0 = b at *
 generalize Nd.mk (cks.take (cks.length / 2)) (cvs.take (cks.length / 2)) [] = p at *
 generalize Nd.mk (cks.drop (cks.length / 2)) (cvs.drop (cks.length / 2)) [] = q at *
 simp [qe2, c7, oLoadD, wrL, wrA, idTop, q1] at hsp ⊢
 rw [hsp]
 have hl : j < kids.length := by omega
 have hl1 : j + 1 < kids.length := by omega
 have hl2 : (0 : Int) ≤ (j : Int) + 1 ∧ (j : Int) + 1 < (kids.length : Int) := by omega
 have hset : (ks.map (cellC .u64)).set j (A.s (Value.int IntKind.u64 b) :: (cellC IntKind.u64 ks[j]).tail) = (ks.set j b).map (cellC .u64) := by rw [List.map_set]; rfl
 have hlen : (ks.set j b).length = ks.length := List.length_set
 simp only [hTwo]
 generalize ks.set j b = kk at *
 simp [qge, oStore, hj, hl, hl1, hl2, hset]
 have i1 := qaZ kids
 have i2 : idsRows (((kids.map kidC).set j [.ptr 11 0 0 0]).set (j + 1) [.ptr 14 0 0 0]) = [11, 14] := by rw [qdx i1 (by simpa using hl1)]; simp
 have i3 : ∀ f, f 11 = some 4 → f 14 = some 7 → renRows f (((kids.map kidC).set j [.ptr 11 0 0 0]).set (j + 1) [.ptr 14 0 0 0]) = some (((kids.map kidC).set j [.ptr 4 0 0 0]).set (j + 1) [.ptr 7 0 0 0]) := fun f hf hf2 =>
  qf4 i1 (by simpa using hl1) (by simp [hf]) (by simp [hf2])
 simp only [twoLeaf]
 generalize ((kids.map kidC).set j [.ptr 11 0 0 0]).set (j + 1) [.ptr 14 0 0 0] = rows at *
 generalize ((kids.map kidC).set j [.ptr 4 0 0 0]).set (j + 1) [.ptr 7 0 0 0] = rows' at *
 have hre : reach (.live ⟨0, 3, [[.osl 1 kv 1 0 ks.length, .osl 2 vv 2 0 0, .osl 3 cv 1 0 kids.length]]⟩ :: .live ⟨kv, 1, kk.map (cellC .u64)⟩ :: .live ⟨vv, 2, []⟩ :: .live ⟨cv, 1, rows⟩ ::
  .live ⟨0, 3, [[.osl 5 v1 1 0 cks.length, .osl 8 v2 2 0 cvs.length, .osl 10 v3 1 0 0]]⟩ :: .live ⟨v1, 1, cks.map (cellC .u64)⟩ :: .res :: .dead :: .live ⟨v2, 2, cvs.map extentC⟩ :: .dead :: .live ⟨v3, 1, []⟩ :: twoLeaf 11 p q) qa3 [0, 1, 2, 3] [1, 2, 3, 11, 14] = [0, 1, 2, 3, 11, 12, 13, 14, 15, 16] := by
  rw [show qa3 = 99980 + 20 from rfl]
  simp [reach, twoLeaf, ids_ks, ids_vs, qaZ, i2]
 simp only [twoLeaf] at hre
 unfold finish
 have hr4 : List.range 4 = [0, 1, 2, 3] := rfl
 simp [hr4, i2, ids_ks, hre]
 simp [idx, List.idxOf?_cons, ren_ks, ren_vs, qbj, i3]
theorem qk2 {ks : List Int} {kids : List Nd} {kv vv cv v1 v2 v3 j : Nat} {cks : List Int} {ckids : List Nd} (hkl : kids.length = ks.length + 1) (hj : j < ks.length) (hks : ks.length ≤ 8) (hC : 7 < cks.length) (hC2 : cks.length < 100) (hv : ckids.length = cks.length + 1) :
 qe2 (.ptr 4 0 0 0) (.ptr 0 0 0 0) (.s (.int .i64 j)) (ownN (.mk ks [] kids) 0 kv vv cv) (h11 (.mk ks [] kids) kv vv cv (.mk cks [] ckids) v1 v2 v3) =
  some (.ok (.s (.tuple #[])), hTwo ks kids kv vv cv j (cks.getD (cks.length / 2) 0) ++ qai 4 (.mk (cks.take (cks.length / 2)) [] (ckids.take (cks.length / 2 + 1))) (.mk (cks.drop (cks.length / 2 + 1)) [] (ckids.drop (cks.length / 2 + 1)))) := by
 have c7 : ¬ (cks.length : Int) ≤ 7 := by omega
 have q1 : IntKind.i64.wrap ((j : Int) + 1) = ((j + 1 : Nat) : Int) := by rw [qad (by omega) (by omega)]; simp
 have hsp := fun {β : Type} (kk : A → Heap → Option β) => qls (h11_at (.mk ks [] kids) (.mk cks [] ckids) kv vv cv v1 v2 v3) (n0 := 11) rfl hC hC2 hv kk
 simp only [h11, ownN, Nd.ks_mk, Nd.vs_mk, Nd.kids_mk, List.length_nil] at hsp ⊢
 generalize cks.getD (cks.length / 2) 0 = b at *
 generalize Nd.mk (cks.take (cks.length / 2)) [] (ckids.take (cks.length / 2 + 1)) = p at *
 generalize Nd.mk (cks.drop (cks.length / 2 + 1)) [] (ckids.drop (cks.length / 2 + 1)) = q at *
 simp [qe2, c7, oLoadD, wrL, wrA, idTop, q1, hv] at hsp ⊢
 rw [hsp]
 have hl : j < kids.length := by omega
 have hl1 : j + 1 < kids.length := by omega
 have hl2 : (0 : Int) ≤ (j : Int) + 1 ∧ (j : Int) + 1 < (kids.length : Int) := by omega
 have hset : (ks.map (cellC .u64)).set j (A.s (Value.int IntKind.u64 b) :: (cellC IntKind.u64 ks[j]).tail) = (ks.set j b).map (cellC .u64) := by rw [List.map_set]; rfl
 have hlen : (ks.set j b).length = ks.length := List.length_set
 simp only [hTwo]
 generalize ks.set j b = kk at *
 simp [qge, oStore, hj, hl, hl1, hl2, hset]
 have i1 := qaZ kids
 have i2 : idsRows (((kids.map kidC).set j [.ptr 11 0 0 0]).set (j + 1) [.ptr 14 0 0 0]) = [11, 14] := by rw [qdx i1 (by simpa using hl1)]; simp
 have i3 : ∀ f, f 11 = some 4 → f 14 = some 7 → renRows f (((kids.map kidC).set j [.ptr 11 0 0 0]).set (j + 1) [.ptr 14 0 0 0]) = some (((kids.map kidC).set j [.ptr 4 0 0 0]).set (j + 1) [.ptr 7 0 0 0]) := fun f hf hf2 =>
  qf4 i1 (by simpa using hl1) (by simp [hf]) (by simp [hf2])
 simp only [qai]
 generalize ((kids.map kidC).set j [.ptr 11 0 0 0]).set (j + 1) [.ptr 14 0 0 0] = rows at *
 generalize ((kids.map kidC).set j [.ptr 4 0 0 0]).set (j + 1) [.ptr 7 0 0 0] = rows' at *
 have hre : reach (.live ⟨0, 3, [[.osl 1 kv 1 0 ks.length, .osl 2 vv 2 0 0, .osl 3 cv 1 0 kids.length]]⟩ :: .live ⟨kv, 1, kk.map (cellC .u64)⟩ :: .live ⟨vv, 2, []⟩ :: .live ⟨cv, 1, rows⟩ ::
  .live ⟨0, 3, [[.osl 5 v1 1 0 cks.length, .osl 8 v2 2 0 0, .osl 10 v3 1 0 (cks.length + 1)]]⟩ :: .live ⟨v1, 1, cks.map (cellC .u64)⟩ :: .res :: .dead :: .live ⟨v2, 2, []⟩ :: .dead :: .live ⟨v3, 1, ckids.map kidC⟩ :: qai 11 p q) qa3 [0, 1, 2, 3] [1, 2, 3, 11, 14] = [0, 1, 2, 3, 11, 12, 13, 14, 15, 16] := by
  rw [show qa3 = 99980 + 20 from rfl]
  simp [reach, qai, ids_ks, ids_vs, qaZ, i2]
 simp only [qai] at hre
 unfold finish
 have hr4 : List.range 4 = [0, 1, 2, 3] := rfl
 simp [hr4, i2, ids_ks, hre]
 simp [idx, List.idxOf?_cons, ren_ks, ren_vs, qbj, i3]
end Go.Ab.T
