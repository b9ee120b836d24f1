/-
 THE MEMORY OF A SLICE OF AN OBJECT, as a list of cells: what is read from it, what is written to it. For slices.Insert and slices.Delete.
-/
import Derived.Test.YtocnjegcmmfpfaaAbsHand
import Derived.Test.YtocnjegcmmfpfaaAbsPrim
import Derived.Laws.Externs
set_option linter.unusedSimpArgs false
set_option linter.unusedVariables false
namespace Go.Ab
open Go
section
variable {P : Program} {w w' : World} {F F' : Cells} {ρ ρ' : Nat → Reg} {h h' : Heap}
theorem arr3 {vs : Array Value} (h : vs.size = 3) : ∃ v0 v1 v2, vs = #[v0, v1, v2] := by
 obtain ⟨l⟩ := vs
 match l, h with
 | [a, b, c], _ => exact ⟨a, b, c, rfl⟩
def Blk (w : World) (b o : Nat) (l : List Value) : Prop := ∀ (j : Nat) v, l[j]? = some v → w.cell? ⟨b, o + j, none⟩ = some v
theorem Blk.lt {b o : Nat} {l : List Value} (hb : Blk w b o l) (h0 : 0 < l.length) : b < w.heap.size := qd6 (hb 0 _ (List.getElem?_eq_getElem h0))
theorem Blk.sub {b o : Nat} {l : List Value} (hb : Blk w b o l) (k n : Nat) : Blk w b (o + k) ((l.drop k).take n) := by
 intro j v hv
 rw [List.getElem?_take] at hv
 split at hv <;> try (cases hv; done)
 rw [List.getElem?_drop] at hv
 rw [Nat.add_assoc]; exact hb _ v hv
theorem Blk.read {b o : Nat} {l : List Value} (hb : Blk w b o l) {sz k n len c : Nat} (hk : k + n * sz ≤ l.length) : (Builtin.firstCells sz n (.slice (some ⟨b, o + k, none⟩) len c)).run P w = .ok ((l.drop k).take (n * sz)).toArray w := by
 simp only [Builtin.firstCells]
 have := qdX (P := P) b (o + k) ((l.drop k).take (n * sz)) w (hb.sub k (n * sz)) (n * sz) (by simp; omega)
 rwa [List.take_of_length_le (by simp; omega)] at this
theorem qjz {sz len c : Nat} {a : Option Addr} : (Builtin.firstCells sz 0 (.slice a len c)).run P w = .ok (#[] : Array Value) w := by
 cases a <;> simp [Builtin.firstCells, loadCells, loadCellsFrom]
theorem Blk.write {b o : Nat} {l us : List Value} (hb : Blk w b o l) (ht : Thaw w b) {k : Nat} (hk : k + us.length ≤ l.length) (h1 : ∀ v ∈ us, v.oneCell' = true) :
 (storeCells ⟨b, o + k, none⟩ us).run P w = .ok () (w.setCells b (o + k) us) ∧ Blk (w.setCells b (o + k) us) b o (l.take k ++ us ++ l.drop (k + us.length)) ∧
  Upd (fun b' o' => b' = b ∧ o ≤ o' ∧ o' < o + l.length) w (w.setCells b (o + k) us) ∧ Thaw (w.setCells b (o + k) us) b := by
 have hex : ∀ j, j < us.length → ∃ v, w.cell? ⟨b, o + k + j, none⟩ = some v := fun j hj => ⟨_, by rw [Nat.add_assoc]; exact hb (k + j) _ (List.getElem?_eq_getElem (by omega))⟩
 have u : Upd (fun b' o' => b' = b ∧ o ≤ o' ∧ o' < o + l.length) w (w.setCells b (o + k) us) := qf2 _ us _ w fun j hj => ⟨rfl, by omega, by omega⟩
 refine ⟨?_, fun j v hv => ?_, u, ?_⟩
 · have := run_storeCells_cells (P := P) b (o + k) us 0 w (fun j hj => by obtain ⟨v, hv⟩ := hex j hj; simp [hv]) (fun j hj => ht _) h1
   simpa using this
 · rw [qes _ us _ w hex]
   rw [List.getElem?_append, List.getElem?_append] at hv
   simp only [List.length_append, List.length_take] at hv
   split at hv
   · split at hv
     · rename_i h1 h2
       rw [if_neg (by omega)]
       rw [List.getElem?_take] at hv
       split at hv <;> try (cases hv; done)
       exact hb j v hv
     · rename_i h1 h2
       rw [if_pos ⟨rfl, by omega, by omega⟩, ← hv]
       congr 1; omega
   · rename_i h1
     rw [if_neg (by omega)]
     rw [List.getElem?_drop] at hv
     have := hb _ v hv
     rwa [show o + (k + us.length + (j - (min k l.length + us.length))) = o + j by omega] at this
 · by_cases h0 : l.length = 0
   · have : us = [] := List.length_eq_zero_iff.1 (by omega)
     subst this; exact ht
   · exact u.thaw (hb.lt (by omega)) ht
theorem Blk.upd {T : Cells} {b o : Nat} {l : List Value} (hb : Blk w b o l) (u : Upd T w w') (ht : ∀ j, j < l.length → ¬ T b (o + j)) : Blk w' b o l := by
 intro j v hv
 have hc := hb j v hv
 rw [u.cell (qd6 hc) (ht j (List.getElem?_eq_some_iff.1 hv).1)]; exact hc
theorem qft {t u e e2 ty : TypeId} {ie : TypeInfo} {b o len c n : Nat} {xa : Option Addr} {xc : Nat} {us : List Value} (hu : P.underlying t = some (.slice e)) (hu2 : P.underlying u = some (.slice e2)) (hie : P.info? e = some ie)
 (hsrc : (Builtin.firstCells ie.size n (.slice xa n xc)).run P w = .ok us.toArray w) (hin : len + n ≤ c) (hst : (storeCells ⟨b, o + len * ie.size, none⟩ us).run P w = .ok () w') :
 (Builtin.append_ #[t, u] ty #[.slice (some ⟨b, o, none⟩) len c, .slice xa n xc]).run P w = .ok (.slice (some ⟨b, o, none⟩) (len + n) c) w' := by
 simp only [Builtin.append_, List.getElem?_toArray, List.getElem?_cons_zero, List.getElem?_cons_succ, Sem.run_bind, run_underlying hu, run_underlying hu2, Result.andThen_ok, qac hie, Sem.run_pure, Sem.run_ite, Builtin.lenOf, Bool.false_eq_true, if_false, hin, if_true, Bool.not_false,
  hsrc, qcg, hst]
theorem qbC {t u e ty : TypeId} {ie : TypeInfo} {a : Addr} {n1 c1 n2 c2 m : Nat} {xa : Option Addr} {us : List Value} (hu : P.underlying t = some (.slice e)) (hie : P.info? e = some ie) (hm : min n2 n1 = m)
 (hsrc : (Builtin.firstCells ie.size m (.slice xa n2 c2)).run P w = .ok us.toArray w) (hst : (storeCells a us).run P w = .ok () w') :
 (Builtin.copy_ #[t, u] ty #[.slice (some a) n1 c1, .slice xa n2 c2]).run P w = .ok (goInt m) w' := by
 have hm' : Nat.min n2 n1 = m := hm
 simp only [Builtin.copy_, List.getElem?_toArray, List.getElem?_cons_zero, List.getElem?_cons_succ, Sem.run_bind, run_underlying hu, Result.andThen_ok, Builtin.lenOf, Sem.run_pure, qac hie, hm', hsrc, hst]
theorem qg2 {t e ty : TypeId} {a : Addr} {n c : Nat} {zv : Value} (hu : P.underlying t = some (.slice e)) (hz : (zeroValue e).run P w = .ok zv w) (hn : 0 < n)
 (hst : (storeCells a (Builtin.zeroCells zv.cells n).toList).run P w = .ok () w') : (Builtin.clear_ #[t] ty #[.slice (some a) n c]).run P w = .ok (.tuple #[]) w' := by
 obtain ⟨n, rfl⟩ : ∃ k, n = k + 1 := ⟨n - 1, by omega⟩
 simp only [Builtin.clear_, List.getElem?_toArray, List.getElem?_cons_zero, Sem.run_bind, run_underlying hu, Result.andThen_ok, Sem.run_pure, hz, hst]
theorem qcI {t u e ty : TypeId} {ie : TypeInfo} {kk : IntKind} {a : Option Addr} {len cap n : Nat} {zv : Value} {vs : List Value} (hu : P.underlying t = some (.slice e)) (hu2 : P.underlying u = some (.int kk)) (hie : P.info? e = some ie)
 (hz : ∀ w, (zeroValue e).run P w = .ok zv w) (hb : 0 < ie.bytes) (hgt : cap < len + n) (hok : qa4 (len + n) ie.bytes) (hn : 0 < n) (hpos : 0 < ie.size)
 (h1 : ∀ d, (Builtin.firstCells ie.size len (.slice a len cap)).run P { w with drawn := d } = .ok vs.toArray { w with drawn := d }) :
 ∃ nc, len + n ≤ nc ∧ (Builtin.append_ #[t, u] ty #[.slice a len cap, .int .i64 n]).run P w = .ok (.slice (some ⟨w.heap.size, 0, none⟩) (len + n) nc)
   { w with drawn := w.drawn + 1, heap := w.heap.push (.cells (vs.toArray ++ Builtin.zeroCells zv.cells n ++ Builtin.zeroCells zv.cells (nc - (len + n))) e) } := by
 obtain ⟨k1, k2⟩ := hok
 have hk62 : len + n < 4611686018427387904 := by have : (2:Nat)^62 = 4611686018427387904 := by decide
                                                 omega
 have hw : IntKind.i64.wrap (n : Int) = n := by
  have key : IntKind.i64.wrap (n : Int) = (let m := (n : Int) % 18446744073709551616; if m ≥ 9223372036854775808 then m - 18446744073709551616 else m) := by
   simp [IntKind.wrap, IntKind.bits, IntKind.signed]
  rw [key]
  have : (n : Int) % 18446744073709551616 = n := by omega
  simp only [this]; rw [if_neg (by omega)]
 have hn1 : ¬ ((Builtin.nextslicecap (len + n) cap * ie.bytes : Nat) > 2 ^ 48) := by
  have := Nat.mul_le_mul_right ie.bytes (qgg (len + n) cap hgt)
  omega
 have hmb : (n * ie.bytes : Nat) ≤ 2 ^ 48 := by
  have := Nat.mul_le_mul_right ie.bytes (show n ≤ 2 * (len + n) + 192 by omega)
  omega
 have hmb' : ¬ ((n : Int) * (ie.bytes : Int) > 2 ^ 48) := by
  have : ((n * ie.bytes : Nat) : Int) ≤ ((2 ^ 48 : Nat) : Int) := by exact_mod_cast hmb
  simp at this ⊢; omega
 have hmax : ¬ (IntKind.i64.max < (len : Int) + (n : Int)) := by simp [IntKind.max, IntKind.bits, IntKind.signed]; omega
 refine ⟨(Question.appendCap (len + n) cap e).cut (w.tape w.drawn (.appendCap (len + n) cap e)), by simp [Question.cut], ?_⟩
 have hnle : ¬ len + n ≤ cap := by omega
 have hns : ¬ n * ie.size = 0 := by have := Nat.mul_pos hn hpos; omega
 have hneg : ¬ ((n : Int) < 0) := by omega
 have hr1 := h1 (w.drawn + 1)
 simp only [Builtin.append_, List.getElem?_toArray, List.getElem?_cons_zero, List.getElem?_cons_succ, Sem.run_bind, run_underlying hu, run_underlying hu2, Result.andThen_ok, qac hie, Sem.run_pure, Sem.run_ite, asInt, asIntOf, hw, hneg, hmb', if_true, if_false, typeInfo, run_program, hie, Int.toNat_natCast, hnle,
  Bool.false_eq_true, hns, hn1, run_choose, Question.forced, run_askRoom, hr1, hz, newRow, run_newObj, Bool.not_true]
 simp [hmax, hnle, hns, hn1, hr1, hz, newRow, run_newObj, run_choose, Question.forced, run_askRoom]
 intro hc
 exfalso
 omega
theorem qap {t e : TypeId} {ie : TypeInfo} {b o n c l : Nat} (hu : P.underlying t = some (.slice e)) (hie : P.info? e = some ie) (h1 : l ≤ n) (h2 : l < c) :
 (Instr.sliceAt t (.slice (some ⟨b, o, none⟩) n c) (some (.int .i64 l)) none none).run P w = .ok (.slice (some ⟨b, o + l * ie.size, none⟩) (n - l) (c - l)) w := by
 have := qji (P := P) (w := w) (b := b) (o := o) hu hie (qg3 (w := w) (P := P) (k := .i64) (x := l) (n := n) (c := c) (by omega) (by omega)) (by simp; omega)
 simpa using this
theorem qbN {t e : TypeId} {ie : TypeInfo} {b o c : Nat} (hu : P.underlying t = some (.slice e)) (hie : P.info? e = some ie) :
 (Instr.sliceAt t (.slice (some ⟨b, o, none⟩) c c) (some (.int .i64 c)) none none).run P w = .ok (.slice (some ⟨b, o, none⟩) 0 0) w := by
 have hb := qg3 (w := w) (P := P) (k := .i64) (x := c) (n := c) (c := c) (by omega) (by omega)
 simp [Instr.sliceAt, Instr.slice, run_underlying hu, hb, qac hie]
theorem qbz {t e : TypeId} {ie : TypeInfo} {b o n c m : Nat} (hu : P.underlying t = some (.slice e)) (hie : P.info? e = some ie) (h1 : m ≤ c) (h2 : 0 < c) :
 (Instr.sliceAt t (.slice (some ⟨b, o, none⟩) n c) none (some (.int .i64 m)) none).run P w = .ok (.slice (some ⟨b, o, none⟩) m c) w := by
 have := qji (P := P) (w := w) (b := b) (o := o) hu hie (qit (w := w) (P := P) (k := .i64) (x := m) (n := n) (c := c) (by omega) (by omega)) (by omega)
 simpa using this
theorem qfX {t e : TypeId} {ie : TypeInfo} {b o n c l m : Nat} (hu : P.underlying t = some (.slice e)) (hie : P.info? e = some ie) (h1 : l ≤ m) (h2 : m ≤ c) (h3 : l < c) :
 (Instr.sliceAt t (.slice (some ⟨b, o, none⟩) n c) (some (.int .i64 l)) (some (.int .i64 m)) none).run P w = .ok (.slice (some ⟨b, o + l * ie.size, none⟩) (m - l) (c - l)) w := by
 have := qji (P := P) (w := w) (b := b) (o := o) hu hie (qkG (w := w) (P := P) (k := .i64) (k' := .i64) (x := l) (y := m) (n := n) (c := c) (by omega) (by omega) (by omega)) (by simp; omega)
 simpa using this
theorem qcY {t e : TypeId} {ie : TypeInfo} {a : Option Addr} {n c l m : Nat} {hi mx : Option Value} (hu : P.underlying t = some (.slice e)) (hie : P.info? e = some ie) (h1 : l ≤ m) (h2 : m ≤ n) (h3 : n ≤ c)
 (hh : hi = some (.int .i64 m) ∧ mx = some (.int .i64 n) ∨ hi = none ∧ m = n ∧ mx = none) :
 ∃ v, (Instr.sliceAt t (.slice a n c) (some (.int .i64 l)) hi mx).run P w = .ok v w := by
 have key : (Instr.sliceBounds true n c (some (.int .i64 l)) hi mx).run P w = .ok (l, m, if mx.isSome then n else c) w := by
  rcases hh with ⟨rfl, rfl⟩ | ⟨rfl, rfl, rfl⟩
  · have e0 := qeO (P := P) (w := w) (k := .i64) (x := n) (y := c) (code := .slice3Acap) (by omega) (by omega)
    have e1 := qeO (P := P) (w := w) (k := .i64) (x := m) (y := n) (code := .slice3B) (by omega) (by omega)
    have e2 := qeO (P := P) (w := w) (k := .i64) (x := l) (y := m) (code := .slice3C) (by omega) (by omega)
    rw [Int.toNat_natCast] at e0 e1 e2
    simp [Instr.sliceBounds, e0, e1, e2]
  · have e2 := qg3 (P := P) (w := w) (k := .i64) (x := l) (n := m) (c := c) (by omega) (by omega)
    simpa using e2
 have heq : Instr.sliceAt t (.slice a n c) (some (.int .i64 l)) hi mx = (do match ← underlying t with | .array n2 elem => (do let a2 ← Instr.sureAddr (.slice a n c); let (l2, h2, m2) ← Instr.sliceBounds false n2 n2 (some (.int .i64 l)) hi mx; let size ← Go.sizeOf elem; pure (.slice (some (if m2 = l2 then a2 else a2.add (l2 * size))) (h2 - l2) (m2 - l2))) | _ => Instr.slice t (.slice a n c) (some (.int .i64 l)) hi mx) := rfl
 exact ⟨_, by simp only [heq, Sem.run_bind, run_underlying hu, Result.andThen_ok, Instr.slice, key, qac hie]; rfl⟩
theorem qfZ {tS tR e : TypeId} (ht : P.underlying tS = some (.slice e)) {ie : TypeInfo} (hie : P.info? e = some ie) {ab ao la ca bb bo lb cb : Nat} (hta : Thaw w ab) (htb : Thaw w bb) (hsa : ∃ x, w.shape? ab = some x) (hsb : ∃ x, w.shape? bb = some x)
 (hd : ¬ (ab = bb ∧ ao < bo + lb * ie.size ∧ bo < ao + la * ie.size)) :
 (Extern.SlicesOverlaps.overlaps #[tS, tS] #[tR] #[.slice (some ⟨ab, ao, none⟩) la ca, .slice (some ⟨bb, bo, none⟩) lb cb]).run P w = .ok (.bool false) w := by
 obtain ⟨⟨ta, ka⟩, hsa⟩ := hsa
 obtain ⟨⟨tb, kb⟩, hsb⟩ := hsb
 change Sem.run P (α := Value) (do
  let some t := (#[tS, tS] : Array TypeId)[0]? | stuck "slices.overlaps: no parameter types"
  let .slice elem ← underlying t | stuck "slices.overlaps: slice type expected"
  let size ← Go.sizeOf elem
  match (some ⟨ab, ao, none⟩ : Option Addr), (some ⟨bb, bo, none⟩ : Option Addr) with
  | some a, some b =>
    if la = 0 ∨ lb = 0 ∨ size = 0 then pure (Value.bool false)
    else if a.block != b.block && (← frozen a) && (← frozen b) then unsupported .addressObserved
    else do
     if a.block != b.block then do
      noView a; noView b
      if ← mayBeOne a b then return Value.bool ((← choose (.extern "sameAddr.stringBytes" 2)) == 1)
     pure (Value.bool (a.block == b.block && a.off < b.off + lb * size && b.off < a.off + la * size))
  | _, _ => pure (Value.bool false)) w = _
 have f1 : ∀ n, World.frozen? w ⟨ab, n, none⟩ = false := hta
 have f2 : ∀ n, World.frozen? w ⟨bb, n, none⟩ = false := htb
 by_cases h0 : la = 0 ∨ lb = 0 ∨ ie.size = 0
 · simp [run_underlying ht, qac hie, h0]
 · by_cases hne : ab = bb
   · subst hne
     have : ¬ (ao < bo + lb * ie.size ∧ bo < ao + la * ie.size) := fun h => hd ⟨rfl, h⟩
     simp [run_underlying ht, qac hie, h0]
     omega
   · have hnb : (ab != bb) = true := by simpa using hne
     have hnb' : (ab == bb) = false := by simpa using hne
     simp [run_underlying ht, qac hie, h0, hnb, hnb', frozen, noView, viewAt, mayBeOne, stringish, shape, Sem.run, hsa, hsb, f1, f2]
theorem qcX {b o : Nat} {v : Value} (h : w.cell? ⟨b, o, none⟩ = some v) : ∃ x, w.shape? b = some x := by
 unfold World.cell? at h
 unfold World.shape?
 cases hb : w.heap[b]? with
 | none => simp [hb] at h
 | some x => cases x <;> simp_all
theorem qlm {Q : Exit → Act → World → Prop} {a : Act} {d : Option Tmp} {ty : TypeId} {pos : String} {af : Array Edge} {l : List Oper} {f : FuncId} {fn : Func} {e : Array Value → Sem Value} {x y : Operand} {vx vy v : Value} {ts : Array TypeId}
 (hf : P.funcs[f]? = some fn) (hname : (fn.name == "runtime.NumGoroutine") = false) (hb : fn.body.isNone = true) (hn : Extern.findNext fn = none) (he : Extern.find fn = some e) (hx : a.eval x = vx) (hy : a.eval y = vy) (hv : (e #[vx, vy]).run P w = .ok v w)
 (h : wpL P Q l (a.put d v) w) : wpL P Q (⟨d, .call { callee := .value (.func f), args := #[x, y], argTypes := ts }, ty, pos, af, none⟩ :: l) a w := by
 refine L_op ?_ h
 have e0 : a.eval (.func f) = .func (.func f) #[] #[] := rfl
 simp only [execOp, resolve, e0, Deferred.ofValue, Sem.run_bind, Sem.run_pure, Result.andThen_ok, invoke]
 have : (#[] : Array Value) ++ (#[x, y] : Array Operand).map a.eval ++ #[] = #[vx, vy] := by simp [hx, hy]
 rw [this, run_callFunc_extern hf hname hb hn he, hv]
 rfl
theorem L_not {Q : Exit → Act → World → Prop} {a : Act} {d : Option Tmp} {t ty : TypeId} {pos : String} {af : Array Edge} {l : List Oper} {x : Operand} {b : Bool} (hx : a.eval x = .bool b)
 (h : wpL P Q l (a.put d (.bool !b)) w) : wpL P Q (⟨d, .unOp .not t x, ty, pos, af, none⟩ :: l) a w := by
 refine L_op ?_ h
 simp [execOp, hx, Op.unary]
theorem Inv.hollow (i : Inv P w F ρ h) {id sz : Nat} {ob : Obj} (a : Option Addr) (hob : h[id]? = some (.live ob)) (hsz : ob.sz = sz) :
 ∃ ρ', Inv P w F ρ' (h.set id (.live ⟨ob.ver + 1, ob.sz, []⟩)) ∧ Tr w F ρ h w F ρ' (h.set id (.live ⟨ob.ver + 1, ob.sz, []⟩)) ∧
   Rel P w F ρ' (h.set id (.live ⟨ob.ver + 1, ob.sz, []⟩)) (.slice a 0 0) (.osl id (ob.ver + 1) sz 0 0) := by
 have hl : id < h.length := (List.getElem?_eq_some_iff.1 hob).1
 have hget : (h.set id (.live ⟨ob.ver + 1, ob.sz, []⟩))[id]? = some (.live ⟨ob.ver + 1, ob.sz, []⟩) := by rw [List.getElem?_set]; simp [hl]
 have ko := i.obj id ob hob
 obtain ⟨q1, q2⟩ := i.update (w' := w) (ρ' := fun j => if j = id then ⟨0, 0, sz, 0⟩ else ρ j) hob (.refl _ _) (ob' := ⟨ob.ver + 1, ob.sz, []⟩) (by simp) (fun j hj => by simp [hj]) (fun hv => by simp at hv) (fun b' o' hb => by simp [Reg.has] at hb) (fun t =>
  .of_flat (by simp [hsz]) ko.pos (by simp) (by simp) (fun j hj => by simp at hj) [] (fun j v hv => by simp at hv) ⟨rfl, fun j v c hv => by simp at hv⟩)
 refine ⟨_, q1, q2, .osl _ _ _ id (ob.ver + 1) sz 0 (by simpa using hl) (fun s hs he => ?_) (Nat.le_refl _) (fun hc => by omega) fun ob2 hob2 => ?_⟩
 · rw [hget] at hs; cases hs; cases he
 · rw [hget] at hob2; cases hob2
   exact ⟨Nat.le_refl _, fun _ => ⟨by simp, fun hc => by omega⟩⟩
structure Span (P : Program) (w : World) (F : Cells) (ρ : Nat → Reg) (h : Heap) (id : Nat) (ob : Obj) (b o sz len c : Nat) (rows : List (List A)) (l : List Value) : Prop where
 szpos : 0 < sz
 rlen : rows.length = len
 lec : len ≤ c
 width : ∀ row ∈ rows, row.length = sz
 rel : RelC P w F ρ h (l.take (len * sz)) rows.flatten
 llen : l.length = c * sz
 blk : Blk w b o l
 thaw : Thaw w b
 inreg : ∀ j, j < c * sz → (ρ id).has b (o + j)
 nf : ∀ j, j < c * sz → ¬ F b (o + j)
 obsz : ob.sz = sz
theorem Span.of (i : Inv P w F ρ h) {id ver sz lo len : Nat} {ob : Obj} {v : Value} (hr : Rel P w F ρ h v (.osl id ver sz lo len)) (hob : h[id]? = some (.live ob)) (hver : ob.ver = ver) (hle : lo + len ≤ ob.rows.length) :
 ∃ a c, v = .slice a len c ∧ len ≤ c ∧ (0 < c → ∃ b o l, a = some ⟨b, o, none⟩ ∧ Span P w F ρ h id ob b o sz len c ((ob.rows.drop lo).take len) l) := by
 obtain ⟨a, c, rfl, hl, hn, hlc, hsm, hy⟩ := hr.osl_inv
 refine ⟨a, c, rfl, hlc, fun hc => ?_⟩
 have ko := i.obj id ob hob
 obtain ⟨g1, g2⟩ := (hy ob hob).2 hver.symm
 obtain ⟨g3, g4⟩ := g2 hc
 have hsz : sz = ob.sz := by rw [g1, ko.sz]
 have hpos : 0 < sz := by rw [hsz]; exact ko.pos
 obtain ⟨da, dc, ds, hda, dwid, drel, drun, dcel⟩ := qce (sz := sz) (rows := (ob.rows.drop lo).take len) i hr (by simp [rowsOf, hob, hver, hle])
 have dlen : ((ob.rows.drop lo).take len).length = len := by simp; omega
 have dul : ds.length = len * sz := by rw [drel.1, qb4 _ dwid, dlen]
 have hcapm : (lo + c) * sz ≤ (ρ id).cap * sz := Nat.mul_le_mul_right _ g4
 rw [Nat.add_mul] at hcapm
 have hcell : ∀ j, j < c * sz → (∃ v, w.cell? ⟨(ρ id).b, (ρ id).o + lo * sz + j, none⟩ = some v) ∧ Thaw w (ρ id).b ∧ ¬ F (ρ id).b ((ρ id).o + lo * sz + j) := fun j hj => by
  have := ko.cell (lo * sz + j) (by rw [← g1]; omega)
  rwa [← Nat.add_assoc] at this
 let f : Nat → Value := fun j => (w.cell? ⟨(ρ id).b, (ρ id).o + lo * sz + j, none⟩).getD undef
 let l : List Value := (List.range (c * sz)).map f
 have hblk : Blk w (ρ id).b ((ρ id).o + lo * sz) l := fun j v hv => by
  simp only [l, List.getElem?_map, Option.map_eq_some_iff] at hv
  obtain ⟨m, hm, rfl⟩ := hv
  obtain ⟨hm1, hm2⟩ := List.getElem?_eq_some_iff.1 hm
  simp at hm1 hm2
  subst hm2
  obtain ⟨⟨v, e⟩, _⟩ := hcell j hm1
  simp only [f, e, Option.getD_some]
 have hlc' : len * sz ≤ c * sz := Nat.mul_le_mul_right _ hlc
 have hpre : l.take (len * sz) = ds := by
  apply List.ext_getElem?
  intro j
  rw [List.getElem?_take]
  by_cases hj : j < len * sz
  · rw [if_pos hj]
    have e1 : ds[j]? = some ds[j] := List.getElem?_eq_getElem (by omega)
    have e2 := dcel id ver sz lo len rfl j _ e1
    rw [e1]
    simp only [l, List.getElem?_map, List.getElem?_range (show j < c * sz by omega), Option.map_some, f, e2, Option.getD_some]
  · rw [if_neg hj, List.getElem?_eq_none (by omega)]
 exact ⟨(ρ id).b, (ρ id).o + lo * sz, l, g3, ⟨hpos, dlen, hlc, dwid, by rw [hpre]; exact drel, by simp [l], hblk, (hcell 0 (Nat.mul_pos hc hpos)).2.1, fun j hj => by
  have := Reg.has_cell (ρ id) (lo * sz + j) (by rw [← g1]; omega)
  rwa [← Nat.add_assoc] at this, fun j hj => (hcell j hj).2.2, hsz.symm⟩⟩
theorem Span.put (i : Inv P w F ρ h) {id sz len c b o : Nat} {ob : Obj} {rows : List (List A)} {l : List Value} (hob : h[id]? = some (.live ob)) (s : Span P w F ρ h id ob b o sz len c rows l) {rows' : List (List A)} {vs : List Value}
 (u : Upd (fun b' o' => b' = b ∧ o ≤ o' ∧ o' < o + l.length) w w') (hw : ∀ row ∈ rows', row.length = sz) (hlc : rows'.length ≤ c) (hrel : RelC P w F ρ h vs rows'.flatten) (hat : Blk w' b o vs) :
 ∃ ρ', Inv P w' F ρ' (h.set id (.live ⟨ob.ver + 1, ob.sz, rows'⟩)) ∧ Tr w F ρ h w' F ρ' (h.set id (.live ⟨ob.ver + 1, ob.sz, rows'⟩)) ∧
   Rel P w' F ρ' (h.set id (.live ⟨ob.ver + 1, ob.sz, rows'⟩)) (.slice (some ⟨b, o, none⟩) rows'.length c) (.osl id (ob.ver + 1) sz 0 rows'.length) := by
 have hl : id < h.length := (List.getElem?_eq_some_iff.1 hob).1
 have hget : (h.set id (.live ⟨ob.ver + 1, ob.sz, rows'⟩))[id]? = some (.live ⟨ob.ver + 1, ob.sz, rows'⟩) := by rw [List.getElem?_set]; simp [hl]
 have hll := s.llen
 obtain ⟨q1, q2⟩ := i.update (w' := w') (ρ' := fun j => if j = id then ⟨b, o, sz, c⟩ else ρ j) hob (u.mono fun b' o' _ hh => by
  obtain ⟨rfl, h1, h2⟩ := hh
  have := s.inreg (o' - o) (by omega)
  rwa [show o + (o' - o) = o' by omega] at this) (ob' := ⟨ob.ver + 1, ob.sz, rows'⟩) (by simp) (fun j hj => by simp [hj]) (fun hv => by simp at hv) (fun b' o' hb => by
  simp only [if_true] at hb
  obtain ⟨rfl, h1, h2⟩ := hb
  simp only at h1 h2
  have := s.inreg (o' - o) (by omega)
  rw [show o + (o' - o) = o' by omega] at this
  exact .inl this) (fun t => by
  refine .of_flat (by simp [s.obsz]) (by simp only [s.obsz]; exact s.szpos) (by simpa using hlc) (by simpa [s.obsz] using hw) (fun j hj => ?_) vs (fun j v hv => by simp only [if_true]; exact hat j v hv) (hrel.step i t)
  simp only [if_true] at hj ⊢
  have e1 := s.blk j _ (List.getElem?_eq_getElem (by omega))
  have hb := qd6 e1
  refine ⟨?_, u.thaw hb s.thaw, s.nf j hj⟩
  have := u.isSome (o := o + j) hb
  rw [e1] at this
  exact Option.isSome_iff_exists.1 this)
 refine ⟨_, q1, q2, .osl _ _ _ id (ob.ver + 1) sz 0 (by simpa using hl) (fun s hs he => ?_) hlc (fun hc => ⟨_, rfl⟩) fun ob2 hob2 => ?_⟩
 · rw [hget] at hs; cases hs; cases he
 · rw [hget] at hob2; cases hob2
   exact ⟨Nat.le_refl _, fun _ => ⟨by simp, fun hc => by simp⟩⟩
theorem Inv.move (i : Inv P w F ρ h) {id sz b c : Nat} {ob : Obj} (hob : h[id]? = some (.live ob)) (hsz : ob.sz = sz) {rows' : List (List A)} {vs l : List Value} (u : Upd (fun _ _ => False) w w') (hbn : w.heap.size ≤ b) (hll : l.length = c * sz) (hbl : Blk w' b 0 l) (ht : Thaw w' b)
 (hw : ∀ row ∈ rows', row.length = sz) (hlc : rows'.length ≤ c) (hrel : RelC P w F ρ h vs rows'.flatten) (hat : Blk w' b 0 vs) :
 ∃ ρ', Inv P w' F ρ' (h.set id (.live ⟨ob.ver + 1, ob.sz, rows'⟩)) ∧ Tr w F ρ h w' F ρ' (h.set id (.live ⟨ob.ver + 1, ob.sz, rows'⟩)) ∧
   Rel P w' F ρ' (h.set id (.live ⟨ob.ver + 1, ob.sz, rows'⟩)) (.slice (some ⟨b, 0, none⟩) rows'.length c) (.osl id (ob.ver + 1) sz 0 rows'.length) := by
 have hl : id < h.length := (List.getElem?_eq_some_iff.1 hob).1
 have hget : (h.set id (.live ⟨ob.ver + 1, ob.sz, rows'⟩))[id]? = some (.live ⟨ob.ver + 1, ob.sz, rows'⟩) := by rw [List.getElem?_set]; simp [hl]
 have ko := i.obj id ob hob
 obtain ⟨q1, q2⟩ := i.update (w' := w') (ρ' := fun j => if j = id then ⟨b, 0, sz, c⟩ else ρ j) hob (u.mono fun b' o' _ hh => hh.elim) (ob' := ⟨ob.ver + 1, ob.sz, rows'⟩) (by simp) (fun j hj => by simp [hj]) (fun hv => by simp at hv) (fun b' o' hb => by
  simp only [if_true] at hb
  obtain ⟨rfl, h1, h2⟩ := hb
  exact .inr hbn) (fun t => by
  refine .of_flat (by simp [hsz]) ko.pos (by simpa using hlc) (by simpa [hsz] using hw) (fun j hj => ?_) vs (fun j v hv => by simp only [if_true]; exact hat j v hv) (hrel.step i t)
  simp only [if_true] at hj ⊢
  refine ⟨⟨_, hbl j _ (List.getElem?_eq_getElem (by omega))⟩, ht, fun hf => ?_⟩
  have := i.fin _ _ hf
  omega)
 refine ⟨_, q1, q2, .osl _ _ _ id (ob.ver + 1) sz 0 (by simpa using hl) (fun s hs he => ?_) hlc (fun hc => ⟨_, rfl⟩) fun ob2 hob2 => ?_⟩
 · rw [hget] at hs; cases hs; cases he
 · rw [hget] at hob2; cases hob2
   exact ⟨Nat.le_refl _, fun _ => ⟨by simp, fun hc => by simp⟩⟩
end
end Go.Ab
