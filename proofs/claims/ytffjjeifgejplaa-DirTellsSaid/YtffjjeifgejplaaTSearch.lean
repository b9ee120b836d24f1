/-
  SEARCHING: the generic functions of slices.
-/
import Derived.Test.YtffjjeifgejplaaTL
set_option linter.unusedSimpArgs false
set_option linter.unusedVariables false
namespace Go.Ab
open Go

@[simp] theorem oShift_shr (kx ky : IntKind) (a b : Int) {β : Type} (k : A → Option β) : oShift .shr (.s (.int kx a)) (.s (.int ky b)) k = if 0 ≤ b then k (.int kx (a.fdiv (2 ^ min b.toNat kx.bits))) else none := _root_.id rfl
@[simp] theorem oShift_shl (kx ky : IntKind) (a b : Int) {β : Type} (k : A → Option β) : oShift .shl (.s (.int kx a)) (.s (.int ky b)) k = if 0 ≤ b then k (.int kx (kx.wrap (a * 2 ^ min b.toNat kx.bits))) else none := _root_.id rfl

/-- A slice's elements, as what is loaded of one. -/
structure Elems (α : Type) where
  sz : Nat
  ld : Option Nat
  enc : α → List A
  val : α → A
  at0 : ∀ x, cellsAt ld (enc x) 0 = some (val x)
  pure : ∀ x, pureA (val x) = true
  ids : ∀ x, idsA (val x) = []

def gSearch (sz : Nat) (ld : Option Nat) (En : String → CallFn) : CallFn := fun args objs =>
  match args with
  | [a0, a1, a2] =>
    oLen a0 fun x1 =>
      oLoop (fun s2 =>
      oCmp .lss (s2.1.getD 0 .any) (s2.1.getD 1 .any) fun x3 =>
      oCond x3 (oAr .add (s2.1.getD 0 .any) (s2.1.getD 1 .any) fun x4 =>
      oConv .u64 x4 fun x5 =>
      oShift .shr x5 (.s (.int .u64 1)) fun x6 =>
      oConv .i64 x6 fun x7 =>
      oIdxA sz a0 x7 fun x8 =>
      oLoad ld x8 s2.2 fun x9 =>
      oLendV En a2 [x9, a1] s2.2 (fun v12 h13 => some (.inr (Ex.panic v12, [.any], h13))) fun w16 h17 => oFrz w16 h17 fun x10 h11 =>
      oCmp .lss x10 (.s (.int .i64 0)) fun x14 =>
      oCond x14 (oAr .add x7 (.s (.int .i64 1)) fun x15 =>
      (trim true objs.length [x15, (s2.1.getD 1 .any)] h11).map .inl)
      ((trim true objs.length [(s2.1.getD 0 .any), x7] h11).map .inl))
      ((trim true objs.length [(s2.1.getD 0 .any)] s2.2).map fun p => .inr (Ex.exit 0, p.1, p.2))) ([(.s (.int .i64 0)), x1], objs) fun e18 vs19 h20 =>
      (match e18 with
    | .normal => none
    | .exit i21 => if i21 = 0 then oCmp .lss (vs19.getD 0 .any) x1 fun x23 =>
      oGuard x23 true (fun _ => oIdxA sz a0 (vs19.getD 0 .any) fun x24 =>
      oLoad ld x24 h20 fun x25 =>
      oLendV En a2 [x25, a1] h20 (fun v28 h29 => finish objs.length (.pan v28) h29) fun w31 h32 => oFrz w31 h32 fun x26 h27 =>
      oCmp .eql x26 (.s (.int .i64 0)) fun x30 =>
      finish objs.length (.ok (.tup [(vs19.getD 0 .any), x30])) h27)
      (fun _ => finish objs.length (.ok (.tup [(vs19.getD 0 .any), (.s (.bool false))])) h20) else none
    | .ret => finish objs.length (.ok (.tup [(.s (.int .i64 0)), (.s (.bool false))])) h20
    | .panic v22 => finish objs.length (.pan v22) h20)
  | _ => none

theorem mid_eq {lo hi : Nat} (h : lo < hi) (hn : hi < 2 ^ 63) :
    IntKind.i64.wrap ((IntKind.u64.wrap (IntKind.i64.wrap ((lo : Int) + hi))).fdiv (2 ^ min (1 : Int).toNat IntKind.u64.bits)) = (((lo + hi) / 2 : Nat) : Int) := by
  have e1 : (2 ^ min (1 : Int).toNat IntKind.u64.bits : Int) = 2 := by decide
  rw [e1]
  have key : IntKind.u64.wrap (IntKind.i64.wrap ((lo : Int) + hi)) = (lo : Int) + hi := by
    have a : ∀ n : Int, IntKind.u64.wrap n = n % 18446744073709551616 := fun n => by simp [IntKind.wrap, IntKind.bits, IntKind.signed]
    have b : ∀ n : Int, IntKind.i64.wrap n = (let m := n % 18446744073709551616; if m ≥ 9223372036854775808 then m - 18446744073709551616 else m) := fun n => by
      simp [IntKind.wrap, IntKind.bits, IntKind.signed]
    rw [a, b]
    dsimp only
    split <;> omega
  rw [key, Int.fdiv_eq_ediv_of_nonneg _ (by omega), wrap64_id (by omega) (by omega)]
  omega

/-- The binary search finds the place. -/
theorem gSearch_v {α : Type} (E : Elems α) (En : String → CallFn) (name : String) (caps : List A) (tgt : A) (c : α → Int) (xs : List α) (p : Nat)
    (hp : pureL caps = true) (hpi : idsL caps = []) (ht : pureA tgt = true) (hti : idsA tgt = [])
    (hc : ∀ x, x ∈ xs → En name ([E.val x, tgt] ++ caps) [] = some (.ok (.s (.int .i64 (c x))), []))
    (hlen : xs.length < 2 ^ 63) (hpn : p ≤ xs.length)
    (hlt : ∀ i x, xs[i]? = some x → (c x < 0 ↔ i < p)) :
    gSearch E.sz E.ld En [mkF E.sz (xs.map E.enc), tgt, .fn name caps] [] =
      some (.ok (.tup [.s (.int .i64 p), .s (.bool (xs[p]?.any fun x => decide (c x = 0)))]), []) := by
  have hcall : ∀ (β : Type) x (h : Heap) (kp k : A → Heap → Option β), x ∈ xs → oLend (En name) ([E.val x, tgt] ++ caps) h kp k = k (.s (.int .i64 (c x))) h := fun β x h kp k hx =>
    oLend_val _ _ _ _ _ _ (by simp [pureL, E.pure, ht, hp]) (by simp) (hc x hx)
  simp only [gSearch, oLen_mkF, List.length_map, List.length_nil]
  obtain ⟨q, hQ, hq⟩ := oLoop_inv (β := Out × Heap)
    (step := fun s2 =>
      oCmp .lss (s2.1.getD 0 .any) (s2.1.getD 1 .any) fun x3 =>
      oCond x3 (oAr .add (s2.1.getD 0 .any) (s2.1.getD 1 .any) fun x4 =>
      oConv .u64 x4 fun x5 =>
      oShift .shr x5 (.s (.int .u64 1)) fun x6 =>
      oConv .i64 x6 fun x7 =>
      oIdxA E.sz (mkF E.sz (xs.map E.enc)) x7 fun x8 =>
      oLoad E.ld x8 s2.2 fun x9 =>
      oLendV En (.fn name caps) [x9, tgt] s2.2 (fun v12 h13 => some (.inr (Ex.panic v12, [.any], h13))) fun w16 h17 => oFrz w16 h17 fun x10 h11 =>
      oCmp .lss x10 (.s (.int .i64 0)) fun x14 =>
      oCond x14 (oAr .add x7 (.s (.int .i64 1)) fun x15 =>
      (trim true 0 [x15, (s2.1.getD 1 .any)] h11).map .inl)
      ((trim true 0 [(s2.1.getD 0 .any), x7] h11).map .inl))
      ((trim true 0 [(s2.1.getD 0 .any)] s2.2).map fun p => .inr (Ex.exit 0, p.1, p.2)))
    (s0 := ([(.s (.int .i64 0)), .s (.int .i64 xs.length)], []))
    (k := fun e18 vs19 h20 =>
      (match e18 with
    | .normal => none
    | .exit i21 => if i21 = 0 then oCmp .lss (vs19.getD 0 .any) (.s (.int .i64 xs.length)) fun x23 =>
      oGuard x23 true (fun _ => oIdxA E.sz (mkF E.sz (xs.map E.enc)) (vs19.getD 0 .any) fun x24 =>
      oLoad E.ld x24 h20 fun x25 =>
      oLendV En (.fn name caps) [x25, tgt] h20 (fun v28 h29 => finish 0 (.pan v28) h29) fun w31 h32 => oFrz w31 h32 fun x26 h27 =>
      oCmp .eql x26 (.s (.int .i64 0)) fun x30 =>
      finish 0 (.ok (.tup [(vs19.getD 0 .any), x30])) h27)
      (fun _ => finish 0 (.ok (.tup [(vs19.getD 0 .any), (.s (.bool false))])) h20) else none
    | .ret => finish 0 (.ok (.tup [(.s (.int .i64 0)), (.s (.bool false))])) h20
    | .panic v22 => finish 0 (.pan v22) h20))
    (fun i s => ∃ lo hi : Nat, s = ([.s (.int .i64 lo), .s (.int .i64 hi)], []) ∧ lo ≤ p ∧ p ≤ hi ∧ hi ≤ xs.length ∧ hi - lo ≤ xs.length - i)
    (fun q => q = (Ex.exit 0, [.s (.int .i64 p)], [])) xs.length
    ⟨0, xs.length, rfl, by omega, hpn, by omega, by omega⟩ hlen
    (by
      rintro i s hi ⟨lo, hi', rfl, h1, h2, h3, h4⟩
      by_cases hlh : lo < hi'
      · left
        have hm := mid_eq hlh (by omega)
        have hx : (lo + hi') / 2 < xs.length := by omega
        have hxs : xs[(lo + hi') / 2]? = some xs[(lo + hi') / 2] := by simp [hx]
        have hmem : xs[(lo + hi') / 2] ∈ xs := List.getElem_mem hx
        have hl := hlt _ _ hxs
        have hw : IntKind.i64.wrap ((((lo + hi') / 2 : Nat) : Int) + 1) = (((lo + hi') / 2 + 1 : Nat) : Int) := wrap_succ hx hlen
        have hcc : ∀ (β : Type) (h : Heap) (kp k : A → Heap → Option β), oLend (En name) (E.val xs[(lo + hi') / 2] :: tgt :: caps) h kp k = k (.s (.int .i64 (c xs[(lo + hi') / 2]))) h := fun β h kp k => hcall β _ h kp k hmem
        simp only [List.getD_cons_zero, List.getD_cons_succ, oCmp_s, cmpInt_lss, if_true, oCond_s, Int.ofNat_lt, hlh, decide_true, oAr_s, arInt_add, oConv_s, oShift_shr, Int.zero_le_ofNat, hm,
          show (0 : Int) ≤ 1 from by decide, oIdxA_mkF E.sz E.enc xs _ _ _ _ hxs, oLoad_cptr, E.at0, oLendV_fn, List.cons_append, List.nil_append, hcc, oFrz_int, hw]
        by_cases hneg : c xs[(lo + hi') / 2] < 0
        · refine ⟨([.s (.int .i64 ((lo + hi') / 2 + 1 : Nat)), .s (.int .i64 hi')], []), ?_, (lo + hi') / 2 + 1, hi', rfl, ?_, h2, h3, ?_⟩
          · simp [hneg, trim, allBelow]
          · have := hl.1 hneg; omega
          · omega
        · refine ⟨([.s (.int .i64 lo), .s (.int .i64 ((lo + hi') / 2 : Nat))], []), ?_, lo, (lo + hi') / 2, rfl, h1, ?_, ?_, ?_⟩
          · simp [hneg, trim, allBelow]
          · have := mt hl.2 hneg; omega
          · omega
          · omega
      · right
        refine ⟨_, ?_, rfl⟩
        have : lo = p := by omega
        subst this
        simp [hlh, trim, allBelow])
    (by
      rintro s ⟨lo, hi', rfl, h1, h2, h3, h4⟩
      have hlh : ¬ lo < hi' := by omega
      refine ⟨_, ?_, rfl⟩
      have : lo = p := by omega
      subst this
      simp [hlh, trim, allBelow])
  refine hq.trans ?_
  subst hQ
  simp only [if_true, List.getD_cons_zero, oCmp_s, cmpInt_lss, oGuard_s, Int.ofNat_lt]
  by_cases hpl : p < xs.length
  · have hxs : xs[p]? = some xs[p] := by simp [hpl]
    have hmem : xs[p] ∈ xs := List.getElem_mem hpl
    have hcc : ∀ (β : Type) (h : Heap) (kp k : A → Heap → Option β), oLend (En name) (E.val xs[p] :: tgt :: caps) h kp k = k (.s (.int .i64 (c xs[p]))) h := fun β h kp k => hcall β _ h kp k hmem
    simp only [hpl, decide_true, if_true, oIdxA_mkF E.sz E.enc xs _ _ _ _ hxs, oLoad_cptr, E.at0, oLendV_fn, List.cons_append, List.nil_append, hcc, oFrz_int, oCmp_s, cmpInt_eql, hxs, Option.any_some]
    exact finish_val _ _ (by simp)
  · have hxs : xs[p]? = none := by simp; omega
    simp only [hpl, decide_false, Bool.false_eq_true, if_false, hxs, Option.any_none]
    exact finish_val _ _ (by simp)

def linkE : Elems T.Link := ⟨2, some 2, T.linkC, fun x => .agg (T.linkC x), T.linkC_at, fun x => by simp [pureA], fun x => by simp⟩
def thingE : Elems T.Thing := ⟨26, some 26, T.thingC, fun x => .agg (T.thingC x), T.thingC_at, fun x => by simp [pureA], fun x => by simp⟩
def idE : Elems Int := ⟨1, none, T.cellC .u64, fun x => .s (.int .u64 x), fun x => rfl, fun x => rfl, fun x => rfl⟩
def catE : Elems T.Cat := ⟨2, some 2, T.catC, fun x => .agg (T.catC x), T.catC_at, fun x => by simp [pureA], fun x => by simp⟩
end Go.Ab
