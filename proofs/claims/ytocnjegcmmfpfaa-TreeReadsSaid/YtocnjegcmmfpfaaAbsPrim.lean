/-
 FUNCTIONS OF Go's LIBRARY WHOSE MEANING IS GIVEN HERE, not by their text: slices.Clone, Insert, Delete. Definitions alone.
-/
import Derived.Test.YtocnjegcmmfpfaaAbsEval
set_option linter.unusedSimpArgs false
set_option linter.unusedVariables false
namespace Go.Ab
open Go
def qa8 (sz bytes : Nat) : CallFn := fun args objs =>
 match args with
 | [x] =>
   match rowsOf sz x objs with
   | some rows => if qa4 rows.length bytes ∧ sz ≠ 0 then some (.ok (.osl objs.length 1 sz 0 rows.length), objs ++ [.live ⟨1, sz, rows⟩]) else none
   | none => none
 | _ => none
def qaO (sz bytes : Nat) : CallFn := fun args objs =>
 match args with
 | [.osl id ver sz' lo len, .s (.int .i64 i), .osl vid vver vsz vlo m] =>
   match objs[id]?, rowsOf sz (.osl vid vver vsz vlo m) objs with
   | some (.live ob), some new =>
     if ob.ver = ver ∧ sz' = sz ∧ lo + len ≤ ob.rows.length ∧ 0 ≤ i ∧ i ≤ len ∧ qa4 (2 * (len + new.length)) bytes ∧ vid ≠ id ∧ 0 < m then
      let old := (ob.rows.drop lo).take len
      some (.ok (.osl id (ver + 1) sz 0 (len + new.length)), objs.set id (.live ⟨ver + 1, ob.sz, old.take i.toNat ++ new ++ old.drop i.toNat⟩))
     else none
   | _, _ => none
 | _ => none
def qaT (sz _bytes : Nat) : CallFn := fun args objs =>
 match args with
 | [.osl id ver sz' lo len, .s (.int .i64 i), .s (.int .i64 j)] =>
   match objs[id]? with
   | some (.live ob) =>
     if ob.ver = ver ∧ sz' = sz ∧ lo + len ≤ ob.rows.length ∧ 0 ≤ i ∧ i ≤ j ∧ j ≤ len then
      let old := (ob.rows.drop lo).take len
      some (.ok (.osl id (ver + 1) sz 0 (len - (j - i).toNat)), objs.set id (.live ⟨ver + 1, ob.sz, old.take i.toNat ++ old.drop j.toNat⟩))
     else none
   | _ => none
 | _ => none
def qbW (sz bytes : Nat) : CallFn := fun args objs =>
 match args with
 | [.s (.slice none 0 0), .s (.int .i64 n)] =>
   if 0 ≤ n ∧ qa4 n.toNat bytes ∧ 0 < sz then
    if n = 0 then some (.ok (.s (.slice none 0 0)), objs) else some (.ok (.osl objs.length 0 sz 0 0), objs ++ [.live ⟨0, sz, []⟩])
   else none
 | _ => none
end Go.Ab
