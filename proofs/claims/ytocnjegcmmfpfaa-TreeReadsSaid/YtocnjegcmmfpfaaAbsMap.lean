/-
 No maps in this seat.
-/
import Derived.Test.YtocnjegcmmfpfaaAbsCallK
import Derived.MapKept
