import Derived.Test.YtdpmkphjcjacfaaGreatDoorGh
import Derived.Deep.DeepHandedRow
import Derived.Deep.DeepWitnessRowRef
import Derived.Lib.LaidIn
import Derived.Lib.LaidU8
import Derived.Shelf.Vars
set_option linter.all false
namespace Go.Gv
open Go Go.Lib

/-! Own work: from a row's listed tables to what the walks ask of them. -/
theorem var_lt {P : Program} {w : World} {n : String} {g : Nat} {cs : Array Value} (hg : P.globalNamed n = some g) (h : w.var? P n = some cs) : g < w.heap.size := by
  refine Nat.lt_of_not_le fun hle => ?_
  simp only [World.var?, hg, Option.bind_some] at h
  rw [Array.getElem?_eq_none hle] at h
  cases h
def putVar (h : Array Obj) (g : Nat) (cs : List Value) : Array Obj := h.modify g fun
  | .cells _ t frozen => .cells cs.toArray t frozen
  | o => o
end Go.Gv
