import Derived.Test.YtkmcegicngjhbaaDoorM6
set_option linter.all false
namespace Go.Gv.R
open Go Go.Gv Go.Gv.D Go.Lib

/-! the program's search -/
end Go.Gv.R
namespace Go.Gv.R
open Go Go.Gv Go.Gv.D Go.Lib

/-! joined lists -/
/-- lengths: by points, and by bytes -/
def lenS (f : List Nat → Nat) (l : List (List Nat)) : Nat := (l.map f).sum
/-! the program's divisions -/
theorem pieces_tot {l : List ByteArray} : Tot (fun n => textstr_pieces n l) (fun r => r = if 1000 < l.length then ([], (2, -1)) else (l, (0, 0))) := by
  unfold textstr_pieces
  refine Tot.ite (fun h => ?_) fun h => ?_
  · have h := of_decide_eq_true h
    exact Tot.bindq (tat_tot _ _) fun r hr => Tot.ret (by rw [if_pos (by omega), hr])
  · have h := of_decide_eq_false h
    exact Tot.ret (by rw [if_neg (by omega)])
def strs (l : List (List Nat)) : List ByteArray := l.map fun x => strOf (enc x)
end Go.Gv.R
namespace Go.Gv.R
open Go Go.Gv Go.Gv.D Go.Lib

end Go.Gv.R
namespace Go.Gv.R
open Go Go.Gv Go.Gv.D Go.Lib

/-! occurrences from the end -/
/-! as many from the end as from the beginning -/
end Go.Gv.R

