import Derived.Test.YtaeeniomdicclaaDoorL1
set_option linter.all false
namespace Go.Gv.R
open Go Go.Gv Go.Gv.D

/-! ### digits are read -/
def hv (x : UInt8) : Int := nIdxB [48, 49, 50, 51, 52, 53, 54, 55, 56, 57, 97, 98, 99, 100, 101, 102] (x.toNat : Int)
def hn (x : UInt8) : Nat := (hv x).toNat
/-! ### the law's own way -/
theorem sidx_hex {k : Nat} (h : k < 16) : sidx (strOf [48, 49, 50, 51, 52, 53, 54, 55, 56, 57, 97, 98, 99, 100, 101, 102]) (k : Int) = some ((hexT.getD k 0).toNat : Int) := by
  have : ((List.range 16).all fun k => sidx (strOf hexT) ((k : Nat) : Int) == some ((hexT.getD k 0).toNat : Int)) = true := by kernel_rfl
  exact eq_of_beq (List.all_eq_true.1 this k (List.mem_range.2 h))
end Go.Gv.R
namespace Go.Gv.R
open Go Go.Gv Go.Gv.D

/-! ### letters are read -/
end Go.Gv.R
namespace Go.Gv.R
open Go Go.Gv Go.Gv.D

end Go.Gv.R
namespace Go.Gv.R
open Go Go.Gv Go.Gv.D

end Go.Gv.R

