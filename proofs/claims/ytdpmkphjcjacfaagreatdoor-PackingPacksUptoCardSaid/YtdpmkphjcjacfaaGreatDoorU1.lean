import Derived.Test.YtdpmkphjcjacfaaGreatDoorRF
set_option linter.all false
namespace Go.Gv.RI
open Go Go.Gv Go.Gv.D
set_option maxRecDepth 100000

/-! ### products of the reference's numbers -/
theorem vb_set {b : Int} : ∀ {l : List Int} {i : Nat} (h : i < l.length) (x : Int), vb b (l.set i x) = vb b l + b ^ i * (x - l[i])
  | y :: l, 0, _, x => by
    simp [vb]
    omega
  | y :: l, i + 1, h, x => by
    have h' : i < l.length := by simp at h; omega
    have := vb_set (b := b) h' x
    simp only [List.set_cons_succ, vb, List.getElem_cons_succ, this, Int.pow_succ]
    rw [Int.mul_add, ← Int.mul_assoc, Int.mul_comm b (b ^ i), Int.add_assoc]
end Go.Gv.RI
namespace Go.Gv.RI
open Go Go.Gv Go.Gv.D
set_option maxRecDepth 100000
end Go.Gv.RI
namespace Go.Gv.RI
open Go Go.Gv Go.Gv.D
set_option maxRecDepth 100000
end Go.Gv.RI
namespace Go.Gv.RI
open Go Go.Gv Go.Gv.D
set_option maxRecDepth 100000
end Go.Gv.RI
namespace Go.Gv.RI
open Go Go.Gv Go.Gv.D
set_option maxRecDepth 100000
end Go.Gv.RI

