/-
  Own helper lemmas:a region that draws its order,in which boxes are laid beside a chain of calls. No condition of its own.
-/
import Derived.Test.YtbiopeiafkldiaaGreatDoorGa
set_option linter.all false
namespace Go.Gv
open Go.RowKit
structure Thr where
 i:Nat
 d:Nat
 ty:TypeId
 z:Array Value
 s:Option (Nat × Nat)
theorem Ok.app {σ τ:List (Nat × Value)} {tm:Array Value} (h:Ok σ tm) (h':Ok τ tm):Ok (σ++τ) tm:=by
 induction σ with
 | nil=>exact h'
 | cons p σ ih=>exact ⟨h.1,ih h.2⟩
theorem Ok.left {σ τ:List (Nat × Value)} {tm:Array Value} (h:Ok (σ++τ) tm):Ok σ tm:=by
 induction σ with
 | nil=>trivial
 | cons p σ ih=>exact ⟨h.1,ih h.2⟩
theorem Ok.right {σ τ:List (Nat × Value)} {tm:Array Value} (h:Ok (σ++τ) tm):Ok τ tm:=by
 induction σ with
 | nil=>exact h
 | cons p σ ih=>exact ih h.2
def Thr.fin (t:Thr) (σ:List (Nat × Value)):Array Value:=
 match t.s with
 | some (_,x)=>match look σ x with
   | some v=>v.cells
   | none=> #[]
 | none=>t.z
section
variable {P:Program} {R:RR} {n:Nat} {k:List It} {l:List Oper} {M:World} {Ml:List Nat} {q0:List Nat} {mains:List (Nat × List Nat)} {thr:List Thr} {kp:Nat→List Nat}
end
end Go.Gv
