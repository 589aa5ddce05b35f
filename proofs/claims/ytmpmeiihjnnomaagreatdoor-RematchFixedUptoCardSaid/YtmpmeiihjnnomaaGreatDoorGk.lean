/-
  Own rules:append of a string's bytes,append of zeros (make of a length,handed to append). No condition of its own.
-/
import Derived.Lib.AppendStr
import Derived.WideLaws
import Derived.Test.YtmpmeiihjnnomaaGreatDoorGh
set_option linter.all false
namespace Go.Gv
open Go.RowKit
theorem rf_flat {α:Type} {f:α→Value} {hf:∀ x,(f x).oneCell'=true}:∀ (w:World) (X Y:Nat→Prop) (c:List Value) (x:α),(flat f hf).rep w X c x→(flat f hf).rep w Y c x:=fun _ _ _ _ _ h=>h
theorem rf_pr {α β:Type} {E:Enc α} {F:Enc β} (h1:∀ w X Y c x,E.rep w X c x→E.rep w Y c x) (h2:∀ w X Y c x,F.rep w X c x→F.rep w Y c x):∀ (w:World) (X Y:Nat→Prop) (c:List Value) (x:α × β),(prE E F).rep w X c x→(prE E F).rep w Y c x:=
 fun w X Y _ _ ⟨c,d,e,g1,g2⟩=>⟨c,d,e,h1 w X Y _ _ g1,h2 w X Y _ _ g2⟩
def zeros (l:Int):Option (List UInt8):=if 0≤l∧l≤4294967296 then some (List.replicate l.toNat 0) else none
section
variable {P:Program} {R:RR} {n:Nat} {k:List It} {σ σ':List (Nat × Value)} {w:World} {all:Array Oper} {C:World→Prop} {o:Oper} {m:Mk} {rest:List (Oper × Mk)}
end
end Go.Gv
