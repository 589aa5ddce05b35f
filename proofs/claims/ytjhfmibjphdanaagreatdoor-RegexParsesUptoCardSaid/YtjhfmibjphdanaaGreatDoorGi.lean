/-
  Own rules:slices of runes,texts of code points,arrays as values. No condition of its own.
-/
import Derived.Laws.Cover4
import Derived.Laws.IdiomStrings
import Derived.Laws.Runes
import Derived.Test.YtjhfmibjphdanaaGreatDoorGh
set_option linter.all false
namespace Go.Gv
open Go.RowKit
/-! ### pure counterparts -/
section
variable {P:Program} {R:RR} {n:Nat} {k:List It} {σ σ':List (Nat × Value)} {w:World} {all:Array Oper} {C:World→Prop} {o:Oper} {m:Mk} {rest:List (Oper × Mk)}
theorem gv_i2s {src dst:TypeId} {kk:IntKind} {x:Int} (ss:List Nat) {d:Nat} (hm:m=some false→C w) (hd':o.dst=some d) (hdn:Nat.blt d n=true) (hg:guardB all σ o=some true)
 (hk:(noSel o.op&&known σ o.op.operands.toList)=true) (hop:execOp (evr σ) o=(do pure (.value (← convert src dst (.int kk x)))))
 (hs:(P.underlying src).isSome=true) (hd2:P.underlying dst=some .string)
 (hp:pk ss (put σ d (.string (Utf8.encode x)))=some σ') (hrest:Run P R n (.ops all C rest::k) .normal σ' w):Run P R n (.ops all C ((o,m)::rest)::k) .normal σ w:=
 gv_eqv _ ss hm hd' hdn hg hk (fun w' _=>by
  rw[hop]
  simp only[Sem.run_bind,run_convert_int_string w' src dst kk x hs hd2,Result.andThen,Sem.run_pure]) hp hrest
end
end Go.Gv
