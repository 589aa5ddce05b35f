/-
  Own rules:append of a string's bytes,append of zeros (make of a length,handed to append). No condition of its own.
-/
import Derived.Lib.AppendStr
import Derived.WideLaws
import Derived.Test.YtjhfmibjphdanaaGreatDoorGh
set_option linter.all false
namespace Go.Gv
open Go.RowKit
theorem rf_flat {α:Type} {f:α→Value} {hf:∀ x,(f x).oneCell'=true}:∀ (w:World) (X Y:Nat→Prop) (c:List Value) (x:α),(flat f hf).rep w X c x→(flat f hf).rep w Y c x:=fun _ _ _ _ _ h=>h
theorem rf_pr {α β:Type} {E:Enc α} {F:Enc β} (h1:∀ w X Y c x,E.rep w X c x→E.rep w Y c x) (h2:∀ w X Y c x,F.rep w X c x→F.rep w Y c x):∀ (w:World) (X Y:Nat→Prop) (c:List Value) (x:α × β),(prE E F).rep w X c x→(prE E F).rep w Y c x:=
 fun w X Y _ _ ⟨c,d,e,g1,g2⟩=>⟨c,d,e,h1 w X Y _ _ g1,h2 w X Y _ _ g2⟩
def ifE (b:Bool) (t:TypeId) (p:Value):Value:=if b then .iface t p else .nilIface
def eE:Enc (TypeId × Value):=flat (fun x=>.iface x.1 x.2) fun _=>rfl
def zeros (l:Int):Option (List UInt8):=if 0≤l∧l≤4294967296 then some (List.replicate l.toNat 0) else none
section
variable {P:Program} {R:RR} {n:Nat} {k:List It} {σ σ':List (Nat × Value)} {w:World} {all:Array Oper} {C:World→Prop} {o:Oper} {m:Mk} {rest:List (Oper × Mk)}
theorem gv_errneq {t:TypeId} {x:Operand} {b:Bool} {te:TypeId} {p:Value} (ss:List Nat) {d:Nat} (hm:m=some false→C w) (hd':o.dst=some d) (hdn:Nat.blt d n=true) (hg:guardB all σ o=some true)
 (hk:(noSel o.op&&known σ o.op.operands.toList)=true) (hop:execOp (evr σ) o=(do pure (.value (← (do eqGuard .neq t x (.const .nilIface) (ifE b te p) .nilIface;binOp .neq t (ifE b te p) .nilIface)))))
 (ht:P.underlying t=some (.interface (P.methodsAt t)))
 (hp:pk ss (put σ d (.bool b))=some σ') (h:Run P R n (.ops all C rest::k) .normal σ' w):Run P R n (.ops all C ((o,m)::rest)::k) .normal σ w:=
 gv_eqv _ ss hm hd' hdn hg hk (fun w' _=>by
  rw[hop]
  cases b with
  | true=>
    have h1:(eqGuard .neq t x (.const .nilIface) (ifE true te p) .nilIface).run P w'= .ok () w':=by simp[eqGuard,ifE]
    have h2:(binOp .neq t (ifE true te p) .nilIface).run P w'= .ok (.bool true) w':=run_neq_held_nil w' t te p ht
    simp[h1,h2]
  | false=>
    have h1:(eqGuard .neq t x (.const .nilIface) (ifE false te p) .nilIface).run P w'= .ok () w':=by simp[eqGuard,ifE]
    have h2:(binOp .neq t (ifE false te p) .nilIface).run P w'= .ok (.bool false) w':=run_neq_nil_nil w' t ht
    simp[h1,h2]) hp h
end
end Go.Gv
