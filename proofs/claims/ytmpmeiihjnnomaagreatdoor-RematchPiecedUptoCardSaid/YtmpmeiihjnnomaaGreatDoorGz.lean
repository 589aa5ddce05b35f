/-
  Own helper lemmas:slices of slices,rows made and written in place,ranging over a string,structs compared. No condition of its own.
-/
import Derived.Test.YtmpmeiihjnnomaaGreatDoorGy
set_option linter.all false
namespace Go.Gv
open Go.RowKit
/-! ### slices as elements -/
def slE {α:Type} (E:Enc α):Enc (List α) where
 n:=1
 rep w X cs xs:=∃ a cap,cs=[.slice a xs.length cap]∧Rd E w X a cap xs
 len:=fun ⟨_,_,e,_⟩=>by rw[e];rfl
 one:=fun ⟨_,_,e,_⟩ v hv=>by rw[e]at hv;rw[List.mem_singleton.1 hv];rfl
 keep:=fun ⟨a,cap,e,h⟩ hk=>⟨a,cap,e,h.keep hk⟩
 wide:=fun ⟨a,cap,e,h⟩ hk=>⟨a,cap,e,h.wide hk⟩
theorem add_zero' (A:Addr):A.add 0=A:=by unfold Addr.add;rw[if_pos rfl]
def RowS {α:Type} (E:Enc α) (w:World) (X:Nat→Prop):List Value→List (List α)→Prop
 | [],[]=>True
 | v::vs,x::xs=>(∃ a cap,v= .slice a x.length cap∧Rd E w X a cap x)∧RowS E w X vs xs
 | _,_=>False
theorem RowS.at {α:Type} {E:Enc α} {w:World} {X:Nat→Prop}:∀ {vs:List Value} {xs:List (List α)},RowS E w X vs xs→vs.length=xs.length∧∀ (i:Nat) (x:List α),xs[i]? =some x→∃ a cap,vs[i]? =some (Value.slice a x.length cap)∧Rd E w X a cap x
 | [],[],_=>⟨rfl,fun i x hx=>by simp at hx⟩
 | v::vs,y::ys,⟨⟨a,cap,e,hr⟩,h⟩=>by
   obtain ⟨h1,h2⟩:=RowS.at h
   refine ⟨by simp[h1],fun i x hx=>?_⟩
   cases i with
   | zero=>cases hx;exact ⟨a,cap,by rw[e];rfl,hr⟩
   | succ i=>exact h2 i x (by simpa using hx)
 | [],_::_,h=>h.elim
 | _::_,[],h=>h.elim
theorem grown_step {a b c:World} {p:Nat} {r:Option Nat} (h:a.grownBy b (some p)) (h':b.grownBy c r) (hr:∀ g,r=some g→g=p∨a.heap.size≤g):a.grownBy c (some p):=
 ⟨h'.os.trans h.os,h'.tape.trans h.tape,h'.output.trans h.output,Nat.le_trans h.size h'.size,fun k hk hne=>(h'.block k (Nat.lt_of_lt_of_le hk h.size) fun e=>by
   rcases hr k e.symm with h1 | h1
   ·exact hne (by rw[h1])
   ·omega).trans (h.block k hk hne)⟩
/-! ### make, stores -/
def mk {α:Type} (n:Int) (z:α):Option (List α):=if 0≤n∧n≤1073741824 then some (List.replicate n.toNat z) else none
theorem mk_spec {α:Type} {n:Int} {z:α} {xs:List α} (h:mk n z=some xs):0≤n∧n≤1073741824∧xs=List.replicate n.toNat z:=by
 unfold mk at h
 split at h
 ·rename_i hh;cases h;exact ⟨hh.1,hh.2,rfl⟩
 ·cases h
theorem upd_spec {α:Type} {xs ys:List α} {i:Int} {x:α} (h:upd xs i x=some ys):0≤i∧i<xs.length∧ys=xs.set i.toNat x:=by
 unfold upd at h
 split at h
 ·rename_i hh;cases h;exact ⟨hh.1,hh.2,rfl⟩
 ·cases h
section
variable {P:Program} {R:RR} {n:Nat} {k:List It} {σ σ':List (Nat × Value)} {w:World} {all:Array Oper} {C:World→Prop} {o:Oper} {m:Mk} {rest:List (Oper × Mk)}
theorem gv_eqs {op:BinOp} {t:TypeId} {x y:Operand} {xs ys:Array Value} (b:Bool) (ss:List Nat) {d:Nat} (hm:m=some false→C w) (hd':o.dst=some d) (hdn:Nat.blt d n=true) (hg:guardB all σ o=some true)
 (hk:(noSel o.op&&known σ o.op.operands.toList)=true) (hop:execOp (evr σ) o=(do pure (.value (← (do eqGuard op t x y (.agg xs) (.agg ys);binOp op t (.agg xs) (.agg ys)))))) (he:∀ w,(do eqGuard op t x y (.agg xs) (.agg ys);binOp op t (.agg xs) (.agg ys):Sem Value).run P w= .ok (.bool b) w)
 (hp:pk ss (put σ d (.bool b))=some σ') (h:Run P R n (.ops all C rest::k) .normal σ' w):Run P R n (.ops all C ((o,m)::rest)::k) .normal σ w:=
 gv_eqv _ ss hm hd' hdn hg hk (fun w' _=>by
  rw[hop,Sem.run_bind,he w']
  simp[Result.andThen]) hp h
end
end Go.Gv
