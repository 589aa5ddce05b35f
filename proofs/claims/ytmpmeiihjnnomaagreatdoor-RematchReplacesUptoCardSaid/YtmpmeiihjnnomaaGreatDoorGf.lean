import Derived.Lib.Bytealg
import Derived.Laws.Externs
import Derived.Test.YtmpmeiihjnnomaaGreatDoorGe
set_option linter.all false
namespace Go.Gv
open Go.RowKit
def nIdxB (l:List UInt8) (c:Int):Int:=Lib.indexByte l c.toNat.toUInt8
def utf8First:List UInt8:=List.replicate 128 240++List.replicate 66 241++List.replicate 30 2++[19]++List.replicate 12 3++[35,3,3,52]++List.replicate 3 4++[68]++List.replicate 11 241
theorem zsB:utf8First.length=256:=by
 unfold utf8First
 simp only[List.length_append,List.length_replicate,List.length_cons,List.length_nil]
def utf8Acc:List (Int × Int):=[(128,191),(160,191),(128,159),(144,191),(128,143)]++List.replicate 11 (0,0)
theorem ztK:utf8Acc.length=16:=by simp[utf8Acc]
def Native (P:Program) (f:FuncId) (e:Array Value->Sem Value):Prop:=
 ∃ fn, P.funcs[f]? = some fn ∧ (fn.name == "runtime.NumGoroutine") = false ∧ fn.body.isNone = true ∧ Extern.findNext fn = none ∧ Extern.find fn = some e
section
variable {P:Program} {R:RR} {n:Nat} {k:List It} {σ σ':List (Nat × Value)} {w:World} {all:Array Oper} {C:World->Prop} {o:Oper} {m:Mk} {rest:List (Oper × Mk)}
theorem zj5 {x:Operand} {xs:Array Operand} {tys:Array TypeId} {f:FuncId} {vs:List Value} {e:Array Value->Sem Value} (v:Value) (ss:List Nat) {d:Nat} (hm:m=some false->C w) (hd':o.dst=some d) (hdn:Nat.blt d n=true) (hg:zza all σ o=some true)
 (hk:(zyQ o.op&&zyi σ o.op.operands.toList)=true) (ho:o.op= .call { callee:=.value x,args:=xs,argTypes:=tys}) (hx:evr σ x= .func (.func f) #[] #[]) (hxs:xs.map (evr σ)=vs.toArray) (hf:Native P f e)
 (hr:∀ w',Inw m C w w'->(e vs.toArray).run P w'= .ok v w')
 (hp:pk ss (put σ d v)=some σ') (h:Run P R n (.ops all C rest::k) .normal σ' w):Run P R n (.ops all C ((o,m)::rest)::k) .normal σ w:=
 zxT v ss hm hd' hdn hg hk (fun w' a=>by
  obtain ⟨fn,h1,h2,h3,h4,h5⟩:=hf
  have:=run_callFunc_extern h1 h2 h3 h4 h5 vs.toArray w'
  rw[hr w' a]at this
  have e1:(execOp (evr σ) o).run P w'=(callFunc f vs.toArray).run P w':=by
   unfold execOp
   rw[ho]
   simp[resolve,hx,hxs,Deferred.ofValue,invoke]
  rw[e1,this]
  rfl) hp h
end
theorem zlp {P:Program} (s:ByteArray) (c:Int) (w:World):(Extern.BytealgIndexByte.indexByte [.string s,.int .u8 c].toArray).run P w= .ok (.int .i64 (nIdxB (bytesOf s) c)) w:=
 Lib.run_indexByteString s c w
end Go.Gv
