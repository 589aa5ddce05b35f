import Derived.Test.YtjhfmibjphdanaaGreatDoorGl
import Derived.Test.YtjhfmibjphdanaaGreatDoorGk
import Derived.Stop.LaidErr
set_option linter.all false
namespace Go.Gv
open Go Go.Lib
/-! Own work: sentinels and further tables of a row: what the walks ask of them, and a world that holds them. -/
theorem rd_sentinel {P:Program} {w:World} {n:String} {g:Nat} {t:TypeId} {v:Value} (hg:P.globalNamed n=some g) (h:w.var? P n=some #[.iface t v]):Rd eE w (fun k=>k<w.heap.size) (some ⟨g,0,none⟩) 1 [(t,v)]:=by
 refine ⟨Nat.le_refl _,fun i x hx=>?_⟩
 have hi:i=0:=by
  have:=(List.getElem?_eq_some_iff.1 hx).1
  simp at this;exact this
 subst hi
 have hxm:x=(t,v):=by simpa using hx.symm
 subst hxm
 refine ⟨g,0,[.iface t v],rfl,var_lt hg h,rfl,fun j u hj=>?_⟩
 have hj0:j=0:=by
  have:=(List.getElem?_eq_some_iff.1 hj).1
  simp at this;exact this
 subst hj0
 have hv:u= .iface t v:=by simpa using hj.symm
 subst hv
 have:=World.var?_cell hg h 0
 rw[add_lit,show 0+0*eE.n+0=0 by omega]
 simpa using this
/- the cells of a datum of numbers -/
mutual
def cellsD {H:Type}:DataW H→List Value
 | .lit (.int k n)=>[.int k n]
 | .agg a=>cellsDAll a
 | _=>[]
def cellsDAll {H:Type}:List (DataW H)→List Value
 | []=>[]
 | d::r=>cellsD d++cellsDAll r
end
end Go.Gv
