import Derived.Test.YtaeeniomdicclaaDoorGh
import Derived.Deep.DeepHandedRow
import Derived.Deep.DeepWitnessRowRef
import Derived.Lib.LaidIn
import Derived.Lib.LaidU8
import Derived.Shelf.Vars
set_option linter.all false
namespace Go.Gv
open Go Go.Lib
theorem zpr {P:Program} {w:World} {n:String} {g:Nat} {cs:Array Value} (hg:P.globalNamed n=some g) (h:w.var? P n=some cs):g<w.heap.size:=by
 refine Nat.lt_of_not_le fun b=>?_
 simp only[World.var?,hg,Option.bind_some]at h
 rw[Array.getElem?_eq_none b]at h
 cases h
theorem zoV {P:Program} {w:World} {n:String} {g:Nat} {t e:TypeId} {m:Nat} {zs:List UInt8} (hg:P.globalNamed n=some g) (hty:(P.globals[g]?).map (·.type)=some t) (ht:P.underlying t=some (.array m e)) (he:P.underlying e=some (.int .u8)) (hce:P.cellsOf e=1) (hct:P.cellsOf t=m)
 (h:VarReads P w n (tabData .u8 (zs.map fun z=>(z.toNat:Int)))):Rd bE w (fun k=>k<w.heap.size) (some ⟨g,0,none⟩) zs.length zs:=by
 obtain ⟨g',t',cs,o,p,f,c,b,hd⟩:=h
 obtain rfl:=Option.some.inj (hg.symm.trans f)
 obtain rfl:=Option.some.inj (hty.symm.trans c)
 have d:=cells_of_tab ht he hce hct hd
 refine ⟨Nat.le_refl _,fun i x hx=>⟨g,0,[.int .u8 x.toNat],rfl,zpr hg b,rfl,fun j v hj=>?_⟩⟩
 have l:j=0:=by
  have:=(List.getElem?_eq_some_iff.1 hj).1
  simp at this;exact this
 subst l
 have hv:v= .int .u8 x.toNat:=by simpa using hj.symm
 subst hv
 have:=World.var?_cell hg b i
 rw[add_lit,show 0+i*bE.n+0=i by show 0+i*1+0=i;omega,this,<- Array.getElem?_toList,d]
 simp[hx]
theorem zrN {P:Program} {w:World} {n:String} {g:Nat} {t s:TypeId} {m:Nat} {fs:Array Field} {zs:List (Int × Int)} (hm:zs.length=m) (hg:P.globalNamed n=some g) (hty:(P.globals[g]?).map (·.type)=some t) (ht:P.underlying t=some (.array m s)) (hs:P.underlying s=some (.struct fs)) (hcs:P.cellsOf s=2) (hfs:fs.size=2)
 (hf:∀ (i:Nat) (f:Field),fs[i]? =some f->P.underlying f.type=some (.int .u8)∧f.offset=i∧P.cellsOf f.type=1)
 (h:VarReads P w n (.agg (zs.map fun z=>.agg [.lit (.int .u8 z.1),.lit (.int .u8 z.2)]))):Rd (prE (iE .u8) (iE .u8)) w (fun k=>k<w.heap.size) (some ⟨g,0,none⟩) zs.length zs:=by
 obtain ⟨g',t',cs,aa,p,u,o,b,hd⟩:=h
 obtain rfl:=Option.some.inj (hg.symm.trans u)
 obtain rfl:=Option.some.inj (hty.symm.trans o)
 refine ⟨Nat.le_refl _,fun i x hx=>⟨g,0,[.int .u8 x.1,.int .u8 x.2],rfl,zpr hg b,⟨[.int .u8 x.1],[.int .u8 x.2],rfl,rfl,rfl⟩,fun j v hj=>?_⟩⟩
 have hi:i<m:=by have:=(List.getElem?_eq_some_iff.1 hx).1;omega
 obtain ⟨y,d,q,c,l⟩:=array_elem ht hd i hi
 simp only[List.getElem?_map,hx,Option.map_some,Option.some.injEq]at c
 subst c
 rw[hcs]at l
 have hc:=ints_of_struct (zs:=[x.1,x.2]) hs hf (by rw[hcs,hfs]) l
 have e:((cs.toList.drop (i*2)).take 2)[j]? =some v:=by rw[hc];exact hj
 have r:j<2:=by
  have:=(List.getElem?_eq_some_iff.1 hj).1
  simpa using this
 rw[List.getElem?_take,if_pos r,List.getElem?_drop]at e
 have:=World.var?_cell hg b (i*2+j)
 rw[add_lit,show 0+i*(prE (iE .u8) (iE .u8)).n+j=i*2+j by show 0+i*(1+1)+j=i*2+j;omega,this,<- Array.getElem?_toList,e]
theorem zpH {w:World} {g:Nat} {k:IntKind} (h:∃ m,w.cell? ⟨g,0,none⟩=some (.int k m)):∃ m,Rd (iE k) w (fun k=>k<w.heap.size) (some ⟨g,0,none⟩) 1 [m]:=by
 obtain ⟨m,hm⟩:=h
 refine ⟨m,Nat.le_refl _,fun i x hx=>?_⟩
 have hi:i=0:=by
  have:=(List.getElem?_eq_some_iff.1 hx).1
  simp at this;exact this
 subst hi
 have b:x=m:=by simpa using hx.symm
 subst b
 refine ⟨g,0,[.int k x],rfl,Nat.lt_of_not_le fun c=>?_,rfl,fun j v hj=>?_⟩
 ·unfold World.cell? at hm
  rw[Array.getElem?_eq_none c]at hm
  cases hm
 ·have d:j=0:=by
   have:=(List.getElem?_eq_some_iff.1 hj).1
   simp at this;exact this
  subst d
  have hv:v= .int k x:=by simpa using hj.symm
  subst hv
  rw[add_lit,show 0+0*(iE k).n+0=0 by omega]
  exact hm
def zps (h:Array Obj) (g:Nat) (cs:List Value):Array Obj:=h.modify g fun
 | .cells _ t frozen=>.cells cs.toArray t frozen
 | o=>o
end Go.Gv
