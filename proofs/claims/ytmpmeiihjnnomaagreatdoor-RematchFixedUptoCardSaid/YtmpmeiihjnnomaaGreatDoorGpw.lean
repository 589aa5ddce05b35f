/-
  Own helper texts:the table of the powers of ten,off a row's list. No condition of its own.
-/
import Derived.Test.YtmpmeiihjnnomaaGreatDoorGl
import Derived.Test.YtmpmeiihjnnomaaGreatDoorGq
import Derived.Lib.LaidIn
import GoSem.PinnedTables
import Derived.KernelRfl
set_option linter.all false
namespace Go.Gv
open Go Go.Lib Go.Shelf Go.Proofs
theorem rd_pow10 {P:Program} {w:World} {n:String} {g:Nat} {t e:TypeId} (hg:P.globalNamed n=some g) (hty:(P.globals[g]?).map (·.type)=some t) (ht:P.underlying t=some (.array 20 e)) (he:P.underlying e=some (.int .u64)) (hce:P.cellsOf e=1) (hct:P.cellsOf t=20)
 (h:VarReads P w n (tabData .u64 pow10Tab)):Rd (tabE g pow10C) w (fun k=>k<w.heap.size) (some ⟨g,0,none⟩) 1 [.int .u64 1]:=by
 obtain ⟨g',t',cs,fuel,p,hg',hty',hvar,hd⟩:=h
 obtain rfl:=Option.some.inj (hg.symm.trans hg')
 obtain rfl:=Option.some.inj (hty.symm.trans hty')
 have hcs:=cells_of_tab ht he hce hct hd
 have hcs':cs=pow10C:=by
  unfold pow10C
  rw[← hcs]
 subst hcs'
 have hlt:=var_lt hg hvar
 obtain ⟨u,f,hb⟩:∃ u f,w.heap[g]? =some (.cells pow10C u f):=by
  simp only[World.var?,hg,Option.bind_some]at hvar
  split at hvar
  ·rename_i c u f hh
   cases hvar
   exact ⟨u,f,hh⟩
  ·cases hvar
 have h0:pow10C.toList[0]? =some (.int .u64 1):=rfl
 refine ⟨Nat.le_refl _,fun i x hx=>?_⟩
 have hi:i=0:=by
  have:=(List.getElem?_eq_some_iff.1 hx).1
  simp at this;exact this
 subst hi
 have hxm:x= .int .u64 1:=by simpa using hx.symm
 subst hxm
 refine ⟨g,0,[.int .u64 1],rfl,hlt,⟨rfl,rfl,hlt,u,f,hb⟩,fun j v hj=>?_⟩
 have hj0:j=0:=by
  have:=(List.getElem?_eq_some_iff.1 hj).1
  simp at this;exact this
 subst hj0
 have hv:v= .int .u64 1:=by simpa using hj.symm
 subst hv
 rw[add_lit,show 0+0*(tabE g pow10C).n+0=0 by omega,Lib.cell_of_heap hb,← Array.getElem?_toList]
 exact h0
end Go.Gv
