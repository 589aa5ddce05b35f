import Derived.Test.YtmpmeiihjnnomaaGreatDoorGl
import Derived.Test.YtmpmeiihjnnomaaGreatDoorGq
import Derived.Lib.LaidIn
import GoSem.PinnedTables
import Derived.KernelRfl
set_option linter.all false
namespace Go.Gv
open Go Go.Lib Go.Shelf Go.Proofs
theorem zmm {P:Program} {w:World} {n:String} {g:Nat} {t e:TypeId} (hg:P.globalNamed n=some g) (hty:(P.globals[g]?).map (·.type)=some t) (ht:P.underlying t=some (.array 20 e)) (he:P.underlying e=some (.int .u64)) (hce:P.cellsOf e=1) (hct:P.cellsOf t=20)
 (h:VarReads P w n (tabData .u64 pow10Tab)):Rd (zsl g pow10C) w (fun k=>k<w.heap.size) (some ⟨g,0,none⟩) 1 [.int .u64 1]:=by
 obtain ⟨g',t',cs,s,p,q,d,a,hd⟩:=h
 obtain rfl:=Option.some.inj (hg.symm.trans q)
 obtain rfl:=Option.some.inj (hty.symm.trans d)
 have r:=cells_of_tab ht he hce hct hd
 have l:cs=pow10C:=by
  unfold pow10C
  rw[<- r]
 subst l
 have b:=zne hg a
 obtain ⟨u,f,hb⟩:∃ u f,w.heap[g]? =some (.cells pow10C u f):=by
  simp only[World.var?,hg,Option.bind_some]at a
  split at a
  ·rename_i c u f hh
   cases a
   exact ⟨u,f,hh⟩
  ·cases a
 have h0:pow10C.toList[0]? =some (.int .u64 1):=rfl
 refine ⟨Nat.le_refl _,fun i x hx=>?_⟩
 have hi:i=0:=by
  have:=(List.getElem?_eq_some_iff.1 hx).1
  simp at this;exact this
 subst hi
 have m:x= .int .u64 1:=by simpa using hx.symm
 subst m
 refine ⟨g,0,[.int .u64 1],rfl,b,⟨rfl,rfl,b,u,f,hb⟩,fun j v hj=>?_⟩
 have o:j=0:=by
  have:=(List.getElem?_eq_some_iff.1 hj).1
  simp at this;exact this
 subst o
 have hv:v= .int .u64 1:=by simpa using hj.symm
 subst hv
 rw[add_lit,show 0+0*(zsl g pow10C).n+0=0 by omega,Lib.cell_of_heap hb,<- Array.getElem?_toList]
 exact h0
end Go.Gv
