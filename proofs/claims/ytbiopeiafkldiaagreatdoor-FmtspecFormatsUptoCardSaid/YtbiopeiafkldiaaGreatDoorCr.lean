import Derived.Test.YtbiopeiafkldiaaGreatDoorProg
import Derived.Shelf.LaysM
import Derived.Test.YtbiopeiafkldiaaGreatDoorGl
import Derived.Test.YtbiopeiafkldiaaGreatDoorGq
import Derived.Lib.LaidIn
import Derived.Lib.LaidCaseMet
import GoSem.PinnedTables
import Derived.KernelRfl
set_option linter.all false
namespace Go.Gv
open Go Go.Lib Go.Shelf Go.Proofs
/-! Own work: the letters' table unicode.CaseRanges as one piece of a row's listed variables (its reading by the kit's law). -/
theorem case_in {P:Program} {ρ:Ren} (L:Lays.n274 P ρ) (t206:P.underlying (ρ.t 206)=some (.array 3 (ρ.t 21))) (X:CaseExtra P ρ) {w:World} (R:Nat) (t:TypeId) (hgR:ρ.g 13≠R)
 (hvar:w.heap[ρ.g 13]? =some (.cells #[.slice (some ⟨R,0,none⟩) caseA.size caseA.size] (ρ.t 162) (0,0))) (hblk:w.heap[R]? =some (.cells caseCells5 t (0,0))):
 LaidIn P w [("unicode.CaseRanges", caseData)] [ρ.g 13, R] := by
 have hread:=case_slice_reads L t206 X (caseTab_of_block hblk) caseA_wf (by rw[caseA_size];unfold maxLen;omega) 0
 rw[case_rows_data]at hread
 have hv : w.var? P "unicode.CaseRanges" = some #[.slice (some ⟨R, 0, none⟩) caseA.size caseA.size] := by simp [World.var?, X.n13, hvar]
 have hrows:=rows_nodup [(⟨ρ.g 13,0,none⟩,1),(⟨R,0,none⟩,caseA.size*5)] (by simpa using hgR)
 simp only[List.flatMap_cons,List.flatMap_nil,List.append_nil]at hrows
 refine LaidIn.one [ρ.g 13,R] X.n13 X.y13 hv hread hrows (fun b off hp=>?_) (fun x hx=>?_)
 ·rcases List.mem_append.1 hp with hp | hp
  ·obtain ⟨i,hi,e⟩:=MemPlace.mem_row.1 hp
   cases e
   have hi:i<1:=hi
   obtain rfl:i=0:=by omega
   refine ⟨⟨_,_,hvar⟩,fun u v hc=>?_⟩
   rw[Lib.cell_of_heap hvar]at hc
   simp at hc
  ·obtain ⟨i,hi,e⟩:=MemPlace.mem_row.1 hp
   cases e
   refine ⟨⟨_,_,hblk⟩,fun u v hc=>?_⟩
   simp only at hc
   rw[Lib.cell_of_heap hblk]at hc
   have hm:=Array.mem_of_getElem? hc
   unfold caseCells5 at hm
   rw[List.mem_toArray,List.mem_flatMap]at hm
   obtain ⟨x,_,hx⟩:=hm
   simp[cells5]at hx
 ·rcases List.mem_append.1 hx with hx | hx<;>obtain ⟨i,_,rfl⟩:=MemPlace.mem_row.1 hx<;>simp[MemPlace.block]
/-- the table of the powers of ten, off a row's list -/
theorem rd_pow10 {P:Program} {w:World} {n:String} {g:Nat} {t e:TypeId} (hg:P.globalNamed n=some g) (hty:(P.globals[g]?).map (·.type)=some t) (ht:P.underlying t=some (.array 20 e)) (he:P.underlying e=some (.int .u64)) (hce:P.cellsOf e=1) (hct:P.cellsOf t=20)
 (h:VarReads P w n (tabData .u64 pow10Tab)):Rd (tabE g pow10C) w (fun k=>k<w.heap.size) (some ⟨g,0,none⟩) 1 [.int .u64 1]:=by
 obtain ⟨g',t',cs,fuel,p,hg',hty',hvar,hd⟩:=h
 obtain rfl:=Option.some.inj (hg.symm.trans hg')
 obtain rfl:=Option.some.inj (hty.symm.trans hty')
 have hcs:=cells_of_tab ht he hce hct hd
 have hcs':cs=pow10C:=by
  unfold pow10C
  rw[← hcs]
 subst hcs'
 have hlt:=var_lt hg hvar
 obtain ⟨u,f,hb⟩:∃ u f,w.heap[g]? =some (.cells pow10C u f):=by
  simp only[World.var?,hg,Option.bind_some]at hvar
  split at hvar
  ·rename_i c u f hh
   cases hvar
   exact ⟨u,f,hh⟩
  ·cases hvar
 have h0:pow10C.toList[0]? =some (.int .u64 1):=rfl
 refine ⟨Nat.le_refl _,fun i x hx=>?_⟩
 have hi:i=0:=by
  have:=(List.getElem?_eq_some_iff.1 hx).1
  simp at this;exact this
 subst hi
 have hxm:x= .int .u64 1:=by simpa using hx.symm
 subst hxm
 refine ⟨g,0,[.int .u64 1],rfl,hlt,⟨rfl,rfl,hlt,u,f,hb⟩,fun j v hj=>?_⟩
 have hj0:j=0:=by
  have:=(List.getElem?_eq_some_iff.1 hj).1
  simp at this;exact this
 subst hj0
 have hv:v= .int .u64 1:=by simpa using hj.symm
 subst hv
 rw[add_lit,show 0+0*(tabE g pow10C).n+0=0 by omega,Lib.cell_of_heap hb,← Array.getElem?_toList]
 exact h0
/-- the numbers that the table's law names, in this program -/
def caseRen:Ren:=⟨fun n=>if n=274 then 220 else n,fun n=>if n=21 then 21 else if n=162 then 261 else if n=160 then 267 else if n=3 then 3 else if n=4 then 4 else if n=46 then 153 else if n=0 then 0 else if n=208 then 275 else if n=51 then 47 else if n=206 then 273 else n,fun n=>if n=13 then 6 else n⟩
theorem caseLays:Lays.n274 Tryz.prog caseRen:=by constructor<;>first | kernel_rfl | (intro w;kernel_rfl)
theorem caseExtra:CaseExtra Tryz.prog caseRen:=⟨by kernel_rfl,by kernel_rfl,by kernel_rfl,by kernel_rfl,by kernel_rfl,by kernel_rfl⟩
set_option maxRecDepth 100000 in
theorem caseEq:Go.Pinned.caseRanges=Lib.caseData:=by kernel_rfl
theorem case_laid {w:World} (R:Nat) (hgR:6≠R) (hvar:w.heap[6]? =some (.cells #[.slice (some ⟨R,0,none⟩) 336 336] 261 (0,0))) (hblk:w.heap[R]? =some (.cells caseCells5 275 (0,0))):
 LaidIn Tryz.prog w [("unicode.CaseRanges", Go.Pinned.caseRanges)] [6, R] := by
 rw[caseEq]
 exact case_in caseLays (by kernel_rfl) caseExtra R 275 hgR (by rw[caseA_size];exact hvar) hblk
end Go.Gv
