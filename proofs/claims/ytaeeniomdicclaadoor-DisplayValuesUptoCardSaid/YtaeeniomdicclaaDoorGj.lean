import Derived.Shelf.Strings.BuilderRune
import Derived.Shelf.Strings.BuilderCap
import Derived.Shelf.Strings.Builder2Cap
import Derived.Test.YtaeeniomdicclaaDoorGi
set_option linter.all false
namespace Go.Gv
open Go.RowKit
def Bld (T e:TypeId) (w:World) (b:Nat):Option (List UInt8)->Prop
 | none=>Box w b T #[.pointer none,.slice none 0 0]
 | some bs=>Lib.IsBuilderF T e b b (Lib.byteCells bs) w∧∃ v,w.cell? ⟨b,1,none⟩=some v∧0<v.capOf
theorem zq1 {T e:TypeId} {B b:Nat} {bs:List Value} {w:World} (h:Lib.IsBuilderF T e B b bs w):b<w.heap.size:=by
 rcases h with h | h<;>exact Lib.BuilderAtF.lt h
theorem Bld.lt {T e:TypeId} {w:World} {b:Nat} {x:Option (List UInt8)} (h:Bld T e w b x):b<w.heap.size:=by
 cases x with
 | none=>exact Box.lt h
 | some bs=>exact zq1 h.1
theorem zsk {T e:TypeId} {b:Nat} {bs:List Value} {w w':World} {row:Option Nat} (h:Lib.IsBuilderF T e b b bs w) (hg:w.grownBy w' row)
 (hr:∀ g,row=some g->g≠b∧(g<b∨∀ c fz,w.heap[g]? ≠some (.cells c e fz))):Lib.IsBuilderF T e b b bs w':=by
 have one:∀ p,Lib.BuilderAtF T e b b p bs w->Lib.BuilderAtF T e b b p bs w':=by
  intro p h
  have d:=h.lt
  obtain ⟨hB,v,hv,a,f⟩:=h
  refine ⟨hB,v,(hg.block b d fun e=>(hr b e.symm).1 rfl).trans hv,a.kept hg ?_,f⟩
  cases row with
  | none=>exact Classical.em _
  | some g=>
    refine .inr fun e1=>?_
    obtain ⟨c,fz,hc⟩:=Lib.ownsRowF_kind a g e1
    rcases (hr g rfl).2 with h2 | h2
    ·rcases a.2 with ⟨rfl,_⟩ | ⟨g',cap,cur,fz',rfl,hbg,_⟩
     ·simp[Value.ownBlock]at e1
     ·simp[Value.ownBlock]at e1;omega
    ·exact h2 c fz hc
 exact h.elim (fun h=>.inl (one _ h)) fun h=>.inr (one _ h)
theorem Bld.grown {T e:TypeId} {w w':World} {b:Nat} {x:Option (List UInt8)} {row:Option Nat} (h:Bld T e w b x) (hg:w.grownBy w' row)
 (hr:∀ g,row=some g->g≠b∧(g<b∨∀ c fz,w.heap[g]? ≠some (.cells c e fz))):Bld T e w' b x:=by
 cases x with
 | none=>exact Box.grown h hg fun g e=>(hr g e).1
 | some bs=>
   obtain ⟨h1,v,hv,hc⟩:=h
   have d:=zq1 h1
   exact ⟨zsk h1 hg hr,v,by rw[World.cell?_of_block (w:=w) (hg.block b d fun e=>(hr b e.symm).1 rfl)];exact hv,hc⟩
section
open Go.Proofs Go.Shelf
variable {P:Program} {ρ:Ren}
end
theorem Box.part {w:World} {b:Nat} {t:TypeId} {cs:Array Value} (h:Box w b t cs) (off:Nat) (l:List Value) (hl:(cs.toList.drop off).take l.length=l):zyZ w ⟨b,off,none⟩ l:=fun j v hv=>by
 rw[add_lit]
 have hj:j<l.length:=by
  rcases Nat.lt_or_ge j l.length with e | e
  ·exact e
  ·rw[List.getElem?_eq_none e]at hv;cases hv
 refine h.cell (off+j) ?_
 rw[<- hl,List.getElem?_take_of_lt hj,List.getElem?_drop]at hv
 simpa using hv
end Go.Gv
