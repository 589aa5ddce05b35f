import Derived.Test.YtmpmeiihjnnomaaGreatDoorGf
import GoSem.Instr.MapUpdate
import Derived.Laws.IdiomStrings
import Derived.Laws.RangeString
set_option linter.all false
namespace Go.Gv
open Go.RowKit
theorem zwU {a b c:World} {p r:Option Nat} (h:a.grownBy b p) (h':b.grownBy c r) (hr:∀ g,r=some g->p=some g∨a.heap.size<=g):a.grownBy c p:=
 ⟨h'.os.trans h.os,h'.tape.trans h.tape,h'.output.trans h.output,Nat.le_trans h.size h'.size,fun k hk d=>(h'.block k (Nat.lt_of_lt_of_le hk h.size) fun e=>by
   rcases hr k e.symm with h1 | h1
   ·exact d h1.symm
   ·omega).trans (h.block k hk d)⟩
theorem zjc {a a':Option Addr} {z:Nat} (hk:blk a'=blk a∨∃ g,blk a'=some g∧z<=g):∀ g,blk a'=some g->blk a=some g∨z<=g:=fun g e=>by
 rcases hk with h | ⟨g',h,h'⟩
 ·exact .inl (h ▸ e)
 ·rw[h]at e;cases e;exact .inr h'
theorem zrb {a a':Option Addr} {s z:Nat} (hk:∀ g,blk a'=some g->blk a=some g∨z<=g) (hl:∀ g,blk a=some g->s<=g) (hz:s<=z):∀ g,blk a'=some g->s<=g:=fun g e=>by
 rcases hk g e with h | h
 ·exact hl g h
 ·omega
theorem zoh {a a':Option Addr} {p:Option Nat} {s z:Nat} (hk:∀ g,blk a'=some g->blk a=some g∨z<=g) (hl:∀ g,blk a=some g->p=some g∨s<=g) (hz:s<=z):∀ g,blk a'=some g->p=some g∨s<=g:=fun g e=>by
 rcases hk g e with h | h
 ·exact hl g h
 ·exact .inr (by omega)
theorem zlb {a a':Option Addr} {X:Nat->Prop} {z:Nat} (hk:∀ g,blk a'=some g->blk a=some g∨z<=g) (hl:∀ g,blk a=some g->¬ X g) (hz:∀ k,X k->k<z):∀ g,blk a'=some g->¬ X g:=fun g e e'=>by
 rcases hk g e with h | h
 ·exact hl g h e'
 ·have:=hz _ e';omega
theorem zm8 {a a':Option Addr} {z p:Nat} (hk:∀ g,blk a'=some g->blk a=some g∨z<=g) (h1:blk a≠some p) (h2:p<z):blk a'≠some p:=fun e=>by
 rcases hk p e with h | h
 ·exact h1 h
 ·omega
def At (w:World) (b:Nat) (o:Obj):Prop:=w.heap[b]? =some o
theorem At.lt {w:World} {b:Nat} {o:Obj} (h:At w b o):b<w.heap.size:=(Array.getElem?_eq_some_iff.1 h).1
theorem At.grown {w w':World} {b:Nat} {o:Obj} {row:Option Nat} (h:At w b o) (hg:w.grownBy w' row) (hr:∀ g,row=some g->g≠b):At w' b o:=by
 unfold At
 rw[hg.block b h.lt fun e=>hr b e.symm rfl]
 exact h
def zqV (s:ByteArray) (pos:Nat):Int:=((Utf8.decode s pos).1:Nat)
def zsA (s:ByteArray) (pos:Nat):Nat:=(Utf8.decode s pos).2
section
variable {P:Program} {R:RR} {n:Nat} {k:List It} {σ σ':List (Nat × Value)} {w:World} {all:Array Oper} {C:World->Prop} {o:Oper} {m:Mk} {rest:List (Oper × Mk)}
theorem zld {t:TypeId} {s:ByteArray} (hb:zjK n all σ o m=true) (hop:execOp (evr σ) o=(do pure (.value (<- Instr.range t (.string s))))) (ht:P.underlying t=some .string)
 (h:∀ b w',w.grownBy w' none->At w' b (.stringIter s 0)->b=w.heap.size->w'.heap.size=w.heap.size+1->Run P R n (.ops all C rest::k) .normal (zuz σ o.dst (.pointer (some ⟨b,0,none⟩))) w'):
 Run P R n (.ops all C ((o,m)::rest)::k) .normal σ w:=by
 obtain ⟨rfl,h1,h2,h3⟩:=zrt hb
 refine zx2 (fun v w'=>v= .pointer (some ⟨w.heap.size,0,none⟩)∧w'=w.alloc (.stringIter s 0)) (by decide) h1 h2 h3 ⟨_,_,.inl ?_,rfl,rfl⟩ fun v w' ⟨hv,hw⟩=>?_
 ·rw[hop,Sem.run_bind,run_range_string w t s ht]
  rfl
 ·subst hv;subst hw
  exact ⟨fun e=>(by cases e),h _ _ (zwT w _) (heap_alloc_new w _) rfl (by simp)⟩
theorem zjZ {b:Nat} {s:ByteArray} {pos:Nat} {ty:TypeId} (hb:zjK n all σ o m=true) (hop:execOp (evr σ) o=(do pure (.value (<- Instr.next (.pointer (some ⟨b,0,none⟩)) true ty)))) (hi:At w b (.stringIter s pos))
 (hT:decide (pos<s.size)=true->∀ w',w.grownBy w' (some b)->At w' b (.stringIter s (pos+zsA s pos))->w'.heap.size=w.heap.size->Run P R n (.ops all C rest::k) .normal (zuz σ o.dst (.tuple #[.bool true,.int .i64 (pos:Nat),.int .i32 (zqV s pos)])) w')
 (hF:decide (pos<s.size)=false->Run P R n (.ops all C rest::k) .normal (zuz σ o.dst (.tuple #[.bool false])) w):
 Run P R n (.ops all C ((o,m)::rest)::k) .normal σ w:=by
 obtain ⟨rfl,h1,h2,h3⟩:=zrt hb
 have c:w.heap[b]? =some (.stringIter s pos):=hi
 by_cases hp:pos<s.size
 ·refine zx2 (fun v w'=>v= .tuple #[.bool true,.int .i64 (pos:Nat),.int .i32 (zqV s pos)]∧w'={ w with heap:=w.heap.setIfInBounds b (.stringIter s (pos+zsA s pos))}) (by decide) h1 h2 h3 ⟨_,_,.inl ?_,rfl,rfl⟩ fun v w' ⟨hv,hw⟩=>?_
  ·rw[hop,Sem.run_bind]
   simp only[Instr.next,getObj,setObj,Sem.run_bind,Sem.run,c,Result.andThen,hp,if_true]
   simp[goInt,Sem.run,c,zqV,zsA]
  ·subst hv;subst hw
   refine ⟨fun e=>(by cases e),hT (decide_eq_true hp) _ ⟨rfl,rfl,rfl,by simp,fun k _ hk=>?_⟩ ?_ (by simp)⟩
   ·exact Array.getElem?_setIfInBounds_ne (fun e=>hk (by rw[e]))
   ·exact Array.getElem?_setIfInBounds_self_of_lt hi.lt
 ·refine zx2 (fun v w'=>v= .tuple #[.bool false]∧w'=w) (by decide) h1 h2 h3 ⟨_,_,.inl ?_,rfl,rfl⟩ fun v w' ⟨hv,hw⟩=>?_
  ·rw[hop,Sem.run_bind]
   simp[Instr.next,getObj,Sem.run,c,hp]
  ·subst hv;subst hw
   exact ⟨fun e=>(by cases e),hF (decide_eq_false hp)⟩
end
def zj3 {α β:Type} (fk:α->Value) (fv:β->Value) (w:World) (b:Nat) (l:List (α × β)):Prop:=
 ∃ es clock,w.heap[b]? =some (.map es clock)∧es.toList.map (fun e=>(e.key,e.val))=l.map (fun p=>(fk p.1,fv p.2))
theorem zj3.lt {α β:Type} {fk:α->Value} {fv:β->Value} {w:World} {b:Nat} {l:List (α × β)} (h:zj3 fk fv w b l):b<w.heap.size:=by
 obtain ⟨es,c,h,_⟩:=h
 exact (Array.getElem?_eq_some_iff.1 h).1
theorem zj3.grown {α β:Type} {fk:α->Value} {fv:β->Value} {w w':World} {b:Nat} {l:List (α × β)} {row:Option Nat} (h:zj3 fk fv w b l) (hg:w.grownBy w' row) (hr:∀ g,row=some g->g≠b):zj3 fk fv w' b l:=by
 have hl:=h.lt
 obtain ⟨es,c,h,h2⟩:=h
 refine ⟨es,c,?_,h2⟩
 rw[hg.block b hl fun e=>hr b e.symm rfl]
 exact h
section
variable {P:Program} {R:RR} {n:Nat} {k:List It} {σ σ':List (Nat × Value)} {w:World} {all:Array Oper} {C:World->Prop} {o:Oper} {m:Mk} {rest:List (Oper × Mk)}
end
end Go.Gv
