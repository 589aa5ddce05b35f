import Derived.Test.YtaeeniomdicclaaDoorGf
import GoSem.Instr.MapUpdate
import Derived.Laws.IdiomStrings
import Derived.Laws.RangeString
set_option linter.all false
namespace Go.Gv
open Go.RowKit
theorem grown_stepO {a b c:World} {p r:Option Nat} (h:a.grownBy b p) (h':b.grownBy c r) (hr:∀ g,r=some g->p=some g∨a.heap.size<=g):a.grownBy c p:=
 ⟨h'.os.trans h.os,h'.tape.trans h.tape,h'.output.trans h.output,Nat.le_trans h.size h'.size,fun k hk d=>(h'.block k (Nat.lt_of_lt_of_le hk h.size) fun e=>by
   rcases hr k e.symm with h1 | h1
   ·exact d h1.symm
   ·omega).trans (h.block k hk d)⟩
theorem zvd {a a':Option Addr} {z:Nat} (hk:blk a'=blk a∨∃ g,blk a'=some g∧z<=g):∀ g,blk a'=some g->blk a=some g∨z<=g:=fun g e=>by
 rcases hk with h | ⟨g',h,h'⟩
 ·exact .inl (h ▸ e)
 ·rw[h]at e;cases e;exact .inr h'
theorem zs0 {a a':Option Addr} {s z:Nat} (hk:∀ g,blk a'=some g->blk a=some g∨z<=g) (hl:∀ g,blk a=some g->s<=g) (hz:s<=z):∀ g,blk a'=some g->s<=g:=fun g e=>by
 rcases hk g e with h | h
 ·exact hl g h
 ·omega
theorem zvh {a a':Option Addr} {p:Option Nat} {s z:Nat} (hk:∀ g,blk a'=some g->blk a=some g∨z<=g) (hl:∀ g,blk a=some g->p=some g∨s<=g) (hz:s<=z):∀ g,blk a'=some g->p=some g∨s<=g:=fun g e=>by
 rcases hk g e with h | h
 ·exact hl g h
 ·exact .inr (by omega)
def At (w:World) (b:Nat) (o:Obj):Prop:=w.heap[b]? =some o
theorem At.lt {w:World} {b:Nat} {o:Obj} (h:At w b o):b<w.heap.size:=(Array.getElem?_eq_some_iff.1 h).1
theorem At.grown {w w':World} {b:Nat} {o:Obj} {row:Option Nat} (h:At w b o) (hg:w.grownBy w' row) (hr:∀ g,row=some g->g≠b):At w' b o:=by
 unfold At
 rw[hg.block b h.lt fun e=>hr b e.symm rfl]
 exact h
section
variable {P:Program} {R:RR} {n:Nat} {k:List It} {σ σ':List (Nat × Value)} {w:World} {all:Array Oper} {C:World->Prop} {o:Oper} {m:Mk} {rest:List (Oper × Mk)}
end
def zoL {α β:Type} (fk:α->Value) (fv:β->Value) (w:World) (b:Nat) (l:List (α × β)):Prop:=
 ∃ es clock,w.heap[b]? =some (.map es clock)∧es.toList.map (fun e=>(e.key,e.val))=l.map (fun p=>(fk p.1,fv p.2))
theorem zoL.lt {α β:Type} {fk:α->Value} {fv:β->Value} {w:World} {b:Nat} {l:List (α × β)} (h:zoL fk fv w b l):b<w.heap.size:=by
 obtain ⟨es,c,h,_⟩:=h
 exact (Array.getElem?_eq_some_iff.1 h).1
theorem zoL.grown {α β:Type} {fk:α->Value} {fv:β->Value} {w w':World} {b:Nat} {l:List (α × β)} {row:Option Nat} (h:zoL fk fv w b l) (hg:w.grownBy w' row) (hr:∀ g,row=some g->g≠b):zoL fk fv w' b l:=by
 have hl:=h.lt
 obtain ⟨es,c,h,h2⟩:=h
 refine ⟨es,c,?_,h2⟩
 rw[hg.block b hl fun e=>hr b e.symm rfl]
 exact h
section
variable {P:Program} {R:RR} {n:Nat} {k:List It} {σ σ':List (Nat × Value)} {w:World} {all:Array Oper} {C:World->Prop} {o:Oper} {m:Mk} {rest:List (Oper × Mk)}
theorem ztt {t e:TypeId} {a:Option Addr} {cap:Nat} {xs:List UInt8} (hb:zoX n all σ o m=true) (hop:execOp (evr σ) o=(do pure (.value (<- convert t t (.slice a xs.length cap)))))
 (ht:P.underlying t=some (.slice e)) (he:P.underlying e=some (.int .u8)) (hO:Own bE e w (fun _=>False) a cap xs) (ha:a.isSome=true)
 (h:∀ w',w.grownBy w' (blk a)->Rd bE w' (fun k=>blk a=some k) a cap xs->w'.heap.size=w.heap.size->Run P R n (.ops all C rest::k) .normal (zwT σ o.dst (.slice a xs.length cap)) w'):
 Run P R n (.ops all C ((o,m)::rest)::k) .normal σ w:=by
 obtain ⟨rfl,h1,h2,h3⟩:=zuJ hb
 have p:=hO.rd (Y:=fun k=>blk a=some k) (fun _ h=>h.elim) (fun g e=>e)
 obtain ⟨fl,⟨_,r⟩,_,_⟩:=hO
 rcases r with ⟨hv,_⟩ | ⟨g,y,cur,fz,hv,_,hg,_⟩
 ·have:=(Value.slice.inj hv).1;rw[this]at ha;cases ha
 cases hv
 have l:g<w.heap.size:=(Array.getElem?_eq_some_iff.1 hg).1
 have u:w.shape? g=some (e,cur.size):=by unfold World.shape?;rw[hg]
 obtain ⟨d,s⟩:∃ d,w.freeze ⟨g,cur.size,none⟩ 1={ w with heap:=w.heap.setIfInBounds g (.cells cur e d)}:=by
  obtain ⟨lo,f⟩:=fz
  refine ⟨if lo==f then (cur.size,cur.size+1) else (min lo cur.size,max f (cur.size+1)),?_⟩
  unfold World.freeze
  rw[if_neg (by decide)]
  congr 1
  apply Array.ext_getElem?
  intro i
  rw[Array.getElem?_modify,Array.getElem?_setIfInBounds]
  by_cases hi:g=i
  ·subst hi
   rw[if_pos rfl,if_pos rfl,if_pos l,hg]
   rfl
  ·rw[if_neg hi,if_neg hi]
 have q:({ w with heap:=w.heap.setIfInBounds g (.cells cur e d)}:World).heap[g]? =some (.cells cur e d):=Array.getElem?_setIfInBounds_self_of_lt l
 refine zxk (fun v w'=>v= .slice (some ⟨g,0,none⟩) xs.length cap∧w'={ w with heap:=w.heap.setIfInBounds g (.cells cur e d)}) (by decide) h1 h2 h3 ⟨_,_,.inl ?_,rfl,rfl⟩ fun v w' ⟨hv,hw⟩=>?_
 ·rw[hop,Sem.run_bind]
  simp[convert,run_underlying ht,run_underlying he,markStringish,u,s]
 ·subst hv;subst hw
  refine ⟨fun e=>(by cases e),h _ ⟨rfl,rfl,rfl,by simp,fun k _ hk=>Array.getElem?_setIfInBounds_ne (fun e=>hk (by rw[e];rfl))⟩ ⟨p.1,fun i x hx=>?_⟩ (by simp)⟩
  obtain ⟨b,off,c,e1,e2,e3,e4⟩:=p.2 i x hx
  cases e1
  refine ⟨g,0,c,rfl,rfl,e3,fun j v hj=>?_⟩
  have:=e4 j v hj
  rw[add_lit]at this ⊢
  unfold World.cell? at this ⊢
  simp only[q]
  simp only[hg]at this
  exact this
end
end Go.Gv
