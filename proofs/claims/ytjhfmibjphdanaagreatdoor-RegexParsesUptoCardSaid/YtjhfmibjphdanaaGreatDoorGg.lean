/-
  Own rules:rows handed over by the caller,iterators over strings,maps. No condition of its own.
-/
import Derived.Test.YtjhfmibjphdanaaGreatDoorGf
import GoSem.Instr.MapUpdate
import Derived.Laws.IdiomStrings
import Derived.Laws.RangeString
set_option linter.all false
namespace Go.Gv
open Go.RowKit
/-! ### a row that the caller hands over -/
theorem grown_stepO {a b c:World} {p r:Option Nat} (h:a.grownBy b p) (h':b.grownBy c r) (hr:∀ g,r=some g→p=some g∨a.heap.size≤g):a.grownBy c p:=
 ⟨h'.os.trans h.os,h'.tape.trans h.tape,h'.output.trans h.output,Nat.le_trans h.size h'.size,fun k hk hne=>(h'.block k (Nat.lt_of_lt_of_le hk h.size) fun e=>by
   rcases hr k e.symm with h1 | h1
   ·exact hne h1.symm
   ·omega).trans (h.block k hk hne)⟩
theorem rowO {p:Option Nat} {A b:Nat} (h:A≤b):∀ g,some b=some g→p=some g∨A≤g:=fun g e=>by cases e;exact .inr h
/-! ### objects that are no cells -/
def At (w:World) (b:Nat) (o:Obj):Prop:=w.heap[b]? =some o
theorem At.lt {w:World} {b:Nat} {o:Obj} (h:At w b o):b<w.heap.size:=(Array.getElem?_eq_some_iff.1 h).1
theorem At.grown {w w':World} {b:Nat} {o:Obj} {row:Option Nat} (h:At w b o) (hg:w.grownBy w' row) (hr:∀ g,row=some g→g≠b):At w' b o:=by
 unfold At
 rw[hg.block b h.lt fun e=>hr b e.symm rfl]
 exact h
section
variable {P:Program} {R:RR} {n:Nat} {k:List It} {σ σ':List (Nat × Value)} {w:World} {all:Array Oper} {C:World→Prop} {o:Oper} {m:Mk} {rest:List (Oper × Mk)}
end
/-! ### maps -/
def MapO {α β:Type} (fk:α→Value) (fv:β→Value) (w:World) (b:Nat) (l:List (α × β)):Prop:=
 ∃ es clock,w.heap[b]? =some (.map es clock)∧es.toList.map (fun e=>(e.key,e.val))=l.map (fun p=>(fk p.1,fv p.2))
theorem MapO.lt {α β:Type} {fk:α→Value} {fv:β→Value} {w:World} {b:Nat} {l:List (α × β)} (h:MapO fk fv w b l):b<w.heap.size:=by
 obtain ⟨es,c,h,_⟩:=h
 exact (Array.getElem?_eq_some_iff.1 h).1
theorem MapO.grown {α β:Type} {fk:α→Value} {fv:β→Value} {w w':World} {b:Nat} {l:List (α × β)} {row:Option Nat} (h:MapO fk fv w b l) (hg:w.grownBy w' row) (hr:∀ g,row=some g→g≠b):MapO fk fv w' b l:=by
 have hl:=h.lt
 obtain ⟨es,c,h,h2⟩:=h
 refine ⟨es,c,?_,h2⟩
 rw[hg.block b hl fun e=>hr b e.symm rfl]
 exact h
section
variable {P:Program} {R:RR} {n:Nat} {k:List It} {σ σ':List (Nat × Value)} {w:World} {all:Array Oper} {C:World→Prop} {o:Oper} {m:Mk} {rest:List (Oper × Mk)}
end
end Go.Gv
