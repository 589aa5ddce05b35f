import Derived.RangeFuncWrites
import Derived.RangeFuncLeaves
import Derived.RangeFuncCalls
import Derived.OrdersIn
import Derived.Test.YtaeeniomdicclaaDoorGg
set_option linter.all false
namespace Go.Gv
open Go.RowKit
def foldO {α τ:Type} (f:τ->α->Option τ):τ->List α->Option τ
 | st,[]=>some st
 | st,x::l=>(f st x).bind fun st'=>foldO f st' l
theorem zvG {α τ:Type} {f:τ->α->Option τ}:∀ {l:List α} {st st1:τ} {x:α},foldO f st l=some st1->foldO f st (l++[x])=f st1 x
 | [],st,st1,x,h=>by
   cases h
   show (f st x).bind (fun a=>some a)=_
   cases f st x<;>rfl
 | y::l,st,st1,x,h=>by
   show (f st y).bind _=_
   cases hy:f st y with
   | none=>
     have:(f st y).bind (fun a=>foldO f a l)=some st1:=h
     rw[hy]at this;cases this
   | some a=>
     have:(f st y).bind (fun a=>foldO f a l)=some st1:=h
     rw[hy]at this
     exact zvG this
def chunk {α:Type} (xs:List α) (k:Nat):List α:=(xs.drop (3*k)).take 3
def Able {α τ:Type} (f:τ->α->Option τ) (st:τ) (l:List α):Prop:=∀ m:List α,(∀ x∈m,x∈l)->m.length<=l.length->(foldO f st m).isSome=true
open Classical in
theorem Able.step {α τ:Type} {f:τ->α->Option τ} {st st1:τ} {l m:List α} {x:α} (h:Able f st l) (h1:foldO f st m=some st1) (hm:∀ y∈m,y∈l) (hx:x∈l) (hl:m.length<l.length):∃ st2,f st1 x=some st2:=by
 have:=h (m++[x]) (fun y hy=>(List.mem_append.1 hy).elim (hm y) (fun e=>by simp at e;subst e;exact hx)) (by simp;omega)
 rw[zvG h1]at this
 exact Option.isSome_iff_exists.1 this
def KfF (B:Nat) (W:World) (k:Nat):Prop:=B<=k∧∃ o:Obj,W.heap[k]? =some o∧o.isCells=false
theorem KfF.lt {B:Nat} {W w:World} (h:KeepsFrom B W w):∀ k,KfF B W k->k<w.heap.size:=fun k ⟨_,o,h1,_⟩=>Nat.lt_of_lt_of_le (Array.getElem?_eq_some_iff.1 h1).1 h.size
theorem zo0 {B:Nat} {W:World} {b:Nat} {t:TypeId} {cs:Array Value} (h:Box W b t cs):¬ KfF B W b:=fun ⟨_,o,h1,h2⟩=>by
 rw[show W.heap[b]? =_ from h]at h1
 cases h1
 cases h2
theorem zoQ {α:Type} {E:Enc α} {e:TypeId} {B:Nat} {W:World} {X:Nat->Prop} {a:Option Addr} {cap:Nat} {xs:List α} (h:Own E e W X a cap xs):∀ g,blk a=some g->¬ KfF B W g:=fun g hg ⟨_,o,h1,h2⟩=>by
 obtain ⟨fl,⟨_,b⟩,_⟩:=h
 rcases b with ⟨hv,_⟩ | ⟨g',c',cur,fz,hv,_,hb,_⟩
 ·have:=(Value.slice.inj hv).1;rw[this]at hg;cases hg
 ·have:=(Value.slice.inj hv).1;rw[this]at hg
  have:g'=g:=Option.some.inj hg
  subst this
  rw[hb]at h1
  cases h1
  cases h2
def zpp (B:Nat) (W:World) (row:Option Nat):Prop:=∀ r,row=some r->B<=r∧∃ o:Obj,W.heap[r]? =some o∧o.isCells=false
theorem zpp.box {B:Nat} {W:World} {row:Option Nat} {b:Nat} {t:TypeId} {cs:Array Value} (h:zpp B W row) (hb:Box W b t cs):∀ g,row=some g->g≠b:=fun g e e'=>by
 subst e'
 obtain ⟨_,o,h1,h2⟩:=h g e
 exact zo0 (B:=0) hb ⟨Nat.zero_le _,o,h1,h2⟩
theorem zpp.own {α:Type} {E:Enc α} {e:TypeId} {B:Nat} {W:World} {row:Option Nat} {X:Nat->Prop} {a:Option Addr} {cap:Nat} {xs:List α} (h:zpp B W row) (ho:Own E e W X a cap xs) (hX:∀ k,X k->k<B):∀ g,row=some g->¬ X g∧blk a≠some g:=fun g e=>by
 obtain ⟨hB,o,h1,h2⟩:=h g e
 exact ⟨fun hx=>Nat.not_lt_of_le hB (hX g hx),fun hg=>zoQ (B:=0) ho g hg ⟨Nat.zero_le _,o,h1,h2⟩⟩
theorem zpp.rd {B:Nat} {W:World} {row:Option Nat} {X:Nat->Prop} (h:zpp B W row) (hX:∀ k,X k->k<B):∀ g,row=some g->¬ X g:=fun g e hx=>Nat.not_lt_of_le (h g e).1 (hX g hx)
theorem zpp.lo {B A:Nat} {W:World} {row:Option Nat} (h:zpp B W row) (hA:A<=B):∀ g,row=some g->A<=g:=fun g e=>Nat.le_trans hA (h g e).1
def KpC (bs bn:Nat) (W W':World):Prop:=W'.heap[bs]? =W.heap[bs]?∧W'.heap[bn]? =W.heap[bn]?
theorem zom {P:Program} {R:RR} (ds:List Deferred):∀ k,K P { R with ds:=ds} k=K P R k
 | []=>rfl
 | .code c::k=>by
   have:=zom (P:=P) (R:=R) ds k
   funext e a w
   cases e<;>simp only[K,this]
 | .blk id::k=>by
   have:=zom (P:=P) (R:=R) ds k
   funext e a w
   cases e<;>simp only[K,this]
 | .ops .. ::k=>by
   have:=zom (P:=P) (R:=R) ds k
   funext e a w
   cases e<;>simp only[K,this]
 | .any .. ::k=>by
   have:=zom (P:=P) (R:=R) ds k
   funext e a w
   cases e<;>simp only[K,this]
 | .goal J::k=>by
   have:=zom (P:=P) (R:=R) ds k
   funext e a w
   cases e<;>simp only[K,this]
theorem zt0 {P:Program} {n:Nat} {w:World} {f:FuncId} {fn:Func} {c:Code} {args:List Value} {S:Value->World->Prop} (hf:P.funcs[f]? =some fn) (hb:fn.body=some c) (hn:fn.ntmps=n) (b:Nat.ble args.length n=true)
 (h:Run P ⟨none,bodyPostM (FR none) 0 P fn (Ret S),[]⟩ n [.code c] .normal (zt1 0 args) w):Calls P f args.toArray w (Ret S):=by
 refine (callsIn_wide (n:=0)).1 ?_
 refine callsIn_of_wp_marks (F:=FR none) hf hb trivial ?_ rfl
 have b:=Nat.le_of_ble_eq_true b
 refine wpIn_mono (h _ rfl (by simp[hn];omega) (zwl _ 0 args fun j v hj=>?_)) (fun e a w hh=>?_)
 ·obtain ⟨d,_⟩:=List.getElem?_eq_some_iff.1 hj
  rw[Nat.zero_add,Array.getElem?_append_left (by simpa using d)]
  simpa using hj
 ·cases e<;>exact hh
section
variable {P:Program} {n:Nat} {σ:List (Nat × Value)} {w:World}
theorem ztY {fn:Func} {Rr:Ending->World->Prop} {rs:List ResultVar} (vs:List Value) (hr:fn.results=rs.toArray) (h:zsc P σ w rs vs) (hR:Rr (.returned (tup vs)) w):
 Run P ⟨none,bodyPostM (FR none) 0 P fn Rr,[]⟩ n [] .ret σ w:=fun a hd hs b=>by
 show LeavesInM (FR none) 0 P fn a.tmps Rr a.defers .returning w
 rw[show a.defers=[] from hd]
 refine ⟨tup vs,?_,hR⟩
 have h1:=zwj b h
 rw[zvH,hr]
 simp only[List.mapM_toArray,Sem.run_bind,Sem.run_map,h1,Result.andThen,Sem.run_pure]
 match vs with
 | []=>rfl
 | [v]=>rfl
 | v::u::vs=>simp[tup]
end
theorem KpC.trans {bs bn:Nat} {A B C:World} (h:KpC bs bn A B) (h':KpC bs bn B C):KpC bs bn A C:=⟨h'.1.trans h.1,h'.2.trans h.2⟩
theorem KpC.put {bs bn:Nat} {w:World} (h1:bs<w.heap.size) (h2:bn<w.heap.size):∀ (W:World) (l:Nat) (o o':Obj),w.heap.size<=l->W.heap[l]? =some o->o.isCells=false->o.isWalk=false->KpC bs bn W (W.putObj l o'):=fun W l o o' hl _ _ _=>
 ⟨World.putObj_heap_other (by omega),World.putObj_heap_other (by omega)⟩
theorem KpC.box {bs bn:Nat} {t t':TypeId} {c c':Array Value} {W W':World} (h1:Box W bs t c) (h2:Box W bn t' c') (h1':Box W' bs t c) (h2':Box W' bn t' c'):KpC bs bn W W':=⟨Eq.trans (show W'.heap[bs]? =_ from h1') (Eq.symm (show W.heap[bs]? =_ from h1)),Eq.trans (show W'.heap[bn]? =_ from h2') (Eq.symm (show W.heap[bn]? =_ from h2))⟩
end Go.Gv
