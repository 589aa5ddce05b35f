import Derived.Test.YtaeeniomdicclaaDoorGc
set_option linter.all false
namespace Go.Gv
open Go Go.RowKit
theorem nb {p:Nat->Prop}:∀ g,(none:Option Nat)=some g->p g:=fun _ e=>by cases e
theorem rowlo {B b:Nat} (h:B<=b):∀ g,some b=some g->B<=g:=fun g e=>by cases e;exact h
theorem rowpp {A b:Nat}:∀ g,some b=some g->g=b∨A<=g:=fun g e=>by cases e;exact .inl rfl
theorem rowppr {p A b:Nat} (h:A<=b):∀ g,some b=some g->g=p∨A<=g:=fun g e=>by cases e;exact .inr h
theorem rowne {F:Nat->Prop} {b:Nat} (h:¬ F b):∀ g,some b=some g->¬ F g:=fun g e=>by cases e;exact h
theorem zpv {M:List Nat} {A b:Nat} (h:b∈M):∀ g,some b=some g->g∈M∨A<=g:=fun g e=>by cases e;exact .inl h
theorem lowb {B b:Nat} (h:b=B):∀ k,k=b->B<=k:=fun _ e=>Nat.le_of_eq (e.trans h).symm
theorem lowe {A B:Nat} (h:A<=B):∀ k,k=B->A<=k:=fun k e=>by subst e;exact h
theorem lts {B B':Nat} (h:B'=B+1):∀ k,k=B->k<B':=fun k e=>by subst e;omega
theorem lowo {B b:Nat} (h:b=B):∀ k,blk (some ⟨b,0,none⟩)=some k->B<=k:=fun k e=>by
 have e:b=k:=Option.some.inj e
 omega
theorem lob {A B b:Nat} (h:b=B) (h1:A<=B):A<=b:=by omega
theorem loo {A B b:Nat} (h:b=B) (h1:A<=B):∀ g,blk (some ⟨b,0,none⟩)=some g->A<=g:=fun g e=>Nat.le_trans h1 (lowo h g e)
theorem zwG {B b:Nat} (h:b=B) (h1:b<B):False:=by omega
theorem zpA {a b B:Nat} (h1:a<B) (h2:B<=b):¬ b=a:=by omega
theorem nm_nil {b:Nat}:b∉([]:List Nat):=List.not_mem_nil
theorem nm_cons {b c:Nat} {l:List Nat} (h:¬ b=c) (h':b∉l):b∉c::l:=fun h1=>(List.mem_cons.1 h1).elim h h'
theorem nmx_nil {X:Nat->Prop}:∀ g∈([]:List Nat),¬ X g:=fun _ h=>absurd h List.not_mem_nil
theorem rdnn {a:Option Addr} {row:Option Nat} (h:∀ g,row=some g->¬ (fun k=>blk a=some k) g):∀ g,row=some g->¬ (fun _=>False) g∧blk a≠some g:=fun g e=>⟨fun h=>h,h g e⟩
theorem rdnx {X:Nat->Prop} {a:Option Addr} {row:Option Nat} (h:∀ g,row=some g->¬ (fun k=>blk a=some k∨X k) g):∀ g,row=some g->¬ X g∧blk a≠some g:=fun g e=>⟨fun h'=>h g e (.inr h'),fun h'=>h g e (.inl h')⟩
theorem ltb {w:World} {b:Nat} {t:TypeId} {cs:Array Value} (h:Box w b t cs):∀ k,k=b->k<w.heap.size:=fun k e=>by subst e;exact h.lt
theorem nt {a b c:Nat} (h:a<=b) (h':b<=c):a<=c:=Nat.le_trans h h'
theorem bg {a b c:World} {r:Option Nat} (h:Below a.heap.size a b) (h':b.grownBy c r) (hr:∀ g,r=some g->a.heap.size<=g):Below a.heap.size a c:=zvn h h' h.size hr
theorem ltx {X:Nat->Prop} {A B:Nat} (h:∀ k,X k->k<A) (h':A<=B):∀ k,X k->k<B:=fun k hk=>Nat.lt_of_lt_of_le (h k hk) h'
end Go.Gv
