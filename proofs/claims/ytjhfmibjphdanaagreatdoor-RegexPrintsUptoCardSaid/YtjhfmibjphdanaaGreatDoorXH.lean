import Derived.Test.YtjhfmibjphdanaaGreatDoorXD
set_option linter.all false
namespace Go.Gv.X
open Go Go.Gv Go.Gv.D Go.Gv.R Go.Gv.P Go.Lib
set_option maxRecDepth 100000
/-! Own work: the abstract parser comes to an end. -/
def TT {α:Type} (x:Nat→Option α):Prop:=∃ r,∃ N,∀ n,N≤n→x n=some r
theorem TT.suc {α:Type} {f:Nat→Option α} (h:TT fun n=>f (n+1)):TT f:=by
 obtain ⟨r,N,h⟩:=h
 exact ⟨r,N+1,fun n hn=>by obtain ⟨n,rfl⟩:∃ k,n=k+1:=⟨n-1,om⟩;exact h n om⟩
theorem TT.const {α:Type} (a:α):TT (fun _=>some a):=⟨a,0,fun _ _=>rfl⟩
theorem TT.bd {α β:Type} {x:Nat→Res α} {f:Nat→α→Res β} (h:TT x) (k:∀ a n,x n=some (.inl a)→TT fun n=>f n a):TT fun n=>bd (x n) (f n):=by
 obtain ⟨r,N,h⟩:=h
 cases r with
 | inr u=>exact ⟨.inr u,N,fun n hn=>by show Go.Gv.X.bd (x n) (f n)=_;rw[h n hn];rfl⟩
 | inl a=>
   obtain ⟨r,M,hk⟩:=k a N (h N (Nat.le_refl _))
   exact ⟨r,max N M,fun n hn=>by show Go.Gv.X.bd (x n) (f n)=_;rw[h n om];exact hk n om⟩
theorem TT.of {α:Type} {f g:Nat→Option α} (e:∀ n,f n=g n) (h:TT g):TT f:=by rw[funext e];exact h
end Go.Gv.X
namespace Go.Gv.X
open Go Go.Gv Go.Gv.D Go.Gv.R Go.Gv.P Go.Lib
set_option maxRecDepth 100000
/-! Own work: the second reader's small functions. -/
theorem LT.mono {τ ρ:Type} {F:Nat→τ→Option (τ ⊕ ρ)} {st:τ} {Q Q':ρ→Prop} (h:LT F st Q) (k:∀ r,Q r→Q' r):LT F st Q':=by
 obtain ⟨r,hq,h⟩:=h
 exact ⟨r,k r hq,h⟩
/-- a set that the second reader looks for -/
def St9 (S:List Nat):Prop:=∀ k,(List.range 128).all (fun n=>ref4_oneOf (k+30) (n:Int) (strOf (bs S))==some (S.contains n))=true
end Go.Gv.X
namespace Go.Gv.X
open Go Go.Gv Go.Gv.D Go.Gv.R Go.Gv.P Go.Lib
set_option maxRecDepth 100000
/-! Own work: the second reader's classes. -/
end Go.Gv.X
namespace Go.Gv.X
open Go Go.Gv Go.Gv.D Go.Gv.R Go.Gv.P Go.Lib
set_option maxRecDepth 100000
/-! Own work: the second reader's classes and escapes. -/
end Go.Gv.X
