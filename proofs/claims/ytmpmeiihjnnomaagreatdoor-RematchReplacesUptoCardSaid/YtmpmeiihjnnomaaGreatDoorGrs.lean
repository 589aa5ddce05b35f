import Derived.Test.YtmpmeiihjnnomaaGreatDoorGpc
set_option linter.all false
namespace Go.Gv
def ptE {α:Type} (E:Enc α):Enc (List α) where
 n:=1
 rep w X cs xs:=∃ a cap,cs=[.pointer a]∧Rd E w X a cap xs
 len:=fun ⟨_,_,e,_⟩=>by rw[e];rfl
 one:=fun ⟨_,_,e,_⟩ v hv=>by rw[e]at hv;rw[List.mem_singleton.1 hv];rfl
 keep:=fun ⟨a,cap,e,h⟩ hk=>⟨a,cap,e,h.keep hk⟩
 wide:=fun ⟨a,cap,e,h⟩ hk=>⟨a,cap,e,h.wide hk⟩
theorem zyh {α:Type} {E:Enc α} {w:World} {X:Nat->Prop} {a:Option Addr} {cap:Nat} {xs:List α} {x:α} (n:Nat) (h:Rd E w X a cap xs) (hx:idx xs 0=some x):Value.pointer a= .pointer (some (elemAddr a ((0:Int).toNat*n))):=by
 obtain ⟨_,_,h3⟩:=zx6 hx
 obtain ⟨b,off,c,rfl,_⟩:=h.2 0 x h3
 show _=Value.pointer (some ((⟨b,off,none⟩:Addr).add ((0:Int).toNat*n)))
 rw[show (0:Int).toNat*n=0 by simp,zym]
inductive Rs where
 | mk (kind:Int) (parts:List Pc) (piece:PcT) (start rounds:Int) (next:List Rs)
abbrev RsT:=Int × List Pc × PcT × Int × Int × List Rs
namespace Rs
def un:Rs->RsT | .mk k p q s r n=>(k,p,q,s,r,n)
def of (t:RsT):Rs:=.mk t.1 t.2.1 t.2.2.1 t.2.2.2.1 t.2.2.2.2.1 t.2.2.2.2.2
end Rs
@[reducible] def rsW (E:Enc Rs):Enc RsT:=prE (iE .i64) (prE (slE pcE) (prE pcT (prE (iE .i64) (prE (iE .i64) (ptE E)))))
def rsN:Nat->Enc Rs
 | 0=>{ n:=12,rep:=fun _ _ _ _=>False,len:=fun h=>h.elim,one:=fun h=>h.elim,keep:=fun h _=>h,wide:=fun h _=>h}
 | d+1=>{ n:=12,rep:=fun w X cs x=>(rsW (rsN d)).rep w X cs x.un,len:=fun h=>(rsW (rsN d)).len h,one:=fun h=>(rsW (rsN d)).one h,keep:=fun h=>(rsW (rsN d)).keep h,wide:=fun h=>(rsW (rsN d)).wide h}
theorem znz (d:Nat):(rsN d).n=12:=by cases d<;>rfl
theorem zq6 {E F:Enc Rs} {w:World} {X:Nat->Prop} {cs:List Value} {t:RsT} (hn:E.n=F.n) (hr:∀ x∈t.2.2.2.2.2,∀ cs,E.rep w X cs x->F.rep w X cs x) (h:(rsW E).rep w X cs t):(rsW F).rep w X cs t:=by
 obtain ⟨_,_,rfl,h1,_,_,rfl,h2,_,_,rfl,h3,_,_,rfl,h4,_,_,rfl,h5,a,cap,rfl,h6⟩:=h
 exact ⟨_,_,rfl,h1,_,_,rfl,h2,_,_,rfl,h3,_,_,rfl,h4,_,_,rfl,h5,a,cap,rfl,h6.ofEnc hn hr⟩
theorem ziK {d:Nat}:∀ {w:World} {X:Nat->Prop} {cs:List Value} {x:Rs},(rsN d).rep w X cs x->(rsN (d+1)).rep w X cs x:=by
 induction d with
 | zero=>intro w X cs x h;exact h.elim
 | succ d ih=>intro w X cs x h;exact zq6 ((znz _).trans (znz _).symm) (fun y _ cs h=>ih h) h
theorem zl2 {d e:Nat} (h:d<=e) {w:World} {X:Nat->Prop} {cs:List Value} {x:Rs} (hr:(rsN d).rep w X cs x):(rsN e).rep w X cs x:=by
 induction h with
 | refl=>exact hr
 | step _ ih=>exact ziK ih
def rsE:Enc Rs where
 n:=12
 rep w X cs x:=∃ d,(rsN d).rep w X cs x
 len:=fun ⟨d,h⟩=>by rw[(rsN d).len h,znz]
 one:=fun ⟨d,h⟩=>(rsN d).one h
 keep:=fun ⟨d,h⟩ hk=>⟨d,(rsN d).keep h hk⟩
 wide:=fun ⟨d,h⟩ hk=>⟨d,(rsN d).wide h hk⟩
@[reducible] def rsT:Enc RsT:=rsW rsE
theorem rs_un {w:World} {X:Nat->Prop} {cs:List Value} {x:Rs} (h:rsE.rep w X cs x):rsT.rep w X cs x.un:=by
 obtain ⟨d,h⟩:=h
 cases d with
 | zero=>exact h.elim
 | succ d=>exact zq6 (E:=rsN d) (F:=rsE) (znz d) (fun y _ cs h=>⟨d,h⟩) h
theorem zlq {w:World} {X:Nat->Prop} {a:Option Addr} {cap:Nat} {xs:List Rs} (h:Rd rsE w X a cap xs):∃ d,Rd (rsN d) w X a cap xs:=by
 have key:∃ d,∀ i x,xs[i]? =some x->∃ b off c,a=some ⟨b,off,none⟩∧X b∧(rsN d).rep w X c x∧zyL w ⟨b,off+i*12,none⟩ c:=by
  have step:∀ n,n<=xs.length->∃ d,∀ i x,i<n->xs[i]? =some x->∃ b off c,a=some ⟨b,off,none⟩∧X b∧(rsN d).rep w X c x∧zyL w ⟨b,off+i*12,none⟩ c:=by
   intro n
   induction n with
   | zero=>exact fun _=>⟨0,fun i x hi=>by omega⟩
   | succ n ih=>
     intro hn
     obtain ⟨d,hd⟩:=ih (by omega)
     obtain ⟨b,off,c,e1,e2,⟨d',e3⟩,e4⟩:=h.2 n xs[n] (List.getElem?_eq_getElem (by omega))
     refine ⟨max d d',fun i x hi hx=>?_⟩
     rcases Nat.lt_or_ge i n with e | hge
     ·obtain ⟨b,off,c,f1,f2,f3,f4⟩:=hd i x e hx
      exact ⟨b,off,c,f1,f2,zl2 (Nat.le_max_left _ _) f3,f4⟩
     ·have:i=n:=by omega
      subst this
      rw[List.getElem?_eq_getElem (by omega)]at hx
      cases hx
      exact ⟨b,off,c,e1,e2,zl2 (Nat.le_max_right _ _) e3,e4⟩
  obtain ⟨d,hd⟩:=step xs.length (Nat.le_refl _)
  exact ⟨d,fun i x hx=>hd i x (List.getElem?_eq_some_iff.1 hx).1 hx⟩
 obtain ⟨d,hd⟩:=key
 exact ⟨d,h.1,fun i x hx=>by rw[znz];exact hd i x hx⟩
theorem zp1 {w:World} {X:Nat->Prop} {cs:List Value} {t:RsT} (h:rsT.rep w X cs t):rsE.rep w X cs (Rs.of t):=by
 obtain ⟨_,_,rfl,h1,_,_,rfl,h2,_,_,rfl,h3,_,_,rfl,h4,_,_,rfl,h5,a,cap,rfl,h6⟩:=h
 obtain ⟨d,h6⟩:=zlq h6
 exact ⟨d+1,⟨_,_,rfl,h1,_,_,rfl,h2,_,_,rfl,h3,_,_,rfl,h4,_,_,rfl,h5,a,cap,rfl,h6⟩⟩
theorem zz4 {w:World} {X:Nat->Prop} {x:Rs} {Q:List Value->Prop} (h:∃ c,rsE.rep w X c x∧Q c):∃ c,rsT.rep w X c x.un∧Q c:=by
 obtain ⟨c,h,hq⟩:=h
 exact ⟨c,rs_un h,hq⟩
end Go.Gv
