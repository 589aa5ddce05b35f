import Derived.Test.YtmpmeiihjnnomaaGreatDoorGa
set_option linter.all false
namespace Go.Gv
inductive Pc where
 | mk (kind low high:Int) (no lz:Bool) (rs:List (Int × Int)) (subs:List Pc)
deriving Inhabited
abbrev PcT:=Int × Int × Int × Bool × Bool × List (Int × Int) × List Pc
namespace Pc
def un:Pc->PcT | .mk k l h n z r s=>(k,l,h,n,z,r,s)
def of (t:PcT):Pc:=.mk t.1 t.2.1 t.2.2.1 t.2.2.2.1 t.2.2.2.2.1 t.2.2.2.2.2.1 t.2.2.2.2.2.2
end Pc
@[reducible] def pcW (E:Enc Pc):Enc PcT:=prE (iE .i64) (prE (iE .i64) (prE (iE .i64) (prE tE (prE tE (prE (slE (prE (iE .i64) (iE .i64))) (slE E))))))
def pcN:Nat->Enc Pc
 | 0=>{ n:=7,rep:=fun _ _ _ _=>False,len:=fun h=>h.elim,one:=fun h=>h.elim,keep:=fun h _=>h,wide:=fun h _=>h}
 | d+1=>{ n:=7,rep:=fun w X cs x=>(pcW (pcN d)).rep w X cs x.un,len:=fun h=>(pcW (pcN d)).len h,one:=fun h=>(pcW (pcN d)).one h,keep:=fun h=>(pcW (pcN d)).keep h,wide:=fun h=>(pcW (pcN d)).wide h}
theorem zo0 (d:Nat):(pcN d).n=7:=by cases d<;>rfl
theorem Rd.ofEnc {α:Type} {E F:Enc α} {w:World} {X:Nat->Prop} {a:Option Addr} {cap:Nat} {xs:List α} (hn:E.n=F.n) (hr:∀ x∈xs,∀ cs,E.rep w X cs x->F.rep w X cs x) (h:Rd E w X a cap xs):Rd F w X a cap xs:=by
 refine ⟨h.1,fun i x hx=>?_⟩
 obtain ⟨b,off,c,e,e1,e2,e3⟩:=h.2 i x hx
 exact ⟨b,off,c,e,e1,hr x (List.mem_of_getElem? hx) c e2,by rw[<- hn];exact e3⟩
theorem zqG {E F:Enc Pc} {w:World} {X:Nat->Prop} {cs:List Value} {t:PcT} (hn:E.n=F.n) (hr:∀ x∈t.2.2.2.2.2.2,∀ cs,E.rep w X cs x->F.rep w X cs x) (h:(pcW E).rep w X cs t):(pcW F).rep w X cs t:=by
 obtain ⟨_,_,rfl,h1,_,_,rfl,h2,_,_,rfl,h3,_,_,rfl,h4,_,_,rfl,h5,_,_,rfl,h6,a,cap,rfl,h7⟩:=h
 exact ⟨_,_,rfl,h1,_,_,rfl,h2,_,_,rfl,h3,_,_,rfl,h4,_,_,rfl,h5,_,_,rfl,h6,a,cap,rfl,h7.ofEnc hn hr⟩
theorem zj9 {d:Nat}:∀ {w:World} {X:Nat->Prop} {cs:List Value} {x:Pc},(pcN d).rep w X cs x->(pcN (d+1)).rep w X cs x:=by
 induction d with
 | zero=>intro w X cs x h;exact h.elim
 | succ d ih=>intro w X cs x h;exact zqG ((zo0 _).trans (zo0 _).symm) (fun y _ cs h=>ih h) h
theorem zkd {d e:Nat} (h:d<=e) {w:World} {X:Nat->Prop} {cs:List Value} {x:Pc} (hr:(pcN d).rep w X cs x):(pcN e).rep w X cs x:=by
 induction h with
 | refl=>exact hr
 | step _ ih=>exact zj9 ih
def pcE:Enc Pc where
 n:=7
 rep w X cs x:=∃ d,(pcN d).rep w X cs x
 len:=fun ⟨d,h⟩=>by rw[(pcN d).len h,zo0]
 one:=fun ⟨d,h⟩=>(pcN d).one h
 keep:=fun ⟨d,h⟩ hk=>⟨d,(pcN d).keep h hk⟩
 wide:=fun ⟨d,h⟩ hk=>⟨d,(pcN d).wide h hk⟩
@[reducible] def pcT:Enc PcT:=pcW pcE
theorem pc_un {w:World} {X:Nat->Prop} {cs:List Value} {x:Pc} (h:pcE.rep w X cs x):pcT.rep w X cs x.un:=by
 obtain ⟨d,h⟩:=h
 cases d with
 | zero=>exact h.elim
 | succ d=>exact zqG (E:=pcN d) (F:=pcE) (zo0 d) (fun y _ cs h=>⟨d,h⟩) h
theorem zlI {w:World} {X:Nat->Prop} {a:Option Addr} {cap:Nat} {xs:List Pc} (h:Rd pcE w X a cap xs):∃ d,Rd (pcN d) w X a cap xs:=by
 have key:∃ d,∀ i x,xs[i]? =some x->∃ b off c,a=some ⟨b,off,none⟩∧X b∧(pcN d).rep w X c x∧zyL w ⟨b,off+i*7,none⟩ c:=by
  have step:∀ n,n<=xs.length->∃ d,∀ i x,i<n->xs[i]? =some x->∃ b off c,a=some ⟨b,off,none⟩∧X b∧(pcN d).rep w X c x∧zyL w ⟨b,off+i*7,none⟩ c:=by
   intro n
   induction n with
   | zero=>exact fun _=>⟨0,fun i x hi=>by omega⟩
   | succ n ih=>
     intro hn
     obtain ⟨d,hd⟩:=ih (by omega)
     obtain ⟨b,off,c,e1,e2,⟨d',e3⟩,e4⟩:=h.2 n xs[n] (List.getElem?_eq_getElem (by omega))
     refine ⟨max d d',fun i x hi hx=>?_⟩
     rcases Nat.lt_or_ge i n with e | hge
     ·obtain ⟨b,off,c,f1,f2,f3,f4⟩:=hd i x e hx
      exact ⟨b,off,c,f1,f2,zkd (Nat.le_max_left _ _) f3,f4⟩
     ·have:i=n:=by omega
      subst this
      rw[List.getElem?_eq_getElem (by omega)]at hx
      cases hx
      exact ⟨b,off,c,e1,e2,zkd (Nat.le_max_right _ _) e3,e4⟩
  obtain ⟨d,hd⟩:=step xs.length (Nat.le_refl _)
  exact ⟨d,fun i x hx=>hd i x (List.getElem?_eq_some_iff.1 hx).1 hx⟩
 obtain ⟨d,hd⟩:=key
 exact ⟨d,h.1,fun i x hx=>by rw[zo0];exact hd i x hx⟩
theorem zib {w:World} {X:Nat->Prop} {cs:List Value} {t:PcT} (h:pcT.rep w X cs t):pcE.rep w X cs (Pc.of t):=by
 obtain ⟨_,_,rfl,h1,_,_,rfl,h2,_,_,rfl,h3,_,_,rfl,h4,_,_,rfl,h5,_,_,rfl,h6,a,cap,rfl,h7⟩:=h
 obtain ⟨d,h7⟩:=zlI h7
 exact ⟨d+1,⟨_,_,rfl,h1,_,_,rfl,h2,_,_,rfl,h3,_,_,rfl,h4,_,_,rfl,h5,_,_,rfl,h6,a,cap,rfl,h7⟩⟩
theorem zv8 {w:World} {X:Nat->Prop} {k l h:Int} {n z:Bool} {r:List (Int × Int)} {s:List Pc} {a b:Option Addr} {c d:Nat} (h6:Rd (prE (iE .i64) (iE .i64)) w X a c r) (h7:Rd pcE w X b d s):
 pcE.rep w X [.int .i64 k,.int .i64 l,.int .i64 h,.bool n,.bool z,.slice a r.length c,.slice b s.length d] (Pc.of (k,l,h,n,z,r,s)):=
 zib ⟨[_],_,rfl,rfl,[_],_,rfl,rfl,[_],_,rfl,rfl,[_],_,rfl,rfl,[_],_,rfl,rfl,[_],_,rfl,⟨a,c,rfl,h6⟩,b,d,rfl,h7⟩
theorem zzS {w:World} {X:Nat->Prop} {x:Pc} {Q:List Value->Prop} (h:∃ c,pcE.rep w X c x∧Q c):∃ c,pcT.rep w X c x.un∧Q c:=by
 obtain ⟨c,h,hq⟩:=h
 exact ⟨c,pc_un h,hq⟩
end Go.Gv
