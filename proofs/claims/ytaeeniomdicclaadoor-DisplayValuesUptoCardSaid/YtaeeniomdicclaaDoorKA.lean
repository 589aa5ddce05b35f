import Derived.Test.YtaeeniomdicclaaDoorB0
import Derived.Test.YtaeeniomdicclaaDoorB0
import Derived.Test.YtaeeniomdicclaaDoorT5
set_option linter.all false
open Int renaming mul_ediv_add_emod->aa
open List renaming mem_cons_of_mem->ab
namespace Go.Gv.RI
open Go Go.Gv Go.Gv.D
def IsB (B:Int):Prop:=B=2∨B=8∨B=10∨B=16
theorem IsB.one {B:Int} (h:IsB B):1<B:=by rcases h with h | h | h | h<;>subst h<;>decide
theorem IsB.le {B:Int} (h:IsB B):B<=16:=by rcases h with h | h | h | h<;>subst h<;>decide
set_option maxRecDepth 100000 in
theorem zsp {B:Int} (h:IsB B):∃ (P:Int) (n:Nat),Tot (fun b=>zyS b B) (· =(P,(n:Int)))∧P=B^n∧1<=n∧n<=31∧1<P∧P<4294967296:=by
 rcases h with h | h | h | h<;>subst h
 ·exact ⟨2147483648,31,Tot.of_all 100 (fun k=>by kernel_rfl) rfl,ddc,ddc,ddc,ddc,ddc⟩
 ·exact ⟨1073741824,10,Tot.of_all 100 (fun k=>by kernel_rfl) rfl,ddc,ddc,ddc,ddc,ddc⟩
 ·exact ⟨1000000000,9,Tot.of_all 100 (fun k=>by kernel_rfl) rfl,ddc,ddc,ddc,ddc,ddc⟩
 ·exact ⟨268435456,7,Tot.of_all 100 (fun k=>by kernel_rfl) rfl,ddc,ddc,ddc,ddc,ddc⟩
theorem zrF:(4294967296:Int)^600=2^19200:=by
 rw[show (4294967296:Int)=2^32 by decide,<- Int.pow_mul]
theorem zot {B:Int} (hB:1<B) {n:Nat} (h:B^n<4294967296^600):n<=19200:=by
 refine Nat.le_of_not_lt fun hn=>?_
 have h1:=zze hB (Nat.le_of_lt hn)
 have h2:=pow_le_left (show (0:Int)<=2 by decide) (show (2:Int)<=B by omega) 19200
 rw[<- zrF]at h2
 generalize (4294967296:Int)^600=Z at*
 omega
def noz (l:List Int):Prop:=l=[]∨l.getLast? ≠some 0
theorem noz.tail {x:Int} {l:List Int} (h:noz (x::l)):noz l:=by
 rcases h with h | h
 ·simp at h
 ·cases l with
  | nil=>exact .inl rfl
  | cons y l=>exact .inr (by rwa [List.getLast?_cons_cons]at h)
theorem noz_zero {B:Int} (hB:1<B):∀ {m:List Int},Db B m->noz m->vb B m=0->m=[]
 | [],_,_,_=>rfl
 | y::m,hm,nm,h=>by
   have hy:=hm y (List.mem_cons_self ..)
   have b:Db B m:=fun z hz=>hm z (ab _ hz)
   have h1:=(zzr hB b).1
   have h2:0<=B*vb B m:=Int.mul_nonneg om h1
   simp only[vb_cons']at h
   have c:y=0:=by omega
   have:B*vb B m=0:=by omega
   have hz:vb B m=0:=by
    rcases Int.mul_eq_zero.1 this with h | h
    ·omega
    ·exact h
   have:=noz_zero hB b nm.tail hz
   subst this
   subst c
   rcases nm with h | h
   ·simp at h
   ·simp at h
theorem noz_inj {B:Int} (hB:1<B):∀ {l m:List Int},Db B l->Db B m->noz l->noz m->vb B l=vb B m->l=m
 | [],m,hl,hm,nl,nm,h=>(noz_zero hB hm nm h.symm).symm
 | l,[],hl,hm,nl,nm,h=>noz_zero hB hl nl h
 | x::l,y::m,hl,hm,nl,nm,h=>by
   have hx:=hl x (List.mem_cons_self ..)
   have hy:=hm y (List.mem_cons_self ..)
   have d:Db B l:=fun z hz=>hl z (ab _ hz)
   have b:Db B m:=fun z hz=>hm z (ab _ hz)
   simp only[vb_cons']at h
   have e1:(x+B*vb B l)%B=x:=by rw[Int.add_mul_emod_self_left,Int.emod_eq_of_lt hx.1 hx.2]
   have e2:(y+B*vb B m)%B=y:=by rw[Int.add_mul_emod_self_left,Int.emod_eq_of_lt hy.1 hy.2]
   have c:x=y:=by rw[<- e1,<- e2,h]
   subst c
   have:vb B l=vb B m:=Int.eq_of_mul_eq_mul_left om (show B*vb B l=B*vb B m by omega)
   rw[noz_inj hB d b nl.tail nm.tail this]
theorem zzZ {a:List Int} {B:Int} (ha:OkN a) (hB:IsB B):
 Tot (fun b=>zzK b a B) (fun r=>r.2=(0,0)∧∃ l,r.1=l.reverse∧Db B l∧vb B l=val a∧noz l∧l.length<=20000):=by
 obtain ⟨P,n,hc,hP,n1,n2,p1,p2⟩:=zsp hB
 have d:=hB.one
 have hB2:=hB.le
 unfold zzK
 refine Tot.bindq (Tot.all (fun k=>zoO ha.2.1 ha.2.2 k)) fun r hr=>?_
 subst hr
 refine Tot.if_ (by rfl) (Tot.if_ oss (Tot.bindq hc fun r hr=>?_))
 subst hr
 have va:=(show 0<=val a∧val a<4294967296^600 from ⟨(val_bound ha.1).1,by have h1:=(val_bound ha.1).2;have h2:=zz9 ha.2.2;omega⟩)
 refine Tot.bindq (P:=fun l=>Db B l∧vb B l=val a∧noz l∧l.length<=20000) ?_ fun l ⟨h1,h2,t,h3⟩=>?_
 ·refine Tot.loop (fun st=>Dg st.1∧Nz st.1∧st.1.length<=600∧Db B st.2∧vb B st.2+B^st.2.length*val st.1=val a∧(val st.1=0->noz st.2)∧st.2.length<=20000) (fun st=>(val st.1).toNat)
   ⟨ha.1,ha.2.1,ha.2.2,Db.nil,by simp[vb],fun _=>.inl rfl,by simp⟩ fun st ⟨g1,g2,g3,g4,g5,o,g6⟩=>?_
  obtain ⟨v,l⟩:=st
  simp only at g1 g2 g3 g4 g5 o g6
  refine Tot.ite (fun h=>?_) (fun h=>?_)
  ·have h:0<v.length:=by have:((v.length:Nat):Int)>0:=odt h;omega
   have x:=(val_bound g1).1
   have y:1<=val v:=by
    rcases Int.lt_or_eq_of_le x with q | q
    ·omega
    ·have:=val_zero g1 g2 q.symm
     subst this
     simp at h
   have hl0:=(zzr d g4).1
   have ad:=zvu d l.length
   have hl:l.length<=19200:=zot d (by
    have:B^l.length*1<=B^l.length*val v:=Int.mul_le_mul_of_nonneg_left y om
    omega)
   refine Tot.bindq (zsh g1 om (show 0<P by omega) p2) fun r ⟨s1,s2,s3,s4,s5⟩=>?_
   obtain ⟨v',rest⟩:=r
   simp only at s1 s2 s3 s4 s5
   have g:=aa (val v) P
   rw[<- s4,<- s5]at g
   have i:0<=rest∧rest<P:=by rw[s5];exact ⟨Int.emod_nonneg _ om,Int.emod_lt_of_pos _ om⟩
   have ac:=(val_bound s1).1
   refine Tot.bindq (P:=fun j=>Db B j∧j.length<=l.length+n∧vb B j+B^j.length*val v'=val a∧(val v'=0->noz j)) ?_ fun j ⟨j1,j2,j3,j4⟩=>?_
   ·refine Tot.loop (fun st=>∃ k:Nat,st.2.2=(k:Int)∧k<=n∧0<=st.2.1∧st.2.1<B^(n-k)∧Db B st.1∧st.1.length<=l.length+k∧vb B st.1+B^st.1.length*(st.2.1+B^(n-k)*val v')=val a∧(st.2.1=0->val v'=0->noz st.1)) (fun st=>n-st.2.2.toNat)
     ⟨0,rfl,om,i.1,by rw[Nat.sub_zero,<- hP];exact i.2,g4,by simp,by rw[Nat.sub_zero,<- hP,<- g5,<- g];grind,fun r0 v0=>by rw[show rest=0 from r0,v0]at g;simp at g;omega⟩ fun st ⟨k,e,hk,k1,k2,k3,k4,k5,k6⟩=>?_
    obtain ⟨m,rs,kk⟩:=st
    simp only at e k1 k2 k3 k4 k5 k6
    subst e
    refine Tot.ite (fun c=>?_) (fun c=>?_)
    ·have c1:k<n:=by
      have:=(Bool.and_eq_true_iff.1 c).1
      have:(k:Int)<(n:Int):=odt this
      omega
     have p:nz B=some ():=by unfold nz;rw[if_neg om]
     have w1:IntKind.u32.wrap B=B:=u32_small om om
     have hrb:rs<4294967296:=by
      have:=zze d (show n-k<=n by omega)
      omega
     have w2:IntKind.i64.wrap rs=rs:=i64_small om om
     have w3:IntKind.i64.wrap ((k:Int)+1)=((k+1:Nat):Int):=by rw[i64_small om om];omega
     have w4:rs.tmod B=rs%B:=Int.tmod_eq_emod_of_nonneg k1
     have w5:rs.tdiv B=rs/B:=Int.tdiv_eq_ediv_of_nonneg k1
     have q0:0<=rs/B:=Int.ediv_nonneg k1 om
     have q1:rs/B<=rs:=Int.ediv_le_self _ k1
     have w6:IntKind.u32.wrap (rs/B)=rs/B:=u32_small q0 om
     have m0:0<=rs%B:=Int.emod_nonneg _ om
     have m1:rs%B<B:=Int.emod_lt_of_pos _ om
     simp only[w1,w2,w3,w4,w5,w6]
     refine Tot.bind0 p (Tot.bind0 (zzt oss) (Tot.bind0 p (Tot.some_bind (Tot.ret ?_))))
     have en:n-k=(n-(k+1))+1:=by omega
     rw[en,Int.pow_succ]at k2 k5
     refine ⟨⟨k+1,rfl,om,q0,Int.ediv_lt_of_lt_mul om k2,k3.append (Db.one ⟨m0,m1⟩),oss,?_,fun r0 v0=>?_⟩,osm⟩
     rotate_left
     ·have s:=(Bool.and_eq_true_iff.1 c).2
      have:v'=[]:=val_zero s1 s2 v0
      subst this
      have hrs:rs>0:=by simpa using s
      have r0:rs/B=0:=r0
      have:=aa rs B
      rw[r0]at this
      refine .inr ?_
      simp
      omega
     rw[vb_snoc,List.length_append,List.length_singleton,Int.pow_succ,<- k5]
     have e3:=aa rs B
     generalize rs/B=u at*
     generalize rs%B=z at*
     subst e3
     grind
    ·refine Tot.ret ⟨k3,om,?_⟩
     rcases Bool.and_eq_false_iff.1 c with c | c
     ·have c:n<=k:=by have:¬ (k:Int)<(n:Int):=odf c;omega
      have ek:n-k=0:=by omega
      rw[ek,Int.pow_zero]at k2 k5
      have:rs=0:=by omega
      subst this
      exact ⟨by simpa using k5,fun v0=>k6 rfl v0⟩
     ·obtain ⟨c1,c2⟩:=Bool.or_eq_false_iff.1 c
      have c1:v'.length=0:=by have:¬ ((v'.length:Nat):Int)>0:=odf c1;omega
      have c2:rs=0:=by have:¬ rs>0:=odf c2;omega
      have:v'=[]:=List.eq_nil_of_length_eq_zero c1
      subst this;subst c2
      exact ⟨by simpa [val] using k5,fun v0=>k6 rfl v0⟩
   ·refine Tot.ret ⟨⟨s1,s2,osm,j1,j3,j4,osm⟩,?_⟩
    have hlt:val v'<val v:=by
     rw[s4]
     exact Int.ediv_lt_of_lt_mul om (by
      have:val v*1<val v*P:=Int.mul_lt_mul_of_pos_left p1 om
      omega)
    simp only
    omega
  ·have h:v=[]:=by
    have:¬ ((v.length:Nat):Int)>0:=odf h
    exact List.eq_nil_of_length_eq_zero om
   subst h
   refine Tot.ret ⟨g4,?_,o rfl,g6⟩
   simpa [val] using g5
 ·have hr:zzn 0 l=some l.reverse:=by unfold zzn;rw[if_pos om]
  refine Tot.bindq (Tot.all (f:=fun b=>zzn b l) (fun k=>hr)) fun r hr=>?_
  subst hr
  exact Tot.ret ⟨rfl,l,rfl,h1,h2,t,h3⟩
end Go.Gv.RI
namespace Go.Gv.P
open Go Go.Gv Go.Gv.D Go.Gv.R Go.Lib
open Go.Gv.RI (val Dg Nz OkL OkI OkN vb Db IsB noz zzZ)
set_option maxRecDepth 100000
def dlN (b:Nat):Nat->Nat->List Int
 | 0,_=>[]
 | f+1,n=>if n=0 then [] else ((n%b:Nat):Int)::dlN b f (n/b)
def dl (B V:Int):List Int:=dlN B.toNat V.toNat V.toNat
theorem zpy {b:Nat} (hb:2<=b):∀ (f n:Nat),n<=f->Db (b:Int) (dlN b f n)∧vb (b:Int) (dlN b f n)=n∧noz (dlN b f n)
 | 0,n,h=>by
   have:n=0:=by omega
   subst this
   exact ⟨fun x hx=>by simp[dlN]at hx,rfl,.inl rfl⟩
 | f+1,n,h=>by
   unfold dlN
   by_cases h0:n=0
   ·subst h0
    rw[if_pos rfl]
    exact ⟨fun x hx=>by simp at hx,rfl,.inl rfl⟩
   ·rw[if_neg h0]
    have hlt:n/b<n:=Nat.div_lt_self om om
    obtain ⟨h1,h2,h3⟩:=zpy hb f (n/b) om
    have hm:=Nat.mod_lt n (show 0<b by omega)
    refine ⟨fun x hx=>?_,?_,?_⟩
    ·rcases List.mem_cons.1 hx with e | e
     ·subst e;omega
     ·exact h1 x e
    ·rw[RI.vb_cons',h2]
     have:=Nat.mod_add_div n b
     have e:((n%b+b*(n/b):Nat):Int)=(n:Int):=by rw[this]
     simpa using e
    ·refine .inr ?_
     cases hd:dlN b f (n/b) with
     | nil=>
       have hz:n/b=0:=by
        rw[hd]at h2
        have:(0:Int)=((n/b:Nat):Int):=h2
        omega
       have:=Nat.mod_add_div n b
       rw[hz]at this
       simp
       omega
     | cons y l=>
       rw[List.getLast?_cons_cons,<- hd]
       rcases h3 with h3 | h3
       ·rw[hd]at h3;simp at h3
       ·exact h3
theorem zt5 {B V:Int} (hB:1<B) (hV:0<=V):Db B (dl B V)∧vb B (dl B V)=V∧noz (dl B V):=by
 have:=zpy (b:=B.toNat) om V.toNat V.toNat (Nat.le_refl _)
 rw[show ((B.toNat:Nat):Int)=B by omega,show ((V.toNat:Nat):Int)=V by omega]at this
 exact this
theorem zpE {B V:Int} (hB:1<B) (hV:0<=V) {l:List Int} (h1:Db B l) (h2:vb B l=V) (h3:noz l):l=dl B V:=by
 obtain ⟨d1,d2,d3⟩:=zt5 hB hV
 exact RI.noz_inj hB h1 d1 h3 d3 (h2.trans d2.symm)
theorem zp6 {a:List Int} {B:Int} (ha:OkN a) (hB:IsB B):Tot (fun b=>zzK b a B) (· =((dl B (val a)).reverse,(0,0))):=
 (zzZ ha hB).mono fun r ⟨h0,l,e,h1,h2,h3,h4⟩=>by
   obtain ⟨r1,r2⟩:=r
   simp only at h0 e
   subst h0;subst e
   rw[zpE hB.one (RI.val_bound ha.1).1 h1 h2 h3]
def dch (d:Int):UInt8:=if d<10 then UInt8.ofNat (48+d.toNat) else UInt8.ofNat (87+d.toNat)
def wn (B V:Int):List UInt8:=if V=0 then [48] else (dl B V).reverse.map dch
theorem zvE {B V:Int} (hB:1<B) (hV:0<=V):dl B V=[]↔V=0:=by
 obtain ⟨d1,d2,d3⟩:=zt5 hB hV
 constructor
 ·intro h;rw[h]at d2;exact d2.symm
 ·intro h;subst h;exact RI.noz_zero hB d1 d3 d2
theorem dlen {a:List Int} {B:Int} (ha:OkN a) (hB:IsB B):(dl B (val a)).length<=20000:=by
 obtain ⟨N,hN⟩:=(zzZ ha hB)
 obtain ⟨⟨h0,l,e,h1,h2,h3,h4⟩,_⟩:=hN
 rw[<- zpE hB.one (RI.val_bound ha.1).1 h1 h2 h3]
 exact h4
theorem dig16 {p:Int->Bool} (h:(List.range 16).all (fun n=>p (n:Int))=true) {B d:Int} (hB:IsB B) (hd:0<=d∧d<B):p d=true:=by
 have:=hB.le
 have:=List.all_eq_true.1 h d.toNat (List.mem_range.2 om)
 rwa [show ((d.toNat:Nat):Int)=d by omega]at this
theorem ztK {B d:Int} (hB:IsB B) (hd:0<=d∧d<B):zvo (strOf [48,49,50,51,52,53,54,55,56,57,97,98,99,100,101,102,103,104,105,106,107,108,109,110,111,112,113,114,115,116,117,118,119,120,121,122]) d=some ((dch d).toNat:Int):=
 eq_of_beq (dig16 (p:=fun d=>zvo (strOf [48,49,50,51,52,53,54,55,56,57,97,98,99,100,101,102,103,104,105,106,107,108,109,110,111,112,113,114,115,116,117,118,119,120,121,122]) d==some ((dch d).toNat:Int)) (by kernel_rfl) hB hd)
theorem zpt {a:List Int} (ha:OkL a):OkN a:=⟨ha.1,ha.2.1,ha.l6⟩
end Go.Gv.P
namespace Go.Gv.P
open Go Go.Gv Go.Gv.D Go.Gv.R Go.Lib
open Go.Gv.RI (val Dg Nz OkL OkI OkN vb Db IsB noz zzZ zy1 val_bound zz9 pow_le_left)
set_option maxRecDepth 100000
def nea (a b:Int):Int:=if b<2*(a%b)∨2*(a%b)=b∧a/b%2=1 then a/b+1 else a/b
def gp (z:Nat):Nat->List UInt8->List (List UInt8)
 | 0,l=>[l]
 | f+1,l=>if z<l.length then gp z f (l.take (l.length-z))++[l.drop (l.length-z)] else [l]
def gps (z:Nat) (l:List UInt8):List (List UInt8):=gp z l.length l
def grp (g:Int) (z:Nat) (l:List UInt8):List UInt8:=if g=0 then l else join (gps z l) [UInt8.ofNat g.toNat]
open Go.Gv.RI (val Dg Nz OkL OkI OkN vb Db IsB noz zzZ zy1 val_bound zz9 pow_le_left)
set_option maxRecDepth 100000
def padZ (pl:Nat) (d:List UInt8):List UInt8:=List.replicate (pl+1-d.length) 48++d
def zpQ (pl:Nat) (d r:List UInt8):List UInt8:=if 0<pl then r++(46::d.drop (d.length-pl)) else r
def fixS (a b:Int) (pl:Nat) (g:Int):List UInt8:=zpQ pl (padZ pl (wn 10 (nea (a*10^pl) b))) (grp g 3 ((padZ pl (wn 10 (nea (a*10^pl) b))).take ((padZ pl (wn 10 (nea (a*10^pl) b))).length-pl)))
def scA (a:Int) (n:Int):Int:=if 0<=n then a*10^n.toNat else a
def scB (b:Int) (n:Int):Int:=if 0<=n then b else b*10^(-n).toNat
def zpo (a b:Int):Int:=if scA a (-(((wn 10 a).length:Int)-((wn 10 b).length:Int)))<scB b (-(((wn 10 a).length:Int)-((wn 10 b).length:Int))) then ((wn 10 a).length:Int)-((wn 10 b).length:Int)-1 else ((wn 10 a).length:Int)-((wn 10 b).length:Int)
def mant (a b:Int) (pl:Nat):Int × List UInt8:=
 if a=0 then (0,List.replicate (pl+1) 48)
 else if pl+1<(wn 10 (nea (scA a (pl-zpo a b)) (scB b (pl-zpo a b)))).length then (zpo a b+1,(wn 10 (nea (scA a (pl-zpo a b)) (scB b (pl-zpo a b)))).take (pl+1))
 else (zpo a b,wn 10 (nea (scA a (pl-zpo a b)) (scB b (pl-zpo a b))))
def expS (e:Int):List UInt8:=(if e<0 then [101,45] else [101,43])++(if e.natAbs<10 then [48] else [])++itoa e.natAbs
def sciS (a b:Int) (pl:Nat):List UInt8:=((mant a b pl).2.take 1++(if 0<pl then 46::(mant a b pl).2.drop 1 else []))++expS (mant a b pl).1
open Go.Gv.RI (val Dg Nz OkL OkI OkN vb Db IsB noz zzZ zy1 val_bound zz9 pow_le_left)
set_option maxRecDepth 100000
end Go.Gv.P
