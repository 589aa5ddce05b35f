import Derived.Test.YtaeeniomdicclaaDoorN5
import Derived.Test.YtaeeniomdicclaaDoorGo
set_option linter.all false
open Go.Gv.Tot renaming bindq->aa,ret->ad
open Nat renaming mul_le_mul_left->ab,le_mul_of_pos_left->ac,gcd->ae
namespace Go.Gv.P
open Go Go.Gv Go.Gv.D Go.Gv.R Go.Lib
open Go.Gv.RI (val Dg Nz OkL OkI OkN vb Db IsB Ok3 zzh zyv zzr zze h16 zzo b2 zwu val_bound)
set_option maxRecDepth 100000
def wN (l:List Int):Nat:=(vb 65536 l).toNat
theorem zz0 {l:List Int} (h:Ok3 l):vb 65536 l=(wN l:Int):=by
 have:=(zoh h).1
 unfold wN;omega
theorem zxY {a b:List Int} (ha:Ok3 a) (hb:Ok3 b) (h:vb 65536 a<=vb 65536 b):a.length<=b.length:=by
 rcases Nat.lt_or_ge b.length a.length with hk | hk
 ·have:=RI.vb_longer h16 hb.1 ha.1 ha.2.1 hk
  omega
 ·exact hk
theorem ztJ {q:List Int} (hq:Ok3 q) (hne:0<q.length):∃ x,idx q 0=some x∧((x.tmod 2==0)=true↔wN q%2=0):=by
 cases q with
 | nil=>simp at hne
 | cons x l=>
   refine ⟨x,rfl,?_⟩
   have hx:=hq.1 x (List.mem_cons_self ..)
   have hl:=(zoh (a:=x::l) hq).1
   rw[Int.tmod_eq_emod_of_nonneg hx.1]
   have e:vb 65536 (x::l)=x+65536*vb 65536 l:=rfl
   have h2:=zz0 hq
   rw[e]at h2
   have:(wN (x::l):Int)%2=x%2:=by omega
   simp only[beq_iff_eq]
   omega
structure Cm (A B:Nat) (x y:List Int) (t:Nat):Prop where
 a:Ok3 x
 b:Ok3 y
 g:2^t*ae (wN x) (wN y)=ae A B
 la:2^t*wN x<=A
 lb:2^t*wN y<=B
theorem ztB {a b:List Int} (ha:Ok3 a) (hb:Ok3 b) (la:a.length<=1000) (lb:b.length<=1000):
 Tot (fun g=>zyN g a b) (fun r=>Ok3 r∧vb 65536 r=(ae (wN a) (wN b):Int)):=by
 unfold zyN
 obtain ⟨Z,hZ⟩:∃ Z:Nat,Z=16000:=⟨_,rfl⟩
 have hA:(wN a:Int)<2^Z:=by
  have h1:=(zoh ha).2
  have h2:(2:Int)^(16*a.length)<=2^Z:=zze (b:=2) ddc om
  rw[<- zz0 ha];omega
 have hB:(wN b:Int)<2^Z:=by
  have h1:=(zoh hb).2
  have h2:(2:Int)^(16*b.length)<=2^Z:=zze (b:=2) ddc om
  rw[<- zz0 hb];omega
 have hA':wN a<2^Z:=by
  have:((2^Z:Nat):Int)=(2:Int)^Z:=by rw[Int.natCast_pow];rfl
  omega
 have hB':wN b<2^Z:=by
  have:((2^Z:Nat):Int)=(2:Int)^Z:=by rw[Int.natCast_pow];rfl
  omega
 have xl:∀ {x:List Int} {t:Nat},Ok3 x->2^t*wN x<=wN a->x.length<=1000:=fun {x t} h1 h2=>by
  have h3:1<=2^t:=Nat.one_le_two_pow
  have h4:wN x<=2^t*wN x:=ac _ h3
  have:=zxY h1 ha (by rw[zz0 h1,zz0 ha];omega)
  omega
 have yl:∀ {x:List Int} {t:Nat},Ok3 x->2^t*wN x<=wN b->x.length<=1000:=fun {x t} h1 h2=>by
  have h3:1<=2^t:=Nat.one_le_two_pow
  have h4:wN x<=2^t*wN x:=ac _ h3
  have:=zxY h1 hb (by rw[zz0 h1,zz0 hb];omega)
  omega
 have pos:∀ {x:List Int},Ok3 x->(0<x.length↔0<wN x):=fun {x} h=>by
  have:=ztH h
  have:=zz0 h
  omega
 refine aa (P:=fun j=>∃ t:Nat,j.2.2=(t:Int)∧t<=Z∧Cm (wN a) (wN b) j.1 j.2.1 t∧(wN j.1=0∨wN j.2.1=0)) ?_ fun j ⟨t,e,ht,hc,hz⟩=>?_
 ·refine Tot.loop (fun (st:List Int × List Int × Int)=>∃ t:Nat,st.2.2=(t:Int)∧t<=Z∧Cm (wN a) (wN b) st.1 st.2.1 t) (fun st=>wN st.1+wN st.2.1) ⟨0,rfl,om,ha,hb,by simp,by simp,by simp⟩ fun st ⟨t,e,ht,hc⟩=>?_
  obtain ⟨x,y,k⟩:=st
  simp only at e hc
  subst e
  obtain ⟨c1,c2,c3,c4,c5⟩:=hc
  have lx:=xl c1 c4
  have ly:=yl c2 c5
  refine Tot.ite (fun h=>?_) (fun h=>ad ?_)
  ·simp only[Bool.and_eq_true,decide_eq_true_eq]at h
   have hx:0<x.length:=by omega
   have hy:0<y.length:=by omega
   have px:=(pos c1).1 hx
   have py:=(pos c2).1 hy
   obtain ⟨x0,ex,n⟩:=ztJ c1 hx
   obtain ⟨y0,ey,z⟩:=ztJ c2 hy
   have tb:t+1<=Z∨wN x%2≠0:=by
    rcases Nat.lt_or_ge t Z with h | h
    ·exact .inl om
    ·exfalso
     have et:t=Z:=by omega
     have:2^t*1<=2^t*wN x:=ab _ px
     rw[et]at this c4
     omega
   refine aa (P:=(· =(decide (wN x%2=0)&&decide (wN y%2=0)))) ?_ fun j hj=>?_
   ·refine Tot.bind0 ex ?_
    refine Tot.ite (fun h=>?_) (fun h=>ad ?_)
    ·have h:=n.1 h
     refine Tot.bind0 ey (ad ?_)
     rw[h,dtt rfl,Bool.true_and]
     by_cases h2:wN y%2=0
     ·rw[dtt h2];exact z.2 h2
     ·rw[dff h2]
      cases hq:(y0.tmod 2==0) with
      | false=>rfl
      | true=>exact absurd (z.1 hq) h2
    ·have:¬ wN x%2=0:=fun q=>by rw[n.2 q]at h;cases h
     rw[dff this];rfl
   ·subst hj
    have f:∀ {q:List Int},Ok3 q->q.length<=1000->Tot (fun g=>zzI g q 2) (fun r=>Ok3 r.1∧wN r.1=wN q/2):=fun {q} hq hl=>by
     refine (zzh (d:=2) hq om ddc ddc).mono fun r ⟨r1,r2,_,_⟩=>⟨r1,?_⟩
     replace r2:vb 65536 r.1=vb 65536 q/2:=r2
     rw[zz0 r1,zz0 hq]at r2
     omega
    refine aa (P:=fun j=>∃ t:Nat,j.2.2=(t:Int)∧t<=Z∧Cm (wN a) (wN b) j.1 j.2.1 t∧wN j.1+wN j.2.1<wN x+wN y) ?_ fun j ⟨t',e,h1,h2,h3⟩=>ad ⟨⟨t',e,h1,h2⟩,h3⟩
    refine Tot.ite (fun h=>?_) (fun h=>?_)
    ·simp only[Bool.and_eq_true,decide_eq_true_eq]at h
     refine aa (f (q:=x) c1 lx) fun r ⟨r1,r2⟩=>aa (f (q:=y) c2 ly) fun q ⟨q1,q2⟩=>ad ?_
     have h5:t+1<=Z:=tb.resolve_right (fun k=>k h.1)
     have m:wN x=2*wN r.1:=by omega
     have l:wN y=2*wN q.1:=by omega
     refine ⟨t+1,iw (x:=(t:Int)+1) om om,h5,⟨r1,q1,?_,?_,?_⟩,osm⟩
     ·rw[<- c3,m,l,Nat.gcd_mul_left,Nat.pow_succ,Nat.mul_assoc]
     ·rw[Nat.pow_succ,Nat.mul_assoc,<- m];exact c4
     ·rw[Nat.pow_succ,Nat.mul_assoc,<- l];exact c5
    ·refine Tot.bind0 ex ?_
     have hno:¬ (wN x%2=0∧wN y%2=0):=fun ⟨k1,k2⟩=>by rw[dtt k1,dtt k2]at h;cases h
     have odd:∀ {u v:Nat},v%2=1->ae (2*u) v=ae u v:=fun {u v} hv=>by
      have:Nat.Coprime 2 v:=by show ae 2 v=1;rw[Nat.gcd_rec,hv];rfl
      exact Nat.Coprime.gcd_mul_left_cancel u this
     refine Tot.ite (fun h=>?_) (fun h=>?_)
     ·have h:=n.1 h
      refine aa (f (q:=x) c1 lx) fun r ⟨r1,r2⟩=>ad ?_
      have m:wN x=2*wN r.1:=by omega
      refine ⟨t,rfl,ht,⟨r1,c2,?_,?_,c5⟩,osm⟩
      ·rw[<- c3,m,odd om]
      ·refine Nat.le_trans (ab _ ?_) c4
       dsimp only;omega
     ·refine Tot.bind0 ey ?_
      have af:wN x%2=1:=by
       have:¬ wN x%2=0:=fun q=>by rw[n.2 q]at h;cases h
       omega
      refine Tot.ite (fun h=>?_) (fun h=>?_)
      ·have h:=z.1 h
       refine aa (f (q:=y) c2 ly) fun r ⟨r1,r2⟩=>ad ?_
       have l:wN y=2*wN r.1:=by omega
       refine ⟨t,rfl,ht,⟨c1,r1,?_,c4,?_⟩,osm⟩
       ·rw[<- c3,l,Nat.gcd_comm (wN x) (2*wN r.1),odd af,Nat.gcd_comm]
       ·refine Nat.le_trans (ab _ ?_) c5
        dsimp only;omega
      ·refine aa (RI.Compare_tot (a:=x) (b:=y) c1 c2) fun c ⟨k1,k2⟩=>?_
       replace k1:c<0↔vb 65536 x<vb 65536 y:=k1
       rw[zz0 c1,zz0 c2]at k1
       refine Tot.ite (fun h=>?_) (fun h=>?_)
       ·have h:c>=0:=odt h
        have p:wN y<=wN x:=by omega
        refine aa (RI.Minus3_tot (a:=x) (b:=y) c1 c2 (by show vb 65536 y<=vb 65536 x;rw[zz0 c1,zz0 c2];omega)) fun r ⟨r1,r2⟩=>ad ?_
        replace r2:vb 65536 r=vb 65536 x-vb 65536 y:=r2
        rw[zz0 r1,zz0 c1,zz0 c2]at r2
        have er:wN r=wN x-wN y:=by omega
        refine ⟨t,rfl,ht,⟨r1,c2,?_,?_,c5⟩,osm⟩
        ·rw[er,Nat.gcd_sub_self_left p,c3]
        ·refine Nat.le_trans (ab _ ?_) c4
         dsimp only;omega
       ·have h:¬ c>=0:=odf h
        have p:wN x<=wN y:=by omega
        refine aa (RI.Minus3_tot (a:=y) (b:=x) c2 c1 (by show vb 65536 x<=vb 65536 y;rw[zz0 c1,zz0 c2];omega)) fun r ⟨r1,r2⟩=>ad ?_
        replace r2:vb 65536 r=vb 65536 y-vb 65536 x:=r2
        rw[zz0 r1,zz0 c1,zz0 c2]at r2
        have er:wN r=wN y-wN x:=by omega
        refine ⟨t,rfl,ht,⟨c1,r1,?_,c4,?_⟩,osm⟩
        ·rw[er,Nat.gcd_sub_self_right p,c3]
        ·refine Nat.le_trans (ab _ ?_) c5
         dsimp only;omega
  ·refine ⟨t,rfl,ht,⟨c1,c2,c3,c4,c5⟩,?_⟩
   simp only
   rcases Nat.eq_zero_or_pos (wN x) with q | q
   ·exact .inl q
   ·right
    have q:=(pos c1).2 q
    rcases Nat.eq_zero_or_pos (wN y) with q2 | q2
    ·exact q2
    ·have q2:=(pos c2).2 q2
     exfalso
     simp only[Bool.and_eq_false_iff,decide_eq_false_iff_not]at h
     omega
 ·obtain ⟨x,y,k⟩:=j
  simp only at e hc hz
  subst e
  obtain ⟨c1,c2,c3,c4,c5⟩:=hc
  have lx:=xl c1 c4
  have ly:=yl c2 c5
  refine aa (RI.Plus3_tot c1 c2 osm osm) fun s ⟨s1,s2⟩=>?_
  replace s2:vb 65536 s=vb 65536 x+vb 65536 y:=s2
  rw[zz0 s1,zz0 c1,zz0 c2]at s2
  have hg:2^t*wN s=ae (wN a) (wN b):=by
   rw[<- c3]
   rcases hz with hz | hz
   ·rw[hz,Nat.gcd_zero_left];congr 1;omega
   ·rw[hz,Nat.gcd_zero_right];congr 1;omega
  have hgb:ae (wN a) (wN b)<=wN a+wN b:=by
   rcases Nat.eq_zero_or_pos (wN a) with q | q
   ·rw[q,Nat.gcd_zero_left];omega
   ·have:=Nat.gcd_le_left (wN b) q;omega
  refine aa (P:=fun r=>Ok3 r∧vb 65536 r=(ae (wN a) (wN b):Int)) ?_ fun r hr=>ad hr
  refine Tot.loop (fun (st:Int × List Int)=>∃ i:Nat,st.1=(i:Int)∧i<=Z∧Ok3 st.2∧2^i*wN st.2=ae (wN a) (wN b)) (fun st=>st.1.toNat) ⟨t,rfl,ht,s1,hg⟩ fun st ⟨i,e,hi,o1,o2⟩=>?_
  obtain ⟨k,o⟩:=st
  simp only at e o1 o2
  subst e
  refine Tot.ite (fun h=>?_) (fun h=>ad ?_)
  ·have h:(i:Int)>0:=odt h
   have hol:o.length<=1001:=by
    refine zpb o1 ?_
    have h3:1<=2^i:=Nat.one_le_two_pow
    have h4:wN o<=2^i*wN o:=ac _ h3
    have h5:=(zzr h16 ha.1).2
    have h6:=(zzr h16 hb.1).2
    have h7:(65536:Int)^a.length<=65536^1000:=zze h16 la
    have h8:(65536:Int)^b.length<=65536^1000:=zze h16 lb
    have h9:(65536:Int)^1001=65536^1000*65536:=Int.pow_succ ..
    have h10:(0:Int)<65536^1000:=Int.pow_pos ddc
    rw[zz0 ha]at h5
    rw[zz0 hb]at h6
    rw[zz0 o1,h9]
    generalize (65536:Int)^1000=Z at*
    omega
   refine aa (zvO (a:=o) false o1 om) fun d ⟨d1,d2,d3⟩=>ad ?_
   have d2:vb 65536 d=2*vb 65536 o:=by rw[d2];show _+0=_;omega
   rw[zz0 d1,zz0 o1]at d2
   rw[i64_small om om]
   refine ⟨⟨i-1,osm,om,d1,?_⟩,osm⟩
   rw[<- o2,show wN d=2*wN o by omega,<- Nat.mul_assoc,<- Nat.pow_succ]
   congr 2
   omega
  ·have h:¬ (i:Int)>0:=odf h
   have:i=0:=by omega
   subst this
   refine ⟨o1,?_⟩
   rw[<- o2,zz0 o1];simp
open Go.Gv.RI (val Dg Nz OkL OkI OkN vb Db IsB Ok3 zzh zyv zzr zze h16 zzo b2 zwu val_bound)
set_option maxRecDepth 100000
open Go.Gv.RI (val Dg Nz OkL OkI OkN vb Db IsB Ok3 zzh zyv zzr zze h16 zzo b2 zwu val_bound)
set_option maxRecDepth 100000
open Go.Gv.RI (val Dg Nz OkL OkI OkN vb Db IsB Ok3 zzh zyv zzr zze h16 zzo b2 zwu val_bound)
set_option maxRecDepth 100000
open Go.Gv.RI (val Dg Nz OkL OkI OkN vb Db IsB Ok3 zzh zyv zzr zze h16 zzo b2 zwu val_bound)
set_option maxRecDepth 100000
open Go.Gv.RI (val Dg Nz OkL OkI OkN vb Db IsB Ok3 zzh zyv zzr zze h16 zzo b2 zwu val_bound)
set_option maxRecDepth 100000
end Go.Gv.P
