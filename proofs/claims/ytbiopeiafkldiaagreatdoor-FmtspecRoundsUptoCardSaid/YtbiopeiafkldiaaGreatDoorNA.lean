import Derived.Test.YtbiopeiafkldiaaGreatDoorN5
import Derived.Test.YtbiopeiafkldiaaGreatDoorGo
set_option linter.all false
namespace Go.Gv.P
open Go.Gv.Tot renaming bindq→aa,ret→ab
open Nat renaming mul_le_mul_left→ac,le_mul_of_pos_left→ad,gcd→ae
open Go Go.Gv Go.Gv.D Go.Gv.R Go.Lib
open Go.Gv.RI (val Dg Nz OkL OkI OkN vb Db IsB Ok3 HalveD_tot vb_big vb_bound vb_mono h16 vbits b2 Trim val_bound)
set_option maxRecDepth 100000
/-! ### which values the reference takes for valid -/
theorem intok_tot {neg:Bool} {l:List Int} (hd:Dg l):Tot (fun n=>ref3_IntOk n (neg,l)) (fun r=>(r=true↔OkI (neg,l))):=by
 unfold ref3_IntOk
 refine aa (P:=fun j=>(j=true↔OkI (neg,l))) ?_ fun j hj=>ab hj
 by_cases h128:l.length≤128
 ·refine Tot.it (dtt (show ((l.length:Nat):Int)≤128 by omega)) ?_
  by_cases h0:l=[]
  ·subst h0
   refine Tot.it rfl ?_
   cases neg with
   | false=>exact Tot.it rfl (ab ⟨fun _=>⟨⟨fun x hx=>by simp at hx,.inl rfl,by simp⟩,fun _=>rfl⟩,fun _=>rfl⟩)
   | true=>
     refine Tot.if_ rfl (Tot.if_ rfl (ab ⟨fun h=>(by cases h),fun h=>?_⟩))
     have:=h.2 rfl
     cases this
  ·have hlen:0<l.length:=List.length_pos_iff.2 h0
   obtain ⟨n,hn⟩:∃ n,l.length=n+1:=⟨l.length-1,om⟩
   have hlast:l.getLast? =some (l[n]'(om)):=by
    rw[List.getLast?_eq_getElem?,show l.length-1=n by omega]
    exact List.getElem?_eq_getElem om
   have hiff:((l[n]'(om)!=0)=true↔OkI (neg,l)):=by
    constructor
    ·intro h
     have h:l[n]'(om)≠0:=by simpa using h
     exact ⟨⟨hd,.inr (by rw[hlast];simpa using h),h128⟩,fun e=>absurd e h0⟩
    ·intro h
     rcases h.1.2.1 with h1 | h1
     ·exact absurd h1 h0
     ·have:l.getLast? ≠some 0:=h1
      rw[hlast]at this
      simpa using this
   refine Tot.if_ (by simpa using h0) (Tot.it (dtt (show ((l.length:Nat):Int)>0 by omega)) ?_)
   have hw:IntKind.i64.wrap (((l.length:Nat):Int)-1)=(n:Int):=iw om om
   show Tot (fun _=>Option.bind (idx l (IntKind.i64.wrap (((l.length:Nat):Int)-1))) fun x19=>some (x19 !=0)) _
   rw[hw]
   exact Tot.bind0 (RI.idx_nat (show n<l.length by omega)) (ab hiff)
 ·refine Tot.if_ (dff (show ¬ ((l.length:Nat):Int)≤128 by omega)) (ab ⟨fun h=>(by cases h),fun h=>absurd h.1.2.2 h128⟩)
/-- the value as a natural number -/
def wN (l:List Int):Nat:=(vb 65536 l).toNat
theorem wN_eq {l:List Int} (h:Ok3 l):vb 65536 l=(wN l:Int):=by
 have:=(w_lt h).1
 unfold wN;omega
theorem len_le_of {a b:List Int} (ha:Ok3 a) (hb:Ok3 b) (h:vb 65536 a≤vb 65536 b):a.length≤b.length:=by
 rcases Nat.lt_or_ge b.length a.length with hk | hk
 ·have:=RI.vb_longer h16 hb.1 ha.1 ha.2.1 hk
  omega
 ·exact hk
theorem even_tot {q:List Int} (hq:Ok3 q) (hne:0<q.length):∃ x,idx q 0=some x∧((x.tmod 2==0)=true↔wN q%2=0):=by
 cases q with
 | nil=>simp at hne
 | cons x l=>
   refine ⟨x,rfl,?_⟩
   have hx:=hq.1 x (List.mem_cons_self ..)
   have hl:=(w_lt (a:=x::l) hq).1
   rw[Int.tmod_eq_emod_of_nonneg hx.1]
   have e:vb 65536 (x::l)=x+65536*vb 65536 l:=rfl
   have h2:=wN_eq hq
   rw[e]at h2
   have:(wN (x::l):Int)%2=x%2:=by omega
   simp only[beq_iff_eq]
   omega
structure Cm (A B:Nat) (x y:List Int) (t:Nat):Prop where
 a:Ok3 x
 b:Ok3 y
 g:2^t*ae (wN x) (wN y)=ae A B
 la:2^t*wN x≤A
 lb:2^t*wN y≤B
theorem Common_tot {a b:List Int} (ha:Ok3 a) (hb:Ok3 b) (la:a.length≤1000) (lb:b.length≤1000):
 Tot (fun fuel=>ref3_Common fuel a b) (fun r=>Ok3 r∧vb 65536 r=(ae (wN a) (wN b):Int)):=by
 unfold ref3_Common
 obtain ⟨Z,hZ⟩:∃ Z:Nat,Z=16000:=⟨_,rfl⟩
 have hA:(wN a:Int)<2^Z:=by
  have h1:=(w_lt ha).2
  have h2:(2:Int)^(16*a.length)≤2^Z:=vb_mono (b:=2) ddc om
  rw[← wN_eq ha];omega
 have hB:(wN b:Int)<2^Z:=by
  have h1:=(w_lt hb).2
  have h2:(2:Int)^(16*b.length)≤2^Z:=vb_mono (b:=2) ddc om
  rw[← wN_eq hb];omega
 have hA':wN a<2^Z:=by
  have:((2^Z:Nat):Int)=(2:Int)^Z:=by rw[Int.natCast_pow];rfl
  omega
 have hB':wN b<2^Z:=by
  have:((2^Z:Nat):Int)=(2:Int)^Z:=by rw[Int.natCast_pow];rfl
  omega
 have xl:∀ {x:List Int} {t:Nat},Ok3 x→2^t*wN x≤wN a→x.length≤1000:=fun {x t} h1 h2=>by
  have h3:1≤2^t:=Nat.one_le_two_pow
  have h4:wN x≤2^t*wN x:=ad _ h3
  have:=len_le_of h1 ha (by rw[wN_eq h1,wN_eq ha];omega)
  omega
 have yl:∀ {x:List Int} {t:Nat},Ok3 x→2^t*wN x≤wN b→x.length≤1000:=fun {x t} h1 h2=>by
  have h3:1≤2^t:=Nat.one_le_two_pow
  have h4:wN x≤2^t*wN x:=ad _ h3
  have:=len_le_of h1 hb (by rw[wN_eq h1,wN_eq hb];omega)
  omega
 have pos:∀ {x:List Int},Ok3 x→(0<x.length↔0<wN x):=fun {x} h=>by
  have:=nil_of_w h
  have:=wN_eq h
  omega
 refine aa (P:=fun j=>∃ t:Nat,j.2.2=(t:Int)∧t≤Z∧Cm (wN a) (wN b) j.1 j.2.1 t∧(wN j.1=0∨wN j.2.1=0)) ?_ fun j ⟨t,e,ht,hc,hz⟩=>?_
 ·refine Tot.loop (fun (st:List Int × List Int × Int)=>∃ t:Nat,st.2.2=(t:Int)∧t≤Z∧Cm (wN a) (wN b) st.1 st.2.1 t) (fun st=>wN st.1+wN st.2.1) ⟨0,rfl,om,ha,hb,by simp,by simp,by simp⟩ fun st ⟨t,e,ht,hc⟩=>?_
  obtain ⟨x,y,k⟩:=st
  simp only at e hc
  subst e
  obtain ⟨c1,c2,c3,c4,c5⟩:=hc
  have lx:=xl c1 c4
  have ly:=yl c2 c5
  refine Tot.ite (fun h=>?_) (fun h=>ab ?_)
  ·simp only[Bool.and_eq_true,decide_eq_true_eq]at h
   have hx:0<x.length:=by omega
   have hy:0<y.length:=by omega
   have px:=(pos c1).1 hx
   have py:=(pos c2).1 hy
   obtain ⟨x0,ex,evx⟩:=even_tot c1 hx
   obtain ⟨y0,ey,evy⟩:=even_tot c2 hy
   have tb:t+1≤Z∨wN x%2≠0:=by
    rcases Nat.lt_or_ge t Z with h | h
    ·exact .inl om
    ·exfalso
     have et:t=Z:=by omega
     have:2^t*1≤2^t*wN x:=ac _ px
     rw[et]at this c4
     omega
   refine aa (P:=(· =(decide (wN x%2=0)&&decide (wN y%2=0)))) ?_ fun j hj=>?_
   ·refine Tot.bind0 ex ?_
    refine Tot.ite (fun h=>?_) (fun h=>ab ?_)
    ·have h:=evx.1 h
     refine Tot.bind0 ey (ab ?_)
     rw[h,dtt rfl,Bool.true_and]
     by_cases h2:wN y%2=0
     ·rw[dtt h2];exact evy.2 h2
     ·rw[dff h2]
      cases hq:(y0.tmod 2==0) with
      | false=>rfl
      | true=>exact absurd (evy.1 hq) h2
    ·have:¬ wN x%2=0:=fun q=>by rw[evx.2 q]at h;cases h
     rw[dff this];rfl
   ·subst hj
    have half:∀ {q:List Int},Ok3 q→q.length≤1000→Tot (fun fuel=>ref3_Halve fuel q 2) (fun r=>Ok3 r.1∧wN r.1=wN q/2):=fun {q} hq hl=>by
     refine (HalveD_tot (d:=2) hq om ddc ddc).mono fun r ⟨r1,r2,_,_⟩=>⟨r1,?_⟩
     replace r2:vb 65536 r.1=vb 65536 q/2:=r2
     rw[wN_eq r1,wN_eq hq]at r2
     omega
    refine aa (P:=fun j=>∃ t:Nat,j.2.2=(t:Int)∧t≤Z∧Cm (wN a) (wN b) j.1 j.2.1 t∧wN j.1+wN j.2.1<wN x+wN y) ?_ fun j ⟨t',e,h1,h2,h3⟩=>ab ⟨⟨t',e,h1,h2⟩,h3⟩
    refine Tot.ite (fun h=>?_) (fun h=>?_)
    ·simp only[Bool.and_eq_true,decide_eq_true_eq]at h
     refine aa (half (q:=x) c1 lx) fun r ⟨r1,r2⟩=>aa (half (q:=y) c2 ly) fun q ⟨q1,q2⟩=>ab ?_
     have h5:t+1≤Z:=tb.resolve_right (fun k=>k h.1)
     have ex2:wN x=2*wN r.1:=by omega
     have ey2:wN y=2*wN q.1:=by omega
     refine ⟨t+1,iw (x:=(t:Int)+1) om om,h5,⟨r1,q1,?_,?_,?_⟩,osm⟩
     ·rw[← c3,ex2,ey2,Nat.gcd_mul_left,Nat.pow_succ,Nat.mul_assoc]
     ·rw[Nat.pow_succ,Nat.mul_assoc,← ex2];exact c4
     ·rw[Nat.pow_succ,Nat.mul_assoc,← ey2];exact c5
    ·refine Tot.bind0 ex ?_
     have hno:¬ (wN x%2=0∧wN y%2=0):=fun ⟨k1,k2⟩=>by rw[dtt k1,dtt k2]at h;cases h
     have odd:∀ {u v:Nat},v%2=1→ae (2*u) v=ae u v:=fun {u v} hv=>by
      have:Nat.Coprime 2 v:=by show ae 2 v=1;rw[Nat.gcd_rec,hv];rfl
      exact Nat.Coprime.gcd_mul_left_cancel u this
     refine Tot.ite (fun h=>?_) (fun h=>?_)
     ·have h:=evx.1 h
      refine aa (half (q:=x) c1 lx) fun r ⟨r1,r2⟩=>ab ?_
      have ex2:wN x=2*wN r.1:=by omega
      refine ⟨t,rfl,ht,⟨r1,c2,?_,?_,c5⟩,osm⟩
      ·rw[← c3,ex2,odd om]
      ·refine Nat.le_trans (ac _ ?_) c4
       dsimp only;omega
     ·refine Tot.bind0 ey ?_
      have hxo:wN x%2=1:=by
       have:¬ wN x%2=0:=fun q=>by rw[evx.2 q]at h;cases h
       omega
      refine Tot.ite (fun h=>?_) (fun h=>?_)
      ·have h:=evy.1 h
       refine aa (half (q:=y) c2 ly) fun r ⟨r1,r2⟩=>ab ?_
       have ey2:wN y=2*wN r.1:=by omega
       refine ⟨t,rfl,ht,⟨c1,r1,?_,c4,?_⟩,osm⟩
       ·rw[← c3,ey2,Nat.gcd_comm (wN x) (2*wN r.1),odd hxo,Nat.gcd_comm]
       ·refine Nat.le_trans (ac _ ?_) c5
        dsimp only;omega
      ·refine aa (RI.Compare_tot (a:=x) (b:=y) c1 c2) fun c ⟨k1,k2⟩=>?_
       replace k1:c<0↔vb 65536 x<vb 65536 y:=k1
       rw[wN_eq c1,wN_eq c2]at k1
       refine Tot.ite (fun h=>?_) (fun h=>?_)
       ·have h:c≥0:=odt h
        have hle:wN y≤wN x:=by omega
        refine aa (RI.Minus3_tot (a:=x) (b:=y) c1 c2 (by show vb 65536 y≤vb 65536 x;rw[wN_eq c1,wN_eq c2];omega)) fun r ⟨r1,r2⟩=>ab ?_
        replace r2:vb 65536 r=vb 65536 x-vb 65536 y:=r2
        rw[wN_eq r1,wN_eq c1,wN_eq c2]at r2
        have er:wN r=wN x-wN y:=by omega
        refine ⟨t,rfl,ht,⟨r1,c2,?_,?_,c5⟩,osm⟩
        ·rw[er,Nat.gcd_sub_self_left hle,c3]
        ·refine Nat.le_trans (ac _ ?_) c4
         dsimp only;omega
       ·have h:¬ c≥0:=odf h
        have hle:wN x≤wN y:=by omega
        refine aa (RI.Minus3_tot (a:=y) (b:=x) c2 c1 (by show vb 65536 x≤vb 65536 y;rw[wN_eq c1,wN_eq c2];omega)) fun r ⟨r1,r2⟩=>ab ?_
        replace r2:vb 65536 r=vb 65536 y-vb 65536 x:=r2
        rw[wN_eq r1,wN_eq c1,wN_eq c2]at r2
        have er:wN r=wN y-wN x:=by omega
        refine ⟨t,rfl,ht,⟨c1,r1,?_,c4,?_⟩,osm⟩
        ·rw[er,Nat.gcd_sub_self_right hle,c3]
        ·refine Nat.le_trans (ac _ ?_) c5
         dsimp only;omega
  ·refine ⟨t,rfl,ht,⟨c1,c2,c3,c4,c5⟩,?_⟩
   simp only
   rcases Nat.eq_zero_or_pos (wN x) with q | q
   ·exact .inl q
   ·right
    have q:=(pos c1).2 q
    rcases Nat.eq_zero_or_pos (wN y) with q2 | q2
    ·exact q2
    ·have q2:=(pos c2).2 q2
     exfalso
     simp only[Bool.and_eq_false_iff,decide_eq_false_iff_not]at h
     omega
 ·obtain ⟨x,y,k⟩:=j
  simp only at e hc hz
  subst e
  obtain ⟨c1,c2,c3,c4,c5⟩:=hc
  have lx:=xl c1 c4
  have ly:=yl c2 c5
  refine aa (RI.Plus3_tot c1 c2 osm osm) fun s ⟨s1,s2⟩=>?_
  replace s2:vb 65536 s=vb 65536 x+vb 65536 y:=s2
  rw[wN_eq s1,wN_eq c1,wN_eq c2]at s2
  have hg:2^t*wN s=ae (wN a) (wN b):=by
   rw[← c3]
   rcases hz with hz | hz
   ·rw[hz,Nat.gcd_zero_left];congr 1;omega
   ·rw[hz,Nat.gcd_zero_right];congr 1;omega
  have hgb:ae (wN a) (wN b)≤wN a+wN b:=by
   rcases Nat.eq_zero_or_pos (wN a) with q | q
   ·rw[q,Nat.gcd_zero_left];omega
   ·have:=Nat.gcd_le_left (wN b) q;omega
  refine aa (P:=fun r=>Ok3 r∧vb 65536 r=(ae (wN a) (wN b):Int)) ?_ fun r hr=>ab hr
  refine Tot.loop (fun (st:Int × List Int)=>∃ i:Nat,st.1=(i:Int)∧i≤Z∧Ok3 st.2∧2^i*wN st.2=ae (wN a) (wN b)) (fun st=>st.1.toNat) ⟨t,rfl,ht,s1,hg⟩ fun st ⟨i,e,hi,o1,o2⟩=>?_
  obtain ⟨k,o⟩:=st
  simp only at e o1 o2
  subst e
  refine Tot.ite (fun h=>?_) (fun h=>ab ?_)
  ·have h:(i:Int)>0:=odt h
   have hol:o.length≤1001:=by
    refine len16 o1 ?_
    have h3:1≤2^i:=Nat.one_le_two_pow
    have h4:wN o≤2^i*wN o:=ad _ h3
    have h5:=(vb_bound h16 ha.1).2
    have h6:=(vb_bound h16 hb.1).2
    have h7:(65536:Int)^a.length≤65536^1000:=vb_mono h16 la
    have h8:(65536:Int)^b.length≤65536^1000:=vb_mono h16 lb
    have h9:(65536:Int)^1001=65536^1000*65536:=Int.pow_succ ..
    have h10:(0:Int)<65536^1000:=Int.pow_pos ddc
    rw[wN_eq ha]at h5
    rw[wN_eq hb]at h6
    rw[wN_eq o1,h9]
    generalize (65536:Int)^1000=Z at*
    omega
   refine aa (Double_tot (a:=o) false o1 om) fun d ⟨d1,d2,d3⟩=>ab ?_
   have d2:vb 65536 d=2*vb 65536 o:=by rw[d2];show _+0=_;omega
   rw[wN_eq d1,wN_eq o1]at d2
   rw[i64_small om om]
   refine ⟨⟨i-1,osm,om,d1,?_⟩,osm⟩
   rw[← o2,show wN d=2*wN o by omega,← Nat.mul_assoc,← Nat.pow_succ]
   congr 2
   omega
  ·have h:¬ (i:Int)>0:=odf h
   have:i=0:=by omega
   subst this
   refine ⟨o1,?_⟩
   rw[← o2,wN_eq o1];simp
end Go.Gv.P
namespace Go.Gv.P
open Go.Gv.Tot renaming bindq→aa,ret→ab
open Nat renaming mul_le_mul_left→ac,le_mul_of_pos_left→ad,gcd→ae
open Go Go.Gv Go.Gv.D Go.Gv.R Go.Lib
open Go.Gv.RI (val Dg Nz OkL OkI OkN vb Db IsB Ok3 HalveD_tot vb_big vb_bound vb_mono h16 vbits b2 Trim val_bound)
set_option maxRecDepth 100000
theorem of_tot {l:List Int} (h:OkL l):Tot (fun n=>ref3_Of n l) (fun r=>Ok3 r∧vb 65536 r=val l∧r.length≤256):=
 (RI.Of3_tot h.1 (by have:=h.2.2;omega)).mono fun r ⟨r1,r2,r3⟩=>⟨r1,r2,by have:=h.2.2;omega⟩
theorem ratiook_tot {x y:Bool × List Int} (hx:Dg x.2) (hy:Dg y.2):Tot (fun n=>ref3_RatioOk n (x,y)) (fun r=>(r=true↔ROk x y)):=by
 obtain ⟨nx,lx⟩:=x
 obtain ⟨ny,ly⟩:=y
 unfold ref3_RatioOk
 refine aa (P:=fun j=>(j=false↔(OkI (nx,lx)∧OkI (ny,ly)∧ny=false∧ly≠[]))) ?_ fun j hj=>?_
 ·refine aa (intok_tot (neg:=nx) hx) fun r hr=>?_
  cases r with
  | false=>exact Tot.it rfl (ab ⟨fun h=>(by cases h),fun h=>by have:=hr.2 h.1;cases this⟩)
  | true=>
    have h1:=hr.1 rfl
    refine Tot.if_ rfl (aa (intok_tot (neg:=ny) hy) fun r hr=>?_)
    cases r with
    | false=>exact Tot.it rfl (ab ⟨fun h=>(by cases h),fun h=>by have:=hr.2 h.2.1;cases this⟩)
    | true=>
      have h2:=hr.1 rfl
      refine Tot.if_ rfl ?_
      cases ny with
      | true=>exact Tot.it rfl (ab ⟨fun h=>(by cases h),fun h=>by cases h.2.2.1⟩)
      | false=>
        refine Tot.if_ rfl (ab ?_)
        constructor
        ·intro h
         refine ⟨h1,h2,rfl,fun e=>?_⟩
         subst e;cases h
        ·intro h
         have:0<ly.length:=List.length_pos_iff.2 h.2.2.2
         simp only[beq_eq_false_iff_ne]
         show ((ly.length:Nat):Int)≠0
         omega
 ·refine Tot.ite (fun h=>ab ⟨fun h=>(by cases h),fun h'=>?_⟩) (fun h=>?_)
  ·have:=hj.2 ⟨h'.1,h'.2.1,h'.2.2.1,h'.2.2.2.1⟩
   rw[this]at h;cases h
  ·obtain ⟨h1,h2,h3,h4⟩:=hj.1 h
   refine aa (of_tot h1.1) fun a ⟨a1,a2,a3⟩=>aa (of_tot h2.1) fun b ⟨b1,b2,b3⟩=>?_
   refine aa (Common_tot a1 b1 om om) fun g ⟨g1,g2⟩=>?_
   refine aa (Small_tot (n:=1) ddc ddc) fun o ⟨o1,o2,o3⟩=>?_
   refine aa (RI.Compare_tot g1 o1) fun c ⟨c1,c2⟩=>ab ?_
   replace c2:c=0↔vb 65536 g=vb 65536 o:=c2
   rw[g2,o2]at c2
   have ea:wN a=(val lx).toNat:=by unfold wN;rw[a2]
   have eb:wN b=(val ly).toNat:=by unfold wN;rw[b2]
   rw[ea,eb]at c2
   simp only[beq_iff_eq]
   rw[c2]
   constructor
   ·intro h
    exact ⟨h1,h2,h3,h4,osm⟩
   ·intro h
    have:=h.2.2.2.2
    simp only at this
    omega
/-! ### capital letters -/
end Go.Gv.P
namespace Go.Gv.P
open Go.Gv.Tot renaming bindq→aa,ret→ab
open Nat renaming mul_le_mul_left→ac,le_mul_of_pos_left→ad,gcd→ae
open Go Go.Gv Go.Gv.D Go.Gv.R Go.Lib
open Go.Gv.RI (val Dg Nz OkL OkI OkN vb Db IsB Ok3 HalveD_tot vb_big vb_bound vb_mono h16 vbits b2 Trim val_bound)
set_option maxRecDepth 100000
/-! ### what the reference's Formatted gives -/
theorem small1:Tot (fun n=>ref3_Small n 1) (· =[1]):=Tot.of_all 5 (fun k=>by kernel_rfl) rfl
theorem ok3_1:Ok3 [1]:=⟨RI.Db.one ddc,.inr (by simp),by simp⟩
end Go.Gv.P
namespace Go.Gv.P
open Go.Gv.Tot renaming bindq→aa,ret→ab
open Nat renaming mul_le_mul_left→ac,le_mul_of_pos_left→ad,gcd→ae
open Go Go.Gv Go.Gv.D Go.Gv.R Go.Lib
open Go.Gv.RI (val Dg Nz OkL OkI OkN vb Db IsB Ok3 HalveD_tot vb_big vb_bound vb_mono h16 vbits b2 Trim val_bound)
set_option maxRecDepth 100000
/-! ### what the reference's Formatted gives: the whole -/
end Go.Gv.P
namespace Go.Gv.P
open Go.Gv.Tot renaming bindq→aa,ret→ab
open Nat renaming mul_le_mul_left→ac,le_mul_of_pos_left→ad,gcd→ae
open Go Go.Gv Go.Gv.D Go.Gv.R Go.Lib
open Go.Gv.RI (val Dg Nz OkL OkI OkN vb Db IsB Ok3 HalveD_tot vb_big vb_bound vb_mono h16 vbits b2 Trim val_bound)
set_option maxRecDepth 100000
end Go.Gv.P
namespace Go.Gv.P
open Go.Gv.Tot renaming bindq→aa,ret→ab
open Nat renaming mul_le_mul_left→ac,le_mul_of_pos_left→ad,gcd→ae
open Go Go.Gv Go.Gv.D Go.Gv.R Go.Lib
open Go.Gv.RI (val Dg Nz OkL OkI OkN vb Db IsB Ok3 HalveD_tot vb_big vb_bound vb_mono h16 vbits b2 Trim val_bound)
set_option maxRecDepth 100000
end Go.Gv.P
