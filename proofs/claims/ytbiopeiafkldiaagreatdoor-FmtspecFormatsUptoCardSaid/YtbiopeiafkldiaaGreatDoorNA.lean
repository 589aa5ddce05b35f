import Derived.Test.YtbiopeiafkldiaaGreatDoorN5
import Derived.Test.YtbiopeiafkldiaaGreatDoorGo
set_option linter.all false
open Go.Gv.Tot renaming bindq→aa,ret→ab,if_→ac,ite→ad,bind0→ae,it→af,some_bind→ag
open Nat renaming mul_le_mul_left→ah,le_mul_of_pos_left→ai,gcd→ak
open Bool renaming and_eq_true→aj
namespace Go.Gv.P
open Go Go.Gv Go.Gv.D Go.Gv.R Go.Lib
open Go.Gv.RI (val Dg Nz OkL OkI OkN vb Db IsB Ok3 HalveD_tot vb_big vb_bound vb_mono h16 vbits b2 Trim val_bound)
set_option maxRecDepth 100000
/-! ### which values the reference takes for valid -/
theorem intok_tot {neg:Bool} {l:List Int} (hd:Dg l):Tot (fun n=>ref3_IntOk n (neg,l)) (fun r=>(r=true↔OkI (neg,l))):=by
 unfold ref3_IntOk
 refine aa (P:=fun j=>(j=true↔OkI (neg,l))) ?_ fun j hj=>ab hj
 by_cases h128:l.length≤128
 ·refine af (dtt (show ((l.length:Nat):Int)≤128 by omega)) ?_
  by_cases h0:l=[]
  ·subst h0
   refine af rfl ?_
   cases neg with
   | false=>exact af rfl (ab ⟨fun _=>⟨⟨fun x hx=>by simp at hx,.inl rfl,by simp⟩,fun _=>rfl⟩,fun _=>rfl⟩)
   | true=>
     refine ac rfl (ac rfl (ab ⟨fun h=>(by cases h),fun h=>?_⟩))
     have:=h.2 rfl
     cases this
  ·have hlen:0<l.length:=List.length_pos_iff.2 h0
   obtain ⟨n,hn⟩:∃ n,l.length=n+1:=⟨l.length-1,om⟩
   have hlast:l.getLast? =some (l[n]'(om)):=by
    rw[List.getLast?_eq_getElem?,show l.length-1=n by omega]
    exact List.getElem?_eq_getElem om
   have hiff:((l[n]'(om)!=0)=true↔OkI (neg,l)):=by
    constructor
    ·intro h
     have h:l[n]'(om)≠0:=by simpa using h
     exact ⟨⟨hd,.inr (by rw[hlast];simpa using h),h128⟩,fun e=>absurd e h0⟩
    ·intro h
     rcases h.1.2.1 with h1 | h1
     ·exact absurd h1 h0
     ·have:l.getLast? ≠some 0:=h1
      rw[hlast]at this
      simpa using this
   refine ac (by simpa using h0) (af (dtt (show ((l.length:Nat):Int)>0 by omega)) ?_)
   have hw:IntKind.i64.wrap (((l.length:Nat):Int)-1)=(n:Int):=iw om om
   show Tot (fun _=>Option.bind (idx l (IntKind.i64.wrap (((l.length:Nat):Int)-1))) fun x19=>some (x19 !=0)) _
   rw[hw]
   exact ae (RI.idx_nat (show n<l.length by omega)) (ab hiff)
 ·refine ac (dff (show ¬ ((l.length:Nat):Int)≤128 by omega)) (ab ⟨fun h=>(by cases h),fun h=>absurd h.1.2.2 h128⟩)
/-- the value as a natural number -/
def wN (l:List Int):Nat:=(vb 65536 l).toNat
theorem wN_eq {l:List Int} (h:Ok3 l):vb 65536 l=(wN l:Int):=by
 have:=(w_lt h).1
 unfold wN;omega
theorem len_le_of {a b:List Int} (ha:Ok3 a) (hb:Ok3 b) (h:vb 65536 a≤vb 65536 b):a.length≤b.length:=by
 rcases Nat.lt_or_ge b.length a.length with hk | hk
 ·have:=RI.vb_longer h16 hb.1 ha.1 ha.2.1 hk
  omega
 ·exact hk
theorem even_tot {q:List Int} (hq:Ok3 q) (hne:0<q.length):∃ x,idx q 0=some x∧((x.tmod 2==0)=true↔wN q%2=0):=by
 cases q with
 | nil=>simp at hne
 | cons x l=>
   refine ⟨x,rfl,?_⟩
   have hx:=hq.1 x (List.mem_cons_self ..)
   have hl:=(w_lt (a:=x::l) hq).1
   rw[Int.tmod_eq_emod_of_nonneg hx.1]
   have e:vb 65536 (x::l)=x+65536*vb 65536 l:=rfl
   have h2:=wN_eq hq
   rw[e]at h2
   have:(wN (x::l):Int)%2=x%2:=by omega
   simp only[beq_iff_eq]
   omega
structure Cm (A B:Nat) (x y:List Int) (t:Nat):Prop where
 a:Ok3 x
 b:Ok3 y
 g:2^t*ak (wN x) (wN y)=ak A B
 la:2^t*wN x≤A
 lb:2^t*wN y≤B
theorem Common_tot {a b:List Int} (ha:Ok3 a) (hb:Ok3 b) (la:a.length≤1000) (lb:b.length≤1000):
 Tot (fun fuel=>ref3_Common fuel a b) (fun r=>Ok3 r∧vb 65536 r=(ak (wN a) (wN b):Int)):=by
 unfold ref3_Common
 obtain ⟨Z,hZ⟩:∃ Z:Nat,Z=16000:=⟨_,rfl⟩
 have hA:(wN a:Int)<2^Z:=by
  have h1:=(w_lt ha).2
  have h2:(2:Int)^(16*a.length)≤2^Z:=vb_mono (b:=2) ddc om
  rw[← wN_eq ha];omega
 have hB:(wN b:Int)<2^Z:=by
  have h1:=(w_lt hb).2
  have h2:(2:Int)^(16*b.length)≤2^Z:=vb_mono (b:=2) ddc om
  rw[← wN_eq hb];omega
 have hA':wN a<2^Z:=by
  have:((2^Z:Nat):Int)=(2:Int)^Z:=by rw[Int.natCast_pow];rfl
  omega
 have hB':wN b<2^Z:=by
  have:((2^Z:Nat):Int)=(2:Int)^Z:=by rw[Int.natCast_pow];rfl
  omega
 have xl:∀ {x:List Int} {t:Nat},Ok3 x→2^t*wN x≤wN a→x.length≤1000:=fun {x t} h1 h2=>by
  have h3:1≤2^t:=Nat.one_le_two_pow
  have h4:wN x≤2^t*wN x:=ai _ h3
  have:=len_le_of h1 ha (by rw[wN_eq h1,wN_eq ha];omega)
  omega
 have yl:∀ {x:List Int} {t:Nat},Ok3 x→2^t*wN x≤wN b→x.length≤1000:=fun {x t} h1 h2=>by
  have h3:1≤2^t:=Nat.one_le_two_pow
  have h4:wN x≤2^t*wN x:=ai _ h3
  have:=len_le_of h1 hb (by rw[wN_eq h1,wN_eq hb];omega)
  omega
 have pos:∀ {x:List Int},Ok3 x→(0<x.length↔0<wN x):=fun {x} h=>by
  have:=nil_of_w h
  have:=wN_eq h
  omega
 refine aa (P:=fun j=>∃ t:Nat,j.2.2=(t:Int)∧t≤Z∧Cm (wN a) (wN b) j.1 j.2.1 t∧(wN j.1=0∨wN j.2.1=0)) ?_ fun j ⟨t,e,ht,hc,hz⟩=>?_
 ·refine Tot.loop (fun (st:List Int × List Int × Int)=>∃ t:Nat,st.2.2=(t:Int)∧t≤Z∧Cm (wN a) (wN b) st.1 st.2.1 t) (fun st=>wN st.1+wN st.2.1) ⟨0,rfl,om,ha,hb,by simp,by simp,by simp⟩ fun st ⟨t,e,ht,hc⟩=>?_
  obtain ⟨x,y,k⟩:=st
  simp only at e hc
  subst e
  obtain ⟨c1,c2,c3,c4,c5⟩:=hc
  have lx:=xl c1 c4
  have ly:=yl c2 c5
  refine ad (fun h=>?_) (fun h=>ab ?_)
  ·simp only[aj,decide_eq_true_eq]at h
   have hx:0<x.length:=by omega
   have hy:0<y.length:=by omega
   have px:=(pos c1).1 hx
   have py:=(pos c2).1 hy
   obtain ⟨x0,ex,evx⟩:=even_tot c1 hx
   obtain ⟨y0,ey,evy⟩:=even_tot c2 hy
   have tb:t+1≤Z∨wN x%2≠0:=by
    rcases Nat.lt_or_ge t Z with h | h
    ·exact .inl om
    ·exfalso
     have et:t=Z:=by omega
     have:2^t*1≤2^t*wN x:=ah _ px
     rw[et]at this c4
     omega
   refine aa (P:=(· =(decide (wN x%2=0)&&decide (wN y%2=0)))) ?_ fun j hj=>?_
   ·refine ae ex ?_
    refine ad (fun h=>?_) (fun h=>ab ?_)
    ·have h:=evx.1 h
     refine ae ey (ab ?_)
     rw[h,dtt rfl,Bool.true_and]
     by_cases h2:wN y%2=0
     ·rw[dtt h2];exact evy.2 h2
     ·rw[dff h2]
      cases hq:(y0.tmod 2==0) with
      | false=>rfl
      | true=>exact absurd (evy.1 hq) h2
    ·have:¬ wN x%2=0:=fun q=>by rw[evx.2 q]at h;cases h
     rw[dff this];rfl
   ·subst hj
    have half:∀ {q:List Int},Ok3 q→q.length≤1000→Tot (fun fuel=>ref3_Halve fuel q 2) (fun r=>Ok3 r.1∧wN r.1=wN q/2):=fun {q} hq hl=>by
     refine (HalveD_tot (d:=2) hq om ddc ddc).mono fun r ⟨r1,r2,_,_⟩=>⟨r1,?_⟩
     replace r2:vb 65536 r.1=vb 65536 q/2:=r2
     rw[wN_eq r1,wN_eq hq]at r2
     omega
    refine aa (P:=fun j=>∃ t:Nat,j.2.2=(t:Int)∧t≤Z∧Cm (wN a) (wN b) j.1 j.2.1 t∧wN j.1+wN j.2.1<wN x+wN y) ?_ fun j ⟨t',e,h1,h2,h3⟩=>ab ⟨⟨t',e,h1,h2⟩,h3⟩
    refine ad (fun h=>?_) (fun h=>?_)
    ·simp only[aj,decide_eq_true_eq]at h
     refine aa (half (q:=x) c1 lx) fun r ⟨r1,r2⟩=>aa (half (q:=y) c2 ly) fun q ⟨q1,q2⟩=>ab ?_
     have h5:t+1≤Z:=tb.resolve_right (fun k=>k h.1)
     have ex2:wN x=2*wN r.1:=by omega
     have ey2:wN y=2*wN q.1:=by omega
     refine ⟨t+1,iw (x:=(t:Int)+1) om om,h5,⟨r1,q1,?_,?_,?_⟩,osm⟩
     ·rw[← c3,ex2,ey2,Nat.gcd_mul_left,Nat.pow_succ,Nat.mul_assoc]
     ·rw[Nat.pow_succ,Nat.mul_assoc,← ex2];exact c4
     ·rw[Nat.pow_succ,Nat.mul_assoc,← ey2];exact c5
    ·refine ae ex ?_
     have hno:¬ (wN x%2=0∧wN y%2=0):=fun ⟨k1,k2⟩=>by rw[dtt k1,dtt k2]at h;cases h
     have odd:∀ {u v:Nat},v%2=1→ak (2*u) v=ak u v:=fun {u v} hv=>by
      have:Nat.Coprime 2 v:=by show ak 2 v=1;rw[Nat.gcd_rec,hv];rfl
      exact Nat.Coprime.gcd_mul_left_cancel u this
     refine ad (fun h=>?_) (fun h=>?_)
     ·have h:=evx.1 h
      refine aa (half (q:=x) c1 lx) fun r ⟨r1,r2⟩=>ab ?_
      have ex2:wN x=2*wN r.1:=by omega
      refine ⟨t,rfl,ht,⟨r1,c2,?_,?_,c5⟩,osm⟩
      ·rw[← c3,ex2,odd om]
      ·refine Nat.le_trans (ah _ ?_) c4
       dsimp only;omega
     ·refine ae ey ?_
      have hxo:wN x%2=1:=by
       have:¬ wN x%2=0:=fun q=>by rw[evx.2 q]at h;cases h
       omega
      refine ad (fun h=>?_) (fun h=>?_)
      ·have h:=evy.1 h
       refine aa (half (q:=y) c2 ly) fun r ⟨r1,r2⟩=>ab ?_
       have ey2:wN y=2*wN r.1:=by omega
       refine ⟨t,rfl,ht,⟨c1,r1,?_,c4,?_⟩,osm⟩
       ·rw[← c3,ey2,Nat.gcd_comm (wN x) (2*wN r.1),odd hxo,Nat.gcd_comm]
       ·refine Nat.le_trans (ah _ ?_) c5
        dsimp only;omega
      ·refine aa (RI.Compare_tot (a:=x) (b:=y) c1 c2) fun c ⟨k1,k2⟩=>?_
       replace k1:c<0↔vb 65536 x<vb 65536 y:=k1
       rw[wN_eq c1,wN_eq c2]at k1
       refine ad (fun h=>?_) (fun h=>?_)
       ·have h:c≥0:=odt h
        have hle:wN y≤wN x:=by omega
        refine aa (RI.Minus3_tot (a:=x) (b:=y) c1 c2 (by show vb 65536 y≤vb 65536 x;rw[wN_eq c1,wN_eq c2];omega)) fun r ⟨r1,r2⟩=>ab ?_
        replace r2:vb 65536 r=vb 65536 x-vb 65536 y:=r2
        rw[wN_eq r1,wN_eq c1,wN_eq c2]at r2
        have er:wN r=wN x-wN y:=by omega
        refine ⟨t,rfl,ht,⟨r1,c2,?_,?_,c5⟩,osm⟩
        ·rw[er,Nat.gcd_sub_self_left hle,c3]
        ·refine Nat.le_trans (ah _ ?_) c4
         dsimp only;omega
       ·have h:¬ c≥0:=odf h
        have hle:wN x≤wN y:=by omega
        refine aa (RI.Minus3_tot (a:=y) (b:=x) c2 c1 (by show vb 65536 x≤vb 65536 y;rw[wN_eq c1,wN_eq c2];omega)) fun r ⟨r1,r2⟩=>ab ?_
        replace r2:vb 65536 r=vb 65536 y-vb 65536 x:=r2
        rw[wN_eq r1,wN_eq c1,wN_eq c2]at r2
        have er:wN r=wN y-wN x:=by omega
        refine ⟨t,rfl,ht,⟨c1,r1,?_,c4,?_⟩,osm⟩
        ·rw[er,Nat.gcd_sub_self_right hle,c3]
        ·refine Nat.le_trans (ah _ ?_) c5
         dsimp only;omega
  ·refine ⟨t,rfl,ht,⟨c1,c2,c3,c4,c5⟩,?_⟩
   simp only
   rcases Nat.eq_zero_or_pos (wN x) with q | q
   ·exact .inl q
   ·right
    have q:=(pos c1).2 q
    rcases Nat.eq_zero_or_pos (wN y) with q2 | q2
    ·exact q2
    ·have q2:=(pos c2).2 q2
     exfalso
     simp only[Bool.and_eq_false_iff,decide_eq_false_iff_not]at h
     omega
 ·obtain ⟨x,y,k⟩:=j
  simp only at e hc hz
  subst e
  obtain ⟨c1,c2,c3,c4,c5⟩:=hc
  have lx:=xl c1 c4
  have ly:=yl c2 c5
  refine aa (RI.Plus3_tot c1 c2 osm osm) fun s ⟨s1,s2⟩=>?_
  replace s2:vb 65536 s=vb 65536 x+vb 65536 y:=s2
  rw[wN_eq s1,wN_eq c1,wN_eq c2]at s2
  have hg:2^t*wN s=ak (wN a) (wN b):=by
   rw[← c3]
   rcases hz with hz | hz
   ·rw[hz,Nat.gcd_zero_left];congr 1;omega
   ·rw[hz,Nat.gcd_zero_right];congr 1;omega
  have hgb:ak (wN a) (wN b)≤wN a+wN b:=by
   rcases Nat.eq_zero_or_pos (wN a) with q | q
   ·rw[q,Nat.gcd_zero_left];omega
   ·have:=Nat.gcd_le_left (wN b) q;omega
  refine aa (P:=fun r=>Ok3 r∧vb 65536 r=(ak (wN a) (wN b):Int)) ?_ fun r hr=>ab hr
  refine Tot.loop (fun (st:Int × List Int)=>∃ i:Nat,st.1=(i:Int)∧i≤Z∧Ok3 st.2∧2^i*wN st.2=ak (wN a) (wN b)) (fun st=>st.1.toNat) ⟨t,rfl,ht,s1,hg⟩ fun st ⟨i,e,hi,o1,o2⟩=>?_
  obtain ⟨k,o⟩:=st
  simp only at e o1 o2
  subst e
  refine ad (fun h=>?_) (fun h=>ab ?_)
  ·have h:(i:Int)>0:=odt h
   have hol:o.length≤1001:=by
    refine len16 o1 ?_
    have h3:1≤2^i:=Nat.one_le_two_pow
    have h4:wN o≤2^i*wN o:=ai _ h3
    have h5:=(vb_bound h16 ha.1).2
    have h6:=(vb_bound h16 hb.1).2
    have h7:(65536:Int)^a.length≤65536^1000:=vb_mono h16 la
    have h8:(65536:Int)^b.length≤65536^1000:=vb_mono h16 lb
    have h9:(65536:Int)^1001=65536^1000*65536:=Int.pow_succ ..
    have h10:(0:Int)<65536^1000:=Int.pow_pos ddc
    rw[wN_eq ha]at h5
    rw[wN_eq hb]at h6
    rw[wN_eq o1,h9]
    generalize (65536:Int)^1000=Z at*
    omega
   refine aa (Double_tot (a:=o) false o1 om) fun d ⟨d1,d2,d3⟩=>ab ?_
   have d2:vb 65536 d=2*vb 65536 o:=by rw[d2];show _+0=_;omega
   rw[wN_eq d1,wN_eq o1]at d2
   rw[i64_small om om]
   refine ⟨⟨i-1,osm,om,d1,?_⟩,osm⟩
   rw[← o2,show wN d=2*wN o by omega,← Nat.mul_assoc,← Nat.pow_succ]
   congr 2
   omega
  ·have h:¬ (i:Int)>0:=odf h
   have:i=0:=by omega
   subst this
   refine ⟨o1,?_⟩
   rw[← o2,wN_eq o1];simp
end Go.Gv.P
namespace Go.Gv.P
open Go Go.Gv Go.Gv.D Go.Gv.R Go.Lib
open Go.Gv.RI (val Dg Nz OkL OkI OkN vb Db IsB Ok3 HalveD_tot vb_big vb_bound vb_mono h16 vbits b2 Trim val_bound)
set_option maxRecDepth 100000
theorem of_tot {l:List Int} (h:OkL l):Tot (fun n=>ref3_Of n l) (fun r=>Ok3 r∧vb 65536 r=val l∧r.length≤256):=
 (RI.Of3_tot h.1 (by have:=h.2.2;omega)).mono fun r ⟨r1,r2,r3⟩=>⟨r1,r2,by have:=h.2.2;omega⟩
theorem ratiook_tot {x y:Bool × List Int} (hx:Dg x.2) (hy:Dg y.2):Tot (fun n=>ref3_RatioOk n (x,y)) (fun r=>(r=true↔ROk x y)):=by
 obtain ⟨nx,lx⟩:=x
 obtain ⟨ny,ly⟩:=y
 unfold ref3_RatioOk
 refine aa (P:=fun j=>(j=false↔(OkI (nx,lx)∧OkI (ny,ly)∧ny=false∧ly≠[]))) ?_ fun j hj=>?_
 ·refine aa (intok_tot (neg:=nx) hx) fun r hr=>?_
  cases r with
  | false=>exact af rfl (ab ⟨fun h=>(by cases h),fun h=>by have:=hr.2 h.1;cases this⟩)
  | true=>
    have h1:=hr.1 rfl
    refine ac rfl (aa (intok_tot (neg:=ny) hy) fun r hr=>?_)
    cases r with
    | false=>exact af rfl (ab ⟨fun h=>(by cases h),fun h=>by have:=hr.2 h.2.1;cases this⟩)
    | true=>
      have h2:=hr.1 rfl
      refine ac rfl ?_
      cases ny with
      | true=>exact af rfl (ab ⟨fun h=>(by cases h),fun h=>by cases h.2.2.1⟩)
      | false=>
        refine ac rfl (ab ?_)
        constructor
        ·intro h
         refine ⟨h1,h2,rfl,fun e=>?_⟩
         subst e;cases h
        ·intro h
         have:0<ly.length:=List.length_pos_iff.2 h.2.2.2
         simp only[beq_eq_false_iff_ne]
         show ((ly.length:Nat):Int)≠0
         omega
 ·refine ad (fun h=>ab ⟨fun h=>(by cases h),fun h'=>?_⟩) (fun h=>?_)
  ·have:=hj.2 ⟨h'.1,h'.2.1,h'.2.2.1,h'.2.2.2.1⟩
   rw[this]at h;cases h
  ·obtain ⟨h1,h2,h3,h4⟩:=hj.1 h
   refine aa (of_tot h1.1) fun a ⟨a1,a2,a3⟩=>aa (of_tot h2.1) fun b ⟨b1,b2,b3⟩=>?_
   refine aa (Common_tot a1 b1 om om) fun g ⟨g1,g2⟩=>?_
   refine aa (Small_tot (n:=1) ddc ddc) fun o ⟨o1,o2,o3⟩=>?_
   refine aa (RI.Compare_tot g1 o1) fun c ⟨c1,c2⟩=>ab ?_
   replace c2:c=0↔vb 65536 g=vb 65536 o:=c2
   rw[g2,o2]at c2
   have ea:wN a=(val lx).toNat:=by unfold wN;rw[a2]
   have eb:wN b=(val ly).toNat:=by unfold wN;rw[b2]
   rw[ea,eb]at c2
   simp only[beq_iff_eq]
   rw[c2]
   constructor
   ·intro h
    exact ⟨h1,h2,h3,h4,osm⟩
   ·intro h
    have:=h.2.2.2.2
    simp only at this
    omega
theorem textok_tot {s:ByteArray} (hs:s.size≤1048576):Tot (fun n=>ref4_TextOk n s) (· =R.okS s):=by
 unfold ref4_TextOk
 refine aa (points_any hs) fun r hr=>ab ?_
 have e:r.2=validD (bytesOf s):=by
  rcases hr with ⟨h1,h2⟩ | ⟨p,hp,h1,h2⟩
  ·rw[h1,h2]
  ·rw[h2,h1,bytes_str,valid_enc p hp]
 rw[e]
 unfold R.okS
 congr 1
 exact decide_eq_decide.2 om
theorem formattable_tot {v:Vl} (hv:VHyp v):Tot (fun n=>ref4_formattable n v) (fun r=>(r=true↔VOk v)):=by
 unfold ref4_formattable VOk
 refine ad (fun h=>?_) (fun h=>?_)
 ·have h:v.1=1:=by simpa using h
  refine aa (P:=fun j=>(j=true↔(v.2.2.2.2=0∨v.2.2.2.2=1))) ?_ fun j hj=>ab ?_
  ·refine ad (fun h=>ab ?_) (fun h=>ab ?_)
   ·have h:v.2.2.2.2=0:=by simpa using h
    simp[h]
   ·have h:v.2.2.2.2≠0:=by simpa using h
    simp[h]
  ·rw[hj];simp[h]
 ·have h1:v.1≠1:=by simpa using h
  refine ad (fun h=>?_) (fun h=>?_)
  ·have h:v.1=2:=by simpa using h
   refine aa (intok_tot hv.num) fun r hr=>ab ?_
   rw[hr];simp[h]
  ·have h2:v.1≠2:=by simpa using h
   refine ad (fun h=>?_) (fun h=>?_)
   ·have h:v.1=3:=by simpa using h
    refine aa (P:=fun j=>(j=true↔(ROk v.2.1 v.2.2.1∧v.2.2.1.2≠[1]))) ?_ fun j hj=>ab (by rw[hj];simp[h])
    refine aa (ratiook_tot (x:=v.2.1) (y:=v.2.2.1) hv.num hv.den) fun r hr=>?_
    refine ad (fun h=>?_) (fun h=>ab ⟨fun h=>(by cases h),fun h'=>by rw[hr.2 h'.1]at h;cases h⟩)
    have hR:=hr.1 h
    refine aa (of_tot hR.2.1.1) fun d ⟨d1,d2,d3⟩=>?_
    refine aa (Small_tot (n:=1) ddc ddc) fun o ⟨o1,o2,o3⟩=>?_
    refine aa (RI.Compare_tot d1 o1) fun c ⟨c1,c2⟩=>ab ?_
    replace c1:c<0↔vb 65536 d<vb 65536 o:=c1
    replace c2:c=0↔vb 65536 d=vb 65536 o:=c2
    rw[d2,o2]at c1 c2
    have hp:=RI.val_pos hR.2.1.1.1 hR.2.1.1.2.1 hR.2.2.2.1
    have h1:=one_val (okN_of hR.2.1.1)
    constructor
    ·intro h
     have h:c>0:=odt h
     exact ⟨hR,fun e=>by have:=c2.2 (h1.1 e);omega⟩
    ·intro h
     refine dtt ?_
     have h3:¬ c=0:=fun e=>h.2 (h1.2 (c2.1 e))
     have h4:¬ c<0:=fun e=>by have:=c1.1 e;omega
     omega
   ·have h3:v.1≠3:=by simpa using h
    refine ad (fun h=>?_) (fun h=>ab ⟨fun h=>(by cases h),fun h'=>?_⟩)
    ·have h:v.1=4:=by simpa using h
     refine aa (textok_tot hv.txt) fun r hr=>ab ?_
     rw[hr];simp[h]
    ·have h4:v.1≠4:=by simpa using h
     rcases h' with h' | h' | h' | h'<;>omega
/-! ### capital letters -/
def upN (n:Nat):Nat:=if 97≤n∧n≤122 then n-32 else n
theorem class_all (k:Nat):(List.range 128).all (fun n=>match ref4_Class (k+60) (n:Int) with | some r=>(if r.1==2 then r.2 else (n:Int))==((upN n:Nat):Int) | none=>false)=true:=by kernel_rfl
theorem class_tot {n:Nat} (h:n<128):Tot (fun k=>ref4_Class k (n:Int)) (fun r=>(if (r.1==2)=true then r.2 else (n:Int))=(upN n:Int)):=by
 have h0:=List.all_eq_true.1 (class_all 0) n (List.mem_range.2 h)
 cases hr:ref4_Class (0+60) (n:Int) with
 | none=>rw[hr]at h0;cases h0
 | some r=>
   rw[hr]at h0
   refine ⟨r,eq_of_beq h0,60,fun m hm=>?_⟩
   obtain ⟨k,rfl⟩:∃ k,m=k+60:=⟨m-60,om⟩
   have hk:=List.all_eq_true.1 (show (List.range 128).all (fun n=>ref4_Class (k+60) (n:Int)==ref4_Class (0+60) (n:Int))=true by kernel_rfl) n (List.mem_range.2 h)
   show ref4_Class (k+60) _=some r
   rw[eq_of_beq hk,hr]
theorem Turned_tot {p:List Nat} (hp:∀ r∈p,r<128) (hl:p.length≤100000):Tot (fun k=>ref4_Turned k (ints p) 2) (· =ints (p.map upN)):=by
 unfold ref4_Turned
 refine aa (P:=(· =ints (p.map upN))) ?_ fun j hj=>by subst hj;exact ab rfl
 have il:(ints p).length=p.length:=by simp[ints]
 refine Tot.loop (fun (st:List Int × Int)=>∃ i:Nat,st=(ints ((p.take i).map upN),(i:Int))∧i≤p.length) (fun st=>p.length-st.2.toNat) ⟨0,rfl,om⟩ fun st ⟨i,e,hi⟩=>?_
 subst e
 simp only[il]
 refine ad (fun h=>?_) (fun h=>ab ?_)
 ·have h:i<p.length:=by have:(i:Int)<(p.length:Int):=odt h;omega
  have hx:idx (ints p) (i:Int)=some (p[i]:Int):=by
   rw[RI.idx_nat om];simp[ints]
  refine ae hx (aa (class_tot (hp _ (List.getElem_mem h))) fun r hr=>?_)
  refine aa (P:=(· =ints ((p.take (i+1)).map upN))) ?_ fun j hj=>?_
  ·have e:ints ((p.take (i+1)).map upN)=ints ((p.take i).map upN)++[(upN p[i]:Int)]:=by
    rw[List.take_succ_eq_append_getElem h,List.map_append];unfold ints;rw[List.map_append];rfl
   rw[e]
   refine ad (fun h=>?_) (fun h=>?_)
   ·rw[if_pos h]at hr
    refine ae (app_ok (by simp[ints];omega)) (ab ?_)
    rw[hr]
   ·rw[if_neg (by rw[h];decide)]at hr
    refine ae hx (ae (app_ok (by simp[ints];omega)) (ab ?_))
    rw[hr]
  ·subst hj
   refine ab ?_
   rw[iw (n:=i+1) om om]
   exact ⟨⟨i+1,rfl,om⟩,osm⟩
 ·have h:i=p.length:=by have:¬ (i:Int)<(p.length:Int):=odf h;omega
  subst h
  rw[List.take_length]
theorem upper_nat:(List.range 128).all (fun n=>(upperB (UInt8.ofNat n)).toNat==upN n&&decide (upN n<128))=true:=by kernel_rfl
theorem upper_tot {l:List UInt8} (hl:∀ b∈l,b.toNat<128) (hn:l.length≤100000):
 Tot (fun fuel=>Option.bind (ref4_Points fuel (strOf l)) fun r572=>(Option.bind (ref4_Turned fuel r572.1 2) fun r589=>(Option.bind (ref4_String fuel r589) fun r600=>(some (r600))))) (· =strOf (toUpperA l)):=by
 have e:=enc_bytes hl
 have hsc:=low_scal (l:=l) hl
 have hp:=points_enc (p:=l.map (·.toNat)) hsc (by rw[e];omega)
 rw[e]at hp
 refine aa hp fun r hr=>?_
 subst hr
 refine aa (Turned_tot (p:=l.map (·.toNat)) (fun r hr=>by obtain ⟨b,hb,rfl⟩:=List.mem_map.1 hr;exact hl b hb) oss) fun r hr=>?_
 subst hr
 have hu:∀ b∈l,upN b.toNat=(upperB b).toNat∧upN b.toNat<128:=fun b hb=>by
  have:=List.all_eq_true.1 upper_nat b.toNat (List.mem_range.2 (hl b hb))
  simp only[aj,beq_iff_eq,decide_eq_true_eq]at this
  have e2:UInt8.ofNat b.toNat=b:=by simp
  rw[e2]at this
  exact ⟨this.1.symm,this.2⟩
 have em:(l.map (·.toNat)).map upN=(toUpperA l).map (·.toNat):=by
  unfold toUpperA
  rw[List.map_map,List.map_map]
  exact List.map_congr_left fun b hb=>(hu b hb).1
 have hlow:∀ b∈toUpperA l,b.toNat<128:=fun b hb=>by
  obtain ⟨c,hc,rfl⟩:=List.mem_map.1 hb
  rw[← (hu c hc).1];exact (hu c hc).2
 rw[em]
 refine aa (String_tot (low_scal hlow) (by simp[toUpperA];omega)) fun r hr=>ab ?_
 rw[hr,enc_bytes hlow]
end Go.Gv.P
namespace Go.Gv.P
open Go Go.Gv Go.Gv.D Go.Gv.R Go.Lib
open Go.Gv.RI (val Dg Nz OkL OkI OkN vb Db IsB Ok3 HalveD_tot vb_big vb_bound vb_mono h16 vbits b2 Trim val_bound)
set_option maxRecDepth 100000
/-! ### what the reference's Formatted gives -/
def SI:List UInt8:=[98,111,120,88,100,102,101,37]
def SB:List UInt8:=[98,111,120,88]
def S1:List UInt8:=[115]
theorem SI_ok:SetOk SI:=setOk (by kernel_rfl) (by kernel_rfl) (fun k=>by kernel_rfl)
theorem SB_ok:SetOk SB:=setOk (by kernel_rfl) (by kernel_rfl) (fun k=>by kernel_rfl)
theorem S1_ok:SetOk S1:=setOk (by kernel_rfl) (by kernel_rfl) (fun k=>by kernel_rfl)
theorem FE_ok:SetOk FE:=setOk (by kernel_rfl) (by kernel_rfl) (fun k=>by kernel_rfl)
/-- the type of a specification -/
abbrev tyS (s:Sp):Int:=s.2.2.2.2.2.2.2.2.2
theorem ty_cases {s:Sp} (g:Good s):tyS s=0∨tyS s=98∨tyS s=111∨tyS s=120∨tyS s=88∨tyS s=100∨tyS s=102∨tyS s=101∨tyS s=37∨tyS s=115:=by
 rcases g.ty with h | h
 ·exact .inl h
 ·have h1:0≤tyS s∧tyS s<256:=g.ok.ty
  have h2:(List.range 256).all (fun n=> !(inB TY (n:Int))||(n==98||(n==111||(n==120||(n==88||(n==100||(n==102||(n==101||(n==37||n==115)))))))))=true:=by kernel_rfl
  have:=List.all_eq_true.1 h2 (tyS s).toNat (List.mem_range.2 om)
  rw[show (((tyS s).toNat:Nat):Int)=tyS s by omega,h]at this
  simp at this
  omega
theorem in_tot3 {s:Sp} (g:Good s) {S:List UInt8} (hS:SetOk S) {b:Bool} (hb:(tyS s !=0&&inB S (tyS s))=b):
 Tot (fun n=>if (tyS s !=0)=true then (Option.bind (ref4_oneOf n (tyS s) (strOf S)) fun r=>(some (r))) else (some (false))) (· =b):=by
 subst hb
 refine ad (fun h=>?_) (fun h=>ab (by rw[h];rfl))
 exact aa (oneB_tot hS (ty_of g)) fun r hr=>ab (by rw[hr,h];rfl)
theorem not_tot3 {s:Sp} (g:Good s) {S:List UInt8} (hS:SetOk S) {b:Bool} (hb:(tyS s !=0&& !(inB S (tyS s)))=b):
 Tot (fun n=>if (tyS s !=0)=true then (Option.bind (ref4_oneOf n (tyS s) (strOf S)) fun r=>(some (!r))) else (some (false))) (· =b):=by
 subst hb
 refine ad (fun h=>?_) (fun h=>ab (by rw[h];rfl))
 exact aa (oneB_tot hS (ty_of g)) fun r hr=>ab (by rw[hr,h];rfl)
theorem isFE_b (s:Sp):(tyS s !=0&&inB FE (tyS s))=decide (isFE s):=by
 unfold isFE
 by_cases h:tyS s=0
 ·simp[h]
 ·by_cases h2:inB FE (tyS s)=true<;>simp[h,h2]
theorem based_b {s:Sp} (g:Good s):(tyS s !=0&&inB SB (tyS s))=decide (bsOf (tyS s)≠10):=by
 rcases ty_cases g with h | h | h | h | h | h | h | h | h | h<;>rw[h]<;>rfl
theorem fin_err {v:Vl} {s:Sp} {c:Int} (h:fdf v s=noF c) (hc:c≠0):fin v s s=(strOf [],(c, -2)):=by
 unfold fin
 rw[h,if_pos (show (noF c).2.1≠0 from hc)]
 rfl
/-- the last part: filling and the bound -/
theorem tail_tot {v:Vl} (ok:VOk v) {s:Sp} (g:Good s) (h0:(fdf v s).2=(0,0)) {h b:ByteArray} {t:Bool} (hh:h=strOf (fdf v s).1.1) (hb:b=strOf (fdf v s).1.2.1) (ht:t=(fdf v s).1.2.2):
 Tot (fun fuel=>Option.bind (ref4_filled fuel h b s t) fun r788=>(if (decide (((ByteArray.size r788:Nat):Int)>4000)) then (Option.bind (ref4_At fuel 3 (-1)) fun r794=>(some (((strOf []),r794)))) else (some ((r788,(0,0)))))) (· =fin v s s):=by
 obtain ⟨_,hp⟩:=fd_parts ok g
 obtain ⟨x1,x2,x3,x4,x5,x6⟩:=hp h0
 subst hh;subst hb;subst ht
 rw[x1,x2]
 unfold fin
 rw[if_neg (by rw[h0];decide)]
 refine aa (filled_tot x3 x4 om x6 g) fun r hr=>?_
 subst hr
 rw[size_str]
 refine ad (fun h=>?_) (fun h=>ab ?_)
 ·have h:((enc (padP (phf v s) (pbf v s) (fdf v s).1.2.2 s)).length:Int)>4000:=odt h
  rw[if_neg om]
  exact ae (at_ref 0 3 (-1)) (ab rfl)
 ·have h:¬ ((enc (padP (phf v s) (pbf v s) (fdf v s).1.2.2 s)).length:Int)>4000:=odf h
  rw[if_pos om]
theorem sign3_tot (neg:Bool) {s:Sp} (g:Good s) {h:List UInt8} (hl:h.length≤10):
 Tot (fun _=>if neg=true then (Option.bind (cat (strOf [45]) (strOf h)) fun x752=>(some (x752))) else (Option.bind (if (s.2.2.1==43) then (some (true)) else (some ((s.2.2.1==32)))) fun (j754:Bool)=>(if j754 then (Option.bind (u8 s.2.2.1) fun b762=>(Option.bind (cat (strOf ([b762]:List UInt8)) (strOf h)) fun x777=>(some (x777)))) else (some (strOf h))))) (· =strOf (sgnS neg s.2.2.1++h)):=by
 unfold sgnS
 cases neg with
 | true=>exact af rfl (ae (cat_str oss) (ab rfl))
 | false=>
   refine ac rfl ?_
   rw[if_neg (show ¬ (false=true) by decide)]
   refine aa (P:=(· =decide (s.2.2.1=43∨s.2.2.1=32))) ?_ fun j hj=>?_
   ·refine ad (fun h=>ab ?_) (fun h=>ab ?_)
    ·have h:s.2.2.1=43:=by simpa using h
     exact (dtt (.inl h)).symm
    ·have h:s.2.2.1≠43:=by simpa using h
     by_cases h2:s.2.2.1=32<;>simp[h,h2]
   ·subst hj
    have hs:=g.ok.sg
    refine ad (fun h=>?_) (fun h=>ab ?_)
    ·rw[if_pos (odt h)]
     exact ae (u8_cast hs) (ae (cat_str oss) (ab rfl))
    ·rw[if_neg (odf h)];rfl
theorem small1:Tot (fun n=>ref3_Small n 1) (· =[1]):=Tot.of_all 5 (fun k=>by kernel_rfl) rfl
theorem small100:Tot (fun n=>ref3_Small n 100) (· =[100]):=Tot.of_all 5 (fun k=>by kernel_rfl) rfl
theorem ok3_1:Ok3 [1]:=⟨RI.Db.one ddc,.inr (by simp),by simp⟩
theorem ok3_100:Ok3 [100]:=⟨RI.Db.one ddc,.inr (by simp),by simp⟩
theorem plc_tot {s:Sp} (g:Good s):Tot (fun _:Nat=>if s.2.2.2.2.2.2.2.1=true then (some (s.2.2.2.2.2.2.2.2.1)) else (some (6))) (· =((plc s:Nat):Int)):=by
 have hp:=g.p
 unfold plc
 refine ad (fun h=>ab ?_) (fun h=>ab ?_)
 ·rw[if_pos h];omega
 ·rw[if_neg (by rw[h];decide)];rfl
/-- a fixed number of digits -/
theorem fix3_tot {a b:List Int} (ha:Ok3 a) (hb:Ok3 b) (la:a.length≤1000) (lb:b.length≤1000) (h2:0<vb 65536 b) {pl:Nat} (hp:pl≤400) {g:Int} (hg:g=0∨g=44∨g=95):
 Tot (fun fuel=>Option.bind (ref4_rounded fuel a b (pl:Int)) fun r395=>ref4_pointed fuel r395 (pl:Int) g) (· =strOf (fixS (vb 65536 a) (vb 65536 b) pl g)):=by
 refine aa (rounded_tot (n:=(pl:Int)) ha hb la lb om om h2) fun r ⟨r1,r2,r3⟩=>?_
 have e1:scA (vb 65536 a) (pl:Int)=vb 65536 a*10^pl:=by unfold scA;rw[if_pos om,Int.toNat_natCast]
 have e2:scB (vb 65536 b) (pl:Int)=vb 65536 b:=by unfold scB;rw[if_pos om]
 rw[e1,e2]at r3
 rw[fixS_pnt,← r3]
 exact pointed_tot r1 om om hg
/-- the body of a fraction -/
theorem frac3_tot {a b:List Int} (ha:Ok3 a) (hb:Ok3 b) (la:a.length≤256) (lb:b.length≤256) (h2:0<vb 65536 b) (he1: -1301≤expo (vb 65536 a) (vb 65536 b)) (he2:expo (vb 65536 a) (vb 65536 b)≤1300) {s:Sp} (g:Good s) (hf:isFE s) {K:Nat→Option (ByteArray × ByteArray)}:
 Tot (fun fuel=>if (tyS s==102)=true then (Option.bind (ref4_rounded fuel a b ((plc s:Nat):Int)) fun r395=>(Option.bind (ref4_pointed fuel r395 ((plc s:Nat):Int) s.2.2.2.2.2.2.1) fun r413=>(some (((strOf []),r413))))) else (if (tyS s==37)=true then (Option.bind (ref3_Small fuel 100) fun r430=>(Option.bind (ref3_Times fuel a r430) fun r441=>(Option.bind (ref4_rounded fuel r441 b ((plc s:Nat):Int)) fun r459=>(Option.bind (ref4_pointed fuel r459 ((plc s:Nat):Int) s.2.2.2.2.2.2.1) fun r476=>(Option.bind (cat r476 (strOf [37])) fun x481=>(some (((strOf []),x481)))))))) else (if (tyS s==101)=true then (Option.bind (ref4_powered fuel a b ((plc s:Nat):Int)) fun r492=>(some (((strOf []),r492)))) else K fuel)))
  (· =(strOf [],strOf (frcB (vb 65536 a) (vb 65536 b) s))):=by
 have hpl:=plc_le g
 have hgr:=gr_of g
 unfold frcB
 have hty:tyS s=102∨tyS s=37∨tyS s=101:=by
  unfold isFE at hf
  rcases ty_cases g with h | h | h | h | h | h | h | h | h | h<;>have h:s.2.2.2.2.2.2.2.2.2=_:=h<;>rw[h]at hf<;>first | (exfalso;exact absurd hf.2 ddc) | (exfalso;exact hf.1 rfl) | omega
 rcases hty with h | h | h<;>have h':s.2.2.2.2.2.2.2.2.2=_:=h
 ·rw[if_neg om,if_neg om]
  refine af (by rw[h];rfl) ?_
  have:=fix3_tot ha hb om om h2 hpl hgr
  refine aa (rounded_tot (n:=((plc s:Nat):Int)) ha hb om om om om h2) fun r ⟨r1,r2,r3⟩=>?_
  have e1:scA (vb 65536 a) ((plc s:Nat):Int)=vb 65536 a*10^plc s:=by unfold scA;rw[if_pos om,Int.toNat_natCast]
  have e2:scB (vb 65536 b) ((plc s:Nat):Int)=vb 65536 b:=by unfold scB;rw[if_pos om]
  rw[e1,e2]at r3
  rw[fixS_pnt,← r3]
  exact aa (pointed_tot r1 om om hgr) fun t ht=>ab (by rw[ht])
 ·rw[if_neg om,if_pos h']
  refine ac (by rw[h];rfl) (af (by rw[h];rfl) ?_)
  refine aa small100 fun c hc=>?_
  subst hc
  refine aa (TimesL_tot ha ok3_100 om (by simp)) fun m ⟨m1,m2,m3⟩=>?_
  have m2:vb 65536 m=vb 65536 a*100:=m2
  have m3:m.length≤a.length+1:=m3
  refine aa (rounded_tot (n:=((plc s:Nat):Int)) m1 hb om om om om h2) fun r ⟨r1,r2,r3⟩=>?_
  have e1:scA (vb 65536 m) ((plc s:Nat):Int)=vb 65536 a*100*10^plc s:=by unfold scA;rw[if_pos om,Int.toNat_natCast,m2]
  have e2:scB (vb 65536 b) ((plc s:Nat):Int)=vb 65536 b:=by unfold scB;rw[if_pos om]
  rw[e1,e2]at r3
  rw[fixS_pnt,← r3]
  have hw:=wn3_len r1 r2
  refine aa (pointed_tot r1 om om hgr) fun t ht=>?_
  subst ht
  refine ae (cat_str ?_) (ab rfl)
  have hz:(padZ (plc s) (wn 10 (vb 65536 r))).length≤200000:=by unfold padZ;simp;omega
  unfold pnt point
  have hgl:=grp_len (g:=s.2.2.2.2.2.2.1) (z:=3) ddc ((padZ (plc s) (wn 10 (vb 65536 r))).take ((padZ (plc s) (wn 10 (vb 65536 r))).length-plc s))
  rw[List.length_take]at hgl
  split<;>simp only[List.length_append,List.length_cons,List.length_drop,List.length_nil]<;>omega
 ·rw[if_pos h']
  refine ac (by rw[h];rfl) (ac (by rw[h];rfl) (af (by rw[h];rfl) ?_))
  exact aa (powered_tot ha hb la lb h2 hpl he1 he2) fun t ht=>ab (by rw[ht])
end Go.Gv.P
namespace Go.Gv.P
open Go Go.Gv Go.Gv.D Go.Gv.R Go.Lib
open Go.Gv.RI (val Dg Nz OkL OkI OkN vb Db IsB Ok3 HalveD_tot vb_big vb_bound vb_mono h16 vbits b2 Trim val_bound)
set_option maxRecDepth 100000
/-! ### what the reference's Formatted gives: the whole -/
/-- head and body of a number without a fraction -/
theorem whole3_tot {a:List Int} (ha:Ok3 a) (la:a.length≤256) {s:Sp} (g:Good s):
 Tot (fun fuel=>if (decide (bsOf (tyS s)≠10))=true then (Option.bind (some (mgetD (mput (mput (mput (mput ([]:List (Int × Int)) 98 2) 111 8) 120 16) 88 16) (tyS s) 0)) fun n553=>(Option.bind (ref3_TextOf fuel (false,a) n553) fun r555=>(Option.bind (if (tyS s==88) then (Option.bind (ref4_Points fuel r555) fun r572=>(Option.bind (ref4_Turned fuel r572.1 2) fun r589=>(Option.bind (ref4_String fuel r589) fun r600=>(some (r600))))) else (some (r555))) fun (j569:ByteArray)=>(Option.bind (ref4_inGroups fuel j569 s.2.2.2.2.2.2.1 4) fun r632=>(if s.2.2.2.1 then (Option.bind (u8 (tyS s)) fun b640=>(Option.bind (cat (strOf [48]) (strOf ([b640]:List UInt8))) fun x655=>(some ((x655,r632))))) else (some (((strOf []),r632)))))))) else (Option.bind (ref4_figures fuel a) fun r671=>(Option.bind (ref4_inGroups fuel r671 s.2.2.2.2.2.2.1 3) fun r679=>(some (((strOf []),r679))))))
  (fun j=>¬ badW s→j=(strOf (if s.2.2.2.1=true then pfx (tyS s) else []),strOf (grp s.2.2.2.2.2.2.1 (if bsOf (tyS s)≠10 then 4 else 3) (digW (vb 65536 a) (tyS s))))):=by
 have hgr:=gr_of g
 have hB:=bsOf_ok (tyS s)
 have hb:=w_lt ha
 refine ad (fun h=>?_) (fun h=>?_)
 ·have h:bsOf (tyS s)≠10:=odt h
  rw[if_pos h]
  have hm:mgetD (mput (mput (mput (mput ([]:List (Int × Int)) 98 2) 111 8) 120 16) 88 16) (tyS s) 0=bsOf (tyS s):=by
   rcases ty_cases g with q | q | q | q | q | q | q | q | q | q<;>rw[q]at h ⊢ <;>first | rfl | exact absurd rfl h
  rw[hm]
  have hwl:(wn (bsOf (tyS s)) (vb 65536 a)).length≤5000:=by
   have:=dl_len hB.one hb.1 hb.2
   unfold wn;split<;>simp;omega
  have hlow:∀ b∈wn (bsOf (tyS s)) (vb 65536 a),b.toNat<128:=wn_low hB hb.1
  refine ag (aa (TextOf_tot (neg:=false) ha om hB) fun r hr=>?_)
  have hr:r=strOf (wn (bsOf (tyS s)) (vb 65536 a)):=by
   rw[hr];unfold tx
   split
   ·rename_i h0;rw[h0];rfl
   ·rfl
  subst hr
  refine aa (P:=(· =strOf (digW (vb 65536 a) (tyS s)))) ?_ fun j hj=>?_
  ·unfold digW
   refine ad (fun h=>?_) (fun h=>ab ?_)
   ·rw[if_pos (by simpa using h)]
    exact upper_tot hlow om
   ·rw[if_neg (by simpa using h)]
  ·subst hj
   have hdl:(digW (vb 65536 a) (tyS s)).length≤5000:=by
    unfold digW;split
    ·unfold toUpperA;rw[List.length_map];exact hwl
    ·exact hwl
   refine aa (inGroups_tot (z:=4) hgr ddc ddc om) fun r hr=>?_
   subst hr
   refine ad (fun h1=>?_) (fun h1=>ab fun _=>?_)
   ·rw[if_pos h1]
    refine ae (u8_cast (ty_of g)) (ae (cat_str (by simp)) (ab fun _=>?_))
    have hp:[48]++[UInt8.ofNat (tyS s).toNat]=pfx (tyS s):=by
     rcases ty_cases g with q | q | q | q | q | q | q | q | q | q<;>rw[q]at h ⊢ <;>first | rfl | exact absurd rfl h
    rw[← hp]
   ·rw[if_neg (by rw[h1];decide)]
 ·have h:bsOf (tyS s)=10:=by
   have:=odf h
   exact Classical.not_not.1 this
  refine aa (figures_tot ha om) fun r hr=>?_
  subst hr
  have hwl:=wn3_len ha la
  refine aa (inGroups_tot (z:=3) hgr ddc ddc om) fun r hr=>?_
  subst hr
  refine ab fun hw=>?_
  have h1:¬ s.2.2.2.1=true:=fun q=>hw (.inr (.inl ⟨h,q⟩))
  rw[if_neg h1,if_neg (show ¬ bsOf (tyS s)≠10 from fun q=>q h)]
  have hd:digW (vb 65536 a) (tyS s)=wn 10 (vb 65536 a):=by
   unfold digW
   rw[if_neg (fun q=>by have q:tyS s=88:=q;rw[q]at h;cases h),h]
  rw[hd]
theorem legal_map (k:Int) (h:k=1∨k=2∨k=3∨k=4):mgetD (mput (mput (mput (mput ([]:List (Int × ByteArray)) 1 (strOf [115])) 4 (strOf [115])) 2 (strOf [98,111,120,88,100,102,101,37])) 3 (strOf [102,101,37])) k (strOf [])=if k=2 then strOf SI else if k=3 then strOf FE else strOf S1:=by
 rcases h with h | h | h | h<;>subst h<;>rfl
theorem Formatted_bad {v:Vl} (hv:VHyp v) (ok:¬ VOk v) (t:ByteArray):Tot (fun n=>ref4_Formatted n v t) (· =(strOf [],(5, -1))):=by
 unfold ref4_Formatted
 refine aa (formattable_tot hv) fun r hr=>?_
 have:r=false:=by
  cases r with
  | false=>rfl
  | true=>exact absurd (hr.1 rfl) ok
 subst this
 exact af rfl (ae (at_ref 0 5 (-1)) (ab rfl))
theorem Formatted_spec {v:Vl} (hv:VHyp v) (ok:VOk v) {t:ByteArray} {r:Sp × (Int × Int)} (hr:Tot (fun n=>ref4_SpecRead n t) (· =r)) (h:r.2.1≠0):Tot (fun n=>ref4_Formatted n v t) (· =(strOf [],(r.2.1, -2))):=by
 unfold ref4_Formatted
 refine aa (formattable_tot hv) fun q hq=>?_
 have:q=true:=hq.2 ok
 subst this
 refine ac rfl (aa hr fun q hq=>?_)
 subst hq
 exact af (by simpa using h) (ae (at_ref 0 _ (-2)) (ab rfl))
theorem expo3 {a b:List Int} (ha:OkL a) (hb:OkL b): -1301≤expo (val a) (val b)∧expo (val a) (val b)≤1300:=expo_bound ha hb
theorem expo31 {a:List Int} (ha:OkL a): -1301≤expo (val a) 1∧expo (val a) 1≤1300:=by
 have:=expo_bound ha (b:=[1]) ⟨(okN_one (x:=1) ddc).1,(okN_one (x:=1) ddc).2.1,by simp⟩
 simpa [val] using this
end Go.Gv.P
namespace Go.Gv.P
open Go Go.Gv Go.Gv.D Go.Gv.R Go.Lib
open Go.Gv.RI (val Dg Nz OkL OkI OkN vb Db IsB Ok3 HalveD_tot vb_big vb_bound vb_mono h16 vbits b2 Trim val_bound)
set_option maxRecDepth 100000
theorem numtail_tot {v:Vl} (ok:VOk v) {s:Sp} (g:Good s) {neg:Bool} {h b:List UInt8} (hl:h.length≤10) (hf:fdf v s=((sgnS neg s.2.2.1++h,b,false),(0,0))) {p:Bool} {K:Nat→Option ByteArray} {H:ByteArray}:
 Tot (fun fuel=>Option.bind (if false=true then (some p) else (some (false))) fun (j696:Bool)=>(Option.bind (if j696=true then K fuel else (some (strOf b))) fun (j704:ByteArray)=>(Option.bind (if false=true then (some H) else (if neg=true then (Option.bind (cat (strOf [45]) (strOf h)) fun x752=>(some (x752))) else (Option.bind (if (s.2.2.1==43) then (some (true)) else (some ((s.2.2.1==32)))) fun (j754:Bool)=>(if j754 then (Option.bind (u8 s.2.2.1) fun b762=>(Option.bind (cat (strOf ([b762]:List UInt8)) (strOf h)) fun x777=>(some (x777)))) else (some (strOf h)))))) fun (j748:ByteArray)=>(Option.bind (ref4_filled fuel j748 j704 s false) fun r788=>(if (decide (((ByteArray.size r788:Nat):Int)>4000)) then (Option.bind (ref4_At fuel 3 (-1)) fun r794=>(some (((strOf []),r794)))) else (some ((r788,(0,0)))))))))
  (· =fin v s s):=by
 refine aa (P:=(· =false)) (ac rfl (ab rfl)) fun j hj=>?_
 subst hj
 refine aa (P:=(· =strOf b)) (ac rfl (ab rfl)) fun j hj=>?_
 subst hj
 refine aa (P:=(· =strOf (sgnS neg s.2.2.1++h))) (ac rfl (sign3_tot neg g hl)) fun j hj=>?_
 subst hj
 exact tail_tot ok g (by rw[hf]) (by rw[hf]) (by rw[hf]) (by rw[hf])
/-- how a fraction is refused -/
theorem badF_tot (s:Sp):Tot (fun _:Nat=>if s.2.2.2.1=true then (some (true)) else (if (tyS s==101) then (some ((s.2.2.2.2.2.2.1 !=0))) else (some (false)))) (· =decide (s.2.2.2.1=true∨(tyS s=101∧s.2.2.2.2.2.2.1≠0))):=by
 refine ad (fun h=>ab (dtt (.inl h)).symm) (fun h=>ad (fun h2=>ab ?_) (fun h2=>ab ?_))
 ·have h2:tyS s=101:=by simpa using h2
  by_cases h3:s.2.2.2.2.2.2.1=0<;>simp[h,h2,h3]
 ·have h2:tyS s≠101:=by simpa using h2
  simp[h,h2]
theorem badW_tot {s:Sp}:Tot (fun _:Nat=>if s.2.2.2.2.2.2.2.1=true then (some (true)) else (if s.2.2.2.1=true then (if (!decide (bsOf (tyS s)≠10))=true then (some (true)) else (if (s.2.2.2.2.2.2.1==44)=true then (some (decide (bsOf (tyS s)≠10))) else (some (false)))) else (if (s.2.2.2.2.2.2.1==44)=true then (some (decide (bsOf (tyS s)≠10))) else (some (false))))) (· =decide (badW s)):=by
 unfold badW
 show Tot _ (· =decide (s.2.2.2.2.2.2.2.1=true∨(bsOf (tyS s)=10∧s.2.2.2.1=true)∨(bsOf (tyS s)≠10∧s.2.2.2.2.2.2.1=44)))
 by_cases h1:s.2.2.2.2.2.2.2.1=true
 ·exact af h1 (ab (by simp[h1]))
 ·refine ac (by simpa using h1) ?_
  by_cases h2:bsOf (tyS s)=10<;>by_cases h3:s.2.2.2.1=true<;>by_cases h4:s.2.2.2.2.2.2.1=44<;>simp only[h1,h2,h3,h4,ne_eq,not_true_eq_false,not_false_eq_true,decide_true,decide_false,Bool.not_true,Bool.not_false,if_true,if_false,Bool.false_eq_true,beq_self_eq_true,false_or,or_false,true_and,and_true,and_false,false_and,or_self,true_or,or_true]<;>first | exact ab rfl | exact ac (by simpa using h4) (ab rfl)
theorem badR_tot (s:Sp):Tot (fun _:Nat=>if s.2.2.2.2.2.2.2.1=true then (some (true)) else (if s.2.2.2.1=true then (some (true)) else (some ((s.2.2.2.2.2.2.1 !=0))))) (· =decide (s.2.2.2.2.2.2.2.1=true∨s.2.2.2.1=true∨s.2.2.2.2.2.2.1≠0)):=by
 refine ad (fun h=>ab (dtt (.inl h)).symm) (fun h=>ad (fun h2=>ab (dtt (.inr (.inl h2))).symm) (fun h2=>ab ?_))
 by_cases h3:s.2.2.2.2.2.2.1=0<;>simp[h,h2,h3]
theorem badT_tot (s:Sp):Tot (fun _:Nat=>if (s.2.2.1 !=0)=true then (some (true)) else (if s.2.2.2.1=true then (some (true)) else (if s.2.2.2.2.1=true then (some (true)) else (if (s.2.2.2.2.2.2.1 !=0)=true then (some (true)) else (some ((s.2.1==61))))))) (· =decide (badT s)):=by
 unfold badT
 refine ad (fun h=>ab (dtt (.inl (by simpa using h))).symm) (fun h=>ad (fun h2=>ab (dtt (.inr (.inl h2))).symm) (fun h2=>ad (fun h3=>ab (dtt (.inr (.inr (.inl h3)))).symm) (fun h3=>ad (fun h4=>ab (dtt (.inr (.inr (.inr (.inl (by simpa using h4)))))).symm) (fun h4=>ab ?_))))
 have h:s.2.2.1=0:=by simpa using h
 have h4:s.2.2.2.2.2.2.1=0:=by simpa using h4
 by_cases h5:s.2.1=61<;>simp[h,h2,h3,h4,h5]
/-- none of the types of a fraction -/
theorem noFE {s:Sp} (g:Good s) (h:¬ isFE s):(tyS s==102)=false∧(tyS s==37)=false∧(tyS s==101)=false:=by
 have h2:(tyS s !=0&&inB FE (tyS s))=false:=by rw[isFE_b];exact dff h
 rcases ty_cases g with q | q | q | q | q | q | q | q | q | q<;>rw[q]at h2 ⊢ <;>first | exact ⟨rfl,rfl,rfl⟩ | cases h2
theorem Formatted_int {v:Vl} (hv:VHyp v) (h2:v.1=2) (hI:OkI v.2.1) (ok:VOk v) {q:List Nat} (hq:∀ r∈q,Scal r) (lq:(enc q).length≤40) {s:Sp} (hrd:rd q=(s,(0,0))) (g:Good s):
 Tot (fun n=>ref4_Formatted n v (strOf (enc q))) (· =fin v s s):=by
 have e1:fdf v s=numF v.2.1.1 (val v.2.1.2) s:=by unfold fdf;rw[if_pos h2]
 unfold ref4_Formatted
 refine aa (formattable_tot hv) fun r hr=>?_
 have:r=true:=hr.2 ok
 subst this
 refine ac rfl (aa (SpecRead_tot hq lq) fun r hr=>?_)
 subst hr
 rw[hrd]
 refine ac rfl ?_
 rw[legal_map v.1 (.inr (.inl h2)),if_pos h2]
 refine ag (aa (not_tot3 g SI_ok (b:=decide (tyS s=115)) ?_) fun j hj=>?_)
 ·rcases ty_cases g with q | q | q | q | q | q | q | q | q | q<;>rw[q]<;>rfl
 subst hj
 unfold numF at e1
 refine ad (fun h=>?_) (fun h=>?_)
 ·rw[if_pos (show s.2.2.2.2.2.2.2.2.2=115 from odt h)]at e1
  exact ae (at_ref 0 13 (-2)) (ab (fin_err e1 ddc).symm)
 rw[if_neg (show ¬ s.2.2.2.2.2.2.2.2.2=115 from odf h)]at e1
 refine aa (in_tot3 g FE_ok (isFE_b s)) fun j hj=>?_
 subst hj
 refine aa (P:=(· =false)) (ac (by rw[h2];rfl) (ab (by rw[h2];rfl))) fun j hj=>?_
 subst hj
 refine aa (in_tot3 g SB_ok (based_b g)) fun j hj=>?_
 subst hj
 by_cases hF:isFE s
 ·rw[if_pos hF]at e1
  unfold frcF at e1
  refine aa (P:=(· =decide (s.2.2.2.1=true∨(tyS s=101∧s.2.2.2.2.2.2.1≠0)))) (ac rfl (af (dtt hF) (badF_tot s))) fun j hj=>?_
  subst hj
  refine ad (fun h=>?_) (fun h=>?_)
  ·rw[if_pos (odt h)]at e1
   exact ae (at_ref 0 6 (-2)) (ab (fin_err e1 ddc).symm)
  rw[if_neg (odf h)]at e1
  refine aa (of_tot hI.1) fun a ⟨a1,a2,a3⟩=>?_
  refine aa small1 fun o ho=>?_
  subst ho
  refine aa (P:=(· =[1])) (ac (by rw[h2];rfl) (ab rfl)) fun d hd=>?_
  subst hd
  refine aa (plc_tot g) fun pl hpl=>?_
  subst hpl
  refine aa (P:=(· =false)) (ac (by rw[h2];rfl) (ab rfl)) fun j hj=>?_
  subst hj
  have hx:=expo31 hI.1
  refine aa (P:=(· =(strOf [],strOf (frcB (val v.2.1.2) 1 s)))) (ac rfl (ac (by rw[h2];rfl) (ac rfl ?_))) fun j hj=>?_
  ·rw[← a2]at hx ⊢
   exact frac3_tot a1 ok3_1 a3 (by simp) ddc hx.1 hx.2 g hF
  subst hj
  exact numtail_tot ok g (h:=[]) (by simp) (by rw[e1,List.append_nil])
 ·rw[if_neg hF]at e1
  unfold whoF at e1
  refine aa (P:=(· =decide (badW s))) (ac rfl (ac (dff hF) (ac (by rw[h2];rfl) badW_tot))) fun j hj=>?_
  subst hj
  refine ad (fun h=>?_) (fun h=>?_)
  ·rw[if_pos (odt h)]at e1
   exact ae (at_ref 0 6 (-2)) (ab (fin_err e1 ddc).symm)
  have hbw:=odf h
  rw[if_neg hbw]at e1
  refine aa (of_tot hI.1) fun a ⟨a1,a2,a3⟩=>?_
  refine aa small1 fun o ho=>?_
  subst ho
  refine aa (P:=(· =[1])) (ac (by rw[h2];rfl) (ab rfl)) fun d hd=>?_
  subst hd
  refine aa (plc_tot g) fun pl hpl=>?_
  subst hpl
  refine aa (P:=(· =false)) (ac (by rw[h2];rfl) (ab rfl)) fun j hj=>?_
  subst hj
  obtain ⟨t1,t2,t3⟩:=noFE g hF
  refine aa (ac rfl (ac (by rw[h2];rfl) (ac rfl (ac t1 (ac t2 (ac t3 (ac (by rw[h2];rfl) (whole3_tot a1 a3 g)))))))) fun j hj=>?_
  have hj:=hj hbw
  subst hj
  rw[a2]
  refine numtail_tot ok g ?_ e1
  split
  ·unfold pfx;split<;>(try split)<;>(try split)<;>(try split)<;>simp
  ·simp
theorem Formatted_ratio {v:Vl} (hv:VHyp v) (h3:v.1=3) (hR:ROk v.2.1 v.2.2.1) (ok:VOk v) {q:List Nat} (hq:∀ r∈q,Scal r) (lq:(enc q).length≤40) {s:Sp} (hrd:rd q=(s,(0,0))) (g:Good s):
 Tot (fun n=>ref4_Formatted n v (strOf (enc q))) (· =fin v s s):=by
 have e1:fdf v s=ratF v.2.1.1 (val v.2.1.2) (val v.2.2.1.2) s:=by unfold fdf;rw[if_neg om,if_pos h3]
 unfold ref4_Formatted
 refine aa (formattable_tot hv) fun r hr=>?_
 have:r=true:=hr.2 ok
 subst this
 refine ac rfl (aa (SpecRead_tot hq lq) fun r hr=>?_)
 subst hr
 rw[hrd]
 refine ac rfl ?_
 rw[legal_map v.1 (.inr (.inr (.inl h3))),if_neg om,if_pos h3]
 refine ag (aa (not_tot3 g FE_ok (b:=decide (¬ isFE s∧tyS s≠0)) ?_) fun j hj=>?_)
 ·unfold isFE
  by_cases h:tyS s=0
  ·simp[h]
  ·by_cases h2:inB FE (tyS s)=true<;>simp[h,h2]
 subst hj
 unfold ratF at e1
 have hpos:=RI.val_pos hR.2.1.1.1 hR.2.1.1.2.1 hR.2.2.2.1
 have hx:=expo3 hR.1.1 hR.2.1.1
 refine ad (fun h=>?_) (fun h=>?_)
 ·have h:=odt h
  rw[if_neg h.1,if_pos (show s.2.2.2.2.2.2.2.2.2≠0 from h.2)]at e1
  exact ae (at_ref 0 13 (-2)) (ab (fin_err e1 ddc).symm)
 have h:=odf h
 refine aa (in_tot3 g FE_ok (isFE_b s)) fun j hj=>?_
 subst hj
 refine aa (P:=(· =false)) (ac (by rw[h3];rfl) (ab (by rw[h3];rfl))) fun j hj=>?_
 subst hj
 refine aa (in_tot3 g SB_ok (based_b g)) fun j hj=>?_
 subst hj
 by_cases hF:isFE s
 ·rw[if_pos hF]at e1
  unfold frcF at e1
  refine aa (P:=(· =decide (s.2.2.2.1=true∨(tyS s=101∧s.2.2.2.2.2.2.1≠0)))) (ac rfl (af (dtt hF) (badF_tot s))) fun j hj=>?_
  subst hj
  refine ad (fun h=>?_) (fun h=>?_)
  ·rw[if_pos (odt h)]at e1
   exact ae (at_ref 0 6 (-2)) (ab (fin_err e1 ddc).symm)
  rw[if_neg (odf h)]at e1
  refine aa (of_tot hR.1.1) fun a ⟨a1,a2,a3⟩=>?_
  refine aa small1 fun o ho=>?_
  subst ho
  refine aa (P:=fun d=>Ok3 d∧vb 65536 d=val v.2.2.1.2∧d.length≤256) (af (by rw[h3];rfl) (aa (of_tot hR.2.1.1) fun d hd=>ab hd)) fun d ⟨d1,d2,d3⟩=>?_
  refine aa (plc_tot g) fun pl hpl=>?_
  subst hpl
  refine aa (P:=(· =false)) (ac (by rw[h3];rfl) (ab rfl)) fun j hj=>?_
  subst hj
  refine aa (P:=(· =(strOf [],strOf (frcB (val v.2.1.2) (val v.2.2.1.2) s)))) (ac rfl (ac (by rw[h3];rfl) (ac rfl ?_))) fun j hj=>?_
  ·rw[← a2,← d2]at hx ⊢
   rw[← d2]at hpos
   exact frac3_tot a1 d1 a3 d3 hpos hx.1 hx.2 g hF
  subst hj
  exact numtail_tot ok g (h:=[]) (by simp) (by rw[e1,List.append_nil])
 ·have ht0:tyS s=0:=by
   rcases Classical.em (tyS s=0) with q | q
   ·exact q
   ·exact absurd ⟨hF,q⟩ h
  rw[if_neg hF,if_neg (show ¬ s.2.2.2.2.2.2.2.2.2≠0 from fun q=>q ht0)]at e1
  refine aa (P:=(· =decide (s.2.2.2.2.2.2.2.1=true∨s.2.2.2.1=true∨s.2.2.2.2.2.2.1≠0))) (ac rfl (ac (dff hF) (af (by rw[h3];rfl) (badR_tot s)))) fun j hj=>?_
  subst hj
  refine ad (fun h=>?_) (fun h=>?_)
  ·rw[if_pos (odt h)]at e1
   exact ae (at_ref 0 6 (-2)) (ab (fin_err e1 ddc).symm)
  rw[if_neg (odf h)]at e1
  refine aa (of_tot hR.1.1) fun a ⟨a1,a2,a3⟩=>?_
  refine aa small1 fun o ho=>?_
  subst ho
  refine aa (P:=fun d=>Ok3 d∧vb 65536 d=val v.2.2.1.2∧d.length≤256) (af (by rw[h3];rfl) (aa (of_tot hR.2.1.1) fun d hd=>ab hd)) fun d ⟨d1,d2,d3⟩=>?_
  refine aa (plc_tot g) fun pl hpl=>?_
  subst hpl
  refine aa (P:=(· =false)) (ac (by rw[h3];rfl) (ab rfl)) fun j hj=>?_
  subst hj
  obtain ⟨t1,t2,t3⟩:=noFE g hF
  refine aa (P:=(· =(strOf [],strOf (wn 10 (val v.2.1.2)++(47::wn 10 (val v.2.2.1.2)))))) (ac rfl (ac (by rw[h3];rfl) (ac rfl (ac t1 (ac t2 (ac t3 (af (by rw[h3];rfl) ?_))))))) fun j hj=>?_
  ·have l1:=wn3_len a1 a3
   have l2:=wn3_len d1 d3
   refine aa (figures_tot a1 om) fun r hr=>?_
   subst hr
   refine ae (cat_str oss) (aa (figures_tot d1 om) fun r hr=>?_)
   subst hr
   refine ae (cat_str oss) (ab ?_)
   rw[a2,d2];simp
  subst hj
  exact numtail_tot ok g (h:=[]) (by simp) (by rw[e1,List.append_nil])
end Go.Gv.P
namespace Go.Gv.P
open Go Go.Gv Go.Gv.D Go.Gv.R Go.Lib
open Go.Gv.RI (val Dg Nz OkL OkI OkN vb Db IsB Ok3 HalveD_tot vb_big vb_bound vb_mono h16 vbits b2 Trim val_bound)
set_option maxRecDepth 100000
theorem of_any {l:List Int} (hd:Dg l) (hl:l.length≤1048576):Tot (fun fuel=>ref3_Of fuel l) (fun _=>True):=by
 unfold ref3_Of
 refine aa (P:=fun r=>r.length≤2*l.length) ?_ fun r h1=>?_
 ·refine Tot.loop (fun (st:List Int × Int)=>∃ i:Nat,st.2=(i:Int)∧i≤l.length∧st.1.length=2*i) (fun st=>l.length-st.2.toNat)
   ⟨0,rfl,om,rfl⟩ fun st ⟨i,e,hi,g2⟩=>?_
  obtain ⟨out,z⟩:=st
  simp only at e g2
  subst e
  refine ad (fun h=>?_) (fun h=>?_)
  ·have h:i<l.length:=by have:((i:Nat):Int)<(l.length:Int):=odt h;omega
   refine ae (RI.idx_nat h) (ae (RI.idx_nat h) (ae (app_ok oss) (ab ?_)))
   have hw:IntKind.i64.wrap ((i:Int)+1)=((i+1:Nat):Int):=iw om om
   simp only[hw]
   exact ⟨⟨i+1,rfl,om,by simp[g2];omega⟩,om⟩
  ·have h:i=l.length:=by have:¬ ((i:Nat):Int)<(l.length:Int):=odf h;omega
   subst h
   exact ab osm
 ·exact aa (RI.rtrim_tot om) fun t ht=>ab trivial
theorem FirstOf_tot3 {p:List Nat} (hl:p.length≤100000) {n:Int} (h0:0≤n):Tot (fun k=>ref4_FirstOf k (ints p) n) (· =ints (p.take n.toNat)):=by
 unfold ref4_FirstOf
 have il:(ints p).length=p.length:=by simp[ints]
 rw[il]
 refine ad (fun h=>?_) (fun h=>ab ?_)
 ·simp only[aj,decide_eq_true_eq]at h
  have hs:sub (ints p) 0 n=some (ints (p.take n.toNat)):=by
   have:=sub_ints (l:=p) (i:=0) (j:=n.toNat) om om
   rw[show ((n.toNat:Nat):Int)=n by omega,List.drop_zero]at this
   exact this
  exact ae hs (ab rfl)
 ·have:¬ n<(p.length:Int):=fun q=>by
   rw[dtt (show n≥0 by omega),dtt q]at h;cases h
  rw[List.take_of_length_le om]
theorem vtxt_spec {v:Vl} (h:(v.1=1∧(v.2.2.2.2=0∨v.2.2.2.2=1))∨(v.1=4∧R.okS v.2.2.2.1=true)):(∀ r∈vtxt v,Scal r)∧(enc (vtxt v)).length≤4000:=by
 unfold vtxt
 rcases h with ⟨h,_⟩ | ⟨h,hT⟩
 ·rw[if_pos h]
  unfold tf
  split
  ·exact ⟨by intro r hr;simp at hr;unfold Scal;omega,ddc⟩
  ·exact ⟨by intro r hr;simp at hr;unfold Scal;omega,ddc⟩
 ·rw[if_neg om]
  obtain ⟨p1,p2,p3⟩:=pts_spec hT
  exact ⟨p1,p3⟩
theorem Formatted_text {v:Vl} (hv:VHyp v) (hn:v.2.1.2.length≤1048576) (hk:(v.1=1∧(v.2.2.2.2=0∨v.2.2.2.2=1))∨(v.1=4∧R.okS v.2.2.2.1=true)) (ok:VOk v) {q:List Nat} (hq:∀ r∈q,Scal r) (lq:(enc q).length≤40) {s:Sp} (hrd:rd q=(s,(0,0))) (g:Good s):
 Tot (fun n=>ref4_Formatted n v (strOf (enc q))) (· =fin v s s):=by
 have h2:v.1≠2:=by rcases hk with h | h<;>omega
 have h3:v.1≠3:=by rcases hk with h | h<;>omega
 have e1:fdf v s=txtF (vtxt v) s:=by unfold fdf;rw[if_neg h2,if_neg h3]
 obtain ⟨v1,v2⟩:=vtxt_spec hk
 unfold ref4_Formatted
 refine aa (formattable_tot hv) fun r hr=>?_
 have:r=true:=hr.2 ok
 subst this
 refine ac rfl (aa (SpecRead_tot hq lq) fun r hr=>?_)
 subst hr
 rw[hrd]
 refine ac rfl ?_
 rw[legal_map v.1 om,if_neg h2,if_neg h3]
 refine ag (aa (not_tot3 g S1_ok (b:=decide (tyS s≠0∧tyS s≠115)) ?_) fun j hj=>?_)
 ·rcases ty_cases g with q | q | q | q | q | q | q | q | q | q<;>rw[q]<;>rfl
 subst hj
 unfold txtF at e1
 refine ad (fun h=>?_) (fun h=>?_)
 ·rw[if_pos (show s.2.2.2.2.2.2.2.2.2≠0∧s.2.2.2.2.2.2.2.2.2≠115 from odt h)]at e1
  exact ae (at_ref 0 13 (-2)) (ab (fin_err e1 ddc).symm)
 rw[if_neg (show ¬ (s.2.2.2.2.2.2.2.2.2≠0∧s.2.2.2.2.2.2.2.2.2≠115) from odf h)]at e1
 refine aa (in_tot3 g FE_ok (isFE_b s)) fun j hj=>?_
 refine aa (P:=(· =true)) ?_ fun j2 hj2=>?_
 ·refine ad (fun h=>ab rfl) (fun h=>ab ?_)
  have h:v.1≠1:=by simpa using h
  rcases hk with hk | hk
  ·exact absurd hk.1 h
  ·rw[hk.1];rfl
 subst hj2
 refine aa (in_tot3 g SB_ok (based_b g)) fun j3 hj3=>?_
 refine aa (P:=(· =decide (badT s))) (af rfl (badT_tot s)) fun j4 hj4=>?_
 subst hj4
 refine ad (fun h=>?_) (fun h=>?_)
 ·rw[if_pos (odt h)]at e1
  exact ae (at_ref 0 6 (-2)) (ab (fin_err e1 ddc).symm)
 rw[if_neg (odf h)]at e1
 refine aa (of_any hv.num hn) fun a _=>?_
 refine aa small1 fun o ho=>?_
 subst ho
 refine aa (P:=(· =[1])) (ac (by simpa using h3) (ab rfl)) fun d hd=>?_
 refine aa (plc_tot g) fun pl hpl=>?_
 refine aa (P:=(· =decide (v.1=1∧v.2.2.2.2=1))) ?_ fun j5 hj5=>?_
 ·refine ad (fun h=>ab ?_) (fun h=>ab ?_)
  ·have h:v.1=1:=by simpa using h
   by_cases h1:v.2.2.2.2=1<;>simp[h,h1]
  ·have h:v.1≠1:=by simpa using h
   simp[h]
 subst hj5
 refine aa (P:=(· =(strOf [],strOf (enc (vtxt v))))) ?_ fun j6 hj6=>?_
 ·unfold vtxt
  refine ad (fun h=>ab ?_) (fun h=>?_)
  ·have h:=odt h
   rw[if_pos h.1]
   unfold tf
   rw[if_pos h.2];rfl
  ·have h:=odf h
   refine ad (fun h1=>ab ?_) (fun h1=>af rfl (ab ?_))
   ·have h1:v.1=1:=by simpa using h1
    rw[if_pos h1]
    unfold tf
    rw[if_neg (fun q=>h ⟨h1,q⟩)];rfl
   ·have h1:v.1≠1:=by simpa using h1
    rw[if_neg h1]
    rcases hk with hk | hk
    ·exact absurd hk.1 h1
    ·rw[← (pts_spec hk.2).2.1]
 subst hj6
 refine aa (P:=(· =s.2.2.2.2.2.2.2.1)) (af rfl (ab rfl)) fun j7 hj7=>?_
 subst hj7
 have hp:=g.p
 have hpl:=enc_len_ge (vtxt v)
 refine aa (P:=(· =strOf (enc (cutT (vtxt v) s)))) ?_ fun j8 hj8=>?_
 ·unfold cutT
  refine ad (fun h=>?_) (fun h=>ab ?_)
  ·rw[if_pos h]
   refine aa (points_enc v1 om) fun r hr=>?_
   subst hr
   refine aa (FirstOf_tot3 om hp.1) fun r hr=>?_
   subst hr
   exact aa (String_tot (fun r hr=>v1 r (List.mem_of_mem_take hr)) oss) fun r hr=>ab hr
  ·rw[if_neg (by rw[h];decide)]
 subst hj8
 refine aa (P:=(· =strOf [])) (af rfl (ab rfl)) fun j9 hj9=>?_
 subst hj9
 exact tail_tot ok g (by rw[e1]) (by rw[e1]) (by rw[e1]) (by rw[e1])
theorem Formatted_tot {v:Vl} (hv:VHyp v) (hn:v.2.1.2.length≤1048576) (ok:VOk v) {q:List Nat} (hq:∀ r∈q,Scal r) (lq:(enc q).length≤40) {s:Sp} (hrd:rd q=(s,(0,0))) (g:Good s):
 Tot (fun n=>ref4_Formatted n v (strOf (enc q))) (· =fin v s s):=by
 rcases ok with h | h | h | h
 ·exact Formatted_text hv hn (.inl h) (.inl h) hq lq hrd g
 ·exact Formatted_int hv h.1 h.2 (.inr (.inl h)) hq lq hrd g
 ·exact Formatted_ratio hv h.1 h.2.1 (.inr (.inr (.inl h))) hq lq hrd g
 ·exact Formatted_text hv hn (.inr h) (.inr (.inr (.inr h))) hq lq hrd g
theorem Format_spec {v:Vl} (hv:VHyp v) (ok:VOk v) {t:ByteArray} {r:Sp × (Int × Int)} (hr:Tot (fun n=>fmtspec_Parse n t) (· =r)) (h:r.2.1≠0):Tot (fun n=>fmtspec_Format n v t) (· =(strOf [],(r.2.1, -2))):=by
 unfold fmtspec_Format
 refine aa (valid_tot hv) fun q hq=>?_
 have:q=true:=hq.2 ok
 subst this
 refine ac rfl (aa hr fun q hq=>?_)
 subst hq
 exact af (by simpa using h) (ae (at_eq 0 _ (-2)) (ab rfl))
theorem rd_code {p:List Nat}:(rd p).2=(0,0)∨(rd p).2.1≠0:=by
 have h:∀ (f:Int) (l:List Nat),(rdP f l).2=(0,0)∨(rdP f l).2.1≠0:=fun f l=>by
  unfold rdP
  simp only
  split
  ·exact .inr ddc
  ·split
   ·exact .inr ddc
   ·exact .inl rfl
 unfold rd
 split
 ·split
  ·split
   ·exact .inr ddc
   ·exact h _ _
  ·exact h _ _
 ·exact h _ _
theorem same_tot {v:Vl} (hv:VHyp v) (hn:v.2.1.2.length≤1048576) {t:ByteArray} (ht:t.size≤1048575):∃ r,Tot (fun n=>fmtspec_Format n v t) (· =r)∧Tot (fun n=>ref4_Formatted n v t) (· =r):=by
 by_cases ok:VOk v
 ·by_cases hgood:∃ p,(∀ r∈p,Scal r)∧t=strOf (enc p)∧(enc p).length≤40∧(rd p).2=(0,0)
  ·obtain ⟨p,hp,e,hz,h0⟩:=hgood
   have hrd:rd p=((rd p).1,(0,0)):=by rw[← h0]
   have g:=rd_good hp hrd
   rw[e]
   exact ⟨_,Format_tot hv ok hp hz hrd g,Formatted_tot hv hn ok hp hz hrd g⟩
  ·have hc:∃ w:Sp × (Int × Int),Tot (fun n=>fmtspec_Parse n t) (· =w)∧Tot (fun n=>ref4_SpecRead n t) (· =w)∧w.2.1≠0:=by
    by_cases h:t.size≤40
    ·cases hv':validD (bytesOf t)
     ·refine ⟨(zS,(6, -1)),?_,?_,ddc⟩
      ·unfold fmtspec_Parse
       refine ag (ac (dff om) ?_)
       refine aa (ValidString_tot om) fun r hr=>?_
       subst hr
       rw[hv']
       exact af rfl (ag (ab rfl))
      ·unfold ref4_SpecRead
       refine ac (dff om) ?_
       refine aa (P:=(· =([],false))) ((Points_tot om).mono fun r hr=>?_) fun r hr=>?_
       ·rcases hr with ⟨_,e⟩ | ⟨p,hp,e,_⟩
        ·exact e
        ·rw[e,valid_enc p hp]at hv';cases hv'
       subst hr
       exact af rfl (ag (ab rfl))
     ·obtain ⟨p,hp,e⟩:=valid_iff hv'
      have e2:t=strOf (enc p):=by rw[← e,str_bytes]
      have hz:(enc p).length≤40:=by rw[← e,← size_bytes];exact h
      refine ⟨rd p,by rw[e2];exact Parse_tot hp hz,by rw[e2];exact SpecRead_tot hp hz,?_⟩
      rcases rd_code (p:=p) with q | q
      ·exact absurd ⟨p,hp,e2,hz,q⟩ hgood
      ·exact q
    ·refine ⟨(zS,(3, -1)),?_,?_,ddc⟩
     ·unfold fmtspec_Parse
      exact ag (af (dtt om) (ag (ab rfl)))
     ·unfold ref4_SpecRead
      exact af (dtt om) (ag (ab rfl))
   obtain ⟨w,h1,h2,h3⟩:=hc
   exact ⟨_,Format_spec hv ok h1 h3,Formatted_spec hv ok h2 h3⟩
 ·exact ⟨_,Format_bad hv ok t,Formatted_bad hv ok t⟩
theorem sumL1 (l:List Int):sumL (fun _=>1) l=l.length+1:=by
 unfold sumL
 congr 1
 induction l with
 | nil=>rfl
 | cons x l ih=>simp only[List.map_cons,List.sum_cons,ih,List.length_cons];omega
theorem FmtspecFormats_said (v:Vl) (t:ByteArray)
 (hv:inK .i64 v.1∧(True∧(∀ x∈v.2.1.2,inK .u32 x)∧v.2.1.2.length≤maxLen)∧(True∧(∀ x∈v.2.2.1.2,inK .u32 x)∧v.2.2.1.2.length≤maxLen)∧v.2.2.2.1.size≤maxLen∧inK .i64 v.2.2.2.2)
 (_:t.size≤maxLen) (hb:sumL (fun _=>1) v.2.1.2+(sumL (fun _=>1) v.2.2.1.2+(v.2.2.2.1.size+1+(t.size+1)))≤1048576):
 Tot (fun n=>law4_FmtspecFormats n v t) (· =true):=by
 obtain ⟨_,⟨_,hn,_⟩,⟨_,hd,_⟩,_,_⟩:=hv
 rw[sumL1,sumL1]at hb
 obtain ⟨r,h1,h2⟩:=same_tot (v:=v) ⟨fun x hx=>inK_u32 (hn x hx),fun x hx=>inK_u32 (hd x hx),om⟩ om (t:=t) om
 unfold law4_FmtspecFormats
 refine aa h1 fun a ha=>aa h2 fun b hb=>?_
 subst ha;subst hb
 refine aa (P:=(· =true)) (aa formats_tot fun r hr=>?_) fun j hj=>ab hj
 subst hr
 refine af rfl (af (by simp) (ab (by simp)))
end Go.Gv.P
