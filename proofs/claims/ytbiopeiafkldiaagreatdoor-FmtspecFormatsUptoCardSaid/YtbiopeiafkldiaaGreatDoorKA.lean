import Derived.Test.YtbiopeiafkldiaaGreatDoorB0
import Derived.Test.YtbiopeiafkldiaaGreatDoorB0
import Derived.Test.YtbiopeiafkldiaaGreatDoorT5
set_option linter.all false
open Go.Gv.Tot renaming bindq→aa,ret→ab,bind0→ac,ite→ag
open List renaming eq_nil_of_length_eq_zero→ad,length_append→ae,replicate→ah,length_singleton→ai,mem_cons_of_mem→ak
open Int renaming mul_le_mul_of_nonneg_left→af,mul_ediv_add_emod→aj
open Nat renaming le_refl→al
namespace Go.Gv.RI
open Go Go.Gv Go.Gv.D
/-! Own work: the digits of a number of at most 600 limbs to the bases 2, 8, 10 and 16. -/
def IsB (B:Int):Prop:=B=2∨B=8∨B=10∨B=16
theorem IsB.one {B:Int} (h:IsB B):1<B:=by rcases h with h | h | h | h<;>subst h<;>decide
theorem IsB.le {B:Int} (h:IsB B):B≤16:=by rcases h with h | h | h | h<;>subst h<;>decide
set_option maxRecDepth 100000 in
theorem nchunk_tot {B:Int} (h:IsB B):∃ (P:Int) (n:Nat),Tot (fun fuel=>natural_chunk fuel B) (· =(P,(n:Int)))∧P=B^n∧1≤n∧n≤31∧1<P∧P<4294967296:=by
 rcases h with h | h | h | h<;>subst h
 ·exact ⟨2147483648,31,Tot.of_all 100 (fun k=>by kernel_rfl) rfl,ddc,ddc,ddc,ddc,ddc⟩
 ·exact ⟨1073741824,10,Tot.of_all 100 (fun k=>by kernel_rfl) rfl,ddc,ddc,ddc,ddc,ddc⟩
 ·exact ⟨1000000000,9,Tot.of_all 100 (fun k=>by kernel_rfl) rfl,ddc,ddc,ddc,ddc,ddc⟩
 ·exact ⟨268435456,7,Tot.of_all 100 (fun k=>by kernel_rfl) rfl,ddc,ddc,ddc,ddc,ddc⟩
theorem big_two':(4294967296:Int)^600=2^19200:=by
 rw[show (4294967296:Int)=2^32 by decide,← Int.pow_mul]
theorem nlen_lt {B:Int} (hB:1<B) {n:Nat} (h:B^n<4294967296^600):n≤19200:=by
 refine Nat.le_of_not_lt fun hn=>?_
 have h1:=vb_mono hB (Nat.le_of_lt hn)
 have h2:=pow_le_left (show (0:Int)≤2 by decide) (show (2:Int)≤B by omega) 19200
 rw[← big_two']at h2
 generalize (4294967296:Int)^600=Z at*
 omega
def noz (l:List Int):Prop:=l=[]∨l.getLast? ≠some 0
theorem noz.tail {x:Int} {l:List Int} (h:noz (x::l)):noz l:=by
 rcases h with h | h
 ·simp at h
 ·cases l with
  | nil=>exact .inl rfl
  | cons y l=>exact .inr (by rwa [List.getLast?_cons_cons]at h)
theorem noz_zero {B:Int} (hB:1<B):∀ {m:List Int},Db B m→noz m→vb B m=0→m=[]
 | [],_,_,_=>rfl
 | y::m,hm,nm,h=>by
   have hy:=hm y (List.mem_cons_self ..)
   have hm':Db B m:=fun z hz=>hm z (ak _ hz)
   have h1:=(vb_bound hB hm').1
   have h2:0≤B*vb B m:=Int.mul_nonneg om h1
   simp only[vb_cons']at h
   have hy0:y=0:=by omega
   have:B*vb B m=0:=by omega
   have hz:vb B m=0:=by
    rcases Int.mul_eq_zero.1 this with h | h
    ·omega
    ·exact h
   have:=noz_zero hB hm' nm.tail hz
   subst this
   subst hy0
   rcases nm with h | h
   ·simp at h
   ·simp at h
theorem noz_inj {B:Int} (hB:1<B):∀ {l m:List Int},Db B l→Db B m→noz l→noz m→vb B l=vb B m→l=m
 | [],m,hl,hm,nl,nm,h=>(noz_zero hB hm nm h.symm).symm
 | l,[],hl,hm,nl,nm,h=>noz_zero hB hl nl h
 | x::l,y::m,hl,hm,nl,nm,h=>by
   have hx:=hl x (List.mem_cons_self ..)
   have hy:=hm y (List.mem_cons_self ..)
   have hl':Db B l:=fun z hz=>hl z (ak _ hz)
   have hm':Db B m:=fun z hz=>hm z (ak _ hz)
   simp only[vb_cons']at h
   have e1:(x+B*vb B l)%B=x:=by rw[Int.add_mul_emod_self_left,Int.emod_eq_of_lt hx.1 hx.2]
   have e2:(y+B*vb B m)%B=y:=by rw[Int.add_mul_emod_self_left,Int.emod_eq_of_lt hy.1 hy.2]
   have exy:x=y:=by rw[← e1,← e2,h]
   subst exy
   have:vb B l=vb B m:=Int.eq_of_mul_eq_mul_left om (show B*vb B l=B*vb B m by omega)
   rw[noz_inj hB hl' hm' nl.tail nm.tail this]
theorem NDigits_tot {a:List Int} {B:Int} (ha:OkN a) (hB:IsB B):
 Tot (fun fuel=>natural_Digits fuel a B) (fun r=>r.2=(0,0)∧∃ l,r.1=l.reverse∧Db B l∧vb B l=val a∧noz l∧l.length≤20000):=by
 obtain ⟨P,n,hc,hP,n1,n2,p1,p2⟩:=nchunk_tot hB
 have hB1:=hB.one
 have hB2:=hB.le
 unfold natural_Digits
 refine aa (Tot.all (fun k=>nvalid ha.2.1 ha.2.2 k)) fun r hr=>?_
 subst hr
 refine Tot.if_ (by rfl) (Tot.if_ oss (aa hc fun r hr=>?_))
 subst hr
 have va:=(show 0≤val a∧val a<4294967296^600 from ⟨(val_bound ha.1).1,by have h1:=(val_bound ha.1).2;have h2:=pow_mono ha.2.2;omega⟩)
 refine aa (P:=fun l=>Db B l∧vb B l=val a∧noz l∧l.length≤20000) ?_ fun l ⟨h1,h2,h2',h3⟩=>?_
 ·refine Tot.loop (fun st=>Dg st.1∧Nz st.1∧st.1.length≤600∧Db B st.2∧vb B st.2+B^st.2.length*val st.1=val a∧(val st.1=0→noz st.2)∧st.2.length≤20000) (fun st=>(val st.1).toNat)
   ⟨ha.1,ha.2.1,ha.2.2,Db.nil,by simp[vb],fun _=>.inl rfl,by simp⟩ fun st ⟨g1,g2,g3,g4,g5,g5',g6⟩=>?_
  obtain ⟨v,l⟩:=st
  simp only at g1 g2 g3 g4 g5 g5' g6
  refine ag (fun h=>?_) (fun h=>?_)
  ·have h:0<v.length:=by have:((v.length:Nat):Int)>0:=odt h;omega
   have hv0:=(val_bound g1).1
   have hv1:1≤val v:=by
    rcases Int.lt_or_eq_of_le hv0 with q | q
    ·omega
    ·have:=val_zero g1 g2 q.symm
     subst this
     simp at h
   have hl0:=(vb_bound hB1 g4).1
   have hpow:=pow_pos' hB1 l.length
   have hl:l.length≤19200:=nlen_lt hB1 (by
    have:B^l.length*1≤B^l.length*val v:=af hv1 om
    omega)
   refine aa (short_tot g1 om (show 0<P by omega) p2) fun r ⟨s1,s2,s3,s4,s5⟩=>?_
   obtain ⟨v',rest⟩:=r
   simp only at s1 s2 s3 s4 s5
   have hdm:=aj (val v) P
   rw[← s4,← s5]at hdm
   have hrest:0≤rest∧rest<P:=by rw[s5];exact ⟨Int.emod_nonneg _ om,Int.emod_lt_of_pos _ om⟩
   have hv'0:=(val_bound s1).1
   refine aa (P:=fun j=>Db B j∧j.length≤l.length+n∧vb B j+B^j.length*val v'=val a∧(val v'=0→noz j)) ?_ fun j ⟨j1,j2,j3,j4⟩=>?_
   ·refine Tot.loop (fun st=>∃ k:Nat,st.2.2=(k:Int)∧k≤n∧0≤st.2.1∧st.2.1<B^(n-k)∧Db B st.1∧st.1.length≤l.length+k∧vb B st.1+B^st.1.length*(st.2.1+B^(n-k)*val v')=val a∧(st.2.1=0→val v'=0→noz st.1)) (fun st=>n-st.2.2.toNat)
     ⟨0,rfl,om,hrest.1,by rw[Nat.sub_zero,← hP];exact hrest.2,g4,by simp,by rw[Nat.sub_zero,← hP,← g5,← hdm];grind,fun r0 v0=>by rw[show rest=0 from r0,v0]at hdm;simp at hdm;omega⟩ fun st ⟨k,e,hk,k1,k2,k3,k4,k5,k6⟩=>?_
    obtain ⟨m,rs,kk⟩:=st
    simp only at e k1 k2 k3 k4 k5 k6
    subst e
    refine ag (fun c=>?_) (fun c=>?_)
    ·have c1:k<n:=by
      have:=(Bool.and_eq_true_iff.1 c).1
      have:(k:Int)<(n:Int):=odt this
      omega
     have hB0:nz B=some ():=by unfold nz;rw[if_neg om]
     have w1:IntKind.u32.wrap B=B:=u32_small om om
     have hrb:rs<4294967296:=by
      have:=vb_mono hB1 (show n-k≤n by omega)
      omega
     have w2:IntKind.i64.wrap rs=rs:=i64_small om om
     have w3:IntKind.i64.wrap ((k:Int)+1)=((k+1:Nat):Int):=by rw[i64_small om om];omega
     have w4:rs.tmod B=rs%B:=Int.tmod_eq_emod_of_nonneg k1
     have w5:rs.tdiv B=rs/B:=Int.tdiv_eq_ediv_of_nonneg k1
     have q0:0≤rs/B:=Int.ediv_nonneg k1 om
     have q1:rs/B≤rs:=Int.ediv_le_self _ k1
     have w6:IntKind.u32.wrap (rs/B)=rs/B:=u32_small q0 om
     have m0:0≤rs%B:=Int.emod_nonneg _ om
     have m1:rs%B<B:=Int.emod_lt_of_pos _ om
     simp only[w1,w2,w3,w4,w5,w6]
     refine ac hB0 (ac (app_ok oss) (ac hB0 (Tot.some_bind (ab ?_))))
     have en:n-k=(n-(k+1))+1:=by omega
     rw[en,Int.pow_succ]at k2 k5
     refine ⟨⟨k+1,rfl,om,q0,Int.ediv_lt_of_lt_mul om k2,k3.append (Db.one ⟨m0,m1⟩),oss,?_,fun r0 v0=>?_⟩,osm⟩
     rotate_left
     ·have hc2:=(Bool.and_eq_true_iff.1 c).2
      have:v'=[]:=val_zero s1 s2 v0
      subst this
      have hrs:rs>0:=by simpa using hc2
      have r0:rs/B=0:=r0
      have:=aj rs B
      rw[r0]at this
      refine .inr ?_
      simp
      omega
     rw[vb_snoc,ae,ai,Int.pow_succ,← k5]
     have e3:=aj rs B
     generalize rs/B=u at*
     generalize rs%B=z at*
     subst e3
     grind
    ·refine ab ⟨k3,om,?_⟩
     rcases Bool.and_eq_false_iff.1 c with c | c
     ·have c:n≤k:=by have:¬ (k:Int)<(n:Int):=odf c;omega
      have ek:n-k=0:=by omega
      rw[ek,Int.pow_zero]at k2 k5
      have:rs=0:=by omega
      subst this
      exact ⟨by simpa using k5,fun v0=>k6 rfl v0⟩
     ·obtain ⟨c1,c2⟩:=Bool.or_eq_false_iff.1 c
      have c1:v'.length=0:=by have:¬ ((v'.length:Nat):Int)>0:=odf c1;omega
      have c2:rs=0:=by have:¬ rs>0:=odf c2;omega
      have:v'=[]:=ad c1
      subst this;subst c2
      exact ⟨by simpa [val] using k5,fun v0=>k6 rfl v0⟩
   ·refine ab ⟨⟨s1,s2,osm,j1,j3,j4,osm⟩,?_⟩
    have hlt:val v'<val v:=by
     rw[s4]
     exact Int.ediv_lt_of_lt_mul om (by
      have:val v*1<val v*P:=Int.mul_lt_mul_of_pos_left p1 om
      omega)
    simp only
    omega
  ·have h:v=[]:=by
    have:¬ ((v.length:Nat):Int)>0:=odf h
    exact ad om
   subst h
   refine ab ⟨g4,?_,g5' rfl,g6⟩
   simpa [val] using g5
 ·have hr:slices_Reverse_sint_int 0 l=some l.reverse:=by unfold slices_Reverse_sint_int;rw[if_pos om]
  refine aa (Tot.all (f:=fun fuel=>slices_Reverse_sint_int fuel l) (fun k=>hr)) fun r hr=>?_
  subst hr
  exact ab ⟨rfl,l,rfl,h1,h2,h2',h3⟩
end Go.Gv.RI
namespace Go.Gv.P
open Go Go.Gv Go.Gv.D Go.Gv.R Go.Lib
open Go.Gv.RI (val Dg Nz OkL OkI OkN vb Db IsB noz NDigits_tot DivMod_tot NMul_tot NAdd_tot NCmp_tot)
set_option maxRecDepth 100000
/-! Own work: the decimal digits of a number, and its text. -/
/-- digits of n to the base b, the last one first -/
def dlN (b:Nat):Nat→Nat→List Int
 | 0,_=>[]
 | f+1,n=>if n=0 then [] else ((n%b:Nat):Int)::dlN b f (n/b)
def dl (B V:Int):List Int:=dlN B.toNat V.toNat V.toNat
theorem dlN_ok {b:Nat} (hb:2≤b):∀ (f n:Nat),n≤f→Db (b:Int) (dlN b f n)∧vb (b:Int) (dlN b f n)=n∧noz (dlN b f n)
 | 0,n,h=>by
   have:n=0:=by omega
   subst this
   exact ⟨fun x hx=>by simp[dlN]at hx,rfl,.inl rfl⟩
 | f+1,n,h=>by
   unfold dlN
   by_cases h0:n=0
   ·subst h0
    rw[if_pos rfl]
    exact ⟨fun x hx=>by simp at hx,rfl,.inl rfl⟩
   ·rw[if_neg h0]
    have hlt:n/b<n:=Nat.div_lt_self om om
    obtain ⟨h1,h2,h3⟩:=dlN_ok hb f (n/b) om
    have hm:=Nat.mod_lt n (show 0<b by omega)
    refine ⟨fun x hx=>?_,?_,?_⟩
    ·rcases List.mem_cons.1 hx with e | e
     ·subst e;omega
     ·exact h1 x e
    ·rw[RI.vb_cons',h2]
     have:=Nat.mod_add_div n b
     have e:((n%b+b*(n/b):Nat):Int)=(n:Int):=by rw[this]
     simpa using e
    ·refine .inr ?_
     cases hd:dlN b f (n/b) with
     | nil=>
       have hz:n/b=0:=by
        rw[hd]at h2
        have:(0:Int)=((n/b:Nat):Int):=h2
        omega
       have:=Nat.mod_add_div n b
       rw[hz]at this
       simp
       omega
     | cons y l=>
       rw[List.getLast?_cons_cons,← hd]
       rcases h3 with h3 | h3
       ·rw[hd]at h3;simp at h3
       ·exact h3
theorem dl_ok {B V:Int} (hB:1<B) (hV:0≤V):Db B (dl B V)∧vb B (dl B V)=V∧noz (dl B V):=by
 have:=dlN_ok (b:=B.toNat) om V.toNat V.toNat (al _)
 rw[show ((B.toNat:Nat):Int)=B by omega,show ((V.toNat:Nat):Int)=V by omega]at this
 exact this
theorem dl_eq {B V:Int} (hB:1<B) (hV:0≤V) {l:List Int} (h1:Db B l) (h2:vb B l=V) (h3:noz l):l=dl B V:=by
 obtain ⟨d1,d2,d3⟩:=dl_ok hB hV
 exact RI.noz_inj hB h1 d1 h3 d3 (h2.trans d2.symm)
theorem Dig_tot {a:List Int} {B:Int} (ha:OkN a) (hB:IsB B):Tot (fun fuel=>natural_Digits fuel a B) (· =((dl B (val a)).reverse,(0,0))):=
 (NDigits_tot ha hB).mono fun r ⟨h0,l,e,h1,h2,h3,h4⟩=>by
   obtain ⟨r1,r2⟩:=r
   simp only at h0 e
   subst h0;subst e
   rw[dl_eq hB.one (RI.val_bound ha.1).1 h1 h2 h3]
/-- the letter of a digit -/
def dch (d:Int):UInt8:=if d<10 then UInt8.ofNat (48+d.toNat) else UInt8.ofNat (87+d.toNat)
/-- how a number is written -/
def wn (B V:Int):List UInt8:=if V=0 then [48] else (dl B V).reverse.map dch
theorem dl_nil {B V:Int} (hB:1<B) (hV:0≤V):dl B V=[]↔V=0:=by
 obtain ⟨d1,d2,d3⟩:=dl_ok hB hV
 constructor
 ·intro h;rw[h]at d2;exact d2.symm
 ·intro h;subst h;exact RI.noz_zero hB d1 d3 d2
theorem dlen {a:List Int} {B:Int} (ha:OkN a) (hB:IsB B):(dl B (val a)).length≤20000:=by
 obtain ⟨N,hN⟩:=(NDigits_tot ha hB)
 obtain ⟨⟨h0,l,e,h1,h2,h3,h4⟩,_⟩:=hN
 rw[← dl_eq hB.one (RI.val_bound ha.1).1 h1 h2 h3]
 exact h4
theorem dig16 {p:Int→Bool} (h:(List.range 16).all (fun n=>p (n:Int))=true) {B d:Int} (hB:IsB B) (hd:0≤d∧d<B):p d=true:=by
 have:=hB.le
 have:=List.all_eq_true.1 h d.toNat (List.mem_range.2 om)
 rwa [show ((d.toNat:Nat):Int)=d by omega]at this
theorem long_tot {a:List Int} (ha:OkN a):Tot (fun fuel=>fmtspec_long fuel a) (· =strOf (wn 10 (val a))):=by
 have hB:IsB 10:=.inr (.inr (.inl rfl))
 unfold fmtspec_long
 refine aa (Dig_tot ha hB) fun r hr=>?_
 subst hr
 have hv:=(RI.val_bound ha.1).1
 have hl:=dlen ha hB
 generalize hD:(dl 10 (val a)).reverse=D
 have hDl:D.length≤20000:=by rw[← hD];simpa using hl
 have hdb:Db 10 D:=by rw[← hD];exact fun x hx=>(dl_ok hB.one hv).1 x (List.mem_reverse.1 hx)
 refine ag (fun h=>ab ?_) (fun h=>?_)
 ·have h:D=[]:=by
   have:((D.length:Nat):Int)=0:=by simpa using h
   exact ad om
  have h0:val a=0:=(dl_nil hB.one hv).1 (by simpa [h] using hD)
  unfold wn;rw[if_pos h0]
 ·have h0:¬ val a=0:=fun e=>by
   have:=(dl_nil hB.one hv).2 e
   rw[this]at hD
   subst hD
   simp at h
  unfold wn
  rw[if_neg h0,hD]
  refine ac (a:=ah D.length (0:UInt8)) (by show mkC ((D.length:Nat):Int) ((D.length:Nat):Int) (0:UInt8)=_;unfold mkC;rw[if_pos ⟨om,om,om⟩];simp) ?_
  refine aa (P:=(· =D.map dch)) ?_ fun j hj=>by subst hj;exact ab rfl
  refine Tot.loop (fun st=>∃ i:Nat,st.2=(i:Int)∧i≤D.length∧st.1=(D.take i).map dch++ah (D.length-i) 0) (fun st=>D.length-st.2.toNat) ⟨0,rfl,om,by simp⟩ fun st ⟨i,e,hi,e2⟩=>?_
  obtain ⟨out,k⟩:=st
  simp only at e e2
  subst e;subst e2
  refine ag (fun h=>?_) (fun h=>?_)
  ·have h:i<D.length:=by have:(i:Int)<(D.length:Int):=odt h;omega
   have hd:=hdb _ (List.getElem_mem h)
   have er:ah (D.length-i) (0:UInt8)=0::ah (D.length-(i+1)) 0:=by rw[← List.replicate_succ];congr 1;omega
   rw[er]
   refine ac (RI.idx_nat h) (ac (RI.bm_get _ _ _ oss) ?_)
   have hu:u8 (IntKind.u8.wrap (IntKind.i64.wrap (48+D[i])))=some (dch D[i]):=
    eq_of_beq (dig16 (p:=fun d=>if d<10 then u8 (IntKind.u8.wrap (IntKind.i64.wrap (48+d)))==some (dch d) else true) (by kernel_rfl) hB hd |> fun h=>by simpa [hd.2] using h)
   refine ac hu (ac (RI.bm_upd _ _ _ _ oss) (ab ?_))
   rw[iw (n:=i+1) om om]
   refine ⟨⟨i+1,rfl,om,?_⟩,osm⟩
   rw[List.take_succ_eq_append_getElem h,List.map_append]
   simp
  ·have h:i=D.length:=by have:¬ (i:Int)<(D.length:Int):=odf h;omega
   subst h
   exact ab (by simp)
theorem dch_sidx {B d:Int} (hB:IsB B) (hd:0≤d∧d<B):sidx (strOf [48,49,50,51,52,53,54,55,56,57,97,98,99,100,101,102,103,104,105,106,107,108,109,110,111,112,113,114,115,116,117,118,119,120,121,122]) d=some ((dch d).toNat:Int):=
 eq_of_beq (dig16 (p:=fun d=>sidx (strOf [48,49,50,51,52,53,54,55,56,57,97,98,99,100,101,102,103,104,105,106,107,108,109,110,111,112,113,114,115,116,117,118,119,120,121,122]) d==some ((dch d).toNat:Int)) (by kernel_rfl) hB hd)
theorem okN_of {a:List Int} (ha:OkL a):OkN a:=⟨ha.1,ha.2.1,ha.l6⟩
theorem Text_tot {a:List Int} {B:Int} (ha:OkL a) (hB:IsB B):Tot (fun n=>integer_Text n (false,a) B) (· =(strOf (wn B (val a)),(0,0))):=by
 unfold integer_Text
 refine aa (RI.icheck (l:=[(false,a)]) (fun x hx=>by simp at hx;subst hx;exact ⟨ha,fun _=>rfl⟩) (by simp)) fun r hr=>?_
 subst hr
 refine Tot.if_ rfl (aa (Dig_tot (okN_of ha) hB) fun r hr=>?_)
 subst hr
 have hv:=(RI.val_bound ha.1).1
 have hl:=dlen (okN_of ha) hB
 have hdd:=(dl_ok hB.one hv).1
 generalize hlD:dl B (val a)=l at*
 refine Tot.if_ rfl (aa (P:=(· =[])) (Tot.if_ rfl (ab rfl)) fun j hj=>?_)
 subst hj
 have hd:Db B l.reverse:=fun x hx=>hdd x (List.mem_reverse.1 hx)
 refine aa (P:=(· =l.reverse.map dch)) ?_ fun j hj=>?_
 ·refine Tot.loop (fun st=>∃ i:Nat,st.2=(i:Int)∧i≤l.reverse.length∧st.1=(l.reverse.take i).map dch) (fun st=>l.reverse.length-st.2.toNat) ⟨0,rfl,om,by simp⟩ fun st ⟨i,e,hi,e2⟩=>?_
  obtain ⟨out,k⟩:=st
  simp only at e e2
  subst e;subst e2
  refine ag (fun h=>?_) (fun h=>?_)
  ·have h:i<l.reverse.length:=by have:(i:Int)<(l.reverse.length:Int):=odt h;omega
   refine ac (RI.idx_nat h) (ac (dch_sidx hB (hd _ (List.getElem_mem h))) (ac (u8_byte _) (ac (app_ok (by simp at h ⊢;omega)) (ab ?_))))
   rw[iw (n:=i+1) om (by simp at h;omega)]
   refine ⟨⟨i+1,rfl,om,?_⟩,osm⟩
   rw[List.take_succ_eq_append_getElem h,List.map_append]
   rfl
  ·have h:i=l.reverse.length:=by have:¬ (i:Int)<(l.reverse.length:Int):=odf h;omega
   subst h
   exact ab (by rw[List.take_length])
 ·subst hj
  unfold wn
  by_cases h0:l=[]
  ·have hz:=(dl_nil hB.one hv).1 (hlD.trans h0)
   rw[if_pos hz]
   subst h0
   refine aa (P:=(· =[48])) (Tot.it rfl (ac (app_ok (by simp)) (ab rfl))) fun j hj=>?_
   subst hj
   exact ab rfl
  ·have hz:¬ val a=0:=fun e=>h0 (hlD.symm.trans ((dl_nil hB.one hv).2 e))
   rw[if_neg hz,hlD]
   have h4:0<l.length:=List.length_pos_iff.2 h0
   refine aa (P:=(· =l.reverse.map dch)) (Tot.if_ (beq_eq_false_iff_ne.2 (by simp;exact h0)) (ab rfl)) fun j hj=>?_
   subst hj
   exact ab rfl
theorem decimals_tot {a:List Int} (ha:OkL a):Tot (fun n=>fmtspec_decimals n a) (· =strOf (wn 10 (val a))):=by
 unfold fmtspec_decimals
 exact aa (Text_tot ha (.inr (.inr (.inl rfl)))) fun r hr=>by subst hr;exact ab rfl
end Go.Gv.P
namespace Go.Gv.P
open Go Go.Gv Go.Gv.D Go.Gv.R Go.Lib
open Go.Gv.RI (val Dg Nz OkL OkI OkN vb Db IsB noz NDigits_tot DivMod_tot NMul_tot NAdd_tot NCmp_tot val_big val_bound pow_mono pow_le_left)
set_option maxRecDepth 100000
/-! Own work: powers of ten, rounding, groups of digits, and numbers with a point. -/
theorem ten_pow_le (n:Nat):(10:Int)^n≤4294967296^(n/9+1):=by
 have h1:(10:Int)^n≤10^(9*(n/9+1)):=by
  obtain ⟨d,hd⟩:=Nat.exists_eq_add_of_le (show n≤9*(n/9+1) by omega)
  rw[hd,Int.pow_add]
  have h1:(0:Int)<10^n:=Int.pow_pos ddc
  have h2:(0:Int)<10^d:=Int.pow_pos ddc
  have:(10:Int)^n*1≤10^n*10^d:=af om om
  omega
 rw[Int.pow_mul]at h1
 exact Int.le_trans h1 (pow_le_left ddc ddc _)
theorem ten_pow_pos (n:Nat):(0:Int)<10^n:=Int.pow_pos ddc
theorem len_of_lt {a:List Int} (hd:Dg a) (hn:Nz a) {k:Nat} (h:val a<4294967296^k):a.length≤k:=by
 rcases Nat.lt_or_ge k a.length with h1 | h1
 ·have h2:=val_big hd hn (fun e=>by rw[e]at h1;simp at h1)
  have h3:=pow_mono (show k≤a.length-1 by omega)
  omega
 ·exact h1
theorem power_len {a:List Int} (ha:OkN a) {n:Nat} (h:val a=10^n):a.length≤n/9+2:=by
 refine len_of_lt ha.1 ha.2.1 ?_
 rw[h,Int.pow_succ]
 have h1:=ten_pow_le n
 have h2:=ten_pow_pos n
 omega
theorem okN_one {x:Int} (h:0<x∧x<4294967296):OkN [x]:=⟨RI.Dg.one ⟨om,h.2⟩,.inr oss,by simp⟩
theorem power_tot {n:Nat} (hn:n≤2000):Tot (fun fuel=>fmtspec_power fuel (n:Int)) (fun r=>OkN r∧val r=10^n∧r.length≤n/9+2):=by
 unfold fmtspec_power
 refine aa (P:=fun r=>OkN r∧val r=10^n) ?_ fun r ⟨h1,h2⟩=>ab ⟨h1,h2,power_len h1 h2⟩
 refine Tot.loop (fun st=>∃ i:Nat,st.2=(i:Int)∧i≤n∧OkN st.1∧val st.1=10^i) (fun st=>n-st.2.toNat) ⟨0,rfl,om,okN_one ddc,by simp[val]⟩ fun st ⟨i,e,hi,h1,h2⟩=>?_
 obtain ⟨v,k⟩:=st
 simp only at e h1 h2
 subst e
 refine ag (fun h=>?_) (fun h=>?_)
 ·have h:i<n:=by have:(i:Int)<(n:Int):=odt h;omega
  have hl:=power_len h1 h2
  refine aa (NMul_tot h1 (okN_one (x:=10) ddc) oss) fun r ⟨r1,r2,r3,r4⟩=>ab ?_
  rw[iw (n:=i+1) om om]
  exact ⟨⟨i+1,rfl,om,r2,by rw[r3,h2,Int.pow_succ];simp[val]⟩,osm⟩
 ·have h:i=n:=by have:¬ (i:Int)<(n:Int):=odf h;omega
  subst h
  exact ab ⟨h1,h2⟩
/-- a / b, rounded to the nearest integer, a half to the even one -/
def nea (a b:Int):Int:=if b<2*(a%b)∨2*(a%b)=b∧a/b%2=1 then a/b+1 else a/b
theorem nea_nonneg {a b:Int} (ha:0≤a) (hb:0<b):0≤nea a b:=by
 unfold nea
 have:=Int.ediv_nonneg ha (Int.le_of_lt hb)
 split<;>omega
theorem nearest_tot {a b:List Int} (ha:OkN a) (hb:OkN b) (hb0:b≠[]) (la:a.length<599) (lb:b.length<599):
 Tot (fun fuel=>fmtspec_nearest fuel a b) (fun r=>OkN r∧val r=nea (val a) (val b)∧r.length≤a.length+2):=by
 unfold fmtspec_nearest
 have hbp:=RI.val_pos hb.1 hb.2.1 hb0
 refine aa (DivMod_tot ha hb hb0) fun r ⟨r1,⟨r2,r3⟩,⟨r4,r5⟩,r6,r7⟩=>?_
 obtain ⟨q,rs,f⟩:=r
 simp only at r1 r2 r3 r4 r5 r6 r7
 refine aa (NAdd_tot r4 r4 om om) fun t ⟨t1,t2,t3,t4⟩=>?_
 refine aa (NCmp_tot t2 hb) fun c ⟨c1,c2,c3⟩=>?_
 rw[t3,r7]at c2 c3
 have ec:(val a%val b+val a%val b)=2*(val a%val b):=by omega
 rw[ec]at c2 c3
 refine aa (P:=fun j=>j=decide (val b<2*(val a%val b)∨2*(val a%val b)=val b∧val a/val b%2=1)) ?_ fun j hj=>?_
 ·refine ag (fun h=>ab ?_) (fun h=>?_)
  ·have h:=odt h
   exact (dtt (.inl om)).symm
  ·have h:=odf h
   refine ag (fun h2=>?_) (fun h2=>ab ?_)
   ·have h2:c.1=0:=by simpa using h2
    have e2:=c3.1 h2
    have hq:val q%2=(q.getD 0 0)%2:=by
     cases q with
     | nil=>rfl
     | cons x l=>simp only[val,List.getD_cons_zero];omega
    refine ag (fun h3=>?_) (fun h3=>ab ?_)
    ·have h3:0<q.length:=by have:((q.length:Nat):Int)>0:=odt h3;omega
     refine ac (RI.idx_nat (i:=0) h3) (ab ?_)
     have hx:=r2.1.get h3
     have e0:q.getD 0 0=q[0]:=by rw[List.getD_eq_getElem?_getD,List.getElem?_eq_getElem h3];rfl
     rw[e0,r6]at hq
     rw[Int.tmod_eq_emod_of_nonneg hx.1,← hq]
     have:¬ val b<2*(val a%val b):=by omega
     by_cases hh:val a/val b%2=1<;>simp[hh,e2]
    ·have h3:q=[]:=by
      have:¬ ((q.length:Nat):Int)>0:=odf h3
      exact ad om
     subst h3
     rw[r6]at hq
     refine (dff ?_).symm
     simp at hq
     omega
   ·have h2:c.1≠0:=by simpa using h2
    refine (dff ?_).symm
    omega
 ·subst hj
  refine aa (P:=fun j=>OkN j∧val j=nea (val a) (val b)∧j.length≤a.length+2) ?_ fun j hj=>ab hj
  unfold nea
  refine ag (fun h=>?_) (fun h=>ab ?_)
  ·have h:=odt h
   rw[if_pos h]
   exact aa (NAdd_tot r2 (okN_one (x:=1) ddc) om (by simp)) fun z ⟨z1,z2,z3,z4⟩=>ab ⟨z2,by rw[z3,r6];simp[val],by simp only[ai]at z4;show z.1.length≤_;omega⟩
  ·have h:=odf h
   rw[if_neg h]
   exact ⟨r2,r6,om⟩
/-! groups -/
def gp (z:Nat):Nat→List UInt8→List (List UInt8)
 | 0,l=>[l]
 | f+1,l=>if z<l.length then gp z f (l.take (l.length-z))++[l.drop (l.length-z)] else [l]
theorem gp_fuel {z:Nat} (hz:1≤z):∀ (f g:Nat) (l:List UInt8),l.length≤f→l.length≤g→gp z f l=gp z g l
 | 0,g,l,h1,h2=>by
   have:l=[]:=ad om
   subst this
   cases g<;>simp[gp]
 | f+1,0,l,h1,h2=>by
   have:l=[]:=ad om
   subst this
   simp[gp]
 | f+1,g+1,l,h1,h2=>by
   unfold gp
   split
   ·rw[gp_fuel hz f g _ oss oss]
   ·rfl
def gps (z:Nat) (l:List UInt8):List (List UInt8):=gp z l.length l
theorem gps_step {z:Nat} (hz:1≤z) {l:List UInt8} (h:z<l.length):gps z l=gps z (l.take (l.length-z))++[l.drop (l.length-z)]:=by
 unfold gps
 cases hl:l.length with
 | zero=>omega
 | succ n=>
   conv=>lhs;unfold gp
   rw[if_pos h,hl,gp_fuel hz n (l.take (n+1-z)).length _ oss (al _)]
theorem gps_last {z:Nat} {l:List UInt8} (h:¬ z<l.length):gps z l=[l]:=by
 unfold gps
 cases hl:l.length with
 | zero=>rfl
 | succ n=>unfold gp;rw[if_neg h]
/-- digits with a sign between groups -/
def grp (g:Int) (z:Nat) (l:List UInt8):List UInt8:=if g=0 then l else join (gps z l) [UInt8.ofNat g.toNat]
theorem gps_len {z:Nat} (hz:1≤z):∀ (n:Nat) (l:List UInt8),l.length=n→(gps z l).length≤l.length+1∧(gps z l).flatten=l:=by
 intro n
 induction n using Nat.strongRecOn with
 | _ n ih=>
   intro l hl
   by_cases h:z<l.length
   ·rw[gps_step hz h]
    have h0:=ih (l.length-z) om (l.take (l.length-z)) (by simp)
    simp only[ae,ai,List.flatten_append,h0.2,List.length_take]at h0 ⊢
    refine ⟨om,by simp⟩
   ·rw[gps_last h];simp
theorem join_len:∀ {ps:List (List UInt8)} {c:UInt8},(join ps [c]).length=ps.flatten.length+(ps.length-1)
 | [],c=>by simp[join]
 | [x],c=>by rw[join_one];simp
 | x::y::r,c=>by
   have e:join (x::y::r) [c]=x++c::join (y::r) [c]:=by
    rw[join_cons,join_cons]
    simp[joinTail]
   rw[e]
   simp[join_len (ps:=y::r) (c:=c)]
   omega
theorem grouped_tot {l:List UInt8} {g:Int} {z:Nat} (hg:g=0∨g=44∨g=95) (hz:1≤z) (hz':z≤4) (hl:l.length≤100000):
 Tot (fun n=>fmtspec_grouped n (strOf l) g (z:Int)) (· =strOf (grp g z l)):=by
 unfold fmtspec_grouped
 by_cases h0:g=0
 ·subst h0
  exact Tot.it rfl (ab rfl)
 ·have hg0:(g==0)=false:=by simpa using h0
  refine Tot.if_ hg0 ?_
  unfold grp
  rw[if_neg h0]
  refine aa (P:=fun j=>∃ (p:List UInt8) (ps:List (List UInt8)),j=(strOf p,ps.map strOf)∧p::ps.reverse=gps z l∧ps.length+p.length≤l.length) ?_ fun j ⟨p,ps,hj,e,hlen⟩=>?_
  ·refine Tot.loop (fun st=>∃ (p:List UInt8) (ps:List (List UInt8)),st=(strOf p,ps.map strOf)∧gps z p++ps.reverse=gps z l∧ps.length+p.length≤l.length) (fun st=>st.1.size) ⟨l,[],rfl,by simp,by simp⟩ fun st ⟨p,ps,hst,e,hlen⟩=>?_
   subst hst
   simp only[size_str]
   refine ag (fun h=>?_) (fun h=>ab ⟨p,ps,rfl,?_,hlen⟩)
   ·have h:z<p.length:=by have:(p.length:Int)>(z:Int):=odt h;omega
    rw[iw (x:=(p.length:Int)-(z:Int)) (n:=p.length-z) om om]
    refine ac (ssub_str (l:=p) om (al _)) (ac (app_ok oss) (ac (ssub_str (l:=p) (i:=0) om om) (ab ?_)))
    refine ⟨⟨p.take (p.length-z),ps++[p.drop (p.length-z)],by simp,?_,oss⟩,by simp[size_str];omega⟩
    rw[← e,gps_step hz h,List.reverse_append]
    simp
   ·have h:¬ z<p.length:=by have:¬ (p.length:Int)>(z:Int):=odf h;omega
    rw[gps_last h]at e
    exact e
  ·subst hj
   refine ac (app_ok oss) ?_
   have hr:∀ n,slices_Reverse_sstring_string n (ps.map strOf++[strOf p])=some ((gps z l).map strOf):=fun n=>by
    unfold slices_Reverse_sstring_string
    rw[if_pos oss,List.reverse_append,← List.map_reverse,← e]
    rfl
   refine aa (RI.Tot.all hr) fun r hr=>?_
   subst hr
   have hu:bytesOf (Utf8.encode (IntKind.i32.wrap g))=[UInt8.ofNat g.toNat]:=by rcases hg with h | h | h<;>subst h<;>kernel_rfl
   have hmap:((gps z l).map strOf).map bytesOf=gps z l:=by
    rw[List.map_map]
    exact (List.map_congr_left fun x _=>bytes_str x).trans (List.map_id _)
   have hgl:=gps_len hz l.length l rfl
   have hj:(join (gps z l) [UInt8.ofNat g.toNat]).length≤2*l.length+1:=by
    rw[join_len]
    rw[hgl.2]
    omega
   refine aa (RI.Tot.all (a:=strOf (join (gps z l) [UInt8.ofNat g.toNat])) fun n=>?_) fun r hr=>by subst hr;exact ab rfl
   unfold strings_Join
   rw[hmap,hu,if_pos ⟨oss,om⟩]
end Go.Gv.P
namespace Go.Gv.P
open Go Go.Gv Go.Gv.D Go.Gv.R Go.Lib
open Go.Gv.RI (val Dg Nz OkL OkI OkN vb Db IsB noz NDigits_tot DivMod_tot NMul_tot NAdd_tot NCmp_tot val_big val_bound pow_mono pow_le_left)
set_option maxRecDepth 100000
/-! Own work: a fixed number of digits. -/
theorem wn_len {a:List Int} {B:Int} (ha:OkN a) (hB:IsB B):1≤(wn B (val a)).length∧(wn B (val a)).length≤20000:=by
 unfold wn
 split
 ·exact ⟨by simp,by simp⟩
 ·rename_i h
  have h1:=dlen ha hB
  have h2:dl B (val a)≠[]:=fun e=>h ((dl_nil hB.one (val_bound ha.1).1).1 e)
  have:=List.length_pos_iff.2 h2
  simp;omega
theorem rep_bytes (c:UInt8) (n:Nat):repeatL [c] n=ah n c:=by
 induction n with
 | zero=>rfl
 | succ n ih=>rw[List.replicate_succ,← ih];rfl
theorem repeat_some (c:UInt8) {n:Nat} (h:n≤100000) (k:Nat):strings_Repeat k (strOf [c]) (n:Int)=some (strOf (ah n c)):=by
 unfold strings_Repeat
 rw[size_str,bytes_str,if_pos ⟨om,om,oss⟩,Int.toNat_natCast,rep_bytes]
/-- digits with zeros ahead, so many that one stands ahead of the point -/
def padZ (pl:Nat) (d:List UInt8):List UInt8:=ah (pl+1-d.length) 48++d
def point (pl:Nat) (d r:List UInt8):List UInt8:=if 0<pl then r++(46::d.drop (d.length-pl)) else r
def fixS (a b:Int) (pl:Nat) (g:Int):List UInt8:=point pl (padZ pl (wn 10 (nea (a*10^pl) b))) (grp g 3 ((padZ pl (wn 10 (nea (a*10^pl) b))).take ((padZ pl (wn 10 (nea (a*10^pl) b))).length-pl)))
theorem grp_len {g:Int} {z:Nat} (hz:1≤z) (l:List UInt8):(grp g z l).length≤2*l.length+1:=by
 unfold grp
 split
 ·omega
 ·have:=gps_len hz l.length l rfl
  rw[join_len,this.2]
  omega
theorem fixed_tot {a b:List Int} (ha:OkN a) (hb:OkN b) (hb0:b≠[]) {pl:Nat} (hp:pl≤500) {g:Int} (hg:g=0∨g=44∨g=95) (la:a.length≤300) (lb:b.length≤200):
 Tot (fun fuel=>fmtspec_fixed fuel a b (pl:Int) g) (fun r=>r=strOf (fixS (val a) (val b) pl g)):=by
 unfold fmtspec_fixed
 refine aa (power_tot (n:=pl) om) fun p ⟨p1,p2,p3⟩=>?_
 refine aa (NMul_tot ha p1 om) fun m ⟨m1,m2,m3,m4⟩=>?_
 refine aa (nearest_tot m2 hb hb0 om om) fun q ⟨q1,q2,q3⟩=>?_
 refine aa (long_tot q1) fun d hd=>?_
 have hl:=wn_len q1 (B:=10) (.inr (.inr (.inl rfl)))
 rw[q2,m3,p2]at hd hl
 subst hd
 unfold fixS
 generalize wn 10 (nea (val a*10^pl) (val b))=D at hl ⊢
 simp only[size_str]
 have w1:IntKind.i64.wrap (IntKind.i64.wrap ((pl:Int)+1)-((D.length:Nat):Int))=(pl:Int)+1-(D.length:Int):=by rw[i64_small (x:=(pl:Int)+1) om om,i64_small om om]
 rw[w1]
 refine Tot.some_bind ?_
 refine aa (P:=(· =strOf (padZ pl D))) ?_ fun j hj=>?_
 ·refine ag (fun h=>?_) (fun h=>ab ?_)
  ·have h:(pl:Int)+1-(D.length:Int)>0:=odt h
   rw[show (pl:Int)+1-(D.length:Int)=((pl+1-D.length:Nat):Int) by omega]
   refine aa (RI.Tot.all (repeat_some 48 (n:=pl+1-D.length) om)) fun r hr=>?_
   subst hr
   exact ac (cat_str oss) (ab rfl)
  ·have h:¬ (pl:Int)+1-(D.length:Int)>0:=odf h
   unfold padZ
   rw[show pl+1-D.length=0 by omega]
   rfl
 ·subst hj
  have hZ:pl+1≤(padZ pl D).length∧(padZ pl D).length≤30000:=by unfold padZ;simp;omega
  generalize padZ pl D=Z at hZ ⊢
  simp only[size_str]
  rw[iw (x:=(Z.length:Int)-(pl:Int)) (n:=Z.length-pl) om om]
  refine ac (ssub_str (l:=Z) (i:=0) om om) ?_
  refine aa (grouped_tot (l:=(Z.take (Z.length-pl)).drop 0) (z:=3) hg om om oss) fun r hr=>?_
  subst hr
  have hgl:=grp_len (g:=g) (z:=3) om ((Z.take (Z.length-pl)).drop 0)
  simp only[List.length_drop,List.length_take]at hgl
  rw[List.drop_zero]at hgl ⊢
  refine aa (P:=(· =strOf (point pl Z (grp g 3 (Z.take (Z.length-pl)))))) ?_ fun j hj=>ab hj
  unfold point
  refine ag (fun h=>?_) (fun h=>ab ?_)
  ·have h:0<pl:=by have:(pl:Int)>0:=odt h;omega
   rw[if_pos h]
   refine ac (ssub_str (l:=Z) om (al _)) ?_
   rw[List.take_length]
   refine ac (cat_str (l:=[46]) oss) (ac (cat_str oss) (ab rfl))
  ·have h:¬ 0<pl:=by have:¬ (pl:Int)>0:=odf h;omega
   rw[if_neg h]
/-! ### with an exponent -/
/-- num * 10^n and den, or num and den * 10^-n -/
def scA (a:Int) (n:Int):Int:=if 0≤n then a*10^n.toNat else a
def scB (b:Int) (n:Int):Int:=if 0≤n then b else b*10^(-n).toNat
theorem scaled_tot {a b:List Int} (ha:OkN a) (hb:OkN b) (la:a.length≤200) (lb:b.length≤200) {n:Int} (h1: -2000≤n) (h2:n≤2000):
 Tot (fun fuel=>fmtspec_scaled fuel a b n) (fun r=>OkN r.1∧OkN r.2∧val r.1=scA (val a) n∧val r.2=scB (val b) n∧r.1.length≤430∧r.2.length≤430):=by
 unfold fmtspec_scaled scA scB
 refine aa (P:=fun j=>OkN j.1∧OkN j.2∧val j.1=(if 0≤n then val a*10^n.toNat else val a)∧val j.2=(if 0≤n then val b else val b*10^(-n).toNat)∧j.1.length≤430∧j.2.length≤430) ?_ fun j hj=>ab hj
 refine ag (fun h=>?_) (fun h=>?_)
 ·have h:0≤n:=odt h
  have hp:=power_tot (n:=n.toNat) om
  rw[show ((n.toNat:Nat):Int)=n by omega]at hp
  rw[if_pos h,if_pos h]
  exact aa hp fun p ⟨p1,p2,p3⟩=>aa (NMul_tot ha p1 om) fun m ⟨m1,m2,m3,m4⟩=>ab ⟨m2,hb,by rw[m3,p2],rfl,osm,osm⟩
 ·have h:¬ 0≤n:=odf h
  have hp:=power_tot (n:=(-n).toNat) om
  rw[if_neg h,if_neg h]
  rw[i64_small (x:=0-n) om om]
  rw[show (((-n).toNat:Nat):Int)=0-n by omega]at hp
  exact aa hp fun p ⟨p1,p2,p3⟩=>aa (NMul_tot hb p1 om) fun m ⟨m1,m2,m3,m4⟩=>ab ⟨ha,m2,rfl,by rw[m3,p2],osm,osm⟩
theorem less_tot {a b:List Int} (ha:OkN a) (hb:OkN b) (la:a.length≤200) (lb:b.length≤200) {n:Int} (h1: -2000≤n) (h2:n≤2000):
 Tot (fun fuel=>fmtspec_less fuel a b n) (· =decide (scA (val a) (-n)<scB (val b) (-n))):=by
 unfold fmtspec_less
 rw[i64_small (x:=0-n) om om,show 0-n= -n by omega]
 refine aa (scaled_tot ha hb la lb (n:= -n) om om) fun r ⟨r1,r2,r3,r4,r5,r6⟩=>?_
 refine aa (NCmp_tot r1 r2) fun c ⟨c1,c2,c3⟩=>ab ?_
 rw[← r3,← r4]
 exact decide_eq_decide.2 c2
/-- the exponent of the first digit -/
def expo (a b:Int):Int:=if scA a (-(((wn 10 a).length:Int)-((wn 10 b).length:Int)))<scB b (-(((wn 10 a).length:Int)-((wn 10 b).length:Int))) then ((wn 10 a).length:Int)-((wn 10 b).length:Int)-1 else ((wn 10 a).length:Int)-((wn 10 b).length:Int)
/-- the digits ahead of the exponent, and it -/
def mant (a b:Int) (pl:Nat):Int × List UInt8:=
 if a=0 then (0,ah (pl+1) 48)
 else if pl+1<(wn 10 (nea (scA a (pl-expo a b)) (scB b (pl-expo a b)))).length then (expo a b+1,(wn 10 (nea (scA a (pl-expo a b)) (scB b (pl-expo a b)))).take (pl+1))
 else (expo a b,wn 10 (nea (scA a (pl-expo a b)) (scB b (pl-expo a b))))
def expS (e:Int):List UInt8:=(if e<0 then [101,45] else [101,43])++(if e.natAbs<10 then [48] else [])++itoa e.natAbs
def sciS (a b:Int) (pl:Nat):List UInt8:=((mant a b pl).2.take 1++(if 0<pl then 46::(mant a b pl).2.drop 1 else []))++expS (mant a b pl).1
theorem wn_len128 {a:List Int} (ha:OkL a):(wn 10 (val a)).length≤1300:=by
 have hB:IsB 10:=.inr (.inr (.inl rfl))
 have h0:=(val_bound ha.1).1
 unfold wn
 split
 ·simp
 ·rename_i h
  obtain ⟨d1,d2,d3⟩:=dl_ok hB.one h0
  rcases Nat.lt_or_ge 1300 ((dl 10 (val a)).reverse.map dch).length with hh | hh
  ·exfalso
   simp at hh
   generalize dl 10 (val a)=l at*
   rcases d3 with d3 | d3
   ·subst d3;simp at hh
   ·have hl:l≠[]:=fun e=>by subst e;simp at hh
    have hge:(10:Int)^(l.length-1)≤vb 10 l:=by
     have:=List.dropLast_concat_getLast hl
     have hd:=d1 (l.getLast hl) (List.getLast_mem hl)
     have hne:l.getLast hl≠0:=fun e=>d3 (by rw[List.getLast?_eq_some_getLast hl,e])
     have hdl:Db 10 l.dropLast:=fun x hx=>d1 x (List.dropLast_subset l hx)
     have h2:=(RI.vb_bound (show (1:Int)<10 by decide) hdl).1
     conv=>rhs;rw[← this]
     rw[RI.vb_snoc]
     have h3:(10:Int)^l.dropLast.length*1≤10^l.dropLast.length*l.getLast hl:=af om (by have:=ten_pow_pos l.dropLast.length;omega)
     rw[show l.length-1=l.dropLast.length by simp]
     omega
    have h4:=(RI.val_lt_big ha).2
    have h5:(10:Int)^1300≤10^(l.length-1):=by
     obtain ⟨d,hd⟩:=Nat.exists_eq_add_of_le (show 1300≤l.length-1 by omega)
     rw[hd,Int.pow_add]
     have h1:=ten_pow_pos 1300
     have h2:=ten_pow_pos d
     have:(10:Int)^1300*1≤10^1300*10^d:=af om om
     omega
    have h6:RI.Big≤(10:Int)^1300:=by rw[RI.big_two];exact odt (by kernel_rfl)
    omega
  ·exact hh
end Go.Gv.P
namespace Go.Gv.P
open Go Go.Gv Go.Gv.D Go.Gv.R Go.Lib
open Go.Gv.RI (val Dg Nz OkL OkI OkN vb Db IsB noz NDigits_tot DivMod_tot NMul_tot NAdd_tot NCmp_tot val_big val_bound pow_mono pow_le_left)
set_option maxRecDepth 100000
theorem expo_bound {a b:List Int} (ha:OkL a) (hb:OkL b): -1301≤expo (val a) (val b)∧expo (val a) (val b)≤1300:=by
 have h1:=wn_len128 ha
 have h2:=wn_len128 hb
 unfold expo
 split<;>omega
theorem itoa4_all:(List.range 1400).all (fun n=>let l:=itoa (n:Int);l.all dg&&(!l.isEmpty&&decide (l.length≤4)))=true:=by kernel_rfl
theorem itoa4 {n:Nat} (h:n<1400):(∀ b∈itoa (n:Int),dg b=true)∧1≤(itoa (n:Int)).length∧(itoa (n:Int)).length≤4:=by
 have:=List.all_eq_true.1 itoa4_all n (List.mem_range.2 h)
 simp only[Bool.and_eq_true]at this
 obtain ⟨h1,h2,h3⟩:=this
 refine ⟨fun b hb=>List.all_eq_true.1 h1 b hb,?_,odt h3⟩
 cases hl:itoa (n:Int) with
 | nil=>rw[hl]at h2;simp at h2
 | cons x l=>simp
theorem expS_len {e:Int} (h1: -1301≤e) (h2:e≤1301):(expS e).length≤7:=by
 unfold expS
 have:=(itoa4 (n:=e.natAbs) om).2.2
 rw[ae,ae]
 have a1:(if e<0 then [101,45] else [101,43]:List UInt8).length=2:=by split<;>rfl
 have a2:(if e.natAbs<10 then [48] else []:List UInt8).length≤1:=by split<;>simp
 omega
theorem itoa_any {x:Int} (h0:0≤x) (h1:x≤1400) (n:Nat):strconv_Itoa n x=some (strOf (itoa (x.natAbs:Int))):=by
 unfold strconv_Itoa
 rw[if_pos ⟨om,om⟩,show ((x.natAbs:Nat):Int)=x by omega]
theorem scientific_tot {a b:List Int} (ha:OkL a) (hb:OkL b) (hb0:b≠[]) {pl:Nat} (hp:pl≤500):
 Tot (fun fuel=>fmtspec_scientific fuel a b (pl:Int)) (fun r=>r=strOf (sciS (val a) (val b) pl)∧(mant (val a) (val b) pl).2.length≤20001∧ -1301≤(mant (val a) (val b) pl).1∧(mant (val a) (val b) pl).1≤1301):=by
 have h1:=wn_len128 ha
 have h2:=wn_len128 hb
 obtain ⟨x1,x2⟩:=expo_bound ha hb
 unfold fmtspec_scientific
 rw[iw (x:=(pl:Int)+1) (n:=pl+1) om om]
 refine aa (RI.Tot.all (repeat_some 48 (n:=pl+1) om)) fun z hz=>?_
 subst hz
 refine aa (P:=fun j=>j=((mant (val a) (val b) pl).1,strOf (mant (val a) (val b) pl).2)∧1≤(mant (val a) (val b) pl).2.length∧(mant (val a) (val b) pl).2.length≤20001∧ -1301≤(mant (val a) (val b) pl).1∧(mant (val a) (val b) pl).1≤1301) ?_ fun j ⟨hj,m1,m2,m3,m4⟩=>?_
 ·refine ag (fun h=>?_) (fun h=>?_)
  ·have h:a≠[]:=fun e=>by subst e;simp at h
   have hv:=RI.val_pos ha.1 ha.2.1 h
   have hv0:¬ val a=0:=by omega
   refine aa (decimals_tot ha) fun r hr=>?_
   subst hr
   refine aa (decimals_tot hb) fun r hr=>?_
   subst hr
   simp only[size_str]
   rw[i64_small (x:=((wn 10 (val a)).length:Int)-((wn 10 (val b)).length:Int)) om om]
   refine Tot.some_bind ?_
   have la:a.length≤200:=Nat.le_trans ha.2.2 ddc
   have lb:b.length≤200:=Nat.le_trans hb.2.2 ddc
   refine aa (less_tot (okN_of ha) (okN_of hb) la lb om om) fun r hr=>?_
   subst hr
   refine aa (P:=(· =expo (val a) (val b))) ?_ fun j hj=>?_
   ·unfold expo
    refine ag (fun h=>ab ?_) (fun h=>ab ?_)
    ·rw[if_pos (odt h),i64_small om om]
    ·rw[if_neg (odf h)]
   ·subst hj
    rw[i64_small (x:=(pl:Int)-expo (val a) (val b)) om om]
    refine aa (scaled_tot (okN_of ha) (okN_of hb) la lb (n:=(pl:Int)-expo (val a) (val b)) om om) fun s ⟨s1,s2,s3,s4,s5,s6⟩=>?_
    have hs2:s.2≠[]:=fun e=>by
     have hbv:=RI.val_pos hb.1 hb.2.1 hb0
     rw[e]at s4
     have:0<scB (val b) ((pl:Int)-expo (val a) (val b)):=by
      unfold scB
      split
      ·exact hbv
      ·exact Int.mul_pos hbv (ten_pow_pos _)
     rw[← s4]at this
     simp[val]at this
    refine aa (nearest_tot s1 s2 hs2 om om) fun q ⟨q1,q2,q3⟩=>?_
    refine aa (long_tot q1) fun d hd=>?_
    have hl:=wn_len q1 (B:=10) (.inr (.inr (.inl rfl)))
    rw[q2,s3,s4]at hd hl
    subst hd
    unfold mant
    rw[if_neg hv0]
    simp only[size_str]
    generalize wn 10 (nea (scA (val a) ((pl:Int)-expo (val a) (val b))) (scB (val b) ((pl:Int)-expo (val a) (val b))))=D at hl ⊢
    refine ag (fun h=>?_) (fun h=>ab ?_)
    ·have h:pl+1<D.length:=by have:(D.length:Int)>((pl+1:Nat):Int):=odt h;omega
     rw[if_pos h]
     refine ac (ssub_str (l:=D) (i:=0) om om) (ab ?_)
     rw[List.drop_zero,i64_small (x:=expo (val a) (val b)+1) om om]
     exact ⟨rfl,oss,oss,osm,osm⟩
    ·have h:¬ pl+1<D.length:=by have:¬ (D.length:Int)>((pl+1:Nat):Int):=odf h;omega
     rw[if_neg h]
     exact ⟨rfl,hl.1,osm,osm,osm⟩
  ·have h:a=[]:=by
    have:¬ ((a.length:Nat):Int)>0:=odf h
    exact ad om
   subst h
   have hv0:val []=0:=rfl
   unfold mant
   rw[if_pos hv0]
   exact ab ⟨rfl,by simp,oss,by show (-1301:Int)≤0;decide,by show (0:Int)≤1301;decide⟩
 ·subst hj
  unfold sciS
  generalize (mant (val a) (val b) pl).2=M at m1 m2 ⊢
  generalize (mant (val a) (val b) pl).1=e at m3 m4 ⊢
  simp only[size_str]
  refine ac (ssub_str (l:=M) (i:=0) (j:=1) om m1) ?_
  rw[List.drop_zero]
  refine aa (P:=(· =strOf (M.take 1++(if 0<pl then 46::M.drop 1 else [])))) ?_ fun j hj=>?_
  ·refine ag (fun h=>?_) (fun h=>ab ?_)
   ·have h:0<pl:=by have:(pl:Int)>0:=odt h;omega
    rw[if_pos h]
    refine ac (ssub_str (l:=M) (i:=1) m1 (al _)) ?_
    rw[List.take_length]
    exact ac (cat_str (l:=[46]) oss) (ac (cat_str oss) (ab rfl))
   ·have h:¬ 0<pl:=by have:¬ (pl:Int)>0:=odf h;omega
    rw[if_neg h,List.append_nil]
  ·subst hj
   have hM:(M.take 1++(if 0<pl then 46::M.drop 1 else [])).length≤20003:=by
    rw[ae,List.length_take]
    split<;>simp<;>omega
   generalize M.take 1++(if 0<pl then 46::M.drop 1 else [])=H at hM ⊢
   refine aa (P:=(· =((e.natAbs:Int),strOf (if e<0 then [101,45] else [101,43])))) ?_ fun j hj=>?_
   ·refine ag (fun h=>ab ?_) (fun h=>ab ?_)
    ·have h:e<0:=odt h
     rw[if_pos h,i64_small (x:=0-e) om om,show 0-e=(e.natAbs:Int) by omega]
    ·have h:¬ e<0:=odf h
     rw[if_neg h,show e=(e.natAbs:Int) by omega];simp
   ·subst hj
    have hE:(if e<0 then [101,45] else [101,43]:List UInt8).length=2:=by split<;>rfl
    have hI:=(itoa4 (n:=e.natAbs) om).2.2
    refine aa (P:=(· =strOf ((if e<0 then [101,45] else [101,43])++(if e.natAbs<10 then [48] else [])))) ?_ fun j hj=>?_
    ·refine ag (fun h=>?_) (fun h=>ab ?_)
     ·have h:e.natAbs<10:=by have:(e.natAbs:Int)<10:=odt h;omega
      rw[if_pos h]
      exact ac (cat_str (m:=[48]) (by rw[hE];simp)) (ab rfl)
     ·have h:¬ e.natAbs<10:=by have:¬ (e.natAbs:Int)<10:=odf h;omega
      rw[if_neg h,List.append_nil]
    ·subst hj
     have hZ:(if e.natAbs<10 then [48] else []:List UInt8).length≤1:=by split<;>simp
     refine ac (cat_str (by rw[ae,hE];omega)) ?_
     refine aa (RI.Tot.all (itoa_any (x:=(e.natAbs:Int)) om om)) fun r hr=>?_
     subst hr
     refine ac (cat_str (by rw[ae,ae,hE];simp only[Int.natAbs_natCast];omega)) (ab ⟨?_,m2,m3,m4⟩)
     simp only[Int.natAbs_natCast,expS,List.append_assoc]
end Go.Gv.P
