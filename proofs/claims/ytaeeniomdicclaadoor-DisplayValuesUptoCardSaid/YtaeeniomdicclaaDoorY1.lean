import Derived.Test.YtaeeniomdicclaaDoorM1
import Derived.Test.YtaeeniomdicclaaDoorM1
set_option linter.all false
open Go.Gv.Tot renaming bindq->aa,ret->ab,bind0->af,ite->ag,if_->ah,loop->ai,it->am
open List renaming length_cons->ac,length_nil->ad,length_append->ae,getElem_mem->aj,length_set->ak,mem_append->al
namespace Go.Gv.P
open Go Go.Gv Go.Gv.D Go.Gv.R Go.Lib
open Go.Gv.RI (val Dg Nz OkL OkI vb Db Ok3 zzr val_bound h16 iv3)
set_option maxRecDepth 100000
abbrev Hv:=Int × (Bool × List Int) × (Bool × List Int) × ByteArray × Int
def SOk (l:List Int) (p:Int):Prop:=(∀ x∈l, -9223372036854775808<=x∧x<=9223372036854775807)∧l.length<=1048576∧0<=p∧p<=l.length
theorem zpg {x n:Int} (h:1<=n): -n<x.tmod n∧x.tmod n<n:=by
 have h1:=Int.natAbs_tmod x n
 have h2:=Nat.mod_lt x.natAbs (show 0<n.natAbs by omega)
 omega
theorem zzq {l:List Int} {p n:Int} (h:SOk l p) (h1:1<=n) (h2:n<=4611686018427387904):Tot (fun k=>zzz k (l,p) n) (fun r=>0<=r.1∧r.1<n∧SOk l r.2.2):=by
 unfold zzz
 refine ag (fun hc=>ab ⟨by simp,osm,h⟩) fun hc=>?_
 obtain ⟨g1,g2,g3,g4⟩:=h
 have hp:p<l.length:=by have:¬ (p>=(l.length:Int)):=odf hc;omega
 obtain ⟨q,rfl⟩:∃ q:Nat,p=q:=⟨p.toNat,om⟩
 have hq:q<l.length:=by omega
 refine af (idx_nat hq) (af (RI.nz_ok om) ?_)
 obtain ⟨t1,t2⟩:=zpg (x:=l[q]) h1
 have hs:IntKind.i64.wrap ((q:Int)+1)=(q:Int)+1:=i64_small om om
 refine aa (P:=fun j=>0<=j∧j<n) ?_ fun j ⟨j1,j2⟩=>ab ⟨j1,j2,g1,g2,by simp only[hs];omega,by simp only[hs];omega⟩
 refine ag (fun hd=>?_) (fun hd=>?_)
 ·have hd:l[q].tmod n<0:=odt hd
  refine af rfl (ab ?_)
  rw[i64_small om om]
  omega
 ·have hd:¬ l[q].tmod n<0:=odf hd
  exact ab ⟨om,t2⟩
def zxv (lo n:Int) (v:Hv):Prop:=
 v.1=0∨(v.1=1∧(v.2.2.2.2=0∨v.2.2.2.2=1))∨(v.1=2∧OkI v.2.1)∨(v.1=3∧OkI v.2.1∧OkI v.2.2.1)∨(v.1=4∧v.2.2.2.1.size<=100)∨(v.1=5∧v.2.2.2.1.size<=100)∨v.1=8∨
  (v.1=6∧lo<=v.2.2.2.2∧v.2.2.2.2<n)
theorem zxv.mono {lo n n':Int} {v:Hv} (h:zxv lo n v) (hn:n<=n'):zxv lo n' v:=by
 unfold zxv at*
 rcases h with h | h | h | h | h | h | h | ⟨h1,h2,h3⟩
 ·exact .inl h
 ·exact .inr (.inl h)
 ·exact .inr (.inr (.inl h))
 ·exact .inr (.inr (.inr (.inl h)))
 ·exact .inr (.inr (.inr (.inr (.inl h))))
 ·exact .inr (.inr (.inr (.inr (.inr (.inl h)))))
 ·exact .inr (.inr (.inr (.inr (.inr (.inr (.inl h))))))
 ·exact .inr (.inr (.inr (.inr (.inr (.inr (.inr ⟨h1,h2,om⟩))))))
theorem zxv.int {lo n:Int} {a:Bool × List Int} {b:Bool × List Int} {s:ByteArray} {i:Int} (h:OkI a):zxv lo n (2,a,b,s,i):=.inr (.inr (.inl ⟨rfl,h⟩))
theorem zwo {a:List Int} (ha:Ok3 a) (hl:a.length<=100) (neg:Bool) (hn:a=[]->neg=false):Tot (fun k=>zzJ k a) (fun r=>OkI (neg,r)):=
 (RI.Limbs_tot ha).mono fun r ⟨r1,r2,r3,r4⟩=>⟨⟨r1,r2,by show r.length<=128;omega⟩,fun e=>hn (by
   have hr:r=[]:=e
   subst hr
   have:(a.length+1)/2=0:=by rw[<- r4];rfl
   exact List.eq_nil_of_length_eq_zero om)⟩
theorem zz7 {x:Int} (h0: -4611686018427387904<x) (h1:x<4611686018427387904):Tot (fun k=>zza k x) (fun r=>∃ a,OkI a∧r=(2,a,(false,[]),strOf [],0)):=by
 unfold zza
 refine aa (RI.Number_tot h0 h1) fun r ⟨r1,r2,r3⟩=>?_
 have hl:r.2.length<=4:=zpb r2 (k:=4) (by rw[show vb 65536 r.2=(x.natAbs:Int) from r3];omega)
 refine aa (zwo r2 om r.1 (fun e=>by
  rw[r1]
  have:(x.natAbs:Int)=0:=by rw[<- r3,e];rfl
  exact dff om)) fun m hm=>ab ⟨(r.1,m),hm,rfl⟩
theorem zu4:∀ t∈[strOf [],strOf [97],strOf [98],strOf [105,116,39,115],strOf [115,97,121,32,34,120,34],strOf [39,34],strOf [108,105,110,101,10,101,110,100],strOf [116,97,98,9],strOf [92],strOf [1,127],strOf [195,169],strOf [206,187,226,134,146,240,157,148,184],strOf [48],strOf [110,105,108]],t.size<=100:=by
 decide
theorem zt3 {n:Int} (h0:0<=n) (h1:n<65536):Tot (fun a=>zyo a n) (fun r=>Ok3 r∧vb 65536 r=n∧r.length<=1):=by
 unfold zyo
 refine aa (P:=fun r=>Ok3 r∧vb 65536 r=n∧r.length<=1) ?_ fun r hr=>ab hr
 refine ai (fun (st:Int × List Int)=>(st=(n,[])∨(n≠0∧st=(0,[n])))) (fun st=>st.1.toNat) (.inl rfl) fun st b=>?_
 rcases b with e | ⟨hn,e⟩<;>subst e
 ·refine ag (fun h=>?_) (fun h=>ab ?_)
  ·have h:n>0:=odt h
   refine af (zzt (by simp)) (ab ?_)
   rw[Int.tmod_eq_emod_of_nonneg h0,Int.tdiv_eq_ediv_of_nonneg h0,Int.emod_eq_of_lt h0 h1,Int.ediv_eq_zero_of_lt h0 h1]
   exact ⟨.inr ⟨om,rfl⟩,by show (0:Int).toNat<n.toNat;omega⟩
  ·have h:¬ n>0:=odf h
   have:n=0:=by omega
   subst this
   exact ⟨RI.Ok3.nil,rfl,by simp⟩
 ·refine ah rfl (ab ⟨⟨RI.Db.one ⟨h0,h1⟩,.inr ?_,by simp⟩,by simp[vb],by simp⟩)
  simp only[List.getLast?_singleton]
  intro e
  exact hn (Option.some.inj e)
theorem zu8 {x z:(Bool × List Int) × List Int} {k:Nat} (h:zzi k x=some z):z.1.1=x.1.1:=by
 unfold zzi at h
 obtain ⟨a,_,h⟩:=bind_some h
 obtain ⟨b,_,h⟩:=bind_some h
 obtain ⟨c,_,h⟩:=bind_some h
 cases h
 rfl
theorem zuI {x:Rt} {k:Nat} (hx:RtOk x k) (hk:k<=1000):Tot (fun a=>zzi a x) (fun r=>RtOk r k∧iv3 r.1*vb 65536 x.2=iv3 x.1*vb 65536 r.2∧r.1.1=x.1.1):=by
 obtain ⟨z,⟨h1,h2⟩,N,hN⟩:=zsv hx hk
 exact ⟨z,⟨h1,h2,zu8 (hN N (Nat.le_refl _))⟩,N,hN⟩
theorem zso:Tot (fun n=>zyo n 1) (· =[1]):=Tot.of_all 5 (fun k=>by kernel_rfl) rfl
theorem zqM {l:List Int} {p lo n:Int} (h:SOk l p):Tot (fun k=>zzA k (l,p)) (fun r=>zxv lo n r.1∧SOk l r.2.2):=by
 unfold zzA
 refine aa (zzq h ddc ddc) fun r ⟨r1,r2,r3⟩=>?_
 refine ag (fun hc=>ab ⟨.inl rfl,r3⟩) fun hc=>?_
 refine ag (fun hc=>?_) fun hc=>?_
 ·refine aa (zzq r3 ddc ddc) fun s ⟨s1,s2,s3⟩=>ab ⟨.inr (.inl ⟨rfl,?_⟩),s3⟩
  show s.1=0∨s.1=1
  omega
 refine ag (fun hc=>?_) fun hc=>?_
 ·refine aa (zzq r3 ddc ddc) fun s ⟨s1,s2,s3⟩=>?_
  rw[i64_small om om]
  refine aa (zz7 om om) fun v ⟨a,ha,e⟩=>?_
  subst e
  exact ab ⟨zxv.int ha,s3⟩
 refine ag (fun hc=>?_) fun hc=>?_
 ·refine aa (zzq r3 ddc ddc) fun s ⟨s1,s2,s3⟩=>?_
  refine aa (zz7 ddc ddc) fun v ⟨a,ha,e⟩=>?_
  subst e
  refine aa (P:=fun j=>SOk l j.1.2∧∃ (g:Bool) (d:List Int),j.2=(2,(g,d),(false,[]),strOf [],0)∧OkL d∧d≠[]) ?_ fun j ⟨j1,g,d,j2,j3,j4⟩=>?_
  ·refine af (a:=List.replicate s.1.toNat 0) (by unfold mkC;rw[if_pos ⟨om,om,om⟩]) ?_
   refine aa (zzq s3 ddc ddc) fun u ⟨u1,u2,u3⟩=>?_
   refine af (zzt oss) (ab ⟨u3,a.1,_,rfl,⟨?_,?_,?_⟩,by simp⟩)
   ·refine RI.Dg.append (fun x hx=>by rw[(List.mem_replicate.1 hx).2];omega) (RI.Dg.one ?_)
    rw[i64_small om om,RI.u32_small om om]
    omega
   ·right
    rw[List.getLast?_concat,i64_small om om,RI.u32_small om om]
    intro e
    have:=Option.some.inj e
    omega
   ·simp;omega
  ·refine aa (zzq j1 ddc ddc) fun u ⟨u1,u2,u3⟩=>ab ⟨?_,u3⟩
   simp only[j2]
   exact zxv.int ⟨j3,fun e=>absurd e j4⟩
 refine ag (fun hc=>?_) fun hc=>?_
 ·refine aa (zzq r3 ddc ddc) fun s ⟨s1,s2,s3⟩=>?_
  rw[i64_small om om]
  refine aa (RI.Number_tot om om) fun nu ⟨n1,n2,n3⟩=>?_
  refine aa (zzq s3 ddc ddc) fun u ⟨u1,u2,u3⟩=>?_
  rw[i64_small om om]
  refine aa (zt3 om om) fun de ⟨d1,d2,d3⟩=>?_
  have t:nu.2.length<=1:=zpb n2 (k:=1) (by rw[show vb 65536 nu.2=_ from n3];omega)
  have hz:iv3 (nu.1,nu.2)=0->nu.1=false:=fun e=>by
   rw[n1]
   have hw:=n3
   unfold iv3 at e
   refine dff ?_
   split at e<;>simp only at e<;>omega
  refine aa (zuI (x:=((nu.1,nu.2),de)) (k:=1) ⟨n2,d1,osm,t,d3⟩ ddc) fun z ⟨z1,z2,z3⟩=>?_
  obtain ⟨⟨zs,zn⟩,zd⟩:=z
  obtain ⟨y1,y2,y3,y4,y5⟩:=z1
  simp only at y1 y2 y3 y4 y5 z2 z3 ⊢
  have f:zn=[]->zs=false:=fun e=>by
   subst e
   rw[z3]
   refine hz ?_
   have h0:iv3 (zs,[])=0:=by cases zs<;>rfl
   rw[h0,Int.zero_mul]at z2
   rcases Int.mul_eq_zero.1 z2.symm with h | h
   ·exact h
   ·omega
  refine aa zso fun o ho=>?_
  subst ho
  refine aa (RI.Compare_tot y2 (b:=[1]) ⟨RI.Db.one ddc,.inr ddc,ddc⟩) fun c _=>?_
  refine ag (fun hc=>?_) fun hc=>?_
  ·refine aa (P:=fun v=>zxv lo n v) ?_ fun v hv=>ab ⟨hv,u3⟩
   refine ag (fun hs=>?_) fun hs=>?_
   ·refine aa (zwo y1 om (decide ((zn.length:Int)>0)) (fun e=>by subst e;rfl)) fun m hm=>ab (zxv.int hm)
   ·refine aa (zwo y1 om false (fun e=>rfl)) fun m hm=>ab (zxv.int hm)
  ·refine aa (zwo y1 om zs f) fun m hm=>?_
   refine aa (zwo y2 om false (fun e=>rfl)) fun d hd=>ab ⟨.inr (.inr (.inr (.inl ⟨rfl,hm,hd⟩))),u3⟩
 refine ag (fun hc=>?_) fun hc=>?_
 ·refine aa (Tot.all fun k=>rfl) fun t1 i=>?_
  refine aa (Tot.all fun k=>rfl) fun t2 an=>?_
  subst i;subst an
  refine aa (zzq r3 ddc ddc) fun s ⟨s1,s2,s3⟩=>?_
  obtain ⟨q,hq⟩:∃ q:Nat,s.1=q:=⟨s.1.toNat,om⟩
  rw[hq]at s2 ⊢
  refine af (idx_nat om) (ab ⟨.inr (.inr (.inr (.inr (.inl ⟨rfl,zu4 _ (aj _)⟩)))),s3⟩)
 refine ag (fun hc=>?_) fun hc=>?_
 ·refine aa (zzq r3 ddc ddc) fun s ⟨s1,s2,s3⟩=>?_
  refine aa (zzq s3 ddc ddc) fun u ⟨u1,u2,u3⟩=>?_
  refine aa (zzq u3 ddc ddc) fun v ⟨v1,v2,v3⟩=>?_
  rw[zvt s1 s2,zvt u1 u2,zvt v1 om]
  have hb:∀ x:Int,0<=x->x<256->u8 x=some (UInt8.ofNat x.toNat):=fun x h0 h1=>by unfold u8;rw[if_pos ⟨h0,h1⟩]
  refine af (hb _ s1 s2) (af (hb _ u1 u2) (af (hb _ v1 om) ?_))
  refine aa (zzq v3 ddc ddc) fun y ⟨y1,y2,y3⟩=>?_
  refine af (by unfold sub;rw[if_pos ⟨om,y1,oss⟩]) (ab ⟨.inr (.inr (.inr (.inr (.inr (.inl ⟨rfl,?_⟩))))),y3⟩)
  simp only[zyg,List.length_drop,List.length_take,ac,ad]
  omega
 refine ag (fun hc=>ab ⟨.inr (.inr (.inr (.inr (.inr (.inr (.inl rfl)))))),r3⟩) fun hc=>?_
 refine aa (zzq r3 ddc ddc) fun s ⟨s1,s2,s3⟩=>?_
 refine aa (zz7 om om) fun v ⟨a,ha,e⟩=>?_
 subst e
 exact ab ⟨zxv.int ha,s3⟩
theorem zxh {l:List Int} {p lo:Int} {h:List (Int × ByteArray × Int × List Int × List Int × List ByteArray × List Hv × List Hv × Int × Int)} (hs:SOk l p) (h0:0<=lo) (h1:lo<=100000) (h2:h.length<=100000):
 Tot (fun k=>zzk k (l,p) h lo) (fun r=>zxv lo h.length r.1∧SOk l r.2.2):=by
 unfold zzk
 refine af rfl ?_
 rw[i64_small om om]
 refine aa (P:=fun j=>(j.1=true->0<(h.length:Int)-lo)∧SOk l j.2.2) ?_ fun j ⟨j1,j2⟩=>?_
 ·refine ag (fun hc=>?_) fun hc=>ab ⟨fun e=>by simp at e,hs⟩
  refine aa (zzq hs ddc ddc) fun s ⟨s1,s2,s3⟩=>ab ⟨fun _=>odt hc,s3⟩
 ·refine ag (fun hc=>?_) fun hc=>?_
  ·have hp:=j1 hc
   refine aa (zzq j2 om om) fun s ⟨s1,s2,s3⟩=>?_
   rw[i64_small om om]
   exact ab ⟨.inr (.inr (.inr (.inr (.inr (.inr (.inr ⟨rfl,osm,osm⟩)))))),s3⟩
  ·exact aa (zqM (lo:=lo) (n:=h.length) j2) fun v ⟨v1,v2⟩=>ab ⟨v1,v2⟩
open Go.Gv.RI (val Dg Nz OkL OkI vb Db Ok3 zzr val_bound h16 iv3)
set_option maxRecDepth 100000
abbrev Ho:=Int × ByteArray × Int × List Int × List Int × List ByteArray × List Hv × List Hv × Int × Int
def zxl (lo n:Int) (l:List Hv):Prop:=(∀ v∈l,zxv lo n v)∧l.length<=2000
def zsS (lo n:Int) (o:Ho):Prop:=
 ((o.1=1∨o.1=2∨o.1=5)∧zxl lo n o.2.2.2.2.2.2.1)∨(o.1=3∧zxl lo n o.2.2.2.2.2.2.1∧zxl lo n o.2.2.2.2.2.2.2.1∧o.2.2.2.2.2.2.1.length=o.2.2.2.2.2.2.2.1.length)∨
   (o.1=4∧zxl lo n o.2.2.2.2.2.2.2.1)∨(o.1=10∧o.2.2.1=49)
def HpOk (lo:Nat) (h:List Ho):Prop:=lo<=h.length∧h.length<=1000∧∀ i o,lo<=i->h[i]? =some o->zsS lo h.length o
theorem zxl.mono {lo n n':Int} {l:List Hv} (h:zxl lo n l) (hn:n<=n'):zxl lo n' l:=⟨fun v hv=>(h.1 v hv).mono hn,h.2⟩
theorem zxl.nil {lo n:Int}:zxl lo n []:=⟨fun v hv=>by simp at hv,by simp⟩
theorem zsS.mono {lo n n':Int} {o:Ho} (h:zsS lo n o) (hn:n<=n'):zsS lo n' o:=by
 unfold zsS at*
 rcases h with ⟨h1,h2⟩ | ⟨h1,h2,h3,h4⟩ | ⟨h1,h2⟩ | h
 ·exact .inl ⟨h1,h2.mono hn⟩
 ·exact .inr (.inl ⟨h1,h2.mono hn,h3.mono hn,h4⟩)
 ·exact .inr (.inr (.inl ⟨h1,h2.mono hn⟩))
 ·exact .inr (.inr (.inr h))
theorem u8w (x:Int):∃ b,u8 (IntKind.u8.wrap x)=some b:=by
 rw[zsN]
 unfold u8
 rw[if_pos ⟨om,om⟩]
 exact ⟨_,rfl⟩
theorem u8c {n:Int} (h0:0<=n) (h1:n<256):∃ b,u8 n=some b:=by
 unfold u8
 rw[if_pos ⟨h0,h1⟩]
 exact ⟨_,rfl⟩
theorem Tot.bindx {α β:Type} {x:Option α} {g:Nat->α->Option β} {Q:β->Prop} (h:∃ a,x=some a) (k:∀ a,Tot (fun n=>g n a) Q):Tot (fun n=>x.bind (g n)) Q:=by
 obtain ⟨a,e⟩:=h
 exact af e (k a)
theorem ztT {α:Type} {xs:List α} {i:Int} (h0:0<=i) (h1:i<xs.length):∃ x,idx xs i=some x∧xs[i.toNat]? =some x∧x∈xs:=by
 have hl:i.toNat<xs.length:=by omega
 refine ⟨xs[i.toNat],ztZ h0 h1,List.getElem?_eq_getElem hl,aj hl⟩
theorem zqz {α:Type} (x:α) (l:List α):sub (x::l) 1 ((x::l).length:Int)=some l:=by
 unfold sub
 rw[if_pos ⟨ddc,by simp only[ac];omega,Int.le_refl _⟩,Int.toNat_natCast,List.take_length]
 rfl
theorem zx9 {a:Bool × List Int} (ha:OkI a):Tot (fun k=>zzF k a) (fun r=>r.length<=600):=by
 unfold zzF
 have c:a.2.length<=128:=ha.1.2.2
 refine Tot.bindx (u8w _) fun b=>?_
 refine aa (P:=fun r=>r.length=2) ?_ fun r hr=>?_
 ·refine ag (fun _=>?_) fun _=>ab rfl
  refine af (a:=(0:UInt8)) rfl (af (a:=[(1:UInt8),b]) rfl (ab rfl))
 ·refine aa (RI.Of3_tot ha.1.1 om) fun m ⟨m1,m2,m3⟩=>?_
  have hw:IntKind.i64.wrap (2*(a.2.length:Int))=2*(a.2.length:Int):=i64_small om om
  refine aa (P:=fun r=>r.length<=600) ?_ fun r hr=>ab hr
  refine ai (fun st=>∃ i:Nat,st.2=(i:Int)∧i<=2*a.2.length∧st.1.length=2+2*i) (fun st=>2*a.2.length-st.2.toNat) ⟨0,rfl,om,by simp only[hr]⟩ fun st ⟨i,e,hi,hl⟩=>?_
  obtain ⟨out,j⟩:=st
  simp only at e hl
  subst e
  refine ag (fun hc=>?_) fun hc=>ab (by simp only[hl];omega)
  have hc:(i:Int)<IntKind.i64.wrap (2*(a.2.length:Int)):=odt hc
  rw[hw]at hc
  refine aa (P:=fun _=>True) ?_ fun x _=>?_
  ·refine ag (fun hd=>?_) fun hd=>ab trivial
   have hd:(i:Int)<m.length:=odt hd
   exact af (idx_nat om) (ab trivial)
  ·refine Tot.bindx (u8w _) fun b1=>Tot.bindx (u8w _) fun b2=>af (zzt (by simp only[hl,ac,ad];omega)) (ab ?_)
   rw[iw (n:=i+1) om om]
   exact ⟨⟨i+1,rfl,om,by simp only[ae,hl,ac,ad];omega⟩,osm⟩
theorem zuX {k:Int} {s:ByteArray} (h0:0<=k) (h1:k<256) (hs:s.size<=100):Tot (fun n=>zyl n k s) (fun r=>r.length<=600):=by
 unfold zyl
 refine Tot.bindx (u8c h0 h1) fun b=>Tot.bindx (u8w _) fun b1=>Tot.bindx (u8w _) fun b2=>?_
 have hb:(bytesOf s).length<=100:=by rw[<- zzP];exact hs
 exact af (zzt (by simp only[ac,ad];omega)) (ab (by simp only[ae,ac,ad];omega))
theorem zs8 {lo n:Int} {v:Hv} (hv:zxv lo n v):Tot (fun k=>zxw k v) (fun r=>r.length<=1300):=by
 unfold zxw
 unfold zxv at hv
 refine ag (fun hc=>ab (by simp)) fun c0=>?_
 refine ag (fun hc=>Tot.bindx (u8w _) fun b=>ab (by simp)) fun c1=>?_
 have n0:v.1≠0:=by simpa using c0
 have n1:v.1≠1:=by simpa using c1
 refine ag (fun hc=>?_) fun c2=>?_
 ·have hc:v.1=2:=by simpa using hc
  have ha:OkI v.2.1:=by
   rcases hv with h | h | h | h | h | h | h | h
   ·exact absurd h n0
   ·exact absurd h.1 n1
   ·exact h.2
   ·omega
   ·omega
   ·omega
   ·omega
   ·omega
  exact aa (zx9 ha) fun r hr=>af (zzt (by simp only[ac,ad];omega)) (ab (by simp only[ae,ac,ad];omega))
 have n2:v.1≠2:=by simpa using c2
 refine ag (fun hc=>?_) fun c3=>?_
 ·have hc:v.1=3:=by simpa using hc
  have ha:OkI v.2.1∧OkI v.2.2.1:=by
   rcases hv with h | h | h | h | h | h | h | h
   ·exact absurd h n0
   ·exact absurd h.1 n1
   ·exact absurd h.1 n2
   ·exact h.2
   ·omega
   ·omega
   ·omega
   ·omega
  refine aa (P:=fun r=>r.length<=1300) ?_ fun r hr=>ab hr
  refine aa (zx9 ha.1) fun r hr=>af (zzt (by simp only[ac,ad];omega)) ?_
  refine aa (zx9 ha.2) fun s hs=>af (zzt (by simp only[ae,ac,ad];omega)) (ab (by simp only[ae,ac,ad];omega))
 have n3:v.1≠3:=by simpa using c3
 refine ag (fun hc=>?_) fun c4=>?_
 ·have hc:v.1=4:=by simpa using hc
  have ha:v.2.2.2.1.size<=100:=by
   rcases hv with h | h | h | h | h | h | h | h
   ·exact absurd h n0
   ·exact absurd h.1 n1
   ·exact absurd h.1 n2
   ·exact absurd h.1 n3
   ·exact h.2
   ·exact h.2
   ·omega
   ·omega
  exact aa (zuX ddc ddc ha) fun r hr=>ab om
 refine ag (fun hc=>?_) fun c5=>?_
 ·have hc:v.1=5:=by simpa using hc
  have ha:v.2.2.2.1.size<=100:=by
   rcases hv with h | h | h | h | h | h | h | h
   ·exact absurd h n0
   ·exact absurd h.1 n1
   ·exact absurd h.1 n2
   ·exact absurd h.1 n3
   ·exact h.2
   ·exact h.2
   ·omega
   ·omega
  exact aa (zuX ddc ddc ha) fun r hr=>ab om
 refine ag (fun hc=>?_) fun c7=>ab (by simp)
 have hc:v.1=7:=by simpa using hc
 exfalso
 omega
theorem zs7 {lo:Nat} {h:List Ho} {v:Hv} (hh:HpOk lo h) (hv:zxv lo h.length v):Tot (fun k=>zxI k h v) (fun _=>True):=by
 unfold zxI
 refine af (zzt (by simp)) ?_
 refine aa (P:=fun _=>True) ?_ fun r _=>?_
 ·refine ai (fun st=>∃ i:Nat,st.2.2.1=(i:Int)∧i<=1000∧(∀ v∈st.1,zxv lo h.length v)∧st.1.length<=1+2000*i∧st.2.1.length<=2000*i) (fun st=>1000-st.2.2.1.toNat) ⟨0,rfl,om,fun u hu=>by simp at hu;subst hu;exact hv,by simp,by simp⟩ fun st ⟨i,e,hi,ht,hl,ho⟩=>?_
  obtain ⟨d,out,j,f⟩:=st
  simp only at e ht hl ho
  subst e
  refine ag (fun hc=>?_) fun hc=>ab trivial
  have hc:(d.length:Int)>0:=odt hc
  refine aa (P:=fun q=>match q with | .inl q=>i<1000∧(∀ v∈q.1,zxv lo h.length v)∧q.1.length<=1+2000*(i+1)∧q.2.1.length<=2000*(i+1) | .inr q=>∃ z,q= .inr z) ?_ fun q hq=>?_
  ·refine ag (fun _=>aa (Tot.all fun k=>rfl) fun r _=>ab ⟨_,rfl⟩) fun p=>?_
   have l:i<1000:=by
    have:(i:Int)≠1000:=by simpa using p
    omega
   obtain ⟨x,rest,rfl⟩:∃ x rest,d=x::rest:=by
    cases d with
    | nil=>simp at hc
    | cons x rest=>exact ⟨x,rest,rfl⟩
   have hx:zxv lo h.length x:=ht x (List.mem_cons_self ..)
   have c:∀ v∈rest,zxv lo h.length v:=fun v hv=>ht v (List.mem_cons_of_mem _ hv)
   refine af (a:=x) rfl (af (zqz x rest) ?_)
   simp only[ac]at hl
   refine ag (fun _=>aa (Tot.all fun k=>rfl) fun r _=>ab ⟨_,rfl⟩) fun _=>?_
   refine ag (fun h6=>?_) fun h6=>?_
   ·refine aa (zs8 hx) fun r hr=>af (zzt om) (ab ⟨l,c,by show rest.length<=_;omega,by show (out++r).length<=_;simp only[ae];omega⟩)
   ·have h6:x.1=6:=by simpa using h6
    have hr:(lo:Int)<=x.2.2.2.2∧x.2.2.2.2<h.length:=by
     unfold zxv at hx
     rcases hx with h | h | h | h | h | h | h | h<;>first | exact h.2 | omega
    obtain ⟨o,e1,e2,_⟩:=ztT (xs:=h) (i:=x.2.2.2.2) om hr.2
    refine af e1 ?_
    have m:=hh.2.2 _ o om e2
    refine aa (P:=fun _=>True) ?_ fun b _=>?_
    ·refine ag (fun _=>ab trivial) fun _=>ag (fun _=>ab trivial) fun _=>ag (fun _=>ab trivial) fun _=>ab trivial
    ·refine ag (fun _=>aa (Tot.all fun k=>rfl) fun r _=>ab ⟨_,rfl⟩) fun _=>?_
     refine aa (P:=fun q=>(∀ v∈q.1,zxv lo h.length v)∧q.1.length<=1+2000*(i+1)∧q.2.length<=2000*(i+1)) ?_ fun q ⟨q1,q2,q3⟩=>ab ⟨l,q1,q2,q3⟩
     refine ag (fun h1=>?_) fun h1=>?_
     ·have h1:o.1=1:=by simpa using h1
      have g:zxl lo h.length o.2.2.2.2.2.2.1:=by
       unfold zsS at m
       rcases m with h | h | h | h
       ·exact h.2
       ·omega
       ·omega
       ·omega
      have hil:=g.2
      refine Tot.bindx (u8w _) fun b1=>Tot.bindx (u8w _) fun b2=>af (zzt (by simp only[ac,ad];omega)) ?_
      refine af (zzt (by simp only[ad];omega)) (af (zzt (by simp only[ae,ad];omega)) (ab ⟨fun v hv=>?_,?_,?_⟩))
      ·simp only[List.nil_append,al]at hv
       exact hv.elim (g.1 v) (c v)
      ·simp only[List.nil_append,ae];omega
      ·simp only[ae,ac,ad];omega
     ·refine Tot.bindx (u8w _) fun b1=>Tot.bindx (u8w _) fun b2=>Tot.bindx (u8w _) fun b3=>Tot.bindx (u8w _) fun b4=>af (zzt (by simp only[ac,ad];omega)) (ab ⟨c,osm,by simp only[ae,ac,ad];omega⟩)
  ·cases q with
   | inl q=>
     obtain ⟨q0,q1,q2,q3⟩:=hq
     refine Tot.contl (ab ?_)
     dsimp only
     rw[iw (n:=i+1) om om]
     exact ⟨⟨i+1,rfl,om,q1,q2,q3⟩,om⟩
   | inr q=>obtain ⟨z,rfl⟩:=hq;exact Tot.contr trivial
 ·cases r with
  | inl r=>exact Tot.contl (ab trivial)
  | inr r=>exact Tot.contr trivial
theorem zuB {lo:Nat} {h:List Ho} {v:Hv} {keys:List Hv} (hh:HpOk lo h) (hv:zxv lo h.length v) (hk:zxl lo h.length keys):Tot (fun k=>zye k h keys v) (fun _=>True):=by
 unfold zye
 refine aa (zs7 hh hv) fun r _=>?_
 refine ag (fun _=>ab trivial) fun _=>?_
 refine aa (P:=fun _=>True) ?_ fun q _=>?_
 ·refine ai (fun st=>∃ i:Nat,st.1=(i:Int)∧i<=keys.length) (fun st=>keys.length-st.1.toNat) ⟨0,rfl,om⟩ fun st ⟨i,e,hi⟩=>?_
  obtain ⟨j,f⟩:=st
  simp only at e
  subst e
  refine ag (fun hc=>?_) fun hc=>ab trivial
  have hc:(i:Int)<keys.length:=odt hc
  have a:=hk.2
  refine af (idx_nat om) (aa (zs7 hh (hk.1 _ (aj om))) fun r _=>?_)
  refine ag (fun _=>ab trivial) fun _=>ab ?_
  rw[iw (n:=i+1) om om]
  exact ⟨⟨i+1,rfl,om⟩,osm⟩
 ·cases q with
  | inl q=>exact Tot.contl (ab trivial)
  | inr q=>exact Tot.contr trivial
theorem zvQ {l:List Int} {p:Int} {lo:Nat} {h:List Ho} {large:Bool} (hs:SOk l p) (hh:HpOk lo h):Tot (fun k=>zzX k (l,p) h lo large) (fun r=>zxl lo h.length r.1∧r.1.length<=1010∧SOk l r.2.2):=by
 unfold zzX
 obtain ⟨g1,g2,g3⟩:=hh
 refine aa (P:=fun j=>zxl lo h.length j.1∧j.1.length<=1000∧SOk l j.2.2) ?_ fun j ⟨j1,j2,j3⟩=>?_
 ·refine ai (fun st=>∃ i:Nat,st.2.1=(i:Int)∧i<=1000∧zxl lo h.length st.1∧st.1.length=i∧SOk l st.2.2.2) (fun st=>1000-st.2.1.toNat) ⟨0,rfl,om,zxl.nil,rfl,hs⟩ fun st ⟨i,e,hi,hv,hl,hp⟩=>?_
  obtain ⟨out,k,q⟩:=st
  simp only at e hv hl hp
  subst e
  refine ag (fun hc=>?_) fun hc=>ab ⟨hv,by simp only[hl];omega,hp⟩
  have hc:(i:Int)<1000:=odt ((Bool.and_eq_true _ _).mp hc).2
  refine aa (zzq hp ddc ddc) fun s ⟨s1,s2,s3⟩=>?_
  rw[i64_small (x:=(i:Int)*3) om om,i64_small om om]
  refine aa (zz7 om om) fun v ⟨a,ha,e⟩=>?_
  subst e
  refine af (zzt (by simp only[hl,ac,ad];omega)) (ab ?_)
  dsimp only
  rw[iw (n:=i+1) om om]
  refine ⟨⟨i+1,rfl,om,⟨fun v c=>?_,?_⟩,?_,s3⟩,om⟩
  ·rcases al.1 c with h | h
   ·exact hv.1 v h
   ·rw[List.mem_singleton.1 h];exact zxv.int ha
  ·simp only[ae,hl,ac,ad];omega
  ·simp only[ae,hl,ac,ad]
 ·refine aa (zzq j3 ddc ddc) fun s ⟨s1,s2,s3⟩=>?_
  refine aa (P:=fun j=>zxl lo h.length j.1∧j.1.length<=1010∧SOk l j.2.2) ?_ fun j hj=>ab hj
  refine ai (fun st=>0<=st.2.1∧st.2.1<=5∧zxl lo h.length st.1∧(st.1.length:Int)+st.2.1<=1010∧SOk l st.2.2.2) (fun st=>st.2.1.toNat) ⟨s1,osm,j1,osm,s3⟩ fun st ⟨h0,h5,hv,hl,hp⟩=>?_
  obtain ⟨out,k,q⟩:=st
  simp only at h0 h5 hv hl hp
  refine ag (fun hc=>?_) fun hc=>ab ⟨hv,osm,hp⟩
  have hc:k>0:=odt ((Bool.and_eq_true _ _).mp hc).2
  refine aa (zxh hp om om om) fun v ⟨v1,v2⟩=>?_
  refine aa (zuB ⟨g1,g2,g3⟩ v1 hv) fun r _=>?_
  refine aa (P:=fun _=>True) (ag (fun _=>ab trivial) fun _=>ab trivial) fun b _=>?_
  refine aa (P:=fun m=>zxl lo h.length m∧m.length<=out.length+1) ?_ fun m ⟨m1,m2⟩=>?_
  ·refine ag (fun _=>?_) fun _=>ab ⟨hv,by show out.length<=_;omega⟩
   refine af (zzt (by simp only[ac,ad];omega)) (ab ⟨⟨fun u hu=>?_,?_⟩,?_⟩)
   ·rcases al.1 hu with h | h
    ·exact hv.1 u h
    ·rw[List.mem_singleton.1 h];exact v1
   ·simp only[ae,ac,ad];omega
   ·simp only[ae,ac,ad];omega
  ·refine ab ?_
   rw[i64_small om om]
   exact ⟨⟨osm,osm,m1,osm,v2⟩,osm⟩
open Go.Gv.RI (val Dg Nz OkL OkI vb Db Ok3 zzr val_bound h16 iv3)
set_option maxRecDepth 100000
noncomputable def cls:List Ho:=(zzE 100).getD []
theorem zq6 (k:Nat):zzE (k+100)=some cls:=by kernel_rfl
theorem zxU:cls.length=49:=by kernel_rfl
def zrl:Ho:=(9,strOf [84,104,105,110,103],0,[0],[49,0],[],[],[],0,0)
noncomputable def base:List Ho:=cls++[zrl]
theorem zxL:base.length=50:=by unfold base;rw[ae,zxU];rfl
def zxi (b:Nat) (h:List Ho):Prop:=HpOk 50 h∧h.take 50=base∧∀ (i:Nat) (o:Ho),50<=i->h[i]? =some o->o.2.2.2.2.2.2.1.length<=b
theorem zxi.base:zxi 1010 base:=by
 refine ⟨⟨by rw[zxL];exact Nat.le_refl _,by rw[zxL];decide,fun i o hi ho=>?_⟩,by rw[<- zxL,List.take_length],fun i o hi ho=>?_⟩<;>
 ·have:=(List.getElem?_eq_some_iff.1 ho).1
  rw[zxL]at this
  omega
theorem zxi.more {b b':Nat} {h:List Ho} (w:zxi b h) (hb:b<=b'):zxi b' h:=⟨w.1,w.2.1,fun i o hi ho=>Nat.le_trans (w.2.2 i o hi ho) hb⟩
theorem zxi.snoc {b:Nat} {h:List Ho} {o:Ho} (w:zxi b h) (ho:zsS 50 (h.length+1:Nat) o) (hb:o.2.2.2.2.2.2.1.length<=b) (hl:h.length<1000):zxi b (h++[o]):=by
 obtain ⟨⟨w1,w2,w3⟩,w4,w5⟩:=w
 have a:(h++[o]).length=h.length+1:=by simp
 have key:∀ (i:Nat) (x:Ho),(h++[o])[i]? =some x->h[i]? =some x∨x=o:=fun i x hx=>by
  rcases Nat.lt_or_ge i h.length with hi | hi
  ·rw[List.getElem?_append_left hi]at hx;exact .inl hx
  ·rw[List.getElem?_append_right hi]at hx
   right
   cases hq:i-h.length with
   | zero=>rw[hq]at hx;exact (Option.some.inj hx).symm
   | succ q=>rw[hq]at hx;simp at hx
 refine ⟨⟨om,om,fun i x hi hx=>?_⟩,?_,fun i x hi hx=>?_⟩
 ·rw[a]
  rcases key i x hx with h' | h'
  ·exact (w3 i x hi h').mono om
  ·subst h';exact ho
 ·rw[List.take_append_of_le_length w1];exact w4
 ·rcases key i x hx with h' | h'
  ·exact w5 i x hi h'
  ·subst h';exact hb
theorem zxi.put {b:Nat} {h:List Ho} {o:Ho} {i:Nat} (w:zxi b h) (hi:50<=i) (ho:zsS 50 h.length o) (hb:o.2.2.2.2.2.2.1.length<=b):zxi b (h.set i o):=by
 obtain ⟨⟨w1,w2,w3⟩,w4,w5⟩:=w
 have key:∀ (j:Nat) (x:Ho),(h.set i o)[j]? =some x->h[j]? =some x∨x=o:=fun j x hx=>by
  rw[List.getElem?_set]at hx
  split at hx
  ·split at hx
   ·exact .inr (Option.some.inj hx).symm
   ·cases hx
  ·exact .inl hx
 refine ⟨⟨by rw[ak];exact w1,by rw[ak];exact w2,fun j x hj hx=>?_⟩,?_,fun j x hj hx=>?_⟩
 ·rw[ak]
  rcases key j x hx with h' | h'
  ·exact w3 j x hj h'
  ·subst h';exact ho
 ·rw[List.take_set,List.set_eq_of_length_le (by rw[List.length_take];omega)];exact w4
 ·rcases key j x hx with h' | h'
  ·exact w5 j x hj h'
  ·subst h';exact hb
theorem zoa {α:Type} {m:List α} {i:Nat} (x:α) (h:i<m.length):upd m (i:Int) x=some (m.set i x):=by
 unfold upd
 rw[if_pos ⟨om,om⟩,Int.toNat_natCast]
theorem zxl.snoc {lo n:Int} {l:List Hv} {v:Hv} (h:zxl lo n l) (hv:zxv lo n v) (hl:l.length<2000):zxl lo n (l++[v]):=by
 refine ⟨fun u hu=>?_,by simp only[ae,ac,ad];omega⟩
 rcases al.1 hu with h' | h'
 ·exact h.1 u h'
 ·rw[List.mem_singleton.1 h'];exact hv
def PreOk (n:Int) (kind cl:Int) (items keys:List Hv):Prop:=
 ((kind=1∨kind=2)∧items=[]∧keys=[])∨(kind=3∧items=[]∧zxl 50 n keys∧keys.length<=1010)∨(kind=4∧items=[]∧zxl 50 n keys)∨(kind=5∧zxl 50 n items∧items.length<=3)∨(kind=10∧cl=49∧items=[])
theorem zsQ {l:List Int} {p:Int} (hs:SOk l p):Tot (fun k=>zzL k (l,p)) (fun r=>zxi 1100 r.1∧r.1.length<=60∧r.2.1=50∧SOk l r.2.2.2):=by
 unfold zzL
 refine aa (Tot.of_all (Q:=(· =cls)) 100 zq6 rfl) fun r hr=>?_
 subst hr
 refine af (a:=base) (by rw[zxU];exact zzt (by rw[zxU];decide)) ?_
 rw[zxL,zxU]
 refine aa (zzq hs ddc ddc) fun s ⟨s1,s2,s3⟩=>?_
 rw[i64_small (x:=s.1+1) om om]
 refine aa (P:=fun j=>zxi 1010 j.2∧j.2.length<=60∧SOk l j.1.2) ?_ fun j ⟨j1,j2,j3⟩=>?_
 ·refine ai (fun st=>0<=st.1∧(st.2.2.length:Int)+st.1<=60∧zxi 1010 st.2.2∧SOk l st.2.1.2) (fun st=>st.1.toNat) ⟨osm,by simp only[zxL];omega,zxi.base,s3⟩ fun st ⟨h0,hl,hw,hp⟩=>?_
  obtain ⟨c,⟨l',p'⟩,h⟩:=st
  simp only at h0 hl hw hp
  refine ag (fun hc=>?_) fun hc=>ab ⟨hw,osm,hp⟩
  have hc:c>0:=odt hc
  have hh:=hw.1
  refine aa (zzq hp ddc ddc) fun r ⟨r1,r2,r3⟩=>?_
  refine aa (P:=fun j=>SOk l j.1.2∧PreOk h.length j.2.1 j.2.2.1 j.2.2.2.1 j.2.2.2.2) ?_ fun j ⟨j1,j2⟩=>?_
  ·refine ag (fun _=>ab ⟨r3,.inl ⟨.inl rfl,rfl,rfl⟩⟩) fun _=>?_
   refine ag (fun _=>ab ⟨r3,.inl ⟨.inr rfl,rfl,rfl⟩⟩) fun _=>?_
   refine ag (fun _=>?_) fun _=>?_
   ·refine aa (zzq r3 ddc ddc) fun u ⟨u1,u2,u3⟩=>?_
    exact aa (zvQ (lo:=50) u3 hh) fun y ⟨y1,y2,y3⟩=>ab ⟨y3,.inr (.inl ⟨rfl,rfl,y1,y2⟩)⟩
   refine ag (fun _=>?_) fun _=>?_
   ·refine aa (zzq r3 ddc ddc) fun u ⟨u1,u2,u3⟩=>?_
    exact aa (zvQ (lo:=50) u3 hh) fun y ⟨y1,y2,y3⟩=>ab ⟨y3,.inr (.inr (.inl ⟨rfl,rfl,y1⟩))⟩
   refine ag (fun _=>?_) fun _=>ab ⟨r3,.inr (.inr (.inr (.inr ⟨rfl,rfl,rfl⟩)))⟩
   refine aa (zzq r3 ddc ddc) fun u ⟨u1,u2,u3⟩=>?_
   rw[i64_small (x:=u.1-4) om om]
   refine aa (zz7 om om) fun v ⟨a,ha,e⟩=>?_
   refine aa (zzq u3 ddc ddc) fun u' ⟨u1',u2',aq⟩=>?_
   rw[i64_small (x:=u'.1-4) om om]
   refine aa (zz7 om om) fun v' ⟨a',ha',e'⟩=>?_
   refine aa (zzq aq ddc ddc) fun t ⟨av,au,z⟩=>?_
   rw[i64_small (x:=2*t.1) om om,i64_small (x:=2*t.1-1) om om]
   refine aa (zz7 om om) fun v'' ⟨a'',aw,ap⟩=>?_
   subst e;subst e';subst ap
   refine ab ⟨z,.inr (.inr (.inr (.inl ⟨rfl,⟨fun x hx=>?_,by simp⟩,by simp⟩)))⟩
   simp only[List.mem_cons,List.not_mem_nil,or_false]at hx
   rcases hx with h | h | h<;>subst h<;>exact zxv.int ‹_›
  ·obtain ⟨⟨l2,p2⟩,d,cl,f,keys⟩:=j
   simp only at j1 j2
   refine aa (P:=(· =(d==1||d==2))) ?_ fun b hb=>?_
   ·refine ag (fun h1=>?_) fun h1=>?_<;>simp only at h1<;>exact ab (by rw[h1];rfl)
   ·subst hb
    refine aa (P:=fun j=>SOk l j.1.2∧j.2.length<=1010∧zsS 50 h.length (d,strOf [],cl,[],[],[],j.2,keys,0,0)) ?_ fun q ⟨q1,q2,q3⟩=>?_
    ·refine ag (fun h1=>?_) fun h1=>?_
     ·have h1:d=1∨d=2:=by simpa using h1
      have hk:f=[]∧keys=[]:=by
       rcases j2 with h | h | h | h | h
       ·exact h.2
       ·omega
       ·omega
       ·omega
       ·omega
      obtain ⟨rfl,rfl⟩:=hk
      refine aa (zzq j1 ddc ddc) fun u ⟨u1,u2,u3⟩=>?_
      refine aa (P:=fun q=>SOk l q.1.2∧q.2.length<=10∧zxl 50 h.length q.2) ?_ fun q ⟨q1,q2,q3⟩=>ab ⟨q1,osm,.inl ⟨h1.elim .inl (fun h=>.inr (.inl h)),q3⟩⟩
      refine ai (fun st=>0<=st.1∧(st.2.2.length:Int)+st.1<=10∧zxl 50 h.length st.2.2∧SOk l st.2.1.2) (fun st=>st.1.toNat) ⟨u1,by simp only[ad];omega,zxl.nil,u3⟩ fun st ⟨g0,gl,gv,gp⟩=>?_
      obtain ⟨c',⟨l3,p3⟩,m⟩:=st
      simp only at g0 gl gv gp
      refine ag (fun hc=>?_) fun hc=>ab ⟨gp,osm,gv⟩
      have hc:c'>0:=odt hc
      refine aa (zxh (lo:=50) gp ddc ddc om) fun v ⟨v1,v2⟩=>?_
      refine af (zzt (by simp only[ac,ad];omega)) (ab ?_)
      dsimp only
      rw[i64_small om om]
      exact ⟨⟨om,by simp only[ae,ac,ad];omega,gv.snoc v1 om,v2⟩,om⟩
     ·refine ag (fun h3=>?_) fun h3=>?_
      ·have ao:d=3:=by simpa using h3
       have hk:f=[]∧zxl 50 h.length keys∧keys.length<=1010:=by
        rcases j2 with h | h | h | h | h
        ·omega
        ·exact h.2
        ·omega
        ·omega
        ·omega
       obtain ⟨rfl,ar,hk2⟩:=hk
       refine aa (P:=fun q=>SOk l q.1.2∧q.2.length=keys.length∧zxl 50 h.length q.2) ?_ fun q ⟨q1,q2,q3⟩=>ab ⟨q1,osm,.inr (.inl ⟨ao,q3,ar,q2⟩)⟩
       refine ai (fun st=>∃ i:Nat,st.1=(i:Int)∧i<=keys.length∧st.2.2.length=i∧zxl 50 h.length st.2.2∧SOk l st.2.1.2) (fun st=>keys.length-st.1.toNat) ⟨0,rfl,om,rfl,zxl.nil,j1⟩ fun st ⟨i,e,gi,gl,gv,gp⟩=>?_
       obtain ⟨c',⟨l3,p3⟩,m⟩:=st
       simp only at e gl gv gp
       subst e
       refine ag (fun hc=>?_) fun hc=>ab ⟨gp,?_,gv⟩
       ·have hc:(i:Int)<keys.length:=odt hc
        refine aa (zxh (lo:=50) gp ddc ddc om) fun v ⟨v1,v2⟩=>?_
        refine af (zzt (by simp only[ac,ad];omega)) (ab ?_)
        dsimp only
        rw[iw (n:=i+1) om om]
        exact ⟨⟨i+1,rfl,om,by simp only[ae,ac,ad];omega,gv.snoc v1 om,v2⟩,om⟩
       ·have hc:¬ (i:Int)<keys.length:=odf hc
        show m.length=keys.length
        omega
      ·have h1:¬ (d=1∨d=2):=by simpa using h1
       have h3:d≠3:=by simpa using h3
       refine ab ⟨j1,?_,?_⟩
       ·show f.length<=1010
        rcases j2 with h | h | h | h | h
        ·exact absurd h.1 h1
        ·exact absurd h.1 h3
        ·rw[h.2.1];simp
        ·omega
        ·rw[h.2.2];simp
       ·rcases j2 with h | h | h | h | h
        ·exact absurd h.1 h1
        ·exact absurd h.1 h3
        ·exact .inr (.inr (.inl ⟨h.1,h.2.2⟩))
        ·exact .inl ⟨.inr (.inr h.1),h.2.1⟩
        ·exact .inr (.inr (.inr ⟨h.1,h.2.1⟩))
    ·refine af (zzt (by simp only[ac,ad];omega)) (ab ?_)
     dsimp only
     rw[i64_small om om]
     exact ⟨⟨om,by simp only[ae,ac,ad];omega,hw.snoc (q3.mono om) q2 om,q1⟩,om⟩
 ·refine aa (P:=fun j=>zxi 1100 j.2∧j.2.length<=60∧SOk l j.1.2) ?_ fun q ⟨q1,q2,q3⟩=>ab ⟨q1,q2,rfl,q3⟩
  obtain ⟨⟨l2,p2⟩,h⟩:=j
  simp only at j1 j2 j3
  refine ai (fun st=>∃ i:Nat,st.1=(i:Int)∧50<=i∧i<=st.2.2.length∧st.2.2.length<=60∧zxi (960+i) st.2.2∧SOk l st.2.1.2) (fun st=>st.2.2.length-st.1.toNat) ⟨50,rfl,om,j1.1.1,j2,j1,j3⟩ fun st ⟨i,e,o,hi,hl,hw,hp⟩=>?_
  obtain ⟨c',⟨l3,p3⟩,m⟩:=st
  simp only at e hi hl hw hp
  subst e
  refine ag (fun hc=>?_) fun hc=>ab ⟨hw.more om,hl,hp⟩
  have hc:(i:Int)<m.length:=odt hc
  have g:i<m.length:=by omega
  refine af (idx_nat g) (af (a:=()) (by unfold geq;rw[if_pos om]) ?_)
  have ho:=hw.1.2.2 i _ o (List.getElem?_eq_getElem g)
  have hb:=hw.2.2 i _ o (List.getElem?_eq_getElem g)
  refine aa (P:=fun q=>(q.1=true->(m[i]).1=2)∧SOk l q.2.2) ?_ fun q ⟨q1,q2⟩=>?_
  ·refine ag (fun h2=>?_) fun h2=>ab ⟨fun e=>by simp at e,hp⟩
   have h2:(m[i]).1=2:=by simpa using h2
   exact aa (zzq hp ddc ddc) fun u ⟨u1,u2,u3⟩=>ab ⟨fun _=>h2,u3⟩
  ·refine aa (P:=fun q=>zxi (960+(i+1)) q.2∧q.2.length=m.length∧SOk l q.1.2) ?_ fun q ⟨y1,y2,y3⟩=>?_
   ·refine ag (fun h1=>?_) fun h1=>ab ⟨hw.more om,rfl,q2⟩
    have h2:=q1 h1
    have an:zxl 50 m.length (m[i]).2.2.2.2.2.2.1:=by
     rcases ho with h | h | h | h
     ·exact h.2
     ·omega
     ·omega
     ·omega
    refine aa (zxh (lo:=50) q2 ddc ddc om) fun v ⟨v1,v2⟩=>?_
    refine af (zzt (by simp only[ac,ad];omega)) (af (idx_nat g) ?_)
    refine af (zoa _ g) (ab ?_)
    refine ⟨zxi.put (hw.more om) o (.inl ⟨.inr (.inl h2),an.snoc v1 om⟩) ?_,ak ..,v2⟩
    show (m[i].2.2.2.2.2.2.1++[v.1]).length<=_
    simp only[ae,ac,ad]
    omega
   ·refine ab ?_
    dsimp only
    rw[iw (n:=i+1) om om]
    exact ⟨⟨i+1,rfl,om,om,om,y1,y3⟩,om⟩
open Go.Gv.RI (val Dg Nz OkL OkI vb Db Ok3 zzr val_bound h16 iv3 IsB)
set_option maxRecDepth 100000
def num (a:Bool × List Int):List UInt8:=tx a.1 10 (val a.2)
theorem zrt {a:Bool × List Int} (ha:OkI a):Tot (fun n=>zyc n a 10) (fun r=>r=(strOf (num a),(0,0))∧(num a).length<=30000):=by
 have hB:IsB 10:=.inr (.inr (.inl rfl))
 unfold zyc
 refine aa (RI.icheck (l:=[(a.1,a.2)]) (fun x hx=>by rw[List.mem_singleton.1 hx];exact ha) (by simp)) fun r hr=>?_
 subst hr
 refine ah rfl (aa (zp6 (zpt ha.1) hB) fun r hr=>?_)
 subst hr
 have hv:=(RI.val_bound ha.1.1).1
 have hl:=dlen (zpt ha.1) hB
 have d:=(zt5 hB.one hv).1
 unfold num tx wn
 generalize b:dl 10 (val a.2)=l at*
 refine ah rfl (aa (P:=(· =if a.1 then [45] else [])) ?_ fun j hj=>?_)
 ·cases c:a.1 with
  | true=>exact am rfl (af (zzt (by simp)) (ab rfl))
  | false=>exact ah rfl (ab rfl)
 have hjl:j.length<=1:=by subst hj;split<;>simp
 have hd:Db 10 l.reverse:=fun x hx=>d x (List.mem_reverse.1 hx)
 refine aa (P:=(· =j++l.reverse.map dch)) ?_ fun o ho=>?_
 ·refine ai (fun st=>∃ i:Nat,st.2=(i:Int)∧i<=l.reverse.length∧st.1=j++(l.reverse.take i).map dch) (fun st=>l.reverse.length-st.2.toNat) ⟨0,rfl,om,by simp⟩ fun st ⟨i,e,hi,e2⟩=>?_
  obtain ⟨out,k⟩:=st
  simp only at e e2
  subst e;subst e2
  refine ag (fun h=>?_) (fun h=>?_)
  ·have h:i<l.reverse.length:=by have:(i:Int)<(l.reverse.length:Int):=odt h;omega
   refine af (RI.idx_nat h) (af (ztK hB (hd _ (aj h))) (af (zyj _) (af (zzt (by simp at h ⊢;omega)) (ab ?_))))
   rw[iw (n:=i+1) om (by simp at h;omega)]
   refine ⟨⟨i+1,rfl,om,?_⟩,osm⟩
   rw[List.take_succ_eq_append_getElem h,List.map_append,List.append_assoc]
   rfl
  ·have h:i=l.reverse.length:=by have:¬ (i:Int)<(l.reverse.length:Int):=odf h;omega
   subst h
   exact ab (by rw[List.take_length])
 ·subst ho
  by_cases h0:l=[]
  ·have hz:=(zvE hB.one hv).1 (b.trans h0)
   have f:a.2=[]:=RI.val_zero ha.1.1 ha.1.2.1 hz
   have c:=ha.2 f
   rw[if_pos hz]
   subst h0
   rw[c]at hj
   subst hj
   refine aa (P:=(· =[48])) (am rfl (af (zzt (by simp)) (ab rfl))) fun o ho=>?_
   subst ho
   exact ab ⟨rfl,ddc⟩
  ·have hz:¬ val a.2=0:=fun e=>h0 (b.symm.trans ((zvE hB.one hv).2 e))
   rw[if_neg hz,if_neg hz]
   have h4:0<l.length:=List.length_pos_iff.2 h0
   refine aa (P:=(· =j++l.reverse.map dch)) (ah (beq_eq_false_iff_ne.2 (by simp;exact h0)) (ab rfl)) fun o ho=>?_
   subst ho
   rw[<- hj]
   exact ab ⟨rfl,by simp only[ae,List.length_map,List.length_reverse];omega⟩
theorem zyQ {a:Bool × List Int} (ha:OkI a):Tot (fun n=>zzR n a) (fun r=>r=strOf (num a)∧(num a).length<=30000):=by
 unfold zzR
 refine aa (zrt ha) fun r ⟨h1,h2⟩=>?_
 subst h1
 exact ab ⟨rfl,h2⟩
theorem zxe {a:Bool × List Int} (ha:OkI a):Tot (fun n=>zzM n a) (· =strOf (num a)):=by
 unfold zzM
 refine aa (RI.IntOf_tot ha) fun r ⟨h1,h2,h3,h4⟩=>?_
 refine aa (zt6 h2 om (.inr (.inr (.inl rfl)))) fun t ht=>?_
 subst ht
 have e:vb 65536 r.2=val a.2:=h3
 exact ab (by unfold num;rw[h1,e])
theorem zwe {pre:List UInt8} {s:ByteArray} {wide:Bool} (hs:s.size<=100) (hp:pre.length<=1):(lit pre (bytesOf s) wide).length<=1000:=by
 have:=zwV (mk (bytesOf s)) wide (bytesOf s)
 rw[zzP]at hs
 unfold lit
 simp only[ae,ac,ad]
 omega
theorem lit_b (l:List UInt8) (wide:Bool):lit [98] l wide=[98]++lit [] l wide:=by unfold lit;simp
def atx (v:Hv):List UInt8:=
 if v.1=0 then [110,105,108] else if v.1=1 then (if v.2.2.2.2=1 then [116,114,117,101] else [102,97,108,115,101]) else if v.1=2 then num v.2.1 else
 if v.1=3 then num v.2.1++[47]++num v.2.2.1 else if v.1=4 then lit [] (bytesOf v.2.2.2.1) true else if v.1=5 then lit [98] (bytesOf v.2.2.2.1) false else [112,97,115,115,95]
theorem zxv.cases {lo n:Int} {v:Hv} {p:Prop} (h:zxv lo n v) (h0:v.1=0->p) (h1:v.1=1->v.2.2.2.2=0∨v.2.2.2.2=1->p) (h2:v.1=2->OkI v.2.1->p) (h3:v.1=3->OkI v.2.1->OkI v.2.2.1->p)
 (h4:v.1=4->v.2.2.2.1.size<=100->p) (h5:v.1=5->v.2.2.2.1.size<=100->p) (h8:v.1=8->p) (h6:v.1=6->lo<=v.2.2.2.2->v.2.2.2.2<n->p):p:=by
 rcases h with h | h | h | h | h | h | h | h
 ·exact h0 h
 ·exact h1 h.1 h.2
 ·exact h2 h.1 h.2
 ·exact h3 h.1 h.2.1 h.2.2
 ·exact h4 h.1 h.2
 ·exact h5 h.1 h.2
 ·exact h8 h
 ·exact h6 h.1 h.2.1 h.2.2
theorem kf {x n:Int} (h:x≠n):(x==n)=false:=beq_eq_false_iff_ne.2 h
theorem kt {x n:Int} (h:x=n):(x==n)=true:=beq_iff_eq.2 h
theorem zrW {lo n:Int} {v:Hv} (hv:zxv lo n v) (h6:v.1≠6):Tot (fun k=>zyd k v) (fun r=>r=strOf (atx v)∧(atx v).length<=100000):=by
 unfold zyd
 refine hv.cases (fun h=>?_) (fun h hb=>?_) (fun h ha=>?_) (fun h ha hb=>?_) (fun h hs=>?_) (fun h hs=>?_) (fun h=>?_) (fun h=>absurd h h6)
 ·rw[show atx v=[110,105,108] by unfold atx;simp[h]]
  exact am (kt h) (ab ⟨rfl,ddc⟩)
 ·rw[show atx v=if v.2.2.2.2=1 then [116,114,117,101] else [102,97,108,115,101] by unfold atx;simp[h]]
  have h0:v.1≠0:=by omega
  refine ah (kf h0) (am (kt h) ?_)
  by_cases hr:v.2.2.2.2=1
  ·rw[if_pos hr];exact am (kt hr) (ab ⟨rfl,ddc⟩)
  ·rw[if_neg hr];exact ah (kf hr) (ab ⟨rfl,ddc⟩)
 ·rw[show atx v=num v.2.1 by unfold atx;simp[h]]
  have h0:v.1≠0:=by omega
  have h1:v.1≠1:=by omega
  exact ah (kf h0) (ah (kf h1) (am (kt h) (aa (zyQ (a:=v.2.1) ha) fun r ⟨r1,r2⟩=>ab ⟨r1,om⟩)))
 ·rw[show atx v=num v.2.1++[47]++num v.2.2.1 by unfold atx;simp[h]]
  have h0:v.1≠0:=by omega
  have h1:v.1≠1:=by omega
  have h2:v.1≠2:=by omega
  refine ah (kf h0) (ah (kf h1) (ah (kf h2) (am (kt h) (aa (zyQ (a:=v.2.1) ha) fun r ⟨r1,r2⟩=>?_))))
  subst r1
  refine af (zyi (by simp only[ac,ad];omega)) (aa (zyQ (a:=v.2.2.1) hb) fun s ⟨s1,s2⟩=>?_)
  subst s1
  exact af (zyi (by simp only[ae,ac,ad];omega)) (ab ⟨rfl,by simp only[ae,ac,ad];omega⟩)
 ·rw[show atx v=lit [] (bytesOf v.2.2.2.1) true by unfold atx;simp[h]]
  have hl:(bytesOf v.2.2.2.1).length<=100:=by rw[<- zzP];exact hs
  have h0:v.1≠0:=by omega
  have h1:v.1≠1:=by omega
  have h2:v.1≠2:=by omega
  have h3:v.1≠3:=by omega
  refine ah (kf h0) (ah (kf h1) (ah (kf h2) (ah (kf h3) (am (kt h) ?_))))
  have e:=zvk (l:=bytesOf v.2.2.2.1) (pre:=[]) true om (by simp)
  rw[zya]at e
  have:=zwe (pre:=[]) (wide:=true) hs (by simp)
  exact aa e fun r hr=>ab ⟨hr,om⟩
 ·rw[show atx v=lit [98] (bytesOf v.2.2.2.1) false by unfold atx;simp[h]]
  have hl:(bytesOf v.2.2.2.1).length<=100:=by rw[<- zzP];exact hs
  have h0:v.1≠0:=by omega
  have h1:v.1≠1:=by omega
  have h2:v.1≠2:=by omega
  have h3:v.1≠3:=by omega
  have h4:v.1≠4:=by omega
  refine ah (kf h0) (ah (kf h1) (ah (kf h2) (ah (kf h3) (ah (kf h4) (am (kt h) ?_)))))
  have e:=zvk (l:=bytesOf v.2.2.2.1) (pre:=[98]) false om (by simp)
  rw[zya]at e
  have:=zwe (pre:=[98]) (wide:=false) hs (by simp)
  exact aa e fun r hr=>ab ⟨hr,om⟩
 ·rw[show atx v=[112,97,115,115,95] by unfold atx;simp[h]]
  have h0:v.1≠0:=by omega
  have h1:v.1≠1:=by omega
  have h2:v.1≠2:=by omega
  have h3:v.1≠3:=by omega
  have h4:v.1≠4:=by omega
  have h5:v.1≠5:=by omega
  exact ah (kf h0) (ah (kf h1) (ah (kf h2) (ah (kf h3) (ah (kf h4) (ah (kf h5) (am (kt h) (ab ⟨rfl,ddc⟩)))))))
end Go.Gv.P
