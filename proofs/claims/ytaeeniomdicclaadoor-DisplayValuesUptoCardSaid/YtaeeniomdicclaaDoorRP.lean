import Derived.Test.YtaeeniomdicclaaDoorGt
import Derived.Test.YtaeeniomdicclaaDoorD
set_option linter.all false
open Go.Gv.Tot renaming ret->aa,bindq->ab,bind0->ad,ite->ag,loop->ap
open Int renaming mul_le_mul_of_nonneg_left->ac,pow_add->af,pow_succ->ah,pow_pos->al,tmod_eq_emod_of_nonneg->aq,tdiv_eq_ediv_of_nonneg->ar,eq_of_mul_eq_mul_left->av,lt_of_lt_of_le->ay,emod_eq_of_lt->az,pow_mul->aE,mul_add->aF
open List renaming dropLast_concat_getLast->ae,mem_cons_of_mem->ai,mem_cons_self->aj,drop_eq_getElem_cons->ak,replicate->am,drop_eq_nil_of_le->ao,length_take->au,replicate_succ->aw,length_cons->aB,length->aD
open Nat renaming min_eq_left->ax
namespace Go.Gv.RI
open Go Go.Gv Go.Gv.D
def zst (x:Int):Int:=
 let y:=IntKind.u64.wrap (zqZ .u64 x (x.fdiv (2^30))*13787848793156543929)
 let z:=IntKind.u64.wrap (zqZ .u64 y (y.fdiv (2^27))*10723151780598845931)
 zqZ .u64 z (z.fdiv (2^31))
def U (x:Int):Prop:=0<=x∧x<18446744073709551616
theorem zoP (x:Int):U (IntKind.u64.wrap x):=by
 rw[zvw];unfold U;omega
theorem U_xor (a b:Int):U (zqZ .u64 a b):=zoP _
def stp (c s:Int):Int:=IntKind.u64.wrap (IntKind.u64.wrap (s*6364136223846793005)+c)
def it (c s:Int):Nat->Int
 | 0=>s
 | k+1=>stp c (it c s k)
theorem zq9 (c s:Int) (n:Nat):∀ m,it c (it c s n) m=it c s (n+m)
 | 0=>rfl
 | m+1=>by show stp c _=stp c _;rw[zq9 c s n m];rfl
theorem zth (c s:Int):∀ m,it c (stp c s) m=it c s (m+1):=fun m=>by
 have:=zq9 c s 1 m
 rw[Nat.add_comm]at this
 exact this
theorem zqj (fuel:Nat) (a:Bool × List Int):zzS fuel a=zzS fuel a:=rfl
def okI (a:Bool × List Int):Bool:=decide (a.2.length<=128)&&(if a.2.length=0 then !a.1 else a.2.getLast? !=some 0)
theorem zqe (fuel:Nat) (a:Bool × List Int):zzS fuel a=some (okI a):=by
 obtain ⟨b,l⟩:=a
 unfold zzS okI
 by_cases h:l.length<=128
 ·have h1:decide ((l.length:Int)<=128)=true:=dtt om
  simp only[h1,h,decide_true,Bool.true_and,if_true]
  have hi:0<l.length->idx l (IntKind.i64.wrap ((l.length:Int)-1))=l.getLast?:=fun hp=>by
   rw[zxG om om,List.getLast?_eq_getElem?]
   unfold idx
   rw[if_pos om,show ((l.length:Int)-1).toNat=l.length-1 by omega]
  by_cases h0:l.length=0
  ·have h2:((l.length:Int)==0)=true:=by rw[h0];rfl
   simp only[h0,if_true]
   cases b<;>rfl
  ·have h2:((l.length:Int)==0)=false:=beq_eq_false_iff_ne.2 om
   have h3:decide ((l.length:Int)>0)=true:=dtt om
   simp only[h2,h3,if_true,hi om,if_neg h0]
   cases hl:l.getLast? with
   | none=>rw[List.getLast?_eq_none_iff]at hl;subst hl;exact absurd rfl h0
   | some x=>simp;rfl
 ·have h1:decide ((l.length:Int)<=128)=false:=dff om
  simp only[h1]
  simp[h]
def aA (n:Nat):Int:=6364136223846793005^n
def aC (c:Int):Nat->Int
 | 0=>0
 | n+1=>6364136223846793005*aC c n+c
theorem ztU (m n:Nat):aA (m+n)=aA m*aA n:=af ..
theorem zsB (c:Int) (m n:Nat):aC c (m+n)=aA m*aC c n+aC c m:=by
 induction m with
 | zero=>simp[aA,aC]
 | succ m ih=>
   rw[show m+1+n=(m+n)+1 by omega]
   show 6364136223846793005*aC c (m+n)+c=aA (m+1)*aC c n+(6364136223846793005*aC c m+c)
   rw[ih,show aA (m+1)=6364136223846793005*aA m by rw[ztU,Int.mul_comm];rfl]
   grind
def zuL (c:Int) (n k:Nat):Prop:=∃ u d:Int,aA n=1+2^(k+2)*u∧aC c n=2^k*(1+2*d)
theorem zuL.one {c:Int} (hc:c%2=1):zuL c 1 0:=⟨1591034055961698251,c/2,ddc,by
 show 6364136223846793005*0+c=2^0*(1+2*(c/2))
 omega⟩
theorem zuL.double {c:Int} {n k:Nat} (h:zuL c n k):zuL c (n+n) (k+1):=by
 obtain ⟨u,d,h1,h2⟩:=h
 refine ⟨u+2^(k+1)*u*u,d+2^k*u+2*d*(2^k*u),?_,?_⟩
 ·rw[ztU,h1,show (2:Int)^(k+1+2)=8*2^k by rw[af];grind,show (2:Int)^(k+2)=4*2^k by rw[af];grind,show (2:Int)^(k+1)=2*2^k by rw[af];grind]
  grind
 ·rw[zsB,h1,h2,show (2:Int)^(k+2)=4*2^k by rw[af];grind,show (2:Int)^(k+1)=2*2^k by rw[af];grind]
  generalize (2:Int)^k=q
  grind
theorem zuL.pow {c:Int} {n k:Nat} (h:zuL c n k):∀ i,zuL c (n*2^i) (k+i)
 | 0=>by simpa using h
 | i+1=>by
   have:=(zuL.pow h i).double
   rwa [show n*2^i+n*2^i=n*2^(i+1) by rw[Nat.pow_succ,<- Nat.mul_assoc];omega]at this
theorem zuL.odd {c:Int} {n k:Nat} (h:zuL c n k):∀ o,zuL c (n*(2*o+1)) k
 | 0=>by simpa using h
 | o+1=>by
   obtain ⟨u,d,h1,h2⟩:=zuL.odd h o
   obtain ⟨v,e,g1,g2⟩:=h
   have hn:n*(2*(o+1)+1)=n+(n+n*(2*o+1)):=by
    rw[show 2*(o+1)+1=1+(1+(2*o+1)) by omega,Nat.mul_add,Nat.mul_add]
    omega
   rw[hn]
   refine ⟨u+v*(2+2^(k+2)*v)*(1+2^(k+2)*u),?_,?_,?_⟩
   rotate_left
   ·rw[ztU,ztU,h1,g1]
    grind
   ·rw[zsB,zsB,h2,g1,g2,show (2:Int)^(k+2)=4*2^k by rw[af];grind]
    have:∀ p:Int,(1+4*p*v)*((1+4*p*v)*(p*(1+2*d))+p*(1+2*e))+p*(1+2*e)=p*(1+2*(d+(2*p*v)*(2+4*p*v)*(1+2*d)+(1+2*p*v)*(1+2*e))):=fun p=>by grind
    exact this _
theorem zuL.of {c:Int} (hc:c%2=1) {v o:Nat}:zuL c (2^v*(2*o+1)) v:=by
 have h:=(zuL.one hc).pow v
 rw[Nat.one_mul,Nat.zero_add]at h
 exact h.odd o
def val:List Int->Int
 | []=>0
 | x::xs=>x+4294967296*val xs
def Dg (l:List Int):Prop:=∀ x∈l,0<=x∧x<4294967296
def Nz (l:List Int):Prop:=l=[]∨l.getLast? ≠some 0
theorem zwN (a b:List Int):val (a++b)=val a+4294967296^a.length*val b:=by
 induction a with
 | nil=>simp[val]
 | cons x a ih=>
   simp only[List.cons_append,val,ih,aB,ah]
   grind
theorem zuO:∀ k,val (am k 0)=0
 | 0=>rfl
 | k+1=>by simp[aw,val,zuO k]
theorem Dg.append {a b:List Int} (ha:Dg a) (hb:Dg b):Dg (a++b):=fun x hx=>(List.mem_append.1 hx).elim (ha x) (hb x)
theorem Dg.left {a b:List Int} (h:Dg (a++b)):Dg a:=fun x hx=>h x (List.mem_append_left _ hx)
theorem Dg.right {a b:List Int} (h:Dg (a++b)):Dg b:=fun x hx=>h x (List.mem_append_right _ hx)
theorem val_bound {l:List Int} (h:Dg l):0<=val l∧val l<4294967296^l.length:=by
 induction l with
 | nil=>simp[val]
 | cons x l ih=>
   have h1:=h x (aj ..)
   have h2:=ih fun y hy=>h y (ai _ hy)
   simp only[val,aB,ah]
   generalize (4294967296:Int)^l.length=p at*
   omega
theorem zy1 {l:List Int} (h:Dg l) (hn:Nz l) (hl:l≠[]):4294967296^(l.length-1)<=val l:=by
 obtain ⟨a,x,rfl⟩:∃ a x,l=a++[x]:=⟨l.dropLast,l.getLast hl,(ae hl).symm⟩
 have hx:x≠0:=fun e=>by
  rcases hn with h | h
  ·exact hl h
  ·subst e;simp at h
 have h1:=h x (by simp)
 have h2:=val_bound h.left
 rw[zwN]
 simp only[List.length_append,List.length_singleton,Nat.add_sub_cancel,val]
 generalize hp:(4294967296:Int)^a.length=p at*
 have hpp:0<p:=by rw[<- hp];exact al ddc
 have:p*1<=p*(x+4294967296*0):=ac om om
 omega
theorem zz9 {a b:Nat} (h:a<=b):(4294967296:Int)^a<=4294967296^b:=by
 obtain ⟨d,rfl⟩:=Nat.exists_eq_add_of_le h
 rw[af]
 have h1:(0:Int)<4294967296^a:=al ddc
 have h2:(0:Int)<4294967296^d:=al ddc
 have:(4294967296:Int)^a*1<=4294967296^a*4294967296^d:=ac om om
 omega
theorem zvN {a b:List Int} (ha:Dg a) (hb:Dg b) (hn:Nz b) (h:a.length<b.length):val a<val b:=by
 have h1:=(val_bound ha).2
 have h2:=zy1 hb hn (fun e=>by subst e;simp at h)
 have h3:=zz9 (show a.length<=b.length-1 by omega)
 omega
theorem zsH:∀ {a b:List Int},Dg a->Dg b->a.length=b.length->val a=val b->a=b
 | [],[],_,_,_,_=>rfl
 | x::a,y::b,ha,hb,hl,hv=>by
   have h1:=ha x (aj ..)
   have h2:=hb y (aj ..)
   simp only[val]at hv
   have e:x=y∧val a=val b:=by omega
   rw[e.1,zsH (fun z hz=>ha z (ai _ hz)) (fun z hz=>hb z (ai _ hz)) (by simpa using hl) e.2]
theorem zqY {a b:List Int} (ha:Dg a) (hb:Dg b) (na:Nz a) (nb:Nz b) (hv:val a=val b):a=b:=by
 rcases Nat.lt_trichotomy a.length b.length with h | h | h
 ·have:=zvN ha hb nb h;omega
 ·exact zsH ha hb h hv
 ·have:=zvN hb ha na h;omega
theorem val_zero {l:List Int} (h:Dg l) (hn:Nz l) (hv:val l=0):l=[]:=zqY h (fun x hx=>by simp at hx) hn (.inl rfl) hv
def ztC (fuel:Nat) (l:List Int):Option (List Int):=zzj (fun (s3:(List Int))=>(Option.bind (if (decide (((aD s3:Nat):Int)>0)) then (Option.bind (idx s3 (IntKind.i64.wrap (((aD s3:Nat):Int)-1))) fun x13=>(some ((x13==0)))) else (some (false))) fun (j10:Bool)=>(if j10 then (Option.bind (sub s3 0 (IntKind.i64.wrap (((aD s3:Nat):Int)-1))) fun x19=>(some (.inl x19))) else (some (.inr (s3)))))) fuel l
def zwu (l r:List Int):Prop:=(∃ k,l=r++am k 0)∧Nz r
theorem ztu {l:List Int} (hl:l.length<4611686018427387904):Tot (fun c=>ztC c l) (zwu l):=by
 unfold ztC
 refine ap (fun st=>∃ k,l=st++am k 0) (fun st=>st.length) ⟨0,by simp⟩ fun st ⟨k,hk⟩=>?_
 have hsl:st.length<=l.length:=by rw[hk];simp
 by_cases h0:st=[]
 ·subst h0
  refine ab (P:=fun j=>j=false) (Tot.if_ rfl (aa rfl)) fun j hj=>?_
  subst hj
  exact Tot.if_ rfl (aa ⟨⟨k,hk⟩,.inl rfl⟩)
 ·have hp:0<st.length:=by
   cases st with
   | nil=>exact absurd rfl h0
   | cons=>simp
  have hw:IntKind.i64.wrap ((st.length:Int)-1)=(st.length:Int)-1:=zxG om om
  rw[hw]
  have hi:=ztZ (xs:=st) (i:=(st.length:Int)-1) om om
  have a:st.getLast? =some (st[((st.length:Int)-1).toNat]'(om)):=by
   rw[List.getLast?_eq_getElem?,<- List.getElem?_eq_getElem]
   congr 1
   omega
  generalize (st[((st.length:Int)-1).toNat]'(om))=x at hi a
  refine ab (P:=fun j=>j=(x==0)) (Tot.it (dtt om) (ad hi (aa rfl))) fun j hj=>?_
  subst hj
  refine ag (fun hx=>?_) (fun hx=>?_)
  ·have hx:x=0:=by simpa using hx
   subst hx
   refine ad (zpz om om om) (aa ⟨⟨k+1,?_⟩,?_⟩)
   ·have e:st=st.dropLast++[0]:=by
     have h1:=ae h0
     have h2:st.getLast h0=0:=by
      have:=List.getLast?_eq_some_getLast h0
      rw[a]at this
      exact (Option.some.inj this).symm
     rw[h2]at h1
     exact h1.symm
    show l=(st.take ((st.length:Int)-1).toNat).drop (0:Int).toNat++_
    rw[show ((st.length:Int)-1).toNat=st.length-1 by omega,show (0:Int).toNat=0 from rfl,List.drop_zero,<- List.dropLast_eq_take,hk]
    conv=>lhs;rw[e]
    rw[List.append_assoc,aw]
    rfl
   ·show ((st.take ((st.length:Int)-1).toNat).drop (0:Int).toNat).length<st.length
    simp
    omega
  ·have hx:x≠0:=by simpa using hx
   refine aa ⟨⟨k,hk⟩,.inr ?_⟩
   rw[a]
   simpa using hx
theorem zwu.val {l r:List Int} (h:zwu l r):val r=val l:=by
 obtain ⟨⟨k,e⟩,_⟩:=h
 rw[e,zwN,zuO]
 omega
theorem zwu.dg {l r:List Int} (h:zwu l r) (hd:Dg l):Dg r:=by
 obtain ⟨⟨k,e⟩,_⟩:=h
 rw[e]at hd
 exact hd.left
theorem zwu.nz {l r:List Int} (h:zwu l r):Nz r:=h.2
theorem zwu.len {l r:List Int} (h:zwu l r):r.length<=l.length:=by
 obtain ⟨⟨k,e⟩,_⟩:=h
 rw[e];simp
theorem zrZ {l:List Int} (hl:l.length<4611686018427387904):Tot (fun a=>zyC a l) (zwu l):=
 ab (ztu hl) fun _ h=>aa h
theorem cut {a:List Int} {i:Nat} (h:i<a.length):a=a.take i++(a[i]::a.drop (i+1)):=by
 rw[<- ak h,List.take_append_drop]
theorem zwd (l:List Int) (x:Int):val (l++[x])=val l+4294967296^l.length*x:=by
 rw[zwN];simp[val]
theorem zuy {a:List Int} {i:Nat} (h:i<a.length):val (a.take (i+1))=val (a.take i)+4294967296^i*a[i]:=by
 rw[List.take_succ_eq_append_getElem h,zwd,au,ax om]
theorem Dg.take {a:List Int} (h:Dg a) (i:Nat):Dg (a.take i):=fun x hx=>h x (List.mem_of_mem_take hx)
theorem Dg.get {a:List Int} (h:Dg a) {i:Nat} (hi:i<a.length):0<=a[i]∧a[i]<4294967296:=h _ (List.getElem_mem hi)
theorem Dg.one {x:Int} (h:0<=x∧x<4294967296):Dg [x]:=fun y hy=>by simp at hy;subst hy;exact h
theorem i64_small {x:Int} (h: -4611686018427387904<=x) (h':x<=4611686018427387904):IntKind.i64.wrap x=x:=zxG om om
theorem zxy {x:Int} (h:0<=x) (h':x<18446744073709551616):IntKind.u64.wrap x=x:=by rw[zvw];omega
theorem u32_small {x:Int} (h:0<=x) (h':x<4294967296):IntKind.u32.wrap x=x:=by rw[zte];omega
theorem idx_nat {α:Type} {xs:List α} {i:Nat} (h:i<xs.length):idx xs (i:Int)=some xs[i]:=ztZ om om
def OkL (l:List Int):Prop:=Dg l∧Nz l∧l.length<=128
def OkI (a:Bool × List Int):Prop:=OkL a.2∧(a.2=[]->a.1=false)
theorem OkL.l6 {l:List Int} (h:OkL l):l.length<=600:=Nat.le_trans h.2.2 ddc
theorem zp3 {a:Bool × List Int} (hd:Dg a.2):okI a=true↔OkI a:=by
 obtain ⟨b,l⟩:=a
 unfold okI OkI OkL Nz
 simp only
 by_cases h:l=[]
 ·subst h;simp[hd]
 ·have:l.length≠0:=by simpa using h
  simp[h,hd]
  exact And.comm
theorem OkI.valid {a:Bool × List Int} (h:OkI a) (fuel:Nat):zzS fuel a=some true:=by
 rw[zqj,zqe,(zp3 h.1.1).2 h]
theorem zoO {l:List Int} (hn:Nz l) (hl:l.length<=600) (fuel:Nat):zyu fuel l=some true:=by
 unfold zyu
 have h1:decide ((l.length:Int)<=600)=true:=dtt om
 simp only[h1,if_true]
 by_cases h0:l=[]
 ·subst h0;rfl
 ·have hp:0<l.length:=by
   cases l with
   | nil=>exact absurd rfl h0
   | cons=>simp
  have h2:((l.length:Int)==0)=false:=beq_eq_false_iff_ne.2 om
  have hw:IntKind.i64.wrap ((l.length:Int)-1)=((l.length-1:Nat):Int):=by rw[i64_small om om];omega
  simp only[h2,Bool.false_eq_true,if_false,hw,idx_nat (show l.length-1<l.length by omega),Option.bind_some]
  have hx:l[l.length-1]'(om)≠0:=fun e=>by
   rcases hn with h | h
   ·exact h0 h
   ·rw[List.getLast?_eq_getElem?,List.getElem?_eq_getElem om,e]at h
    exact h rfl
  simp[hx]
theorem icheck {l:List (Bool × List Int)} (h:∀ a∈l,OkI a) (hl:l.length<=1000):Tot (fun c=>zyw c l) (· =(0,0)):=by
 unfold zyw
 refine ab (P:=fun x=>∃ y,x= .inl y) ?_ fun x ⟨y,hx⟩=>by subst hx;exact Tot.contl (aa rfl)
 refine ap (fun st=>∃ i:Nat,st.1=(i:Int)∧i<=l.length) (fun st=>l.length-st.1.toNat) ⟨0,rfl,om⟩ fun st ⟨i,e,hi⟩=>?_
 rw[e]
 refine ag (fun hh=>?_) (fun hh=>aa ⟨_,rfl⟩)
 have hh:i<l.length:=by have:((i:Nat):Int)<(l.length:Int):=odt hh;omega
 refine ad (idx_nat hh) (ad ((h _ (List.getElem_mem hh)).valid 0) (Tot.if_ rfl (aa ?_)))
 have hw:IntKind.i64.wrap ((i:Int)+1)=((i+1:Nat):Int):=by rw[i64_small om om];omega
 show (∃ j:Nat,IntKind.i64.wrap ((i:Int)+1)=(j:Int)∧j<=l.length)∧l.length-(IntKind.i64.wrap ((i:Int)+1)).toNat<l.length-((i:Nat):Int).toNat
 rw[hw]
 exact ⟨⟨i+1,rfl,om⟩,om⟩
def Len (x:Int) (r:Int):Prop:=0<=r∧x<2^r.toNat∧(0<r->2^(r.toNat-1)<=x)
theorem Len.pos {x r:Int} (h:Len x r) (hx:0<x):0<r:=by
 rcases Int.lt_or_eq_of_le h.1 with h1 | h1
 ·exact h1
 ·have:=h.2.1
  rw[<- h1]at this
  simp at this
  omega
theorem Len.limbs {l:List Int} (h:Dg l) (hl:l≠[]) {r:Int} (hr:Len (l.getLast hl) r) (hp:0<r):Len (val l) (32*((l.length:Int)-1)+r):=by
 have e:=ae hl
 generalize l.getLast hl=x at*
 generalize hd:l.dropLast=a at*
 subst e
 have ha:=val_bound h.left
 rw[zwd]
 have c:(4294967296:Int)^a.length=2^(32*a.length):=by rw[show (4294967296:Int)=2^32 by decide,<- aE]
 obtain ⟨h1,h2,h3⟩:=hr
 have d:((a++[x]).length:Int)-1=a.length:=by simp
 rw[d]
 rw[c]at ha ⊢
 have hP:(0:Int)<2^(32*a.length):=al ddc
 refine ⟨om,?_,fun _=>?_⟩
 ·rw[show (32*(a.length:Int)+r).toNat=32*a.length+r.toNat by omega,af]
  have:(2:Int)^(32*a.length)*(x+1)<=2^(32*a.length)*2^r.toNat:=ac om om
  rw[aF]at this
  omega
 ·rw[show (32*(a.length:Int)+r).toNat-1=32*a.length+(r.toNat-1) by omega,af]
  have:(2:Int)^(32*a.length)*2^(r.toNat-1)<=2^(32*a.length)*x:=ac (h3 hp) om
  omega
def lm (c s:Int) (n:Nat):List Int:=
 if h:n=0 then [] else (if n<32 then zst (stp c s)/4294967296/2^(32-n) else zst (stp c s)/4294967296)::lm c (stp c s) (n-32)
 termination_by n
theorem zuH (c s:Int):lm c s 0=[]:=by rw[lm];rfl
theorem zoG (c s:Int) {n:Nat} (h:n≠0):lm c s n=(if n<32 then zst (stp c s)/4294967296/2^(32-n) else zst (stp c s)/4294967296)::lm c (stp c s) (n-32):=by
 conv=>lhs;rw[lm]
 rw[dif_neg h]
theorem U_mix (x:Int):U (zst x):=U_xor _ _
theorem high (x:Int):0<=zst x/4294967296∧zst x/4294967296<4294967296:=by
 have:=U_mix x
 unfold U at this
 omega
theorem zqL (c:Int):∀ (n:Nat) (s:Int),Dg (lm c s n)∧(lm c s n).length=(n+31)/32∧val (lm c s n)<2^n∧(0<n->zst (it c s ((n+31)/32))<9223372036854775808->val (lm c s n)<2^(n-1)):=by
 intro n
 induction n using Nat.strongRecOn with
 | _ n ih=>
   intro s
   by_cases h0:n=0
   ·subst h0
    rw[zuH]
    exact ⟨fun x hx=>by simp at hx,rfl,ddc,fun h=>absurd h ddc⟩
   ·rw[zoG c s h0]
    have hx:=high (stp c s)
    obtain ⟨i1,i2,i3,i4⟩:=ih (n-32) om (stp c s)
    have hit:∀ k,0<k->it c s k=it c (stp c s) (k-1):=fun k hk=>by rw[zth,Nat.sub_add_cancel hk]
    have hv0:=(val_bound i1).1
    by_cases d:n<32
    ·rw[if_pos d]
     have hz:n-32=0:=by omega
     rw[hz,zuH]
     have hp:(0:Int)<2^(32-n):=al ddc
     have l:(2:Int)^n*2^(32-n)=4294967296:=by rw[<- af,show n+(32-n)=32 by omega];rfl
     have h1:zst (stp c s)/4294967296/2^(32-n)<2^n:=Int.ediv_lt_of_lt_mul hp (by rw[l];exact hx.2)
     have h2:0<=zst (stp c s)/4294967296/2^(32-n):=Int.ediv_nonneg hx.1 (Int.le_of_lt hp)
     have h3:(2:Int)^n<=4294967296:=by
      have:(2:Nat)^n<=2^32:=Nat.pow_le_pow_right ddc om
      have h4:((2^n:Nat):Int)<=((2^32:Nat):Int):=Int.ofNat_le.2 this
      simpa using h4
     refine ⟨Dg.one ⟨h2,ay h1 h3⟩,oss,by simpa [val] using h1,fun o hm=>?_⟩
     have e1:(n+31)/32=1:=by omega
     rw[e1]at hm
     have hm:zst (stp c s)<9223372036854775808:=hm
     have f:(2:Int)^(n-1)*2^(32-n)=2147483648:=by rw[<- af,show n-1+(32-n)=31 by omega];rfl
     have:zst (stp c s)/4294967296/2^(32-n)<2^(n-1):=Int.ediv_lt_of_lt_mul hp (by rw[f];omega)
     simpa [val] using this
    ·rw[if_neg d]
     have j:(2:Int)^n=4294967296*2^(n-32):=by
      rw[show n=32+(n-32) by omega,af,show 32+(n-32)-32=n-32 by omega];rfl
     refine ⟨fun y hy=>(List.mem_cons.1 hy).elim (fun e=>by subst e;exact hx) (i1 y),by simp[i2];omega,?_,fun _ hm=>?_⟩
     ·simp only[val]
      rw[j]
      omega
     ·simp only[val]
      by_cases i:n=32
      ·subst i
       have hm:zst (stp c s)<9223372036854775808:=hm
       rw[show 32-32=0 from rfl,zuH]
       simp only[val]
       have:(2:Int)^(32-1)=2147483648:=by decide
       omega
      ·have e1:(n+31)/32=(n-32+31)/32+1:=by omega
       rw[e1,<- zth]at hm
       have:=i4 om hm
       have g:(2:Int)^(n-1)=4294967296*2^(n-32-1):=by
        rw[show n-1=32+(n-32-1) by omega,af];rfl
       rw[g]
       omega
def try_ (c s:Int) (size L m:Nat):List Int:=lm c (it c s (m*L)) size
def zoN (c s:Int) (v:Int) (x:List Int) (s':Int):Prop:=
 ∃ (size:Nat) (m:Nat),Len (v-1) size∧size<=4096∧s'=it c s ((m+1)*((size+31)/32))∧zwu (try_ c s size ((size+31)/32) m) x∧val x<v∧∀ m',m'<m->v<=val (try_ c s size ((size+31)/32) m')
theorem zoN.ok {c s v:Int} {x:List Int} {s':Int} (h:zoN c s v x s'):OkL x∧0<=val x∧val x<v:=by
 obtain ⟨size,m,h1,h2,h3,h4,h5,h6⟩:=h
 have hf:=zqL c size (it c s (m*((size+31)/32)))
 have hd:=h4.dg hf.1
 have hl:=h4.len
 have e:(try_ c s size ((size+31)/32) m).length=(size+31)/32:=hf.2.1
 exact ⟨⟨hd,h4.nz,om⟩,(val_bound hd).1,h5⟩
theorem zqI {a b:Int} (ha:0<=a∧a<4294967296) (hb:0<=b∧b<4294967296):zpc .u64 a (b*4294967296)=a+b*4294967296:=by
 unfold zpc
 have h1:(BitVec.ofInt 64 a ||| BitVec.ofInt 64 (b*4294967296)).toNat=a.toNat+b.toNat*4294967296:=by
  rw[BitVec.toNat_or]
  have e1:(BitVec.ofInt 64 a).toNat=a.toNat:=by simp only[BitVec.toNat_ofInt];omega
  have e2:(BitVec.ofInt 64 (b*4294967296)).toNat=2^32*b.toNat:=by simp only[BitVec.toNat_ofInt];omega
  rw[e1,e2,Nat.or_comm,<- Nat.two_pow_add_eq_or_of_lt om]
  omega
 show IntKind.u64.wrap ((BitVec.ofInt 64 a ||| BitVec.ofInt 64 (b*4294967296)).toNat:Int)=_
 rw[h1,zvw]
 omega
def vb (b:Int):List Int->Int
 | []=>0
 | x::xs=>x+b*vb b xs
def Db (b:Int) (l:List Int):Prop:=∀ x∈l,0<=x∧x<b
section
variable {b:Int}
theorem zxb (l m:List Int):vb b (l++m)=vb b l+b^l.length*vb b m:=by
 induction l with
 | nil=>simp[vb]
 | cons x l ih=>
   simp only[List.cons_append,vb,ih,aB,ah]
   grind
theorem vb_snoc (l:List Int) (x:Int):vb b (l++[x])=vb b l+b^l.length*x:=by
 rw[zxb];simp[vb]
theorem zvv:∀ k,vb b (am k 0)=0
 | 0=>rfl
 | k+1=>by simp[aw,vb,zvv k]
theorem Db.append {l m:List Int} (ha:Db b l) (hb:Db b m):Db b (l++m):=fun x hx=>(List.mem_append.1 hx).elim (ha x) (hb x)
theorem Db.left {l m:List Int} (h:Db b (l++m)):Db b l:=fun x hx=>h x (List.mem_append_left _ hx)
theorem Db.right {l m:List Int} (h:Db b (l++m)):Db b m:=fun x hx=>h x (List.mem_append_right _ hx)
theorem Db.one {x:Int} (h:0<=x∧x<b):Db b [x]:=fun y hy=>by simp at hy;subst hy;exact h
theorem Db.nil:Db b []:=fun x hx=>by simp at hx
theorem Db.take {l:List Int} (h:Db b l) (i:Nat):Db b (l.take i):=fun x hx=>h x (List.mem_of_mem_take hx)
theorem Db.drop {l:List Int} (h:Db b l) (i:Nat):Db b (l.drop i):=fun x hx=>h x (List.mem_of_mem_drop hx)
theorem Db.get {l:List Int} (h:Db b l) {i:Nat} (hi:i<l.length):0<=l[i]∧l[i]<b:=h _ (List.getElem_mem hi)
theorem vb_take_succ {a:List Int} {i:Nat} (h:i<a.length):vb b (a.take (i+1))=vb b (a.take i)+b^i*a[i]:=by
 rw[List.take_succ_eq_append_getElem h,vb_snoc,au,ax om]
theorem zzp {a:List Int} {i:Nat} (h:a.length<=i):vb b (a.take i)=vb b a:=by
 rw[List.take_of_length_le h]
theorem zq7 {a:List Int} {i:Nat} (h:i<a.length):vb b a=vb b (a.take i)+b^i*(a[i]+b*vb b (a.drop (i+1))):=by
 conv=>lhs;rw[cut h]
 rw[zxb,au,ax om]
 rfl
theorem zzr (hb:1<b) {l:List Int} (h:Db b l):0<=vb b l∧vb b l<b^l.length:=by
 induction l with
 | nil=>simp[vb]
 | cons x l ih=>
   have h1:=h x (aj ..)
   have h2:=ih fun y hy=>h y (ai _ hy)
   simp only[vb,aB,ah]
   have h3:b*(vb b l+1)<=b*b^l.length:=ac om om
   have h4:0<=b*vb b l:=Int.mul_nonneg om h2.1
   rw[aF,Int.mul_comm b (b^l.length)]at h3
   omega
theorem zvu (hb:1<b) (n:Nat):0<b^n:=al om
theorem zyv (hb:1<b) {l:List Int} (h:Db b l) (hn:Nz l) (hl:l≠[]):b^(l.length-1)<=vb b l:=by
 obtain ⟨a,x,rfl⟩:∃ a x,l=a++[x]:=⟨l.dropLast,l.getLast hl,(ae hl).symm⟩
 have hx:x≠0:=fun e=>by
  rcases hn with h | h
  ·exact hl h
  ·subst e;simp at h
 have h1:=h x (by simp)
 have h2:=zzr hb h.left
 rw[vb_snoc]
 simp only[List.length_append,List.length_singleton,Nat.add_sub_cancel]
 have:b^a.length*1<=b^a.length*x:=ac om (by have:=zvu hb a.length;omega)
 omega
theorem zze (hb:1<b) {m n:Nat} (h:m<=n):b^m<=b^n:=by
 obtain ⟨d,rfl⟩:=Nat.exists_eq_add_of_le h
 rw[af]
 have h1:=zvu hb m
 have h2:=zvu hb d
 have:b^m*1<=b^m*b^d:=ac om om
 omega
theorem vb_longer (hb:1<b) {l m:List Int} (hl:Db b l) (hm:Db b m) (hn:Nz m) (h:l.length<m.length):vb b l<vb b m:=by
 have h1:=(zzr hb hl).2
 have h2:=zyv hb hm hn (fun e=>by subst e;simp at h)
 have h3:=zze hb (show l.length<=m.length-1 by omega)
 omega
theorem zpn (hb:1<b):∀ {l m:List Int},Db b l->Db b m->l.length=m.length->vb b l=vb b m->l=m
 | [],[],_,_,_,_=>rfl
 | x::l,y::m,hl,hm,he,hv=>by
   have h1:=hl x (aj ..)
   have h2:=hm y (aj ..)
   simp only[vb]at hv
   have h3:=congrArg (· %b) hv
   simp only[Int.add_mul_emod_self_left]at h3
   rw[az h1.1 h1.2,az h2.1 h2.2]at h3
   subst h3
   have h4:b*vb b l=b*vb b m:=by omega
   have h5:=av om h4
   rw[zpn hb (fun z hz=>hl z (ai _ hz)) (fun z hz=>hm z (ai _ hz)) (by simpa using he) h5]
theorem zpd (hb:1<b) {l m:List Int} (hl:Db b l) (hm:Db b m) (nl:Nz l) (nm:Nz m) (hv:vb b l=vb b m):l=m:=by
 rcases Nat.lt_trichotomy l.length m.length with h | h | h
 ·have:=vb_longer hb hl hm nm h;omega
 ·exact zpn hb hl hm h hv
 ·have:=vb_longer hb hm hl nl h;omega
theorem zoJ (hb:1<b) {l:List Int} (h:Db b l) (hn:Nz l) (hv:vb b l=0):l=[]:=zpd hb h Db.nil hn (.inl rfl) hv
theorem zwu.vb {l r:List Int} (h:zwu l r):vb b r=vb b l:=by
 obtain ⟨⟨k,e⟩,_⟩:=h
 rw[e,zxb,zvv]
 omega
theorem zwu.db {l r:List Int} (h:zwu l r) (hd:Db b l):Db b r:=by
 obtain ⟨⟨k,e⟩,_⟩:=h
 rw[e]at hd
 exact hd.left
end
theorem rtrim_tot {l:List Int} (hl:l.length<4611686018427387904):Tot (fun a=>zyx a l) (zwu l):=
 ab (ztu hl) fun _ h=>aa h
abbrev w (l:List Int):Int:=vb 65536 l
def Ok3 (l:List Int):Prop:=Db 65536 l∧Nz l∧l.length<=100000
theorem h16:(1:Int)<65536:=by decide
theorem Of3_tot {l:List Int} (hd:Dg l) (hl:l.length<=10000):Tot (fun a=>zwP a l) (fun r=>Ok3 r∧w r=val l∧r.length<=2*l.length):=by
 unfold zwP
 refine ab (P:=fun r=>Db 65536 r∧r.length=2*l.length∧w r=val l) ?_ fun r ⟨h1,h2,h3⟩=>?_
 ·refine ap (fun st=>∃ i:Nat,st.2=(i:Int)∧i<=l.length∧Db 65536 st.1∧st.1.length=2*i∧w st.1=val (l.take i)) (fun st=>l.length-st.2.toNat)
   ⟨0,rfl,om,Db.nil,rfl,by simp[w,vb,val]⟩ fun st ⟨i,e,hi,g1,g2,g3⟩=>?_
  obtain ⟨out,z⟩:=st
  simp only at e g1 g2 g3
  subst e
  refine ag (fun h=>?_) (fun h=>?_)
  ·have h:i<l.length:=by have:((i:Nat):Int)<(l.length:Int):=odt h;omega
   have hx:=hd.get h
   have ht:=zuy h
   refine ad (idx_nat h) (ad (idx_nat h) (ad (zzt oss) (aa ?_)))
   have hw:IntKind.i64.wrap ((i:Int)+1)=((i+1:Nat):Int):=by rw[i64_small om om];omega
   have e1:IntKind.i64.wrap (l[i].tmod 65536)=l[i]%65536:=by rw[aq hx.1,i64_small om om]
   have e2:IntKind.i64.wrap (IntKind.u32.wrap (l[i].tdiv 65536))=l[i]/65536:=by rw[ar hx.1,u32_small om om,i64_small om om]
   simp only[hw,e1,e2]
   refine ⟨⟨i+1,rfl,om,g1.append (fun y hy=>?_),by simp[g2];omega,?_⟩,by show l.length-(((i+1:Nat):Int)).toNat<l.length-((i:Nat):Int).toNat;omega⟩
   ·rcases List.mem_cons.1 hy with h | h
    ·subst h;omega
    ·simp at h;subst h;omega
   ·rw[w,zxb,g2,ht,<- g3]
    simp only[vb]
    rw[show (65536:Int)^(2*i)=4294967296^i by rw[aE];rfl]
    have e3:l[i]%65536+65536*(l[i]/65536+65536*0)=l[i]:=by omega
    rw[e3]
  ·have h:i=l.length:=by have:¬ ((i:Nat):Int)<(l.length:Int):=odf h;omega
   subst h
   rw[List.take_length]at g3
   exact aa ⟨g1,g2,g3⟩
 ·refine ab (rtrim_tot om) fun t ht=>aa ⟨⟨ht.db h1,ht.nz,?_⟩,by rw[w,ht.vb];exact h3,?_⟩
  ·have:=ht.len;omega
  ·have:=ht.len;omega
theorem Limbs_tot {a:List Int} (ha:Ok3 a):Tot (fun d=>zzJ d a) (fun r=>Dg r∧Nz r∧val r=w a∧r.length=(a.length+1)/2):=by
 obtain ⟨hd,hn,hl⟩:=ha
 unfold zzJ
 refine ab (P:=fun r=>Dg r∧r.length=(a.length+1)/2∧val r=w a) ?_ fun r ⟨h1,h2,h3⟩=>aa ⟨h1,?_,h3,h2⟩
 ·refine ap (fun st=>∃ i:Nat,st.2=((2*i:Nat):Int)∧2*i<=a.length+1∧Dg st.1∧st.1.length=i∧val st.1=w (a.take (2*i))) (fun st=>a.length+1-st.2.toNat)
   ⟨0,rfl,om,fun x hx=>by simp at hx,rfl,by simp[w,vb,val]⟩ fun st ⟨i,e,hi,g1,g2,g3⟩=>?_
  obtain ⟨out,z⟩:=st
  simp only at e g1 g2 g3
  subst e
  refine ag (fun h=>?_) (fun h=>?_)
  ·have h:2*i<a.length:=by have:((2*i:Nat):Int)<(a.length:Int):=odt h;omega
   have hx:=hd.get h
   have ht:=vb_take_succ (b:=65536) h
   have hw:IntKind.i64.wrap (((2*i:Nat):Int)+1)=((2*i+1:Nat):Int):=by rw[i64_small om om];omega
   have g:IntKind.i64.wrap (((2*i:Nat):Int)+2)=((2*(i+1):Nat):Int):=by rw[i64_small om om];omega
   have ex:IntKind.u32.wrap a[2*i]=a[2*i]:=u32_small hx.1 om
   simp only[hw]
   refine ad (idx_nat h) ?_
   refine ab (P:=fun j=>0<=j∧j<4294967296∧val out+4294967296^i*j=w (a.take (2*(i+1)))) ?_ fun j ⟨k1,k2,k3⟩=>?_
   ·have hp:(65536:Int)^(2*i)=4294967296^i:=by rw[aE];rfl
    have l:(65536:Int)^(2*i+1)=4294967296^i*65536:=by rw[ah,hp]
    refine ag (fun hh=>?_) (fun hh=>?_)
    ·have hh:2*i+1<a.length:=by have:((2*i+1:Nat):Int)<(a.length:Int):=odt hh;omega
     have hy:=hd.get hh
     have m:=vb_take_succ (b:=65536) hh
     refine ad (idx_nat hh) (Tot.some_bind (aa ?_))
     have ey:IntKind.u32.wrap a[2*i+1]=a[2*i+1]:=u32_small hy.1 om
     rw[ex,ey,u32_small (x:=a[2*i+1]*65536) om om,u32_small om om]
     refine ⟨om,om,?_⟩
     rw[show 2*(i+1)=2*i+1+1 by omega,w,m,ht,g3,l,hp]
     show w (a.take (2*i))+_=w (a.take (2*i))+_+_
     grind
    ·have hh:a.length<=2*i+1:=by have:¬ ((2*i+1:Nat):Int)<(a.length:Int):=odf hh;omega
     refine aa ?_
     rw[ex]
     refine ⟨hx.1,om,?_⟩
     have e1:w (a.take (2*(i+1)))=w (a.take (2*i+1)):=by rw[w,zzp om,w,zzp om]
     rw[e1,w,ht,g3,hp]
   ·refine ad (zzt oss) (aa ?_)
    simp only[g]
    refine ⟨⟨i+1,rfl,om,g1.append (Dg.one ⟨k1,k2⟩),by simp[g2],?_⟩,by show a.length+1-(((2*(i+1):Nat):Int)).toNat<a.length+1-((2*i:Nat):Int).toNat;omega⟩
    rw[zwd,g2]
    exact k3
  ·have h:a.length<=2*i:=by have:¬ ((2*i:Nat):Int)<(a.length:Int):=odf h;omega
   refine aa ⟨g1,by show out.length=_;omega,?_⟩
   rw[g3,w,zzp h]
 · -- no leading zero: the value is too great for fewer limbs
   by_cases h0:r=[]
   ·exact .inl h0
   ·refine .inr fun hz=>?_
    have c:0<r.length:=by
     cases r with
     | nil=>exact absurd rfl h0
     | cons=>simp
    have f:a≠[]:=fun e=>by subst e;rw[h2]at c;exact absurd c ddc
    obtain ⟨q,x,rfl⟩:∃ q x,r=q++[x]:=⟨r.dropLast,r.getLast h0,(ae h0).symm⟩
    have k:x=0:=by simpa using hz
    subst k
    rw[zwd,Int.mul_zero,Int.add_zero]at h3
    have b1:=(val_bound h1.left).2
    have b2:=zyv h16 hd hn f
    have hq:q.length+1=(a.length+1)/2:=by simpa using h2
    have b3:(4294967296:Int)^q.length<=65536^(a.length-1):=by
     rw[show (4294967296:Int)=65536^2 by decide,<- aE]
     exact zze h16 om
    have:w a=vb 65536 a:=rfl
    omega
theorem Compare_tot {a b:List Int} (ha:Ok3 a) (hb:Ok3 b):Tot (fun l=>zzC l a b) (fun r=>(r<0↔w a<w b)∧(r=0↔w a=w b)):=by
 obtain ⟨da,na,la⟩:=ha
 obtain ⟨db,nb,lb⟩:=hb
 unfold zzC
 refine ag (fun h=>?_) (fun h=>?_)
 ·have h:a.length≠b.length:=fun e=>by rw[e]at h;simp at h
  refine ag (fun h1=>?_) (fun h1=>?_)
  ·have h1:((a.length:Nat):Int)<b.length:=odt h1
   have:=vb_longer h16 da db nb om
   exact aa ⟨⟨fun _=>this,fun _=>by decide⟩,⟨fun h=>(by cases h),fun h=>by unfold w at h;omega⟩⟩
  ·have h1:¬ ((a.length:Nat):Int)<b.length:=odf h1
   have:=vb_longer h16 db da na om
   exact aa ⟨⟨fun h=>(by cases h),fun h=>by unfold w at h;omega⟩,⟨fun h=>(by cases h),fun h=>by unfold w at h;omega⟩⟩
 ·have hl:a.length=b.length:=by
   have:((a.length:Int)!=(b.length:Int))=false:=h
   simp at this
   omega
  refine Tot.some_bind ?_
  rw[i64_small om om]
  refine ab (P:=fun x=>match x with | .inl ()=>a=b | .inr r=>(r<0↔w a<w b)∧(r=0↔w a=w b)) ?_ fun x hx=>?_
  ·refine ap (fun st:Int=> -1<=st∧st<(a.length:Int)∧a.drop (st+1).toNat=b.drop (st+1).toNat) (fun st:Int=>(st+1).toNat) ⟨om,om,?_⟩ fun st ⟨h0,h1,h2⟩=>?_
   ·rw[show ((a.length:Int)-1+1).toNat=a.length by omega,List.drop_length,ao om]
   ·refine ag (fun h=>?_) (fun h=>?_)
    ·have h3:0<=st:=odt h
     obtain ⟨i,rfl⟩:∃ i:Nat,st=(i:Int):=⟨st.toNat,om⟩
     have g:i<a.length:=by omega
     have f:i<b.length:=by omega
     have k:a.drop (i+1)=b.drop (i+1):=h2
     have ea:idx a (i:Int)=some a[i]:=idx_nat g
     have eb:idx b (i:Int)=some b[i]:=idx_nat f
     have va:=zq7 (b:=65536) g
     have j:=zq7 (b:=65536) f
     rw[k]at va
     have ba:=zzr h16 (da.take i)
     have bb:=zzr h16 (db.take i)
     rw[au,ax om]at ba bb
     have m:(0:Int)<65536^i:=al ddc
     have key:∀ {x y z u v:Int},0<=u->v<65536^i->0<=v->x<y->v+65536^i*(x+z)<u+65536^i*(y+z):=fun {x y z u v} h1 h2 h3 h4=>by
      have:(65536:Int)^i*(x+z+1)<=65536^i*(y+z):=ac om om
      rw[aF _ _ 1]at this
      omega
     refine ad ea (ad eb (ag (fun c=>?_) (fun c=>ad ea (ad eb (ag (fun d=>?_) (fun d=>?_))))))
     ·have c:a[i]<b[i]:=odt c
      refine aa ?_
      have:w a<w b:=by
       rw[w,w,va,j]
       exact key bb.1 ba.2 ba.1 c
      exact ⟨⟨fun _=>this,fun _=>by decide⟩,⟨fun h=>(by cases h),fun _=>by omega⟩⟩
     ·have d:b[i]<a[i]:=odt d
      refine aa ?_
      have:w b<w a:=by
       rw[w,w,va,j]
       exact key ba.1 bb.2 bb.1 d
      exact ⟨⟨fun h=>(by cases h),fun _=>by omega⟩,⟨fun h=>(by cases h),fun _=>by omega⟩⟩
     ·have c:¬ a[i]<b[i]:=odf c
      have d:¬ b[i]<a[i]:=odf d
      have he:a[i]=b[i]:=by omega
      refine aa ?_
      have hw:IntKind.i64.wrap ((i:Int)-1)=(i:Int)-1:=zxG om om
      show (_∧_∧_)∧_
      rw[hw]
      refine ⟨⟨om,om,?_⟩,om⟩
      rw[show ((i:Int)-1+1).toNat=i by omega,ak g,ak f,he,k]
    ·have h3:¬ 0<=st:=odf h
     refine aa ?_
     rw[show (st+1).toNat=0 by omega]at h2
     exact h2
  ·cases x with
   | inl u=>
     have hx:a=b:=hx
     subst hx
     exact Tot.contl (aa ⟨⟨fun h=>(by cases h),fun h=>by omega⟩,⟨fun _=>rfl,fun _=>rfl⟩⟩)
   | inr r=>exact Tot.contr hx
theorem Plus3_tot {a b:List Int} (ha:Ok3 a) (hb:Ok3 b) (la:a.length<=20000) (lb:b.length<=20000):Tot (fun d=>zxZ d a b) (fun r=>Ok3 r∧w r=w a+w b):=by
 obtain ⟨da,na,_⟩:=ha
 obtain ⟨db,nb,_⟩:=hb
 unfold zxZ
 refine ab (P:=fun r=>Db 65536 r∧r.length<=20001∧w r=w a+w b) ?_ fun r ⟨h1,h2,h3⟩=>?_
 ·refine ap (fun st=>∃ i:Nat,st.2.2=(i:Int)∧i<=20001∧Db 65536 st.1∧st.1.length=i∧0<=st.2.1∧st.2.1<=1∧(20000<i->st.2.1=0)∧w st.1+65536^i*st.2.1=w (a.take i)+w (b.take i)) (fun st=>20002-st.2.2.toNat)
   ⟨0,rfl,om,Db.nil,rfl,Int.le_refl 0,(by decide:(0:Int)<=1),fun h=>by omega,by simp[w,vb]⟩ fun st ⟨i,e,hi,g1,g2,g3,g4,g5,g6⟩=>?_
  obtain ⟨out,c,k⟩:=st
  simp only at e g1 g2 g3 g4 g5 g6
  subst e
  refine ag (fun h=>?_) (fun h=>?_)
  ·have hi2:i<=20000:=by
    rw[Bool.or_eq_true,Bool.or_eq_true]at h
    rcases Nat.lt_or_ge 20000 i with h1 | h1
    ·have:=g5 h1
     rcases h with h | h | h<;>have h:=odt h<;>simp only at h<;>omega
    ·exact h1
   refine ab (P:=fun s=>0<=s∧s<=65536∧65536^i*s+w (a.take i)=65536^i*c+w (a.take (i+1))) ?_ fun s ⟨k1,k2,k3⟩=>?_
   ·refine ag (fun hh=>?_) (fun hh=>?_)
    ·have hh:i<a.length:=by have:((i:Nat):Int)<(a.length:Int):=odt hh;omega
     have hx:=da.get hh
     have ht:=vb_take_succ (b:=65536) hh
     refine ad (idx_nat hh) (aa ?_)
     rw[i64_small om om]
     refine ⟨om,om,?_⟩
     show 65536^i*(c+a[i])+vb 65536 (a.take i)=65536^i*c+vb 65536 (a.take (i+1))
     rw[ht,aF]
     omega
    ·have hh:a.length<=i:=by have:¬ ((i:Nat):Int)<(a.length:Int):=odf hh;omega
     refine aa ⟨g3,by show c<=65536;omega,?_⟩
     show _+vb 65536 _=_+vb 65536 _
     rw[zzp hh,zzp (a:=a) (i:=i+1) om]
   ·refine ab (P:=fun t=>0<=t∧t<=131071∧65536^i*t+w (b.take i)=65536^i*s+w (b.take (i+1))) ?_ fun t ⟨m1,m2,m3⟩=>?_
    ·refine ag (fun hh=>?_) (fun hh=>?_)
     ·have hh:i<b.length:=by have:((i:Nat):Int)<(b.length:Int):=odt hh;omega
      have hx:=db.get hh
      have ht:=vb_take_succ (b:=65536) hh
      refine ad (idx_nat hh) (aa ?_)
      rw[i64_small om om]
      refine ⟨om,om,?_⟩
      show _+vb 65536 _=_+vb 65536 _
      rw[ht,aF]
      omega
     ·have hh:b.length<=i:=by have:¬ ((i:Nat):Int)<(b.length:Int):=odf hh;omega
      refine aa ⟨k1,om,?_⟩
      show _+vb 65536 _=_+vb 65536 _
      rw[zzp hh,zzp (a:=b) (i:=i+1) om]
    ·refine ad (zzt oss) (aa ?_)
     have hw:IntKind.i64.wrap ((i:Int)+1)=((i+1:Nat):Int):=by rw[i64_small om om];omega
     have e1:t.tmod 65536=t%65536:=aq m1
     have e2:IntKind.i64.wrap (t.tdiv 65536)=t/65536:=by rw[ar m1,i64_small om om]
     simp only[hw,e1,e2]
     refine ⟨⟨i+1,rfl,om,g1.append (Db.one om),by simp[g2],om,om,fun h=>?_,?_⟩,by show 20002-(((i+1:Nat):Int)).toNat<20002-((i:Nat):Int).toNat;omega⟩
     · -- both numbers are at their end
       have e3:w (a.take i)=w (a.take (i+1)):=by rw[w,w,zzp om,zzp om]
       have e4:w (b.take i)=w (b.take (i+1)):=by rw[w,w,zzp om,zzp om]
       have hp:(65536:Int)^i≠0:=Int.ne_of_gt (al ddc)
       have e5:s=c:=av hp om
       have e6:t=s:=av hp om
       omega
     ·rw[w,vb_snoc,g2,ah]
      have e3:t=t%65536+65536*(t/65536):=by omega
      have e4:vb 65536 out=w out:=rfl
      rw[e4]
      generalize (65536:Int)^i=P at*
      generalize t%65536=u at*
      generalize t/65536=v at*
      subst e3
      grind
  ·rw[Bool.or_eq_false_iff,Bool.or_eq_false_iff]at h
   obtain ⟨h1,h2,h3⟩:=h
   have h1:¬ ((i:Nat):Int)<(a.length:Int):=odf h1
   have h2:¬ ((i:Nat):Int)<(b.length:Int):=odf h2
   have h3:¬ c>0:=odf h3
   refine aa ⟨g1,by show out.length<=_;omega,?_⟩
   have hc:c=0:=by omega
   rw[hc,Int.mul_zero,Int.add_zero]at g6
   show w out=_
   rw[g6,w,w,zzp om,zzp om]
 ·refine ab (rtrim_tot om) fun t ht=>aa ⟨⟨ht.db h1,ht.nz,?_⟩,by rw[w,ht.vb];exact h3⟩
  have:=ht.len;omega
theorem Minus3_tot {a b:List Int} (ha:Ok3 a) (hb:Ok3 b) (hv:w b<=w a):Tot (fun d=>zyn d a b) (fun r=>Ok3 r∧w r=w a-w b):=by
 obtain ⟨da,na,la⟩:=ha
 obtain ⟨db,nb,lb⟩:=hb
 have f:b.length<=a.length:=by
  rcases Nat.lt_or_ge a.length b.length with h | h
  ·have:=vb_longer h16 da db nb h;unfold w at hv;omega
  ·exact h
 unfold zyn
 refine ab (P:=fun r=>Db 65536 r∧r.length=a.length∧w r=w a-w b) ?_ fun r ⟨h1,h2,h3⟩=>?_
 ·refine ap (fun st=>∃ i:Nat,st.2.2=(i:Int)∧i<=a.length∧Db 65536 st.1∧st.1.length=i∧0<=st.2.1∧st.2.1<=1∧w st.1=w (a.take i)-w (b.take i)+65536^i*st.2.1) (fun st=>a.length-st.2.2.toNat)
   ⟨0,rfl,om,Db.nil,rfl,Int.le_refl 0,(by decide:(0:Int)<=1),by simp[w,vb]⟩ fun st ⟨i,e,hi,g1,g2,g3,g4,g5⟩=>?_
  obtain ⟨out,c,k⟩:=st
  simp only at e g1 g2 g3 g4 g5
  subst e
  refine ag (fun h=>?_) (fun h=>?_)
  ·have h:i<a.length:=by have:((i:Nat):Int)<(a.length:Int):=odt h;omega
   have hx:=da.get h
   have ta:=vb_take_succ (b:=65536) h
   refine ad (idx_nat h) ?_
   have g:IntKind.i64.wrap (a[i]-c)=a[i]-c:=i64_small om om
   rw[g]
   refine ab (P:=fun x=> -65536<=x∧x<65536∧w (a.take (i+1))-w (b.take (i+1))=w (a.take i)-w (b.take i)+65536^i*(x+c)) ?_ fun x ⟨k1,k2,k3⟩=>?_
   ·refine ag (fun hh=>?_) (fun hh=>?_)
    ·have hh:i<b.length:=by have:((i:Nat):Int)<(b.length:Int):=odt hh;omega
     have hy:=db.get hh
     have tb:=vb_take_succ (b:=65536) hh
     refine ad (idx_nat hh) (Tot.some_bind (aa ?_))
     rw[i64_small om om]
     refine ⟨om,om,?_⟩
     show vb 65536 _-vb 65536 _=_
     rw[ta,tb]
     show _=vb 65536 _-vb 65536 _+_
     grind
    ·have hh:b.length<=i:=by have:¬ ((i:Nat):Int)<(b.length:Int):=odf hh;omega
     refine aa ⟨om,om,?_⟩
     show vb 65536 _-vb 65536 _=vb 65536 _-vb 65536 _+_
     rw[ta,zzp hh,zzp (a:=b) (i:=i+1) om]
     grind
   ·refine ab (P:=fun j=>0<=j.1∧j.1<=1∧0<=j.2∧j.2<65536∧j.2=x+65536*j.1) ?_ fun j ⟨m1,m2,m3,m4,m5⟩=>?_
    ·refine ag (fun hh=>aa ?_) (fun hh=>aa ?_)
     ·have hh:x<0:=odt hh
      rw[i64_small om om]
      refine ⟨?_,?_,?_,?_,?_⟩<;>simp only<;>omega
     ·have hh:¬ x<0:=odf hh
      refine ⟨?_,?_,?_,?_,?_⟩<;>simp only<;>omega
    ·refine ad (zzt oss) (aa ?_)
     have hw:IntKind.i64.wrap ((i:Int)+1)=((i+1:Nat):Int):=by rw[i64_small om om];omega
     simp only[hw]
     refine ⟨⟨i+1,rfl,om,g1.append (Db.one ⟨m3,m4⟩),by simp[g2],m1,m2,?_⟩,by show a.length-(((i+1:Nat):Int)).toNat<a.length-((i:Nat):Int).toNat;omega⟩
     rw[w,vb_snoc,g2,k3,ah,m5]
     show w out+_=_
     rw[g5]
     generalize (65536:Int)^i=P
     grind
  ·have h:i=a.length:=by have:¬ ((i:Nat):Int)<(a.length:Int):=odf h;omega
   subst h
   refine aa ⟨g1,g2,?_⟩
   show w out=_
   rw[w,w,w,zzp (Nat.le_refl _),zzp f]at g5
   have:=(zzr h16 g1).2
   rw[g2]at this
   unfold w at*
   rcases (by omega:c=0∨c=1) with h0 | h0
   ·rw[h0]at g5;omega
   ·rw[h0]at g5;omega
 ·refine ab (rtrim_tot om) fun t ht=>aa ⟨⟨ht.db h1,ht.nz,?_⟩,by rw[w,ht.vb];exact h3⟩
  have:=ht.len;omega
def b2 (b:Bool):Int:=if b then 1 else 0
def zzo (l:List Bool):Int:=vb 2 (l.map b2)
theorem b2_db (l:List Bool):Db 2 (l.map b2):=fun x hx=>by
 obtain ⟨b,_,rfl⟩:=List.mem_map.1 hx
 cases b<;>simp[b2]
theorem vbits_bound (l:List Bool):0<=zzo l∧zzo l<2^l.length:=by
 have:=zzr ddc (b2_db l)
 simpa [zzo] using this
theorem zxP (l m:List Bool):zzo (l++m)=zzo l+2^l.length*zzo m:=by
 unfold zzo
 rw[List.map_append,zxb,List.length_map]
theorem zwS (l:List Bool) (b:Bool):zzo (l++[b])=zzo l+2^l.length*b2 b:=by
 rw[zxP];simp[zzo,vb]
def zuE (l r:List Bool):Prop:=(∃ k,l=r++am k false)∧(r=[]∨r.getLast? =some true)
theorem zu3 (k:Nat):zzo (am k false)=0:=by
 unfold zzo
 rw[List.map_replicate]
 exact zvv k
theorem zuE.val {l r:List Bool} (h:zuE l r):zzo r=zzo l:=by
 obtain ⟨⟨k,e⟩,_⟩:=h
 rw[e,zxP,zu3]
 omega
theorem zuE.len {l r:List Bool} (h:zuE l r):r.length<=l.length:=by
 obtain ⟨⟨k,e⟩,_⟩:=h
 rw[e];simp
theorem zuE.Len {l r:List Bool} (h:zuE l r):Len (zzo l) r.length:=by
 rw[<- h.val]
 refine ⟨om,by have:=(vbits_bound r).2;simpa using this,fun hp=>?_⟩
 rcases h.2 with h0 | h0
 ·subst h0;simp at hp
 ·have hr:r≠[]:=fun e=>by subst e;simp at h0
  have e:=ae hr
  have e2:r.getLast hr=true:=by
   have:=List.getLast?_eq_some_getLast hr
   rw[h0]at this
   exact (Option.some.inj this).symm
  rw[e2]at e
  have hv:=zwS r.dropLast true
  rw[e]at hv
  rw[hv]
  have:=(vbits_bound r.dropLast).1
  have hl:r.dropLast.length=r.length-1:=List.length_dropLast
  rw[hl]
  simp[b2]
  omega
theorem zsJ {l:List Bool} (hl:l.length<4611686018427387904):Tot (fun d=>zzj (fun (a:(List Bool))=>(Option.bind (if (decide (((aD a:Nat):Int)>0)) then (Option.bind (idx a (IntKind.i64.wrap (((aD a:Nat):Int)-1))) fun f=>(some ((!f)))) else (some (false))) fun (h:Bool)=>(if h then (Option.bind (sub a 0 (IntKind.i64.wrap (((aD a:Nat):Int)-1))) fun g=>(some (.inl g))) else (some (.inr (a)))))) d l) (zuE l):=by
 refine ap (fun st=>∃ k,l=st++am k false) (fun st=>st.length) ⟨0,by simp⟩ fun st ⟨k,hk⟩=>?_
 have hsl:st.length<=l.length:=by rw[hk];simp
 by_cases h0:st=[]
 ·subst h0
  refine ab (P:=fun j=>j=false) (Tot.if_ rfl (aa rfl)) fun j hj=>?_
  subst hj
  exact Tot.if_ rfl (aa ⟨⟨k,hk⟩,.inl rfl⟩)
 ·have hp:0<st.length:=by
   cases st with
   | nil=>exact absurd rfl h0
   | cons=>simp
  have hw:IntKind.i64.wrap ((st.length:Int)-1)=((st.length-1:Nat):Int):=by rw[i64_small om om];omega
  rw[hw]
  have c:st.getLast? =some (st[st.length-1]'(om)):=by
   rw[List.getLast?_eq_getElem?,<- List.getElem?_eq_getElem]
  refine ab (P:=fun j=>j= !(st[st.length-1]'(om))) (Tot.it (dtt om) (ad (idx_nat om) (aa rfl))) fun j hj=>?_
  subst hj
  generalize (st[st.length-1]'(om))=x at c
  refine ag (fun hx=>?_) (fun hx=>?_)
  ·have hx:x=false:=by simpa using hx
   subst hx
   refine ad (zpz om om om) (aa ⟨⟨k+1,?_⟩,?_⟩)
   ·have e:st=st.dropLast++[false]:=by
     have h1:=ae h0
     have h2:st.getLast h0=false:=by
      have:=List.getLast?_eq_some_getLast h0
      rw[c]at this
      exact (Option.some.inj this).symm
     rw[h2]at h1
     exact h1.symm
    show l=(st.take (((st.length-1:Nat):Int)).toNat).drop (0:Int).toNat++_
    rw[show (((st.length-1:Nat):Int)).toNat=st.length-1 by omega,show (0:Int).toNat=0 from rfl,List.drop_zero,<- List.dropLast_eq_take,hk]
    conv=>lhs;rw[e]
    rw[List.append_assoc,aw]
    rfl
   ·show ((st.take (((st.length-1:Nat):Int)).toNat).drop (0:Int).toNat).length<st.length
    simp
    omega
  ·have hx:x=true:=by simpa using hx
   subst hx
   exact aa ⟨⟨k,hk⟩,.inr c⟩
theorem zoA {x:Int} (h:0<=x):b2 (x.tmod 2==1)=x%2:=by
 rw[aq h]
 rcases (by omega:x%2=0∨x%2=1) with e | e<;>rw[e]<;>rfl
theorem zsj {a p:Int} (hp:0<p):a%(p*2)=a%p+p*(a/p%2):=by
 have h1:=Int.emod_add_mul_ediv a p
 have h2:=Int.emod_add_mul_ediv (a/p) 2
 have h3:a=(a%p+p*(a/p%2))+(p*2)*(a/p/2):=by grind
 have h4:=Int.emod_nonneg a (Int.ne_of_gt hp)
 have h5:=Int.emod_lt_of_pos a hp
 conv=>lhs;rw[h3]
 rw[Int.add_mul_emod_self_left]
 rcases (by omega:a/p%2=0∨a/p%2=1) with e | e<;>rw[e]<;>apply az<;>omega
theorem Ones_tot {a:List Int} (ha:Ok3 a):Tot (fun d=>zxV d a) (fun r=>zzo r=w a∧(r=[]∨r.getLast? =some true)∧r.length<=16*a.length):=by
 obtain ⟨da,na,la⟩:=ha
 unfold zxV
 refine ab (P:=fun r=>zzo r=w a∧r.length=16*a.length) ?_ fun r ⟨h1,h2⟩=>?_
 ·refine ap (fun st=>∃ i:Nat,st.2=(i:Int)∧i<=a.length∧st.1.length=16*i∧zzo st.1=w (a.take i)) (fun st=>a.length-st.2.toNat)
   ⟨0,rfl,om,rfl,by simp[w,vb,zzo]⟩ fun st ⟨i,e,hi,g1,g2⟩=>?_
  obtain ⟨out,k⟩:=st
  simp only at e g1 g2
  subst e
  refine ag (fun h=>?_) (fun h=>?_)
  ·have h:i<a.length:=by have:((i:Nat):Int)<(a.length:Int):=odt h;omega
   have hx:=da.get h
   have ta:=vb_take_succ (b:=65536) h
   refine ad (idx_nat h) ?_
   refine ab (P:=fun o=>o.length=16*(i+1)∧zzo o=w (a.take (i+1))) ?_ fun o ⟨k1,k2⟩=>?_
   ·refine ap (fun st=>∃ j:Nat,st.2.2=(j:Int)∧j<=16∧st.1.length=16*i+j∧st.2.1=a[i]/2^j∧zzo st.1=w (a.take i)+65536^i*(a[i]%2^j)) (fun st=>16-st.2.2.toNat)
     ⟨0,rfl,om,g1,by simp,by simp[g2,Int.emod_one]⟩ fun st ⟨j,e,hj,m1,m2,m3⟩=>?_
    obtain ⟨o,x,z⟩:=st
    simp only at e m1 m2 m3
    subst e
    have c:0<=x:=by rw[m2];exact Int.ediv_nonneg hx.1 (Int.le_of_lt (al ddc))
    have hx2:x<65536:=by rw[m2];exact Int.lt_of_le_of_lt (Int.ediv_le_self _ hx.1) hx.2
    refine ag (fun hh=>?_) (fun hh=>?_)
    ·have hh:j<16:=by have:((j:Nat):Int)<16:=odt hh;omega
     refine ad (zzt oss) (aa ?_)
     have hw:IntKind.i64.wrap ((j:Int)+1)=((j+1:Nat):Int):=by rw[i64_small om om];omega
     have e2:IntKind.i64.wrap (x.tdiv 2)=x/2:=by rw[ar c,i64_small om om]
     simp only[hw,e2]
     have hp:(0:Int)<2^j:=al ddc
     refine ⟨⟨j+1,rfl,om,by simp[m1];omega,?_,?_⟩,by show 16-(((j+1:Nat):Int)).toNat<16-((j:Nat):Int).toNat;omega⟩
     ·rw[m2,ah,Int.ediv_ediv_of_nonneg (Int.le_of_lt hp)]
     ·rw[zwS,m3,zoA c,m1,show 16*i+j=16*i+j from rfl,af,aE,show (2:Int)^16=65536 by decide,m2]
      have e3:a[i]%2^(j+1)=a[i]%2^j+2^j*(a[i]/2^j%2):=by
       rw[ah]
       exact zsj hp
      rw[e3]
      grind
    ·have hh:j=16:=by have:¬ ((j:Nat):Int)<16:=odf hh;omega
     subst hh
     refine aa ⟨by show o.length=_;omega,?_⟩
     show zzo o=_
     rw[m3,show (2:Int)^16=65536 by decide,az hx.1 hx.2,w,w,ta]
   ·refine aa ?_
    have hw:IntKind.i64.wrap ((i:Int)+1)=((i+1:Nat):Int):=by rw[i64_small om om];omega
    simp only[hw]
    exact ⟨⟨i+1,rfl,om,k1,k2⟩,by show a.length-(((i+1:Nat):Int)).toNat<a.length-((i:Nat):Int).toNat;omega⟩
  ·have h:i=a.length:=by have:¬ ((i:Nat):Int)<(a.length:Int):=odf h;omega
   subst h
   rw[List.take_length]at g2
   exact aa ⟨g2,g1⟩
 ·refine ab (zsJ om) fun t ht=>aa ⟨by rw[ht.val,h1],ht.2,?_⟩
  have:=ht.len
  omega
theorem Binary_tot {l:List Bool} (hl:l.length<=400000):Tot (fun k=>zyp k l) (fun r=>Ok3 r∧w r=zzo l):=by
 unfold zyp
 refine ab (P:=fun r=>Db 65536 r∧r.length<=(l.length+15)/16∧w r=zzo l) ?_ fun r ⟨h1,h2,h3⟩=>?_
 ·refine ap (fun st=>∃ i:Nat,st.2=((16*i:Nat):Int)∧16*i<=l.length+15∧Db 65536 st.1∧st.1.length=i∧w st.1=zzo (l.take (16*i))) (fun st=>l.length+16-st.2.toNat)
   ⟨0,rfl,om,Db.nil,rfl,by simp[w,vb,zzo]⟩ fun st ⟨i,e,hi,g1,g2,g3⟩=>?_
  obtain ⟨out,z⟩:=st
  simp only at e g1 g2 g3
  subst e
  refine ag (fun h=>?_) (fun h=>?_)
  ·have h:16*i<l.length:=by have:((16*i:Nat):Int)<(l.length:Int):=odt h;omega
   refine ab (P:=fun x=>x=zzo ((l.drop (16*i)).take 16)) ?_ fun x hx=>?_
   ·refine ap (fun st=>∃ j:Nat,st.2=(j:Int)-1∧j<=16∧st.1=zzo (((l.drop (16*i)).take 16).drop j)) (fun st=>(st.2+1).toNat)
     ⟨16,rfl,om,by rw[ao oss];rfl⟩ fun st ⟨j,e,hj,m1⟩=>?_
    obtain ⟨x,z⟩:=st
    simp only at e m1
    subst e
    have p:(((l.drop (16*i)).take 16).drop j).length<=16:=by simp;omega
    have g:=vbits_bound (((l.drop (16*i)).take 16).drop j)
    have m:zzo (((l.drop (16*i)).take 16).drop j)<65536:=ay g.2 (by
     have:=zze (b:=2) ddc p
     exact this)
    rw[<- m1]at g m
    refine ag (fun hh=>?_) (fun hh=>?_)
    ·have hh:1<=j:=by have:(j:Int)-1>=0:=odt hh;omega
     have hw:IntKind.i64.wrap (((16*i:Nat):Int)+((j:Int)-1))=((16*i+(j-1):Nat):Int):=by rw[i64_small om om];omega
     have n:IntKind.i64.wrap ((j:Int)-1-1)=((j-1:Nat):Int)-1:=by rw[i64_small om om];omega
     simp only[hw,n]
     refine ab (P:=fun y=>y=l.getD (16*i+(j-1)) false) ?_ fun y hy=>?_
     ·refine ag (fun hq=>?_) (fun hq=>?_)
      ·have hq:16*i+(j-1)<l.length:=by have:((16*i+(j-1):Nat):Int)<(l.length:Int):=odt hq;omega
       exact ad (idx_nat hq) (aa (by simp[List.getD,hq]))
      ·have hq:l.length<=16*i+(j-1):=by have:¬ ((16*i+(j-1):Nat):Int)<(l.length:Int):=odf hq;omega
       exact aa (by simp[List.getD,hq])
     ·have d:zzo (((l.drop (16*i)).take 16).drop (j-1))=b2 y+2*x:=by
       subst hy
       rw[m1]
       by_cases hq:16*i+(j-1)<l.length
       ·have f:j-1<((l.drop (16*i)).take 16).length:=by simp;omega
        rw[ak f,show j-1+1=j by omega]
        have:((l.drop (16*i)).take 16)[j-1]'(f)=l.getD (16*i+(j-1)) false:=by
         simp[List.getD,hq]
        rw[this]
        rfl
       ·rw[ao oss,ao oss]
        simp[List.getD,Nat.not_lt.1 hq,zzo,vb,b2]
      refine ab (P:=fun q=>q=b2 y+2*x) ?_ fun q hq=>?_
      ·have o:IntKind.i64.wrap (x*2)=x*2:=i64_small om om
       rw[o]
       refine ag (fun c=>Tot.some_bind (aa ?_)) (fun c=>aa ?_)
       ·rw[i64_small om om,c]
        simp[b2];omega
       ·rw[c]
        simp[b2];omega
      ·refine aa ⟨⟨j-1,rfl,om,by rw[hq,d]⟩,?_⟩
       show (((j-1:Nat):Int)-1+1).toNat<((j:Int)-1+1).toNat
       omega
    ·have hh:j=0:=by have:¬ (j:Int)-1>=0:=odf hh;omega
     subst hh
     refine aa ?_
     show x=_
     rw[m1,List.drop_zero]
   ·refine ad (zzt oss) (aa ?_)
    have hw:IntKind.i64.wrap (((16*i:Nat):Int)+16)=((16*(i+1):Nat):Int):=by rw[i64_small om om];omega
    simp only[hw]
    have hb:=vbits_bound ((l.drop (16*i)).take 16)
    have hb2:zzo ((l.drop (16*i)).take 16)<65536:=ay hb.2 (by
     have:=zze (b:=2) ddc (show ((l.drop (16*i)).take 16).length<=16 by simp;omega)
     exact this)
    refine ⟨⟨i+1,rfl,om,g1.append (Db.one om),by simp[g2],?_⟩,by show l.length+16-(((16*(i+1):Nat):Int)).toNat<l.length+16-((16*i:Nat):Int).toNat;omega⟩
    rw[w,vb_snoc,g2,hx]
    have e1:l.take (16*(i+1))=l.take (16*i)++(l.drop (16*i)).take 16:=by
     rw[show 16*(i+1)=16*i+16 by omega,List.take_add]
    rw[e1,zxP,au,ax om,aE,show (2:Int)^16=65536 by decide,<- g3]
  ·have h:l.length<=16*i:=by have:¬ ((16*i:Nat):Int)<(l.length:Int):=odf h;omega
   refine aa ⟨g1,by show out.length<=_;omega,?_⟩
   rw[g3,List.take_of_length_le h]
 ·refine ab (rtrim_tot om) fun t ht=>aa ⟨⟨ht.db h1,ht.nz,?_⟩,by rw[w,ht.vb];exact h3⟩
  have:=ht.len;omega
theorem Number_tot {n:Int} (h0: -4611686018427387904<n) (h1:n<4611686018427387904):Tot (fun c=>zyr c n) (fun r=>r.1=decide (n<0)∧Ok3 r.2∧w r.2=n.natAbs):=by
 unfold zyr
 refine ab (P:=fun l=>zzo l=n.natAbs∧l.length<=64) ?_ fun l ⟨g1,g2⟩=>?_
 ·refine ap (fun st=>∃ i:Nat,i<=63∧st.2.length=i∧(n.natAbs:Int)=zzo st.2+2^i*st.1.natAbs∧(st.1.natAbs:Int)<2^(63-i)) (fun st=>st.1.natAbs)
   ⟨0,by omega,rfl,by simp[zzo,vb],by show ((n.natAbs:Nat):Int)<2^63;have:(2:Int)^63=9223372036854775808:=by decide
                                      omega⟩ fun st ⟨i,hi,m1,m2,m3⟩=>?_
  obtain ⟨x,l⟩:=st
  simp only at m1 m2 m3
  refine ag (fun hh=>?_) (fun hh=>?_)
  ·have hh:x≠0:=by simpa using hh
   have hi2:i<63:=by
    rcases Nat.lt_or_ge i 63 with h | h
    ·exact h
    ·rw[show 63-i=0 by omega]at m3
     simp at m3
     omega
   have hxb:(x.natAbs:Int)<9223372036854775808:=ay m3 (by
    have:=zze (b:=2) ddc (show 63-i<=63 by omega)
    exact this)
   have a:(x.tdiv 2).natAbs=x.natAbs/2:=by rw[Int.natAbs_tdiv];rfl
   have d:(x.tmod 2 !=0)=decide (x.natAbs%2=1):=by
    have e:(x.tmod 2).natAbs=x.natAbs%2:=by rw[Int.natAbs_tmod];rfl
    by_cases h2:x.natAbs%2=1
    ·rw[dtt h2]
     exact bne_iff_ne.2 (fun e0=>by rw[e0]at e;simp at e;omega)
    ·rw[dff h2]
     have:x.tmod 2=0:=Int.natAbs_eq_zero.1 om
     rw[this];rfl
   have hw:IntKind.i64.wrap (x.tdiv 2)=x.tdiv 2:=zxG om om
   refine ad (zzt oss) (aa ?_)
   simp only[hw]
   refine ⟨⟨i+1,om,by simp[m1],?_,?_⟩,by show (x.tdiv 2).natAbs<x.natAbs;omega⟩
   ·show (n.natAbs:Int)=zzo (l++[x.tmod 2 !=0])+2^(i+1)*((x.tdiv 2).natAbs:Int)
    rw[zwS,m1,m2,d,a,ah]
    have e1:b2 (decide (x.natAbs%2=1))=((x.natAbs%2:Nat):Int):=by
     rcases Nat.mod_two_eq_zero_or_one x.natAbs with h | h<;>rw[h]<;>rfl
    rw[e1]
    have e2:(x.natAbs:Int)=((x.natAbs%2:Nat):Int)+2*((x.natAbs/2:Nat):Int):=by omega
    generalize (2:Int)^i=P
    generalize ((x.natAbs%2:Nat):Int)=u at*
    generalize ((x.natAbs/2:Nat):Int)=v at*
    rw[e2]
    grind
   ·show ((x.tdiv 2).natAbs:Int)<2^(63-(i+1))
    rw[a]
    have e:(2:Int)^(63-i)=2^(63-(i+1))*2:=by rw[<- ah];congr 1;omega
    omega
  ·have hh:x=0:=by simpa using hh
   subst hh
   refine aa ⟨?_,by show l.length<=64;omega⟩
   show zzo l=_
   rw[m2];simp
 ·refine ab (Binary_tot om) fun r ⟨r1,r2⟩=>aa ⟨rfl,r1,?_⟩
  show w r=_
  rw[r2,g1]
def iv3 (a:Bool × List Int):Int:=if a.1 then-w a.2 else w a.2
theorem zrI {l:List Int} (h:Ok3 l):0<=w l:=(zzr h16 h.1).1
theorem zoY {l:List Int} (h:Ok3 l) (hv:w l=0):l=[]:=zoJ h16 h.1 h.2.1 hv
theorem Ok3.nil:Ok3 []:=⟨Db.nil,.inl rfl,ddc⟩
theorem IntOf_tot {a:Bool × List Int} (ha:OkI a):Tot (fun c=>zy6 c a) (fun r=>r.1=a.1∧Ok3 r.2∧w r.2=val a.2∧r.2.length<=256):=by
 unfold zy6
 have hl:=ha.1.2.2
 exact ab (Of3_tot ha.1.1 om) fun r ⟨h1,h2,h3⟩=>aa ⟨rfl,h1,h2,by show r.length<=256;omega⟩
theorem pos_of {l:List Int} (h:Ok3 l):(0<l.length)↔0<w l:=by
 have h1:=zrI h
 constructor
 ·intro hp
  rcases Int.lt_or_eq_of_le h1 with h2 | h2
  ·exact h2
  ·have:=zoY h h2.symm
   subst this;simp at hp
 ·intro hp
  cases l with
  | nil=>simp[w,vb]at hp
  | cons=>simp
end Go.Gv.RI
