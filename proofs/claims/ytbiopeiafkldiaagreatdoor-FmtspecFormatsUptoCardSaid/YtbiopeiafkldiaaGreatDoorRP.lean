import Derived.Test.YtbiopeiafkldiaaGreatDoorGt
import Derived.Test.YtbiopeiafkldiaaGreatDoorD
set_option linter.all false
open Go.Gv.Tot renaming ret→aa,bindq→ac,bind0→ad,ite→ag,some_bind→ar,loop→av
open Int renaming mul_le_mul_of_nonneg_left→ab,pow_add→ae,fdiv_eq_ediv_of_nonneg→ah,pow_pos→aj,pow_succ→ak,tmod_eq_emod_of_nonneg→aw,tdiv_eq_ediv_of_nonneg→ay,eq_of_mul_eq_mul_left→az,lt_of_lt_of_le→aD,mul_add→aE,emod_eq_of_lt→aG,le_of_lt→aJ
open List renaming dropLast_concat_getLast→af,drop_eq_getElem_cons→ai,mem_cons_of_mem→al,drop_eq_nil_of_le→am,length_take→ao,mem_cons_self→ap,replicate→au,mem_of_mem_take→ax,replicate_succ→aB,take_of_length_le→aF,length_cons→aH,length→aI
open Nat renaming min_eq_left→aq
namespace Go.Gv.RI
open Go Go.Gv Go.Gv.D
/-! ### mixing -/
def mixI (x:Int):Int:=
 let y:=IntKind.u64.wrap (bwXor .u64 x (x.fdiv (2^30))*13787848793156543929)
 let z:=IntKind.u64.wrap (bwXor .u64 y (y.fdiv (2^27))*10723151780598845931)
 bwXor .u64 z (z.fdiv (2^31))
def U (x:Int):Prop:=0≤x∧x<18446744073709551616
theorem U_wrap (x:Int):U (IntKind.u64.wrap x):=by
 rw[u64_wrap];unfold U;omega
theorem U_xor (a b:Int):U (bwXor .u64 a b):=U_wrap _
/-! ### steps -/
def stp (c s:Int):Int:=IntKind.u64.wrap (IntKind.u64.wrap (s*6364136223846793005)+c)
def it (c s:Int):Nat→Int
 | 0=>s
 | k+1=>stp c (it c s k)
theorem it_add (c s:Int) (n:Nat):∀ m,it c (it c s n) m=it c s (n+m)
 | 0=>rfl
 | m+1=>by show stp c _=stp c _;rw[it_add c s n m];rfl
theorem it_shift (c s:Int):∀ m,it c (stp c s) m=it c s (m+1):=fun m=>by
 have:=it_add c s 1 m
 rw[Nat.add_comm]at this
 exact this
/-! ### skipping: affine maps modulo 2^64 -/
/-! ### seeds -/
theorem valid_eq (fuel:Nat) (a:Bool × List Int):integer_Valid fuel a=ref3_IntOk fuel a:=rfl
def okI (a:Bool × List Int):Bool:=decide (a.2.length≤128)&&(if a.2.length=0 then !a.1 else a.2.getLast? !=some 0)
theorem IntOk_eq (fuel:Nat) (a:Bool × List Int):ref3_IntOk fuel a=some (okI a):=by
 obtain ⟨b,l⟩:=a
 unfold ref3_IntOk okI
 by_cases h:l.length≤128
 ·have h1:decide ((l.length:Int)≤128)=true:=dtt om
  simp only[h1,h,decide_true,Bool.true_and,if_true]
  have hi:0<l.length→idx l (IntKind.i64.wrap ((l.length:Int)-1))=l.getLast?:=fun hp=>by
   rw[i64_wrap om om,List.getLast?_eq_getElem?]
   unfold idx
   rw[if_pos om,show ((l.length:Int)-1).toNat=l.length-1 by omega]
  by_cases h0:l.length=0
  ·have h2:((l.length:Int)==0)=true:=by rw[h0];rfl
   simp only[h0,if_true]
   cases b<;>rfl
  ·have h2:((l.length:Int)==0)=false:=beq_eq_false_iff_ne.2 om
   have h3:decide ((l.length:Int)>0)=true:=dtt om
   simp only[h2,h3,if_true,hi om,if_neg h0]
   cases hl:l.getLast? with
   | none=>rw[List.getLast?_eq_none_iff]at hl;subst hl;exact absurd rfl h0
   | some x=>simp;rfl
 ·have h1:decide ((l.length:Int)≤128)=false:=dff om
  simp only[h1]
  simp[h]
end Go.Gv.RI
namespace Go.Gv.RI
open Go Go.Gv Go.Gv.D
/-! ### the generator has its full period -/
def aA (n:Nat):Int:=6364136223846793005^n
def aC (c:Int):Nat→Int
 | 0=>0
 | n+1=>6364136223846793005*aC c n+c
theorem aA_add (m n:Nat):aA (m+n)=aA m*aA n:=ae ..
theorem aC_add (c:Int) (m n:Nat):aC c (m+n)=aA m*aC c n+aC c m:=by
 induction m with
 | zero=>simp[aA,aC]
 | succ m ih=>
   rw[show m+1+n=(m+n)+1 by omega]
   show 6364136223846793005*aC c (m+n)+c=aA (m+1)*aC c n+(6364136223846793005*aC c m+c)
   rw[ih,show aA (m+1)=6364136223846793005*aA m by rw[aA_add,Int.mul_comm];rfl]
   grind
/-- 2^k steps: s ↦ s + 2^k · (odd) modulo 2^(k+2) of s -/
def Jump (c:Int) (n k:Nat):Prop:=∃ u d:Int,aA n=1+2^(k+2)*u∧aC c n=2^k*(1+2*d)
theorem Jump.one {c:Int} (hc:c%2=1):Jump c 1 0:=⟨1591034055961698251,c/2,ddc,by
 show 6364136223846793005*0+c=2^0*(1+2*(c/2))
 omega⟩
theorem Jump.double {c:Int} {n k:Nat} (h:Jump c n k):Jump c (n+n) (k+1):=by
 obtain ⟨u,d,h1,h2⟩:=h
 refine ⟨u+2^(k+1)*u*u,d+2^k*u+2*d*(2^k*u),?_,?_⟩
 ·rw[aA_add,h1,show (2:Int)^(k+1+2)=8*2^k by rw[ae];grind,show (2:Int)^(k+2)=4*2^k by rw[ae];grind,show (2:Int)^(k+1)=2*2^k by rw[ae];grind]
  grind
 ·rw[aC_add,h1,h2,show (2:Int)^(k+2)=4*2^k by rw[ae];grind,show (2:Int)^(k+1)=2*2^k by rw[ae];grind]
  generalize (2:Int)^k=q
  grind
theorem Jump.pow {c:Int} {n k:Nat} (h:Jump c n k):∀ i,Jump c (n*2^i) (k+i)
 | 0=>by simpa using h
 | i+1=>by
   have:=(Jump.pow h i).double
   rwa [show n*2^i+n*2^i=n*2^(i+1) by rw[Nat.pow_succ,← Nat.mul_assoc];omega]at this
theorem Jump.odd {c:Int} {n k:Nat} (h:Jump c n k):∀ o,Jump c (n*(2*o+1)) k
 | 0=>by simpa using h
 | o+1=>by
   obtain ⟨u,d,h1,h2⟩:=Jump.odd h o
   obtain ⟨v,e,g1,g2⟩:=h
   have hn:n*(2*(o+1)+1)=n+(n+n*(2*o+1)):=by
    rw[show 2*(o+1)+1=1+(1+(2*o+1)) by omega,Nat.mul_add,Nat.mul_add]
    omega
   rw[hn]
   refine ⟨u+v*(2+2^(k+2)*v)*(1+2^(k+2)*u),?_,?_,?_⟩
   rotate_left
   ·rw[aA_add,aA_add,h1,g1]
    grind
   ·rw[aC_add,aC_add,h2,g1,g2,show (2:Int)^(k+2)=4*2^k by rw[ae];grind]
    have:∀ p:Int,(1+4*p*v)*((1+4*p*v)*(p*(1+2*d))+p*(1+2*e))+p*(1+2*e)=p*(1+2*(d+(2*p*v)*(2+4*p*v)*(1+2*d)+(1+2*p*v)*(1+2*e))):=fun p=>by grind
    exact this _
theorem Jump.of {c:Int} (hc:c%2=1) {v o:Nat}:Jump c (2^v*(2*o+1)) v:=by
 have h:=(Jump.one hc).pow v
 rw[Nat.one_mul,Nat.zero_add]at h
 exact h.odd o
end Go.Gv.RI
namespace Go.Gv.RI
open Go Go.Gv Go.Gv.D
/-! ### limbs -/
def val:List Int→Int
 | []=>0
 | x::xs=>x+4294967296*val xs
def Dg (l:List Int):Prop:=∀ x∈l,0≤x∧x<4294967296
def Nz (l:List Int):Prop:=l=[]∨l.getLast? ≠some 0
theorem val_append (a b:List Int):val (a++b)=val a+4294967296^a.length*val b:=by
 induction a with
 | nil=>simp[val]
 | cons x a ih=>
   simp only[List.cons_append,val,ih,aH,ak]
   grind
theorem val_zeros:∀ k,val (au k 0)=0
 | 0=>rfl
 | k+1=>by simp[aB,val,val_zeros k]
theorem Dg.append {a b:List Int} (ha:Dg a) (hb:Dg b):Dg (a++b):=fun x hx=>(List.mem_append.1 hx).elim (ha x) (hb x)
theorem Dg.left {a b:List Int} (h:Dg (a++b)):Dg a:=fun x hx=>h x (List.mem_append_left _ hx)
theorem Dg.right {a b:List Int} (h:Dg (a++b)):Dg b:=fun x hx=>h x (List.mem_append_right _ hx)
theorem val_bound {l:List Int} (h:Dg l):0≤val l∧val l<4294967296^l.length:=by
 induction l with
 | nil=>simp[val]
 | cons x l ih=>
   have h1:=h x (ap ..)
   have h2:=ih fun y hy=>h y (al _ hy)
   simp only[val,aH,ak]
   generalize (4294967296:Int)^l.length=p at*
   omega
theorem val_big {l:List Int} (h:Dg l) (hn:Nz l) (hl:l≠[]):4294967296^(l.length-1)≤val l:=by
 obtain ⟨a,x,rfl⟩:∃ a x,l=a++[x]:=⟨l.dropLast,l.getLast hl,(af hl).symm⟩
 have hx:x≠0:=fun e=>by
  rcases hn with h | h
  ·exact hl h
  ·subst e;simp at h
 have h1:=h x (by simp)
 have h2:=val_bound h.left
 rw[val_append]
 simp only[List.length_append,List.length_singleton,Nat.add_sub_cancel,val]
 generalize hp:(4294967296:Int)^a.length=p at*
 have hpp:0<p:=by rw[← hp];exact aj ddc
 have:p*1≤p*(x+4294967296*0):=ab om om
 omega
theorem pow_mono {a b:Nat} (h:a≤b):(4294967296:Int)^a≤4294967296^b:=by
 obtain ⟨d,rfl⟩:=Nat.exists_eq_add_of_le h
 rw[ae]
 have h1:(0:Int)<4294967296^a:=aj ddc
 have h2:(0:Int)<4294967296^d:=aj ddc
 have:(4294967296:Int)^a*1≤4294967296^a*4294967296^d:=ab om om
 omega
theorem val_longer {a b:List Int} (ha:Dg a) (hb:Dg b) (hn:Nz b) (h:a.length<b.length):val a<val b:=by
 have h1:=(val_bound ha).2
 have h2:=val_big hb hn (fun e=>by subst e;simp at h)
 have h3:=pow_mono (show a.length≤b.length-1 by omega)
 omega
theorem val_inj:∀ {a b:List Int},Dg a→Dg b→a.length=b.length→val a=val b→a=b
 | [],[],_,_,_,_=>rfl
 | x::a,y::b,ha,hb,hl,hv=>by
   have h1:=ha x (ap ..)
   have h2:=hb y (ap ..)
   simp only[val]at hv
   have e:x=y∧val a=val b:=by omega
   rw[e.1,val_inj (fun z hz=>ha z (al _ hz)) (fun z hz=>hb z (al _ hz)) (by simpa using hl) e.2]
theorem norm_inj {a b:List Int} (ha:Dg a) (hb:Dg b) (na:Nz a) (nb:Nz b) (hv:val a=val b):a=b:=by
 rcases Nat.lt_trichotomy a.length b.length with h | h | h
 ·have:=val_longer ha hb nb h;omega
 ·exact val_inj ha hb h hv
 ·have:=val_longer hb ha na h;omega
theorem val_zero {l:List Int} (h:Dg l) (hn:Nz l) (hv:val l=0):l=[]:=norm_inj h (fun x hx=>by simp at hx) hn (.inl rfl) hv
/-! ### leading zeros are taken away -/
def trimLoop (fuel:Nat) (l:List Int):Option (List Int):=loopN (fun (s3:(List Int))=>(Option.bind (if (decide (((aI s3:Nat):Int)>0)) then (Option.bind (idx s3 (IntKind.i64.wrap (((aI s3:Nat):Int)-1))) fun x13=>(some ((x13==0)))) else (some (false))) fun (j10:Bool)=>(if j10 then (Option.bind (sub s3 0 (IntKind.i64.wrap (((aI s3:Nat):Int)-1))) fun x19=>(some (.inl x19))) else (some (.inr (s3)))))) fuel l
def Trim (l r:List Int):Prop:=(∃ k,l=r++au k 0)∧Nz r
theorem trim_tot {l:List Int} (hl:l.length<4611686018427387904):Tot (fun fuel=>trimLoop fuel l) (Trim l):=by
 unfold trimLoop
 refine av (fun st=>∃ k,l=st++au k 0) (fun st=>st.length) ⟨0,by simp⟩ fun st ⟨k,hk⟩=>?_
 have hsl:st.length≤l.length:=by rw[hk];simp
 by_cases h0:st=[]
 ·subst h0
  refine ac (P:=fun j=>j=false) (Tot.if_ rfl (aa rfl)) fun j hj=>?_
  subst hj
  exact Tot.if_ rfl (aa ⟨⟨k,hk⟩,.inl rfl⟩)
 ·have hp:0<st.length:=by
   cases st with
   | nil=>exact absurd rfl h0
   | cons=>simp
  have hw:IntKind.i64.wrap ((st.length:Int)-1)=(st.length:Int)-1:=i64_wrap om om
  rw[hw]
  have hi:=idx_ok (xs:=st) (i:=(st.length:Int)-1) om om
  have hlast:st.getLast? =some (st[((st.length:Int)-1).toNat]'(om)):=by
   rw[List.getLast?_eq_getElem?,← List.getElem?_eq_getElem]
   congr 1
   omega
  generalize (st[((st.length:Int)-1).toNat]'(om))=x at hi hlast
  refine ac (P:=fun j=>j=(x==0)) (Tot.it (dtt om) (ad hi (aa rfl))) fun j hj=>?_
  subst hj
  refine ag (fun hx=>?_) (fun hx=>?_)
  ·have hx:x=0:=by simpa using hx
   subst hx
   refine ad (sub_ok om om om) (aa ⟨⟨k+1,?_⟩,?_⟩)
   ·have e:st=st.dropLast++[0]:=by
     have h1:=af h0
     have h2:st.getLast h0=0:=by
      have:=List.getLast?_eq_some_getLast h0
      rw[hlast]at this
      exact (Option.some.inj this).symm
     rw[h2]at h1
     exact h1.symm
    show l=(st.take ((st.length:Int)-1).toNat).drop (0:Int).toNat++_
    rw[show ((st.length:Int)-1).toNat=st.length-1 by omega,show (0:Int).toNat=0 from rfl,List.drop_zero,← List.dropLast_eq_take,hk]
    conv=>lhs;rw[e]
    rw[List.append_assoc,aB]
    rfl
   ·show ((st.take ((st.length:Int)-1).toNat).drop (0:Int).toNat).length<st.length
    simp
    omega
  ·have hx:x≠0:=by simpa using hx
   refine aa ⟨⟨k,hk⟩,.inr ?_⟩
   rw[hlast]
   simpa using hx
theorem Trim.val {l r:List Int} (h:Trim l r):val r=val l:=by
 obtain ⟨⟨k,e⟩,_⟩:=h
 rw[e,val_append,val_zeros]
 omega
theorem Trim.dg {l r:List Int} (h:Trim l r) (hd:Dg l):Dg r:=by
 obtain ⟨⟨k,e⟩,_⟩:=h
 rw[e]at hd
 exact hd.left
theorem Trim.nz {l r:List Int} (h:Trim l r):Nz r:=h.2
theorem Trim.len {l r:List Int} (h:Trim l r):r.length≤l.length:=by
 obtain ⟨⟨k,e⟩,_⟩:=h
 rw[e];simp
theorem ntrim_tot {l:List Int} (hl:l.length<4611686018427387904):Tot (fun fuel=>natural_trim fuel l) (Trim l):=
 ac (trim_tot hl) fun _ h=>aa h
/-! ### comparing -/
def Cmp (a b:List Int) (r:Int):Prop:=(r<0↔val a<val b)∧(r=0↔val a=val b)
theorem cut {a:List Int} {i:Nat} (h:i<a.length):a=a.take i++(a[i]::a.drop (i+1)):=by
 rw[← ai h,List.take_append_drop]
theorem val_cut {a:List Int} {i:Nat} (h:i<a.length):val a=val (a.take i)+4294967296^i*(a[i]+4294967296*val (a.drop (i+1))):=by
 conv=>lhs;rw[cut h]
 rw[val_append,ao,aq om]
 rfl
theorem compare_tot {a b:List Int} (ha:Dg a) (hb:Dg b) (na:Nz a) (nb:Nz b) (la:a.length≤1000) (lb:b.length≤1000):Tot (fun fuel=>natural_compare fuel a b) (Cmp a b):=by
 unfold natural_compare
 refine ag (fun h=>?_) (fun h=>?_)
 ·have h:a.length≠b.length:=fun e=>by rw[e]at h;simp at h
  refine ar (aa ?_)
  rw[i64_wrap om om]
  rcases Nat.lt_or_ge a.length b.length with h1 | h1
  ·have:=val_longer ha hb nb h1
   exact ⟨⟨fun _=>this,fun _=>by omega⟩,⟨fun _=>by omega,fun _=>by omega⟩⟩
  ·have:=val_longer hb ha na (show b.length<a.length by omega)
   exact ⟨⟨fun _=>by omega,fun _=>by omega⟩,⟨fun _=>by omega,fun _=>by omega⟩⟩
 ·have hl:a.length=b.length:=by
   have:((a.length:Int)!=(b.length:Int))=false:=h
   simp at this
   omega
  refine ar ?_
  rw[i64_wrap om om]
  refine ac (P:=fun x=>match x with | .inl ()=>a=b | .inr r=>Cmp a b r) ?_ fun x hx=>?_
  ·refine av (fun st:Int=> -1≤st∧st<(a.length:Int)∧a.drop (st+1).toNat=b.drop (st+1).toNat) (fun st:Int=>(st+1).toNat) ⟨om,om,?_⟩ fun st ⟨h0,h1,h2⟩=>?_
   ·rw[show ((a.length:Int)-1+1).toNat=a.length by omega,List.drop_length,am om]
   ·refine ag (fun h=>?_) (fun h=>?_)
    ·have h3:0≤st:=odt h
     obtain ⟨i,rfl⟩:∃ i:Nat,st=(i:Int):=⟨st.toNat,om⟩
     have hia:i<a.length:=by omega
     have hib:i<b.length:=by omega
     have h2':a.drop (i+1)=b.drop (i+1):=h2
     have ea:idx a (i:Int)=some a[i]:=idx_ok om om
     have eb:idx b (i:Int)=some b[i]:=idx_ok om om
     have va:=val_cut hia
     have vb:=val_cut hib
     rw[h2']at va
     have ba:=val_bound (l:=a.take i) (fun x hx=>ha x (ax hx))
     have bb:=val_bound (l:=b.take i) (fun x hx=>hb x (ax hx))
     rw[ao,aq om]at ba bb
     have hpos:(0:Int)<4294967296^i:=aj ddc
     refine ad ea (ad eb (ag (fun hne=>?_) (fun hne=>?_)))
     ·have hne:a[i]≠b[i]:=by simpa using hne
      refine ad ea (ad eb (ag (fun hlt=>?_) (fun hlt=>?_)))
      ·have hlt:a[i]<b[i]:=odt hlt
       refine aa ?_
       have:val a<val b:=by
        have:(4294967296:Int)^i*(a[i]+4294967296*val (b.drop (i+1))+1)≤4294967296^i*(b[i]+4294967296*val (b.drop (i+1))):=ab om om
        rw[aE _ _ 1]at this
        omega
       exact ⟨⟨fun _=>this,fun _=>by decide⟩,⟨fun h=>(by cases h),fun _=>by omega⟩⟩
      ·have hlt:¬ a[i]<b[i]:=odf hlt
       refine aa ?_
       have:val b<val a:=by
        have:(4294967296:Int)^i*(b[i]+4294967296*val (b.drop (i+1))+1)≤4294967296^i*(a[i]+4294967296*val (b.drop (i+1))):=ab om om
        rw[aE _ _ 1]at this
        omega
       exact ⟨⟨fun h=>(by cases h),fun _=>by omega⟩,⟨fun h=>(by cases h),fun _=>by omega⟩⟩
     ·have he:a[i]=b[i]:=by simpa using hne
      refine aa ?_
      have hw:IntKind.i64.wrap ((i:Int)-1)=(i:Int)-1:=i64_wrap om om
      show (_∧_∧_)∧_
      rw[hw]
      refine ⟨⟨om,om,?_⟩,om⟩
      rw[show ((i:Int)-1+1).toNat=i by omega,ai hia,ai hib,he,h2']
    ·have h3:¬ 0≤st:=odf h
     refine aa ?_
     rw[show (st+1).toNat=0 by omega]at h2
     exact h2
  ·cases x with
   | inl u=>
     have hx:a=b:=hx
     subst hx
     exact Tot.contl (aa ⟨⟨fun h=>(by cases h),fun h=>by omega⟩,⟨fun _=>rfl,fun _=>rfl⟩⟩)
   | inr r=>exact Tot.contr hx
end Go.Gv.RI
namespace Go.Gv.RI
open Go Go.Gv Go.Gv.D
theorem val_snoc (l:List Int) (x:Int):val (l++[x])=val l+4294967296^l.length*x:=by
 rw[val_append];simp[val]
theorem val_take_succ {a:List Int} {i:Nat} (h:i<a.length):val (a.take (i+1))=val (a.take i)+4294967296^i*a[i]:=by
 rw[List.take_succ_eq_append_getElem h,val_snoc,ao,aq om]
theorem val_take_all {a:List Int} {i:Nat} (h:a.length≤i):val (a.take i)=val a:=by
 rw[aF h]
theorem Dg.take {a:List Int} (h:Dg a) (i:Nat):Dg (a.take i):=fun x hx=>h x (ax hx)
theorem Dg.get {a:List Int} (h:Dg a) {i:Nat} (hi:i<a.length):0≤a[i]∧a[i]<4294967296:=h _ (List.getElem_mem hi)
theorem Dg.one {x:Int} (h:0≤x∧x<4294967296):Dg [x]:=fun y hy=>by simp at hy;subst hy;exact h
theorem i64_small {x:Int} (h: -4611686018427387904≤x) (h':x≤4611686018427387904):IntKind.i64.wrap x=x:=i64_wrap om om
theorem u64_small {x:Int} (h:0≤x) (h':x<18446744073709551616):IntKind.u64.wrap x=x:=by rw[u64_wrap];omega
theorem u32_small {x:Int} (h:0≤x) (h':x<4294967296):IntKind.u32.wrap x=x:=by rw[u32_wrap];omega
theorem idx_nat {α:Type} {xs:List α} {i:Nat} (h:i<xs.length):idx xs (i:Int)=some xs[i]:=idx_ok om om
/-! ### adding -/
theorem add_tot {a b:List Int} (ha:Dg a) (hb:Dg b) (la:a.length≤1000) (lb:b.length≤1000):
 Tot (fun fuel=>natural_add fuel a b) (fun r=>Dg r∧Nz r∧val r=val a+val b∧r.length≤max a.length b.length+1):=by
 unfold natural_add
 refine ac (P:=fun j=>(j=(a,b)∨j=(b,a))∧j.2.length≤j.1.length) ?_ fun j ⟨hj,hjl⟩=>?_
 ·refine ag (fun h=>aa ⟨.inr rfl,?_⟩) (fun h=>aa ⟨.inl rfl,?_⟩)
  ·have h:=odt h
   show a.length≤b.length
   omega
  ·have h:=odf h
   show b.length≤a.length
   omega
 obtain ⟨p,q⟩:=j
 have hpq:Dg p∧Dg q∧p.length≤1000∧val a+val b=val p+val q∧max a.length b.length=p.length:=by
  rcases hj with e | e<;>cases e
  ·exact ⟨ha,hb,la,rfl,Nat.max_eq_left hjl⟩
  ·exact ⟨hb,ha,lb,Int.add_comm _ _,Nat.max_eq_right hjl⟩
 obtain ⟨hp,hq,lp,hv,hm⟩:=hpq
 have hjl:q.length≤p.length:=hjl
 rw[hv,hm]
 have hw:IntKind.i64.wrap ((p.length:Int)+1)=(p.length:Int)+1:=i64_small om om
 refine ad (a:=[]) (by show mkC 0 (IntKind.i64.wrap ((p.length:Int)+1)) (0:Int)=_;rw[hw];unfold mkC;rw[if_pos ⟨ddc,om,om⟩];rfl) ?_
 refine ac (P:=fun r=>Dg r.1∧r.1.length=p.length∧0≤r.2∧r.2≤1∧val r.1+4294967296^p.length*r.2=val p+val q) ?_ fun r ⟨h1,h2,h3,h4,h5⟩=>?_
 ·refine av (fun st=>∃ i:Nat,st.2.2=(i:Int)∧i≤p.length∧Dg st.1∧st.1.length=i∧0≤st.2.1∧st.2.1≤1∧val st.1+4294967296^i*st.2.1=val (p.take i)+val (q.take i)) (fun st=>p.length-st.2.2.toNat)
   ⟨0,rfl,om,fun x hx=>by simp at hx,rfl,ddc,ddc,by simp[val]⟩ fun st ⟨i,e,hi,g1,g2,g3,g4,g5⟩=>?_
  obtain ⟨out,carry,k⟩:=st
  have e:k=(i:Int):=e
  subst e
  simp only at g1 g2 g3 g4 g5
  refine ag (fun h=>?_) (fun h=>?_)
  ·have h:i<p.length:=by have:((i:Nat):Int)<(p.length:Int):=odt h;omega
   have hx:=hp.get h
   refine ad (idx_nat h) (ar ?_)
   have w1:IntKind.u64.wrap p[i]=p[i]:=u64_small om om
   have w2:IntKind.u64.wrap (carry+p[i])=carry+p[i]:=u64_small om om
   simp only[w1,w2]
   have tp:=val_take_succ h
   refine ac (P:=fun s=>0≤s∧s≤8589934591∧4294967296^i*s+val (p.take i)+val (q.take i)=4294967296^i*carry+val (p.take (i+1))+val (q.take (i+1))) ?_ fun s ⟨k1,k2,k3⟩=>?_
   ·refine ag (fun hh=>?_) (fun hh=>?_)
    ·have hh:i<q.length:=by have:((i:Nat):Int)<(q.length:Int):=odt hh;omega
     have hy:=hq.get hh
     have tq:=val_take_succ hh
     refine ad (idx_nat hh) (ar (aa ?_))
     rw[u64_small (x:=q[i]) om om,u64_small om om,tp,tq]
     refine ⟨om,om,?_⟩
     grind
    ·have hh:q.length≤i:=by have:¬ ((i:Nat):Int)<(q.length:Int):=odf hh;omega
     refine aa ⟨om,om,?_⟩
     have q1:=val_take_all hh
     have q2:=val_take_all (a:=q) (i:=i+1) om
     rw[tp,q1,q2]
     generalize (4294967296:Int)^i=P
     grind
   ·refine ad (app_ok oss) (aa ?_)
    have e1:s.fdiv (2^32)=s/4294967296:=ah _ ddc
    simp only[u32_wrap,e1]
    have hw:IntKind.i64.wrap ((i:Int)+1)=((i+1:Nat):Int):=by rw[i64_small om om];omega
    rw[hw]
    refine ⟨⟨i+1,rfl,om,g1.append (Dg.one om),by simp[g2],om,om,?_⟩,om⟩
    rw[val_snoc,g2,ak]
    have e2:s=s%4294967296+4294967296*(s/4294967296):=by omega
    generalize (4294967296:Int)^i=P at*
    generalize s%4294967296=u at*
    generalize s/4294967296=v at*
    subst e2
    grind
  ·have h:i=p.length:=by have:¬ ((i:Nat):Int)<(p.length:Int):=odf h;omega
   subst h
   refine aa ⟨g1,g2,g3,g4,?_⟩
   rw[val_take_all (Nat.le_refl _),val_take_all hjl]at g5
   exact g5
 ·refine ad (app_ok oss) ?_
  rw[u32_small h3 om]
  refine ac (ntrim_tot oss) fun t ht=>aa ⟨ht.dg (h1.append (Dg.one om)),ht.nz,?_,?_⟩
  ·rw[ht.val,val_snoc,h2]
   exact h5
  ·have:=ht.len
   simp at this
   omega
/-! ### subtracting -/
theorem toNat_and32 (a b:Int):bwAnd .u32 a b=((BitVec.ofInt 32 a &&& BitVec.ofInt 32 b).toNat:Int):=by
 unfold bwAnd
 rw[u32_wrap]
 have:=(BitVec.ofInt 32 a &&& BitVec.ofInt 32 b).isLt
 show ((BitVec.ofInt 32 a &&& BitVec.ofInt 32 b).toNat:Int)%_=_
 omega
theorem toNat_or32 (a b:Int):bwOr .u32 a b=((BitVec.ofInt 32 a ||| BitVec.ofInt 32 b).toNat:Int):=by
 unfold bwOr
 rw[u32_wrap]
 have:=(BitVec.ofInt 32 a ||| BitVec.ofInt 32 b).isLt
 show ((BitVec.ofInt 32 a ||| BitVec.ofInt 32 b).toNat:Int)%_=_
 omega
theorem toNat_xor32 (a b:Int):bwXor .u32 a b=((BitVec.ofInt 32 a ^^^ BitVec.ofInt 32 b).toNat:Int):=by
 unfold bwXor
 rw[u32_wrap]
 have:=(BitVec.ofInt 32 a ^^^ BitVec.ofInt 32 b).isLt
 show ((BitVec.ofInt 32 a ^^^ BitVec.ofInt 32 b).toNat:Int)%_=_
 omega
theorem ofInt_toNat32 (v:BitVec 32):BitVec.ofInt 32 (v.toNat:Int)=v:=by
 apply BitVec.eq_of_toNat_eq
 have:=v.isLt
 simp only[BitVec.toNat_ofInt]
 omega
theorem msb32 (v:BitVec 32):((v.toNat:Int).fdiv (2^31))=if v.msb then 1 else 0:=by
 rw[ah _ ddc,BitVec.msb_eq_decide]
 have:=v.isLt
 by_cases h:2^(32-1)≤v.toNat
 ·rw[dtt h]
  simp only[if_true]
  omega
 ·rw[dff h]
  simp only[Bool.false_eq_true,if_false]
  omega
theorem msb_int {x:Int} (h:0≤x∧x<4294967296):(BitVec.ofInt 32 x).msb=decide (2147483648≤x):=by
 rw[BitVec.msb_eq_decide]
 simp only[BitVec.toNat_ofInt]
 congr 1
 have:(x%((2^32:Nat):Int)).toNat=x.toNat:=by omega
 rw[this]
 apply propext
 omega
theorem sub32_tot (fuel:Nat) {x y b:Int} (hx:0≤x∧x<4294967296) (hy:0≤y∧y<4294967296) (hb:0≤b∧b≤1):
 ∃ d c,bits_Sub32 fuel x y b=some (d,c)∧0≤d∧d<4294967296∧0≤c∧c≤1∧d=x-y-b+4294967296*c:=by
 have hd:IntKind.u32.wrap (IntKind.u32.wrap (x-y)-b)=(x-y-b)%4294967296:=by
  rw[u32_wrap,u32_wrap];omega
 refine ⟨(x-y-b)%4294967296,if x-y-b<0 then 1 else 0,?_,om,om,by split<;>decide,by split<;>decide,by split<;>omega⟩
 unfold bits_Sub32
 simp only[hd,Option.bind_some]
 congr 2
 generalize hD:(x-y-b)%4294967296=d
 have hdd:0≤d∧d<4294967296:=by omega
 simp only[toNat_or32,toNat_and32,toNat_xor32,ofInt_toNat32,msb32,BitVec.msb_or,BitVec.msb_and,BitVec.msb_xor,msb_int hx,msb_int hy,msb_int hdd,show (BitVec.ofInt 32 4294967295).msb=true from rfl]
 by_cases h1:2147483648≤x<;>by_cases h2:2147483648≤y<;>by_cases h3:2147483648≤d<;>simp only[h1,h2,h3,decide_true,decide_false]<;>split<;>split<;>first | rfl | (exfalso;simp_all;done) | (exfalso;omega)
end Go.Gv.RI
namespace Go.Gv.RI
open Go Go.Gv Go.Gv.D
/-- limbs of an integer's absolute value -/
def OkL (l:List Int):Prop:=Dg l∧Nz l∧l.length≤128
def OkI (a:Bool × List Int):Prop:=OkL a.2∧(a.2=[]→a.1=false)
def Big:Int:=4294967296^128
theorem OkL.l6 {l:List Int} (h:OkL l):l.length≤600:=Nat.le_trans h.2.2 ddc
theorem OkI_iff {a:Bool × List Int} (hd:Dg a.2):okI a=true↔OkI a:=by
 obtain ⟨b,l⟩:=a
 unfold okI OkI OkL Nz
 simp only
 by_cases h:l=[]
 ·subst h;simp[hd]
 ·have:l.length≠0:=by simpa using h
  simp[h,hd]
  exact And.comm
theorem OkI.valid {a:Bool × List Int} (h:OkI a) (fuel:Nat):integer_Valid fuel a=some true:=by
 rw[valid_eq,IntOk_eq,(OkI_iff h.1.1).2 h]
theorem val_lt_big {l:List Int} (h:OkL l):0≤val l∧val l<Big:=by
 have h1:=val_bound h.1
 have:=pow_mono h.2.2
 unfold Big
 omega
/-! ### validity -/
theorem nvalid {l:List Int} (hn:Nz l) (hl:l.length≤600) (fuel:Nat):natural_Valid fuel l=some true:=by
 unfold natural_Valid
 have h1:decide ((l.length:Int)≤600)=true:=dtt om
 simp only[h1,if_true]
 by_cases h0:l=[]
 ·subst h0;rfl
 ·have hp:0<l.length:=by
   cases l with
   | nil=>exact absurd rfl h0
   | cons=>simp
  have h2:((l.length:Int)==0)=false:=beq_eq_false_iff_ne.2 om
  have hw:IntKind.i64.wrap ((l.length:Int)-1)=((l.length-1:Nat):Int):=by rw[i64_small om om];omega
  simp only[h2,Bool.false_eq_true,if_false,hw,idx_nat (show l.length-1<l.length by omega),Option.bind_some]
  have hx:l[l.length-1]'(om)≠0:=fun e=>by
   rcases hn with h | h
   ·exact h0 h
   ·rw[List.getLast?_eq_getElem?,List.getElem?_eq_getElem om,e]at h
    exact h rfl
  simp[hx]
theorem ncheck {a b:List Int} (na:Nz a) (la:a.length≤600) (nb:Nz b) (lb:b.length≤600) (fuel:Nat):natural_check fuel a b=some (0,0):=by
 unfold natural_check
 rw[nvalid na la,nvalid nb lb]
 rfl
theorem icheck {l:List (Bool × List Int)} (h:∀ a∈l,OkI a) (hl:l.length≤1000):Tot (fun fuel=>integer_check fuel l) (· =(0,0)):=by
 unfold integer_check
 refine ac (P:=fun x=>∃ y,x= .inl y) ?_ fun x ⟨y,hx⟩=>by subst hx;exact Tot.contl (aa rfl)
 refine av (fun st=>∃ i:Nat,st.1=(i:Int)∧i≤l.length) (fun st=>l.length-st.1.toNat) ⟨0,rfl,om⟩ fun st ⟨i,e,hi⟩=>?_
 rw[e]
 refine ag (fun hh=>?_) (fun hh=>aa ⟨_,rfl⟩)
 have hh:i<l.length:=by have:((i:Nat):Int)<(l.length:Int):=odt hh;omega
 refine ad (idx_nat hh) (ad ((h _ (List.getElem_mem hh)).valid 0) (Tot.if_ rfl (aa ?_)))
 have hw:IntKind.i64.wrap ((i:Int)+1)=((i+1:Nat):Int):=by rw[i64_small om om];omega
 show (∃ j:Nat,IntKind.i64.wrap ((i:Int)+1)=(j:Int)∧j≤l.length)∧l.length-(IntKind.i64.wrap ((i:Int)+1)).toNat<l.length-((i:Nat):Int).toNat
 rw[hw]
 exact ⟨⟨i+1,rfl,om⟩,om⟩
/-! ### small integers -/
/-! ### sums -/
end Go.Gv.RI
namespace Go.Gv.RI
open Go Go.Gv Go.Gv.D
/-! ### the number of bits -/
/-- r bits are needed for x -/
def Len (x:Int) (r:Int):Prop:=0≤r∧x<2^r.toNat∧(0<r→2^(r.toNat-1)≤x)
def len8:List UInt8:=[0,1,2,2,3,3,3,3,4,4,4,4,4,4,4,4,5,5,5,5,5,5,5,5,5,5,5,5,5,5,5,5,6,6,6,6,6,6,6,6,6,6,6,6,6,6,6,6,6,6,6,6,6,6,6,6,6,6,6,6,6,6,6,6,7,7,7,7,7,7,7,7,7,7,7,7,7,7,7,7,7,7,7,7,7,7,7,7,7,7,7,7,7,7,7,7,7,7,7,7,7,7,7,7,7,7,7,7,7,7,7,7,7,7,7,7,7,7,7,7,7,7,7,7,7,7,7,7,8,8,8,8,8,8,8,8,8,8,8,8,8,8,8,8,8,8,8,8,8,8,8,8,8,8,8,8,8,8,8,8,8,8,8,8,8,8,8,8,8,8,8,8,8,8,8,8,8,8,8,8,8,8,8,8,8,8,8,8,8,8,8,8,8,8,8,8,8,8,8,8,8,8,8,8,8,8,8,8,8,8,8,8,8,8,8,8,8,8,8,8,8,8,8,8,8,8,8,8,8,8,8,8,8,8,8,8,8,8,8,8,8,8,8,8,8,8,8,8,8,8,8,8,8,8,8,8]
theorem len8_all:((List.range 256).all fun x=>match len8[x]? with | some r=>decide ((x:Int)<2^r.toNat)&&(decide (r.toNat=0)||decide ((2:Int)^(r.toNat-1)≤(x:Int)))&&decide (r.toNat≤8) | none=>false)=true:=by kernel_rfl
theorem len8_at {x:Int} (h0:0≤x) (h1:x<256):∃ r:Int,sidx (strOf len8) x=some r∧Len x r∧r≤8:=by
 have h:=List.all_eq_true.1 len8_all x.toNat (List.mem_range.2 om)
 unfold sidx
 rw[if_pos h0,show (strOf len8).data.toList=len8 from rfl]
 cases hr:len8[x.toNat]? with
 | none=>rw[hr]at h;cases h
 | some r=>
   rw[hr]at h
   simp only[Bool.and_eq_true,Bool.or_eq_true,decide_eq_true_eq,show ((x.toNat:Nat):Int)=x by omega]at h
   obtain ⟨⟨h2,h3⟩,h4⟩:=h
   refine ⟨(r.toNat:Int),rfl,⟨om,by simpa using h2,fun hp=>?_⟩,om⟩
   rcases h3 with h3 | h3
   ·omega
   ·simpa using h3
theorem Len.shift {x r:Int} {k:Nat} (h:Len (x/2^k) r) (hr:0<r):Len x (r+k):=by
 obtain ⟨h1,h2,h3⟩:=h
 have hp:(0:Int)<2^k:=aj ddc
 refine ⟨om,?_,fun _=>?_⟩
 ·rw[show (r+(k:Int)).toNat=r.toNat+k by omega,ae]
  exact Int.lt_mul_of_ediv_lt hp h2
 ·rw[show (r+(k:Int)).toNat-1=(r.toNat-1)+k by omega,ae]
  exact Int.mul_le_of_le_ediv hp (h3 hr)
theorem Len.pos {x r:Int} (h:Len x r) (hx:0<x):0<r:=by
 rcases Int.lt_or_eq_of_le h.1 with h1 | h1
 ·exact h1
 ·have:=h.2.1
  rw[← h1]at this
  simp at this
  omega
theorem len32_tot {x:Int} (h0:0≤x) (h1:x<4294967296):Tot (fun fuel=>bits_Len32 fuel x) (fun r=>Len x r∧r≤32):=by
 unfold bits_Len32
 refine ac (P:=fun j=>∃ k:Nat,j.2=(k:Int)∧(k=0∨k=16)∧j.1=x/2^k∧j.1<65536∧(k=0∨0<j.1)) ?_ fun j ⟨k,e1,hk,e2,h3,h4⟩=>?_
 ·refine ag (fun h=>aa ⟨16,rfl,.inr rfl,ah _ ddc,?_,.inr ?_⟩) (fun h=>aa ⟨0,rfl,.inl rfl,by simp,?_,.inl rfl⟩)
  ·show x.fdiv (2^16)<65536
   rw[ah _ ddc];omega
  ·have h:x≥65536:=odt h
   show 0<x.fdiv (2^16)
   rw[ah _ ddc];omega
  ·have h:¬ x≥65536:=odf h
   show x<65536
   omega
 obtain ⟨y,z⟩:=j
 simp only at e1 e2 h3 h4
 have hy:0≤y:=by rw[e2];exact Int.ediv_nonneg h0 (aJ (aj ddc))
 subst e1
 refine ac (P:=fun j=>∃ k':Nat,j.2=((k+k':Nat):Int)∧k+k'≤24∧j.1=x/2^(k+k')∧0≤j.1∧j.1<256∧(k+k'=0∨0<j.1)) ?_ fun j ⟨k',e3,hk',e4,h5,h6,h7⟩=>?_
 ·have e5:∀ k',y/2^k'=x/2^(k+k'):=fun k'=>by rw[e2,ae,Int.ediv_ediv_of_nonneg (aJ (aj ddc))]
  refine ag (fun h=>?_) (fun h=>?_)
  ·have h:y≥256:=odt h
   have ey:y.fdiv (2^8)=y/2^8:=ah _ ddc
   refine aa ⟨8,?_,om,?_,?_,?_,.inr ?_⟩
   ·show IntKind.i64.wrap ((k:Int)+8)=_
    rw[i64_small om om];omega
   ·show y.fdiv (2^8)=_
    rw[ey,e5]
   ·show 0≤y.fdiv (2^8)
    rw[ey];omega
   ·show y.fdiv (2^8)<256
    rw[ey];omega
   ·show 0<y.fdiv (2^8)
    rw[ey];omega
  ·have h:¬ y≥256:=odf h
   refine aa ⟨0,rfl,om,?_,hy,by show y<256;omega,?_⟩
   ·show y=_
    rw[← e5];simp
   ·rcases h4 with h4 | h4
    ·exact .inl h4
    ·exact .inr h4
 obtain ⟨u,v⟩:=j
 simp only at e3 e4 h5 h6 h7
 subst e3
 obtain ⟨r,g1,g2,g3⟩:=len8_at h5 h6
 have hw:IntKind.u8.wrap u=u:=by rw[u8_wrap];omega
 refine ad (a:=r) (by show sidx (strOf len8) (IntKind.u8.wrap u)=_;rw[hw];exact g1) (ar (aa ?_))
 have g4:=g2.1
 rw[i64_small (x:=r) om om,i64_small om om]
 rw[e4]at g2
 by_cases hr:0<r
 ·have:=g2.shift hr
  rw[show ((k+k':Nat):Int)+r=r+((k+k':Nat):Int) by omega]
  exact ⟨this,om⟩
 ·have hr0:r=0:=by omega
  have hz:k+k'=0:=by
   rcases h7 with h7 | h7
   ·exact h7
   ·rw[e4]at h7
    exact absurd (g2.pos h7) hr
  rw[hz]at g2 ⊢
  simp at g2
  simp
  exact ⟨g2,om⟩
theorem Len.limbs {l:List Int} (h:Dg l) (hl:l≠[]) {r:Int} (hr:Len (l.getLast hl) r) (hp:0<r):Len (val l) (32*((l.length:Int)-1)+r):=by
 have e:=af hl
 generalize l.getLast hl=x at*
 generalize hd:l.dropLast=a at*
 subst e
 have ha:=val_bound h.left
 rw[val_snoc]
 have hpow:(4294967296:Int)^a.length=2^(32*a.length):=by rw[show (4294967296:Int)=2^32 by decide,← Int.pow_mul]
 obtain ⟨h1,h2,h3⟩:=hr
 have hlen:((a++[x]).length:Int)-1=a.length:=by simp
 rw[hlen]
 rw[hpow]at ha ⊢
 have hP:(0:Int)<2^(32*a.length):=aj ddc
 refine ⟨om,?_,fun _=>?_⟩
 ·rw[show (32*(a.length:Int)+r).toNat=32*a.length+r.toNat by omega,ae]
  have:(2:Int)^(32*a.length)*(x+1)≤2^(32*a.length)*2^r.toNat:=ab om om
  rw[aE]at this
  omega
 ·rw[show (32*(a.length:Int)+r).toNat-1=32*a.length+(r.toNat-1) by omega,ae]
  have:(2:Int)^(32*a.length)*2^(r.toNat-1)≤2^(32*a.length)*x:=ab (h3 hp) om
  omega
end Go.Gv.RI
namespace Go.Gv.RI
open Go Go.Gv Go.Gv.D
/-! ### drawing bits -/
def lm (c s:Int) (n:Nat):List Int:=
 if h:n=0 then [] else (if n<32 then mixI (stp c s)/4294967296/2^(32-n) else mixI (stp c s)/4294967296)::lm c (stp c s) (n-32)
 termination_by n
theorem lm_zero (c s:Int):lm c s 0=[]:=by rw[lm];rfl
theorem lm_pos (c s:Int) {n:Nat} (h:n≠0):lm c s n=(if n<32 then mixI (stp c s)/4294967296/2^(32-n) else mixI (stp c s)/4294967296)::lm c (stp c s) (n-32):=by
 conv=>lhs;rw[lm]
 rw[dif_neg h]
theorem U_mix (x:Int):U (mixI x):=U_xor _ _
theorem high (x:Int):0≤mixI x/4294967296∧mixI x/4294967296<4294967296:=by
 have:=U_mix x
 unfold U at this
 omega
theorem lm_facts (c:Int):∀ (n:Nat) (s:Int),Dg (lm c s n)∧(lm c s n).length=(n+31)/32∧val (lm c s n)<2^n∧(0<n→mixI (it c s ((n+31)/32))<9223372036854775808→val (lm c s n)<2^(n-1)):=by
 intro n
 induction n using Nat.strongRecOn with
 | _ n ih=>
   intro s
   by_cases h0:n=0
   ·subst h0
    rw[lm_zero]
    exact ⟨fun x hx=>by simp at hx,rfl,ddc,fun h=>absurd h ddc⟩
   ·rw[lm_pos c s h0]
    have hx:=high (stp c s)
    obtain ⟨i1,i2,i3,i4⟩:=ih (n-32) om (stp c s)
    have hit:∀ k,0<k→it c s k=it c (stp c s) (k-1):=fun k hk=>by rw[it_shift,Nat.sub_add_cancel hk]
    have hv0:=(val_bound i1).1
    by_cases h32:n<32
    ·rw[if_pos h32]
     have hz:n-32=0:=by omega
     rw[hz,lm_zero]
     have hp:(0:Int)<2^(32-n):=aj ddc
     have hpn:(2:Int)^n*2^(32-n)=4294967296:=by rw[← ae,show n+(32-n)=32 by omega];rfl
     have h1:mixI (stp c s)/4294967296/2^(32-n)<2^n:=Int.ediv_lt_of_lt_mul hp (by rw[hpn];exact hx.2)
     have h2:0≤mixI (stp c s)/4294967296/2^(32-n):=Int.ediv_nonneg hx.1 (aJ hp)
     have h3:(2:Int)^n≤4294967296:=by
      have:(2:Nat)^n≤2^32:=Nat.pow_le_pow_right ddc om
      have h4:((2^n:Nat):Int)≤((2^32:Nat):Int):=Int.ofNat_le.2 this
      simpa using h4
     refine ⟨Dg.one ⟨h2,aD h1 h3⟩,oss,by simpa [val] using h1,fun hpos hm=>?_⟩
     have e1:(n+31)/32=1:=by omega
     rw[e1]at hm
     have hm:mixI (stp c s)<9223372036854775808:=hm
     have hpn':(2:Int)^(n-1)*2^(32-n)=2147483648:=by rw[← ae,show n-1+(32-n)=31 by omega];rfl
     have:mixI (stp c s)/4294967296/2^(32-n)<2^(n-1):=Int.ediv_lt_of_lt_mul hp (by rw[hpn'];omega)
     simpa [val] using this
    ·rw[if_neg h32]
     have hp2:(2:Int)^n=4294967296*2^(n-32):=by
      rw[show n=32+(n-32) by omega,ae,show 32+(n-32)-32=n-32 by omega];rfl
     refine ⟨fun y hy=>(List.mem_cons.1 hy).elim (fun e=>by subst e;exact hx) (i1 y),by simp[i2];omega,?_,fun _ hm=>?_⟩
     ·simp only[val]
      rw[hp2]
      omega
     ·simp only[val]
      by_cases h33:n=32
      ·subst h33
       have hm:mixI (stp c s)<9223372036854775808:=hm
       rw[show 32-32=0 from rfl,lm_zero]
       simp only[val]
       have:(2:Int)^(32-1)=2147483648:=by decide
       omega
      ·have e1:(n+31)/32=(n-32+31)/32+1:=by omega
       rw[e1,← it_shift]at hm
       have:=i4 om hm
       have hp3:(2:Int)^(n-1)=4294967296*2^(n-32-1):=by
        rw[show n-1=32+(n-32-1) by omega,ae];rfl
       rw[hp3]
       omega
/-! ### drawing below a number -/
/-- what the m-th try gives -/
def try_ (c s:Int) (size L m:Nat):List Int:=lm c (it c s (m*L)) size
/-- x and the state are what the first try below v gives -/
def Drawn (c s:Int) (v:Int) (x:List Int) (s':Int):Prop:=
 ∃ (size:Nat) (m:Nat),Len (v-1) size∧size≤4096∧s'=it c s ((m+1)*((size+31)/32))∧Trim (try_ c s size ((size+31)/32) m) x∧val x<v∧∀ m',m'<m→v≤val (try_ c s size ((size+31)/32) m')
theorem Drawn.ok {c s v:Int} {x:List Int} {s':Int} (h:Drawn c s v x s'):OkL x∧0≤val x∧val x<v:=by
 obtain ⟨size,m,h1,h2,h3,h4,h5,h6⟩:=h
 have hf:=lm_facts c size (it c s (m*((size+31)/32)))
 have hd:=h4.dg hf.1
 have hl:=h4.len
 have e:(try_ c s size ((size+31)/32) m).length=(size+31)/32:=hf.2.1
 exact ⟨⟨hd,h4.nz,om⟩,(val_bound hd).1,h5⟩
/-! ### an integer as a small one -/
theorem or_shift {a b:Int} (ha:0≤a∧a<4294967296) (hb:0≤b∧b<4294967296):bwOr .u64 a (b*4294967296)=a+b*4294967296:=by
 unfold bwOr
 have h1:(BitVec.ofInt 64 a ||| BitVec.ofInt 64 (b*4294967296)).toNat=a.toNat+b.toNat*4294967296:=by
  rw[BitVec.toNat_or]
  have e1:(BitVec.ofInt 64 a).toNat=a.toNat:=by simp only[BitVec.toNat_ofInt];omega
  have e2:(BitVec.ofInt 64 (b*4294967296)).toNat=2^32*b.toNat:=by simp only[BitVec.toNat_ofInt];omega
  rw[e1,e2,Nat.or_comm,← Nat.two_pow_add_eq_or_of_lt om]
  omega
 show IntKind.u64.wrap ((BitVec.ofInt 64 a ||| BitVec.ofInt 64 (b*4294967296)).toNat:Int)=_
 rw[h1,u64_wrap]
 omega
end Go.Gv.RI
namespace Go.Gv.RI
open Go Go.Gv Go.Gv.D
/-! ### digits to any base -/
def vb (b:Int):List Int→Int
 | []=>0
 | x::xs=>x+b*vb b xs
def Db (b:Int) (l:List Int):Prop:=∀ x∈l,0≤x∧x<b
section
variable {b:Int}
theorem vb_append (l m:List Int):vb b (l++m)=vb b l+b^l.length*vb b m:=by
 induction l with
 | nil=>simp[vb]
 | cons x l ih=>
   simp only[List.cons_append,vb,ih,aH,ak]
   grind
theorem vb_snoc (l:List Int) (x:Int):vb b (l++[x])=vb b l+b^l.length*x:=by
 rw[vb_append];simp[vb]
theorem vb_zeros:∀ k,vb b (au k 0)=0
 | 0=>rfl
 | k+1=>by simp[aB,vb,vb_zeros k]
theorem Db.append {l m:List Int} (ha:Db b l) (hb:Db b m):Db b (l++m):=fun x hx=>(List.mem_append.1 hx).elim (ha x) (hb x)
theorem Db.left {l m:List Int} (h:Db b (l++m)):Db b l:=fun x hx=>h x (List.mem_append_left _ hx)
theorem Db.right {l m:List Int} (h:Db b (l++m)):Db b m:=fun x hx=>h x (List.mem_append_right _ hx)
theorem Db.one {x:Int} (h:0≤x∧x<b):Db b [x]:=fun y hy=>by simp at hy;subst hy;exact h
theorem Db.nil:Db b []:=fun x hx=>by simp at hx
theorem Db.take {l:List Int} (h:Db b l) (i:Nat):Db b (l.take i):=fun x hx=>h x (ax hx)
theorem Db.drop {l:List Int} (h:Db b l) (i:Nat):Db b (l.drop i):=fun x hx=>h x (List.mem_of_mem_drop hx)
theorem Db.get {l:List Int} (h:Db b l) {i:Nat} (hi:i<l.length):0≤l[i]∧l[i]<b:=h _ (List.getElem_mem hi)
theorem vb_take_succ {a:List Int} {i:Nat} (h:i<a.length):vb b (a.take (i+1))=vb b (a.take i)+b^i*a[i]:=by
 rw[List.take_succ_eq_append_getElem h,vb_snoc,ao,aq om]
theorem vb_take_all {a:List Int} {i:Nat} (h:a.length≤i):vb b (a.take i)=vb b a:=by
 rw[aF h]
theorem vb_cut {a:List Int} {i:Nat} (h:i<a.length):vb b a=vb b (a.take i)+b^i*(a[i]+b*vb b (a.drop (i+1))):=by
 conv=>lhs;rw[cut h]
 rw[vb_append,ao,aq om]
 rfl
theorem vb_bound (hb:1<b) {l:List Int} (h:Db b l):0≤vb b l∧vb b l<b^l.length:=by
 induction l with
 | nil=>simp[vb]
 | cons x l ih=>
   have h1:=h x (ap ..)
   have h2:=ih fun y hy=>h y (al _ hy)
   simp only[vb,aH,ak]
   have h3:b*(vb b l+1)≤b*b^l.length:=ab om om
   have h4:0≤b*vb b l:=Int.mul_nonneg om h2.1
   rw[aE,Int.mul_comm b (b^l.length)]at h3
   omega
theorem pow_pos' (hb:1<b) (n:Nat):0<b^n:=aj om
theorem vb_big (hb:1<b) {l:List Int} (h:Db b l) (hn:Nz l) (hl:l≠[]):b^(l.length-1)≤vb b l:=by
 obtain ⟨a,x,rfl⟩:∃ a x,l=a++[x]:=⟨l.dropLast,l.getLast hl,(af hl).symm⟩
 have hx:x≠0:=fun e=>by
  rcases hn with h | h
  ·exact hl h
  ·subst e;simp at h
 have h1:=h x (by simp)
 have h2:=vb_bound hb h.left
 rw[vb_snoc]
 simp only[List.length_append,List.length_singleton,Nat.add_sub_cancel]
 have:b^a.length*1≤b^a.length*x:=ab om (by have:=pow_pos' hb a.length;omega)
 omega
theorem vb_mono (hb:1<b) {m n:Nat} (h:m≤n):b^m≤b^n:=by
 obtain ⟨d,rfl⟩:=Nat.exists_eq_add_of_le h
 rw[ae]
 have h1:=pow_pos' hb m
 have h2:=pow_pos' hb d
 have:b^m*1≤b^m*b^d:=ab om om
 omega
theorem vb_longer (hb:1<b) {l m:List Int} (hl:Db b l) (hm:Db b m) (hn:Nz m) (h:l.length<m.length):vb b l<vb b m:=by
 have h1:=(vb_bound hb hl).2
 have h2:=vb_big hb hm hn (fun e=>by subst e;simp at h)
 have h3:=vb_mono hb (show l.length≤m.length-1 by omega)
 omega
theorem vb_inj (hb:1<b):∀ {l m:List Int},Db b l→Db b m→l.length=m.length→vb b l=vb b m→l=m
 | [],[],_,_,_,_=>rfl
 | x::l,y::m,hl,hm,he,hv=>by
   have h1:=hl x (ap ..)
   have h2:=hm y (ap ..)
   simp only[vb]at hv
   have h3:=congrArg (· %b) hv
   simp only[Int.add_mul_emod_self_left]at h3
   rw[aG h1.1 h1.2,aG h2.1 h2.2]at h3
   subst h3
   have h4:b*vb b l=b*vb b m:=by omega
   have h5:=az om h4
   rw[vb_inj hb (fun z hz=>hl z (al _ hz)) (fun z hz=>hm z (al _ hz)) (by simpa using he) h5]
theorem vb_norm (hb:1<b) {l m:List Int} (hl:Db b l) (hm:Db b m) (nl:Nz l) (nm:Nz m) (hv:vb b l=vb b m):l=m:=by
 rcases Nat.lt_trichotomy l.length m.length with h | h | h
 ·have:=vb_longer hb hl hm nm h;omega
 ·exact vb_inj hb hl hm h hv
 ·have:=vb_longer hb hm hl nl h;omega
theorem vb_nil (hb:1<b) {l:List Int} (h:Db b l) (hn:Nz l) (hv:vb b l=0):l=[]:=vb_norm hb h Db.nil hn (.inl rfl) hv
theorem Trim.vb {l r:List Int} (h:Trim l r):vb b r=vb b l:=by
 obtain ⟨⟨k,e⟩,_⟩:=h
 rw[e,vb_append,vb_zeros]
 omega
theorem Trim.db {l r:List Int} (h:Trim l r) (hd:Db b l):Db b r:=by
 obtain ⟨⟨k,e⟩,_⟩:=h
 rw[e]at hd
 exact hd.left
end
theorem rtrim_tot {l:List Int} (hl:l.length<4611686018427387904):Tot (fun fuel=>ref3_trim fuel l) (Trim l):=
 ac (trim_tot hl) fun _ h=>aa h
/-- digits to the base 65536 -/
abbrev w (l:List Int):Int:=vb 65536 l
/-- a number of the reference -/
def Ok3 (l:List Int):Prop:=Db 65536 l∧Nz l∧l.length≤100000
theorem h16:(1:Int)<65536:=by decide
/-! ### limbs and digits -/
theorem Of3_tot {l:List Int} (hd:Dg l) (hl:l.length≤10000):Tot (fun fuel=>ref3_Of fuel l) (fun r=>Ok3 r∧w r=val l∧r.length≤2*l.length):=by
 unfold ref3_Of
 refine ac (P:=fun r=>Db 65536 r∧r.length=2*l.length∧w r=val l) ?_ fun r ⟨h1,h2,h3⟩=>?_
 ·refine av (fun st=>∃ i:Nat,st.2=(i:Int)∧i≤l.length∧Db 65536 st.1∧st.1.length=2*i∧w st.1=val (l.take i)) (fun st=>l.length-st.2.toNat)
   ⟨0,rfl,om,Db.nil,rfl,by simp[w,vb,val]⟩ fun st ⟨i,e,hi,g1,g2,g3⟩=>?_
  obtain ⟨out,z⟩:=st
  simp only at e g1 g2 g3
  subst e
  refine ag (fun h=>?_) (fun h=>?_)
  ·have h:i<l.length:=by have:((i:Nat):Int)<(l.length:Int):=odt h;omega
   have hx:=hd.get h
   have ht:=val_take_succ h
   refine ad (idx_nat h) (ad (idx_nat h) (ad (app_ok oss) (aa ?_)))
   have hw:IntKind.i64.wrap ((i:Int)+1)=((i+1:Nat):Int):=by rw[i64_small om om];omega
   have e1:IntKind.i64.wrap (l[i].tmod 65536)=l[i]%65536:=by rw[aw hx.1,i64_small om om]
   have e2:IntKind.i64.wrap (IntKind.u32.wrap (l[i].tdiv 65536))=l[i]/65536:=by rw[ay hx.1,u32_small om om,i64_small om om]
   simp only[hw,e1,e2]
   refine ⟨⟨i+1,rfl,om,g1.append (fun y hy=>?_),by simp[g2];omega,?_⟩,by show l.length-(((i+1:Nat):Int)).toNat<l.length-((i:Nat):Int).toNat;omega⟩
   ·rcases List.mem_cons.1 hy with h | h
    ·subst h;omega
    ·simp at h;subst h;omega
   ·rw[w,vb_append,g2,ht,← g3]
    simp only[vb]
    rw[show (65536:Int)^(2*i)=4294967296^i by rw[Int.pow_mul];rfl]
    have e3:l[i]%65536+65536*(l[i]/65536+65536*0)=l[i]:=by omega
    rw[e3]
  ·have h:i=l.length:=by have:¬ ((i:Nat):Int)<(l.length:Int):=odf h;omega
   subst h
   rw[List.take_length]at g3
   exact aa ⟨g1,g2,g3⟩
 ·refine ac (rtrim_tot om) fun t ht=>aa ⟨⟨ht.db h1,ht.nz,?_⟩,by rw[w,ht.vb];exact h3,?_⟩
  ·have:=ht.len;omega
  ·have:=ht.len;omega
end Go.Gv.RI
namespace Go.Gv.RI
open Go Go.Gv Go.Gv.D
/-! ### comparing -/
theorem Compare_tot {a b:List Int} (ha:Ok3 a) (hb:Ok3 b):Tot (fun fuel=>ref3_Compare fuel a b) (fun r=>(r<0↔w a<w b)∧(r=0↔w a=w b)):=by
 obtain ⟨da,na,la⟩:=ha
 obtain ⟨db,nb,lb⟩:=hb
 unfold ref3_Compare
 refine ag (fun h=>?_) (fun h=>?_)
 ·have h:a.length≠b.length:=fun e=>by rw[e]at h;simp at h
  refine ag (fun h1=>?_) (fun h1=>?_)
  ·have h1:((a.length:Nat):Int)<b.length:=odt h1
   have:=vb_longer h16 da db nb om
   exact aa ⟨⟨fun _=>this,fun _=>by decide⟩,⟨fun h=>(by cases h),fun h=>by unfold w at h;omega⟩⟩
  ·have h1:¬ ((a.length:Nat):Int)<b.length:=odf h1
   have:=vb_longer h16 db da na om
   exact aa ⟨⟨fun h=>(by cases h),fun h=>by unfold w at h;omega⟩,⟨fun h=>(by cases h),fun h=>by unfold w at h;omega⟩⟩
 ·have hl:a.length=b.length:=by
   have:((a.length:Int)!=(b.length:Int))=false:=h
   simp at this
   omega
  refine ar ?_
  rw[i64_small om om]
  refine ac (P:=fun x=>match x with | .inl ()=>a=b | .inr r=>(r<0↔w a<w b)∧(r=0↔w a=w b)) ?_ fun x hx=>?_
  ·refine av (fun st:Int=> -1≤st∧st<(a.length:Int)∧a.drop (st+1).toNat=b.drop (st+1).toNat) (fun st:Int=>(st+1).toNat) ⟨om,om,?_⟩ fun st ⟨h0,h1,h2⟩=>?_
   ·rw[show ((a.length:Int)-1+1).toNat=a.length by omega,List.drop_length,am om]
   ·refine ag (fun h=>?_) (fun h=>?_)
    ·have h3:0≤st:=odt h
     obtain ⟨i,rfl⟩:∃ i:Nat,st=(i:Int):=⟨st.toNat,om⟩
     have hia:i<a.length:=by omega
     have hib:i<b.length:=by omega
     have h2':a.drop (i+1)=b.drop (i+1):=h2
     have ea:idx a (i:Int)=some a[i]:=idx_nat hia
     have eb:idx b (i:Int)=some b[i]:=idx_nat hib
     have va:=vb_cut (b:=65536) hia
     have vb':=vb_cut (b:=65536) hib
     rw[h2']at va
     have ba:=vb_bound h16 (da.take i)
     have bb:=vb_bound h16 (db.take i)
     rw[ao,aq om]at ba bb
     have hpos:(0:Int)<65536^i:=aj ddc
     have key:∀ {x y z u v:Int},0≤u→v<65536^i→0≤v→x<y→v+65536^i*(x+z)<u+65536^i*(y+z):=fun {x y z u v} h1 h2 h3 h4=>by
      have:(65536:Int)^i*(x+z+1)≤65536^i*(y+z):=ab om om
      rw[aE _ _ 1]at this
      omega
     refine ad ea (ad eb (ag (fun hlt=>?_) (fun hlt=>ad ea (ad eb (ag (fun hgt=>?_) (fun hgt=>?_))))))
     ·have hlt:a[i]<b[i]:=odt hlt
      refine aa ?_
      have:w a<w b:=by
       rw[w,w,va,vb']
       exact key bb.1 ba.2 ba.1 hlt
      exact ⟨⟨fun _=>this,fun _=>by decide⟩,⟨fun h=>(by cases h),fun _=>by omega⟩⟩
     ·have hgt:b[i]<a[i]:=odt hgt
      refine aa ?_
      have:w b<w a:=by
       rw[w,w,va,vb']
       exact key ba.1 bb.2 bb.1 hgt
      exact ⟨⟨fun h=>(by cases h),fun _=>by omega⟩,⟨fun h=>(by cases h),fun _=>by omega⟩⟩
     ·have hlt:¬ a[i]<b[i]:=odf hlt
      have hgt:¬ b[i]<a[i]:=odf hgt
      have he:a[i]=b[i]:=by omega
      refine aa ?_
      have hw:IntKind.i64.wrap ((i:Int)-1)=(i:Int)-1:=i64_wrap om om
      show (_∧_∧_)∧_
      rw[hw]
      refine ⟨⟨om,om,?_⟩,om⟩
      rw[show ((i:Int)-1+1).toNat=i by omega,ai hia,ai hib,he,h2']
    ·have h3:¬ 0≤st:=odf h
     refine aa ?_
     rw[show (st+1).toNat=0 by omega]at h2
     exact h2
  ·cases x with
   | inl u=>
     have hx:a=b:=hx
     subst hx
     exact Tot.contl (aa ⟨⟨fun h=>(by cases h),fun h=>by omega⟩,⟨fun _=>rfl,fun _=>rfl⟩⟩)
   | inr r=>exact Tot.contr hx
/-! ### sums -/
theorem Plus3_tot {a b:List Int} (ha:Ok3 a) (hb:Ok3 b) (la:a.length≤20000) (lb:b.length≤20000):Tot (fun fuel=>ref3_Plus fuel a b) (fun r=>Ok3 r∧w r=w a+w b):=by
 obtain ⟨da,na,_⟩:=ha
 obtain ⟨db,nb,_⟩:=hb
 unfold ref3_Plus
 refine ac (P:=fun r=>Db 65536 r∧r.length≤20001∧w r=w a+w b) ?_ fun r ⟨h1,h2,h3⟩=>?_
 ·refine av (fun st=>∃ i:Nat,st.2.2=(i:Int)∧i≤20001∧Db 65536 st.1∧st.1.length=i∧0≤st.2.1∧st.2.1≤1∧(20000<i→st.2.1=0)∧w st.1+65536^i*st.2.1=w (a.take i)+w (b.take i)) (fun st=>20002-st.2.2.toNat)
   ⟨0,rfl,om,Db.nil,rfl,Int.le_refl 0,(by decide:(0:Int)≤1),fun h=>by omega,by simp[w,vb]⟩ fun st ⟨i,e,hi,g1,g2,g3,g4,g5,g6⟩=>?_
  obtain ⟨out,carry,k⟩:=st
  simp only at e g1 g2 g3 g4 g5 g6
  subst e
  refine ag (fun h=>?_) (fun h=>?_)
  ·have hi2:i≤20000:=by
    rw[Bool.or_eq_true,Bool.or_eq_true]at h
    rcases Nat.lt_or_ge 20000 i with h1 | h1
    ·have:=g5 h1
     rcases h with h | h | h<;>have h:=odt h<;>simp only at h<;>omega
    ·exact h1
   refine ac (P:=fun s=>0≤s∧s≤65536∧65536^i*s+w (a.take i)=65536^i*carry+w (a.take (i+1))) ?_ fun s ⟨k1,k2,k3⟩=>?_
   ·refine ag (fun hh=>?_) (fun hh=>?_)
    ·have hh:i<a.length:=by have:((i:Nat):Int)<(a.length:Int):=odt hh;omega
     have hx:=da.get hh
     have ht:=vb_take_succ (b:=65536) hh
     refine ad (idx_nat hh) (aa ?_)
     rw[i64_small om om]
     refine ⟨om,om,?_⟩
     show 65536^i*(carry+a[i])+vb 65536 (a.take i)=65536^i*carry+vb 65536 (a.take (i+1))
     rw[ht,aE]
     omega
    ·have hh:a.length≤i:=by have:¬ ((i:Nat):Int)<(a.length:Int):=odf hh;omega
     refine aa ⟨g3,by show carry≤65536;omega,?_⟩
     show _+vb 65536 _=_+vb 65536 _
     rw[vb_take_all hh,vb_take_all (a:=a) (i:=i+1) om]
   ·refine ac (P:=fun t=>0≤t∧t≤131071∧65536^i*t+w (b.take i)=65536^i*s+w (b.take (i+1))) ?_ fun t ⟨m1,m2,m3⟩=>?_
    ·refine ag (fun hh=>?_) (fun hh=>?_)
     ·have hh:i<b.length:=by have:((i:Nat):Int)<(b.length:Int):=odt hh;omega
      have hx:=db.get hh
      have ht:=vb_take_succ (b:=65536) hh
      refine ad (idx_nat hh) (aa ?_)
      rw[i64_small om om]
      refine ⟨om,om,?_⟩
      show _+vb 65536 _=_+vb 65536 _
      rw[ht,aE]
      omega
     ·have hh:b.length≤i:=by have:¬ ((i:Nat):Int)<(b.length:Int):=odf hh;omega
      refine aa ⟨k1,om,?_⟩
      show _+vb 65536 _=_+vb 65536 _
      rw[vb_take_all hh,vb_take_all (a:=b) (i:=i+1) om]
    ·refine ad (app_ok oss) (aa ?_)
     have hw:IntKind.i64.wrap ((i:Int)+1)=((i+1:Nat):Int):=by rw[i64_small om om];omega
     have e1:t.tmod 65536=t%65536:=aw m1
     have e2:IntKind.i64.wrap (t.tdiv 65536)=t/65536:=by rw[ay m1,i64_small om om]
     simp only[hw,e1,e2]
     refine ⟨⟨i+1,rfl,om,g1.append (Db.one om),by simp[g2],om,om,fun h=>?_,?_⟩,by show 20002-(((i+1:Nat):Int)).toNat<20002-((i:Nat):Int).toNat;omega⟩
     · -- both numbers are at their end
       have e3:w (a.take i)=w (a.take (i+1)):=by rw[w,w,vb_take_all om,vb_take_all om]
       have e4:w (b.take i)=w (b.take (i+1)):=by rw[w,w,vb_take_all om,vb_take_all om]
       have hp:(65536:Int)^i≠0:=Int.ne_of_gt (aj ddc)
       have e5:s=carry:=az hp om
       have e6:t=s:=az hp om
       omega
     ·rw[w,vb_snoc,g2,ak]
      have e3:t=t%65536+65536*(t/65536):=by omega
      have e4:vb 65536 out=w out:=rfl
      rw[e4]
      generalize (65536:Int)^i=P at*
      generalize t%65536=u at*
      generalize t/65536=v at*
      subst e3
      grind
  ·rw[Bool.or_eq_false_iff,Bool.or_eq_false_iff]at h
   obtain ⟨h1,h2,h3⟩:=h
   have h1:¬ ((i:Nat):Int)<(a.length:Int):=odf h1
   have h2:¬ ((i:Nat):Int)<(b.length:Int):=odf h2
   have h3:¬ carry>0:=odf h3
   refine aa ⟨g1,by show out.length≤_;omega,?_⟩
   have hc:carry=0:=by omega
   rw[hc,Int.mul_zero,Int.add_zero]at g6
   show w out=_
   rw[g6,w,w,vb_take_all om,vb_take_all om]
 ·refine ac (rtrim_tot om) fun t ht=>aa ⟨⟨ht.db h1,ht.nz,?_⟩,by rw[w,ht.vb];exact h3⟩
  have:=ht.len;omega
theorem Minus3_tot {a b:List Int} (ha:Ok3 a) (hb:Ok3 b) (hv:w b≤w a):Tot (fun fuel=>ref3_Minus fuel a b) (fun r=>Ok3 r∧w r=w a-w b):=by
 obtain ⟨da,na,la⟩:=ha
 obtain ⟨db,nb,lb⟩:=hb
 have hlen:b.length≤a.length:=by
  rcases Nat.lt_or_ge a.length b.length with h | h
  ·have:=vb_longer h16 da db nb h;unfold w at hv;omega
  ·exact h
 unfold ref3_Minus
 refine ac (P:=fun r=>Db 65536 r∧r.length=a.length∧w r=w a-w b) ?_ fun r ⟨h1,h2,h3⟩=>?_
 ·refine av (fun st=>∃ i:Nat,st.2.2=(i:Int)∧i≤a.length∧Db 65536 st.1∧st.1.length=i∧0≤st.2.1∧st.2.1≤1∧w st.1=w (a.take i)-w (b.take i)+65536^i*st.2.1) (fun st=>a.length-st.2.2.toNat)
   ⟨0,rfl,om,Db.nil,rfl,Int.le_refl 0,(by decide:(0:Int)≤1),by simp[w,vb]⟩ fun st ⟨i,e,hi,g1,g2,g3,g4,g5⟩=>?_
  obtain ⟨out,bor,k⟩:=st
  simp only at e g1 g2 g3 g4 g5
  subst e
  refine ag (fun h=>?_) (fun h=>?_)
  ·have h:i<a.length:=by have:((i:Nat):Int)<(a.length:Int):=odt h;omega
   have hx:=da.get h
   have ta:=vb_take_succ (b:=65536) h
   refine ad (idx_nat h) ?_
   have hxb:IntKind.i64.wrap (a[i]-bor)=a[i]-bor:=i64_small om om
   rw[hxb]
   refine ac (P:=fun x=> -65536≤x∧x<65536∧w (a.take (i+1))-w (b.take (i+1))=w (a.take i)-w (b.take i)+65536^i*(x+bor)) ?_ fun x ⟨k1,k2,k3⟩=>?_
   ·refine ag (fun hh=>?_) (fun hh=>?_)
    ·have hh:i<b.length:=by have:((i:Nat):Int)<(b.length:Int):=odt hh;omega
     have hy:=db.get hh
     have tb:=vb_take_succ (b:=65536) hh
     refine ad (idx_nat hh) (ar (aa ?_))
     rw[i64_small om om]
     refine ⟨om,om,?_⟩
     show vb 65536 _-vb 65536 _=_
     rw[ta,tb]
     show _=vb 65536 _-vb 65536 _+_
     grind
    ·have hh:b.length≤i:=by have:¬ ((i:Nat):Int)<(b.length:Int):=odf hh;omega
     refine aa ⟨om,om,?_⟩
     show vb 65536 _-vb 65536 _=vb 65536 _-vb 65536 _+_
     rw[ta,vb_take_all hh,vb_take_all (a:=b) (i:=i+1) om]
     grind
   ·refine ac (P:=fun j=>0≤j.1∧j.1≤1∧0≤j.2∧j.2<65536∧j.2=x+65536*j.1) ?_ fun j ⟨m1,m2,m3,m4,m5⟩=>?_
    ·refine ag (fun hh=>aa ?_) (fun hh=>aa ?_)
     ·have hh:x<0:=odt hh
      rw[i64_small om om]
      refine ⟨?_,?_,?_,?_,?_⟩<;>simp only<;>omega
     ·have hh:¬ x<0:=odf hh
      refine ⟨?_,?_,?_,?_,?_⟩<;>simp only<;>omega
    ·refine ad (app_ok oss) (aa ?_)
     have hw:IntKind.i64.wrap ((i:Int)+1)=((i+1:Nat):Int):=by rw[i64_small om om];omega
     simp only[hw]
     refine ⟨⟨i+1,rfl,om,g1.append (Db.one ⟨m3,m4⟩),by simp[g2],m1,m2,?_⟩,by show a.length-(((i+1:Nat):Int)).toNat<a.length-((i:Nat):Int).toNat;omega⟩
     rw[w,vb_snoc,g2,k3,ak,m5]
     show w out+_=_
     rw[g5]
     generalize (65536:Int)^i=P
     grind
  ·have h:i=a.length:=by have:¬ ((i:Nat):Int)<(a.length:Int):=odf h;omega
   subst h
   refine aa ⟨g1,g2,?_⟩
   show w out=_
   rw[w,w,w,vb_take_all (Nat.le_refl _),vb_take_all hlen]at g5
   have:=(vb_bound h16 g1).2
   rw[g2]at this
   unfold w at*
   rcases (by omega:bor=0∨bor=1) with h0 | h0
   ·rw[h0]at g5;omega
   ·rw[h0]at g5;omega
 ·refine ac (rtrim_tot om) fun t ht=>aa ⟨⟨ht.db h1,ht.nz,?_⟩,by rw[w,ht.vb];exact h3⟩
  have:=ht.len;omega
end Go.Gv.RI
namespace Go.Gv.RI
open Go Go.Gv Go.Gv.D
/-! ### binary digits -/
def b2 (b:Bool):Int:=if b then 1 else 0
def vbits (l:List Bool):Int:=vb 2 (l.map b2)
theorem b2_db (l:List Bool):Db 2 (l.map b2):=fun x hx=>by
 obtain ⟨b,_,rfl⟩:=List.mem_map.1 hx
 cases b<;>simp[b2]
theorem vbits_bound (l:List Bool):0≤vbits l∧vbits l<2^l.length:=by
 have:=vb_bound ddc (b2_db l)
 simpa [vbits] using this
theorem vbits_append (l m:List Bool):vbits (l++m)=vbits l+2^l.length*vbits m:=by
 unfold vbits
 rw[List.map_append,vb_append,List.length_map]
theorem vbits_snoc (l:List Bool) (b:Bool):vbits (l++[b])=vbits l+2^l.length*b2 b:=by
 rw[vbits_append];simp[vbits,vb]
/-- trimmed: the last digit is set -/
def TrimB (l r:List Bool):Prop:=(∃ k,l=r++au k false)∧(r=[]∨r.getLast? =some true)
theorem vbits_zeros (k:Nat):vbits (au k false)=0:=by
 unfold vbits
 rw[List.map_replicate]
 exact vb_zeros k
theorem TrimB.val {l r:List Bool} (h:TrimB l r):vbits r=vbits l:=by
 obtain ⟨⟨k,e⟩,_⟩:=h
 rw[e,vbits_append,vbits_zeros]
 omega
theorem TrimB.len {l r:List Bool} (h:TrimB l r):r.length≤l.length:=by
 obtain ⟨⟨k,e⟩,_⟩:=h
 rw[e];simp
/-- the number of digits of a trimmed list -/
theorem TrimB.Len {l r:List Bool} (h:TrimB l r):Len (vbits l) r.length:=by
 rw[← h.val]
 refine ⟨om,by have:=(vbits_bound r).2;simpa using this,fun hp=>?_⟩
 rcases h.2 with h0 | h0
 ·subst h0;simp at hp
 ·have hr:r≠[]:=fun e=>by subst e;simp at h0
  have e:=af hr
  have e2:r.getLast hr=true:=by
   have:=List.getLast?_eq_some_getLast hr
   rw[h0]at this
   exact (Option.some.inj this).symm
  rw[e2]at e
  have hv:=vbits_snoc r.dropLast true
  rw[e]at hv
  rw[hv]
  have:=(vbits_bound r.dropLast).1
  have hl:r.dropLast.length=r.length-1:=List.length_dropLast
  rw[hl]
  simp[b2]
  omega
theorem tailB_tot {l:List Bool} (hl:l.length<4611686018427387904):Tot (fun fuel=>loopN (fun (s71:(List Bool))=>(Option.bind (if (decide (((aI s71:Nat):Int)>0)) then (Option.bind (idx s71 (IntKind.i64.wrap (((aI s71:Nat):Int)-1))) fun x82=>(some ((!x82)))) else (some (false))) fun (j79:Bool)=>(if j79 then (Option.bind (sub s71 0 (IntKind.i64.wrap (((aI s71:Nat):Int)-1))) fun x89=>(some (.inl x89))) else (some (.inr (s71)))))) fuel l) (TrimB l):=by
 refine av (fun st=>∃ k,l=st++au k false) (fun st=>st.length) ⟨0,by simp⟩ fun st ⟨k,hk⟩=>?_
 have hsl:st.length≤l.length:=by rw[hk];simp
 by_cases h0:st=[]
 ·subst h0
  refine ac (P:=fun j=>j=false) (Tot.if_ rfl (aa rfl)) fun j hj=>?_
  subst hj
  exact Tot.if_ rfl (aa ⟨⟨k,hk⟩,.inl rfl⟩)
 ·have hp:0<st.length:=by
   cases st with
   | nil=>exact absurd rfl h0
   | cons=>simp
  have hw:IntKind.i64.wrap ((st.length:Int)-1)=((st.length-1:Nat):Int):=by rw[i64_small om om];omega
  rw[hw]
  have hlast:st.getLast? =some (st[st.length-1]'(om)):=by
   rw[List.getLast?_eq_getElem?,← List.getElem?_eq_getElem]
  refine ac (P:=fun j=>j= !(st[st.length-1]'(om))) (Tot.it (dtt om) (ad (idx_nat om) (aa rfl))) fun j hj=>?_
  subst hj
  generalize (st[st.length-1]'(om))=x at hlast
  refine ag (fun hx=>?_) (fun hx=>?_)
  ·have hx:x=false:=by simpa using hx
   subst hx
   refine ad (sub_ok om om om) (aa ⟨⟨k+1,?_⟩,?_⟩)
   ·have e:st=st.dropLast++[false]:=by
     have h1:=af h0
     have h2:st.getLast h0=false:=by
      have:=List.getLast?_eq_some_getLast h0
      rw[hlast]at this
      exact (Option.some.inj this).symm
     rw[h2]at h1
     exact h1.symm
    show l=(st.take (((st.length-1:Nat):Int)).toNat).drop (0:Int).toNat++_
    rw[show (((st.length-1:Nat):Int)).toNat=st.length-1 by omega,show (0:Int).toNat=0 from rfl,List.drop_zero,← List.dropLast_eq_take,hk]
    conv=>lhs;rw[e]
    rw[List.append_assoc,aB]
    rfl
   ·show ((st.take (((st.length-1:Nat):Int)).toNat).drop (0:Int).toNat).length<st.length
    simp
    omega
  ·have hx:x=true:=by simpa using hx
   subst hx
   exact aa ⟨⟨k,hk⟩,.inr hlast⟩
theorem b2_mod {x:Int} (h:0≤x):b2 (x.tmod 2==1)=x%2:=by
 rw[aw h]
 rcases (by omega:x%2=0∨x%2=1) with e | e<;>rw[e]<;>rfl
theorem mod_twice {a p:Int} (hp:0<p):a%(p*2)=a%p+p*(a/p%2):=by
 have h1:=Int.emod_add_mul_ediv a p
 have h2:=Int.emod_add_mul_ediv (a/p) 2
 have h3:a=(a%p+p*(a/p%2))+(p*2)*(a/p/2):=by grind
 have h4:=Int.emod_nonneg a (Int.ne_of_gt hp)
 have h5:=Int.emod_lt_of_pos a hp
 conv=>lhs;rw[h3]
 rw[Int.add_mul_emod_self_left]
 rcases (by omega:a/p%2=0∨a/p%2=1) with e | e<;>rw[e]<;>apply aG<;>omega
theorem Ones_tot {a:List Int} (ha:Ok3 a):Tot (fun fuel=>ref3_Ones fuel a) (fun r=>vbits r=w a∧(r=[]∨r.getLast? =some true)∧r.length≤16*a.length):=by
 obtain ⟨da,na,la⟩:=ha
 unfold ref3_Ones
 refine ac (P:=fun r=>vbits r=w a∧r.length=16*a.length) ?_ fun r ⟨h1,h2⟩=>?_
 ·refine av (fun st=>∃ i:Nat,st.2=(i:Int)∧i≤a.length∧st.1.length=16*i∧vbits st.1=w (a.take i)) (fun st=>a.length-st.2.toNat)
   ⟨0,rfl,om,rfl,by simp[w,vb,vbits]⟩ fun st ⟨i,e,hi,g1,g2⟩=>?_
  obtain ⟨out,k⟩:=st
  simp only at e g1 g2
  subst e
  refine ag (fun h=>?_) (fun h=>?_)
  ·have h:i<a.length:=by have:((i:Nat):Int)<(a.length:Int):=odt h;omega
   have hx:=da.get h
   have ta:=vb_take_succ (b:=65536) h
   refine ad (idx_nat h) ?_
   refine ac (P:=fun o=>o.length=16*(i+1)∧vbits o=w (a.take (i+1))) ?_ fun o ⟨k1,k2⟩=>?_
   ·refine av (fun st=>∃ j:Nat,st.2.2=(j:Int)∧j≤16∧st.1.length=16*i+j∧st.2.1=a[i]/2^j∧vbits st.1=w (a.take i)+65536^i*(a[i]%2^j)) (fun st=>16-st.2.2.toNat)
     ⟨0,rfl,om,g1,by simp,by simp[g2,Int.emod_one]⟩ fun st ⟨j,e,hj,m1,m2,m3⟩=>?_
    obtain ⟨o,x,z⟩:=st
    simp only at e m1 m2 m3
    subst e
    have hxx:0≤x:=by rw[m2];exact Int.ediv_nonneg hx.1 (aJ (aj ddc))
    have hx2:x<65536:=by rw[m2];exact Int.lt_of_le_of_lt (Int.ediv_le_self _ hx.1) hx.2
    refine ag (fun hh=>?_) (fun hh=>?_)
    ·have hh:j<16:=by have:((j:Nat):Int)<16:=odt hh;omega
     refine ad (app_ok oss) (aa ?_)
     have hw:IntKind.i64.wrap ((j:Int)+1)=((j+1:Nat):Int):=by rw[i64_small om om];omega
     have e2:IntKind.i64.wrap (x.tdiv 2)=x/2:=by rw[ay hxx,i64_small om om]
     simp only[hw,e2]
     have hp:(0:Int)<2^j:=aj ddc
     refine ⟨⟨j+1,rfl,om,by simp[m1];omega,?_,?_⟩,by show 16-(((j+1:Nat):Int)).toNat<16-((j:Nat):Int).toNat;omega⟩
     ·rw[m2,ak,Int.ediv_ediv_of_nonneg (aJ hp)]
     ·rw[vbits_snoc,m3,b2_mod hxx,m1,show 16*i+j=16*i+j from rfl,ae,Int.pow_mul,show (2:Int)^16=65536 by decide,m2]
      have e3:a[i]%2^(j+1)=a[i]%2^j+2^j*(a[i]/2^j%2):=by
       rw[ak]
       exact mod_twice hp
      rw[e3]
      grind
    ·have hh:j=16:=by have:¬ ((j:Nat):Int)<16:=odf hh;omega
     subst hh
     refine aa ⟨by show o.length=_;omega,?_⟩
     show vbits o=_
     rw[m3,show (2:Int)^16=65536 by decide,aG hx.1 hx.2,w,w,ta]
   ·refine aa ?_
    have hw:IntKind.i64.wrap ((i:Int)+1)=((i+1:Nat):Int):=by rw[i64_small om om];omega
    simp only[hw]
    exact ⟨⟨i+1,rfl,om,k1,k2⟩,by show a.length-(((i+1:Nat):Int)).toNat<a.length-((i:Nat):Int).toNat;omega⟩
  ·have h:i=a.length:=by have:¬ ((i:Nat):Int)<(a.length:Int):=odf h;omega
   subst h
   rw[List.take_length]at g2
   exact aa ⟨g2,g1⟩
 ·refine ac (tailB_tot om) fun t ht=>aa ⟨by rw[ht.val,h1],ht.2,?_⟩
  have:=ht.len
  omega
theorem Binary_tot {l:List Bool} (hl:l.length≤400000):Tot (fun fuel=>ref3_Binary fuel l) (fun r=>Ok3 r∧w r=vbits l):=by
 unfold ref3_Binary
 refine ac (P:=fun r=>Db 65536 r∧r.length≤(l.length+15)/16∧w r=vbits l) ?_ fun r ⟨h1,h2,h3⟩=>?_
 ·refine av (fun st=>∃ i:Nat,st.2=((16*i:Nat):Int)∧16*i≤l.length+15∧Db 65536 st.1∧st.1.length=i∧w st.1=vbits (l.take (16*i))) (fun st=>l.length+16-st.2.toNat)
   ⟨0,rfl,om,Db.nil,rfl,by simp[w,vb,vbits]⟩ fun st ⟨i,e,hi,g1,g2,g3⟩=>?_
  obtain ⟨out,z⟩:=st
  simp only at e g1 g2 g3
  subst e
  refine ag (fun h=>?_) (fun h=>?_)
  ·have h:16*i<l.length:=by have:((16*i:Nat):Int)<(l.length:Int):=odt h;omega
   refine ac (P:=fun x=>x=vbits ((l.drop (16*i)).take 16)) ?_ fun x hx=>?_
   ·refine av (fun st=>∃ j:Nat,st.2=(j:Int)-1∧j≤16∧st.1=vbits (((l.drop (16*i)).take 16).drop j)) (fun st=>(st.2+1).toNat)
     ⟨16,rfl,om,by rw[am oss];rfl⟩ fun st ⟨j,e,hj,m1⟩=>?_
    obtain ⟨x,z⟩:=st
    simp only at e m1
    subst e
    have hlt:(((l.drop (16*i)).take 16).drop j).length≤16:=by simp;omega
    have hxb:=vbits_bound (((l.drop (16*i)).take 16).drop j)
    have hxb2:vbits (((l.drop (16*i)).take 16).drop j)<65536:=aD hxb.2 (by
     have:=vb_mono (b:=2) ddc hlt
     exact this)
    rw[← m1]at hxb hxb2
    refine ag (fun hh=>?_) (fun hh=>?_)
    ·have hh:1≤j:=by have:(j:Int)-1≥0:=odt hh;omega
     have hw:IntKind.i64.wrap (((16*i:Nat):Int)+((j:Int)-1))=((16*i+(j-1):Nat):Int):=by rw[i64_small om om];omega
     have hw2:IntKind.i64.wrap ((j:Int)-1-1)=((j-1:Nat):Int)-1:=by rw[i64_small om om];omega
     simp only[hw,hw2]
     refine ac (P:=fun y=>y=l.getD (16*i+(j-1)) false) ?_ fun y hy=>?_
     ·refine ag (fun hq=>?_) (fun hq=>?_)
      ·have hq:16*i+(j-1)<l.length:=by have:((16*i+(j-1):Nat):Int)<(l.length:Int):=odt hq;omega
       exact ad (idx_nat hq) (aa (by simp[List.getD,hq]))
      ·have hq:l.length≤16*i+(j-1):=by have:¬ ((16*i+(j-1):Nat):Int)<(l.length:Int):=odf hq;omega
       exact aa (by simp[List.getD,hq])
     ·have hstep:vbits (((l.drop (16*i)).take 16).drop (j-1))=b2 y+2*x:=by
       subst hy
       rw[m1]
       by_cases hq:16*i+(j-1)<l.length
       ·have hj1:j-1<((l.drop (16*i)).take 16).length:=by simp;omega
        rw[ai hj1,show j-1+1=j by omega]
        have:((l.drop (16*i)).take 16)[j-1]'hj1=l.getD (16*i+(j-1)) false:=by
         simp[List.getD,hq]
        rw[this]
        rfl
       ·rw[am oss,am oss]
        simp[List.getD,Nat.not_lt.1 hq,vbits,vb,b2]
      refine ac (P:=fun q=>q=b2 y+2*x) ?_ fun q hq=>?_
      ·have hw3:IntKind.i64.wrap (x*2)=x*2:=i64_small om om
       rw[hw3]
       refine ag (fun hy1=>ar (aa ?_)) (fun hy1=>aa ?_)
       ·rw[i64_small om om,hy1]
        simp[b2];omega
       ·rw[hy1]
        simp[b2];omega
      ·refine aa ⟨⟨j-1,rfl,om,by rw[hq,hstep]⟩,?_⟩
       show (((j-1:Nat):Int)-1+1).toNat<((j:Int)-1+1).toNat
       omega
    ·have hh:j=0:=by have:¬ (j:Int)-1≥0:=odf hh;omega
     subst hh
     refine aa ?_
     show x=_
     rw[m1,List.drop_zero]
   ·refine ad (app_ok oss) (aa ?_)
    have hw:IntKind.i64.wrap (((16*i:Nat):Int)+16)=((16*(i+1):Nat):Int):=by rw[i64_small om om];omega
    simp only[hw]
    have hb:=vbits_bound ((l.drop (16*i)).take 16)
    have hb2:vbits ((l.drop (16*i)).take 16)<65536:=aD hb.2 (by
     have:=vb_mono (b:=2) ddc (show ((l.drop (16*i)).take 16).length≤16 by simp;omega)
     exact this)
    refine ⟨⟨i+1,rfl,om,g1.append (Db.one om),by simp[g2],?_⟩,by show l.length+16-(((16*(i+1):Nat):Int)).toNat<l.length+16-((16*i:Nat):Int).toNat;omega⟩
    rw[w,vb_snoc,g2,hx]
    have e1:l.take (16*(i+1))=l.take (16*i)++(l.drop (16*i)).take 16:=by
     rw[show 16*(i+1)=16*i+16 by omega,List.take_add]
    rw[e1,vbits_append,ao,aq om,Int.pow_mul,show (2:Int)^16=65536 by decide,← g3]
  ·have h:l.length≤16*i:=by have:¬ ((16*i:Nat):Int)<(l.length:Int):=odf h;omega
   refine aa ⟨g1,by show out.length≤_;omega,?_⟩
   rw[g3,aF h]
 ·refine ac (rtrim_tot om) fun t ht=>aa ⟨⟨ht.db h1,ht.nz,?_⟩,by rw[w,ht.vb];exact h3⟩
  have:=ht.len;omega
/-- a small number's absolute value -/
theorem Number_tot {n:Int} (h0: -4611686018427387904<n) (h1:n<4611686018427387904):Tot (fun fuel=>ref3_Number fuel n) (fun r=>r.1=decide (n<0)∧Ok3 r.2∧w r.2=n.natAbs):=by
 unfold ref3_Number
 refine ac (P:=fun l=>vbits l=n.natAbs∧l.length≤64) ?_ fun l ⟨g1,g2⟩=>?_
 ·refine av (fun st=>∃ i:Nat,i≤63∧st.2.length=i∧(n.natAbs:Int)=vbits st.2+2^i*st.1.natAbs∧(st.1.natAbs:Int)<2^(63-i)) (fun st=>st.1.natAbs)
   ⟨0,by omega,rfl,by simp[vbits,vb],by show ((n.natAbs:Nat):Int)<2^63;have:(2:Int)^63=9223372036854775808:=by decide
                                        omega⟩ fun st ⟨i,hi,m1,m2,m3⟩=>?_
  obtain ⟨x,l⟩:=st
  simp only at m1 m2 m3
  refine ag (fun hh=>?_) (fun hh=>?_)
  ·have hh:x≠0:=by simpa using hh
   have hi2:i<63:=by
    rcases Nat.lt_or_ge i 63 with h | h
    ·exact h
    ·rw[show 63-i=0 by omega]at m3
     simp at m3
     omega
   have hxb:(x.natAbs:Int)<9223372036854775808:=aD m3 (by
    have:=vb_mono (b:=2) ddc (show 63-i≤63 by omega)
    exact this)
   have hdv:(x.tdiv 2).natAbs=x.natAbs/2:=by rw[Int.natAbs_tdiv];rfl
   have hmod:(x.tmod 2 !=0)=decide (x.natAbs%2=1):=by
    have e:(x.tmod 2).natAbs=x.natAbs%2:=by rw[Int.natAbs_tmod];rfl
    by_cases h2:x.natAbs%2=1
    ·rw[dtt h2]
     exact bne_iff_ne.2 (fun e0=>by rw[e0]at e;simp at e;omega)
    ·rw[dff h2]
     have:x.tmod 2=0:=Int.natAbs_eq_zero.1 om
     rw[this];rfl
   have hw:IntKind.i64.wrap (x.tdiv 2)=x.tdiv 2:=i64_wrap om om
   refine ad (app_ok oss) (aa ?_)
   simp only[hw]
   refine ⟨⟨i+1,om,by simp[m1],?_,?_⟩,by show (x.tdiv 2).natAbs<x.natAbs;omega⟩
   ·show (n.natAbs:Int)=vbits (l++[x.tmod 2 !=0])+2^(i+1)*((x.tdiv 2).natAbs:Int)
    rw[vbits_snoc,m1,m2,hmod,hdv,ak]
    have e1:b2 (decide (x.natAbs%2=1))=((x.natAbs%2:Nat):Int):=by
     rcases Nat.mod_two_eq_zero_or_one x.natAbs with h | h<;>rw[h]<;>rfl
    rw[e1]
    have e2:(x.natAbs:Int)=((x.natAbs%2:Nat):Int)+2*((x.natAbs/2:Nat):Int):=by omega
    generalize (2:Int)^i=P
    generalize ((x.natAbs%2:Nat):Int)=u at*
    generalize ((x.natAbs/2:Nat):Int)=v at*
    rw[e2]
    grind
   ·show ((x.tdiv 2).natAbs:Int)<2^(63-(i+1))
    rw[hdv]
    have e:(2:Int)^(63-i)=2^(63-(i+1))*2:=by rw[← ak];congr 1;omega
    omega
  ·have hh:x=0:=by simpa using hh
   subst hh
   refine aa ⟨?_,by show l.length≤64;omega⟩
   show vbits l=_
   rw[m2];simp
 ·refine ac (Binary_tot om) fun r ⟨r1,r2⟩=>aa ⟨rfl,r1,?_⟩
  show w r=_
  rw[r2,g1]
end Go.Gv.RI
namespace Go.Gv.RI
open Go Go.Gv Go.Gv.D
/-! ### integers of the reference -/
theorem w_nonneg {l:List Int} (h:Ok3 l):0≤w l:=(vb_bound h16 h.1).1
theorem w_zero {l:List Int} (h:Ok3 l) (hv:w l=0):l=[]:=vb_nil h16 h.1 h.2.1 hv
theorem Ok3.nil:Ok3 []:=⟨Db.nil,.inl rfl,ddc⟩
theorem pos_of {l:List Int} (h:Ok3 l):(0<l.length)↔0<w l:=by
 have h1:=w_nonneg h
 constructor
 ·intro hp
  rcases Int.lt_or_eq_of_le h1 with h2 | h2
  ·exact h2
  ·have:=w_zero h h2.symm
   subst this;simp at hp
 ·intro hp
  cases l with
  | nil=>simp[w,vb]at hp
  | cons=>simp
end Go.Gv.RI
