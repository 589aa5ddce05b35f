import Derived.Test.YtbiopeiafkldiaaGreatDoorGt
import Derived.Test.YtbiopeiafkldiaaGreatDoorD
set_option linter.all false
namespace Go.Gv.RI
open Go Go.Gv Go.Gv.D
/-! ### mixing -/
def mixI (x:Int):Int:=
 let y:=IntKind.u64.wrap (bwXor .u64 x (x.fdiv (2^30))*13787848793156543929)
 let z:=IntKind.u64.wrap (bwXor .u64 y (y.fdiv (2^27))*10723151780598845931)
 bwXor .u64 z (z.fdiv (2^31))
def U (x:Int):Prop:=0≤x∧x<18446744073709551616
theorem U_wrap (x:Int):U (IntKind.u64.wrap x):=by
 rw[u64_wrap];unfold U;omega
theorem U_xor (a b:Int):U (bwXor .u64 a b):=U_wrap _
/-! ### steps -/
def stp (c s:Int):Int:=IntKind.u64.wrap (IntKind.u64.wrap (s*6364136223846793005)+c)
def it (c s:Int):Nat→Int
 | 0=>s
 | k+1=>stp c (it c s k)
theorem it_add (c s:Int) (n:Nat):∀ m,it c (it c s n) m=it c s (n+m)
 | 0=>rfl
 | m+1=>by show stp c _=stp c _;rw[it_add c s n m];rfl
theorem it_shift (c s:Int):∀ m,it c (stp c s) m=it c s (m+1):=fun m=>by
 have:=it_add c s 1 m
 rw[Nat.add_comm]at this
 exact this
/-! ### skipping: affine maps modulo 2^64 -/
/-! ### seeds -/
theorem valid_eq (fuel:Nat) (a:Bool × List Int):integer_Valid fuel a=ref3_IntOk fuel a:=rfl
def okI (a:Bool × List Int):Bool:=decide (a.2.length≤128)&&(if a.2.length=0 then !a.1 else a.2.getLast? !=some 0)
theorem IntOk_eq (fuel:Nat) (a:Bool × List Int):ref3_IntOk fuel a=some (okI a):=by
 obtain ⟨b,l⟩:=a
 unfold ref3_IntOk okI
 by_cases h:l.length≤128
 ·have h1:decide ((l.length:Int)≤128)=true:=decide_eq_true (by omega)
  simp only[h1,h,decide_true,Bool.true_and,if_true]
  have hi:0<l.length→idx l (IntKind.i64.wrap ((l.length:Int)-1))=l.getLast?:=fun hp=>by
   rw[i64_wrap (by omega) (by omega),List.getLast?_eq_getElem?]
   unfold idx
   rw[if_pos (by omega),show ((l.length:Int)-1).toNat=l.length-1 by omega]
  by_cases h0:l.length=0
  ·have h2:((l.length:Int)==0)=true:=by rw[h0];rfl
   simp only[h0,if_true]
   cases b<;>rfl
  ·have h2:((l.length:Int)==0)=false:=beq_eq_false_iff_ne.2 (by omega)
   have h3:decide ((l.length:Int)>0)=true:=decide_eq_true (by omega)
   simp only[h2,h3,if_true,hi (by omega),if_neg h0]
   cases hl:l.getLast? with
   | none=>rw[List.getLast?_eq_none_iff]at hl;subst hl;exact absurd rfl h0
   | some x=>simp;rfl
 ·have h1:decide ((l.length:Int)≤128)=false:=decide_eq_false (by omega)
  simp only[h1]
  simp[h]
end Go.Gv.RI
namespace Go.Gv.RI
open Go Go.Gv Go.Gv.D
/-! ### the generator has its full period -/
def aA (n:Nat):Int:=6364136223846793005^n
def aC (c:Int):Nat→Int
 | 0=>0
 | n+1=>6364136223846793005*aC c n+c
theorem aA_add (m n:Nat):aA (m+n)=aA m*aA n:=Int.pow_add ..
theorem aC_add (c:Int) (m n:Nat):aC c (m+n)=aA m*aC c n+aC c m:=by
 induction m with
 | zero=>simp[aA,aC]
 | succ m ih=>
   rw[show m+1+n=(m+n)+1 by omega]
   show 6364136223846793005*aC c (m+n)+c=aA (m+1)*aC c n+(6364136223846793005*aC c m+c)
   rw[ih,show aA (m+1)=6364136223846793005*aA m by rw[aA_add,Int.mul_comm];rfl]
   grind
/-- 2^k steps: s ↦ s + 2^k · (odd) modulo 2^(k+2) of s -/
def Jump (c:Int) (n k:Nat):Prop:=∃ u d:Int,aA n=1+2^(k+2)*u∧aC c n=2^k*(1+2*d)
theorem Jump.one {c:Int} (hc:c%2=1):Jump c 1 0:=⟨1591034055961698251,c/2,by decide,by
 show 6364136223846793005*0+c=2^0*(1+2*(c/2))
 omega⟩
theorem Jump.double {c:Int} {n k:Nat} (h:Jump c n k):Jump c (n+n) (k+1):=by
 obtain ⟨u,d,h1,h2⟩:=h
 refine ⟨u+2^(k+1)*u*u,d+2^k*u+2*d*(2^k*u),?_,?_⟩
 ·rw[aA_add,h1,show (2:Int)^(k+1+2)=8*2^k by rw[Int.pow_add];grind,show (2:Int)^(k+2)=4*2^k by rw[Int.pow_add];grind,show (2:Int)^(k+1)=2*2^k by rw[Int.pow_add];grind]
  grind
 ·rw[aC_add,h1,h2,show (2:Int)^(k+2)=4*2^k by rw[Int.pow_add];grind,show (2:Int)^(k+1)=2*2^k by rw[Int.pow_add];grind]
  generalize (2:Int)^k=q
  grind
theorem Jump.pow {c:Int} {n k:Nat} (h:Jump c n k):∀ i,Jump c (n*2^i) (k+i)
 | 0=>by simpa using h
 | i+1=>by
   have:=(Jump.pow h i).double
   rwa [show n*2^i+n*2^i=n*2^(i+1) by rw[Nat.pow_succ,← Nat.mul_assoc];omega]at this
theorem Jump.odd {c:Int} {n k:Nat} (h:Jump c n k):∀ o,Jump c (n*(2*o+1)) k
 | 0=>by simpa using h
 | o+1=>by
   obtain ⟨u,d,h1,h2⟩:=Jump.odd h o
   obtain ⟨v,e,g1,g2⟩:=h
   have hn:n*(2*(o+1)+1)=n+(n+n*(2*o+1)):=by
    rw[show 2*(o+1)+1=1+(1+(2*o+1)) by omega,Nat.mul_add,Nat.mul_add]
    omega
   rw[hn]
   refine ⟨u+v*(2+2^(k+2)*v)*(1+2^(k+2)*u),?_,?_,?_⟩
   rotate_left
   ·rw[aA_add,aA_add,h1,g1]
    grind
   ·rw[aC_add,aC_add,h2,g1,g2,show (2:Int)^(k+2)=4*2^k by rw[Int.pow_add];grind]
    have:∀ p:Int,(1+4*p*v)*((1+4*p*v)*(p*(1+2*d))+p*(1+2*e))+p*(1+2*e)=p*(1+2*(d+(2*p*v)*(2+4*p*v)*(1+2*d)+(1+2*p*v)*(1+2*e))):=fun p=>by grind
    exact this _
theorem Jump.of {c:Int} (hc:c%2=1) {v o:Nat}:Jump c (2^v*(2*o+1)) v:=by
 have h:=(Jump.one hc).pow v
 rw[Nat.one_mul,Nat.zero_add]at h
 exact h.odd o
end Go.Gv.RI
namespace Go.Gv.RI
open Go Go.Gv Go.Gv.D
/-! ### limbs -/
def val:List Int→Int
 | []=>0
 | x::xs=>x+4294967296*val xs
def Dg (l:List Int):Prop:=∀ x∈l,0≤x∧x<4294967296
def Nz (l:List Int):Prop:=l=[]∨l.getLast? ≠some 0
theorem val_append (a b:List Int):val (a++b)=val a+4294967296^a.length*val b:=by
 induction a with
 | nil=>simp[val]
 | cons x a ih=>
   simp only[List.cons_append,val,ih,List.length_cons,Int.pow_succ]
   grind
theorem val_zeros:∀ k,val (List.replicate k 0)=0
 | 0=>rfl
 | k+1=>by simp[List.replicate_succ,val,val_zeros k]
theorem Dg.append {a b:List Int} (ha:Dg a) (hb:Dg b):Dg (a++b):=fun x hx=>(List.mem_append.1 hx).elim (ha x) (hb x)
theorem Dg.left {a b:List Int} (h:Dg (a++b)):Dg a:=fun x hx=>h x (List.mem_append_left _ hx)
theorem val_bound {l:List Int} (h:Dg l):0≤val l∧val l<4294967296^l.length:=by
 induction l with
 | nil=>simp[val]
 | cons x l ih=>
   have h1:=h x (List.mem_cons_self ..)
   have h2:=ih fun y hy=>h y (List.mem_cons_of_mem _ hy)
   simp only[val,List.length_cons,Int.pow_succ]
   generalize (4294967296:Int)^l.length=p at*
   omega
theorem val_big {l:List Int} (h:Dg l) (hn:Nz l) (hl:l≠[]):4294967296^(l.length-1)≤val l:=by
 obtain ⟨a,x,rfl⟩:∃ a x,l=a++[x]:=⟨l.dropLast,l.getLast hl,(List.dropLast_concat_getLast hl).symm⟩
 have hx:x≠0:=fun e=>by
  rcases hn with h | h
  ·exact hl h
  ·subst e;simp at h
 have h1:=h x (by simp)
 have h2:=val_bound h.left
 rw[val_append]
 simp only[List.length_append,List.length_singleton,Nat.add_sub_cancel,val]
 generalize hp:(4294967296:Int)^a.length=p at*
 have hpp:0<p:=by rw[← hp];exact Int.pow_pos (by decide)
 have:p*1≤p*(x+4294967296*0):=Int.mul_le_mul_of_nonneg_left (by omega) (by omega)
 omega
theorem pow_mono {a b:Nat} (h:a≤b):(4294967296:Int)^a≤4294967296^b:=by
 obtain ⟨d,rfl⟩:=Nat.exists_eq_add_of_le h
 rw[Int.pow_add]
 have h1:(0:Int)<4294967296^a:=Int.pow_pos (by decide)
 have h2:(0:Int)<4294967296^d:=Int.pow_pos (by decide)
 have:(4294967296:Int)^a*1≤4294967296^a*4294967296^d:=Int.mul_le_mul_of_nonneg_left (by omega) (by omega)
 omega
theorem val_longer {a b:List Int} (ha:Dg a) (hb:Dg b) (hn:Nz b) (h:a.length<b.length):val a<val b:=by
 have h1:=(val_bound ha).2
 have h2:=val_big hb hn (fun e=>by subst e;simp at h)
 have h3:=pow_mono (show a.length≤b.length-1 by omega)
 omega
theorem val_inj:∀ {a b:List Int},Dg a→Dg b→a.length=b.length→val a=val b→a=b
 | [],[],_,_,_,_=>rfl
 | x::a,y::b,ha,hb,hl,hv=>by
   have h1:=ha x (List.mem_cons_self ..)
   have h2:=hb y (List.mem_cons_self ..)
   simp only[val]at hv
   have e:x=y∧val a=val b:=by omega
   rw[e.1,val_inj (fun z hz=>ha z (List.mem_cons_of_mem _ hz)) (fun z hz=>hb z (List.mem_cons_of_mem _ hz)) (by simpa using hl) e.2]
theorem norm_inj {a b:List Int} (ha:Dg a) (hb:Dg b) (na:Nz a) (nb:Nz b) (hv:val a=val b):a=b:=by
 rcases Nat.lt_trichotomy a.length b.length with h | h | h
 ·have:=val_longer ha hb nb h;omega
 ·exact val_inj ha hb h hv
 ·have:=val_longer hb ha na h;omega
theorem val_zero {l:List Int} (h:Dg l) (hn:Nz l) (hv:val l=0):l=[]:=norm_inj h (fun x hx=>by simp at hx) hn (.inl rfl) hv
/-! ### leading zeros are taken away -/
def trimLoop (fuel:Nat) (l:List Int):Option (List Int):=loopN (fun (s3:(List Int))=>(Option.bind (if (decide (((List.length s3:Nat):Int)>0)) then (Option.bind (idx s3 (IntKind.i64.wrap (((List.length s3:Nat):Int)-1))) fun x13=>(some ((x13==0)))) else (some (false))) fun (j10:Bool)=>(if j10 then (Option.bind (sub s3 0 (IntKind.i64.wrap (((List.length s3:Nat):Int)-1))) fun x19=>(some (.inl x19))) else (some (.inr (s3)))))) fuel l
def Trim (l r:List Int):Prop:=(∃ k,l=r++List.replicate k 0)∧Nz r
theorem trim_tot {l:List Int} (hl:l.length<4611686018427387904):Tot (fun fuel=>trimLoop fuel l) (Trim l):=by
 unfold trimLoop
 refine Tot.loop (fun st=>∃ k,l=st++List.replicate k 0) (fun st=>st.length) ⟨0,by simp⟩ fun st ⟨k,hk⟩=>?_
 have hsl:st.length≤l.length:=by rw[hk];simp
 by_cases h0:st=[]
 ·subst h0
  refine Tot.bindq (P:=fun j=>j=false) (Tot.if_ rfl (Tot.ret rfl)) fun j hj=>?_
  subst hj
  exact Tot.if_ rfl (Tot.ret ⟨⟨k,hk⟩,.inl rfl⟩)
 ·have hp:0<st.length:=by
   cases st with
   | nil=>exact absurd rfl h0
   | cons=>simp
  have hw:IntKind.i64.wrap ((st.length:Int)-1)=(st.length:Int)-1:=i64_wrap (by omega) (by omega)
  rw[hw]
  have hi:=idx_ok (xs:=st) (i:=(st.length:Int)-1) (by omega) (by omega)
  have hlast:st.getLast? =some (st[((st.length:Int)-1).toNat]'(by omega)):=by
   rw[List.getLast?_eq_getElem?,← List.getElem?_eq_getElem]
   congr 1
   omega
  generalize (st[((st.length:Int)-1).toNat]'(by omega))=x at hi hlast
  refine Tot.bindq (P:=fun j=>j=(x==0)) (Tot.it (decide_eq_true (by omega)) (Tot.bind0 hi (Tot.ret rfl))) fun j hj=>?_
  subst hj
  refine Tot.ite (fun hx=>?_) (fun hx=>?_)
  ·have hx:x=0:=by simpa using hx
   subst hx
   refine Tot.bind0 (sub_ok (by omega) (by omega) (by omega)) (Tot.ret ⟨⟨k+1,?_⟩,?_⟩)
   ·have e:st=st.dropLast++[0]:=by
     have h1:=List.dropLast_concat_getLast h0
     have h2:st.getLast h0=0:=by
      have:=List.getLast?_eq_some_getLast h0
      rw[hlast]at this
      exact (Option.some.inj this).symm
     rw[h2]at h1
     exact h1.symm
    show l=(st.take ((st.length:Int)-1).toNat).drop (0:Int).toNat++_
    rw[show ((st.length:Int)-1).toNat=st.length-1 by omega,show (0:Int).toNat=0 from rfl,List.drop_zero,← List.dropLast_eq_take,hk]
    conv=>lhs;rw[e]
    rw[List.append_assoc,List.replicate_succ]
    rfl
   ·show ((st.take ((st.length:Int)-1).toNat).drop (0:Int).toNat).length<st.length
    simp
    omega
  ·have hx:x≠0:=by simpa using hx
   refine Tot.ret ⟨⟨k,hk⟩,.inr ?_⟩
   rw[hlast]
   simpa using hx
theorem Trim.val {l r:List Int} (h:Trim l r):val r=val l:=by
 obtain ⟨⟨k,e⟩,_⟩:=h
 rw[e,val_append,val_zeros]
 omega
theorem Trim.dg {l r:List Int} (h:Trim l r) (hd:Dg l):Dg r:=by
 obtain ⟨⟨k,e⟩,_⟩:=h
 rw[e]at hd
 exact hd.left
theorem Trim.nz {l r:List Int} (h:Trim l r):Nz r:=h.2
theorem Trim.len {l r:List Int} (h:Trim l r):r.length≤l.length:=by
 obtain ⟨⟨k,e⟩,_⟩:=h
 rw[e];simp
theorem ntrim_tot {l:List Int} (hl:l.length<4611686018427387904):Tot (fun fuel=>natural_trim fuel l) (Trim l):=
 Tot.bindq (trim_tot hl) fun _ h=>Tot.ret h
/-! ### comparing -/
def Cmp (a b:List Int) (r:Int):Prop:=(r<0↔val a<val b)∧(r=0↔val a=val b)
theorem cut {a:List Int} {i:Nat} (h:i<a.length):a=a.take i++(a[i]::a.drop (i+1)):=by
 rw[← List.drop_eq_getElem_cons h,List.take_append_drop]
theorem val_cut {a:List Int} {i:Nat} (h:i<a.length):val a=val (a.take i)+4294967296^i*(a[i]+4294967296*val (a.drop (i+1))):=by
 conv=>lhs;rw[cut h]
 rw[val_append,List.length_take,Nat.min_eq_left (by omega)]
 rfl
theorem compare_tot {a b:List Int} (ha:Dg a) (hb:Dg b) (na:Nz a) (nb:Nz b) (la:a.length≤1000) (lb:b.length≤1000):Tot (fun fuel=>natural_compare fuel a b) (Cmp a b):=by
 unfold natural_compare
 refine Tot.ite (fun h=>?_) (fun h=>?_)
 ·have h:a.length≠b.length:=fun e=>by rw[e]at h;simp at h
  refine Tot.some_bind (Tot.ret ?_)
  rw[i64_wrap (by omega) (by omega)]
  rcases Nat.lt_or_ge a.length b.length with h1 | h1
  ·have:=val_longer ha hb nb h1
   exact ⟨⟨fun _=>this,fun _=>by omega⟩,⟨fun _=>by omega,fun _=>by omega⟩⟩
  ·have:=val_longer hb ha na (show b.length<a.length by omega)
   exact ⟨⟨fun _=>by omega,fun _=>by omega⟩,⟨fun _=>by omega,fun _=>by omega⟩⟩
 ·have hl:a.length=b.length:=by
   have:((a.length:Int)!=(b.length:Int))=false:=h
   simp at this
   omega
  refine Tot.some_bind ?_
  rw[i64_wrap (by omega) (by omega)]
  refine Tot.bindq (P:=fun x=>match x with | .inl ()=>a=b | .inr r=>Cmp a b r) ?_ fun x hx=>?_
  ·refine Tot.loop (fun st:Int=> -1≤st∧st<(a.length:Int)∧a.drop (st+1).toNat=b.drop (st+1).toNat) (fun st:Int=>(st+1).toNat) ⟨by omega,by omega,?_⟩ fun st ⟨h0,h1,h2⟩=>?_
   ·rw[show ((a.length:Int)-1+1).toNat=a.length by omega,List.drop_length,List.drop_eq_nil_of_le (by omega)]
   ·refine Tot.ite (fun h=>?_) (fun h=>?_)
    ·have h3:0≤st:=of_decide_eq_true h
     obtain ⟨i,rfl⟩:∃ i:Nat,st=(i:Int):=⟨st.toNat,by omega⟩
     have hia:i<a.length:=by omega
     have hib:i<b.length:=by omega
     have h2':a.drop (i+1)=b.drop (i+1):=h2
     have ea:idx a (i:Int)=some a[i]:=idx_ok (by omega) (by omega)
     have eb:idx b (i:Int)=some b[i]:=idx_ok (by omega) (by omega)
     have va:=val_cut hia
     have vb:=val_cut hib
     rw[h2']at va
     have ba:=val_bound (l:=a.take i) (fun x hx=>ha x (List.mem_of_mem_take hx))
     have bb:=val_bound (l:=b.take i) (fun x hx=>hb x (List.mem_of_mem_take hx))
     rw[List.length_take,Nat.min_eq_left (by omega)]at ba bb
     have hpos:(0:Int)<4294967296^i:=Int.pow_pos (by decide)
     refine Tot.bind0 ea (Tot.bind0 eb (Tot.ite (fun hne=>?_) (fun hne=>?_)))
     ·have hne:a[i]≠b[i]:=by simpa using hne
      refine Tot.bind0 ea (Tot.bind0 eb (Tot.ite (fun hlt=>?_) (fun hlt=>?_)))
      ·have hlt:a[i]<b[i]:=of_decide_eq_true hlt
       refine Tot.ret ?_
       have:val a<val b:=by
        have:(4294967296:Int)^i*(a[i]+4294967296*val (b.drop (i+1))+1)≤4294967296^i*(b[i]+4294967296*val (b.drop (i+1))):=Int.mul_le_mul_of_nonneg_left (by omega) (by omega)
        rw[Int.mul_add _ _ 1]at this
        omega
       exact ⟨⟨fun _=>this,fun _=>by decide⟩,⟨fun h=>(by cases h),fun _=>by omega⟩⟩
      ·have hlt:¬ a[i]<b[i]:=of_decide_eq_false hlt
       refine Tot.ret ?_
       have:val b<val a:=by
        have:(4294967296:Int)^i*(b[i]+4294967296*val (b.drop (i+1))+1)≤4294967296^i*(a[i]+4294967296*val (b.drop (i+1))):=Int.mul_le_mul_of_nonneg_left (by omega) (by omega)
        rw[Int.mul_add _ _ 1]at this
        omega
       exact ⟨⟨fun h=>(by cases h),fun _=>by omega⟩,⟨fun h=>(by cases h),fun _=>by omega⟩⟩
     ·have he:a[i]=b[i]:=by simpa using hne
      refine Tot.ret ?_
      have hw:IntKind.i64.wrap ((i:Int)-1)=(i:Int)-1:=i64_wrap (by omega) (by omega)
      show (_∧_∧_)∧_
      rw[hw]
      refine ⟨⟨by omega,by omega,?_⟩,by omega⟩
      rw[show ((i:Int)-1+1).toNat=i by omega,List.drop_eq_getElem_cons hia,List.drop_eq_getElem_cons hib,he,h2']
    ·have h3:¬ 0≤st:=of_decide_eq_false h
     refine Tot.ret ?_
     rw[show (st+1).toNat=0 by omega]at h2
     exact h2
  ·cases x with
   | inl u=>
     have hx:a=b:=hx
     subst hx
     exact Tot.contl (Tot.ret ⟨⟨fun h=>(by cases h),fun h=>by omega⟩,⟨fun _=>rfl,fun _=>rfl⟩⟩)
   | inr r=>exact Tot.contr hx
end Go.Gv.RI
namespace Go.Gv.RI
open Go Go.Gv Go.Gv.D
theorem val_snoc (l:List Int) (x:Int):val (l++[x])=val l+4294967296^l.length*x:=by
 rw[val_append];simp[val]
theorem val_take_succ {a:List Int} {i:Nat} (h:i<a.length):val (a.take (i+1))=val (a.take i)+4294967296^i*a[i]:=by
 rw[List.take_succ_eq_append_getElem h,val_snoc,List.length_take,Nat.min_eq_left (by omega)]
theorem val_take_all {a:List Int} {i:Nat} (h:a.length≤i):val (a.take i)=val a:=by
 rw[List.take_of_length_le h]
theorem Dg.take {a:List Int} (h:Dg a) (i:Nat):Dg (a.take i):=fun x hx=>h x (List.mem_of_mem_take hx)
theorem Dg.get {a:List Int} (h:Dg a) {i:Nat} (hi:i<a.length):0≤a[i]∧a[i]<4294967296:=h _ (List.getElem_mem hi)
theorem Dg.one {x:Int} (h:0≤x∧x<4294967296):Dg [x]:=fun y hy=>by simp at hy;subst hy;exact h
theorem i64_small {x:Int} (h: -4611686018427387904≤x) (h':x≤4611686018427387904):IntKind.i64.wrap x=x:=i64_wrap (by omega) (by omega)
theorem u64_small {x:Int} (h:0≤x) (h':x<18446744073709551616):IntKind.u64.wrap x=x:=by rw[u64_wrap];omega
theorem u32_small {x:Int} (h:0≤x) (h':x<4294967296):IntKind.u32.wrap x=x:=by rw[u32_wrap];omega
theorem idx_nat {α:Type} {xs:List α} {i:Nat} (h:i<xs.length):idx xs (i:Int)=some xs[i]:=idx_ok (by omega) (by omega)
/-! ### adding -/
theorem add_tot {a b:List Int} (ha:Dg a) (hb:Dg b) (la:a.length≤1000) (lb:b.length≤1000):
 Tot (fun fuel=>natural_add fuel a b) (fun r=>Dg r∧Nz r∧val r=val a+val b∧r.length≤max a.length b.length+1):=by
 unfold natural_add
 refine Tot.bindq (P:=fun j=>(j=(a,b)∨j=(b,a))∧j.2.length≤j.1.length) ?_ fun j ⟨hj,hjl⟩=>?_
 ·refine Tot.ite (fun h=>Tot.ret ⟨.inr rfl,?_⟩) (fun h=>Tot.ret ⟨.inl rfl,?_⟩)
  ·have h:=of_decide_eq_true h
   show a.length≤b.length
   omega
  ·have h:=of_decide_eq_false h
   show b.length≤a.length
   omega
 obtain ⟨p,q⟩:=j
 have hpq:Dg p∧Dg q∧p.length≤1000∧val a+val b=val p+val q∧max a.length b.length=p.length:=by
  rcases hj with e | e<;>cases e
  ·exact ⟨ha,hb,la,rfl,Nat.max_eq_left hjl⟩
  ·exact ⟨hb,ha,lb,Int.add_comm _ _,Nat.max_eq_right hjl⟩
 obtain ⟨hp,hq,lp,hv,hm⟩:=hpq
 have hjl:q.length≤p.length:=hjl
 rw[hv,hm]
 have hw:IntKind.i64.wrap ((p.length:Int)+1)=(p.length:Int)+1:=i64_small (by omega) (by omega)
 refine Tot.bind0 (a:=[]) (by show mkC 0 (IntKind.i64.wrap ((p.length:Int)+1)) (0:Int)=_;rw[hw];unfold mkC;rw[if_pos ⟨by decide,by omega,by omega⟩];rfl) ?_
 refine Tot.bindq (P:=fun r=>Dg r.1∧r.1.length=p.length∧0≤r.2∧r.2≤1∧val r.1+4294967296^p.length*r.2=val p+val q) ?_ fun r ⟨h1,h2,h3,h4,h5⟩=>?_
 ·refine Tot.loop (fun st=>∃ i:Nat,st.2.2=(i:Int)∧i≤p.length∧Dg st.1∧st.1.length=i∧0≤st.2.1∧st.2.1≤1∧val st.1+4294967296^i*st.2.1=val (p.take i)+val (q.take i)) (fun st=>p.length-st.2.2.toNat)
   ⟨0,rfl,by omega,fun x hx=>by simp at hx,rfl,by decide,by decide,by simp[val]⟩ fun st ⟨i,e,hi,g1,g2,g3,g4,g5⟩=>?_
  obtain ⟨out,carry,k⟩:=st
  have e:k=(i:Int):=e
  subst e
  simp only at g1 g2 g3 g4 g5
  refine Tot.ite (fun h=>?_) (fun h=>?_)
  ·have h:i<p.length:=by have:((i:Nat):Int)<(p.length:Int):=of_decide_eq_true h;omega
   have hx:=hp.get h
   refine Tot.bind0 (idx_nat h) (Tot.some_bind ?_)
   have w1:IntKind.u64.wrap p[i]=p[i]:=u64_small (by omega) (by omega)
   have w2:IntKind.u64.wrap (carry+p[i])=carry+p[i]:=u64_small (by omega) (by omega)
   simp only[w1,w2]
   have tp:=val_take_succ h
   refine Tot.bindq (P:=fun s=>0≤s∧s≤8589934591∧4294967296^i*s+val (p.take i)+val (q.take i)=4294967296^i*carry+val (p.take (i+1))+val (q.take (i+1))) ?_ fun s ⟨k1,k2,k3⟩=>?_
   ·refine Tot.ite (fun hh=>?_) (fun hh=>?_)
    ·have hh:i<q.length:=by have:((i:Nat):Int)<(q.length:Int):=of_decide_eq_true hh;omega
     have hy:=hq.get hh
     have tq:=val_take_succ hh
     refine Tot.bind0 (idx_nat hh) (Tot.some_bind (Tot.ret ?_))
     rw[u64_small (x:=q[i]) (by omega) (by omega),u64_small (by omega) (by omega),tp,tq]
     refine ⟨by omega,by omega,?_⟩
     grind
    ·have hh:q.length≤i:=by have:¬ ((i:Nat):Int)<(q.length:Int):=of_decide_eq_false hh;omega
     refine Tot.ret ⟨by omega,by omega,?_⟩
     have q1:=val_take_all hh
     have q2:=val_take_all (a:=q) (i:=i+1) (by omega)
     rw[tp,q1,q2]
     generalize (4294967296:Int)^i=P
     grind
   ·refine Tot.bind0 (app_ok (by simp;omega)) (Tot.ret ?_)
    have e1:s.fdiv (2^32)=s/4294967296:=Int.fdiv_eq_ediv_of_nonneg _ (by decide)
    simp only[u32_wrap,e1]
    have hw:IntKind.i64.wrap ((i:Int)+1)=((i+1:Nat):Int):=by rw[i64_small (by omega) (by omega)];omega
    rw[hw]
    refine ⟨⟨i+1,rfl,by omega,g1.append (Dg.one (by omega)),by simp[g2],by omega,by omega,?_⟩,by omega⟩
    rw[val_snoc,g2,Int.pow_succ]
    have e2:s=s%4294967296+4294967296*(s/4294967296):=by omega
    generalize (4294967296:Int)^i=P at*
    generalize s%4294967296=u at*
    generalize s/4294967296=v at*
    subst e2
    grind
  ·have h:i=p.length:=by have:¬ ((i:Nat):Int)<(p.length:Int):=of_decide_eq_false h;omega
   subst h
   refine Tot.ret ⟨g1,g2,g3,g4,?_⟩
   rw[val_take_all (Nat.le_refl _),val_take_all hjl]at g5
   exact g5
 ·refine Tot.bind0 (app_ok (by simp;omega)) ?_
  rw[u32_small h3 (by omega)]
  refine Tot.bindq (ntrim_tot (by simp;omega)) fun t ht=>Tot.ret ⟨ht.dg (h1.append (Dg.one (by omega))),ht.nz,?_,?_⟩
  ·rw[ht.val,val_snoc,h2]
   exact h5
  ·have:=ht.len
   simp at this
   omega
/-! ### subtracting -/
theorem toNat_and32 (a b:Int):bwAnd .u32 a b=((BitVec.ofInt 32 a &&& BitVec.ofInt 32 b).toNat:Int):=by
 unfold bwAnd
 rw[u32_wrap]
 have:=(BitVec.ofInt 32 a &&& BitVec.ofInt 32 b).isLt
 show ((BitVec.ofInt 32 a &&& BitVec.ofInt 32 b).toNat:Int)%_=_
 omega
theorem toNat_or32 (a b:Int):bwOr .u32 a b=((BitVec.ofInt 32 a ||| BitVec.ofInt 32 b).toNat:Int):=by
 unfold bwOr
 rw[u32_wrap]
 have:=(BitVec.ofInt 32 a ||| BitVec.ofInt 32 b).isLt
 show ((BitVec.ofInt 32 a ||| BitVec.ofInt 32 b).toNat:Int)%_=_
 omega
theorem toNat_xor32 (a b:Int):bwXor .u32 a b=((BitVec.ofInt 32 a ^^^ BitVec.ofInt 32 b).toNat:Int):=by
 unfold bwXor
 rw[u32_wrap]
 have:=(BitVec.ofInt 32 a ^^^ BitVec.ofInt 32 b).isLt
 show ((BitVec.ofInt 32 a ^^^ BitVec.ofInt 32 b).toNat:Int)%_=_
 omega
theorem ofInt_toNat32 (v:BitVec 32):BitVec.ofInt 32 (v.toNat:Int)=v:=by
 apply BitVec.eq_of_toNat_eq
 have:=v.isLt
 simp only[BitVec.toNat_ofInt]
 omega
theorem msb32 (v:BitVec 32):((v.toNat:Int).fdiv (2^31))=if v.msb then 1 else 0:=by
 rw[Int.fdiv_eq_ediv_of_nonneg _ (by decide),BitVec.msb_eq_decide]
 have:=v.isLt
 by_cases h:2^(32-1)≤v.toNat
 ·rw[decide_eq_true h]
  simp only[if_true]
  omega
 ·rw[decide_eq_false h]
  simp only[Bool.false_eq_true,if_false]
  omega
theorem msb_int {x:Int} (h:0≤x∧x<4294967296):(BitVec.ofInt 32 x).msb=decide (2147483648≤x):=by
 rw[BitVec.msb_eq_decide]
 simp only[BitVec.toNat_ofInt]
 congr 1
 have:(x%((2^32:Nat):Int)).toNat=x.toNat:=by omega
 rw[this]
 apply propext
 omega
theorem sub32_tot (fuel:Nat) {x y b:Int} (hx:0≤x∧x<4294967296) (hy:0≤y∧y<4294967296) (hb:0≤b∧b≤1):
 ∃ d c,bits_Sub32 fuel x y b=some (d,c)∧0≤d∧d<4294967296∧0≤c∧c≤1∧d=x-y-b+4294967296*c:=by
 have hd:IntKind.u32.wrap (IntKind.u32.wrap (x-y)-b)=(x-y-b)%4294967296:=by
  rw[u32_wrap,u32_wrap];omega
 refine ⟨(x-y-b)%4294967296,if x-y-b<0 then 1 else 0,?_,by omega,by omega,by split<;>decide,by split<;>decide,by split<;>omega⟩
 unfold bits_Sub32
 simp only[hd,Option.bind_some]
 congr 2
 generalize hD:(x-y-b)%4294967296=d
 have hdd:0≤d∧d<4294967296:=by omega
 simp only[toNat_or32,toNat_and32,toNat_xor32,ofInt_toNat32,msb32,BitVec.msb_or,BitVec.msb_and,BitVec.msb_xor,msb_int hx,msb_int hy,msb_int hdd,show (BitVec.ofInt 32 4294967295).msb=true from rfl]
 by_cases h1:2147483648≤x<;>by_cases h2:2147483648≤y<;>by_cases h3:2147483648≤d<;>simp only[h1,h2,h3,decide_true,decide_false]<;>split<;>split<;>first | rfl | (exfalso;simp_all;done) | (exfalso;omega)
end Go.Gv.RI
namespace Go.Gv.RI
open Go Go.Gv Go.Gv.D
/-- limbs of an integer's absolute value -/
def OkL (l:List Int):Prop:=Dg l∧Nz l∧l.length≤128
def OkI (a:Bool × List Int):Prop:=OkL a.2∧(a.2=[]→a.1=false)
def Big:Int:=4294967296^128
theorem OkL.l6 {l:List Int} (h:OkL l):l.length≤600:=Nat.le_trans h.2.2 (by decide)
theorem OkI_iff {a:Bool × List Int} (hd:Dg a.2):okI a=true↔OkI a:=by
 obtain ⟨b,l⟩:=a
 unfold okI OkI OkL Nz
 simp only
 by_cases h:l=[]
 ·subst h;simp[hd]
 ·have:l.length≠0:=by simpa using h
  simp[h,hd]
  exact And.comm
theorem OkI.valid {a:Bool × List Int} (h:OkI a) (fuel:Nat):integer_Valid fuel a=some true:=by
 rw[valid_eq,IntOk_eq,(OkI_iff h.1.1).2 h]
theorem val_lt_big {l:List Int} (h:OkL l):0≤val l∧val l<Big:=by
 have h1:=val_bound h.1
 have:=pow_mono h.2.2
 unfold Big
 omega
/-! ### validity -/
theorem nvalid {l:List Int} (hn:Nz l) (hl:l.length≤600) (fuel:Nat):natural_Valid fuel l=some true:=by
 unfold natural_Valid
 have h1:decide ((l.length:Int)≤600)=true:=decide_eq_true (by omega)
 simp only[h1,if_true]
 by_cases h0:l=[]
 ·subst h0;rfl
 ·have hp:0<l.length:=by
   cases l with
   | nil=>exact absurd rfl h0
   | cons=>simp
  have h2:((l.length:Int)==0)=false:=beq_eq_false_iff_ne.2 (by omega)
  have hw:IntKind.i64.wrap ((l.length:Int)-1)=((l.length-1:Nat):Int):=by rw[i64_small (by omega) (by omega)];omega
  simp only[h2,Bool.false_eq_true,if_false,hw,idx_nat (show l.length-1<l.length by omega),Option.bind_some]
  have hx:l[l.length-1]'(by omega)≠0:=fun e=>by
   rcases hn with h | h
   ·exact h0 h
   ·rw[List.getLast?_eq_getElem?,List.getElem?_eq_getElem (by omega),e]at h
    exact h rfl
  simp[hx]
theorem ncheck {a b:List Int} (na:Nz a) (la:a.length≤600) (nb:Nz b) (lb:b.length≤600) (fuel:Nat):natural_check fuel a b=some (0,0):=by
 unfold natural_check
 rw[nvalid na la,nvalid nb lb]
 rfl
theorem icheck {l:List (Bool × List Int)} (h:∀ a∈l,OkI a) (hl:l.length≤1000):Tot (fun fuel=>integer_check fuel l) (· =(0,0)):=by
 unfold integer_check
 refine Tot.bindq (P:=fun x=>∃ y,x= .inl y) ?_ fun x ⟨y,hx⟩=>by subst hx;exact Tot.contl (Tot.ret rfl)
 refine Tot.loop (fun st=>∃ i:Nat,st.1=(i:Int)∧i≤l.length) (fun st=>l.length-st.1.toNat) ⟨0,rfl,by omega⟩ fun st ⟨i,e,hi⟩=>?_
 rw[e]
 refine Tot.ite (fun hh=>?_) (fun hh=>Tot.ret ⟨_,rfl⟩)
 have hh:i<l.length:=by have:((i:Nat):Int)<(l.length:Int):=of_decide_eq_true hh;omega
 refine Tot.bind0 (idx_nat hh) (Tot.bind0 ((h _ (List.getElem_mem hh)).valid 0) (Tot.if_ rfl (Tot.ret ?_)))
 have hw:IntKind.i64.wrap ((i:Int)+1)=((i+1:Nat):Int):=by rw[i64_small (by omega) (by omega)];omega
 show (∃ j:Nat,IntKind.i64.wrap ((i:Int)+1)=(j:Int)∧j≤l.length)∧l.length-(IntKind.i64.wrap ((i:Int)+1)).toNat<l.length-((i:Nat):Int).toNat
 rw[hw]
 exact ⟨⟨i+1,rfl,by omega⟩,by omega⟩
/-! ### small integers -/
/-! ### sums -/
end Go.Gv.RI
