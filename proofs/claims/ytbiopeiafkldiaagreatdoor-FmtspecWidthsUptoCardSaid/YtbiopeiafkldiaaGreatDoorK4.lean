import Derived.Test.YtbiopeiafkldiaaGreatDoorK1
set_option linter.all false
namespace Go.Gv.RI
open Go Go.Gv Go.Gv.D
/-! Own work: shifts by less than a limb. -/
theorem two_pow_pos (s:Nat):(0:Int)<2^s:=Int.pow_pos (by decide)
theorem two_pow_32 {s:Nat} (h:s≤32):(2:Int)^s*2^(32-s)=4294967296:=by
 rw[← Int.pow_add,show s+(32-s)=32 by omega];rfl
theorem or32_add {k c:Int} {s:Nat} (hs:s<32) (hk:0≤k) (hk':k*2^s<4294967296) (hc:0≤c) (hc':c<2^s):bwOr .u32 (k*2^s) c=k*2^s+c:=by
 have hp:=two_pow_pos s
 have h32:=two_pow_32 (show s≤32 by omega)
 have hle:(2:Int)^s<4294967296:=by
  have:(2:Int)^s*1<2^s*2^(32-s):=Int.mul_lt_mul_of_pos_left (by
   have:=pow_mono2 (show 1≤32-s by omega);omega) hp
  omega
 have hks:0≤k*2^s:=Int.mul_nonneg hk (by omega)
 rw[toNat_or32]
 have e1:(BitVec.ofInt 32 (k*2^s)).toNat=2^s*k.toNat:=by
  simp only[BitVec.toNat_ofInt]
  rw[Int.emod_eq_of_lt hks (by simpa using hk')]
  rw[Int.toNat_mul hk (by omega),Nat.mul_comm]
  congr 1
 have e2:(BitVec.ofInt 32 c).toNat=c.toNat:=by
  simp only[BitVec.toNat_ofInt]
  rw[Int.emod_eq_of_lt hc (by simp;omega)]
 have hcn:c.toNat<2^s:=by
  have:((2^s:Nat):Int)=2^s:=by simp
  omega
 rw[BitVec.toNat_or,e1,e2,← Nat.two_pow_add_eq_or_of_lt hcn]
 have:((2^s:Nat):Int)=2^s:=by simp
 rw[Int.natCast_add,Int.natCast_mul,this,Int.toNat_of_nonneg hk,Int.toNat_of_nonneg hc,Int.mul_comm]
where
 pow_mono2 {a b:Nat} (h:a≤b):(2:Int)^a≤2^b:=by
  obtain ⟨d,rfl⟩:=Nat.exists_eq_add_of_le h
  rw[Int.pow_add]
  have h1:=two_pow_pos a
  have h2:=two_pow_pos d
  have:(2:Int)^a*1≤2^a*2^d:=Int.mul_le_mul_of_nonneg_left (by omega) (by omega)
  omega
theorem s_div {s:Nat} (h:s<32):((s:Nat):Int).tdiv 32=0:=by rw[Int.tdiv_eq_ediv_of_nonneg (by omega)];omega
theorem s_mod {s:Nat} (h:s<32):((s:Nat):Int).tmod 32=(s:Int):=by rw[Int.tmod_eq_emod_of_nonneg (by omega)];omega
theorem nn_nat (s:Nat):nn ((s:Nat):Int)=some ():=by unfold nn;rw[if_pos (by omega)]
theorem left_tot {a:List Int} {s:Nat} (ha:Dg a) (la:a.length≤1000) (hs:s<32):
 Tot (fun fuel=>natural_left fuel a (s:Int)) (fun r=>Dg r∧Nz r∧val r=val a*2^s∧r.length≤a.length+1):=by
 unfold natural_left
 have hp:=two_pow_pos s
 have h32:=two_pow_32 (show s≤32 by omega)
 have hp2:=two_pow_pos (32-s)
 rw[s_div hs,s_mod hs]
 have w0:IntKind.i64.wrap 0=0:=i64_small (by omega) (by omega)
 have w1:IntKind.i64.wrap (0+((a.length:Nat):Int))=(a.length:Int):=by rw[i64_small (by omega) (by omega)];omega
 have w2:IntKind.i64.wrap ((a.length:Int)+1)=(a.length:Int)+1:=i64_small (by omega) (by omega)
 rw[w0,w1,w2]
 refine Tot.bind0 (a:=[]) (by unfold mkC;rw[if_pos ⟨by omega,by omega,by omega⟩];rfl) ?_
 refine Tot.bindq (P:=fun r=>Dg r.1∧r.1.length=a.length∧0≤r.2∧r.2<2^s∧val r.1+4294967296^a.length*r.2=val a*2^s) ?_ fun r ⟨h1,h2,h3,h4,h5⟩=>?_
 ·refine Tot.loop (fun st=>∃ i:Nat,st.2.2=(i:Int)∧i≤a.length∧Dg st.1∧st.1.length=i∧0≤st.2.1∧st.2.1<2^s∧val st.1+4294967296^i*st.2.1=val (a.take i)*2^s) (fun st=>a.length-st.2.2.toNat)
   ⟨0,rfl,by omega,fun x hx=>by simp at hx,rfl,Int.le_refl 0,hp,by simp[val]⟩ fun st ⟨i,e,hi,g1,g2,g3,g4,g5⟩=>?_
  obtain ⟨out,c,k⟩:=st
  simp only at e g1 g2 g3 g4 g5
  subst e
  refine Tot.ite (fun h=>?_) (fun h=>?_)
  ·have h:i<a.length:=by have:((i:Nat):Int)<(a.length:Int):=of_decide_eq_true h;omega
   have hx:=ha.get h
   have hle:(2:Int)^s≤4294967296:=by
    have:(2:Int)^s*1≤2^s*2^(32-s):=Int.mul_le_mul_of_nonneg_left (by omega) (by omega)
    omega
   have hxs:0≤a[i]*2^s∧a[i]*2^s≤4294967295*4294967296:=⟨Int.mul_nonneg hx.1 (by omega),Int.mul_le_mul (by omega) hle (by omega) (by decide)⟩
   have esh:shlI .u64 (IntKind.u64.wrap a[i]) ((s:Nat):Int)=a[i]*2^s:=by
    unfold shlI
    rw[u64_small hx.1 (by omega),Int.toNat_natCast,show min s IntKind.u64.bits=s from Nat.min_eq_left (by simp[IntKind.bits];omega),u64_small hxs.1 (by omega)]
   refine Tot.bind0 (idx_nat h) (Tot.bind0 (nn_nat s) (Tot.some_bind ?_))
   simp only[esh]
   have efd:(a[i]*2^s).fdiv (2^32)=a[i]*2^s/4294967296:=Int.fdiv_eq_ediv_of_nonneg _ (by decide)
   have ek:a[i]*2^s%4294967296=(a[i]%2^(32-s))*2^s:=by
    rw[← h32,Int.mul_comm a[i],Int.mul_emod_mul_of_pos _ _ hp,Int.mul_comm]
   have hk0:0≤a[i]%2^(32-s):=Int.emod_nonneg _ (by omega)
   have hlow:a[i]*2^s%4294967296<4294967296:=Int.emod_lt_of_pos _ (by decide)
   have hcar:a[i]*2^s/4294967296<2^s:=by
    refine Int.ediv_lt_of_lt_mul (by decide) ?_
    have:a[i]*2^s<4294967296*2^s:=Int.mul_lt_mul_of_pos_right hx.2 hp
    rw[Int.mul_comm (2^s)];exact this
   have hcar0:0≤a[i]*2^s/4294967296:=Int.ediv_nonneg hxs.1 (by decide)
   have eor:bwOr .u32 (IntKind.u32.wrap (a[i]*2^s)) c=a[i]*2^s%4294967296+c:=by
    rw[u32_wrap,ek];rw[ek]at hlow
    exact or32_add hs hk0 hlow g3 g4
   have hsum:a[i]*2^s%4294967296+c<4294967296:=by
    rw[ek]
    have h7:a[i]%2^(32-s)+1≤2^(32-s):=Int.emod_lt_of_pos _ hp2
    have h8:(a[i]%2^(32-s)+1)*2^s≤2^(32-s)*2^s:=Int.mul_le_mul_of_nonneg_right h7 (by omega)
    rw[Int.mul_comm (2^(32-s)),h32]at h8
    have h9:(a[i]%2^(32-s)+1)*2^s=(a[i]%2^(32-s))*2^s+2^s:=by grind
    omega
   rw[eor]
   refine Tot.bind0 (app_ok (by simp;omega)) (Tot.some_bind (Tot.ret ?_))
   have hw:IntKind.i64.wrap ((i:Int)+1)=((i+1:Nat):Int):=by rw[i64_small (by omega) (by omega)];omega
   simp only[efd,hw]
   rw[u32_small hcar0 (by omega)]
   have hl0:0≤a[i]*2^s%4294967296:=Int.emod_nonneg _ (by decide)
   refine ⟨⟨i+1,rfl,by omega,g1.append (Dg.one ⟨by omega,hsum⟩),by simp[g2],hcar0,hcar,?_⟩,by omega⟩
   rw[val_snoc,g2,Int.pow_succ,val_take_succ h,Int.add_mul,← g5]
   have e5:=Int.mul_ediv_add_emod (a[i]*2^s) 4294967296
   have e6:4294967296^i*a[i]*2^s=4294967296^i*(a[i]*2^s):=Int.mul_assoc _ _ _
   rw[e6]
   generalize a[i]*2^s/4294967296=q at*
   generalize a[i]*2^s%4294967296=r at*
   generalize a[i]*2^s=z at*
   generalize (4294967296:Int)^i=Q at*
   subst e5
   grind
  ·have h:i=a.length:=by have:¬ ((i:Nat):Int)<(a.length:Int):=of_decide_eq_false h;omega
   subst h
   refine Tot.ret ⟨g1,g2,g3,g4,?_⟩
   rw[g5,val_take_all (Nat.le_refl _)]
 ·have hle:(2:Int)^s≤4294967296:=by
   have:(2:Int)^s*1≤2^s*2^(32-s):=Int.mul_le_mul_of_nonneg_left (by omega) (by omega)
   omega
  refine Tot.bind0 (app_ok (by simp;omega)) (Tot.bindq (ntrim_tot (by simp;omega)) fun t ht=>Tot.ret ⟨ht.dg (h1.append (Dg.one ⟨h3,by omega⟩)),ht.nz,?_,?_⟩)
  ·rw[ht.val,val_snoc,h2];exact h5
  ·have:=ht.len
   simp at this
   omega
end Go.Gv.RI
namespace Go.Gv.RI
open Go Go.Gv Go.Gv.D
theorem right_tot {a:List Int} {s:Nat} (ha:Dg a) (la:a.length≤1000) (hs:s<32):
 Tot (fun fuel=>natural_right fuel a (s:Int)) (fun r=>Dg r∧Nz r∧val r=val a/2^s∧r.length≤a.length):=by
 unfold natural_right
 have hp:=two_pow_pos s
 have h32:=two_pow_32 (show s≤32 by omega)
 have hp2:=two_pow_pos (32-s)
 rw[s_div hs,s_mod hs]
 have w0:IntKind.i64.wrap 0=0:=i64_small (by omega) (by omega)
 rw[w0]
 refine Tot.bindq (P:=fun r=>Dg r∧r.length=a.length∧2^s*val r+(a.getD 0 0)%2^s=val a) ?_ fun r ⟨h1,h2,h5⟩=>?_
 ·refine Tot.loop (fun st=>∃ i:Nat,st.2=(i:Int)∧i≤a.length∧Dg st.1∧st.1.length=i∧2^s*val st.1+(a.getD 0 0)%2^s=val (a.take i)+4294967296^i*((a.getD i 0)%2^s)) (fun st=>a.length-st.2.toNat)
   ⟨0,rfl,by omega,fun x hx=>by simp at hx,rfl,by simp[val]⟩ fun st ⟨i,e,hi,g1,g2,g5⟩=>?_
  obtain ⟨out,k⟩:=st
  simp only at e g1 g2 g5
  subst e
  refine Tot.ite (fun h=>?_) (fun h=>?_)
  ·have h:i<a.length:=by have:((i:Nat):Int)<(a.length:Int):=of_decide_eq_true h;omega
   have hx:=ha.get h
   have hw:IntKind.i64.wrap ((i:Int)+1)=((i+1:Nat):Int):=by rw[i64_small (by omega) (by omega)];omega
   refine Tot.bind0 (idx_nat h) ?_
   rw[hw]
   have hy:0≤a.getD (i+1) 0∧a.getD (i+1) 0<4294967296:=by
    rcases Nat.lt_or_ge (i+1) a.length with hh | hh
    ·rw[List.getD_eq_getElem?_getD,List.getElem?_eq_getElem hh];exact ha.get hh
    ·rw[List.getD_eq_getElem?_getD,List.getElem?_eq_none hh];exact ⟨by decide,by decide⟩
   refine Tot.bindq (P:=fun j=>j=a[i]+a.getD (i+1) 0*4294967296) ?_ fun j hj=>?_
   ·refine Tot.ite (fun hh=>?_) (fun hh=>?_)
    ·have hh:i+1<a.length:=by have:((i+1:Nat):Int)<(a.length:Int):=of_decide_eq_true hh;omega
     have hz:=ha.get hh
     refine Tot.bind0 (idx_nat hh) (Tot.some_bind (Tot.ret ?_))
     rw[u64_small hx.1 (by omega),u64_small hz.1 (by omega),u64_small (by omega) (by omega),List.getD_eq_getElem?_getD,List.getElem?_eq_getElem hh]
     exact or_shift hx hz
    ·have hh:a.length≤i+1:=by have:¬ ((i+1:Nat):Int)<(a.length:Int):=of_decide_eq_false hh;omega
     refine Tot.ret ?_
     rw[u64_small hx.1 (by omega),List.getD_eq_getElem?_getD,List.getElem?_eq_none hh];simp
   ·subst hj
    have hgi:a.getD i 0=a[i]:=by rw[List.getD_eq_getElem?_getD,List.getElem?_eq_getElem h];rfl
    rw[hgi]at g5
    generalize hY:a.getD (i+1) 0=y at*
    generalize hX:a[i]=x at*
    have esh:shrI .u64 (x+y*4294967296) ((s:Nat):Int)=x/2^s+y*2^(32-s):=by
     unfold shrI
     rw[Int.toNat_natCast,show min s IntKind.u64.bits=s from Nat.min_eq_left (by simp[IntKind.bits];omega),Int.fdiv_eq_ediv_of_nonneg _ (by omega),← h32,
      show y*(2^s*2^(32-s))=(y*2^(32-s))*2^s by grind,Int.add_mul_ediv_right _ _ (by omega)]
    have hq0:0≤x/2^s:=Int.ediv_nonneg hx.1 (by omega)
    have hq1:x/2^s<2^(32-s):=Int.ediv_lt_of_lt_mul hp (by rw[Int.mul_comm,h32];exact hx.2)
    have hm0:0≤y%2^s:=Int.emod_nonneg _ (by omega)
    have hm1:y%2^s+1≤2^s:=Int.emod_lt_of_pos _ hp
    have hle:(y%2^s+1)*2^(32-s)≤2^s*2^(32-s):=Int.mul_le_mul_of_nonneg_right hm1 (by omega)
    have hmm:0≤(y%2^s)*2^(32-s):=Int.mul_nonneg hm0 (by omega)
    have ey:=Int.mul_ediv_add_emod y (2^s)
    have ed:(y%2^s+1)*2^(32-s)=(y%2^s)*2^(32-s)+2^(32-s):=by grind
    rw[h32,ed]at hle
    have emo:(x/2^s+y*2^(32-s))%4294967296=x/2^s+(y%2^s)*2^(32-s):=by
     have:x/2^s+y*2^(32-s)=(x/2^s+(y%2^s)*2^(32-s))+4294967296*(y/2^s):=by
      rw[← h32]
      conv=>lhs;rw[← ey]
      grind
     rw[this,Int.add_mul_emod_self_left,Int.emod_eq_of_lt (by omega) (by omega)]
    refine Tot.bind0 (nn_nat s) (Tot.bind0 (app_ok (by simp;omega)) (Tot.ret ?_))
    rw[esh,u32_wrap,emo]
    refine ⟨⟨i+1,rfl,by omega,g1.append (Dg.one ⟨by omega,by omega⟩),by simp[g2],?_⟩,by simp only;omega⟩
    rw[val_snoc,g2,Int.pow_succ,val_take_succ h,hX,hY]
    have ex:=Int.mul_ediv_add_emod x (2^s)
    have e1:2^s*(val out+4294967296^i*(x/2^s+y%2^s*2^(32-s)))=2^s*val out+4294967296^i*(2^s*(x/2^s))+4294967296^i*((2^s*2^(32-s))*(y%2^s)):=by grind
    rw[e1,h32]
    generalize x%2^s=xm at*
    generalize y%2^s=ym at*
    generalize (2:Int)^s*(x/2^s)=xd at*
    generalize (4294967296:Int)^i=Q at*
    generalize (2:Int)^s*val out=V at*
    have:V=val (a.take i)+Q*xm-a.getD 0 0%2^s:=by omega
    rw[this,← ex]
    grind
  ·have h:i=a.length:=by have:¬ ((i:Nat):Int)<(a.length:Int):=of_decide_eq_false h;omega
   subst h
   refine Tot.ret ⟨g1,g2,?_⟩
   rw[g5,val_take_all (Nat.le_refl _),List.getD_eq_getElem?_getD,List.getElem?_eq_none (Nat.le_refl _)]
   simp
 ·refine Tot.bindq (ntrim_tot (by omega)) fun t ht=>Tot.ret ⟨ht.dg h1,ht.nz,?_,by have:=ht.len;omega⟩
  rw[ht.val,← h5,Int.add_comm,Int.add_mul_ediv_left _ _ (by omega),Int.ediv_eq_zero_of_lt (Int.emod_nonneg _ (by omega)) (Int.emod_lt_of_pos _ hp)]
  simp
end Go.Gv.RI
namespace Go.Gv.RI
open Go Go.Gv Go.Gv.D
theorem splitT3 {l:List Int} {m:Nat} (h:l.length=m+3):∃ p x y z,l=p++[x,y,z]∧p.length=m:=by
 refine ⟨l.take m,l[m],l[m+1],l[m+2],?_,by simp;omega⟩
 conv=>lhs;rw[← List.take_append_drop m l,List.drop_eq_getElem_cons (show m<l.length by omega),List.drop_eq_getElem_cons (show m+1<l.length by omega),List.drop_eq_getElem_cons (show m+2<l.length by omega),List.drop_of_length_le (show l.length≤m+2+1 by omega)]
theorem splitT2 {l:List Int} {m:Nat} (h:l.length=m+2):∃ p x y,l=p++[x,y]∧p.length=m:=by
 refine ⟨l.take m,l[m],l[m+1],?_,by simp;omega⟩
 conv=>lhs;rw[← List.take_append_drop m l,List.drop_eq_getElem_cons (show m<l.length by omega),List.drop_eq_getElem_cons (show m+1<l.length by omega),List.drop_of_length_le (show l.length≤m+1+1 by omega)]
theorem Dg.drop {a:List Int} (h:Dg a) (i:Nat):Dg (a.drop i):=fun x hx=>h x (List.mem_of_mem_drop hx)
theorem val_split (l:List Int) (k:Nat) (h:k≤l.length):val l=val (l.take k)+4294967296^k*val (l.drop k):=by
 conv=>lhs;rw[← List.take_append_drop k l]
 rw[val_append,List.length_take,Nat.min_eq_left h]
theorem nz_top {b:List Int} {n:Nat} (hn:Nz b) (hl:b.length=n+1):b[n]'(by omega)≠0:=fun e=>by
 rcases hn with h | h
 ·rw[h]at hl;simp at hl
 ·refine h ?_
  rw[List.getLast?_eq_getElem?,hl,Nat.add_sub_cancel,List.getElem?_eq_getElem (by omega),e]
/-- one place of the quotient -/
theorem place_tot {u v:List Int} {n m L:Nat} (hu:Dg u) (hv:Dg v) (nv:Nz v) (ln:v.length=n) (hn:2≤n) (hn':n≤900) (lu:u.length=L) (hL:m+n+1≤L)
 (hq:val (u.drop (m+1))<val v):
 Tot (fun fuel=>natural_digit fuel ((u.take (m+n+1)).drop m) v) (fun r=>Dg r.2∧r.2.length=n+1∧0≤r.1∧r.1<4294967296∧
  val u=val (u.take m++r.2++u.drop (m+n+1))+4294967296^m*(r.1*val v)∧val ((u.take m++r.2++u.drop (m+n+1)).drop m)<val v):=by
 obtain ⟨k,rfl⟩:∃ k,n=k+2:=⟨n-2,by omega⟩
 have hwl:((u.take (m+(k+2)+1)).drop m).length=k+3:=by simp;omega
 obtain ⟨ul,u2,u1,u0,hw,hul⟩:=splitT3 hwl
 obtain ⟨vl,v2,t,hv2,hvl⟩:=splitT2 ln
 have ht:t≠0:=by
  have:=nz_top (n:=k+1) nv (by omega)
  simp only[hv2]at this
  simpa [hvl,List.getElem_append_right] using this
 have hvb:=val_bound hv
 rw[ln]at hvb
 have h1:u.drop (m+1)=(u.drop (m+1)).take (k+2)++u.drop (m+(k+2)+1):=by
  conv=>lhs;rw[← List.take_append_drop (k+2) (u.drop (m+1))]
  rw[List.drop_drop,show m+1+(k+2)=m+(k+2)+1 by omega]
 have hP:(0:Int)<4294967296^(k+2):=Int.pow_pos (by decide)
 have hr0:=val_bound (hu.drop (m+(k+2)+1))
 have hm0:=val_bound ((hu.drop (m+1)).take (k+2))
 have hrest:val (u.drop (m+(k+2)+1))=0:=by
  have e:=hq
  rw[h1,val_append,List.length_take,Nat.min_eq_left (by simp;omega)]at e
  rcases Int.lt_or_le 0 (val (u.drop (m+(k+2)+1))) with hh | hh
  ·have:(4294967296:Int)^(k+2)*1≤4294967296^(k+2)*val (u.drop (m+(k+2)+1)):=Int.mul_le_mul_of_nonneg_left (by omega) (by omega)
   omega
  ·omega
 have hmid:val (u.drop (m+1))=val ((u.drop (m+1)).take (k+2)):=by
  conv=>lhs;rw[h1]
  rw[val_append,hrest];simp
 have hwd:Dg ((u.take (m+(k+2)+1)).drop m):=(hu.take _).drop _
 have hmu:m<u.length:=by omega
 have hwin:(u.take (m+(k+2)+1)).drop m=u[m]::(u.drop (m+1)).take (k+2):=by
  rw[List.drop_take,List.drop_eq_getElem_cons hmu,show m+(k+2)+1-m=k+2+1 by omega,List.take_succ_cons]
 have hx:=hu.get hmu
 have hwv:val ((u.take (m+(k+2)+1)).drop m)<4294967296*val v:=by
  rw[hwin,val_cons',← hmid];omega
 have hD:=digit_tot (m:=k) hul hvl (by omega) (hw ▸ hwd) (hv2 ▸ hv) ht (by rw[← hw,← hv2];exact hwv)
 rw[← hw,← hv2]at hD
 refine hD.mono fun r ⟨d1,d2,d3,d4,d5,d6⟩=>⟨d1,d2,d3,d4,?_,?_⟩
 ·have e1:val u=val (u.take m)+4294967296^m*val ((u.take (m+(k+2)+1)).drop m):=by
   rw[val_split u m (by omega),hwin,List.drop_eq_getElem_cons hmu,val_cons',val_cons',hmid]
  rw[val_append,val_append,hrest,List.length_take,Nat.min_eq_left (by omega),e1,d5]
  grind
 ·rw[List.append_assoc,List.drop_left' (by simp;omega),val_append,hrest]
  simpa using d6
end Go.Gv.RI
