import Derived.Test.YtbiopeiafkldiaaGreatDoorK4
set_option linter.all false
namespace Go.Gv.RI
open Go Go.Gv Go.Gv.D
theorem lz_tot {x:Int} (h0:0<x) (h1:x<4294967296):Tot (fun fuel=>bits_LeadingZeros32 fuel x) (fun r=>∃ s:Nat,r=(s:Int)∧s<32∧x*2^s<4294967296):=by
 unfold bits_LeadingZeros32
 refine Tot.bindq (len32_tot (by omega) h1) fun r ⟨hL,hr⟩=>Tot.ret ⟨(32-r).toNat,?_,?_,?_⟩
 ·have:=hL.1
  rw[i64_small (by omega) (by omega)];omega
 ·have:=hL.pos h0
  have:=hL.1
  omega
 ·have h2:=hL.pos h0
  have e:=two_pow_32 (show r.toNat≤32 by omega)
  rw[show (32-r).toNat=32-r.toNat by omega,← e]
  exact Int.mul_lt_mul_of_pos_right hL.2.1 (two_pow_pos _)
theorem divide_tot {a b:List Int} (ha:Dg a) (hb:Dg b) (na:Nz a) (nb:Nz b) (lb:2≤b.length) (hab:b.length≤a.length) (la:a.length≤800):
 Tot (fun fuel=>natural_divide fuel a b) (fun r=>(Dg r.1∧Nz r.1∧r.1.length≤a.length)∧(Dg r.2∧Nz r.2∧r.2.length≤b.length)∧val r.1=val a/val b∧val r.2=val a%val b):=by
 obtain ⟨n,hn⟩:∃ n,b.length=n+2:=⟨b.length-2,by omega⟩
 have hwb:IntKind.i64.wrap (((b.length:Nat):Int)-1)=((n+1:Nat):Int):=by rw[hn,i64_small (by omega) (by omega)];omega
 have htop:=nz_top (n:=n+1) nb (by omega)
 have hbt:=hb.get (show n+1<b.length by omega)
 unfold natural_divide
 rw[hwb]
 refine Tot.bind0 (idx_nat (show n+1<b.length by omega)) ?_
 refine Tot.bindq (lz_tot (x:=b[n+1]) (by omega) hbt.2) fun r3 ⟨s,hs,hs1,hs2⟩=>?_
 subst hs
 refine Tot.bindq (left_tot hb (by omega) hs1) fun v ⟨v1,v2,v3,v4⟩=>?_
 refine Tot.bindq (left_tot ha (by omega) hs1) fun w ⟨u1,u2,u3,u4⟩=>?_
 have hp:=two_pow_pos s
 have hbv:=val_split b (n+1) (by omega)
 have hbd:b.drop (n+1)=[b[n+1]]:=by rw[List.drop_eq_getElem_cons (by omega),List.drop_of_length_le (by omega)]
 rw[hbd]at hbv
 simp only[val,Int.mul_zero,Int.add_zero]at hbv
 have hbt':=val_bound (hb.take (n+1))
 rw[List.length_take,Nat.min_eq_left (by omega)]at hbt'
 have hQ:(0:Int)<4294967296^(n+1):=Int.pow_pos (by decide)
 have hbig:=val_big hb nb (fun e=>by rw[e]at hn;simp at hn)
 rw[hn,show n+2-1=n+1 by omega]at hbig
 have hvup:val v<4294967296^(n+2):=by
  rw[v3,Int.pow_succ]
  have h1:val b+1≤4294967296^(n+1)*(b[n+1]+1):=by rw[hbv];grind
  have h2:(val b+1)*2^s≤4294967296^(n+1)*(b[n+1]+1)*2^s:=Int.mul_le_mul_of_nonneg_right h1 (by omega)
  have h3:(b[n+1]+1)*2^s≤4294967296:=by
   have h32:=two_pow_32 (show s≤32 by omega)
   have hp2:=two_pow_pos (32-s)
   have h4:b[n+1]<2^(32-s):=by
    refine Int.lt_of_not_ge fun hge=>?_
    have:2^(32-s)*2^s≤b[n+1]*2^s:=Int.mul_le_mul_of_nonneg_right hge (by omega)
    rw[Int.mul_comm (2^(32-s)),h32]at this
    omega
   have h5:(b[n+1]+1)*2^s≤2^(32-s)*2^s:=Int.mul_le_mul_of_nonneg_right h4 (by omega)
   rw[Int.mul_comm (2^(32-s)),h32]at h5
   exact h5
  have h6:4294967296^(n+1)*((b[n+1]+1)*2^s)≤4294967296^(n+1)*4294967296:=Int.mul_le_mul_of_nonneg_left h3 (by omega)
  have h7:4294967296^(n+1)*(b[n+1]+1)*2^s=4294967296^(n+1)*((b[n+1]+1)*2^s):=Int.mul_assoc _ _ _
  have h8:(val b+1)*2^s=val b*2^s+2^s:=by grind
  omega
 have hvlo:4294967296^(n+1)≤val v:=by
  rw[v3]
  have:val b*1≤val b*2^s:=Int.mul_le_mul_of_nonneg_left (by omega) (by omega)
  omega
 have lv:v.length=n+2:=by
  rcases Nat.lt_or_ge v.length (n+2) with h | h
  ·have h1:=(val_bound v1).2
   have h2:=pow_mono (show v.length≤n+1 by omega)
   omega
  ·rcases Nat.lt_or_ge (n+2) v.length with h1 | h1
   ·have h2:=val_big v1 v2 (fun e=>by rw[e]at h1;simp at h1)
    have h3:=pow_mono (show n+2≤v.length-1 by omega)
    omega
   ·omega
 refine Tot.bindq (P:=fun j=>Dg j∧j.length=a.length+1∧val j=val a*2^s) ?_ fun j ⟨j1,j2,j3⟩=>?_
 ·refine Tot.loop (fun st=>Dg st∧st.length≤a.length+1∧val st=val a*2^s) (fun st=>a.length+1-st.length) ⟨u1,u4,u3⟩ fun st ⟨i1,i2,i3⟩=>?_
  refine Tot.ite (fun h=>?_) (fun h=>?_)
  ·have h:st.length≤a.length:=by have:((st.length:Nat):Int)≤(a.length:Int):=of_decide_eq_true h;omega
   refine Tot.bind0 (app_ok (by simp;omega)) (Tot.ret ⟨⟨i1.append (Dg.one ⟨by decide,by decide⟩),by simp;omega,?_⟩,by simp;omega⟩)
   rw[val_snoc,i3];simp
  ·have h:¬ st.length≤a.length:=by have:¬ ((st.length:Nat):Int)≤(a.length:Int):=of_decide_eq_false h;omega
   exact Tot.ret ⟨i1,by omega,i3⟩
 have hJ:IntKind.i64.wrap (((j.length:Nat):Int)-((b.length:Nat):Int))=((a.length+1-b.length:Nat):Int):=by rw[j2,i64_small (by omega) (by omega)];omega
 have hJ2:IntKind.i64.wrap (((a.length+1-b.length:Nat):Int)-1)=((a.length+1-b.length:Nat):Int)-1:=i64_small (by omega) (by omega)
 rw[hJ,hJ2]
 refine Tot.bind0 (a:=List.replicate (a.length+1-b.length) 0) (by unfold mkC;rw[if_pos ⟨by omega,by omega,by omega⟩];simp) (Tot.some_bind ?_)
 generalize hD:a.length+1-b.length=D
 have hD':D+(n+2)=a.length+1:=by omega
 have hab':=(val_bound ha).2
 have h0:val (j.drop D)<val v:=by
  have e:=val_split j D (by omega)
  have hlow:=(val_bound (j1.take D)).1
  have hPD:(0:Int)<4294967296^D:=Int.pow_pos (by decide)
  refine Int.lt_of_not_ge fun hge=>?_
  have h1:4294967296^D*val v≤4294967296^D*val (j.drop D):=Int.mul_le_mul_of_nonneg_left hge (by omega)
  have h2:4294967296^D*(4294967296^(n+1)*2^s)≤4294967296^D*val v:=by
   refine Int.mul_le_mul_of_nonneg_left ?_ (by omega)
   rw[v3]
   exact Int.mul_le_mul_of_nonneg_right hbig (by omega)
  have h3:(4294967296:Int)^D*(4294967296^(n+1)*2^s)=4294967296^a.length*2^s:=by
   rw[← Int.mul_assoc,← Int.pow_add,show D+(n+1)=a.length by omega]
  have h4:val a*2^s<4294967296^a.length*2^s:=Int.mul_lt_mul_of_pos_right hab' hp
  omega
 refine Tot.bindq (P:=fun r=>Dg r.1∧r.1.length=a.length+1∧val r.1<val v∧Dg r.2∧r.2.length=D∧val r.1+val r.2*val v=val a*2^s) ?_ fun r ⟨r1,r2,r3,r4,r5,r6⟩=>?_
 ·refine Tot.loop (fun st=>∃ (i:Nat) (q:List Int),st.2.2=(i:Int)-1∧i≤D∧Dg st.1∧st.1.length=a.length+1∧val (st.1.drop i)<val v∧st.2.1=List.replicate i 0++q∧Dg q∧q.length=D-i∧val st.1+4294967296^i*(val q*val v)=val a*2^s) (fun st=>(st.2.2+1).toNat)
   ⟨D,[],rfl,Nat.le_refl _,j1,j2,h0,by simp,fun x hx=>by simp at hx,by simp,by show val j+4294967296^D*(val []*val v)=_;rw[j3];simp[val]⟩ fun st ⟨i,q,e,hi,g1,g2,g3,g4,g5,g6,g7⟩=>?_
  obtain ⟨u,out,k⟩:=st
  simp only at e g1 g2 g3 g4 g7
  subst e;subst g4
  refine Tot.ite (fun h=>?_) (fun h=>?_)
  ·have h:0<i:=by have:(i:Int)-1≥0:=of_decide_eq_true h;omega
   obtain ⟨m,rfl⟩:∃ m,i=m+1:=⟨i-1,by omega⟩
   have ek:((m+1:Nat):Int)-1=(m:Int):=by omega
   simp only[ek]
   have w1:IntKind.i64.wrap ((m:Int)+((b.length:Nat):Int))=((m+(n+2):Nat):Int):=by rw[hn,i64_small (by omega) (by omega)];omega
   have w2:IntKind.i64.wrap (((m+(n+2):Nat):Int)+1)=((m+(n+2)+1:Nat):Int):=by rw[i64_small (by omega) (by omega)];omega
   rw[w1,w2]
   refine Tot.bind0 (a:=(u.take (m+(n+2)+1)).drop m) (by rw[sub_ok (by omega) (by omega) (by omega)];rfl) ?_
   refine Tot.bindq (place_tot g1 v1 v2 lv (by omega) (by omega) g2 (by omega) g3) fun d ⟨d1,d2,d3,d4,d5,d6⟩=>?_
   have esp:spliceL u ((m:Nat):Int) ((m+(n+2)+1:Nat):Int) d.2=u.take m++d.2++u.drop (m+(n+2)+1):=by unfold spliceL;rw[Int.toNat_natCast,Int.toNat_natCast]
   rw[esp]
   have er:List.replicate (m+1) (0:Int)++q=List.replicate m 0++0::q:=by rw[List.replicate_succ',List.append_assoc];rfl
   rw[er]
   refine Tot.some_bind (Tot.bind0 (bm_get _ _ _ (by simp)) (Tot.bind0 (bm_upd _ _ _ _ (by simp)) (Tot.ret ?_)))
   have hw:IntKind.i64.wrap ((m:Int)-1)=(m:Int)-1:=i64_small (by omega) (by omega)
   simp only[hw]
   refine ⟨⟨m,d.1::q,rfl,by omega,((g1.take m).append d1).append (g1.drop _),by simp[d2];omega,d6,rfl,fun x hx=>?_,by simp[g6];omega,?_⟩,by omega⟩
   ·rcases List.mem_cons.1 hx with e | e
    ·subst e;exact ⟨d3,d4⟩
    ·exact g5 x e
   ·rw[val_cons',← g7,d5,Int.pow_succ]
    grind
  ·have h:i=0:=by have:¬ (i:Int)-1≥0:=of_decide_eq_false h;omega
   subst h
   refine Tot.ret ⟨g1,g2,by simpa using g3,by simpa using g5,by simpa using g6,?_⟩
   simpa using g7
 obtain ⟨ru,rq⟩:=r
 simp only at r1 r2 r3 r4 r5 r6
 have hrest:val (ru.take (n+2))=val ru:=by
  have e:=val_split ru (n+2) (by omega)
  have h1:=(val_bound (r1.take (n+2))).1
  have h2:=(val_bound (r1.drop (n+2))).1
  have hP:(0:Int)<4294967296^(n+2):=Int.pow_pos (by decide)
  rcases Int.lt_or_le 0 (val (ru.drop (n+2))) with hh | hh
  ·have:(4294967296:Int)^(n+2)*1≤4294967296^(n+2)*val (ru.drop (n+2)):=Int.mul_le_mul_of_nonneg_left (by omega) (by omega)
   omega
  ·have:val (ru.drop (n+2))=0:=by omega
   rw[this]at e;simp at e;exact e.symm
 refine Tot.bind0 (a:=ru.take (n+2)) (by rw[sub_ok (by omega) (by omega) (by omega),hn];rfl) ?_
 refine Tot.bindq (ntrim_tot (l:=rq) (by omega)) fun q hq=>?_
 refine Tot.bindq (ntrim_tot (l:=ru.take (n+2)) (by simp;omega)) fun p hpp=>?_
 have hpd:=hpp.dg (r1.take (n+2))
 have hpl:=hpp.len
 simp only[List.length_take]at hpl
 refine Tot.bindq (right_tot hpd (by omega) hs1) fun z ⟨z1,z2,z3,z4⟩=>Tot.ret ⟨⟨hq.dg r4,hq.nz,by have:=hq.len;simp only;omega⟩,⟨z1,z2,by simp only;omega⟩,?_,?_⟩
 ·show val q=_
  rw[hq.val]
  have hb0:0<val b:=by omega
  have e1:val rq*val v+val ru=val a*2^s:=by omega
  rw[v3]at e1 r3
  have hru0:=(val_bound r1).1
  have h2:val a*2^s/(val b*2^s)=val rq:=by
   rw[← e1,Int.add_comm,Int.add_mul_ediv_right _ _ (by have:=Int.mul_pos hb0 hp;omega),Int.ediv_eq_zero_of_lt hru0 r3];simp
  rw[← h2,Int.mul_ediv_mul_of_pos_left _ _ hp]
 ·show val z=_
  rw[z3,hpp.val,hrest]
  have hb0:0<val b:=by omega
  have e1:val rq*val v+val ru=val a*2^s:=by omega
  rw[v3]at e1 r3
  have hru0:=(val_bound r1).1
  have h2:(val a*2^s)%(val b*2^s)=val ru:=by
   rw[← e1,Int.add_comm,Int.add_mul_emod_self_right,Int.emod_eq_of_lt hru0 r3]
  rw[← h2,Int.mul_comm (val a),Int.mul_comm (val b),Int.mul_emod_mul_of_pos _ _ hp,Int.mul_ediv_cancel_left _ (by omega)]
end Go.Gv.RI
namespace Go.Gv.RI
open Go Go.Gv Go.Gv.D
theorem clone_tot {a:List Int} (la:a.length≤1000):Tot (fun fuel=>slices_Clone_suint32_uint32 fuel a) (· =a):=by
 unfold slices_Clone_suint32_uint32
 exact Tot.bind0 (a:=a) (by rw[app_ok (by simp;omega)];rfl) (Tot.ret rfl)
theorem val_pos {b:List Int} (hb:Dg b) (nb:Nz b) (h:b≠[]):0<val b:=by
 have:=val_big hb nb h
 have hP:(0:Int)<4294967296^(b.length-1):=Int.pow_pos (by decide)
 omega
theorem len_le_of_val {a b:List Int} (ha:Dg a) (hb:Dg b) (na:Nz a) (h:val a≤val b):a.length≤b.length:=by
 rcases Nat.lt_or_ge b.length a.length with h1 | h1
 ·have:=val_longer hb ha na h1;omega
 ·exact h1
theorem divMod_tot {a b:List Int} (ha:Dg a) (hb:Dg b) (na:Nz a) (nb:Nz b) (la:a.length≤800) (lb:b.length≤800) (hb0:b≠[]):
 Tot (fun fuel=>natural_divMod fuel a b) (fun r=>(Dg r.1∧Nz r.1∧r.1.length≤a.length)∧(Dg r.2∧Nz r.2∧r.2.length≤b.length)∧val r.1=val a/val b∧val r.2=val a%val b):=by
 have hbp:=val_pos hb nb hb0
 have ha0:=(val_bound ha).1
 unfold natural_divMod
 refine Tot.bindq (compare_tot ha hb na nb (by omega) (by omega)) fun r1 ⟨c1,c2⟩=>?_
 refine Tot.ite (fun h=>?_) (fun h=>?_)
 ·have h:=c1.1 (of_decide_eq_true h)
  refine Tot.bindq (clone_tot (by omega)) fun c hc=>Tot.ret ?_
  subst hc
  refine ⟨⟨fun x hx=>by simp at hx,.inl rfl,by simp⟩,⟨ha,na,len_le_of_val ha hb na (Int.le_of_lt h)⟩,?_,?_⟩
  ·show val []=_;rw[Int.ediv_eq_zero_of_lt ha0 h];rfl
  ·show val c=_;rw[Int.emod_eq_of_lt ha0 h]
 ·have h:=of_decide_eq_false h
  have hle:val b≤val a:=by
   refine Int.not_lt.1 fun hh=>h (c1.2 hh)
  have hlab:b.length≤a.length:=len_le_of_val hb ha nb hle
  refine Tot.ite (fun h1=>?_) (fun h1=>?_)
  ·have h1:b.length=1:=by
    have h1:((b.length:Nat):Int)=1:=by simpa using h1
    omega
   obtain ⟨y,rfl⟩:∃ y,b=[y]:=List.length_eq_one_iff.1 h1
   have hy:=hb y (by simp)
   have hvy:val [y]=y:=by simp[val]
   rw[hvy]at hbp ⊢
   refine Tot.bind0 (a:=y) rfl (Tot.bindq (short_tot ha (by omega) hbp hy.2) fun q ⟨q1,q2,q3,q4,q5⟩=>?_)
   have hm0:=Int.emod_nonneg (val a) (show y≠0 by omega)
   have hm1:=Int.emod_lt_of_pos (val a) hbp
   have hd:Dg [q.2]:=Dg.one (by rw[q5];omega)
   refine Tot.bindq (ntrim_tot (l:=[q.2]) (by simp)) fun t ht=>Tot.ret ⟨⟨q1,q2,q3⟩,⟨ht.dg hd,ht.nz,by have:=ht.len;simpa using this⟩,q4,?_⟩
   show val t=_
   rw[ht.val,← q5];simp[val]
  ·have h1:b.length≠1:=by
    have h1:((b.length:Nat):Int)≠1:=by simpa using h1
    omega
   have h2:b.length≠0:=fun e=>hb0 (List.eq_nil_of_length_eq_zero e)
   exact Tot.bindq (divide_tot ha hb na nb (by omega) hlab la) fun r hr=>Tot.ret hr
/-- a natural number as the program has it -/
def OkN (a:List Int):Prop:=Dg a∧Nz a∧a.length≤600
theorem DivMod_tot {a b:List Int} (ha:OkN a) (hb:OkN b) (hb0:b≠[]):
 Tot (fun fuel=>natural_DivMod fuel a b) (fun r=>r.2.2=(0,0)∧(OkN r.1∧r.1.length≤a.length)∧(OkN r.2.1∧r.2.1.length≤b.length)∧val r.1=val a/val b∧val r.2.1=val a%val b):=by
 unfold natural_DivMod
 obtain ⟨a1,a2,a3⟩:=ha
 obtain ⟨b1,b2,b3⟩:=hb
 refine Tot.bindq (Tot.of_all (Q:=(· =(0,0))) 0 (fun k=>ncheck a2 a3 b2 b3 _) rfl) fun q hq=>?_
 subst hq
 refine Tot.if_ rfl (Tot.if_ ?_ (Tot.bindq (divMod_tot a1 b1 a2 b2 (by omega) (by omega) hb0) fun r ⟨⟨r1,r2,r3⟩,⟨s1,s2,s3⟩,r4,r5⟩=>Tot.ret ⟨rfl,⟨⟨r1,r2,by simp only;omega⟩,r3⟩,⟨⟨s1,s2,by simp only;omega⟩,s3⟩,r4,r5⟩))
 have:b.length≠0:=fun e=>hb0 (List.eq_nil_of_length_eq_zero e)
 simpa using hb0
theorem Gcd_tot {a b:List Int} (ha:OkN a) (hb:OkN b):
 Tot (fun fuel=>natural_Gcd fuel a b) (fun r=>r.2=(0,0)∧OkN r.1∧val r.1=(Nat.gcd (val a).toNat (val b).toNat:Int)):=by
 unfold natural_Gcd
 obtain ⟨a1,a2,a3⟩:=ha
 obtain ⟨b1,b2,b3⟩:=hb
 refine Tot.bindq (Tot.of_all (Q:=(· =(0,0))) 0 (fun k=>ncheck a2 a3 b2 b3 _) rfl) fun q hq=>?_
 subst hq
 refine Tot.if_ rfl (Tot.bindq (clone_tot (by omega)) fun c hc=>?_)
 subst hc
 refine Tot.bindq (P:=fun r=>OkN r∧val r=(Nat.gcd (val c).toNat (val b).toNat:Int)) ?_ fun r ⟨h1,h2⟩=>Tot.ret ⟨rfl,h1,h2⟩
 refine Tot.loop (fun st=>OkN st.1∧OkN st.2∧Nat.gcd (val st.1).toNat (val st.2).toNat=Nat.gcd (val c).toNat (val b).toNat) (fun st=>(val st.2).toNat) ⟨⟨a1,a2,a3⟩,⟨b1,b2,b3⟩,rfl⟩ fun st ⟨⟨i1,i2,i3⟩,⟨k1,k2,k3⟩,hg⟩=>?_
 obtain ⟨x,y⟩:=st
 have i3:x.length≤600:=i3
 have k3:y.length≤600:=k3
 simp only at i1 i2 k1 k2 hg
 refine Tot.ite (fun h=>?_) (fun h=>?_)
 ·have hy:y≠[]:=fun e=>by subst e;simp at h
  have hyp:=val_pos k1 k2 hy
  refine Tot.bindq (divMod_tot i1 k1 i2 k2 (by omega) (by omega) hy) fun r ⟨⟨r1,r2,r3⟩,⟨s1,s2,s3⟩,r4,r5⟩=>Tot.bindq (clone_tot (by omega)) fun z hz=>Tot.ret ?_
  subst hz
  have hx0:=(val_bound i1).1
  have hm0:=Int.emod_nonneg (val x) (show val z≠0 by omega)
  have hm1:=Int.emod_lt_of_pos (val x) hyp
  have r5:val r.2=val x%val z:=r5
  refine ⟨⟨⟨k1,k2,k3⟩,⟨s1,s2,by simp only;omega⟩,?_⟩,by show (val r.2).toNat<(val z).toNat;rw[r5];omega⟩
  simp only
  rw[r5,← hg,Int.toNat_emod hx0 (Int.le_of_lt hyp),Nat.gcd_comm,← Nat.gcd_rec,Nat.gcd_comm]
 ·have hy:y=[]:=by
   have h:=of_decide_eq_false h
   refine List.eq_nil_of_length_eq_zero ?_
   have h:¬ 0<((y.length:Nat):Int):=h
   omega
  subst hy
  have hx0:=(val_bound i1).1
  refine Tot.ret ⟨⟨i1,i2,i3⟩,?_⟩
  show val x=_
  rw[← hg]
  simp[val]
  omega
end Go.Gv.RI
namespace Go.Gv.RI
open Go Go.Gv Go.Gv.D
/-! Own work: products, sums and comparisons of natural numbers. -/
theorem mulrow_tot {out b:List Int} {x:Int} {i T:Nat} (ho:Dg out) (lo:out.length=T) (hb:Dg b) (hx:0≤x∧x<4294967296) (hi:i+b.length≤T) (hT:T≤2000):
 Tot (fun fuel=>loopN (fun (s26:((List Int) × Int × Int))=>(if (decide (s26.2.2<((List.length b:Nat):Int))) then (Option.bind (idx b s26.2.2) fun x35=>(Option.bind (idx s26.1 (IntKind.i64.wrap ((i:Int)+s26.2.2))) fun x37=>(Option.bind (some (IntKind.u64.wrap (s26.2.1+(IntKind.u64.wrap ((IntKind.u64.wrap ((IntKind.u64.wrap (x))*(IntKind.u64.wrap (x35))))+(IntKind.u64.wrap (x37))))))) fun n39=>(Option.bind (idx s26.1 (IntKind.i64.wrap ((i:Int)+s26.2.2))) fun x41=>(Option.bind (upd s26.1 (IntKind.i64.wrap ((i:Int)+s26.2.2)) (IntKind.u32.wrap (n39))) fun l43=>(some (.inl (l43,((n39).fdiv (2^32)),(IntKind.i64.wrap (s26.2.2+1)))))))))) else (some (.inr ((s26.1,s26.2.1)))))) fuel (out,0,0))
  (fun r=>Dg r.1∧r.1.length=T∧0≤r.2∧r.2<4294967296∧r.1.drop (i+b.length)=out.drop (i+b.length)∧val (r.1.take (i+b.length))+4294967296^(i+b.length)*r.2=val (out.take (i+b.length))+4294967296^i*(x*val b)):=by
 refine Tot.loop (fun st=>∃ k:Nat,st.2.2=(k:Int)∧k≤b.length∧Dg st.1∧st.1.length=T∧0≤st.2.1∧st.2.1<4294967296∧st.1.drop (i+k)=out.drop (i+k)∧val (st.1.take (i+k))+4294967296^(i+k)*st.2.1=val (out.take (i+k))+4294967296^i*(x*val (b.take k))) (fun st=>b.length-st.2.2.toNat)
  ⟨0,rfl,by omega,ho,lo,Int.le_refl 0,(by decide:(0:Int)<4294967296),rfl,by simp[val]⟩ fun st ⟨k,e,hk,d1,l1,c0,c1,dr,hv⟩=>?_
 obtain ⟨l,c,kk⟩:=st
 simp only at e d1 l1 c0 c1 dr hv
 subst e
 refine Tot.ite (fun h=>?_) (fun h=>?_)
 ·have h:k<b.length:=by have:(k:Int)<(b.length:Int):=of_decide_eq_true h;omega
  have hil:i+k<l.length:=by omega
  have hio:i+k<out.length:=by omega
  obtain ⟨hgo,hod⟩:=get_of_drop hil hio dr
  have hy:=hb.get h
  have hz:=ho.get hio
  have w1:IntKind.i64.wrap ((i:Int)+(k:Int))=((i+k:Nat):Int):=by rw[i64_small (by omega) (by omega)];omega
  rw[w1]
  have hxy:0≤x*b[k]∧x*b[k]≤4294967295*4294967295:=⟨Int.mul_nonneg hx.1 hy.1,Int.mul_le_mul (by omega) (by omega) hy.1 (by decide)⟩
  refine Tot.bind0 (idx_nat h) (Tot.bind0 (idx_nat hil) ?_)
  rw[hgo,u64_small hx.1 (by omega),u64_small hy.1 (by omega),u64_small hz.1 (by omega),u64_small hxy.1 (by omega),u64_small (x:=x*b[k]+out[i+k]) (by omega) (by omega),u64_small (x:=c+(x*b[k]+out[i+k])) (by omega) (by omega)]
  refine Tot.some_bind (Tot.bind0 (idx_nat hil) (Tot.bind0 (upd_nat hil _) (Tot.ret ?_)))
  have efd:(c+(x*b[k]+out[i+k])).fdiv (2^32)=(c+(x*b[k]+out[i+k]))/4294967296:=Int.fdiv_eq_ediv_of_nonneg _ (by decide)
  have hw:IntKind.i64.wrap ((k:Int)+1)=((k+1:Nat):Int):=by rw[i64_small (by omega) (by omega)];omega
  simp only[efd,hw,u32_wrap]
  refine ⟨⟨k+1,rfl,by omega,dg_set d1 ⟨by omega,by omega⟩,by simp[l1],by omega,by omega,?_,?_⟩,by omega⟩
  ·rw[show i+(k+1)=i+k+1 by omega,List.drop_set_of_lt (by omega),hod]
  ·rw[show i+(k+1)=i+k+1 by omega,take_set_succ hil,val_snoc,List.length_take,Nat.min_eq_left (by omega),val_take_succ hio,val_take_succ h,Int.pow_succ]
   have ej:c+(x*b[k]+out[i+k])=(c+(x*b[k]+out[i+k]))%4294967296+4294967296*((c+(x*b[k]+out[i+k]))/4294967296):=by omega
   generalize (c+(x*b[k]+out[i+k]))%4294967296=lw at ej ⊢
   generalize (c+(x*b[k]+out[i+k]))/4294967296=hi' at ej ⊢
   have e4:val (l.take (i+k))=val (out.take (i+k))+4294967296^i*(x*val (b.take k))-4294967296^(i+k)*c:=by omega
   have e5:(4294967296:Int)^(i+k)*(c+(x*b[k]+out[i+k]))=4294967296^(i+k)*(lw+4294967296*hi'):=by rw[ej]
   rw[e4]
   rw[Int.pow_add]at e5 ⊢
   generalize (4294967296:Int)^i=Q at*
   generalize (4294967296:Int)^k=Q2 at*
   generalize b[k]=y at*
   generalize out[i+k]=z at*
   grind
 ·have h:k=b.length:=by have:¬ (k:Int)<(b.length:Int):=of_decide_eq_false h;omega
  subst h
  refine Tot.ret ⟨d1,l1,c0,c1,dr,?_⟩
  rw[val_take_all (a:=b) (Nat.le_refl _)]at hv
  exact hv
theorem mul_tot {a b:List Int} (ha:Dg a) (hb:Dg b) (la:a.length≤900) (lb:b.length≤900):
 Tot (fun fuel=>natural_mul fuel a b) (fun r=>Dg r∧Nz r∧r.length≤a.length+b.length∧val r=val a*val b):=by
 unfold natural_mul
 have hw:IntKind.i64.wrap (((a.length:Nat):Int)+((b.length:Nat):Int))=((a.length+b.length:Nat):Int):=by rw[i64_small (by omega) (by omega)];omega
 rw[hw]
 refine Tot.bind0 (a:=List.replicate (a.length+b.length) 0) (by unfold mkC;rw[if_pos ⟨by omega,by omega,by omega⟩,Int.toNat_natCast]) ?_
 refine Tot.bindq (P:=fun j=>Dg j∧j.length=a.length+b.length∧val j=val a*val b) ?_ fun j ⟨j1,j2,j3⟩=>?_
 ·refine Tot.loop (fun st=>∃ i:Nat,st.2=(i:Int)∧i≤a.length∧Dg st.1∧st.1.length=a.length+b.length∧st.1.drop (i+b.length)=List.replicate (a.length-i) 0∧val (st.1.take (i+b.length))=val (a.take i)*val b) (fun st=>a.length-st.2.toNat)
   ⟨0,rfl,by omega,fun x hx=>by rw[List.eq_of_mem_replicate hx];exact ⟨by decide,by decide⟩,by simp,by simp,by
     show val ((List.replicate (a.length+b.length) (0:Int)).take (0+b.length))=_
     rw[List.take_replicate,val_zeros];simp[val]⟩ fun st ⟨i,e,hi,d1,l1,dr,hv⟩=>?_
  obtain ⟨out,kk⟩:=st
  simp only at e d1 l1 dr hv
  subst e
  refine Tot.ite (fun h=>?_) (fun h=>?_)
  ·have h:i<a.length:=by have:(i:Int)<(a.length:Int):=of_decide_eq_true h;omega
   have hx:=ha.get h
   refine Tot.bind0 (idx_nat h) (Tot.bindq (mulrow_tot (i:=i) d1 l1 hb hx (by omega) (by omega)) fun r ⟨r1,r2,r3,r4,r5,r6⟩=>?_)
   obtain ⟨l,c⟩:=r
   simp only at r1 r2 r3 r4 r5 r6
   have w1:IntKind.i64.wrap ((i:Int)+((b.length:Nat):Int))=((i+b.length:Nat):Int):=by rw[i64_small (by omega) (by omega)];omega
   have hil:i+b.length<l.length:=by omega
   rw[w1]
   refine Tot.bind0 (idx_nat hil) (Tot.bind0 (upd_nat hil _) (Tot.ret ?_))
   have hw:IntKind.i64.wrap ((i:Int)+1)=((i+1:Nat):Int):=by rw[i64_small (by omega) (by omega)];omega
   rw[u32_small r3 r4,hw]
   refine ⟨⟨i+1,rfl,by omega,dg_set r1 ⟨r3,r4⟩,by simp[r2],?_,?_⟩,by simp only;omega⟩
   ·show (l.set (i+b.length) c).drop (i+1+b.length)=_
    rw[show i+1+b.length=i+b.length+1 by omega,List.drop_set_of_lt (by omega),← List.drop_drop,r5,dr,List.drop_replicate]
    congr 1
   ·show val ((l.set (i+b.length) c).take (i+1+b.length))=_
    rw[show i+1+b.length=i+b.length+1 by omega,take_set_succ hil,val_snoc,List.length_take,Nat.min_eq_left (by omega),r6,hv,val_take_succ h]
    grind
  ·have h:i=a.length:=by have:¬ (i:Int)<(a.length:Int):=of_decide_eq_false h;omega
   subst h
   refine Tot.ret ⟨d1,l1,?_⟩
   rw[val_take_all (by omega),val_take_all (Nat.le_refl _)]at hv
   exact hv
 ·exact Tot.bindq (ntrim_tot (by omega)) fun t ht=>Tot.ret ⟨ht.dg j1,ht.nz,by have:=ht.len;omega,by rw[ht.val,j3]⟩
theorem fit_tot {a:List Int} (ha:Dg a) (la:a.length≤2000) (hv:val a<4294967296^600):
 Tot (fun fuel=>natural_fit fuel a) (fun r=>r.2=(0,0)∧OkN r.1∧val r.1=val a∧r.1.length≤a.length):=by
 unfold natural_fit
 refine Tot.bindq (ntrim_tot (by omega)) fun t ht=>?_
 have hd:=ht.dg ha
 have hl:t.length≤600:=by
  rcases Nat.lt_or_ge 600 t.length with h | h
  ·have h1:=val_big hd ht.nz (fun e=>by rw[e]at h;simp at h)
   have h2:=pow_mono (show 600≤t.length-1 by omega)
   rw[ht.val]at h1
   omega
  ·exact h
 exact Tot.if_ (decide_eq_false (by omega)) (Tot.ret ⟨rfl,⟨hd,ht.nz,hl⟩,ht.val,ht.len⟩)
theorem ncheck_tot {a b:List Int} (ha:OkN a) (hb:OkN b):Tot (fun fuel=>natural_check fuel a b) (· =(0,0)):=Tot.of_all 0 (fun k=>ncheck ha.2.1 ha.2.2 hb.2.1 hb.2.2 _) rfl
theorem NMul_tot {a b:List Int} (ha:OkN a) (hb:OkN b) (hl:a.length+b.length≤600):
 Tot (fun fuel=>natural_Mul fuel a b) (fun r=>r.2=(0,0)∧OkN r.1∧val r.1=val a*val b∧r.1.length≤a.length+b.length):=by
 unfold natural_Mul
 refine Tot.bindq (ncheck_tot ha hb) fun q hq=>?_
 subst hq
 refine Tot.if_ rfl (Tot.bindq (mul_tot ha.1 hb.1 (by have:=ha.2.2;omega) (by have:=hb.2.2;omega)) fun m ⟨m1,m2,m3,m4⟩=>?_)
 refine Tot.bindq (fit_tot m1 (by omega) ?_) fun r ⟨r1,r2,r3,r4⟩=>Tot.ret ⟨by simp only;rw[r1],r2,by simp only;rw[r3,m4],by simp only;omega⟩
 have:=(val_bound m1).2
 have h2:=pow_mono (show m.length≤600 by omega)
 omega
theorem NAdd_tot {a b:List Int} (ha:OkN a) (hb:OkN b) (la:a.length<600) (lb:b.length<600):
 Tot (fun fuel=>natural_Add fuel a b) (fun r=>r.2=(0,0)∧OkN r.1∧val r.1=val a+val b∧r.1.length≤max a.length b.length+1):=by
 unfold natural_Add
 refine Tot.bindq (ncheck_tot ha hb) fun q hq=>?_
 subst hq
 refine Tot.if_ rfl (Tot.bindq (add_tot ha.1 hb.1 (by omega) (by omega)) fun m ⟨m1,m2,m3,m4⟩=>?_)
 have hml:m.length≤600:=by omega
 refine Tot.bindq (fit_tot m1 (by omega) ?_) fun r ⟨r1,r2,r3,r4⟩=>Tot.ret ⟨by simp only;rw[r1],r2,by simp only;rw[r3,m3],by simp only;omega⟩
 have:=(val_bound m1).2
 have h2:=pow_mono hml
 omega
theorem NCmp_tot {a b:List Int} (ha:OkN a) (hb:OkN b):
 Tot (fun fuel=>natural_Cmp fuel a b) (fun r=>r.2=(0,0)∧(r.1<0↔val a<val b)∧(r.1=0↔val a=val b)):=by
 unfold natural_Cmp
 refine Tot.bindq (ncheck_tot ha hb) fun q hq=>?_
 subst hq
 refine Tot.if_ rfl (Tot.bindq (compare_tot ha.1 hb.1 ha.2.1 hb.2.1 (by have:=ha.2.2;omega) (by have:=hb.2.2;omega)) fun c ⟨c1,c2⟩=>Tot.some_bind (Tot.ret ⟨rfl,?_,?_⟩))
 ·simp only;rw[← c1];split<;>split<;>omega
 ·simp only;rw[← c2];split<;>split<;>omega
end Go.Gv.RI
