import Derived.Test.YtbiopeiafkldiaaGreatDoorB0
set_option linter.all false
namespace Go.Gv.RI
open Go Go.Gv Go.Gv.D
/-! Own work: one digit of a long division. -/
theorem kn_i {g t rest head v2 u2 P vl ul:Int} (hP:0<P) (e:g*t+rest=head) (h:rest*4294967296+u2<g*v2) (g0:0≤g) (hvl:0≤vl) (hul:ul<P):
 (head*4294967296+u2)*P+ul<g*((t*4294967296+v2)*P+vl):=by
 have e1:g*((t*4294967296+v2)*P+vl)=((g*t)*4294967296+g*v2)*P+g*vl:=by grind
 have e2:(head*4294967296+u2+1)*P=(head*4294967296+u2)*P+P:=by grind
 have h2:(head*4294967296+u2+1)*P≤((g*t)*4294967296+g*v2)*P:=Int.mul_le_mul_of_nonneg_right (by omega) (by omega)
 have h3:0≤g*vl:=Int.mul_nonneg g0 hvl
 rw[e1];rw[e2]at h2
 omega
theorem kn_e {g t rest head v2 u2 P vl ul:Int} (hP:0<P) (e:g*t+rest=head) (h:g*v2≤rest*4294967296+u2) (g0:0≤g) (g1:g<4294967296) (hvl:0≤vl) (hvl':vl<P) (hul:0≤ul) (ht:1≤t) (hv2:0≤v2):
 g*((t*4294967296+v2)*P+vl)<((head*4294967296+u2)*P+ul)+((t*4294967296+v2)*P+vl):=by
 have e1:g*((t*4294967296+v2)*P+vl)=((g*t)*4294967296+g*v2)*P+g*vl:=by grind
 have h2:((g*t)*4294967296+g*v2)*P≤(head*4294967296+u2)*P:=Int.mul_le_mul_of_nonneg_right (by omega) (by omega)
 have h3:g*vl≤4294967295*P:=Int.mul_le_mul (by omega) (by omega) hvl (by decide)
 have h4:4294967296*P≤(t*4294967296+v2)*P:=Int.mul_le_mul_of_nonneg_right (by omega) (by omega)
 rw[e1]
 omega
theorem kn_0 {g t head v2 u2 P vl ul:Int} (hP:0<P) (e:head+1≤(g+1)*t) (g0:0≤g) (hu2:u2<4294967296) (hv2:0≤v2) (hvl:0≤vl) (hul:ul<P):
 (head*4294967296+u2)*P+ul<(g+1)*((t*4294967296+v2)*P+vl):=by
 have e1:(g+1)*((t*4294967296+v2)*P+vl)=(((g+1)*t)*4294967296+(g+1)*v2)*P+(g+1)*vl:=by grind
 have h0:0≤(g+1)*v2:=Int.mul_nonneg (by omega) hv2
 have e2:(head*4294967296+u2+1)*P=(head*4294967296+u2)*P+P:=by grind
 have h2:(head*4294967296+u2+1)*P≤(((g+1)*t)*4294967296+(g+1)*v2)*P:=Int.mul_le_mul_of_nonneg_right (by omega) (by omega)
 have h3:0≤(g+1)*vl:=Int.mul_nonneg (by omega) hvl
 rw[e1];rw[e2]at h2
 omega
theorem kn_3 {t head v2 u2 P vl ul:Int} (hP:0<P) (hq:(head*4294967296+u2)*P+ul<4294967296*((t*4294967296+v2)*P+vl)) (hu2:0≤u2) (hul:0≤ul) (hv2:v2<4294967296) (hvl:vl<P):head<4294967296*(t+1):=by
 refine Int.lt_of_not_ge fun h=>?_
 have h1:(4294967296*(t+1)*4294967296)*P≤(head*4294967296+u2)*P:=Int.mul_le_mul_of_nonneg_right (by omega) (by omega)
 have h2:(t*4294967296+v2+1)*P≤((t+1)*4294967296)*P:=Int.mul_le_mul_of_nonneg_right (by omega) (by omega)
 have e2:(t*4294967296+v2+1)*P=(t*4294967296+v2)*P+P:=by grind
 have e3:(4294967296*(t+1)*4294967296)*P=4294967296*(((t+1)*4294967296)*P):=by grind
 rw[e2]at h2;rw[e3]at h1
 omega
/-- the guess of a digit -/
theorem guess_tot {u v:List Int} {t v2 u2 head P vl ul:Int} (hiv2:idx v (IntKind.i64.wrap (((List.length v:Nat):Int)-2))=some v2) (hiu2:idx u (IntKind.i64.wrap (((List.length v:Nat):Int)-2))=some u2)
 (hP:0<P) (ht:1≤t) (ht':t<4294967296) (hv2:0≤v2∧v2<4294967296) (hu2:0≤u2∧u2<4294967296) (hvl:0≤vl∧vl<P) (hul:0≤ul∧ul<P) (hh:0≤head) (hh':head<18446744073709551616)
 (hq:(head*4294967296+u2)*P+ul<4294967296*((t*4294967296+v2)*P+vl)):
 Tot (fun fuel=>loopN (fun (s22:(Int × Int))=>(Option.bind (if (((s22.1).fdiv (2^32))!=0) then (some (true)) else (Option.bind (idx v (IntKind.i64.wrap (((List.length v:Nat):Int)-2))) fun x38=>(Option.bind (idx u (IntKind.i64.wrap (((List.length v:Nat):Int)-2))) fun x41=>(some ((decide ((IntKind.u64.wrap (s22.1*(IntKind.u64.wrap (x38))))>(bwOr .u64 (IntKind.u64.wrap (s22.2*2^32)) (IntKind.u64.wrap (x41)))))))))) fun (j29:Bool)=>(if j29 then (Option.bind (some (IntKind.u64.wrap (s22.2+(IntKind.u64.wrap (t))))) fun n51=>(if (((n51).fdiv (2^32))!=0) then (some (.inr ((IntKind.u64.wrap (s22.1-1))))) else (some (.inl ((IntKind.u64.wrap (s22.1-1)),n51))))) else (some (.inr (s22.1)))))) fuel (head/t,head%t))
  (fun g=>0≤g∧g<4294967296∧(head*4294967296+u2)*P+ul<(g+1)*((t*4294967296+v2)*P+vl)∧g*((t*4294967296+v2)*P+vl)<((head*4294967296+u2)*P+ul)+((t*4294967296+v2)*P+vl)):=by
 have hdm:=Int.mul_ediv_add_emod head t
 have hm0:=Int.emod_nonneg head (show t≠0 by omega)
 have hm1:=Int.emod_lt_of_pos head (show 0<t by omega)
 have hd0:0≤head/t:=Int.ediv_nonneg hh (by omega)
 refine Tot.loop (fun st=>0≤st.1∧st.1*t+st.2=head∧0≤st.2∧st.2<4294967296∧(head*4294967296+u2)*P+ul<(st.1+1)*((t*4294967296+v2)*P+vl)) (fun st=>(4294967296-st.2).toNat)
  ⟨hd0,by rw[Int.mul_comm];exact hdm,hm0,by show head%t<_;omega,kn_0 hP (by
    have:(head/t+1)*t=t*(head/t)+t:=by grind
    rw[this];omega) hd0 hu2.2 hv2.1 hvl.1 hul.2⟩ fun st ⟨i0,i1,i2,i3,i4⟩=>?_
 obtain ⟨g,rest⟩:=st
 simp only at i0 i1 i2 i3 i4
 have hgt:0≤g*t:=Int.mul_nonneg i0 (by omega)
 have hgle:g≤g*t:=by
  have:g*1≤g*t:=Int.mul_le_mul_of_nonneg_left ht i0
  omega
 have hgb:g<18446744073709551616:=by omega
 have efd:g.fdiv (2^32)=g/4294967296:=Int.fdiv_eq_ediv_of_nonneg _ (by decide)
 have w1:IntKind.u64.wrap v2=v2:=u64_small hv2.1 (by omega)
 have w2:IntKind.u64.wrap u2=u2:=u64_small hu2.1 (by omega)
 have w3:IntKind.u64.wrap t=t:=u64_small (by omega) (by omega)
 have w4:IntKind.u64.wrap (rest*2^32)=rest*4294967296:=u64_small (by omega) (by omega)
 have w5:IntKind.u64.wrap (rest+t)=rest+t:=u64_small (by omega) (by omega)
 have eor:bwOr .u64 (rest*4294967296) u2=rest*4294967296+u2:=or_high hu2 ⟨i2,i3⟩
 refine Tot.bindq (P:=fun j=>j=decide (4294967296≤g∨rest*4294967296+u2<g*v2)) ?_ fun j hj=>?_
 ·rw[efd]
  refine Tot.ite (fun h=>Tot.ret ?_) (fun h=>?_)
  ·have h:g/4294967296≠0:=by simpa using h
   exact (decide_eq_true (.inl (by omega))).symm
  ·have h:g/4294967296=0:=by simpa using h
   refine Tot.bind0 hiv2 (Tot.bind0 hiu2 (Tot.ret ?_))
   have hgv:0≤g*v2∧g*v2≤4294967295*4294967295:=⟨Int.mul_nonneg i0 hv2.1,Int.mul_le_mul (by omega) (by omega) hv2.1 (by decide)⟩
   have w6:IntKind.u64.wrap (g*v2)=g*v2:=u64_small hgv.1 (by omega)
   rw[w1,w2,w4,w6,eor]
   have:¬ 4294967296≤g:=by omega
   simp only[this,false_or]
 ·subst hj
  refine Tot.ite (fun h=>?_) (fun h=>?_)
  ·have h:=of_decide_eq_true h
   have hgU:(head*4294967296+u2)*P+ul<g*((t*4294967296+v2)*P+vl):=by
    rcases h with h | h
    ·refine Int.lt_of_lt_of_le hq (Int.mul_le_mul_of_nonneg_right h ?_)
     exact Int.add_nonneg (Int.mul_nonneg (by omega) (by omega)) hvl.1
    ·exact kn_i hP i1 h i0 hvl.1 hul.2
   have hg1:1≤g:=by
    rcases Int.lt_or_le 0 g with hg | hg
    ·omega
    ·have:g=0:=by omega
     subst this
     have:0≤(head*4294967296+u2)*P:=Int.mul_nonneg (by omega) (by omega)
     omega
   have w7:IntKind.u64.wrap (g-1)=g-1:=u64_small (by omega) (by omega)
   rw[w3,w5]
   refine Tot.some_bind ?_
   have e51:(rest+t).fdiv (2^32)=(rest+t)/4294967296:=Int.fdiv_eq_ediv_of_nonneg _ (by decide)
   rw[e51,w7]
   have eg:(g-1)*t+(rest+t)=head:=by
    have:(g-1)*t=g*t-t:=by grind
    omega
   refine Tot.ite (fun h2=>Tot.ret ?_) (fun h2=>Tot.ret ?_)
   ·have h2:(rest+t)/4294967296≠0:=by simpa using h2
    have h3:=kn_3 hP hq hu2.1 hul.1 hv2.2 hvl.2
    have hg2:g-1<4294967296:=by
     refine Int.lt_of_not_ge fun hh=>?_
     have:4294967296*t≤(g-1)*t:=Int.mul_le_mul_of_nonneg_right hh (by omega)
     omega
    have hgv:(g-1)*v2≤4294967295*4294967295:=Int.mul_le_mul (by omega) (by omega) hv2.1 (by decide)
    refine ⟨by omega,hg2,?_,kn_e hP eg (by omega) (by omega) hg2 hvl.1 hvl.2 hul.1 ht hv2.1⟩
    rw[show g-1+1=g by omega];exact hgU
   ·have h2:(rest+t)/4294967296=0:=by simpa using h2
    refine ⟨⟨by simp only;omega,eg,by simp only;omega,by simp only;omega,?_⟩,by simp only;omega⟩
    simp only
    rw[show g-1+1=g by omega];exact hgU
  ·have h:=of_decide_eq_false h
   have h1:g<4294967296∧g*v2≤rest*4294967296+u2:=by omega
   exact Tot.ret ⟨i0,h1.1,i4,kn_e hP i1 h1.2 i0 h1.1 hvl.1 hvl.2 hul.1 ht hv2.1⟩
end Go.Gv.RI
namespace Go.Gv.RI
open Go Go.Gv Go.Gv.D
theorem get_of_drop {l u:List Int} {i:Nat} (hi:i<l.length) (hj:i<u.length) (h:l.drop i=u.drop i):l[i]=u[i]∧l.drop (i+1)=u.drop (i+1):=by
 have h1:=List.drop_eq_getElem_cons hi
 have h2:=List.drop_eq_getElem_cons hj
 rw[h,h2]at h1
 exact ⟨(List.cons.inj h1).1.symm,(List.cons.inj h1).2.symm⟩
theorem take_set_succ {l:List Int} {i:Nat} (hi:i<l.length) (d:Int):(l.set i d).take (i+1)=l.take i++[d]:=by
 rw[List.take_succ_eq_append_getElem (by simpa using hi)]
 simp[List.take_set_of_le]
theorem dg_set {l:List Int} (h:Dg l) {i:Nat} {d:Int} (hd:0≤d∧d<4294967296):Dg (l.set i d):=fun z hz=>by
 rcases List.mem_or_eq_of_mem_set hz with h1 | h1
 ·exact h z h1
 ·subst h1;exact hd
theorem upd_nat {l:List Int} {i:Nat} (hi:i<l.length) (d:Int):upd l (i:Int) d=some (l.set i d):=by
 unfold upd;rw[if_pos ⟨by omega,by omega⟩];rfl
/-- u less g times v, with what is missing -/
theorem subloop_tot {u v:List Int} {n:Nat} {g:Int} (hu:Dg u) (hv:Dg v) (ln:v.length=n) (lu:u.length=n+1) (hn:n≤1000) (g0:0≤g) (g1:g<4294967296):
 Tot (fun fuel=>loopN (fun (s62:((List Int) × Int × Int × Int))=>(if (decide (s62.2.2.2<(IntKind.i64.wrap (((List.length v:Nat):Int)+1)))) then (Option.bind (if (decide (s62.2.2.2<((List.length v:Nat):Int))) then (Option.bind (idx v s62.2.2.2) fun x75=>(Option.bind (some (IntKind.u64.wrap (s62.2.1+(IntKind.u64.wrap (g*(IntKind.u64.wrap (x75))))))) fun n77=>(some (n77)))) else (some (s62.2.1))) fun (j72:Int)=>(Option.bind (idx s62.1 s62.2.2.2) fun x83=>(Option.bind (bits_Sub32 fuel x83 (IntKind.u32.wrap (j72)) s62.2.2.1) fun r85=>(Option.bind (idx s62.1 s62.2.2.2) fun x90=>(Option.bind (upd s62.1 s62.2.2.2 r85.1) fun l93=>(some (.inl (l93,((j72).fdiv (2^32)),r85.2,(IntKind.i64.wrap (s62.2.2.2+1)))))))))) else (some (.inr ((s62.1,s62.2.2.1)))))) fuel (u,0,0,0))
  (fun r=>Dg r.1∧r.1.length=n+1∧0≤r.2∧r.2≤1∧val r.1=val u-g*val v+4294967296^(n+1)*r.2):=by
 have hwn:IntKind.i64.wrap (((List.length v:Nat):Int)+1)=((n+1:Nat):Int):=by rw[ln,i64_small (by omega) (by omega)];omega
 rw[hwn]
 refine Tot.loop (fun st=>∃ i:Nat,st.2.2.2=(i:Int)∧i≤n+1∧Dg st.1∧st.1.length=n+1∧st.1.drop i=u.drop i∧0≤st.2.1∧st.2.1<4294967296∧(i=n+1→st.2.1=0)∧0≤st.2.2.1∧st.2.2.1≤1∧
  val (st.1.take i)=val (u.take i)-g*val (v.take i)+4294967296^i*(st.2.1+st.2.2.1)) (fun st=>n+1-st.2.2.2.toNat)
  ⟨0,rfl,by omega,hu,lu,rfl,Int.le_refl 0,(by decide:(0:Int)<4294967296),fun _=>rfl,Int.le_refl 0,(by decide:(0:Int)≤1),by simp[val]⟩ fun st ⟨i,e,hi,d1,l1,dr,c0,c1,c2,b0,b1,hval⟩=>?_
 obtain ⟨l,c,b,k⟩:=st
 simp only at e d1 l1 dr c0 c1 c2 b0 b1 hval
 subst e
 refine Tot.ite (fun h=>?_) (fun h=>?_)
 ·have h:i<n+1:=by have:(i:Int)<((n+1:Nat):Int):=of_decide_eq_true h;omega
  obtain ⟨hgo,hod⟩:=get_of_drop (show i<l.length by omega) (show i<u.length by omega) dr
  have hx:=hu.get (show i<u.length by omega)
  have tp:=val_take_succ (show i<u.length by omega)
  refine Tot.bindq (P:=fun j=>0≤j∧j<18446744073709551616∧(i=n→j<4294967296)∧∃ y,j=c+g*y∧val (v.take (i+1))=val (v.take i)+4294967296^i*y) ?_ fun j ⟨j0,j1,j2,y,jy,vy⟩=>?_
  ·rw[ln]
   refine Tot.ite (fun hh=>?_) (fun hh=>?_)
   ·have hh:i<v.length:=by have:(i:Int)<((n:Nat):Int):=of_decide_eq_true hh;omega
    have hy:=hv.get hh
    have hgy:0≤g*v[i]∧g*v[i]≤4294967295*4294967295:=⟨Int.mul_nonneg g0 hy.1,Int.mul_le_mul (by omega) (by omega) hy.1 (by decide)⟩
    refine Tot.bind0 (idx_nat hh) (Tot.some_bind (Tot.ret ?_))
    rw[u64_small (x:=v[i]) hy.1 (by omega),u64_small hgy.1 (by omega),u64_small (by omega) (by omega)]
    exact ⟨by omega,by omega,fun e=>by omega,v[i],rfl,val_take_succ hh⟩
   ·have hh:v.length≤i:=by have:¬ (i:Int)<((n:Nat):Int):=of_decide_eq_false hh;omega
    refine Tot.ret ⟨c0,by omega,fun _=>c1,0,by simp,?_⟩
    rw[val_take_all hh,val_take_all (a:=v) (i:=i+1) (by omega)];simp
  ·have hil:i<l.length:=by omega
   refine Tot.bind0 (idx_nat hil) ?_
   rw[hgo,u32_wrap]
   obtain ⟨d,bb,e1,e2,e3,e4,e5,e6⟩:=sub32_tot 0 hx (y:=j%4294967296) ⟨by omega,by omega⟩ ⟨b0,b1⟩
   refine Tot.bind0 (a:=(d,bb)) e1 (Tot.bind0 (idx_nat hil) (Tot.bind0 (upd_nat hil d) (Tot.ret ?_)))
   have efd:j.fdiv (2^32)=j/4294967296:=Int.fdiv_eq_ediv_of_nonneg _ (by decide)
   have hw:IntKind.i64.wrap ((i:Int)+1)=((i+1:Nat):Int):=by rw[i64_small (by omega) (by omega)];omega
   simp only[efd,hw]
   refine ⟨⟨i+1,rfl,by omega,dg_set d1 ⟨e2,e3⟩,by simp[l1],by rw[List.drop_set_of_lt (by omega),hod],by omega,by omega,fun e=>?_,e4,e5,?_⟩,by omega⟩
   ·have:=j2 (by omega);omega
   ·rw[take_set_succ hil,val_snoc,List.length_take,Nat.min_eq_left (by omega),hval,tp,vy,e6,Int.pow_succ]
    have ej:j=j%4294967296+4294967296*(j/4294967296):=by omega
    generalize (4294967296:Int)^i=Q
    generalize j%4294967296=lo at*
    generalize j/4294967296=hi' at*
    have:c=lo+4294967296*hi'-g*y:=by omega
    subst this
    grind
 ·have h:i=n+1:=by have:¬ (i:Int)<((n+1:Nat):Int):=of_decide_eq_false h;omega
  subst h
  refine Tot.ret ⟨d1,l1,b0,b1,?_⟩
  show val l=_
  rw[val_take_all (by omega),val_take_all (by omega),val_take_all (by omega),c2 rfl,Int.zero_add]at hval
  exact hval
theorem add32_tot (fuel:Nat) {x y b:Int} (hx:0≤x∧x<4294967296) (hy:0≤y∧y<4294967296) (hb:0≤b∧b≤1):bits_Add32 fuel x y b=some ((x+y+b)%4294967296,(x+y+b)/4294967296):=by
 unfold bits_Add32
 have w1:IntKind.u64.wrap x=x:=u64_small (by omega) (by omega)
 have w2:IntKind.u64.wrap y=y:=u64_small (by omega) (by omega)
 have w3:IntKind.u64.wrap b=b:=u64_small (by omega) (by omega)
 have w4:IntKind.u64.wrap (x+y)=x+y:=u64_small (by omega) (by omega)
 have w5:IntKind.u64.wrap (x+y+b)=x+y+b:=u64_small (by omega) (by omega)
 have efd:(x+y+b).fdiv (2^32)=(x+y+b)/4294967296:=Int.fdiv_eq_ediv_of_nonneg _ (by decide)
 simp only[w1,w2,w3,w4,w5,Option.bind_some,efd,u32_wrap]
 rw[Int.emod_eq_of_lt (a:=(x+y+b)/4294967296) (by omega) (by omega)]
/-- v added to the low limbs -/
theorem addloop_tot {u v:List Int} {n:Nat} (hu:Dg u) (hv:Dg v) (ln:v.length=n) (lu:u.length=n+1) (hn:n≤1000):
 Tot (fun fuel=>loopN (fun (s117:((List Int) × Int × Int))=>(if (decide (s117.2.2<((List.length v:Nat):Int))) then (Option.bind (idx s117.1 s117.2.2) fun x129=>(Option.bind (idx v s117.2.2) fun x132=>(Option.bind (bits_Add32 fuel x129 x132 s117.2.1) fun r136=>(Option.bind (idx s117.1 s117.2.2) fun x141=>(Option.bind (upd s117.1 s117.2.2 r136.1) fun l144=>(some (.inl (l144,r136.2,(IntKind.i64.wrap (s117.2.2+1)))))))))) else (some (.inr ((s117.1,s117.2.1)))))) fuel (u,0,0))
  (fun r=>Dg r.1∧r.1.length=n+1∧0≤r.2∧r.2≤1∧r.1.drop n=u.drop n∧val (r.1.take n)+4294967296^n*r.2=val (u.take n)+val v):=by
 rw[ln]
 refine Tot.loop (fun st=>∃ i:Nat,st.2.2=(i:Int)∧i≤n∧Dg st.1∧st.1.length=n+1∧st.1.drop i=u.drop i∧0≤st.2.1∧st.2.1≤1∧
  val (st.1.take i)+4294967296^i*st.2.1=val (u.take i)+val (v.take i)) (fun st=>n-st.2.2.toNat)
  ⟨0,rfl,by omega,hu,lu,rfl,Int.le_refl 0,(by decide:(0:Int)≤1),by simp[val]⟩ fun st ⟨i,e,hi,d1,l1,dr,b0,b1,hval⟩=>?_
 obtain ⟨l,b,k⟩:=st
 simp only at e d1 l1 dr b0 b1 hval
 subst e
 refine Tot.ite (fun h=>?_) (fun h=>?_)
 ·have h:i<n:=by have:(i:Int)<(n:Int):=of_decide_eq_true h;omega
  obtain ⟨hgo,hod⟩:=get_of_drop (show i<l.length by omega) (show i<u.length by omega) dr
  have hx:=hu.get (show i<u.length by omega)
  have hy:=hv.get (show i<v.length by omega)
  have tp:=val_take_succ (show i<u.length by omega)
  have tq:=val_take_succ (show i<v.length by omega)
  have hil:i<l.length:=by omega
  refine Tot.bind0 (idx_nat hil) (Tot.bind0 (idx_nat (show i<v.length by omega)) ?_)
  rw[hgo]
  refine Tot.bindq (Tot.of_all (Q:=(· =((u[i]+v[i]+b)%4294967296,(u[i]+v[i]+b)/4294967296))) 0 (fun k=>add32_tot _ hx hy ⟨b0,b1⟩) rfl) fun q hq=>?_
  subst hq
  refine Tot.bind0 (idx_nat hil) (Tot.bind0 (upd_nat hil _) (Tot.ret ?_))
  have hw:IntKind.i64.wrap ((i:Int)+1)=((i+1:Nat):Int):=by rw[i64_small (by omega) (by omega)];omega
  simp only[hw]
  refine ⟨⟨i+1,rfl,by omega,dg_set d1 ⟨by omega,by omega⟩,by simp[l1],by rw[List.drop_set_of_lt (by omega),hod],by omega,by omega,?_⟩,by omega⟩
  rw[take_set_succ hil,val_snoc,List.length_take,Nat.min_eq_left (by omega),tp,tq,Int.pow_succ]
  have ej:u[i]+v[i]+b=(u[i]+v[i]+b)%4294967296+4294967296*((u[i]+v[i]+b)/4294967296):=by omega
  generalize (4294967296:Int)^i=Q at*
  generalize (u[i]+v[i]+b)%4294967296=lo at ej ⊢
  generalize (u[i]+v[i]+b)/4294967296=hi' at ej ⊢
  have e3:Q*(u[i]+v[i]+b)=Q*(lo+4294967296*hi'):=by rw[ej]
  have e4:val (l.take i)=val (u.take i)+val (v.take i)-Q*b:=by omega
  rw[e4]
  grind
 ·have h:i=n:=by have:¬ (i:Int)<(n:Int):=of_decide_eq_false h;omega
  subst h
  refine Tot.ret ⟨d1,l1,b0,b1,dr,?_⟩
  rw[val_take_all (a:=v) (by omega)]at hval
  exact hval
end Go.Gv.RI
namespace Go.Gv.RI
open Go Go.Gv Go.Gv.D
theorem val3 (l:List Int) (x y z:Int):val (l++[x,y,z])=(((z*4294967296+y)*4294967296+x)*4294967296^l.length)+val l:=by
 rw[val_append];simp only[val];grind
theorem val2 (l:List Int) (x y:Int):val (l++[x,y])=((y*4294967296+x)*4294967296^l.length)+val l:=by
 rw[val_append];simp only[val];grind
theorem idx_at {p q:List Int} {x:Int} {k:Int} (h:k=(p.length:Int)):idx (p++x::q) k=some x:=by
 subst h;exact bm_get p x q rfl
/-- a digit of a quotient: how often v is in u, and what is left -/
theorem digit_tot {ul vl:List Int} {u2 u1 u0 v2 t:Int} {m:Nat} (hul:ul.length=m) (hvl:vl.length=m) (hm:m≤900) (hu:Dg (ul++[u2,u1,u0])) (hv:Dg (vl++[v2,t])) (ht:t≠0)
 (hq:val (ul++[u2,u1,u0])<4294967296*val (vl++[v2,t])):
 Tot (fun fuel=>natural_digit fuel (ul++[u2,u1,u0]) (vl++[v2,t])) (fun r=>Dg r.2∧r.2.length=m+3∧0≤r.1∧r.1<4294967296∧val (ul++[u2,u1,u0])=r.1*val (vl++[v2,t])+val r.2∧val r.2<val (vl++[v2,t])):=by
 obtain ⟨ha1,ha2,ha3⟩:(0≤u2∧u2<4294967296)∧(0≤u1∧u1<4294967296)∧(0≤u0∧u0<4294967296):=⟨hu _ (by simp),hu _ (by simp),hu _ (by simp)⟩
 obtain ⟨hb1,hb2⟩:(0≤v2∧v2<4294967296)∧(0≤t∧t<4294967296):=⟨hv _ (by simp),hv _ (by simp)⟩
 have hvu:=val_bound (l:=ul) hu.left
 have hvv:=val_bound (l:=vl) hv.left
 have hP:(0:Int)<4294967296^m:=Int.pow_pos (by decide)
 have lv:(vl++[v2,t]).length=m+2:=by simp[hvl]
 have lu:(ul++[u2,u1,u0]).length=m+3:=by simp[hul]
 have eU:=val3 ul u2 u1 u0
 have eV:=val2 vl v2 t
 rw[hul]at hvu eU
 rw[hvl]at hvv eV
 have i1:idx (ul++[u2,u1,u0]) (((vl++[v2,t]).length:Nat):Int)=some u0:=by
  rw[show ul++[u2,u1,u0]=(ul++[u2,u1])++u0::[] by simp];exact idx_at (by simp[hul,hvl])
 have w1:IntKind.i64.wrap ((((vl++[v2,t]).length:Nat):Int)-1)=((m+1:Nat):Int):=by rw[lv,i64_small (by omega) (by omega)];omega
 have w2:IntKind.i64.wrap ((((vl++[v2,t]).length:Nat):Int)-2)=(m:Int):=by rw[lv,i64_small (by omega) (by omega)];omega
 have i2:idx (ul++[u2,u1,u0]) (IntKind.i64.wrap ((((vl++[v2,t]).length:Nat):Int)-1))=some u1:=by
  rw[w1,show ul++[u2,u1,u0]=(ul++[u2])++u1::[u0] by simp];exact idx_at (by simp[hul])
 have i3:idx (vl++[v2,t]) (IntKind.i64.wrap ((((vl++[v2,t]).length:Nat):Int)-1))=some t:=by
  rw[w1,show vl++[v2,t]=(vl++[v2])++t::[] by simp];exact idx_at (by simp[hvl])
 have i4:idx (vl++[v2,t]) (IntKind.i64.wrap ((((vl++[v2,t]).length:Nat):Int)-2))=some v2:=by rw[w2];exact idx_at (by simp[hvl])
 have i5:idx (ul++[u2,u1,u0]) (IntKind.i64.wrap ((((vl++[v2,t]).length:Nat):Int)-2))=some u2:=by rw[w2];exact idx_at (by simp[hul])
 have hq':=hq
 rw[eU,eV]at hq'
 unfold natural_digit
 refine Tot.bind0 i1 (Tot.bind0 i2 (Tot.bind0 i3 (Tot.some_bind ?_)))
 have x1:IntKind.u64.wrap u0=u0:=u64_small ha3.1 (by omega)
 have x2:IntKind.u64.wrap u1=u1:=u64_small ha2.1 (by omega)
 have x3:IntKind.u64.wrap t=t:=u64_small hb2.1 (by omega)
 have x4:IntKind.u64.wrap (u0*2^32)=u0*4294967296:=u64_small (by omega) (by omega)
 have x5:bwOr .u64 (u0*4294967296) u1=u0*4294967296+u1:=or_high ha2 ha3
 have hnz:nz t=some ():=by unfold nz;rw[if_neg ht]
 simp only[x1,x2,x4,x5,x3]
 have hh0:0≤u0*4294967296+u1:=by omega
 have hh1:u0*4294967296+u1<18446744073709551616:=by omega
 have hd0:0≤(u0*4294967296+u1)/t:=Int.ediv_nonneg hh0 (by omega)
 have hd1:(u0*4294967296+u1)/t≤u0*4294967296+u1:=Int.ediv_le_self _ hh0
 refine Tot.bind0 hnz (Tot.bind0 hnz (Tot.some_bind ?_))
 rw[Int.tdiv_eq_ediv_of_nonneg hh0,Int.tmod_eq_emod_of_nonneg hh0,u64_small hd0 (by omega)]
 have hG:=guess_tot (u:=ul++[u2,u1,u0]) (v:=vl++[v2,t]) i4 i5 hP (by omega) hb2.2 hb1 ha1 hvv hvu hh0 hh1 hq'
 simp only[x3]at hG
 refine Tot.bindq hG fun g ⟨g0,g1,g2,g3⟩=>?_
 rw[← eU,← eV]at g2 g3
 refine Tot.bindq (subloop_tot (n:=m+2) hu hv lv lu (by omega) g0 g1) fun r ⟨d1,l1,b0,b1,hval⟩=>?_
 obtain ⟨p,bw⟩:=r
 simp only at d1 l1 b0 b1 hval
 have hpb:=val_bound d1
 rw[l1]at hpb
 have hUb:=val_bound hu
 rw[lu]at hUb
 have hVb:=val_bound hv
 rw[lv]at hVb
 have hpw:=pow_mono (show m+2≤m+2+1 by omega)
 generalize hU:val (ul++[u2,u1,u0])=U at*
 generalize hV:val (vl++[v2,t])=V at*
 have eg:(g+1)*V=g*V+V:=by grind
 have eg2:(g-1)*V=g*V-V:=by grind
 generalize hgV:g*V=W at*
 refine Tot.bindq (P:=fun j=>Dg j.1∧j.1.length=m+3∧0≤j.2∧j.2<4294967296∧U=j.2*V+val j.1∧val j.1<V) ?_ fun j ⟨j1,j2,j3,j4,j5,j6⟩=>?_
 ·refine Tot.ite (fun h=>?_) (fun h=>Tot.ret ?_)
  ·have hb:bw=1:=by have:bw≠0:=by simpa using h
                    omega
   subst hb
   have hg1:1≤g:=by
    rcases Int.lt_or_le 0 g with hg | hg
    ·omega
    ·have:g=0:=by omega
     subst this
     simp at hgV
     omega
   refine Tot.bindq (addloop_tot (u:=p) (n:=m+2) d1 hv lv l1 (by omega)) fun s ⟨s1,s2,s3,s4,s5,s6⟩=>?_
   obtain ⟨q,ov⟩:=s
   simp only at s1 s2 s3 s4 s5 s6
   rw[hV]at s6
   have hlt:m+2<p.length:=by omega
   have hlt':m+2<q.length:=by omega
   have hqx:q[m+2]=p[m+2]:=(get_of_drop hlt' hlt s5).1
   have hx:=d1.get hlt
   have ii:idx q (((vl++[v2,t]).length:Nat):Int)=some p[m+2]:=by rw[lv,idx_nat hlt',hqx]
   refine Tot.bind0 ii (Tot.bind0 ii (Tot.bind0 (a:=q.set (m+2) ((p[m+2]+ov)%4294967296)) ?_ (Tot.ret ?_)))
   ·rw[lv,u32_wrap];exact upd_nat hlt' _
   have hw:IntKind.u64.wrap (g-1)=g-1:=u64_small (by omega) (by omega)
   rw[hw]
   simp only
   have hd:Dg (q.set (m+2) ((p[m+2]+ov)%4294967296)):=dg_set s1 ⟨by omega,by omega⟩
   have hlen:(q.set (m+2) ((p[m+2]+ov)%4294967296)).length=m+2+1:=by simp[s2]
   have hbd:=val_bound hd
   rw[hlen]at hbd
   have hp1:val p=val (p.take (m+2))+4294967296^(m+2)*p[m+2]:=by
    rw[← val_take_succ hlt,val_take_all (by omega)]
   have hr1:val (q.set (m+2) ((p[m+2]+ov)%4294967296))=val (q.take (m+2))+4294967296^(m+2)*((p[m+2]+ov)%4294967296):=by
    rw[← val_take_all (a:=q.set (m+2) _) (i:=m+2+1) (by simp[s2]),take_set_succ hlt',val_snoc,List.length_take,Nat.min_eq_left (by omega)]
   refine ⟨hd,hlen,by omega,by omega,?_⟩
   rw[eg2]
   generalize val (q.set (m+2) ((p[m+2]+ov)%4294967296))=R at hr1 hbd ⊢
   have hkk:(p[m+2]+ov)/4294967296=0∨(p[m+2]+ov)/4294967296=1:=by omega
   have ek:p[m+2]+ov=(p[m+2]+ov)%4294967296+4294967296*((p[m+2]+ov)/4294967296):=by omega
   generalize (p[m+2]+ov)/4294967296=kk at hkk ek
   generalize (p[m+2]+ov)%4294967296=z at ek hr1
   rw[Int.pow_succ]at hval hpb hbd hUb hpw
   generalize (4294967296:Int)^(m+2)=Q at*
   have e9:R=val p+V-Q*4294967296*kk:=by
    rw[hr1,hp1]
    have:Q*(p[m+2]+ov)=Q*(z+4294967296*kk):=by rw[ek]
    have e8:val (q.take (m+2))=val (p.take (m+2))+V-Q*ov:=by omega
    rw[e8];grind
   rcases hkk with rfl | rfl
   ·simp at e9;omega
   ·simp at e9 hval;omega
  ·have hb:bw=0:=by simpa using h
   subst hb
   simp only[Int.mul_zero,Int.add_zero]at hval
   refine ⟨d1,l1,g0,g1,?_,?_⟩
   ·rw[hgV,hval];omega
   ·show val p<V;omega
 ·obtain ⟨j,gg⟩:=j
  simp only at j1 j2 j3 j4 j5 j6
  refine Tot.ret ⟨j1,j2,?_⟩
  rw[u32_small j3 j4]
  exact ⟨j3,j4,j5,j6⟩
end Go.Gv.RI
