import Derived.Test.YtbiopeiafkldiaaGreatDoorRP
set_option linter.all false
open Int renaming mul_le_mul_of_nonneg_right→aa,mul_le_mul_of_nonneg_left→ad,fdiv_eq_ediv_of_nonneg→ag,mul_nonneg→ah,emod_lt_of_pos→ai,emod_nonneg→an,mul_comm→ao,emod_eq_of_lt→ap,pow_succ→aq,mul_ediv_add_emod→ar,toNat_natCast→au,mul_le_mul→aw,ediv_eq_zero_of_lt→az,ediv_nonneg→aB,ediv_lt_of_lt_mul→aE,mul_lt_mul_of_pos_right→aF,tmod_eq_emod_of_nonneg→aG,tdiv_eq_ediv_of_nonneg→aH,pow_pos→aK,add_comm→aM,lt_of_not_ge→aO,le_refl→aP
open Go.Gv.Tot renaming bind0→ab,bindq→ac,ret→af,some_bind→am,ite→av,loop→aJ,of_all→aS
open List renaming drop_eq_getElem_cons→ae,length_take→ak,replicate→al,eq_nil_of_length_eq_zero→ax,length→ay,take_append_drop→aD,drop_set_of_lt→aI,drop_of_length_le→aN
open Nat renaming min_eq_left→aj,le_refl→aL,lt_or_ge→aR
namespace Go.Gv.RI
open Go Go.Gv Go.Gv.D
/-! Own work: a number divided by one limb, and multiplied by one. -/
theorem bm_get {α:Type} (p:List α) (x:α) (q:List α) {m:Nat} (h:m=p.length):idx (p++x::q) (m:Int)=some x:=by
 subst h
 rw[idx_nat (by simp)]
 simp
theorem bm_upd {α:Type} (p:List α) (x y:α) (q:List α) {m:Nat} (h:m=p.length):upd (p++x::q) (m:Int) y=some (p++y::q):=by
 subst h
 unfold upd
 rw[if_pos ⟨om,oss⟩,au]
 simp
theorem or_high {a b:Int} (ha:0≤a∧a<4294967296) (hb:0≤b∧b<4294967296):bwOr .u64 (b*4294967296) a=b*4294967296+a:=by
 have h:=or_shift ha hb
 unfold bwOr at h ⊢
 rw[BitVec.or_comm,h,aM]
theorem div32_tot {r x d:Int} (hr:0≤r∧r<d) (hx:0≤x∧x<4294967296) (hd:d<4294967296) (fuel:Nat):bits_Div32 fuel r x d=some ((r*4294967296+x)/d,(r*4294967296+x)%d):=by
 unfold bits_Div32
 have e0:(d !=0)=true:=bne_iff_ne.2 om
 have e1:decide (d≤r)=false:=dff om
 rw[e0,e1]
 have w1:IntKind.u64.wrap r=r:=u64_small om om
 have w2:IntKind.u64.wrap (r*2^32)=r*4294967296:=u64_small om om
 have w3:IntKind.u64.wrap x=x:=u64_small om om
 have w4:IntKind.u64.wrap d=d:=u64_small om om
 have hn:nz d=some ():=by unfold nz;rw[if_neg om]
 have hn0:0≤r*4294967296+x:=by omega
 have hq:(r*4294967296+x)/d<4294967296:=aE om (by
  have:(r+1)*4294967296≤d*4294967296:=aa om ddc
  omega)
 have hq0:0≤(r*4294967296+x)/d:=aB hn0 om
 have hm0:0≤(r*4294967296+x)%d:=an _ om
 have hm1:(r*4294967296+x)%d<d:=ai _ om
 simp only[Bool.and_false,Bool.false_eq_true,if_false,Option.bind_some,w1,w2,w3,w4,hn,or_high hx (show 0≤r∧r<4294967296 by omega),aH hn0,aG hn0]
 rw[u64_small hq0 om,u32_small hq0 hq,u32_small hm0 om]
theorem val_cons' (x:Int) (q:List Int):val (x::q)=x+4294967296*val q:=by simp[val]
theorem short_tot {a:List Int} {d:Int} (ha:Dg a) (la:a.length≤1000) (h1:0<d) (h2:d<4294967296):
 Tot (fun fuel=>natural_short fuel a d) (fun r=>Dg r.1∧Nz r.1∧r.1.length≤a.length∧val r.1=val a/d∧r.2=val a%d):=by
 unfold natural_short
 refine ab (a:=al a.length 0) (by unfold mkC;rw[if_pos ⟨om,om,om⟩];simp) ?_
 have hw:IntKind.i64.wrap (((a.length:Nat):Int)-1)=(a.length:Int)-1:=i64_small om om
 rw[hw]
 refine am ?_
 refine ac (P:=fun j=>Dg j.1∧j.1.length=a.length∧0≤j.2∧j.2<d∧val a=d*val j.1+j.2) ?_ fun j ⟨j1,j2,j3,j4,j5⟩=>?_
 ·refine aJ (fun st=>∃ (i:Nat) (q:List Int),st.2.2=(i:Int)-1∧i≤a.length∧st.1=al i 0++q∧q.length=a.length-i∧Dg q∧0≤st.2.1∧st.2.1<d∧val (a.drop i)=d*val q+st.2.1) (fun st=>(st.2.2+1).toNat)
   ⟨a.length,[],rfl,aL _,by simp,by simp,fun x hx=>by simp at hx,aP _,h1,by simp[val]⟩ fun st ⟨i,q,e1,hi,e2,hq,hdq,g1,g2,g3⟩=>?_
  obtain ⟨out,r,k⟩:=st
  simp only at e1 e2 g1 g2 g3
  subst e1;subst e2
  refine av (fun h=>?_) (fun h=>?_)
  ·have h:0<i:=by have:(i:Int)-1≥0:=odt h;omega
   obtain ⟨m,rfl⟩:∃ m,i=m+1:=⟨i-1,om⟩
   have hm:m<a.length:=by omega
   have hx:=ha.get hm
   have ek:((m+1:Nat):Int)-1=(m:Int):=by omega
   simp only[ek]
   have er:al (m+1) (0:Int)++q=al m 0++0::q:=by rw[List.replicate_succ',List.append_assoc];rfl
   rw[er]
   refine ab (idx_nat hm) ?_
   refine ac (aS (Q:=(· =((r*4294967296+a[m])/d,(r*4294967296+a[m])%d))) 0 (fun k=>div32_tot ⟨g1,g2⟩ hx h2 _) rfl) fun qq hqq=>?_
   subst hqq
   refine ab (bm_get _ _ _ (by simp)) ?_
   refine ab (bm_upd _ _ _ _ (by simp)) (af ?_)
   have hw:IntKind.i64.wrap ((m:Int)-1)=(m:Int)-1:=i64_small om om
   simp only[hw]
   have hn0:0≤r*4294967296+a[m]:=by omega
   have hq1:(r*4294967296+a[m])/d<4294967296:=aE om (by
    have:(r+1)*4294967296≤d*4294967296:=aa om ddc
    omega)
   have hq0:0≤(r*4294967296+a[m])/d:=aB hn0 om
   refine ⟨⟨m,(r*4294967296+a[m])/d::q,rfl,om,rfl,by simp[hq];omega,fun x hx=>?_,an _ om,ai _ h1,?_⟩,om⟩
   ·rcases List.mem_cons.1 hx with e | e
    ·subst e;exact ⟨hq0,hq1⟩
    ·exact hdq x e
   ·rw[ae hm,val_cons',val_cons',g3]
    have:=ar (r*4294967296+a[m]) d
    generalize (r*4294967296+a[m])/d=u at*
    generalize (r*4294967296+a[m])%d=v at*
    generalize a[m]=x at*
    have:d*(u+4294967296*val q)=d*u+4294967296*(d*val q):=by grind
    grind
  ·have h:i=0:=by have:¬ (i:Int)-1≥0:=odf h;omega
   subst h
   refine af ⟨?_,?_,g1,g2,?_⟩
   ·simpa using hdq
   ·simp[hq]
   ·simpa using g3
 ·refine ac (ntrim_tot om) fun t ht=>af ⟨ht.dg j1,ht.nz,by have:=ht.len;simp only;omega,?_,?_⟩
  ·rw[ht.val,j5,aM,Int.add_mul_ediv_left _ _ (Int.ne_of_gt h1),az j3 j4];simp
  ·rw[j5,aM,Int.add_mul_emod_self_left,ap j3 j4]
end Go.Gv.RI
namespace Go.Gv.RI
open Go Go.Gv Go.Gv.D
/-! Own work: the digits of a number to the bases 2, 8 and 16, and the number with some digits. -/
def IsBase (B:Int):Prop:=B=2∨B=8∨B=16
theorem IsBase.one {B:Int} (h:IsBase B):1<B:=by rcases h with h | h | h<;>subst h<;>decide
theorem IsBase.le {B:Int} (h:IsBase B):B≤16:=by rcases h with h | h | h<;>subst h<;>decide
theorem Tot.all {α:Type} {f:Nat→Option α} {a:α} (h:∀ k,f k=some a):Tot f (· =a):=aS 0 (fun k=>h _) rfl
theorem big_two:Big=2^4096:=by
 unfold Big
 rw[show (4294967296:Int)=2^32 by decide,← Int.pow_mul]
theorem pow_le_left {a b:Int} (ha:0≤a) (h:a≤b):∀ n:Nat,a^n≤b^n
 | 0=>by simp
 | n+1=>by
   rw[aq,aq]
   exact aw (pow_le_left ha h n) h ha (Int.pow_nonneg om)
theorem vb_cons' (b x:Int) (l:List Int):vb b (x::l)=x+b*vb b l:=rfl
end Go.Gv.RI
namespace Go.Gv.RI
open Go Go.Gv Go.Gv.D
/-! Own work: one digit of a long division. -/
theorem kn_i {g t rest head v2 u2 P vl ul:Int} (hP:0<P) (e:g*t+rest=head) (h:rest*4294967296+u2<g*v2) (g0:0≤g) (hvl:0≤vl) (hul:ul<P):
 (head*4294967296+u2)*P+ul<g*((t*4294967296+v2)*P+vl):=by
 have e1:g*((t*4294967296+v2)*P+vl)=((g*t)*4294967296+g*v2)*P+g*vl:=by grind
 have e2:(head*4294967296+u2+1)*P=(head*4294967296+u2)*P+P:=by grind
 have h2:(head*4294967296+u2+1)*P≤((g*t)*4294967296+g*v2)*P:=aa om om
 have h3:0≤g*vl:=ah g0 hvl
 rw[e1];rw[e2]at h2
 omega
theorem kn_e {g t rest head v2 u2 P vl ul:Int} (hP:0<P) (e:g*t+rest=head) (h:g*v2≤rest*4294967296+u2) (g0:0≤g) (g1:g<4294967296) (hvl:0≤vl) (hvl':vl<P) (hul:0≤ul) (ht:1≤t) (hv2:0≤v2):
 g*((t*4294967296+v2)*P+vl)<((head*4294967296+u2)*P+ul)+((t*4294967296+v2)*P+vl):=by
 have e1:g*((t*4294967296+v2)*P+vl)=((g*t)*4294967296+g*v2)*P+g*vl:=by grind
 have h2:((g*t)*4294967296+g*v2)*P≤(head*4294967296+u2)*P:=aa om om
 have h3:g*vl≤4294967295*P:=aw om om hvl ddc
 have h4:4294967296*P≤(t*4294967296+v2)*P:=aa om om
 rw[e1]
 omega
theorem kn_0 {g t head v2 u2 P vl ul:Int} (hP:0<P) (e:head+1≤(g+1)*t) (g0:0≤g) (hu2:u2<4294967296) (hv2:0≤v2) (hvl:0≤vl) (hul:ul<P):
 (head*4294967296+u2)*P+ul<(g+1)*((t*4294967296+v2)*P+vl):=by
 have e1:(g+1)*((t*4294967296+v2)*P+vl)=(((g+1)*t)*4294967296+(g+1)*v2)*P+(g+1)*vl:=by grind
 have h0:0≤(g+1)*v2:=ah om hv2
 have e2:(head*4294967296+u2+1)*P=(head*4294967296+u2)*P+P:=by grind
 have h2:(head*4294967296+u2+1)*P≤(((g+1)*t)*4294967296+(g+1)*v2)*P:=aa om om
 have h3:0≤(g+1)*vl:=ah om hvl
 rw[e1];rw[e2]at h2
 omega
theorem kn_3 {t head v2 u2 P vl ul:Int} (hP:0<P) (hq:(head*4294967296+u2)*P+ul<4294967296*((t*4294967296+v2)*P+vl)) (hu2:0≤u2) (hul:0≤ul) (hv2:v2<4294967296) (hvl:vl<P):head<4294967296*(t+1):=by
 refine aO fun h=>?_
 have h1:(4294967296*(t+1)*4294967296)*P≤(head*4294967296+u2)*P:=aa om om
 have h2:(t*4294967296+v2+1)*P≤((t+1)*4294967296)*P:=aa om om
 have e2:(t*4294967296+v2+1)*P=(t*4294967296+v2)*P+P:=by grind
 have e3:(4294967296*(t+1)*4294967296)*P=4294967296*(((t+1)*4294967296)*P):=by grind
 rw[e2]at h2;rw[e3]at h1
 omega
/-- the guess of a digit -/
theorem guess_tot {u v:List Int} {t v2 u2 head P vl ul:Int} (hiv2:idx v (IntKind.i64.wrap (((ay v:Nat):Int)-2))=some v2) (hiu2:idx u (IntKind.i64.wrap (((ay v:Nat):Int)-2))=some u2)
 (hP:0<P) (ht:1≤t) (ht':t<4294967296) (hv2:0≤v2∧v2<4294967296) (hu2:0≤u2∧u2<4294967296) (hvl:0≤vl∧vl<P) (hul:0≤ul∧ul<P) (hh:0≤head) (hh':head<18446744073709551616)
 (hq:(head*4294967296+u2)*P+ul<4294967296*((t*4294967296+v2)*P+vl)):
 Tot (fun fuel=>loopN (fun (s22:(Int × Int))=>(Option.bind (if (((s22.1).fdiv (2^32))!=0) then (some (true)) else (Option.bind (idx v (IntKind.i64.wrap (((ay v:Nat):Int)-2))) fun x38=>(Option.bind (idx u (IntKind.i64.wrap (((ay v:Nat):Int)-2))) fun x41=>(some ((decide ((IntKind.u64.wrap (s22.1*(IntKind.u64.wrap (x38))))>(bwOr .u64 (IntKind.u64.wrap (s22.2*2^32)) (IntKind.u64.wrap (x41)))))))))) fun (j29:Bool)=>(if j29 then (Option.bind (some (IntKind.u64.wrap (s22.2+(IntKind.u64.wrap (t))))) fun n51=>(if (((n51).fdiv (2^32))!=0) then (some (.inr ((IntKind.u64.wrap (s22.1-1))))) else (some (.inl ((IntKind.u64.wrap (s22.1-1)),n51))))) else (some (.inr (s22.1)))))) fuel (head/t,head%t))
  (fun g=>0≤g∧g<4294967296∧(head*4294967296+u2)*P+ul<(g+1)*((t*4294967296+v2)*P+vl)∧g*((t*4294967296+v2)*P+vl)<((head*4294967296+u2)*P+ul)+((t*4294967296+v2)*P+vl)):=by
 have hdm:=ar head t
 have hm0:=an head (show t≠0 by omega)
 have hm1:=ai head (show 0<t by omega)
 have hd0:0≤head/t:=aB hh om
 refine aJ (fun st=>0≤st.1∧st.1*t+st.2=head∧0≤st.2∧st.2<4294967296∧(head*4294967296+u2)*P+ul<(st.1+1)*((t*4294967296+v2)*P+vl)) (fun st=>(4294967296-st.2).toNat)
  ⟨hd0,by rw[Int.mul_comm];exact hdm,hm0,by show head%t<_;omega,kn_0 hP (by
    have:(head/t+1)*t=t*(head/t)+t:=by grind
    rw[this];omega) hd0 hu2.2 hv2.1 hvl.1 hul.2⟩ fun st ⟨i0,i1,i2,i3,i4⟩=>?_
 obtain ⟨g,rest⟩:=st
 simp only at i0 i1 i2 i3 i4
 have hgt:0≤g*t:=ah i0 om
 have hgle:g≤g*t:=by
  have:g*1≤g*t:=ad ht i0
  omega
 have hgb:g<18446744073709551616:=by omega
 have efd:g.fdiv (2^32)=g/4294967296:=ag _ ddc
 have w1:IntKind.u64.wrap v2=v2:=u64_small hv2.1 om
 have w2:IntKind.u64.wrap u2=u2:=u64_small hu2.1 om
 have w3:IntKind.u64.wrap t=t:=u64_small om om
 have w4:IntKind.u64.wrap (rest*2^32)=rest*4294967296:=u64_small om om
 have w5:IntKind.u64.wrap (rest+t)=rest+t:=u64_small om om
 have eor:bwOr .u64 (rest*4294967296) u2=rest*4294967296+u2:=or_high hu2 ⟨i2,i3⟩
 refine ac (P:=fun j=>j=decide (4294967296≤g∨rest*4294967296+u2<g*v2)) ?_ fun j hj=>?_
 ·rw[efd]
  refine av (fun h=>af ?_) (fun h=>?_)
  ·have h:g/4294967296≠0:=by simpa using h
   exact (dtt (.inl om)).symm
  ·have h:g/4294967296=0:=by simpa using h
   refine ab hiv2 (ab hiu2 (af ?_))
   have hgv:0≤g*v2∧g*v2≤4294967295*4294967295:=⟨ah i0 hv2.1,aw om om hv2.1 ddc⟩
   have w6:IntKind.u64.wrap (g*v2)=g*v2:=u64_small hgv.1 om
   rw[w1,w2,w4,w6,eor]
   have:¬ 4294967296≤g:=by omega
   simp only[this,false_or]
 ·subst hj
  refine av (fun h=>?_) (fun h=>?_)
  ·have h:=odt h
   have hgU:(head*4294967296+u2)*P+ul<g*((t*4294967296+v2)*P+vl):=by
    rcases h with h | h
    ·refine Int.lt_of_lt_of_le hq (aa h ?_)
     exact Int.add_nonneg (ah om om) hvl.1
    ·exact kn_i hP i1 h i0 hvl.1 hul.2
   have hg1:1≤g:=by
    rcases Int.lt_or_le 0 g with hg | hg
    ·omega
    ·have:g=0:=by omega
     subst this
     have:0≤(head*4294967296+u2)*P:=ah om om
     omega
   have w7:IntKind.u64.wrap (g-1)=g-1:=u64_small om om
   rw[w3,w5]
   refine am ?_
   have e51:(rest+t).fdiv (2^32)=(rest+t)/4294967296:=ag _ ddc
   rw[e51,w7]
   have eg:(g-1)*t+(rest+t)=head:=by
    have:(g-1)*t=g*t-t:=by grind
    omega
   refine av (fun h2=>af ?_) (fun h2=>af ?_)
   ·have h2:(rest+t)/4294967296≠0:=by simpa using h2
    have h3:=kn_3 hP hq hu2.1 hul.1 hv2.2 hvl.2
    have hg2:g-1<4294967296:=by
     refine aO fun hh=>?_
     have:4294967296*t≤(g-1)*t:=aa hh om
     omega
    have hgv:(g-1)*v2≤4294967295*4294967295:=aw om om hv2.1 ddc
    refine ⟨om,hg2,?_,kn_e hP eg om om hg2 hvl.1 hvl.2 hul.1 ht hv2.1⟩
    rw[show g-1+1=g by omega];exact hgU
   ·have h2:(rest+t)/4294967296=0:=by simpa using h2
    refine ⟨⟨osm,eg,osm,osm,?_⟩,osm⟩
    simp only
    rw[show g-1+1=g by omega];exact hgU
  ·have h:=odf h
   have h1:g<4294967296∧g*v2≤rest*4294967296+u2:=by omega
   exact af ⟨i0,h1.1,i4,kn_e hP i1 h1.2 i0 h1.1 hvl.1 hvl.2 hul.1 ht hv2.1⟩
end Go.Gv.RI
namespace Go.Gv.RI
open Go Go.Gv Go.Gv.D
theorem get_of_drop {l u:List Int} {i:Nat} (hi:i<l.length) (hj:i<u.length) (h:l.drop i=u.drop i):l[i]=u[i]∧l.drop (i+1)=u.drop (i+1):=by
 have h1:=ae hi
 have h2:=ae hj
 rw[h,h2]at h1
 exact ⟨(List.cons.inj h1).1.symm,(List.cons.inj h1).2.symm⟩
theorem take_set_succ {l:List Int} {i:Nat} (hi:i<l.length) (d:Int):(l.set i d).take (i+1)=l.take i++[d]:=by
 rw[List.take_succ_eq_append_getElem (by simpa using hi)]
 simp[List.take_set_of_le]
theorem dg_set {l:List Int} (h:Dg l) {i:Nat} {d:Int} (hd:0≤d∧d<4294967296):Dg (l.set i d):=fun z hz=>by
 rcases List.mem_or_eq_of_mem_set hz with h1 | h1
 ·exact h z h1
 ·subst h1;exact hd
theorem upd_nat {l:List Int} {i:Nat} (hi:i<l.length) (d:Int):upd l (i:Int) d=some (l.set i d):=by
 unfold upd;rw[if_pos ⟨om,om⟩];rfl
/-- u less g times v, with what is missing -/
theorem subloop_tot {u v:List Int} {n:Nat} {g:Int} (hu:Dg u) (hv:Dg v) (ln:v.length=n) (lu:u.length=n+1) (hn:n≤1000) (g0:0≤g) (g1:g<4294967296):
 Tot (fun fuel=>loopN (fun (s62:((List Int) × Int × Int × Int))=>(if (decide (s62.2.2.2<(IntKind.i64.wrap (((ay v:Nat):Int)+1)))) then (Option.bind (if (decide (s62.2.2.2<((ay v:Nat):Int))) then (Option.bind (idx v s62.2.2.2) fun x75=>(Option.bind (some (IntKind.u64.wrap (s62.2.1+(IntKind.u64.wrap (g*(IntKind.u64.wrap (x75))))))) fun n77=>(some (n77)))) else (some (s62.2.1))) fun (j72:Int)=>(Option.bind (idx s62.1 s62.2.2.2) fun x83=>(Option.bind (bits_Sub32 fuel x83 (IntKind.u32.wrap (j72)) s62.2.2.1) fun r85=>(Option.bind (idx s62.1 s62.2.2.2) fun x90=>(Option.bind (upd s62.1 s62.2.2.2 r85.1) fun l93=>(some (.inl (l93,((j72).fdiv (2^32)),r85.2,(IntKind.i64.wrap (s62.2.2.2+1)))))))))) else (some (.inr ((s62.1,s62.2.2.1)))))) fuel (u,0,0,0))
  (fun r=>Dg r.1∧r.1.length=n+1∧0≤r.2∧r.2≤1∧val r.1=val u-g*val v+4294967296^(n+1)*r.2):=by
 have hwn:IntKind.i64.wrap (((ay v:Nat):Int)+1)=((n+1:Nat):Int):=by rw[ln,i64_small om om];omega
 rw[hwn]
 refine aJ (fun st=>∃ i:Nat,st.2.2.2=(i:Int)∧i≤n+1∧Dg st.1∧st.1.length=n+1∧st.1.drop i=u.drop i∧0≤st.2.1∧st.2.1<4294967296∧(i=n+1→st.2.1=0)∧0≤st.2.2.1∧st.2.2.1≤1∧
  val (st.1.take i)=val (u.take i)-g*val (v.take i)+4294967296^i*(st.2.1+st.2.2.1)) (fun st=>n+1-st.2.2.2.toNat)
  ⟨0,rfl,om,hu,lu,rfl,aP 0,(by decide:(0:Int)<4294967296),fun _=>rfl,aP 0,(by decide:(0:Int)≤1),by simp[val]⟩ fun st ⟨i,e,hi,d1,l1,dr,c0,c1,c2,b0,b1,hval⟩=>?_
 obtain ⟨l,c,b,k⟩:=st
 simp only at e d1 l1 dr c0 c1 c2 b0 b1 hval
 subst e
 refine av (fun h=>?_) (fun h=>?_)
 ·have h:i<n+1:=by have:(i:Int)<((n+1:Nat):Int):=odt h;omega
  obtain ⟨hgo,hod⟩:=get_of_drop (show i<l.length by omega) (show i<u.length by omega) dr
  have hx:=hu.get (show i<u.length by omega)
  have tp:=val_take_succ (show i<u.length by omega)
  refine ac (P:=fun j=>0≤j∧j<18446744073709551616∧(i=n→j<4294967296)∧∃ y,j=c+g*y∧val (v.take (i+1))=val (v.take i)+4294967296^i*y) ?_ fun j ⟨j0,j1,j2,y,jy,vy⟩=>?_
  ·rw[ln]
   refine av (fun hh=>?_) (fun hh=>?_)
   ·have hh:i<v.length:=by have:(i:Int)<((n:Nat):Int):=odt hh;omega
    have hy:=hv.get hh
    have hgy:0≤g*v[i]∧g*v[i]≤4294967295*4294967295:=⟨ah g0 hy.1,aw om om hy.1 ddc⟩
    refine ab (idx_nat hh) (am (af ?_))
    rw[u64_small (x:=v[i]) hy.1 om,u64_small hgy.1 om,u64_small om om]
    exact ⟨om,om,fun e=>by omega,v[i],rfl,val_take_succ hh⟩
   ·have hh:v.length≤i:=by have:¬ (i:Int)<((n:Nat):Int):=odf hh;omega
    refine af ⟨c0,om,fun _=>c1,0,by simp,?_⟩
    rw[val_take_all hh,val_take_all (a:=v) (i:=i+1) om];simp
  ·have hil:i<l.length:=by omega
   refine ab (idx_nat hil) ?_
   rw[hgo,u32_wrap]
   obtain ⟨d,bb,e1,e2,e3,e4,e5,e6⟩:=sub32_tot 0 hx (y:=j%4294967296) ⟨om,om⟩ ⟨b0,b1⟩
   refine ab (a:=(d,bb)) e1 (ab (idx_nat hil) (ab (upd_nat hil d) (af ?_)))
   have efd:j.fdiv (2^32)=j/4294967296:=ag _ ddc
   have hw:IntKind.i64.wrap ((i:Int)+1)=((i+1:Nat):Int):=by rw[i64_small om om];omega
   simp only[efd,hw]
   refine ⟨⟨i+1,rfl,om,dg_set d1 ⟨e2,e3⟩,by simp[l1],by rw[aI om,hod],om,om,fun e=>?_,e4,e5,?_⟩,om⟩
   ·have:=j2 om;omega
   ·rw[take_set_succ hil,val_snoc,ak,aj om,hval,tp,vy,e6,aq]
    have ej:j=j%4294967296+4294967296*(j/4294967296):=by omega
    generalize (4294967296:Int)^i=Q
    generalize j%4294967296=lo at*
    generalize j/4294967296=hi' at*
    have:c=lo+4294967296*hi'-g*y:=by omega
    subst this
    grind
 ·have h:i=n+1:=by have:¬ (i:Int)<((n+1:Nat):Int):=odf h;omega
  subst h
  refine af ⟨d1,l1,b0,b1,?_⟩
  show val l=_
  rw[val_take_all om,val_take_all om,val_take_all om,c2 rfl,Int.zero_add]at hval
  exact hval
theorem add32_tot (fuel:Nat) {x y b:Int} (hx:0≤x∧x<4294967296) (hy:0≤y∧y<4294967296) (hb:0≤b∧b≤1):bits_Add32 fuel x y b=some ((x+y+b)%4294967296,(x+y+b)/4294967296):=by
 unfold bits_Add32
 have w1:IntKind.u64.wrap x=x:=u64_small om om
 have w2:IntKind.u64.wrap y=y:=u64_small om om
 have w3:IntKind.u64.wrap b=b:=u64_small om om
 have w4:IntKind.u64.wrap (x+y)=x+y:=u64_small om om
 have w5:IntKind.u64.wrap (x+y+b)=x+y+b:=u64_small om om
 have efd:(x+y+b).fdiv (2^32)=(x+y+b)/4294967296:=ag _ ddc
 simp only[w1,w2,w3,w4,w5,Option.bind_some,efd,u32_wrap]
 rw[ap (a:=(x+y+b)/4294967296) om om]
/-- v added to the low limbs -/
theorem addloop_tot {u v:List Int} {n:Nat} (hu:Dg u) (hv:Dg v) (ln:v.length=n) (lu:u.length=n+1) (hn:n≤1000):
 Tot (fun fuel=>loopN (fun (s117:((List Int) × Int × Int))=>(if (decide (s117.2.2<((ay v:Nat):Int))) then (Option.bind (idx s117.1 s117.2.2) fun x129=>(Option.bind (idx v s117.2.2) fun x132=>(Option.bind (bits_Add32 fuel x129 x132 s117.2.1) fun r136=>(Option.bind (idx s117.1 s117.2.2) fun x141=>(Option.bind (upd s117.1 s117.2.2 r136.1) fun l144=>(some (.inl (l144,r136.2,(IntKind.i64.wrap (s117.2.2+1)))))))))) else (some (.inr ((s117.1,s117.2.1)))))) fuel (u,0,0))
  (fun r=>Dg r.1∧r.1.length=n+1∧0≤r.2∧r.2≤1∧r.1.drop n=u.drop n∧val (r.1.take n)+4294967296^n*r.2=val (u.take n)+val v):=by
 rw[ln]
 refine aJ (fun st=>∃ i:Nat,st.2.2=(i:Int)∧i≤n∧Dg st.1∧st.1.length=n+1∧st.1.drop i=u.drop i∧0≤st.2.1∧st.2.1≤1∧
  val (st.1.take i)+4294967296^i*st.2.1=val (u.take i)+val (v.take i)) (fun st=>n-st.2.2.toNat)
  ⟨0,rfl,om,hu,lu,rfl,aP 0,(by decide:(0:Int)≤1),by simp[val]⟩ fun st ⟨i,e,hi,d1,l1,dr,b0,b1,hval⟩=>?_
 obtain ⟨l,b,k⟩:=st
 simp only at e d1 l1 dr b0 b1 hval
 subst e
 refine av (fun h=>?_) (fun h=>?_)
 ·have h:i<n:=by have:(i:Int)<(n:Int):=odt h;omega
  obtain ⟨hgo,hod⟩:=get_of_drop (show i<l.length by omega) (show i<u.length by omega) dr
  have hx:=hu.get (show i<u.length by omega)
  have hy:=hv.get (show i<v.length by omega)
  have tp:=val_take_succ (show i<u.length by omega)
  have tq:=val_take_succ (show i<v.length by omega)
  have hil:i<l.length:=by omega
  refine ab (idx_nat hil) (ab (idx_nat (show i<v.length by omega)) ?_)
  rw[hgo]
  refine ac (aS (Q:=(· =((u[i]+v[i]+b)%4294967296,(u[i]+v[i]+b)/4294967296))) 0 (fun k=>add32_tot _ hx hy ⟨b0,b1⟩) rfl) fun q hq=>?_
  subst hq
  refine ab (idx_nat hil) (ab (upd_nat hil _) (af ?_))
  have hw:IntKind.i64.wrap ((i:Int)+1)=((i+1:Nat):Int):=by rw[i64_small om om];omega
  simp only[hw]
  refine ⟨⟨i+1,rfl,om,dg_set d1 ⟨om,om⟩,by simp[l1],by rw[aI om,hod],om,om,?_⟩,om⟩
  rw[take_set_succ hil,val_snoc,ak,aj om,tp,tq,aq]
  have ej:u[i]+v[i]+b=(u[i]+v[i]+b)%4294967296+4294967296*((u[i]+v[i]+b)/4294967296):=by omega
  generalize (4294967296:Int)^i=Q at*
  generalize (u[i]+v[i]+b)%4294967296=lo at ej ⊢
  generalize (u[i]+v[i]+b)/4294967296=hi' at ej ⊢
  have e3:Q*(u[i]+v[i]+b)=Q*(lo+4294967296*hi'):=by rw[ej]
  have e4:val (l.take i)=val (u.take i)+val (v.take i)-Q*b:=by omega
  rw[e4]
  grind
 ·have h:i=n:=by have:¬ (i:Int)<(n:Int):=odf h;omega
  subst h
  refine af ⟨d1,l1,b0,b1,dr,?_⟩
  rw[val_take_all (a:=v) om]at hval
  exact hval
end Go.Gv.RI
namespace Go.Gv.RI
open Go Go.Gv Go.Gv.D
theorem val3 (l:List Int) (x y z:Int):val (l++[x,y,z])=(((z*4294967296+y)*4294967296+x)*4294967296^l.length)+val l:=by
 rw[val_append];simp only[val];grind
theorem val2 (l:List Int) (x y:Int):val (l++[x,y])=((y*4294967296+x)*4294967296^l.length)+val l:=by
 rw[val_append];simp only[val];grind
theorem idx_at {p q:List Int} {x:Int} {k:Int} (h:k=(p.length:Int)):idx (p++x::q) k=some x:=by
 subst h;exact bm_get p x q rfl
/-- a digit of a quotient: how often v is in u, and what is left -/
theorem digit_tot {ul vl:List Int} {u2 u1 u0 v2 t:Int} {m:Nat} (hul:ul.length=m) (hvl:vl.length=m) (hm:m≤900) (hu:Dg (ul++[u2,u1,u0])) (hv:Dg (vl++[v2,t])) (ht:t≠0)
 (hq:val (ul++[u2,u1,u0])<4294967296*val (vl++[v2,t])):
 Tot (fun fuel=>natural_digit fuel (ul++[u2,u1,u0]) (vl++[v2,t])) (fun r=>Dg r.2∧r.2.length=m+3∧0≤r.1∧r.1<4294967296∧val (ul++[u2,u1,u0])=r.1*val (vl++[v2,t])+val r.2∧val r.2<val (vl++[v2,t])):=by
 obtain ⟨ha1,ha2,ha3⟩:(0≤u2∧u2<4294967296)∧(0≤u1∧u1<4294967296)∧(0≤u0∧u0<4294967296):=⟨hu _ (by simp),hu _ (by simp),hu _ (by simp)⟩
 obtain ⟨hb1,hb2⟩:(0≤v2∧v2<4294967296)∧(0≤t∧t<4294967296):=⟨hv _ (by simp),hv _ (by simp)⟩
 have hvu:=val_bound (l:=ul) hu.left
 have hvv:=val_bound (l:=vl) hv.left
 have hP:(0:Int)<4294967296^m:=aK ddc
 have lv:(vl++[v2,t]).length=m+2:=by simp[hvl]
 have lu:(ul++[u2,u1,u0]).length=m+3:=by simp[hul]
 have eU:=val3 ul u2 u1 u0
 have eV:=val2 vl v2 t
 rw[hul]at hvu eU
 rw[hvl]at hvv eV
 have i1:idx (ul++[u2,u1,u0]) (((vl++[v2,t]).length:Nat):Int)=some u0:=by
  rw[show ul++[u2,u1,u0]=(ul++[u2,u1])++u0::[] by simp];exact idx_at (by simp[hul,hvl])
 have w1:IntKind.i64.wrap ((((vl++[v2,t]).length:Nat):Int)-1)=((m+1:Nat):Int):=by rw[lv,i64_small om om];omega
 have w2:IntKind.i64.wrap ((((vl++[v2,t]).length:Nat):Int)-2)=(m:Int):=by rw[lv,i64_small om om];omega
 have i2:idx (ul++[u2,u1,u0]) (IntKind.i64.wrap ((((vl++[v2,t]).length:Nat):Int)-1))=some u1:=by
  rw[w1,show ul++[u2,u1,u0]=(ul++[u2])++u1::[u0] by simp];exact idx_at (by simp[hul])
 have i3:idx (vl++[v2,t]) (IntKind.i64.wrap ((((vl++[v2,t]).length:Nat):Int)-1))=some t:=by
  rw[w1,show vl++[v2,t]=(vl++[v2])++t::[] by simp];exact idx_at (by simp[hvl])
 have i4:idx (vl++[v2,t]) (IntKind.i64.wrap ((((vl++[v2,t]).length:Nat):Int)-2))=some v2:=by rw[w2];exact idx_at (by simp[hvl])
 have i5:idx (ul++[u2,u1,u0]) (IntKind.i64.wrap ((((vl++[v2,t]).length:Nat):Int)-2))=some u2:=by rw[w2];exact idx_at (by simp[hul])
 have hq':=hq
 rw[eU,eV]at hq'
 unfold natural_digit
 refine ab i1 (ab i2 (ab i3 (am ?_)))
 have x1:IntKind.u64.wrap u0=u0:=u64_small ha3.1 om
 have x2:IntKind.u64.wrap u1=u1:=u64_small ha2.1 om
 have x3:IntKind.u64.wrap t=t:=u64_small hb2.1 om
 have x4:IntKind.u64.wrap (u0*2^32)=u0*4294967296:=u64_small om om
 have x5:bwOr .u64 (u0*4294967296) u1=u0*4294967296+u1:=or_high ha2 ha3
 have hnz:nz t=some ():=by unfold nz;rw[if_neg ht]
 simp only[x1,x2,x4,x5,x3]
 have hh0:0≤u0*4294967296+u1:=by omega
 have hh1:u0*4294967296+u1<18446744073709551616:=by omega
 have hd0:0≤(u0*4294967296+u1)/t:=aB hh0 om
 have hd1:(u0*4294967296+u1)/t≤u0*4294967296+u1:=Int.ediv_le_self _ hh0
 refine ab hnz (ab hnz (am ?_))
 rw[aH hh0,aG hh0,u64_small hd0 om]
 have hG:=guess_tot (u:=ul++[u2,u1,u0]) (v:=vl++[v2,t]) i4 i5 hP om hb2.2 hb1 ha1 hvv hvu hh0 hh1 hq'
 simp only[x3]at hG
 refine ac hG fun g ⟨g0,g1,g2,g3⟩=>?_
 rw[← eU,← eV]at g2 g3
 refine ac (subloop_tot (n:=m+2) hu hv lv lu om g0 g1) fun r ⟨d1,l1,b0,b1,hval⟩=>?_
 obtain ⟨p,bw⟩:=r
 simp only at d1 l1 b0 b1 hval
 have hpb:=val_bound d1
 rw[l1]at hpb
 have hUb:=val_bound hu
 rw[lu]at hUb
 have hVb:=val_bound hv
 rw[lv]at hVb
 have hpw:=pow_mono (show m+2≤m+2+1 by omega)
 generalize hU:val (ul++[u2,u1,u0])=U at*
 generalize hV:val (vl++[v2,t])=V at*
 have eg:(g+1)*V=g*V+V:=by grind
 have eg2:(g-1)*V=g*V-V:=by grind
 generalize hgV:g*V=W at*
 refine ac (P:=fun j=>Dg j.1∧j.1.length=m+3∧0≤j.2∧j.2<4294967296∧U=j.2*V+val j.1∧val j.1<V) ?_ fun j ⟨j1,j2,j3,j4,j5,j6⟩=>?_
 ·refine av (fun h=>?_) (fun h=>af ?_)
  ·have hb:bw=1:=by have:bw≠0:=by simpa using h
                    omega
   subst hb
   have hg1:1≤g:=by
    rcases Int.lt_or_le 0 g with hg | hg
    ·omega
    ·have:g=0:=by omega
     subst this
     simp at hgV
     omega
   refine ac (addloop_tot (u:=p) (n:=m+2) d1 hv lv l1 om) fun s ⟨s1,s2,s3,s4,s5,s6⟩=>?_
   obtain ⟨q,ov⟩:=s
   simp only at s1 s2 s3 s4 s5 s6
   rw[hV]at s6
   have hlt:m+2<p.length:=by omega
   have hlt':m+2<q.length:=by omega
   have hqx:q[m+2]=p[m+2]:=(get_of_drop hlt' hlt s5).1
   have hx:=d1.get hlt
   have ii:idx q (((vl++[v2,t]).length:Nat):Int)=some p[m+2]:=by rw[lv,idx_nat hlt',hqx]
   refine ab ii (ab ii (ab (a:=q.set (m+2) ((p[m+2]+ov)%4294967296)) ?_ (af ?_)))
   ·rw[lv,u32_wrap];exact upd_nat hlt' _
   have hw:IntKind.u64.wrap (g-1)=g-1:=u64_small om om
   rw[hw]
   simp only
   have hd:Dg (q.set (m+2) ((p[m+2]+ov)%4294967296)):=dg_set s1 ⟨om,om⟩
   have hlen:(q.set (m+2) ((p[m+2]+ov)%4294967296)).length=m+2+1:=by simp[s2]
   have hbd:=val_bound hd
   rw[hlen]at hbd
   have hp1:val p=val (p.take (m+2))+4294967296^(m+2)*p[m+2]:=by
    rw[← val_take_succ hlt,val_take_all om]
   have hr1:val (q.set (m+2) ((p[m+2]+ov)%4294967296))=val (q.take (m+2))+4294967296^(m+2)*((p[m+2]+ov)%4294967296):=by
    rw[← val_take_all (a:=q.set (m+2) _) (i:=m+2+1) (by simp[s2]),take_set_succ hlt',val_snoc,ak,aj om]
   refine ⟨hd,hlen,om,om,?_⟩
   rw[eg2]
   generalize val (q.set (m+2) ((p[m+2]+ov)%4294967296))=R at hr1 hbd ⊢
   have hkk:(p[m+2]+ov)/4294967296=0∨(p[m+2]+ov)/4294967296=1:=by omega
   have ek:p[m+2]+ov=(p[m+2]+ov)%4294967296+4294967296*((p[m+2]+ov)/4294967296):=by omega
   generalize (p[m+2]+ov)/4294967296=kk at hkk ek
   generalize (p[m+2]+ov)%4294967296=z at ek hr1
   rw[aq]at hval hpb hbd hUb hpw
   generalize (4294967296:Int)^(m+2)=Q at*
   have e9:R=val p+V-Q*4294967296*kk:=by
    rw[hr1,hp1]
    have:Q*(p[m+2]+ov)=Q*(z+4294967296*kk):=by rw[ek]
    have e8:val (q.take (m+2))=val (p.take (m+2))+V-Q*ov:=by omega
    rw[e8];grind
   rcases hkk with rfl | rfl
   ·simp at e9;omega
   ·simp at e9 hval;omega
  ·have hb:bw=0:=by simpa using h
   subst hb
   simp only[Int.mul_zero,Int.add_zero]at hval
   refine ⟨d1,l1,g0,g1,?_,?_⟩
   ·rw[hgV,hval];omega
   ·show val p<V;omega
 ·obtain ⟨j,gg⟩:=j
  simp only at j1 j2 j3 j4 j5 j6
  refine af ⟨j1,j2,?_⟩
  rw[u32_small j3 j4]
  exact ⟨j3,j4,j5,j6⟩
end Go.Gv.RI
namespace Go.Gv.RI
open Go Go.Gv Go.Gv.D
/-! Own work: shifts by less than a limb. -/
theorem two_pow_pos (s:Nat):(0:Int)<2^s:=aK ddc
theorem two_pow_32 {s:Nat} (h:s≤32):(2:Int)^s*2^(32-s)=4294967296:=by
 rw[← Int.pow_add,show s+(32-s)=32 by omega];rfl
theorem or32_add {k c:Int} {s:Nat} (hs:s<32) (hk:0≤k) (hk':k*2^s<4294967296) (hc:0≤c) (hc':c<2^s):bwOr .u32 (k*2^s) c=k*2^s+c:=by
 have hp:=two_pow_pos s
 have h32:=two_pow_32 (show s≤32 by omega)
 have hle:(2:Int)^s<4294967296:=by
  have:(2:Int)^s*1<2^s*2^(32-s):=Int.mul_lt_mul_of_pos_left (by
   have:=pow_mono2 (show 1≤32-s by omega);omega) hp
  omega
 have hks:0≤k*2^s:=ah hk om
 rw[toNat_or32]
 have e1:(BitVec.ofInt 32 (k*2^s)).toNat=2^s*k.toNat:=by
  simp only[BitVec.toNat_ofInt]
  rw[ap hks (by simpa using hk')]
  rw[Int.toNat_mul hk om,Nat.mul_comm]
  congr 1
 have e2:(BitVec.ofInt 32 c).toNat=c.toNat:=by
  simp only[BitVec.toNat_ofInt]
  rw[ap hc oss]
 have hcn:c.toNat<2^s:=by
  have:((2^s:Nat):Int)=2^s:=by simp
  omega
 rw[BitVec.toNat_or,e1,e2,← Nat.two_pow_add_eq_or_of_lt hcn]
 have:((2^s:Nat):Int)=2^s:=by simp
 rw[Int.natCast_add,Int.natCast_mul,this,Int.toNat_of_nonneg hk,Int.toNat_of_nonneg hc,ao]
where
 pow_mono2 {a b:Nat} (h:a≤b):(2:Int)^a≤2^b:=by
  obtain ⟨d,rfl⟩:=Nat.exists_eq_add_of_le h
  rw[Int.pow_add]
  have h1:=two_pow_pos a
  have h2:=two_pow_pos d
  have:(2:Int)^a*1≤2^a*2^d:=ad om om
  omega
theorem s_div {s:Nat} (h:s<32):((s:Nat):Int).tdiv 32=0:=by rw[aH om];omega
theorem s_mod {s:Nat} (h:s<32):((s:Nat):Int).tmod 32=(s:Int):=by rw[aG om];omega
theorem nn_nat (s:Nat):nn ((s:Nat):Int)=some ():=by unfold nn;rw[if_pos om]
theorem left_tot {a:List Int} {s:Nat} (ha:Dg a) (la:a.length≤1000) (hs:s<32):
 Tot (fun fuel=>natural_left fuel a (s:Int)) (fun r=>Dg r∧Nz r∧val r=val a*2^s∧r.length≤a.length+1):=by
 unfold natural_left
 have hp:=two_pow_pos s
 have h32:=two_pow_32 (show s≤32 by omega)
 have hp2:=two_pow_pos (32-s)
 rw[s_div hs,s_mod hs]
 have w0:IntKind.i64.wrap 0=0:=i64_small om om
 have w1:IntKind.i64.wrap (0+((a.length:Nat):Int))=(a.length:Int):=by rw[i64_small om om];omega
 have w2:IntKind.i64.wrap ((a.length:Int)+1)=(a.length:Int)+1:=i64_small om om
 rw[w0,w1,w2]
 refine ab (a:=[]) (by unfold mkC;rw[if_pos ⟨om,om,om⟩];rfl) ?_
 refine ac (P:=fun r=>Dg r.1∧r.1.length=a.length∧0≤r.2∧r.2<2^s∧val r.1+4294967296^a.length*r.2=val a*2^s) ?_ fun r ⟨h1,h2,h3,h4,h5⟩=>?_
 ·refine aJ (fun st=>∃ i:Nat,st.2.2=(i:Int)∧i≤a.length∧Dg st.1∧st.1.length=i∧0≤st.2.1∧st.2.1<2^s∧val st.1+4294967296^i*st.2.1=val (a.take i)*2^s) (fun st=>a.length-st.2.2.toNat)
   ⟨0,rfl,om,fun x hx=>by simp at hx,rfl,aP 0,hp,by simp[val]⟩ fun st ⟨i,e,hi,g1,g2,g3,g4,g5⟩=>?_
  obtain ⟨out,c,k⟩:=st
  simp only at e g1 g2 g3 g4 g5
  subst e
  refine av (fun h=>?_) (fun h=>?_)
  ·have h:i<a.length:=by have:((i:Nat):Int)<(a.length:Int):=odt h;omega
   have hx:=ha.get h
   have hle:(2:Int)^s≤4294967296:=by
    have:(2:Int)^s*1≤2^s*2^(32-s):=ad om om
    omega
   have hxs:0≤a[i]*2^s∧a[i]*2^s≤4294967295*4294967296:=⟨ah hx.1 om,aw om hle om ddc⟩
   have esh:shlI .u64 (IntKind.u64.wrap a[i]) ((s:Nat):Int)=a[i]*2^s:=by
    unfold shlI
    rw[u64_small hx.1 om,au,show min s IntKind.u64.bits=s from aj (by simp[IntKind.bits];omega),u64_small hxs.1 om]
   refine ab (idx_nat h) (ab (nn_nat s) (am ?_))
   simp only[esh]
   have efd:(a[i]*2^s).fdiv (2^32)=a[i]*2^s/4294967296:=ag _ ddc
   have ek:a[i]*2^s%4294967296=(a[i]%2^(32-s))*2^s:=by
    rw[← h32,ao a[i],Int.mul_emod_mul_of_pos _ _ hp,ao]
   have hk0:0≤a[i]%2^(32-s):=an _ om
   have hlow:a[i]*2^s%4294967296<4294967296:=ai _ ddc
   have hcar:a[i]*2^s/4294967296<2^s:=by
    refine aE ddc ?_
    have:a[i]*2^s<4294967296*2^s:=aF hx.2 hp
    rw[ao (2^s)];exact this
   have hcar0:0≤a[i]*2^s/4294967296:=aB hxs.1 ddc
   have eor:bwOr .u32 (IntKind.u32.wrap (a[i]*2^s)) c=a[i]*2^s%4294967296+c:=by
    rw[u32_wrap,ek];rw[ek]at hlow
    exact or32_add hs hk0 hlow g3 g4
   have hsum:a[i]*2^s%4294967296+c<4294967296:=by
    rw[ek]
    have h7:a[i]%2^(32-s)+1≤2^(32-s):=ai _ hp2
    have h8:(a[i]%2^(32-s)+1)*2^s≤2^(32-s)*2^s:=aa h7 om
    rw[ao (2^(32-s)),h32]at h8
    have h9:(a[i]%2^(32-s)+1)*2^s=(a[i]%2^(32-s))*2^s+2^s:=by grind
    omega
   rw[eor]
   refine ab (app_ok oss) (am (af ?_))
   have hw:IntKind.i64.wrap ((i:Int)+1)=((i+1:Nat):Int):=by rw[i64_small om om];omega
   simp only[efd,hw]
   rw[u32_small hcar0 om]
   have hl0:0≤a[i]*2^s%4294967296:=an _ ddc
   refine ⟨⟨i+1,rfl,om,g1.append (Dg.one ⟨om,hsum⟩),by simp[g2],hcar0,hcar,?_⟩,om⟩
   rw[val_snoc,g2,aq,val_take_succ h,Int.add_mul,← g5]
   have e5:=ar (a[i]*2^s) 4294967296
   have e6:4294967296^i*a[i]*2^s=4294967296^i*(a[i]*2^s):=Int.mul_assoc _ _ _
   rw[e6]
   generalize a[i]*2^s/4294967296=q at*
   generalize a[i]*2^s%4294967296=r at*
   generalize a[i]*2^s=z at*
   generalize (4294967296:Int)^i=Q at*
   subst e5
   grind
  ·have h:i=a.length:=by have:¬ ((i:Nat):Int)<(a.length:Int):=odf h;omega
   subst h
   refine af ⟨g1,g2,g3,g4,?_⟩
   rw[g5,val_take_all (aL _)]
 ·have hle:(2:Int)^s≤4294967296:=by
   have:(2:Int)^s*1≤2^s*2^(32-s):=ad om om
   omega
  refine ab (app_ok oss) (ac (ntrim_tot oss) fun t ht=>af ⟨ht.dg (h1.append (Dg.one ⟨h3,om⟩)),ht.nz,?_,?_⟩)
  ·rw[ht.val,val_snoc,h2];exact h5
  ·have:=ht.len
   simp at this
   omega
end Go.Gv.RI
namespace Go.Gv.RI
open Go Go.Gv Go.Gv.D
theorem right_tot {a:List Int} {s:Nat} (ha:Dg a) (la:a.length≤1000) (hs:s<32):
 Tot (fun fuel=>natural_right fuel a (s:Int)) (fun r=>Dg r∧Nz r∧val r=val a/2^s∧r.length≤a.length):=by
 unfold natural_right
 have hp:=two_pow_pos s
 have h32:=two_pow_32 (show s≤32 by omega)
 have hp2:=two_pow_pos (32-s)
 rw[s_div hs,s_mod hs]
 have w0:IntKind.i64.wrap 0=0:=i64_small om om
 rw[w0]
 refine ac (P:=fun r=>Dg r∧r.length=a.length∧2^s*val r+(a.getD 0 0)%2^s=val a) ?_ fun r ⟨h1,h2,h5⟩=>?_
 ·refine aJ (fun st=>∃ i:Nat,st.2=(i:Int)∧i≤a.length∧Dg st.1∧st.1.length=i∧2^s*val st.1+(a.getD 0 0)%2^s=val (a.take i)+4294967296^i*((a.getD i 0)%2^s)) (fun st=>a.length-st.2.toNat)
   ⟨0,rfl,om,fun x hx=>by simp at hx,rfl,by simp[val]⟩ fun st ⟨i,e,hi,g1,g2,g5⟩=>?_
  obtain ⟨out,k⟩:=st
  simp only at e g1 g2 g5
  subst e
  refine av (fun h=>?_) (fun h=>?_)
  ·have h:i<a.length:=by have:((i:Nat):Int)<(a.length:Int):=odt h;omega
   have hx:=ha.get h
   have hw:IntKind.i64.wrap ((i:Int)+1)=((i+1:Nat):Int):=by rw[i64_small om om];omega
   refine ab (idx_nat h) ?_
   rw[hw]
   have hy:0≤a.getD (i+1) 0∧a.getD (i+1) 0<4294967296:=by
    rcases aR (i+1) a.length with hh | hh
    ·rw[List.getD_eq_getElem?_getD,List.getElem?_eq_getElem hh];exact ha.get hh
    ·rw[List.getD_eq_getElem?_getD,List.getElem?_eq_none hh];exact ⟨ddc,ddc⟩
   refine ac (P:=fun j=>j=a[i]+a.getD (i+1) 0*4294967296) ?_ fun j hj=>?_
   ·refine av (fun hh=>?_) (fun hh=>?_)
    ·have hh:i+1<a.length:=by have:((i+1:Nat):Int)<(a.length:Int):=odt hh;omega
     have hz:=ha.get hh
     refine ab (idx_nat hh) (am (af ?_))
     rw[u64_small hx.1 om,u64_small hz.1 om,u64_small om om,List.getD_eq_getElem?_getD,List.getElem?_eq_getElem hh]
     exact or_shift hx hz
    ·have hh:a.length≤i+1:=by have:¬ ((i+1:Nat):Int)<(a.length:Int):=odf hh;omega
     refine af ?_
     rw[u64_small hx.1 om,List.getD_eq_getElem?_getD,List.getElem?_eq_none hh];simp
   ·subst hj
    have hgi:a.getD i 0=a[i]:=by rw[List.getD_eq_getElem?_getD,List.getElem?_eq_getElem h];rfl
    rw[hgi]at g5
    generalize hY:a.getD (i+1) 0=y at*
    generalize hX:a[i]=x at*
    have esh:shrI .u64 (x+y*4294967296) ((s:Nat):Int)=x/2^s+y*2^(32-s):=by
     unfold shrI
     rw[au,show min s IntKind.u64.bits=s from aj (by simp[IntKind.bits];omega),ag _ om,← h32,
      show y*(2^s*2^(32-s))=(y*2^(32-s))*2^s by grind,Int.add_mul_ediv_right _ _ om]
    have hq0:0≤x/2^s:=aB hx.1 om
    have hq1:x/2^s<2^(32-s):=aE hp (by rw[ao,h32];exact hx.2)
    have hm0:0≤y%2^s:=an _ om
    have hm1:y%2^s+1≤2^s:=ai _ hp
    have hle:(y%2^s+1)*2^(32-s)≤2^s*2^(32-s):=aa hm1 om
    have hmm:0≤(y%2^s)*2^(32-s):=ah hm0 om
    have ey:=ar y (2^s)
    have ed:(y%2^s+1)*2^(32-s)=(y%2^s)*2^(32-s)+2^(32-s):=by grind
    rw[h32,ed]at hle
    have emo:(x/2^s+y*2^(32-s))%4294967296=x/2^s+(y%2^s)*2^(32-s):=by
     have:x/2^s+y*2^(32-s)=(x/2^s+(y%2^s)*2^(32-s))+4294967296*(y/2^s):=by
      rw[← h32]
      conv=>lhs;rw[← ey]
      grind
     rw[this,Int.add_mul_emod_self_left,ap om om]
    refine ab (nn_nat s) (ab (app_ok oss) (af ?_))
    rw[esh,u32_wrap,emo]
    refine ⟨⟨i+1,rfl,om,g1.append (Dg.one ⟨om,om⟩),by simp[g2],?_⟩,osm⟩
    rw[val_snoc,g2,aq,val_take_succ h,hX,hY]
    have ex:=ar x (2^s)
    have e1:2^s*(val out+4294967296^i*(x/2^s+y%2^s*2^(32-s)))=2^s*val out+4294967296^i*(2^s*(x/2^s))+4294967296^i*((2^s*2^(32-s))*(y%2^s)):=by grind
    rw[e1,h32]
    generalize x%2^s=xm at*
    generalize y%2^s=ym at*
    generalize (2:Int)^s*(x/2^s)=xd at*
    generalize (4294967296:Int)^i=Q at*
    generalize (2:Int)^s*val out=V at*
    have:V=val (a.take i)+Q*xm-a.getD 0 0%2^s:=by omega
    rw[this,← ex]
    grind
  ·have h:i=a.length:=by have:¬ ((i:Nat):Int)<(a.length:Int):=odf h;omega
   subst h
   refine af ⟨g1,g2,?_⟩
   rw[g5,val_take_all (aL _),List.getD_eq_getElem?_getD,List.getElem?_eq_none (aL _)]
   simp
 ·refine ac (ntrim_tot om) fun t ht=>af ⟨ht.dg h1,ht.nz,?_,by have:=ht.len;omega⟩
  rw[ht.val,← h5,aM,Int.add_mul_ediv_left _ _ om,az (an _ om) (ai _ hp)]
  simp
end Go.Gv.RI
namespace Go.Gv.RI
open Go Go.Gv Go.Gv.D
theorem splitT3 {l:List Int} {m:Nat} (h:l.length=m+3):∃ p x y z,l=p++[x,y,z]∧p.length=m:=by
 refine ⟨l.take m,l[m],l[m+1],l[m+2],?_,oss⟩
 conv=>lhs;rw[← aD m l,ae (show m<l.length by omega),ae (show m+1<l.length by omega),ae (show m+2<l.length by omega),aN (show l.length≤m+2+1 by omega)]
theorem splitT2 {l:List Int} {m:Nat} (h:l.length=m+2):∃ p x y,l=p++[x,y]∧p.length=m:=by
 refine ⟨l.take m,l[m],l[m+1],?_,oss⟩
 conv=>lhs;rw[← aD m l,ae (show m<l.length by omega),ae (show m+1<l.length by omega),aN (show l.length≤m+1+1 by omega)]
theorem Dg.drop {a:List Int} (h:Dg a) (i:Nat):Dg (a.drop i):=fun x hx=>h x (List.mem_of_mem_drop hx)
theorem val_split (l:List Int) (k:Nat) (h:k≤l.length):val l=val (l.take k)+4294967296^k*val (l.drop k):=by
 conv=>lhs;rw[← aD k l]
 rw[val_append,ak,aj h]
theorem nz_top {b:List Int} {n:Nat} (hn:Nz b) (hl:b.length=n+1):b[n]'(om)≠0:=fun e=>by
 rcases hn with h | h
 ·rw[h]at hl;simp at hl
 ·refine h ?_
  rw[List.getLast?_eq_getElem?,hl,Nat.add_sub_cancel,List.getElem?_eq_getElem om,e]
/-- one place of the quotient -/
theorem place_tot {u v:List Int} {n m L:Nat} (hu:Dg u) (hv:Dg v) (nv:Nz v) (ln:v.length=n) (hn:2≤n) (hn':n≤900) (lu:u.length=L) (hL:m+n+1≤L)
 (hq:val (u.drop (m+1))<val v):
 Tot (fun fuel=>natural_digit fuel ((u.take (m+n+1)).drop m) v) (fun r=>Dg r.2∧r.2.length=n+1∧0≤r.1∧r.1<4294967296∧
  val u=val (u.take m++r.2++u.drop (m+n+1))+4294967296^m*(r.1*val v)∧val ((u.take m++r.2++u.drop (m+n+1)).drop m)<val v):=by
 obtain ⟨k,rfl⟩:∃ k,n=k+2:=⟨n-2,om⟩
 have hwl:((u.take (m+(k+2)+1)).drop m).length=k+3:=by simp;omega
 obtain ⟨ul,u2,u1,u0,hw,hul⟩:=splitT3 hwl
 obtain ⟨vl,v2,t,hv2,hvl⟩:=splitT2 ln
 have ht:t≠0:=by
  have:=nz_top (n:=k+1) nv om
  simp only[hv2]at this
  simpa [hvl,List.getElem_append_right] using this
 have hvb:=val_bound hv
 rw[ln]at hvb
 have h1:u.drop (m+1)=(u.drop (m+1)).take (k+2)++u.drop (m+(k+2)+1):=by
  conv=>lhs;rw[← aD (k+2) (u.drop (m+1))]
  rw[List.drop_drop,show m+1+(k+2)=m+(k+2)+1 by omega]
 have hP:(0:Int)<4294967296^(k+2):=aK ddc
 have hr0:=val_bound (hu.drop (m+(k+2)+1))
 have hm0:=val_bound ((hu.drop (m+1)).take (k+2))
 have hrest:val (u.drop (m+(k+2)+1))=0:=by
  have e:=hq
  rw[h1,val_append,ak,aj oss]at e
  rcases Int.lt_or_le 0 (val (u.drop (m+(k+2)+1))) with hh | hh
  ·have:(4294967296:Int)^(k+2)*1≤4294967296^(k+2)*val (u.drop (m+(k+2)+1)):=ad om om
   omega
  ·omega
 have hmid:val (u.drop (m+1))=val ((u.drop (m+1)).take (k+2)):=by
  conv=>lhs;rw[h1]
  rw[val_append,hrest];simp
 have hwd:Dg ((u.take (m+(k+2)+1)).drop m):=(hu.take _).drop _
 have hmu:m<u.length:=by omega
 have hwin:(u.take (m+(k+2)+1)).drop m=u[m]::(u.drop (m+1)).take (k+2):=by
  rw[List.drop_take,ae hmu,show m+(k+2)+1-m=k+2+1 by omega,List.take_succ_cons]
 have hx:=hu.get hmu
 have hwv:val ((u.take (m+(k+2)+1)).drop m)<4294967296*val v:=by
  rw[hwin,val_cons',← hmid];omega
 have hD:=digit_tot (m:=k) hul hvl om (hw ▸ hwd) (hv2 ▸ hv) ht (by rw[← hw,← hv2];exact hwv)
 rw[← hw,← hv2]at hD
 refine hD.mono fun r ⟨d1,d2,d3,d4,d5,d6⟩=>⟨d1,d2,d3,d4,?_,?_⟩
 ·have e1:val u=val (u.take m)+4294967296^m*val ((u.take (m+(k+2)+1)).drop m):=by
   rw[val_split u m om,hwin,ae hmu,val_cons',val_cons',hmid]
  rw[val_append,val_append,hrest,ak,aj om,e1,d5]
  grind
 ·rw[List.append_assoc,List.drop_left' oss,val_append,hrest]
  simpa using d6
end Go.Gv.RI
namespace Go.Gv.RI
open Go Go.Gv Go.Gv.D
theorem lz_tot {x:Int} (h0:0<x) (h1:x<4294967296):Tot (fun fuel=>bits_LeadingZeros32 fuel x) (fun r=>∃ s:Nat,r=(s:Int)∧s<32∧x*2^s<4294967296):=by
 unfold bits_LeadingZeros32
 refine ac (len32_tot om h1) fun r ⟨hL,hr⟩=>af ⟨(32-r).toNat,?_,?_,?_⟩
 ·have:=hL.1
  rw[i64_small om om];omega
 ·have:=hL.pos h0
  have:=hL.1
  omega
 ·have h2:=hL.pos h0
  have e:=two_pow_32 (show r.toNat≤32 by omega)
  rw[show (32-r).toNat=32-r.toNat by omega,← e]
  exact aF hL.2.1 (two_pow_pos _)
theorem divide_tot {a b:List Int} (ha:Dg a) (hb:Dg b) (na:Nz a) (nb:Nz b) (lb:2≤b.length) (hab:b.length≤a.length) (la:a.length≤800):
 Tot (fun fuel=>natural_divide fuel a b) (fun r=>(Dg r.1∧Nz r.1∧r.1.length≤a.length)∧(Dg r.2∧Nz r.2∧r.2.length≤b.length)∧val r.1=val a/val b∧val r.2=val a%val b):=by
 obtain ⟨n,hn⟩:∃ n,b.length=n+2:=⟨b.length-2,om⟩
 have hwb:IntKind.i64.wrap (((b.length:Nat):Int)-1)=((n+1:Nat):Int):=by rw[hn,i64_small om om];omega
 have htop:=nz_top (n:=n+1) nb om
 have hbt:=hb.get (show n+1<b.length by omega)
 unfold natural_divide
 rw[hwb]
 refine ab (idx_nat (show n+1<b.length by omega)) ?_
 refine ac (lz_tot (x:=b[n+1]) om hbt.2) fun r3 ⟨s,hs,hs1,hs2⟩=>?_
 subst hs
 refine ac (left_tot hb om hs1) fun v ⟨v1,v2,v3,v4⟩=>?_
 refine ac (left_tot ha om hs1) fun w ⟨u1,u2,u3,u4⟩=>?_
 have hp:=two_pow_pos s
 have hbv:=val_split b (n+1) om
 have hbd:b.drop (n+1)=[b[n+1]]:=by rw[ae om,aN om]
 rw[hbd]at hbv
 simp only[val,Int.mul_zero,Int.add_zero]at hbv
 have hbt':=val_bound (hb.take (n+1))
 rw[ak,aj om]at hbt'
 have hQ:(0:Int)<4294967296^(n+1):=aK ddc
 have hbig:=val_big hb nb (fun e=>by rw[e]at hn;simp at hn)
 rw[hn,show n+2-1=n+1 by omega]at hbig
 have hvup:val v<4294967296^(n+2):=by
  rw[v3,aq]
  have h1:val b+1≤4294967296^(n+1)*(b[n+1]+1):=by rw[hbv];grind
  have h2:(val b+1)*2^s≤4294967296^(n+1)*(b[n+1]+1)*2^s:=aa h1 om
  have h3:(b[n+1]+1)*2^s≤4294967296:=by
   have h32:=two_pow_32 (show s≤32 by omega)
   have hp2:=two_pow_pos (32-s)
   have h4:b[n+1]<2^(32-s):=by
    refine aO fun hge=>?_
    have:2^(32-s)*2^s≤b[n+1]*2^s:=aa hge om
    rw[ao (2^(32-s)),h32]at this
    omega
   have h5:(b[n+1]+1)*2^s≤2^(32-s)*2^s:=aa h4 om
   rw[ao (2^(32-s)),h32]at h5
   exact h5
  have h6:4294967296^(n+1)*((b[n+1]+1)*2^s)≤4294967296^(n+1)*4294967296:=ad h3 om
  have h7:4294967296^(n+1)*(b[n+1]+1)*2^s=4294967296^(n+1)*((b[n+1]+1)*2^s):=Int.mul_assoc _ _ _
  have h8:(val b+1)*2^s=val b*2^s+2^s:=by grind
  omega
 have hvlo:4294967296^(n+1)≤val v:=by
  rw[v3]
  have:val b*1≤val b*2^s:=ad om om
  omega
 have lv:v.length=n+2:=by
  rcases aR v.length (n+2) with h | h
  ·have h1:=(val_bound v1).2
   have h2:=pow_mono (show v.length≤n+1 by omega)
   omega
  ·rcases aR (n+2) v.length with h1 | h1
   ·have h2:=val_big v1 v2 (fun e=>by rw[e]at h1;simp at h1)
    have h3:=pow_mono (show n+2≤v.length-1 by omega)
    omega
   ·omega
 refine ac (P:=fun j=>Dg j∧j.length=a.length+1∧val j=val a*2^s) ?_ fun j ⟨j1,j2,j3⟩=>?_
 ·refine aJ (fun st=>Dg st∧st.length≤a.length+1∧val st=val a*2^s) (fun st=>a.length+1-st.length) ⟨u1,u4,u3⟩ fun st ⟨i1,i2,i3⟩=>?_
  refine av (fun h=>?_) (fun h=>?_)
  ·have h:st.length≤a.length:=by have:((st.length:Nat):Int)≤(a.length:Int):=odt h;omega
   refine ab (app_ok oss) (af ⟨⟨i1.append (Dg.one ⟨ddc,ddc⟩),oss,?_⟩,oss⟩)
   rw[val_snoc,i3];simp
  ·have h:¬ st.length≤a.length:=by have:¬ ((st.length:Nat):Int)≤(a.length:Int):=odf h;omega
   exact af ⟨i1,om,i3⟩
 have hJ:IntKind.i64.wrap (((j.length:Nat):Int)-((b.length:Nat):Int))=((a.length+1-b.length:Nat):Int):=by rw[j2,i64_small om om];omega
 have hJ2:IntKind.i64.wrap (((a.length+1-b.length:Nat):Int)-1)=((a.length+1-b.length:Nat):Int)-1:=i64_small om om
 rw[hJ,hJ2]
 refine ab (a:=al (a.length+1-b.length) 0) (by unfold mkC;rw[if_pos ⟨om,om,om⟩];simp) (am ?_)
 generalize hD:a.length+1-b.length=D
 have hD':D+(n+2)=a.length+1:=by omega
 have hab':=(val_bound ha).2
 have h0:val (j.drop D)<val v:=by
  have e:=val_split j D om
  have hlow:=(val_bound (j1.take D)).1
  have hPD:(0:Int)<4294967296^D:=aK ddc
  refine aO fun hge=>?_
  have h1:4294967296^D*val v≤4294967296^D*val (j.drop D):=ad hge om
  have h2:4294967296^D*(4294967296^(n+1)*2^s)≤4294967296^D*val v:=by
   refine ad ?_ om
   rw[v3]
   exact aa hbig om
  have h3:(4294967296:Int)^D*(4294967296^(n+1)*2^s)=4294967296^a.length*2^s:=by
   rw[← Int.mul_assoc,← Int.pow_add,show D+(n+1)=a.length by omega]
  have h4:val a*2^s<4294967296^a.length*2^s:=aF hab' hp
  omega
 refine ac (P:=fun r=>Dg r.1∧r.1.length=a.length+1∧val r.1<val v∧Dg r.2∧r.2.length=D∧val r.1+val r.2*val v=val a*2^s) ?_ fun r ⟨r1,r2,r3,r4,r5,r6⟩=>?_
 ·refine aJ (fun st=>∃ (i:Nat) (q:List Int),st.2.2=(i:Int)-1∧i≤D∧Dg st.1∧st.1.length=a.length+1∧val (st.1.drop i)<val v∧st.2.1=al i 0++q∧Dg q∧q.length=D-i∧val st.1+4294967296^i*(val q*val v)=val a*2^s) (fun st=>(st.2.2+1).toNat)
   ⟨D,[],rfl,aL _,j1,j2,h0,by simp,fun x hx=>by simp at hx,by simp,by show val j+4294967296^D*(val []*val v)=_;rw[j3];simp[val]⟩ fun st ⟨i,q,e,hi,g1,g2,g3,g4,g5,g6,g7⟩=>?_
  obtain ⟨u,out,k⟩:=st
  simp only at e g1 g2 g3 g4 g7
  subst e;subst g4
  refine av (fun h=>?_) (fun h=>?_)
  ·have h:0<i:=by have:(i:Int)-1≥0:=odt h;omega
   obtain ⟨m,rfl⟩:∃ m,i=m+1:=⟨i-1,om⟩
   have ek:((m+1:Nat):Int)-1=(m:Int):=by omega
   simp only[ek]
   have w1:IntKind.i64.wrap ((m:Int)+((b.length:Nat):Int))=((m+(n+2):Nat):Int):=by rw[hn,i64_small om om];omega
   have w2:IntKind.i64.wrap (((m+(n+2):Nat):Int)+1)=((m+(n+2)+1:Nat):Int):=by rw[i64_small om om];omega
   rw[w1,w2]
   refine ab (a:=(u.take (m+(n+2)+1)).drop m) (by rw[sub_ok om om om];rfl) ?_
   refine ac (place_tot g1 v1 v2 lv om om g2 om g3) fun d ⟨d1,d2,d3,d4,d5,d6⟩=>?_
   have esp:spliceL u ((m:Nat):Int) ((m+(n+2)+1:Nat):Int) d.2=u.take m++d.2++u.drop (m+(n+2)+1):=by unfold spliceL;rw[au,au]
   rw[esp]
   have er:al (m+1) (0:Int)++q=al m 0++0::q:=by rw[List.replicate_succ',List.append_assoc];rfl
   rw[er]
   refine am (ab (bm_get _ _ _ (by simp)) (ab (bm_upd _ _ _ _ (by simp)) (af ?_)))
   have hw:IntKind.i64.wrap ((m:Int)-1)=(m:Int)-1:=i64_small om om
   simp only[hw]
   refine ⟨⟨m,d.1::q,rfl,om,((g1.take m).append d1).append (g1.drop _),by simp[d2];omega,d6,rfl,fun x hx=>?_,by simp[g6];omega,?_⟩,om⟩
   ·rcases List.mem_cons.1 hx with e | e
    ·subst e;exact ⟨d3,d4⟩
    ·exact g5 x e
   ·rw[val_cons',← g7,d5,aq]
    grind
  ·have h:i=0:=by have:¬ (i:Int)-1≥0:=odf h;omega
   subst h
   refine af ⟨g1,g2,by simpa using g3,by simpa using g5,by simpa using g6,?_⟩
   simpa using g7
 obtain ⟨ru,rq⟩:=r
 simp only at r1 r2 r3 r4 r5 r6
 have hrest:val (ru.take (n+2))=val ru:=by
  have e:=val_split ru (n+2) om
  have h1:=(val_bound (r1.take (n+2))).1
  have h2:=(val_bound (r1.drop (n+2))).1
  have hP:(0:Int)<4294967296^(n+2):=aK ddc
  rcases Int.lt_or_le 0 (val (ru.drop (n+2))) with hh | hh
  ·have:(4294967296:Int)^(n+2)*1≤4294967296^(n+2)*val (ru.drop (n+2)):=ad om om
   omega
  ·have:val (ru.drop (n+2))=0:=by omega
   rw[this]at e;simp at e;exact e.symm
 refine ab (a:=ru.take (n+2)) (by rw[sub_ok om om om,hn];rfl) ?_
 refine ac (ntrim_tot (l:=rq) om) fun q hq=>?_
 refine ac (ntrim_tot (l:=ru.take (n+2)) oss) fun p hpp=>?_
 have hpd:=hpp.dg (r1.take (n+2))
 have hpl:=hpp.len
 simp only[ak]at hpl
 refine ac (right_tot hpd om hs1) fun z ⟨z1,z2,z3,z4⟩=>af ⟨⟨hq.dg r4,hq.nz,by have:=hq.len;simp only;omega⟩,⟨z1,z2,osm⟩,?_,?_⟩
 ·show val q=_
  rw[hq.val]
  have hb0:0<val b:=by omega
  have e1:val rq*val v+val ru=val a*2^s:=by omega
  rw[v3]at e1 r3
  have hru0:=(val_bound r1).1
  have h2:val a*2^s/(val b*2^s)=val rq:=by
   rw[← e1,aM,Int.add_mul_ediv_right _ _ (by have:=Int.mul_pos hb0 hp;omega),az hru0 r3];simp
  rw[← h2,Int.mul_ediv_mul_of_pos_left _ _ hp]
 ·show val z=_
  rw[z3,hpp.val,hrest]
  have hb0:0<val b:=by omega
  have e1:val rq*val v+val ru=val a*2^s:=by omega
  rw[v3]at e1 r3
  have hru0:=(val_bound r1).1
  have h2:(val a*2^s)%(val b*2^s)=val ru:=by
   rw[← e1,aM,Int.add_mul_emod_self_right,ap hru0 r3]
  rw[← h2,ao (val a),ao (val b),Int.mul_emod_mul_of_pos _ _ hp,Int.mul_ediv_cancel_left _ om]
end Go.Gv.RI
namespace Go.Gv.RI
open Go Go.Gv Go.Gv.D
theorem clone_tot {a:List Int} (la:a.length≤1000):Tot (fun fuel=>slices_Clone_suint32_uint32 fuel a) (· =a):=by
 unfold slices_Clone_suint32_uint32
 exact ab (a:=a) (by rw[app_ok oss];rfl) (af rfl)
theorem val_pos {b:List Int} (hb:Dg b) (nb:Nz b) (h:b≠[]):0<val b:=by
 have:=val_big hb nb h
 have hP:(0:Int)<4294967296^(b.length-1):=aK ddc
 omega
theorem len_le_of_val {a b:List Int} (ha:Dg a) (hb:Dg b) (na:Nz a) (h:val a≤val b):a.length≤b.length:=by
 rcases aR b.length a.length with h1 | h1
 ·have:=val_longer hb ha na h1;omega
 ·exact h1
theorem divMod_tot {a b:List Int} (ha:Dg a) (hb:Dg b) (na:Nz a) (nb:Nz b) (la:a.length≤800) (lb:b.length≤800) (hb0:b≠[]):
 Tot (fun fuel=>natural_divMod fuel a b) (fun r=>(Dg r.1∧Nz r.1∧r.1.length≤a.length)∧(Dg r.2∧Nz r.2∧r.2.length≤b.length)∧val r.1=val a/val b∧val r.2=val a%val b):=by
 have hbp:=val_pos hb nb hb0
 have ha0:=(val_bound ha).1
 unfold natural_divMod
 refine ac (compare_tot ha hb na nb om om) fun r1 ⟨c1,c2⟩=>?_
 refine av (fun h=>?_) (fun h=>?_)
 ·have h:=c1.1 (odt h)
  refine ac (clone_tot om) fun c hc=>af ?_
  subst hc
  refine ⟨⟨fun x hx=>by simp at hx,.inl rfl,by simp⟩,⟨ha,na,len_le_of_val ha hb na (Int.le_of_lt h)⟩,?_,?_⟩
  ·show val []=_;rw[az ha0 h];rfl
  ·show val c=_;rw[ap ha0 h]
 ·have h:=odf h
  have hle:val b≤val a:=by
   refine Int.not_lt.1 fun hh=>h (c1.2 hh)
  have hlab:b.length≤a.length:=len_le_of_val hb ha nb hle
  refine av (fun h1=>?_) (fun h1=>?_)
  ·have h1:b.length=1:=by
    have h1:((b.length:Nat):Int)=1:=by simpa using h1
    omega
   obtain ⟨y,rfl⟩:∃ y,b=[y]:=List.length_eq_one_iff.1 h1
   have hy:=hb y (by simp)
   have hvy:val [y]=y:=by simp[val]
   rw[hvy]at hbp ⊢
   refine ab (a:=y) rfl (ac (short_tot ha om hbp hy.2) fun q ⟨q1,q2,q3,q4,q5⟩=>?_)
   have hm0:=an (val a) (show y≠0 by omega)
   have hm1:=ai (val a) hbp
   have hd:Dg [q.2]:=Dg.one (by rw[q5];omega)
   refine ac (ntrim_tot (l:=[q.2]) (by simp)) fun t ht=>af ⟨⟨q1,q2,q3⟩,⟨ht.dg hd,ht.nz,by have:=ht.len;simpa using this⟩,q4,?_⟩
   show val t=_
   rw[ht.val,← q5];simp[val]
  ·have h1:b.length≠1:=by
    have h1:((b.length:Nat):Int)≠1:=by simpa using h1
    omega
   have h2:b.length≠0:=fun e=>hb0 (ax e)
   exact ac (divide_tot ha hb na nb om hlab la) fun r hr=>af hr
/-- a natural number as the program has it -/
def OkN (a:List Int):Prop:=Dg a∧Nz a∧a.length≤600
theorem DivMod_tot {a b:List Int} (ha:OkN a) (hb:OkN b) (hb0:b≠[]):
 Tot (fun fuel=>natural_DivMod fuel a b) (fun r=>r.2.2=(0,0)∧(OkN r.1∧r.1.length≤a.length)∧(OkN r.2.1∧r.2.1.length≤b.length)∧val r.1=val a/val b∧val r.2.1=val a%val b):=by
 unfold natural_DivMod
 obtain ⟨a1,a2,a3⟩:=ha
 obtain ⟨b1,b2,b3⟩:=hb
 refine ac (aS (Q:=(· =(0,0))) 0 (fun k=>ncheck a2 a3 b2 b3 _) rfl) fun q hq=>?_
 subst hq
 refine Tot.if_ rfl (Tot.if_ ?_ (ac (divMod_tot a1 b1 a2 b2 om om hb0) fun r ⟨⟨r1,r2,r3⟩,⟨s1,s2,s3⟩,r4,r5⟩=>af ⟨rfl,⟨⟨r1,r2,osm⟩,r3⟩,⟨⟨s1,s2,osm⟩,s3⟩,r4,r5⟩))
 have:b.length≠0:=fun e=>hb0 (ax e)
 simpa using hb0
theorem Gcd_tot {a b:List Int} (ha:OkN a) (hb:OkN b):
 Tot (fun fuel=>natural_Gcd fuel a b) (fun r=>r.2=(0,0)∧OkN r.1∧val r.1=(Nat.gcd (val a).toNat (val b).toNat:Int)):=by
 unfold natural_Gcd
 obtain ⟨a1,a2,a3⟩:=ha
 obtain ⟨b1,b2,b3⟩:=hb
 refine ac (aS (Q:=(· =(0,0))) 0 (fun k=>ncheck a2 a3 b2 b3 _) rfl) fun q hq=>?_
 subst hq
 refine Tot.if_ rfl (ac (clone_tot om) fun c hc=>?_)
 subst hc
 refine ac (P:=fun r=>OkN r∧val r=(Nat.gcd (val c).toNat (val b).toNat:Int)) ?_ fun r ⟨h1,h2⟩=>af ⟨rfl,h1,h2⟩
 refine aJ (fun st=>OkN st.1∧OkN st.2∧Nat.gcd (val st.1).toNat (val st.2).toNat=Nat.gcd (val c).toNat (val b).toNat) (fun st=>(val st.2).toNat) ⟨⟨a1,a2,a3⟩,⟨b1,b2,b3⟩,rfl⟩ fun st ⟨⟨i1,i2,i3⟩,⟨k1,k2,k3⟩,hg⟩=>?_
 obtain ⟨x,y⟩:=st
 have i3:x.length≤600:=i3
 have k3:y.length≤600:=k3
 simp only at i1 i2 k1 k2 hg
 refine av (fun h=>?_) (fun h=>?_)
 ·have hy:y≠[]:=fun e=>by subst e;simp at h
  have hyp:=val_pos k1 k2 hy
  refine ac (divMod_tot i1 k1 i2 k2 om om hy) fun r ⟨⟨r1,r2,r3⟩,⟨s1,s2,s3⟩,r4,r5⟩=>ac (clone_tot om) fun z hz=>af ?_
  subst hz
  have hx0:=(val_bound i1).1
  have hm0:=an (val x) (show val z≠0 by omega)
  have hm1:=ai (val x) hyp
  have r5:val r.2=val x%val z:=r5
  refine ⟨⟨⟨k1,k2,k3⟩,⟨s1,s2,osm⟩,?_⟩,by show (val r.2).toNat<(val z).toNat;rw[r5];omega⟩
  simp only
  rw[r5,← hg,Int.toNat_emod hx0 (Int.le_of_lt hyp),Nat.gcd_comm,← Nat.gcd_rec,Nat.gcd_comm]
 ·have hy:y=[]:=by
   have h:=odf h
   refine ax ?_
   have h:¬ 0<((y.length:Nat):Int):=h
   omega
  subst hy
  have hx0:=(val_bound i1).1
  refine af ⟨⟨i1,i2,i3⟩,?_⟩
  show val x=_
  rw[← hg]
  simp[val]
  omega
end Go.Gv.RI
namespace Go.Gv.RI
open Go Go.Gv Go.Gv.D
/-! Own work: products, sums and comparisons of natural numbers. -/
theorem mulrow_tot {out b:List Int} {x:Int} {i T:Nat} (ho:Dg out) (lo:out.length=T) (hb:Dg b) (hx:0≤x∧x<4294967296) (hi:i+b.length≤T) (hT:T≤2000):
 Tot (fun fuel=>loopN (fun (s26:((List Int) × Int × Int))=>(if (decide (s26.2.2<((ay b:Nat):Int))) then (Option.bind (idx b s26.2.2) fun x35=>(Option.bind (idx s26.1 (IntKind.i64.wrap ((i:Int)+s26.2.2))) fun x37=>(Option.bind (some (IntKind.u64.wrap (s26.2.1+(IntKind.u64.wrap ((IntKind.u64.wrap ((IntKind.u64.wrap (x))*(IntKind.u64.wrap (x35))))+(IntKind.u64.wrap (x37))))))) fun n39=>(Option.bind (idx s26.1 (IntKind.i64.wrap ((i:Int)+s26.2.2))) fun x41=>(Option.bind (upd s26.1 (IntKind.i64.wrap ((i:Int)+s26.2.2)) (IntKind.u32.wrap (n39))) fun l43=>(some (.inl (l43,((n39).fdiv (2^32)),(IntKind.i64.wrap (s26.2.2+1)))))))))) else (some (.inr ((s26.1,s26.2.1)))))) fuel (out,0,0))
  (fun r=>Dg r.1∧r.1.length=T∧0≤r.2∧r.2<4294967296∧r.1.drop (i+b.length)=out.drop (i+b.length)∧val (r.1.take (i+b.length))+4294967296^(i+b.length)*r.2=val (out.take (i+b.length))+4294967296^i*(x*val b)):=by
 refine aJ (fun st=>∃ k:Nat,st.2.2=(k:Int)∧k≤b.length∧Dg st.1∧st.1.length=T∧0≤st.2.1∧st.2.1<4294967296∧st.1.drop (i+k)=out.drop (i+k)∧val (st.1.take (i+k))+4294967296^(i+k)*st.2.1=val (out.take (i+k))+4294967296^i*(x*val (b.take k))) (fun st=>b.length-st.2.2.toNat)
  ⟨0,rfl,om,ho,lo,aP 0,(by decide:(0:Int)<4294967296),rfl,by simp[val]⟩ fun st ⟨k,e,hk,d1,l1,c0,c1,dr,hv⟩=>?_
 obtain ⟨l,c,kk⟩:=st
 simp only at e d1 l1 c0 c1 dr hv
 subst e
 refine av (fun h=>?_) (fun h=>?_)
 ·have h:k<b.length:=by have:(k:Int)<(b.length:Int):=odt h;omega
  have hil:i+k<l.length:=by omega
  have hio:i+k<out.length:=by omega
  obtain ⟨hgo,hod⟩:=get_of_drop hil hio dr
  have hy:=hb.get h
  have hz:=ho.get hio
  have w1:IntKind.i64.wrap ((i:Int)+(k:Int))=((i+k:Nat):Int):=by rw[i64_small om om];omega
  rw[w1]
  have hxy:0≤x*b[k]∧x*b[k]≤4294967295*4294967295:=⟨ah hx.1 hy.1,aw om om hy.1 ddc⟩
  refine ab (idx_nat h) (ab (idx_nat hil) ?_)
  rw[hgo,u64_small hx.1 om,u64_small hy.1 om,u64_small hz.1 om,u64_small hxy.1 om,u64_small (x:=x*b[k]+out[i+k]) om om,u64_small (x:=c+(x*b[k]+out[i+k])) om om]
  refine am (ab (idx_nat hil) (ab (upd_nat hil _) (af ?_)))
  have efd:(c+(x*b[k]+out[i+k])).fdiv (2^32)=(c+(x*b[k]+out[i+k]))/4294967296:=ag _ ddc
  have hw:IntKind.i64.wrap ((k:Int)+1)=((k+1:Nat):Int):=by rw[i64_small om om];omega
  simp only[efd,hw,u32_wrap]
  refine ⟨⟨k+1,rfl,om,dg_set d1 ⟨om,om⟩,by simp[l1],om,om,?_,?_⟩,om⟩
  ·rw[show i+(k+1)=i+k+1 by omega,aI om,hod]
  ·rw[show i+(k+1)=i+k+1 by omega,take_set_succ hil,val_snoc,ak,aj om,val_take_succ hio,val_take_succ h,aq]
   have ej:c+(x*b[k]+out[i+k])=(c+(x*b[k]+out[i+k]))%4294967296+4294967296*((c+(x*b[k]+out[i+k]))/4294967296):=by omega
   generalize (c+(x*b[k]+out[i+k]))%4294967296=lw at ej ⊢
   generalize (c+(x*b[k]+out[i+k]))/4294967296=hi' at ej ⊢
   have e4:val (l.take (i+k))=val (out.take (i+k))+4294967296^i*(x*val (b.take k))-4294967296^(i+k)*c:=by omega
   have e5:(4294967296:Int)^(i+k)*(c+(x*b[k]+out[i+k]))=4294967296^(i+k)*(lw+4294967296*hi'):=by rw[ej]
   rw[e4]
   rw[Int.pow_add]at e5 ⊢
   generalize (4294967296:Int)^i=Q at*
   generalize (4294967296:Int)^k=Q2 at*
   generalize b[k]=y at*
   generalize out[i+k]=z at*
   grind
 ·have h:k=b.length:=by have:¬ (k:Int)<(b.length:Int):=odf h;omega
  subst h
  refine af ⟨d1,l1,c0,c1,dr,?_⟩
  rw[val_take_all (a:=b) (aL _)]at hv
  exact hv
theorem mul_tot {a b:List Int} (ha:Dg a) (hb:Dg b) (la:a.length≤900) (lb:b.length≤900):
 Tot (fun fuel=>natural_mul fuel a b) (fun r=>Dg r∧Nz r∧r.length≤a.length+b.length∧val r=val a*val b):=by
 unfold natural_mul
 have hw:IntKind.i64.wrap (((a.length:Nat):Int)+((b.length:Nat):Int))=((a.length+b.length:Nat):Int):=by rw[i64_small om om];omega
 rw[hw]
 refine ab (a:=al (a.length+b.length) 0) (by unfold mkC;rw[if_pos ⟨om,om,om⟩,au]) ?_
 refine ac (P:=fun j=>Dg j∧j.length=a.length+b.length∧val j=val a*val b) ?_ fun j ⟨j1,j2,j3⟩=>?_
 ·refine aJ (fun st=>∃ i:Nat,st.2=(i:Int)∧i≤a.length∧Dg st.1∧st.1.length=a.length+b.length∧st.1.drop (i+b.length)=al (a.length-i) 0∧val (st.1.take (i+b.length))=val (a.take i)*val b) (fun st=>a.length-st.2.toNat)
   ⟨0,rfl,by omega,fun x hx=>by rw[List.eq_of_mem_replicate hx];exact ⟨by decide,by decide⟩,by simp,by simp,by
     show val ((al (a.length+b.length) (0:Int)).take (0+b.length))=_
     rw[List.take_replicate,val_zeros];simp[val]⟩ fun st ⟨i,e,hi,d1,l1,dr,hv⟩=>?_
  obtain ⟨out,kk⟩:=st
  simp only at e d1 l1 dr hv
  subst e
  refine av (fun h=>?_) (fun h=>?_)
  ·have h:i<a.length:=by have:(i:Int)<(a.length:Int):=odt h;omega
   have hx:=ha.get h
   refine ab (idx_nat h) (ac (mulrow_tot (i:=i) d1 l1 hb hx om om) fun r ⟨r1,r2,r3,r4,r5,r6⟩=>?_)
   obtain ⟨l,c⟩:=r
   simp only at r1 r2 r3 r4 r5 r6
   have w1:IntKind.i64.wrap ((i:Int)+((b.length:Nat):Int))=((i+b.length:Nat):Int):=by rw[i64_small om om];omega
   have hil:i+b.length<l.length:=by omega
   rw[w1]
   refine ab (idx_nat hil) (ab (upd_nat hil _) (af ?_))
   have hw:IntKind.i64.wrap ((i:Int)+1)=((i+1:Nat):Int):=by rw[i64_small om om];omega
   rw[u32_small r3 r4,hw]
   refine ⟨⟨i+1,rfl,om,dg_set r1 ⟨r3,r4⟩,by simp[r2],?_,?_⟩,osm⟩
   ·show (l.set (i+b.length) c).drop (i+1+b.length)=_
    rw[show i+1+b.length=i+b.length+1 by omega,aI om,← List.drop_drop,r5,dr,List.drop_replicate]
    congr 1
   ·show val ((l.set (i+b.length) c).take (i+1+b.length))=_
    rw[show i+1+b.length=i+b.length+1 by omega,take_set_succ hil,val_snoc,ak,aj om,r6,hv,val_take_succ h]
    grind
  ·have h:i=a.length:=by have:¬ (i:Int)<(a.length:Int):=odf h;omega
   subst h
   refine af ⟨d1,l1,?_⟩
   rw[val_take_all om,val_take_all (aL _)]at hv
   exact hv
 ·exact ac (ntrim_tot om) fun t ht=>af ⟨ht.dg j1,ht.nz,by have:=ht.len;omega,by rw[ht.val,j3]⟩
theorem fit_tot {a:List Int} (ha:Dg a) (la:a.length≤2000) (hv:val a<4294967296^600):
 Tot (fun fuel=>natural_fit fuel a) (fun r=>r.2=(0,0)∧OkN r.1∧val r.1=val a∧r.1.length≤a.length):=by
 unfold natural_fit
 refine ac (ntrim_tot om) fun t ht=>?_
 have hd:=ht.dg ha
 have hl:t.length≤600:=by
  rcases aR 600 t.length with h | h
  ·have h1:=val_big hd ht.nz (fun e=>by rw[e]at h;simp at h)
   have h2:=pow_mono (show 600≤t.length-1 by omega)
   rw[ht.val]at h1
   omega
  ·exact h
 exact Tot.if_ (dff om) (af ⟨rfl,⟨hd,ht.nz,hl⟩,ht.val,ht.len⟩)
theorem ncheck_tot {a b:List Int} (ha:OkN a) (hb:OkN b):Tot (fun fuel=>natural_check fuel a b) (· =(0,0)):=aS 0 (fun k=>ncheck ha.2.1 ha.2.2 hb.2.1 hb.2.2 _) rfl
theorem NMul_tot {a b:List Int} (ha:OkN a) (hb:OkN b) (hl:a.length+b.length≤600):
 Tot (fun fuel=>natural_Mul fuel a b) (fun r=>r.2=(0,0)∧OkN r.1∧val r.1=val a*val b∧r.1.length≤a.length+b.length):=by
 unfold natural_Mul
 refine ac (ncheck_tot ha hb) fun q hq=>?_
 subst hq
 refine Tot.if_ rfl (ac (mul_tot ha.1 hb.1 (by have:=ha.2.2;omega) (by have:=hb.2.2;omega)) fun m ⟨m1,m2,m3,m4⟩=>?_)
 refine ac (fit_tot m1 om ?_) fun r ⟨r1,r2,r3,r4⟩=>af ⟨by simp only;rw[r1],r2,by simp only;rw[r3,m4],osm⟩
 have:=(val_bound m1).2
 have h2:=pow_mono (show m.length≤600 by omega)
 omega
theorem NAdd_tot {a b:List Int} (ha:OkN a) (hb:OkN b) (la:a.length<600) (lb:b.length<600):
 Tot (fun fuel=>natural_Add fuel a b) (fun r=>r.2=(0,0)∧OkN r.1∧val r.1=val a+val b∧r.1.length≤max a.length b.length+1):=by
 unfold natural_Add
 refine ac (ncheck_tot ha hb) fun q hq=>?_
 subst hq
 refine Tot.if_ rfl (ac (add_tot ha.1 hb.1 om om) fun m ⟨m1,m2,m3,m4⟩=>?_)
 have hml:m.length≤600:=by omega
 refine ac (fit_tot m1 om ?_) fun r ⟨r1,r2,r3,r4⟩=>af ⟨by simp only;rw[r1],r2,by simp only;rw[r3,m3],osm⟩
 have:=(val_bound m1).2
 have h2:=pow_mono hml
 omega
theorem NCmp_tot {a b:List Int} (ha:OkN a) (hb:OkN b):
 Tot (fun fuel=>natural_Cmp fuel a b) (fun r=>r.2=(0,0)∧(r.1<0↔val a<val b)∧(r.1=0↔val a=val b)):=by
 unfold natural_Cmp
 refine ac (ncheck_tot ha hb) fun q hq=>?_
 subst hq
 refine Tot.if_ rfl (ac (compare_tot ha.1 hb.1 ha.2.1 hb.2.1 (by have:=ha.2.2;omega) (by have:=hb.2.2;omega)) fun c ⟨c1,c2⟩=>am (af ⟨rfl,?_,?_⟩))
 ·simp only;rw[← c1];split<;>split<;>omega
 ·simp only;rw[← c2];split<;>split<;>omega
end Go.Gv.RI
