import Derived.Test.YtbiopeiafkldiaaGreatDoorIS
set_option linter.all false
namespace Go.Gv.RI
open Go Go.Gv Go.Gv.D
/-! Own work: a number divided by one limb, and multiplied by one. -/
theorem bm_get {α:Type} (p:List α) (x:α) (q:List α) {m:Nat} (h:m=p.length):idx (p++x::q) (m:Int)=some x:=by
 subst h
 rw[idx_nat (by simp)]
 simp
theorem bm_upd {α:Type} (p:List α) (x y:α) (q:List α) {m:Nat} (h:m=p.length):upd (p++x::q) (m:Int) y=some (p++y::q):=by
 subst h
 unfold upd
 rw[if_pos ⟨by omega,by simp;omega⟩,Int.toNat_natCast]
 simp
theorem or_high {a b:Int} (ha:0≤a∧a<4294967296) (hb:0≤b∧b<4294967296):bwOr .u64 (b*4294967296) a=b*4294967296+a:=by
 have h:=or_shift ha hb
 unfold bwOr at h ⊢
 rw[BitVec.or_comm,h,Int.add_comm]
theorem div32_tot {r x d:Int} (hr:0≤r∧r<d) (hx:0≤x∧x<4294967296) (hd:d<4294967296) (fuel:Nat):bits_Div32 fuel r x d=some ((r*4294967296+x)/d,(r*4294967296+x)%d):=by
 unfold bits_Div32
 have e0:(d !=0)=true:=bne_iff_ne.2 (by omega)
 have e1:decide (d≤r)=false:=decide_eq_false (by omega)
 rw[e0,e1]
 have w1:IntKind.u64.wrap r=r:=u64_small (by omega) (by omega)
 have w2:IntKind.u64.wrap (r*2^32)=r*4294967296:=u64_small (by omega) (by omega)
 have w3:IntKind.u64.wrap x=x:=u64_small (by omega) (by omega)
 have w4:IntKind.u64.wrap d=d:=u64_small (by omega) (by omega)
 have hn:nz d=some ():=by unfold nz;rw[if_neg (by omega)]
 have hn0:0≤r*4294967296+x:=by omega
 have hq:(r*4294967296+x)/d<4294967296:=Int.ediv_lt_of_lt_mul (by omega) (by
  have:(r+1)*4294967296≤d*4294967296:=Int.mul_le_mul_of_nonneg_right (by omega) (by decide)
  omega)
 have hq0:0≤(r*4294967296+x)/d:=Int.ediv_nonneg hn0 (by omega)
 have hm0:0≤(r*4294967296+x)%d:=Int.emod_nonneg _ (by omega)
 have hm1:(r*4294967296+x)%d<d:=Int.emod_lt_of_pos _ (by omega)
 simp only[Bool.and_false,Bool.false_eq_true,if_false,Option.bind_some,w1,w2,w3,w4,hn,or_high hx (show 0≤r∧r<4294967296 by omega),Int.tdiv_eq_ediv_of_nonneg hn0,Int.tmod_eq_emod_of_nonneg hn0]
 rw[u64_small hq0 (by omega),u32_small hq0 hq,u32_small hm0 (by omega)]
theorem val_cons' (x:Int) (q:List Int):val (x::q)=x+4294967296*val q:=by simp[val]
theorem short_tot {a:List Int} {d:Int} (ha:Dg a) (la:a.length≤1000) (h1:0<d) (h2:d<4294967296):
 Tot (fun fuel=>natural_short fuel a d) (fun r=>Dg r.1∧Nz r.1∧r.1.length≤a.length∧val r.1=val a/d∧r.2=val a%d):=by
 unfold natural_short
 refine Tot.bind0 (a:=List.replicate a.length 0) (by unfold mkC;rw[if_pos ⟨by omega,by omega,by omega⟩];simp) ?_
 have hw:IntKind.i64.wrap (((a.length:Nat):Int)-1)=(a.length:Int)-1:=i64_small (by omega) (by omega)
 rw[hw]
 refine Tot.some_bind ?_
 refine Tot.bindq (P:=fun j=>Dg j.1∧j.1.length=a.length∧0≤j.2∧j.2<d∧val a=d*val j.1+j.2) ?_ fun j ⟨j1,j2,j3,j4,j5⟩=>?_
 ·refine Tot.loop (fun st=>∃ (i:Nat) (q:List Int),st.2.2=(i:Int)-1∧i≤a.length∧st.1=List.replicate i 0++q∧q.length=a.length-i∧Dg q∧0≤st.2.1∧st.2.1<d∧val (a.drop i)=d*val q+st.2.1) (fun st=>(st.2.2+1).toNat)
   ⟨a.length,[],rfl,Nat.le_refl _,by simp,by simp,fun x hx=>by simp at hx,Int.le_refl _,h1,by simp[val]⟩ fun st ⟨i,q,e1,hi,e2,hq,hdq,g1,g2,g3⟩=>?_
  obtain ⟨out,r,k⟩:=st
  simp only at e1 e2 g1 g2 g3
  subst e1;subst e2
  refine Tot.ite (fun h=>?_) (fun h=>?_)
  ·have h:0<i:=by have:(i:Int)-1≥0:=of_decide_eq_true h;omega
   obtain ⟨m,rfl⟩:∃ m,i=m+1:=⟨i-1,by omega⟩
   have hm:m<a.length:=by omega
   have hx:=ha.get hm
   have ek:((m+1:Nat):Int)-1=(m:Int):=by omega
   simp only[ek]
   have er:List.replicate (m+1) (0:Int)++q=List.replicate m 0++0::q:=by rw[List.replicate_succ',List.append_assoc];rfl
   rw[er]
   refine Tot.bind0 (idx_nat hm) ?_
   refine Tot.bindq (Tot.of_all (Q:=(· =((r*4294967296+a[m])/d,(r*4294967296+a[m])%d))) 0 (fun k=>div32_tot ⟨g1,g2⟩ hx h2 _) rfl) fun qq hqq=>?_
   subst hqq
   refine Tot.bind0 (bm_get _ _ _ (by simp)) ?_
   refine Tot.bind0 (bm_upd _ _ _ _ (by simp)) (Tot.ret ?_)
   have hw:IntKind.i64.wrap ((m:Int)-1)=(m:Int)-1:=i64_small (by omega) (by omega)
   simp only[hw]
   have hn0:0≤r*4294967296+a[m]:=by omega
   have hq1:(r*4294967296+a[m])/d<4294967296:=Int.ediv_lt_of_lt_mul (by omega) (by
    have:(r+1)*4294967296≤d*4294967296:=Int.mul_le_mul_of_nonneg_right (by omega) (by decide)
    omega)
   have hq0:0≤(r*4294967296+a[m])/d:=Int.ediv_nonneg hn0 (by omega)
   refine ⟨⟨m,(r*4294967296+a[m])/d::q,rfl,by omega,rfl,by simp[hq];omega,fun x hx=>?_,Int.emod_nonneg _ (by omega),Int.emod_lt_of_pos _ h1,?_⟩,by omega⟩
   ·rcases List.mem_cons.1 hx with e | e
    ·subst e;exact ⟨hq0,hq1⟩
    ·exact hdq x e
   ·rw[List.drop_eq_getElem_cons hm,val_cons',val_cons',g3]
    have:=Int.mul_ediv_add_emod (r*4294967296+a[m]) d
    generalize (r*4294967296+a[m])/d=u at*
    generalize (r*4294967296+a[m])%d=v at*
    generalize a[m]=x at*
    have:d*(u+4294967296*val q)=d*u+4294967296*(d*val q):=by grind
    grind
  ·have h:i=0:=by have:¬ (i:Int)-1≥0:=of_decide_eq_false h;omega
   subst h
   refine Tot.ret ⟨?_,?_,g1,g2,?_⟩
   ·simpa using hdq
   ·simp[hq]
   ·simpa using g3
 ·refine Tot.bindq (ntrim_tot (by omega)) fun t ht=>Tot.ret ⟨ht.dg j1,ht.nz,by have:=ht.len;simp only;omega,?_,?_⟩
  ·rw[ht.val,j5,Int.add_comm,Int.add_mul_ediv_left _ _ (Int.ne_of_gt h1),Int.ediv_eq_zero_of_lt j3 j4];simp
  ·rw[j5,Int.add_comm,Int.add_mul_emod_self_left,Int.emod_eq_of_lt j3 j4]
end Go.Gv.RI
namespace Go.Gv.RI
open Go Go.Gv Go.Gv.D
/-! Own work: the digits of a number to the bases 2, 8 and 16, and the number with some digits. -/
def IsBase (B:Int):Prop:=B=2∨B=8∨B=16
theorem IsBase.one {B:Int} (h:IsBase B):1<B:=by rcases h with h | h | h<;>subst h<;>decide
theorem IsBase.le {B:Int} (h:IsBase B):B≤16:=by rcases h with h | h | h<;>subst h<;>decide
theorem Tot.all {α:Type} {f:Nat→Option α} {a:α} (h:∀ k,f k=some a):Tot f (· =a):=Tot.of_all 0 (fun k=>h _) rfl
theorem big_two:Big=2^4096:=by
 unfold Big
 rw[show (4294967296:Int)=2^32 by decide,← Int.pow_mul]
theorem pow_le_left {a b:Int} (ha:0≤a) (h:a≤b):∀ n:Nat,a^n≤b^n
 | 0=>by simp
 | n+1=>by
   rw[Int.pow_succ,Int.pow_succ]
   exact Int.mul_le_mul (pow_le_left ha h n) h ha (Int.pow_nonneg (by omega))
theorem vb_cons' (b x:Int) (l:List Int):vb b (x::l)=x+b*vb b l:=rfl
end Go.Gv.RI
