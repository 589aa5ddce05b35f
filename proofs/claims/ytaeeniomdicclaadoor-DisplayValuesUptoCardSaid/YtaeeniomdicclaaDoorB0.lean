import Derived.Test.YtaeeniomdicclaaDoorRP
set_option linter.all false
open List renaming replicate->aa
namespace Go.Gv.RI
open Go Go.Gv Go.Gv.D
theorem zo4 {α:Type} (p:List α) (x:α) (q:List α) {m:Nat} (h:m=p.length):idx (p++x::q) (m:Int)=some x:=by
 subst h
 rw[idx_nat (by simp)]
 simp
theorem zoM {α:Type} (p:List α) (x y:α) (q:List α) {m:Nat} (h:m=p.length):upd (p++x::q) (m:Int) y=some (p++y::q):=by
 subst h
 unfold upd
 rw[if_pos ⟨om,oss⟩,Int.toNat_natCast]
 simp
theorem zpX {a b:Int} (ha:0<=a∧a<4294967296) (hb:0<=b∧b<4294967296):zpc .u64 (b*4294967296) a=b*4294967296+a:=by
 have h:=zqI ha hb
 unfold zpc at h ⊢
 rw[BitVec.or_comm,h,Int.add_comm]
theorem zrp {r x d:Int} (hr:0<=r∧r<d) (hx:0<=x∧x<4294967296) (hd:d<4294967296) (fuel:Nat):zy5 fuel r x d=some ((r*4294967296+x)/d,(r*4294967296+x)%d):=by
 unfold zy5
 have e0:(d !=0)=true:=bne_iff_ne.2 om
 have e1:decide (d<=r)=false:=dff om
 rw[e0,e1]
 have w1:IntKind.u64.wrap r=r:=zxy om om
 have w2:IntKind.u64.wrap (r*2^32)=r*4294967296:=zxy om om
 have w3:IntKind.u64.wrap x=x:=zxy om om
 have w4:IntKind.u64.wrap d=d:=zxy om om
 have hn:nz d=some ():=by unfold nz;rw[if_neg om]
 have b:0<=r*4294967296+x:=by omega
 have hq:(r*4294967296+x)/d<4294967296:=Int.ediv_lt_of_lt_mul om (by
  have:(r+1)*4294967296<=d*4294967296:=Int.mul_le_mul_of_nonneg_right om ddc
  omega)
 have c:0<=(r*4294967296+x)/d:=Int.ediv_nonneg b om
 have e:0<=(r*4294967296+x)%d:=Int.emod_nonneg _ om
 have hm1:(r*4294967296+x)%d<d:=Int.emod_lt_of_pos _ om
 simp only[Bool.and_false,Bool.false_eq_true,if_false,Option.bind_some,w1,w2,w3,w4,hn,zpX hx (show 0<=r∧r<4294967296 by omega),Int.tdiv_eq_ediv_of_nonneg b,Int.tmod_eq_emod_of_nonneg b]
 rw[zxy c om,u32_small c hq,u32_small e om]
theorem zuQ (x:Int) (q:List Int):val (x::q)=x+4294967296*val q:=by simp[val]
theorem zsh {a:List Int} {d:Int} (ha:Dg a) (la:a.length<=1000) (h1:0<d) (h2:d<4294967296):
 Tot (fun c=>zyy c a d) (fun r=>Dg r.1∧Nz r.1∧r.1.length<=a.length∧val r.1=val a/d∧r.2=val a%d):=by
 unfold zyy
 refine Tot.bind0 (a:=aa a.length 0) (by unfold mkC;rw[if_pos ⟨om,om,om⟩];simp) ?_
 have hw:IntKind.i64.wrap (((a.length:Nat):Int)-1)=(a.length:Int)-1:=i64_small om om
 rw[hw]
 refine Tot.some_bind ?_
 refine Tot.bindq (P:=fun j=>Dg j.1∧j.1.length=a.length∧0<=j.2∧j.2<d∧val a=d*val j.1+j.2) ?_ fun j ⟨j1,j2,j3,j4,j5⟩=>?_
 ·refine Tot.loop (fun st=>∃ (i:Nat) (q:List Int),st.2.2=(i:Int)-1∧i<=a.length∧st.1=aa i 0++q∧q.length=a.length-i∧Dg q∧0<=st.2.1∧st.2.1<d∧val (a.drop i)=d*val q+st.2.1) (fun st=>(st.2.2+1).toNat)
   ⟨a.length,[],rfl,Nat.le_refl _,by simp,by simp,fun x hx=>by simp at hx,Int.le_refl _,h1,by simp[val]⟩ fun st ⟨i,q,e1,hi,e2,hq,b,g1,g2,g3⟩=>?_
  obtain ⟨out,r,k⟩:=st
  simp only at e1 e2 g1 g2 g3
  subst e1;subst e2
  refine Tot.ite (fun h=>?_) (fun h=>?_)
  ·have h:0<i:=by have:(i:Int)-1>=0:=odt h;omega
   obtain ⟨m,rfl⟩:∃ m,i=m+1:=⟨i-1,om⟩
   have hm:m<a.length:=by omega
   have hx:=ha.get hm
   have ek:((m+1:Nat):Int)-1=(m:Int):=by omega
   simp only[ek]
   have er:aa (m+1) (0:Int)++q=aa m 0++0::q:=by rw[List.replicate_succ',List.append_assoc];rfl
   rw[er]
   refine Tot.bind0 (idx_nat hm) ?_
   refine Tot.bindq (Tot.of_all (Q:=(· =((r*4294967296+a[m])/d,(r*4294967296+a[m])%d))) 0 (fun k=>zrp ⟨g1,g2⟩ hx h2 _) rfl) fun qq f=>?_
   subst f
   refine Tot.bind0 (zo4 _ _ _ (by simp)) ?_
   refine Tot.bind0 (zoM _ _ _ _ (by simp)) (Tot.ret ?_)
   have hw:IntKind.i64.wrap ((m:Int)-1)=(m:Int)-1:=i64_small om om
   simp only[hw]
   have g:0<=r*4294967296+a[m]:=by omega
   have n:(r*4294967296+a[m])/d<4294967296:=Int.ediv_lt_of_lt_mul om (by
    have:(r+1)*4294967296<=d*4294967296:=Int.mul_le_mul_of_nonneg_right om ddc
    omega)
   have l:0<=(r*4294967296+a[m])/d:=Int.ediv_nonneg g om
   refine ⟨⟨m,(r*4294967296+a[m])/d::q,rfl,om,rfl,by simp[hq];omega,fun x hx=>?_,Int.emod_nonneg _ om,Int.emod_lt_of_pos _ h1,?_⟩,om⟩
   ·rcases List.mem_cons.1 hx with e | e
    ·subst e;exact ⟨l,n⟩
    ·exact b x e
   ·rw[List.drop_eq_getElem_cons hm,zuQ,zuQ,g3]
    have:=Int.mul_ediv_add_emod (r*4294967296+a[m]) d
    generalize (r*4294967296+a[m])/d=u at*
    generalize (r*4294967296+a[m])%d=v at*
    generalize a[m]=x at*
    have:d*(u+4294967296*val q)=d*u+4294967296*(d*val q):=by grind
    grind
  ·have h:i=0:=by have:¬ (i:Int)-1>=0:=odf h;omega
   subst h
   refine Tot.ret ⟨?_,?_,g1,g2,?_⟩
   ·simpa using b
   ·simp[hq]
   ·simpa using g3
 ·refine Tot.bindq (zrZ om) fun t ht=>Tot.ret ⟨ht.dg j1,ht.nz,by have:=ht.len;simp only;omega,?_,?_⟩
  ·rw[ht.val,j5,Int.add_comm,Int.add_mul_ediv_left _ _ (Int.ne_of_gt h1),Int.ediv_eq_zero_of_lt j3 j4];simp
  ·rw[j5,Int.add_comm,Int.add_mul_emod_self_left,Int.emod_eq_of_lt j3 j4]
def ztF (B:Int):Prop:=B=2∨B=8∨B=16
theorem ztF.one {B:Int} (h:ztF B):1<B:=by rcases h with h | h | h<;>subst h<;>decide
theorem ztF.le {B:Int} (h:ztF B):B<=16:=by rcases h with h | h | h<;>subst h<;>decide
theorem Tot.all {α:Type} {f:Nat->Option α} {a:α} (h:∀ k,f k=some a):Tot f (· =a):=Tot.of_all 0 (fun k=>h _) rfl
theorem pow_le_left {a b:Int} (ha:0<=a) (h:a<=b):∀ n:Nat,a^n<=b^n
 | 0=>by simp
 | n+1=>by
   rw[Int.pow_succ,Int.pow_succ]
   exact Int.mul_le_mul (pow_le_left ha h n) h ha (Int.pow_nonneg om)
theorem vb_cons' (b x:Int) (l:List Int):vb b (x::l)=x+b*vb b l:=rfl
theorem Dg.drop {a:List Int} (h:Dg a) (i:Nat):Dg (a.drop i):=fun x hx=>h x (List.mem_of_mem_drop hx)
def OkN (a:List Int):Prop:=Dg a∧Nz a∧a.length<=600
end Go.Gv.RI
