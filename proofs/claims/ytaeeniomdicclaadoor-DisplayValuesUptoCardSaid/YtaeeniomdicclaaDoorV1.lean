import Derived.Test.YtaeeniomdicclaaDoorKF
set_option linter.all false
open Go.Gv.Tot renaming bind0->aa,bindq->ab,ret->ac,some_bind->ai,ite->aj
open List renaming drop_eq_getElem_cons->ad
open Int renaming emod_add_mul_ediv->ae,emod_lt_of_pos->af,ediv_eq_zero_of_lt->ag,toNat_natCast->ah
namespace Go.Gv.RI
open Go Go.Gv Go.Gv.D
set_option maxRecDepth 100000
theorem zq4 {b:Int}:∀ {l:List Int} {i:Nat} (h:i<l.length) (x:Int),vb b (l.set i x)=vb b l+b^i*(x-l[i])
 | y::l,0,_,x=>by
   simp[vb]
   omega
 | y::l,i+1,h,x=>by
   have h':i<l.length:=by simp at h;omega
   have:=zq4 (b:=b) h' x
   simp only[List.set_cons_succ,vb,List.getElem_cons_succ,this,Int.pow_succ]
   rw[Int.mul_add,<- Int.mul_assoc,Int.mul_comm b (b^i),Int.add_assoc]
theorem nz_ok {d:Int} (h:d≠0):nz d=some ():=by unfold nz;simp[h]
theorem zzh {a:List Int} {d:Int} (ha:Ok3 a) (la:a.length<=20000) (d1:1<=d) (d2:d<=65535):Tot (fun f=>zzI f a d) (fun r=>Ok3 r.1∧w r.1=w a/d∧r.2=w a%d∧r.1.length<=a.length):=by
 obtain ⟨da,na,_⟩:=ha
 unfold zzI
 refine aa (a:=List.replicate a.length 0) (by unfold mkC;rw[if_pos ⟨om,om,om⟩,ah]) ?_
 rw[i64_small om om]
 refine ai ?_
 refine ab (P:=fun r=>Db 65536 r.1∧r.1.length=a.length∧d*vb 65536 r.1+r.2=vb 65536 a∧0<=r.2∧r.2<d) ?_ fun r ⟨h1,h2,h3,h4,h5⟩=>?_
 ·refine Tot.loop (fun (st:List Int × Int × Int)=>∃ i:Nat,st.2.2=(i:Int)-1∧i<=a.length∧Db 65536 st.1∧st.1.length=a.length∧0<=st.2.1∧st.2.1<d∧(∀ j,j<i->st.1[j]? =some 0)∧d*vb 65536 st.1+65536^i*st.2.1+vb 65536 (a.take i)=vb 65536 a) (fun st=>(st.2.2+1).toNat)
   ⟨a.length,rfl,Nat.le_refl _,fun x hx=>by have:=List.eq_of_mem_replicate hx;subst this;exact ⟨Int.le_refl _,ddc⟩,by simp,Int.le_refl _,by show (0:Int)<d;omega,fun j hj=>by rw[List.getElem?_replicate];simp;omega,by rw[zvv,List.take_length];simp⟩ fun st ⟨i,e,hi,h1,h2,h3,h4,h5,h6⟩=>?_
  obtain ⟨out,r,k⟩:=st
  simp only at e h1 h2 h3 h4 h5 h6
  subst e
  refine aj (fun g=>?_) (fun g=>ac ?_)
  ·have g:((i:Nat):Int)-1>=0:=odt g
   obtain ⟨m,rfl⟩:∃ m,i=m+1:=⟨i-1,om⟩
   have hk:(((m+1:Nat):Int)-1)=(m:Int):=by omega
   have c:m<a.length:=by omega
   have b:m<out.length:=by omega
   have hx:=da.get c
   have ho:out[m]=0:=by
    have:=h5 m om
    rw[List.getElem?_eq_getElem b]at this
    exact Option.some.inj this
   simp only[hk]
   refine aa (idx_nat c) ?_
   rw[i64_small (x:=r*65536) om om,i64_small (x:=r*65536+a[m]) om om]
   have hm:(r*65536+a[m]).tmod d=(r*65536+a[m])%d:=Int.tmod_eq_emod_of_nonneg om
   have hd:(r*65536+a[m]).tdiv d=(r*65536+a[m])/d:=Int.tdiv_eq_ediv_of_nonneg om
   refine ai (aa (a:=()) (nz_ok om) (aa (idx_nat b) ?_))
   have q0:0<=(r*65536+a[m])/d:=Int.ediv_nonneg om om
   have q1:(r*65536+a[m])/d<65536:=Int.ediv_lt_of_lt_mul om (by rw[Int.mul_comm];omega)
   have e0:0<=(r*65536+a[m])%d:=Int.emod_nonneg _ om
   have e1:(r*65536+a[m])%d<d:=af _ om
   rw[hd,hm,i64_small (x:=(r*65536+a[m])/d) om om]
   have hu:upd out (m:Int) ((r*65536+a[m])/d)=some (out.set m ((r*65536+a[m])/d)):=by
    unfold upd
    rw[if_pos ⟨om,om⟩,ah]
   refine aa hu (aa (a:=()) (nz_ok om) (ac ?_))
   rw[i64_small (x:=(m:Int)-1) om om]
   have he:=ae (r*65536+a[m]) d
   refine ⟨⟨m,rfl,om,?_,by simp[h2],e0,e1,fun j hj=>?_,?_⟩,by show ((m:Int)-1+1).toNat<((m:Int)+1).toNat;omega⟩
   ·intro x l
    rcases List.mem_or_eq_of_mem_set l with h | h
    ·exact h1 x h
    ·subst h;exact ⟨q0,q1⟩
   ·show (out.set m _)[j]? =_
    rw[List.getElem?_set_ne om]
    exact h5 j om
   ·show d*vb 65536 (out.set m ((r*65536+a[m])/d))+65536^m*((r*65536+a[m])%d)+vb 65536 (a.take m)=_
    rw[zq4 b,ho,<- h6,vb_take_succ c,Int.pow_succ]
    generalize (r*65536+a[m])/d=q at*
    generalize (r*65536+a[m])%d=s at*
    generalize (65536:Int)^m=Z at*
    have:=congrArg (Z* ·) he
    grind
  ·have g:¬ ((i:Nat):Int)-1>=0:=odf g
   have:i=0:=by omega
   subst this
   refine ⟨h1,h2,?_,h3,h4⟩
   simpa [vb] using h6
 ·refine ab (rtrim_tot om) fun t ht=>ac ⟨⟨ht.db h1,ht.nz,?_⟩,?_,?_,?_⟩
  ·have:=ht.len;show t.length<=100000;omega
  ·show vb 65536 t=vb 65536 a/d
   rw[ht.vb,<- h3,Int.mul_add_ediv_left _ _ om,ag h4 h5,Int.add_zero]
  ·show r.2=vb 65536 a%d
   rw[<- h3,Int.mul_add_emod_self_left,Int.emod_eq_of_lt h4 h5]
  ·have:=ht.len;show t.length<=a.length;omega
end Go.Gv.RI
namespace Go.Gv.P
open Go Go.Gv Go.Gv.D Go.Gv.R Go.Lib
open Go.Gv.RI (val Dg Nz OkL OkI OkN vb Db IsB Ok3 zzh zyv zzr zze h16)
set_option maxRecDepth 100000
theorem zpI {B V:Int} (hB:1<B) (hV:0<V):dl B V=V%B::dl B (V/B):=by
 have hq:0<=V/B:=Int.ediv_nonneg om om
 obtain ⟨h1,h2,h3⟩:=zt5 hB hq
 have e0:=Int.emod_nonneg V (show B≠0 by omega)
 have e1:=af V (show 0<B by omega)
 have e2:=ae V B
 refine (zpE hB om ?_ ?_ ?_).symm
 ·intro x hx
  rcases List.mem_cons.1 hx with e | h
  ·subst e;exact ⟨e0,e1⟩
  ·exact h1 x h
 ·show V%B+B*vb B (dl B (V/B))=V
  rw[h2];exact e2
 ·cases hd:dl B (V/B) with
  | nil=>
    have h0:V/B=0:=(zvE hB hq).1 hd
    rw[h0]at e2
    simp only[Int.mul_zero,Int.add_zero]at e2
    right
    simp only[List.getLast?_singleton]
    intro e
    have:=Option.some.inj e
    omega
  | cons y l=>
    right
    rcases h3 with h | h
    ·rw[h]at hd;cases hd
    ·rw[hd]at h;rwa [List.getLast?_cons_cons]
theorem zpw {B V:Int} (hB:1<B) (hV:0<=V) {n:Nat} (h:V<2^n):(dl B V).length<=n:=by
 obtain ⟨h1,h2,h3⟩:=zt5 hB hV
 rcases Nat.lt_or_ge n (dl B V).length with hn | hn
 ·exfalso
  have h4:=zyv hB h1 h3 (fun e=>by rw[e]at hn;simp at hn)
  rw[h2]at h4
  have h5:(2:Int)^n<=B^n:=RI.pow_le_left ddc om n
  have h6:B^n<=B^((dl B V).length-1):=zze hB om
  omega
 ·exact hn
theorem zoh {a:List Int} (ha:Ok3 a):0<=vb 65536 a∧vb 65536 a<2^(16*a.length):=by
 have:=zzr h16 ha.1
 refine ⟨this.1,?_⟩
 rw[Int.pow_mul]
 exact this.2
theorem ztH {a:List Int} (ha:Ok3 a):(0<a.length↔0<vb 65536 a):=RI.pos_of ha
theorem zpN (l:List Int) (hl:l.length<=1000000):Tot (fun b=>zzj (fun (a:((List Int) × Int))=>(if (decide (a.2>=0)) then (Option.bind (idx l a.2) fun d=>(Option.bind (app a.1 ([d]:List Int)) fun c=>(some (.inl (c,(IntKind.i64.wrap (a.2-1))))))) else (some (.inr (a.1))))) b (([]:List Int),(IntKind.i64.wrap (((List.length l:Nat):Int)-1)))) (· =l.reverse):=by
 rw[RI.i64_small om om]
 refine Tot.loop (fun (st:List Int × Int)=>∃ i:Nat,st.2=(i:Int)-1∧i<=l.length∧st.1=(l.drop i).reverse) (fun st=>(st.2+1).toNat) ⟨l.length,rfl,Nat.le_refl _,by simp⟩ fun st ⟨i,e,hi,h1⟩=>?_
 obtain ⟨out,k⟩:=st
 simp only at e h1
 subst e;subst h1
 refine aj (fun g=>?_) (fun g=>ac ?_)
 ·have g:((i:Nat):Int)-1>=0:=odt g
  obtain ⟨m,rfl⟩:∃ m,i=m+1:=⟨i-1,om⟩
  have hk:(((m+1:Nat):Int)-1)=(m:Int):=by omega
  have hm:m<l.length:=by omega
  simp only[hk]
  refine aa (RI.idx_nat hm) (aa (zzt oss) (ac ?_))
  rw[RI.i64_small om om]
  refine ⟨⟨m,rfl,om,?_⟩,osm⟩
  show (l.drop (m+1)).reverse++[l[m]]=(l.drop m).reverse
  rw[ad hm,List.reverse_cons]
 ·have g:¬ ((i:Nat):Int)-1>=0:=odf g
  have:i=0:=by omega
  subst this
  simp
theorem zuK {a:List Int} {B:Int} (ha:Ok3 a) (la:a.length<=20000) (hB:IsB B):Tot (fun c=>zyb c a B) (· =(dl B (vb 65536 a)).reverse):=by
 unfold zyb
 have hb:=zoh ha
 have f:(dl B (vb 65536 a)).length<=320000:=by
  have:=zpw hB.one hb.1 hb.2
  omega
 refine ab (P:=(· =dl B (vb 65536 a))) ?_ fun j hj=>?_
 ·refine Tot.loop (fun (st:List Int × List Int)=>Ok3 st.1∧st.1.length<=a.length∧st.2++dl B (vb 65536 st.1)=dl B (vb 65536 a)) (fun st=>(vb 65536 st.1).toNat) ⟨ha,Nat.le_refl _,rfl⟩ fun st ⟨h1,h2,h3⟩=>?_
  obtain ⟨x,b⟩:=st
  simp only at h1 h2 h3
  refine aj (fun h=>?_) (fun h=>ac ?_)
  ·have h:0<x.length:=by have:((x.length:Nat):Int)>0:=odt h;omega
   have hp:=(ztH h1).1 h
   have hB2:=hB.le
   have e:=hB.one
   refine ab (zzh (d:=B) h1 om om om) fun r ⟨r1,r2,r3,r4⟩=>?_
   replace r2:vb 65536 r.1=vb 65536 x/B:=r2
   replace r3:r.2=vb 65536 x%B:=r3
   rw[zpI e hp]at h3
   have hbl:b.length<=320000:=by
    have:=congrArg List.length h3
    simp at this;omega
   refine aa (zzt oss) (ac ⟨⟨r1,osm,?_⟩,?_⟩)
   ·show (b++[r.2])++dl B (vb 65536 r.1)=_
    rw[r3,r2,<- h3]
    simp
   ·show (vb 65536 r.1).toNat<(vb 65536 x).toNat
    rw[r2]
    have:vb 65536 x/B<vb 65536 x:=Int.ediv_lt_self_of_pos_of_ne_one hp om
    omega
  ·have h:¬ ((x.length:Nat):Int)>0:=odf h
   have:x=[]:=List.eq_nil_of_length_eq_zero om
   subst this
   have:dl B (vb 65536 [])=[]:=by show dl B 0=[];exact (zvE hB.one (Int.le_refl _)).2 rfl
   rw[this]at h3
   simpa using h3
 ·subst hj
  refine ai (ab (zpN _ om) fun r hr=>ac hr)
def tx (neg:Bool) (B V:Int):List UInt8:=if V=0 then [48] else (if neg then [45] else [])++wn B V
theorem zt6 {a:List Int} {B:Int} {neg:Bool} (ha:Ok3 a) (la:a.length<=20000) (hB:IsB B):Tot (fun b=>zyO b (neg,a) B) (· =strOf (tx neg B (vb 65536 a))):=by
 unfold zyO
 refine ab (zuK ha la hB) fun r hr=>?_
 have hb:=zoh ha
 have c:(dl B (vb 65536 a)).length<=320000:=by
  have:=zpw hB.one hb.1 hb.2
  omega
 generalize hD:(dl B (vb 65536 a)).reverse=D at hr
 subst hr
 have hDl:r.length<=320000:=by rw[<- hD];simpa using c
 have f:Db B r:=by rw[<- hD];exact fun x hx=>(zt5 hB.one hb.1).1 x (List.mem_reverse.1 hx)
 refine aj (fun h=>ac ?_) (fun h=>?_)
 ·have h:r=[]:=by
   have:((r.length:Nat):Int)=0:=by simpa using h
   exact List.eq_nil_of_length_eq_zero om
  have h0:vb 65536 a=0:=(zvE hB.one hb.1).1 (by simpa [h] using hD)
  unfold tx;rw[if_pos h0]
 ·have h0:¬ vb 65536 a=0:=fun e=>by
   have:=(zvE hB.one hb.1).2 e
   rw[this]at hD
   subst hD
   simp at h
  unfold tx wn
  rw[if_neg h0,if_neg h0,hD]
  refine ab (P:=(· =strOf (if neg then [45] else []))) (by cases neg<;>exact ac rfl) fun j hj=>?_
  subst hj
  have d:(if neg=true then [45] else ([]:List UInt8)).length<=1:=by split<;>simp
  generalize (if neg=true then [45] else ([]:List UInt8))=sg at d
  refine aa (a:=sg) (by unfold bl;rw[if_pos (by rw[zyg];omega),zzd]) ?_
  refine ab (P:=(· =sg++r.map dch)) ?_ fun j hj=>by subst hj;exact ac rfl
  refine Tot.loop (fun (st:List UInt8 × Int)=>∃ i:Nat,st.2=(i:Int)∧i<=r.length∧st.1=sg++(r.take i).map dch) (fun st=>r.length-st.2.toNat) ⟨0,rfl,om,by simp⟩ fun st ⟨i,e,hi,e2⟩=>?_
  obtain ⟨out,k⟩:=st
  simp only at e e2
  subst e;subst e2
  refine aj (fun h=>?_) (fun h=>?_)
  ·have h:i<r.length:=by have:(i:Int)<(r.length:Int):=odt h;omega
   have hd:=f _ (List.getElem_mem h)
   refine aa (RI.idx_nat h) (aa (ztK hB hd) (aa (a:=dch r[i]) ?_ (aa (zzt oss) (ac ?_))))
   ·have:=(dch r[i]).toNat_lt
    rw[zp0 om];simp
   ·rw[iw (n:=i+1) om om]
    refine ⟨⟨i+1,rfl,om,?_⟩,osm⟩
    rw[List.take_succ_eq_append_getElem h,List.map_append]
    simp
  ·have h:i=r.length:=by have:¬ (i:Int)<(r.length:Int):=odf h;omega
   subst h
   exact ac (by simp)
end Go.Gv.P
namespace Go.Gv.P
open Go Go.Gv Go.Gv.D Go.Gv.R Go.Lib
open Go.Gv.RI (val Dg Nz OkL OkI OkN vb Db IsB Ok3 zzh zyv zzr zze h16 zzo b2 zwu)
set_option maxRecDepth 100000
theorem zpb {a:List Int} (ha:Ok3 a) {k:Nat} (h:vb 65536 a<65536^k):a.length<=k:=by
 rcases Nat.lt_or_ge k a.length with hk | hk
 ·exfalso
  have h1:=zyv h16 ha.1 ha.2.1 (fun e=>by rw[e]at hk;simp at hk)
  have h2:(65536:Int)^k<=65536^(a.length-1):=zze h16 om
  omega
 ·exact hk
theorem zvO {a:List Int} (one:Bool) (ha:Ok3 a) (la:a.length<=50000):Tot (fun b=>zym b a one) (fun r=>Ok3 r∧vb 65536 r=2*vb 65536 a+b2 one∧r.length<=a.length+1):=by
 obtain ⟨da,na,_⟩:=ha
 unfold zym
 refine ab (P:=(· =b2 one)) (by cases one<;>exact ac rfl) fun c hc=>?_
 subst hc
 have hb:0<=b2 one∧b2 one<=1:=by cases one<;>decide
 refine ab (P:=fun j=>0<=j.1∧j.1<=1∧Db 65536 j.2∧j.2.length=a.length∧vb 65536 j.2+65536^a.length*j.1=2*vb 65536 a+b2 one) ?_ fun j ⟨j0,j1,j2,j3,j4⟩=>?_
 ·refine Tot.loop (fun (st:Int × List Int × Int)=>∃ i:Nat,st.2.2=(i:Int)∧i<=a.length∧0<=st.1∧st.1<=1∧Db 65536 st.2.1∧st.2.1.length=i∧vb 65536 st.2.1+65536^i*st.1=2*vb 65536 (a.take i)+b2 one) (fun st=>a.length-st.2.2.toNat)
   ⟨0,rfl,om,hb.1,hb.2,RI.Db.nil,rfl,by simp[vb]⟩ fun st ⟨i,e,hi,h0,h1,h2,h3,h4⟩=>?_
  obtain ⟨c,out,k⟩:=st
  simp only at e h0 h1 h2 h3 h4
  subst e
  refine aj (fun h=>?_) (fun h=>ac ?_)
  ·have h:i<a.length:=by have:((i:Nat):Int)<(a.length:Int):=odt h;omega
   have hx:=da.get h
   refine aa (RI.idx_nat h) ?_
   rw[RI.i64_small (x:=2*a[i]) om om,RI.i64_small (x:=2*a[i]+c) om om]
   refine ai (aa (zzt oss) (ac ?_))
   rw[Int.tmod_eq_emod_of_nonneg om,Int.tdiv_eq_ediv_of_nonneg om,RI.i64_small om om,RI.i64_small om om]
   refine ⟨⟨i+1,rfl,om,osm,osm,h2.append (RI.Db.one om),by simp[h3],?_⟩,osm⟩
   show vb 65536 (out++[(2*a[i]+c)%65536])+65536^(i+1)*((2*a[i]+c)/65536)=_
   rw[RI.vb_snoc,RI.vb_take_succ h,h3,Int.pow_succ]
   have:=ae (2*a[i]+c) 65536
   generalize (65536:Int)^i=Z at*
   grind
  ·have h:¬ ((i:Nat):Int)<(a.length:Int):=odf h
   have:i=a.length:=by omega
   subst this
   rw[List.take_length]at h4
   exact ⟨h0,h1,h2,h3,h4⟩
 ·obtain ⟨c,out⟩:=j
  simp only at j0 j1 j2 j3 j4
  refine ab (P:=fun q=>Db 65536 q∧q.length<=a.length+1∧vb 65536 q=2*vb 65536 a+b2 one) ?_ fun q ⟨q1,q2,q3⟩=>?_
  ·refine aj (fun h=>?_) (fun h=>ac ?_)
   ·refine aa (zzt oss) (ac ⟨j2.append (RI.Db.one osm),by simp[j3],?_⟩)
    show vb 65536 (out++[c])=_
    rw[RI.vb_snoc,j3,j4]
   ·have h:¬ c>0:=odf h
    have:c=0:=by omega
    subst this
    exact ⟨j2,osm,by simpa using j4⟩
  ·refine ab (RI.rtrim_tot om) fun t ht=>ac ⟨⟨ht.db q1,ht.nz,?_⟩,?_,?_⟩
   ·have:=ht.len;omega
   ·rw[ht.vb];exact q3
   ·have:=ht.len;omega
open Go.Gv.RI (val Dg Nz OkL OkI OkN vb Db IsB Ok3 zzh zyv zzr zze h16 zzo b2 zwu)
set_option maxRecDepth 100000
theorem zwU (x:Bool) (l:List Bool):zzo (x::l)=b2 x+2*zzo l:=rfl
theorem b2_le (x:Bool):0<=b2 x∧b2 x<=1:=by cases x<;>decide
theorem zpF {h b x:Int} (hb:0<b) (hx:0<=x∧x<=1) (hh:0<=h):
 (b<=2*(h%b)+x->(2*h+x)/b=2*(h/b)+1∧(2*h+x)%b=2*(h%b)+x-b)∧
 (¬ b<=2*(h%b)+x->(2*h+x)/b=2*(h/b)∧(2*h+x)%b=2*(h%b)+x):=by
 have e:=ae h b
 have e0:=Int.emod_nonneg h (show b≠0 by omega)
 have e1:=af h hb
 generalize h%b=r at*
 generalize h/b=q at*
 subst e
 constructor
 ·intro hc
  have:2*(r+b*q)+x=(2*r+x-b)+b*(2*q+1):=by grind
  rw[this,Int.add_mul_ediv_left _ _ om,Int.add_mul_emod_self_left,ag om om,Int.emod_eq_of_lt om om]
  exact ⟨om,rfl⟩
 ·intro hc
  have:2*(r+b*q)+x=(2*r+x)+b*(2*q):=by grind
  rw[this,Int.add_mul_ediv_left _ _ om,Int.add_mul_emod_self_left,ag om om,Int.emod_eq_of_lt om om]
  exact ⟨om,rfl⟩
theorem zsZ {a b:List Int} (ha:Ok3 a) (hb:Ok3 b) (h:vb 65536 a<vb 65536 b):a.length<=b.length:=by
 rcases Nat.lt_or_ge b.length a.length with hk | hk
 ·have:=RI.vb_longer h16 hb.1 ha.1 ha.2.1 hk
  omega
 ·exact hk
theorem zvI {a b:List Int} (ha:Ok3 a) (hb:Ok3 b) (la:a.length<=20000) (lb:b.length<=20000) (hb0:0<vb 65536 b):
 Tot (fun n=>zyq n a b) (fun r=>Ok3 r.1∧Ok3 r.2∧vb 65536 r.1=vb 65536 a/vb 65536 b∧vb 65536 r.2=vb 65536 a%vb 65536 b):=by
 unfold zyq
 refine ab (RI.Ones_tot ha) fun o ⟨o1,_,o3⟩=>?_
 have lo:o.length<=320000:=by omega
 refine aa (a:=List.replicate o.length false) (by unfold mkC;rw[if_pos ⟨om,om,om⟩,ah]) ?_
 rw[RI.i64_small om om]
 refine ai ?_
 refine ab (P:=fun r=>r.1.length=o.length∧Ok3 r.2∧zzo r.1=vb 65536 a/vb 65536 b∧vb 65536 r.2=vb 65536 a%vb 65536 b) ?_ fun r ⟨h1,h2,h3,h4⟩=>?_
 ·refine Tot.loop (fun (st:List Bool × List Int × Int)=>∃ i:Nat,st.2.2=(i:Int)-1∧i<=o.length∧st.1.length=o.length∧Ok3 st.2.1∧(∀ j,j<i->st.1[j]? =some false)∧zzo (st.1.drop i)=zzo (o.drop i)/vb 65536 b∧vb 65536 st.2.1=zzo (o.drop i)%vb 65536 b) (fun st=>(st.2.2+1).toNat)
   ⟨o.length,rfl,Nat.le_refl _,by simp,RI.Ok3.nil,fun j hj=>by rw[List.getElem?_replicate];simp;omega,by simp[zzo,vb],by simp[zzo,vb]⟩ fun st ⟨i,e,hi,h1,h2,h5,h3,h4⟩=>?_
  obtain ⟨q,rs,k⟩:=st
  simp only at e h1 h2 h3 h4 h5
  subst e
  refine aj (fun g=>?_) (fun g=>ac ?_)
  ·have g:((i:Nat):Int)-1>=0:=odt g
   obtain ⟨m,rfl⟩:∃ m,i=m+1:=⟨i-1,om⟩
   have hk:(((m+1:Nat):Int)-1)=(m:Int):=by omega
   have hm:m<o.length:=by omega
   have f:m<q.length:=by omega
   have hq:q[m]=false:=by
    have:=h5 m om
    rw[List.getElem?_eq_getElem f]at this
    exact Option.some.inj this
   have hrl:rs.length<=b.length:=zsZ h2 hb (by rw[h4];exact af _ hb0)
   simp only[hk]
   refine aa (RI.idx_nat hm) ?_
   refine ab (zvO o[m] h2 om) fun d ⟨d1,d2,d3⟩=>?_
   refine ab (RI.Compare_tot d1 hb) fun c ⟨c1,c2⟩=>?_
   have p:zzo (o.drop m)=2*zzo (o.drop (m+1))+b2 o[m]:=by rw[ad hm,zwU];omega
   have s:0<=zzo (o.drop (m+1)):=(RI.vbits_bound _).1
   obtain ⟨z1,z2⟩:=zpF (h:=zzo (o.drop (m+1))) hb0 (b2_le o[m]) s
   rw[<- p,<- h4,<- h3]at z1 z2
   replace c1:c<0↔vb 65536 d<vb 65536 b:=c1
   rw[d2]at c1
   refine ab (P:=fun j=>j.1.length=o.length∧Ok3 j.2∧(∀ x,x<m->j.1[x]? =some false)∧zzo (j.1.drop m)=zzo (o.drop m)/vb 65536 b∧vb 65536 j.2=zzo (o.drop m)%vb 65536 b) ?_ fun j ⟨j1,j2,j5,j3,j4⟩=>?_
   ·refine aj (fun h=>?_) (fun h=>ac ?_)
    ·have h:c>=0:=odt h
     have l:vb 65536 b<=2*vb 65536 rs+b2 o[m]:=by omega
     obtain ⟨y1,y2⟩:=z1 l
     refine ab (RI.Minus3_tot d1 hb (by show vb 65536 b<=vb 65536 d;rw[d2];exact l)) fun t ⟨t1,t2⟩=>?_
     replace t2:vb 65536 t=vb 65536 d-vb 65536 b:=t2
     refine aa (RI.idx_nat f) ?_
     have hu:upd q (m:Int) true=some (q.set m true):=by
      unfold upd
      rw[if_pos ⟨om,om⟩,ah]
     refine aa hu (ac ⟨by simp[h1],t1,fun x hx=>?_,?_,?_⟩)
     ·show (q.set m true)[x]? =_
      rw[List.getElem?_set_ne om]
      exact h5 x om
     ·show zzo ((q.set m true).drop m)=_
      rw[y1,ad oss,zwU,List.getElem_set_self,List.drop_set_of_lt om]
      show 1+_=_
      omega
     ·show vb 65536 t=_
      rw[t2,d2,y2]
    ·have h:¬ c>=0:=odf h
     obtain ⟨y1,y2⟩:=z2 om
     refine ⟨h1,d1,fun x hx=>h5 x om,?_,?_⟩
     ·show zzo (q.drop m)=_
      rw[y1,ad f,zwU,hq]
      show 0+_=_
      omega
     ·show vb 65536 d=_
      rw[d2,y2]
   ·obtain ⟨q',r'⟩:=j
    simp only at j1 j2 j3 j4 j5
    refine ac ?_
    rw[RI.i64_small om om]
    exact ⟨⟨m,rfl,om,j1,j2,j5,j3,j4⟩,osm⟩
  ·have g:¬ ((i:Nat):Int)-1>=0:=odf g
   have:i=0:=by omega
   subst this
   rw[List.drop_zero,List.drop_zero,o1]at h3
   rw[List.drop_zero,o1]at h4
   exact ⟨h1,h2,h3,h4⟩
 ·refine ab (RI.Binary_tot om) fun t ⟨t1,t2⟩=>ac ⟨t1,h2,?_,h4⟩
  show vb 65536 t=_
  rw[show vb 65536 t=zzo r.1 from t2,h3]
end Go.Gv.P
