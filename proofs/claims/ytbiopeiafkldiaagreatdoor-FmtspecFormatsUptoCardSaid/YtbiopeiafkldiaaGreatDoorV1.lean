import Derived.Test.YtbiopeiafkldiaaGreatDoorRP
import Derived.Test.YtbiopeiafkldiaaGreatDoorKF
set_option linter.all false
open Go.Gv.Tot renaming bindq→aa,ret→ab,bind0→ac,ite→ak,some_bind→al,loop→am
open Int renaming tmod_eq_emod_of_nonneg→ad,tdiv_eq_ediv_of_nonneg→ae,emod_add_mul_ediv→af,toNat_natCast→ah,ediv_eq_zero_of_lt→aj,emod_lt_of_pos→an,emod_eq_of_lt→ap,pow_succ→aq,le_refl→ar
open List renaming drop_eq_getElem_cons→ag,take_of_length_le→ai
open Nat renaming le_refl→ao
namespace Go.Gv.RI
open Go Go.Gv Go.Gv.D
set_option maxRecDepth 100000
/-! ### products of the reference's numbers -/
theorem vb_set {b:Int}:∀ {l:List Int} {i:Nat} (h:i<l.length) (x:Int),vb b (l.set i x)=vb b l+b^i*(x-l[i])
 | y::l,0,_,x=>by
   simp[vb]
   omega
 | y::l,i+1,h,x=>by
   have h':i<l.length:=by simp at h;omega
   have:=vb_set (b:=b) h' x
   simp only[List.set_cons_succ,vb,List.getElem_cons_succ,this,aq]
   rw[Int.mul_add,← Int.mul_assoc,Int.mul_comm b (b^i),Int.add_assoc]
theorem vb_high {l:List Int} (hd:Db 65536 l) {k:Nat} (hv:vb 65536 l<65536^k) {j:Nat} (hj:j<l.length) (hk:k≤j):l[j]=0:=by
 have hc:=vb_cut (b:=65536) hj
 have h1:=(vb_bound h16 (hd.take j)).1
 have h2:=(vb_bound h16 (hd.drop (j+1))).1
 have hg:=hd.get hj
 rcases (by omega:l[j]=0∨1≤l[j]) with h | h
 ·exact h
 ·have h3:=vb_mono h16 hk
  have h4:(65536:Int)^j*1≤65536^j*(l[j]+65536*vb 65536 (l.drop (j+1))):=Int.mul_le_mul_of_nonneg_left om (Int.le_of_lt (pow_pos' h16 j))
  omega
end Go.Gv.RI
namespace Go.Gv.RI
open Go Go.Gv Go.Gv.D
set_option maxRecDepth 100000
theorem vb_take1 {b:List Int} {k:Nat} (h:k<b.length):vb 65536 (b.take (k+1))=vb 65536 (b.take k)+65536^k*b[k]:=vb_take_succ h
theorem inner_tot {a b out0:List Int} {i:Nat} (hda:Db 65536 a) (hdb:Db 65536 b) (ho:Db 65536 out0) (hi:i<a.length) (hlen:i+b.length<out0.length) (hol:out0.length≤100000) (hz:∀ j (h:j<out0.length),i+b.length≤j→out0[j]=0):
 Tot (fun fuel=>(loopN (fun (s24:((List Int) × Int × Int))=>(if ((decide (s24.2.2<((List.length b:Nat):Int)))||(decide (s24.2.1>0))) then (Option.bind (idx s24.1 (IntKind.i64.wrap ((i:Int)+s24.2.2))) fun x35=>(Option.bind (if (decide (s24.2.2<((List.length b:Nat):Int))) then (Option.bind (idx a (i:Int)) fun x42=>(Option.bind (idx b s24.2.2) fun x45=>(Option.bind (some (IntKind.i64.wrap ((IntKind.i64.wrap (x35+s24.2.1))+(IntKind.i64.wrap (x42*x45))))) fun n48=>(some (n48))))) else (some ((IntKind.i64.wrap (x35+s24.2.1))))) fun (j37:Int)=>(Option.bind (idx s24.1 (IntKind.i64.wrap ((i:Int)+s24.2.2))) fun x56=>(Option.bind (upd s24.1 (IntKind.i64.wrap ((i:Int)+s24.2.2)) ((j37).tmod 65536)) fun l58=>(some (.inl (l58,(IntKind.i64.wrap ((j37).tdiv 65536)),(IntKind.i64.wrap (s24.2.2+1))))))))) else (some (.inr (s24.1))))) fuel (out0,0,0))) (fun r=>Db 65536 r∧r.length=out0.length∧vb 65536 r=vb 65536 out0+65536^i*(a[i]*vb 65536 b)):=by
 have hai:=hda.get hi
 refine am (fun (st:List Int × Int × Int)=>∃ k:Nat,st.2.2=(k:Int)∧k≤b.length+1∧st.1.length=out0.length∧Db 65536 st.1∧0≤st.2.1∧st.2.1<65536∧(b.length<k→st.2.1=0)∧(∀ j,i+k≤j→st.1[j]? =out0[j]?)∧vb 65536 st.1+65536^(i+k)*st.2.1=vb 65536 out0+65536^i*(a[i]*vb 65536 (b.take k))) (fun st=>b.length+1-st.2.2.toNat)
  ⟨0,rfl,Nat.zero_le _,rfl,ho,ar _,by show (0:Int)<65536;decide,fun _=>rfl,fun _ _=>rfl,by simp[vb]⟩ fun st ⟨k,e,hk,h1,h2,h3,h4,h5,h6,h7⟩=>?_
 obtain ⟨out,c,kk⟩:=st
 simp only at e h1 h2 h3 h4 h5 h6 h7
 subst e
 have hw:IntKind.i64.wrap ((i:Int)+(k:Int))=((i+k:Nat):Int):=by rw[i64_small om om];omega
 refine ak (fun g=>?_) (fun g=>ab ?_)
 ·have hkb:k≤b.length:=by
   rcases Nat.lt_or_ge b.length k with hlt | hge
   ·have:=h5 hlt
    rw[Bool.or_eq_true]at g
    rcases g with g | g
    ·have:((k:Nat):Int)<(b.length:Int):=odt g;omega
    ·have:c>0:=odt g;omega
   ·exact hge
  have hp:i+k<out.length:=by omega
  have hx:=h2.get hp
  have hxo:out[i+k]=out0[i+k]'(om):=by
   have:=h6 (i+k) (ao _)
   rw[List.getElem?_eq_getElem hp,List.getElem?_eq_getElem om]at this
   exact Option.some.inj this
  simp only[hw]
  refine ac (idx_nat hp) ?_
  refine aa (P:=fun j=>0≤j∧j<4294967296∧(k=b.length→j<65536)∧65536^i*(a[i]*vb 65536 (b.take (k+1)))+65536^(i+k)*(out[i+k]+c)=65536^i*(a[i]*vb 65536 (b.take k))+65536^(i+k)*j) (ak (fun g2=>?_) (fun g2=>ab ?_)) fun j ⟨j1,j2,j3,j4⟩=>?_
  ·have g2:((k:Nat):Int)<(b.length:Int):=odt g2
   have hkl:k<b.length:=by omega
   have hbk:=hdb.get hkl
   have hm0:0≤a[i]*b[k]:=Int.mul_nonneg hai.1 hbk.1
   have hm1:a[i]*b[k]≤65535*65535:=Int.mul_le_mul om om hbk.1 ddc
   refine ac (idx_nat hi) (ac (idx_nat hkl) (al (ab ?_)))
   rw[i64_small (x:=out[i+k]+c) om om,i64_small (x:=a[i]*b[k]) om om,i64_small om om]
   refine ⟨om,om,fun h=>by omega,?_⟩
   rw[vb_take1 hkl,Int.pow_add]
   generalize (65536:Int)^i=X
   generalize (65536:Int)^k=Y
   grind
  ·have g2:¬ ((k:Nat):Int)<(b.length:Int):=odf g2
   have hkl:k=b.length:=by omega
   have hz0:out[i+k]=0:=by rw[hxo];exact hz _ _ om
   show 0≤IntKind.i64.wrap (out[i+k]+c)∧_
   rw[i64_small om om]
   refine ⟨om,om,fun _=>by omega,?_⟩
   rw[ai om,ai om]
  ·refine ac (idx_nat hp) ?_
   have hu:upd out ((i+k:Nat):Int) (j.tmod 65536)=some (out.set (i+k) (j.tmod 65536)):=by
    unfold upd
    rw[if_pos ⟨om,om⟩,ah]
   refine ac hu (ab ?_)
   have hm:j.tmod 65536=j%65536:=ad j1
   have hd:j.tdiv 65536=j/65536:=ae j1
   rw[hm,hd,i64_small (x:=j/65536) om om,i64_small (x:=(k:Int)+1) om om]
   refine ⟨⟨k+1,by simp,om,by simp[h1],?_,by show 0≤j/65536;omega,by show j/65536<65536;omega,fun h=>by show j/65536=0;have:=j3 om;omega,fun x hx3=>?_,?_⟩,by show b.length+1-((k:Int)+1).toNat<b.length+1-((k:Int)).toNat;omega⟩
   ·intro x hx
    rcases List.mem_or_eq_of_mem_set hx with h | h
    ·exact h2 x h
    ·subst h;omega
   ·show (out.set (i+k) (j%65536))[x]? =_
    rw[List.getElem?_set_ne om]
    exact h6 x om
   ·show vb 65536 (out.set (i+k) (j%65536))+65536^(i+(k+1))*(j/65536)=_
    rw[vb_set hp,show i+(k+1)=(i+k)+1 by omega,aq]
    have he:=af j 65536
    generalize (65536:Int)^(i+k)=Z at*
    grind
 ·rw[Bool.or_eq_false_iff]at g
  have g1:¬ ((k:Nat):Int)<(b.length:Int):=odf g.1
  have g2:¬ c>0:=odf g.2
  have hc:c=0:=by omega
  refine ⟨h2,h1,?_⟩
  rw[hc,ai om]at h7
  show vb 65536 out=_
  omega
end Go.Gv.RI
namespace Go.Gv.RI
open Go Go.Gv Go.Gv.D
set_option maxRecDepth 100000
theorem Times_tot {a b:List Int} (ha:Ok3 a) (hb:Ok3 b) (la:a.length≤20000) (lb:b.length≤20000):Tot (fun fuel=>ref3_Times fuel a b) (fun r=>Ok3 r∧w r=w a*w b):=by
 obtain ⟨da,na,_⟩:=ha
 obtain ⟨db,nb,_⟩:=hb
 unfold ref3_Times
 have e1:IntKind.i64.wrap ((a.length:Int)+(b.length:Int))=((a.length+b.length:Nat):Int):=by rw[i64_small om om];omega
 have e2:IntKind.i64.wrap (((a.length+b.length:Nat):Int)+1)=((a.length+b.length+1:Nat):Int):=by rw[i64_small om om];omega
 rw[e1,e2]
 refine ac (a:=List.replicate (a.length+b.length+1) 0) (by unfold mkC;rw[if_pos ⟨om,om,om⟩,ah]) ?_
 refine aa (P:=fun r=>Db 65536 r∧r.length=a.length+b.length+1∧vb 65536 r=vb 65536 a*vb 65536 b) ?_ fun r ⟨h1,h2,h3⟩=>?_
 ·refine am (fun (st:List Int × Int)=>∃ i:Nat,st.2=(i:Int)∧i≤a.length∧Db 65536 st.1∧st.1.length=a.length+b.length+1∧vb 65536 st.1=vb 65536 (a.take i)*vb 65536 b) (fun st=>a.length-st.2.toNat)
   ⟨0,rfl,Nat.zero_le _,fun x hx=>by have:=List.eq_of_mem_replicate hx;subst this;exact ⟨ar _,ddc⟩,by simp,by rw[vb_zeros];simp[vb]⟩ fun st ⟨i,e,hi,h1,h2,h3⟩=>?_
  obtain ⟨out,k⟩:=st
  simp only at e h1 h2 h3
  subst e
  refine ak (fun g=>?_) (fun g=>ab ?_)
  ·have g:((i:Nat):Int)<(a.length:Int):=odt g
   have hil:i<a.length:=by omega
   have b1:=vb_bound h16 (da.take i)
   have b2:=vb_bound h16 db
   have hlt:vb 65536 out<65536^(i+b.length):=by
    rw[h3,Int.pow_add]
    rw[List.length_take,Nat.min_eq_left om]at b1
    have p1:=pow_pos' h16 i
    have p2:=pow_pos' h16 b.length
    exact Int.lt_of_le_of_lt (Int.mul_le_mul_of_nonneg_right (Int.le_of_lt b1.2) b2.1) (Int.mul_lt_mul_of_pos_left b2.2 p1)
   refine aa (inner_tot da db h1 hil om om fun j hj hk=>vb_high h1 hlt hj hk) fun r ⟨r1,r2,r3⟩=>ab ?_
   have hw:IntKind.i64.wrap ((i:Int)+1)=((i+1:Nat):Int):=by rw[i64_small om om];omega
   rw[hw]
   refine ⟨⟨i+1,rfl,hil,r1,by show r.length=_;omega,?_⟩,by show a.length-(((i+1:Nat):Int)).toNat<a.length-((i:Int)).toNat;omega⟩
   show vb 65536 r=_
   rw[r3,h3,vb_take_succ hil,Int.add_mul,Int.mul_assoc]
  ·have g:¬ ((i:Nat):Int)<(a.length:Int):=odf g
   rw[ai om]at h3
   exact ⟨h1,h2,h3⟩
 ·refine aa (rtrim_tot om) fun t ht=>ab ⟨⟨ht.db h1,ht.nz,?_⟩,?_⟩
  ·have:=ht.len;omega
  ·show vb 65536 t=_
   rw[ht.vb,h3]
end Go.Gv.RI
namespace Go.Gv.RI
open Go Go.Gv Go.Gv.D
set_option maxRecDepth 100000
end Go.Gv.RI
namespace Go.Gv.RI
open Go Go.Gv Go.Gv.D
set_option maxRecDepth 100000
/-! ### the reference's numbers: quotients and rests by small numbers, digits -/
theorem nz_ok {d:Int} (h:d≠0):nz d=some ():=by unfold nz;simp[h]
theorem HalveD_tot {a:List Int} {d:Int} (ha:Ok3 a) (la:a.length≤20000) (d1:1≤d) (d2:d≤65535):Tot (fun fuel=>ref3_Halve fuel a d) (fun r=>Ok3 r.1∧w r.1=w a/d∧r.2=w a%d∧r.1.length≤a.length):=by
 obtain ⟨da,na,_⟩:=ha
 unfold ref3_Halve
 refine ac (a:=List.replicate a.length 0) (by unfold mkC;rw[if_pos ⟨om,om,om⟩,ah]) ?_
 rw[i64_small om om]
 refine al ?_
 refine aa (P:=fun r=>Db 65536 r.1∧r.1.length=a.length∧d*vb 65536 r.1+r.2=vb 65536 a∧0≤r.2∧r.2<d) ?_ fun r ⟨h1,h2,h3,h4,h5⟩=>?_
 ·refine am (fun (st:List Int × Int × Int)=>∃ i:Nat,st.2.2=(i:Int)-1∧i≤a.length∧Db 65536 st.1∧st.1.length=a.length∧0≤st.2.1∧st.2.1<d∧(∀ j,j<i→st.1[j]? =some 0)∧d*vb 65536 st.1+65536^i*st.2.1+vb 65536 (a.take i)=vb 65536 a) (fun st=>(st.2.2+1).toNat)
   ⟨a.length,rfl,ao _,fun x hx=>by have:=List.eq_of_mem_replicate hx;subst this;exact ⟨ar _,ddc⟩,by simp,ar _,by show (0:Int)<d;omega,fun j hj=>by rw[List.getElem?_replicate];simp;omega,by rw[vb_zeros,List.take_length];simp⟩ fun st ⟨i,e,hi,h1,h2,h3,h4,h5,h6⟩=>?_
  obtain ⟨out,r,k⟩:=st
  simp only at e h1 h2 h3 h4 h5 h6
  subst e
  refine ak (fun g=>?_) (fun g=>ab ?_)
  ·have g:((i:Nat):Int)-1≥0:=odt g
   obtain ⟨m,rfl⟩:∃ m,i=m+1:=⟨i-1,om⟩
   have hk:(((m+1:Nat):Int)-1)=(m:Int):=by omega
   have hma:m<a.length:=by omega
   have hmo:m<out.length:=by omega
   have hx:=da.get hma
   have ho:out[m]=0:=by
    have:=h5 m om
    rw[List.getElem?_eq_getElem hmo]at this
    exact Option.some.inj this
   simp only[hk]
   refine ac (idx_nat hma) ?_
   rw[i64_small (x:=r*65536) om om,i64_small (x:=r*65536+a[m]) om om]
   have hm:(r*65536+a[m]).tmod d=(r*65536+a[m])%d:=ad om
   have hd:(r*65536+a[m]).tdiv d=(r*65536+a[m])/d:=ae om
   refine al (ac (a:=()) (nz_ok om) (ac (idx_nat hmo) ?_))
   have q0:0≤(r*65536+a[m])/d:=Int.ediv_nonneg om om
   have q1:(r*65536+a[m])/d<65536:=Int.ediv_lt_of_lt_mul om (by rw[Int.mul_comm];omega)
   have e0:0≤(r*65536+a[m])%d:=Int.emod_nonneg _ om
   have e1:(r*65536+a[m])%d<d:=an _ om
   rw[hd,hm,i64_small (x:=(r*65536+a[m])/d) om om]
   have hu:upd out (m:Int) ((r*65536+a[m])/d)=some (out.set m ((r*65536+a[m])/d)):=by
    unfold upd
    rw[if_pos ⟨om,om⟩,ah]
   refine ac hu (ac (a:=()) (nz_ok om) (ab ?_))
   rw[i64_small (x:=(m:Int)-1) om om]
   have he:=af (r*65536+a[m]) d
   refine ⟨⟨m,rfl,om,?_,by simp[h2],e0,e1,fun j hj=>?_,?_⟩,by show ((m:Int)-1+1).toNat<((m:Int)+1).toNat;omega⟩
   ·intro x hx2
    rcases List.mem_or_eq_of_mem_set hx2 with h | h
    ·exact h1 x h
    ·subst h;exact ⟨q0,q1⟩
   ·show (out.set m _)[j]? =_
    rw[List.getElem?_set_ne om]
    exact h5 j om
   ·show d*vb 65536 (out.set m ((r*65536+a[m])/d))+65536^m*((r*65536+a[m])%d)+vb 65536 (a.take m)=_
    rw[vb_set hmo,ho,← h6,vb_take_succ hma,aq]
    generalize (r*65536+a[m])/d=q at*
    generalize (r*65536+a[m])%d=s at*
    generalize (65536:Int)^m=Z at*
    have:=congrArg (Z* ·) he
    grind
  ·have g:¬ ((i:Nat):Int)-1≥0:=odf g
   have:i=0:=by omega
   subst this
   refine ⟨h1,h2,?_,h3,h4⟩
   simpa [vb] using h6
 ·refine aa (rtrim_tot om) fun t ht=>ab ⟨⟨ht.db h1,ht.nz,?_⟩,?_,?_,?_⟩
  ·have:=ht.len;show t.length≤100000;omega
  ·show vb 65536 t=vb 65536 a/d
   rw[ht.vb,← h3,Int.mul_add_ediv_left _ _ om,aj h4 h5,Int.add_zero]
  ·show r.2=vb 65536 a%d
   rw[← h3,Int.mul_add_emod_self_left,ap h4 h5]
  ·have:=ht.len;show t.length≤a.length;omega
end Go.Gv.RI
namespace Go.Gv.P
open Go Go.Gv Go.Gv.D Go.Gv.R Go.Lib
open Go.Gv.RI (val Dg Nz OkL OkI OkN vb Db IsB Ok3 HalveD_tot vb_big vb_bound vb_mono h16)
set_option maxRecDepth 100000
/-! ### digits and texts of the reference's numbers -/
theorem dl_step {B V:Int} (hB:1<B) (hV:0<V):dl B V=V%B::dl B (V/B):=by
 have hq:0≤V/B:=Int.ediv_nonneg om om
 obtain ⟨h1,h2,h3⟩:=dl_ok hB hq
 have e0:=Int.emod_nonneg V (show B≠0 by omega)
 have e1:=an V (show 0<B by omega)
 have e2:=af V B
 refine (dl_eq hB om ?_ ?_ ?_).symm
 ·intro x hx
  rcases List.mem_cons.1 hx with e | h
  ·subst e;exact ⟨e0,e1⟩
  ·exact h1 x h
 ·show V%B+B*vb B (dl B (V/B))=V
  rw[h2];exact e2
 ·cases hd:dl B (V/B) with
  | nil=>
    have h0:V/B=0:=(dl_nil hB hq).1 hd
    rw[h0]at e2
    simp only[Int.mul_zero,Int.add_zero]at e2
    right
    simp only[List.getLast?_singleton]
    intro e
    have:=Option.some.inj e
    omega
  | cons y l=>
    right
    rcases h3 with h | h
    ·rw[h]at hd;cases hd
    ·rw[hd]at h;rwa [List.getLast?_cons_cons]
theorem dl_len {B V:Int} (hB:1<B) (hV:0≤V) {n:Nat} (h:V<2^n):(dl B V).length≤n:=by
 obtain ⟨h1,h2,h3⟩:=dl_ok hB hV
 rcases Nat.lt_or_ge n (dl B V).length with hn | hn
 ·exfalso
  have h4:=vb_big hB h1 h3 (fun e=>by rw[e]at hn;simp at hn)
  rw[h2]at h4
  have h5:(2:Int)^n≤B^n:=RI.pow_le_left ddc om n
  have h6:B^n≤B^((dl B V).length-1):=vb_mono hB om
  omega
 ·exact hn
theorem w_lt {a:List Int} (ha:Ok3 a):0≤vb 65536 a∧vb 65536 a<2^(16*a.length):=by
 have:=vb_bound h16 ha.1
 refine ⟨this.1,?_⟩
 rw[Int.pow_mul]
 exact this.2
theorem nil_of_w {a:List Int} (ha:Ok3 a):(0<a.length↔0<vb 65536 a):=RI.pos_of ha
theorem rev_tot (l:List Int) (hl:l.length≤1000000):Tot (fun fuel=>loopN (fun (s79:((List Int) × Int))=>(if (decide (s79.2≥0)) then (Option.bind (idx l s79.2) fun x91=>(Option.bind (app s79.1 ([x91]:List Int)) fun l104=>(some (.inl (l104,(IntKind.i64.wrap (s79.2-1))))))) else (some (.inr (s79.1))))) fuel (([]:List Int),(IntKind.i64.wrap (((List.length l:Nat):Int)-1)))) (· =l.reverse):=by
 rw[RI.i64_small om om]
 refine am (fun (st:List Int × Int)=>∃ i:Nat,st.2=(i:Int)-1∧i≤l.length∧st.1=(l.drop i).reverse) (fun st=>(st.2+1).toNat) ⟨l.length,rfl,ao _,by simp⟩ fun st ⟨i,e,hi,h1⟩=>?_
 obtain ⟨out,k⟩:=st
 simp only at e h1
 subst e;subst h1
 refine ak (fun g=>?_) (fun g=>ab ?_)
 ·have g:((i:Nat):Int)-1≥0:=odt g
  obtain ⟨m,rfl⟩:∃ m,i=m+1:=⟨i-1,om⟩
  have hk:(((m+1:Nat):Int)-1)=(m:Int):=by omega
  have hm:m<l.length:=by omega
  simp only[hk]
  refine ac (RI.idx_nat hm) (ac (app_ok oss) (ab ?_))
  rw[RI.i64_small om om]
  refine ⟨⟨m,rfl,om,?_⟩,osm⟩
  show (l.drop (m+1)).reverse++[l[m]]=(l.drop m).reverse
  rw[ag hm,List.reverse_cons]
 ·have g:¬ ((i:Nat):Int)-1≥0:=odf g
  have:i=0:=by omega
  subst this
  simp
theorem Figures_tot {a:List Int} {B:Int} (ha:Ok3 a) (la:a.length≤20000) (hB:IsB B):Tot (fun fuel=>ref3_Figures fuel a B) (· =(dl B (vb 65536 a)).reverse):=by
 unfold ref3_Figures
 have hb:=w_lt ha
 have hlen:(dl B (vb 65536 a)).length≤320000:=by
  have:=dl_len hB.one hb.1 hb.2
  omega
 refine aa (P:=(· =dl B (vb 65536 a))) ?_ fun j hj=>?_
 ·refine am (fun (st:List Int × List Int)=>Ok3 st.1∧st.1.length≤a.length∧st.2++dl B (vb 65536 st.1)=dl B (vb 65536 a)) (fun st=>(vb 65536 st.1).toNat) ⟨ha,ao _,rfl⟩ fun st ⟨h1,h2,h3⟩=>?_
  obtain ⟨x,back⟩:=st
  simp only at h1 h2 h3
  refine ak (fun h=>?_) (fun h=>ab ?_)
  ·have h:0<x.length:=by have:((x.length:Nat):Int)>0:=odt h;omega
   have hp:=(nil_of_w h1).1 h
   have hB2:=hB.le
   have hB1:=hB.one
   refine aa (HalveD_tot (d:=B) h1 om om om) fun r ⟨r1,r2,r3,r4⟩=>?_
   replace r2:vb 65536 r.1=vb 65536 x/B:=r2
   replace r3:r.2=vb 65536 x%B:=r3
   rw[dl_step hB1 hp]at h3
   have hbl:back.length≤320000:=by
    have:=congrArg List.length h3
    simp at this;omega
   refine ac (app_ok oss) (ab ⟨⟨r1,osm,?_⟩,?_⟩)
   ·show (back++[r.2])++dl B (vb 65536 r.1)=_
    rw[r3,r2,← h3]
    simp
   ·show (vb 65536 r.1).toNat<(vb 65536 x).toNat
    rw[r2]
    have:vb 65536 x/B<vb 65536 x:=Int.ediv_lt_self_of_pos_of_ne_one hp om
    omega
  ·have h:¬ ((x.length:Nat):Int)>0:=odf h
   have:x=[]:=List.eq_nil_of_length_eq_zero om
   subst this
   have:dl B (vb 65536 [])=[]:=by show dl B 0=[];exact (dl_nil hB.one (ar _)).2 rfl
   rw[this]at h3
   simpa using h3
 ·subst hj
  refine al (aa (rev_tot _ om) fun r hr=>ab hr)
/-- how the reference writes a number -/
def tx (neg:Bool) (B V:Int):List UInt8:=if V=0 then [48] else (if neg then [45] else [])++wn B V
theorem TextOf_tot {a:List Int} {B:Int} {neg:Bool} (ha:Ok3 a) (la:a.length≤20000) (hB:IsB B):Tot (fun fuel=>ref3_TextOf fuel (neg,a) B) (· =strOf (tx neg B (vb 65536 a))):=by
 unfold ref3_TextOf
 refine aa (Figures_tot ha la hB) fun r hr=>?_
 have hb:=w_lt ha
 have hlen:(dl B (vb 65536 a)).length≤320000:=by
  have:=dl_len hB.one hb.1 hb.2
  omega
 generalize hD:(dl B (vb 65536 a)).reverse=D at hr
 subst hr
 have hDl:r.length≤320000:=by rw[← hD];simpa using hlen
 have hdb:Db B r:=by rw[← hD];exact fun x hx=>(dl_ok hB.one hb.1).1 x (List.mem_reverse.1 hx)
 refine ak (fun h=>ab ?_) (fun h=>?_)
 ·have h:r=[]:=by
   have:((r.length:Nat):Int)=0:=by simpa using h
   exact List.eq_nil_of_length_eq_zero om
  have h0:vb 65536 a=0:=(dl_nil hB.one hb.1).1 (by simpa [h] using hD)
  unfold tx;rw[if_pos h0]
 ·have h0:¬ vb 65536 a=0:=fun e=>by
   have:=(dl_nil hB.one hb.1).2 e
   rw[this]at hD
   subst hD
   simp at h
  unfold tx wn
  rw[if_neg h0,if_neg h0,hD]
  refine aa (P:=(· =strOf (if neg then [45] else []))) (by cases neg<;>exact ab rfl) fun j hj=>?_
  subst hj
  have hsg:(if neg=true then [45] else ([]:List UInt8)).length≤1:=by split<;>simp
  generalize (if neg=true then [45] else ([]:List UInt8))=sg at hsg
  refine ac (a:=sg) (by unfold bl;rw[if_pos (by rw[size_str];omega),bytes_str]) ?_
  refine aa (P:=(· =sg++r.map dch)) ?_ fun j hj=>by subst hj;exact ab rfl
  refine am (fun (st:List UInt8 × Int)=>∃ i:Nat,st.2=(i:Int)∧i≤r.length∧st.1=sg++(r.take i).map dch) (fun st=>r.length-st.2.toNat) ⟨0,rfl,om,by simp⟩ fun st ⟨i,e,hi,e2⟩=>?_
  obtain ⟨out,k⟩:=st
  simp only at e e2
  subst e;subst e2
  refine ak (fun h=>?_) (fun h=>?_)
  ·have h:i<r.length:=by have:(i:Int)<(r.length:Int):=odt h;omega
   have hd:=hdb _ (List.getElem_mem h)
   refine ac (RI.idx_nat h) (ac (dch_sidx hB hd) (ac (a:=dch r[i]) ?_ (ac (app_ok oss) (ab ?_))))
   ·have:=(dch r[i]).toNat_lt
    rw[u8_cast om];simp
   ·rw[iw (n:=i+1) om om]
    refine ⟨⟨i+1,rfl,om,?_⟩,osm⟩
    rw[List.take_succ_eq_append_getElem h,List.map_append]
    simp
  ·have h:i=r.length:=by have:¬ (i:Int)<(r.length:Int):=odf h;omega
   subst h
   exact ab (by simp)
end Go.Gv.P
namespace Go.Gv.P
open Go Go.Gv Go.Gv.D Go.Gv.R Go.Lib
open Go.Gv.RI (val Dg Nz OkL OkI OkN vb Db IsB Ok3 HalveD_tot vb_big vb_bound vb_mono h16 vbits b2 Trim)
set_option maxRecDepth 100000
/-! ### powers, doubles, quotients of the reference's numbers -/
theorem Small_tot {n:Int} (h0:0≤n) (h1:n<65536):Tot (fun fuel=>ref3_Small fuel n) (fun r=>Ok3 r∧vb 65536 r=n∧r.length≤1):=by
 unfold ref3_Small
 refine aa (P:=fun r=>Ok3 r∧vb 65536 r=n∧r.length≤1) ?_ fun r hr=>ab hr
 refine am (fun (st:Int × List Int)=>(st=(n,[])∨(n≠0∧st=(0,[n])))) (fun st=>st.1.toNat) (.inl rfl) fun st hst=>?_
 rcases hst with e | ⟨hn,e⟩<;>subst e
 ·refine ak (fun h=>?_) (fun h=>ab ?_)
  ·have h:n>0:=odt h
   refine ac (app_ok (by simp)) (ab ?_)
   rw[ad h0,ae h0,ap h0 h1,aj h0 h1]
   exact ⟨.inr ⟨om,rfl⟩,by show (0:Int).toNat<n.toNat;omega⟩
  ·have h:¬ n>0:=odf h
   have:n=0:=by omega
   subst this
   exact ⟨RI.Ok3.nil,rfl,by simp⟩
 ·refine Tot.if_ rfl (ab ⟨⟨RI.Db.one ⟨h0,h1⟩,.inr ?_,by simp⟩,by simp[vb],by simp⟩)
  simp only[List.getLast?_singleton]
  intro e
  exact hn (Option.some.inj e)
theorem len16 {a:List Int} (ha:Ok3 a) {k:Nat} (h:vb 65536 a<65536^k):a.length≤k:=by
 rcases Nat.lt_or_ge k a.length with hk | hk
 ·exfalso
  have h1:=vb_big h16 ha.1 ha.2.1 (fun e=>by rw[e]at hk;simp at hk)
  have h2:(65536:Int)^k≤65536^(a.length-1):=vb_mono h16 om
  omega
 ·exact hk
theorem ten16 (n:Nat):(10:Int)^n<65536^(n+1):=by
 have h1:(10:Int)^n≤65536^n:=RI.pow_le_left ddc ddc n
 have h2:(65536:Int)^n<65536^(n+1):=by
  rw[aq]
  have:(0:Int)<65536^n:=Int.pow_pos ddc
  omega
 omega
theorem Ten_tot {n:Nat} (hn:n≤5000):Tot (fun fuel=>ref3_Ten fuel (n:Int)) (fun r=>Ok3 r∧vb 65536 r=10^n∧r.length≤n+1):=by
 unfold ref3_Ten
 have fin:∀ {r:List Int} {m:Nat},Ok3 r→vb 65536 r=10^m→m≤n→r.length≤n+1:=fun {r m} h1 h2 h3=>by
  have:=len16 h1 (k:=m+1) (by rw[h2];exact ten16 m)
  omega
 refine aa (Small_tot (n:=1) ddc ddc) fun r ⟨r1,r2,r3⟩=>?_
 refine aa (P:=fun j=>∃ m:Nat,j.1=(m:Int)∧m≤3∧m≤n∧Ok3 j.2∧vb 65536 j.2=10^(n-m)) ?_ fun j ⟨m,e,hm,hmn,j1,j2⟩=>?_
 ·refine am (fun (st:Int × List Int)=>∃ m:Nat,st.1=(m:Int)∧m≤n∧Ok3 st.2∧vb 65536 st.2=10^(n-m)) (fun st=>st.1.toNat) ⟨n,rfl,ao _,r1,by rw[r2];simp⟩ fun st ⟨m,e,hm,h1,h2⟩=>?_
  obtain ⟨k,x⟩:=st
  simp only at e h1 h2
  subst e
  refine ak (fun h=>?_) (fun h=>ab ?_)
  ·have h:(m:Int)≥4:=odt h
   refine aa (Small_tot (n:=10000) ddc ddc) fun t ⟨t1,t2,t3⟩=>?_
   have hx:=fin h1 h2 om
   refine aa (RI.Times_tot (a:=x) h1 t1 om om) fun p ⟨p1,p2⟩=>ab ?_
   rw[RI.i64_small om om]
   refine ⟨⟨m-4,osm,om,p1,?_⟩,osm⟩
   show vb 65536 p=_
   rw[show vb 65536 p=vb 65536 x*vb 65536 t from p2,h2,t2,show n-(m-4)=(n-m)+4 by omega,Int.pow_add]
   rfl
  ·have h:¬ (m:Int)≥4:=odf h
   exact ⟨m,rfl,om,hm,h1,h2⟩
 ·obtain ⟨k,x⟩:=j
  simp only at e j1 j2
  subst e
  refine aa (P:=fun r=>Ok3 r∧vb 65536 r=10^n) ?_ fun r ⟨h1,h2⟩=>ab ⟨h1,h2,fin h1 h2 (ao _)⟩
  refine am (fun (st:Int × List Int)=>∃ m:Nat,st.1=(m:Int)∧m≤n∧Ok3 st.2∧vb 65536 st.2=10^(n-m)) (fun st=>st.1.toNat) ⟨m,rfl,hmn,j1,j2⟩ fun st ⟨m,e,hm,h1,h2⟩=>?_
  obtain ⟨k,x⟩:=st
  simp only at e h1 h2
  subst e
  refine ak (fun h=>?_) (fun h=>ab ?_)
  ·have h:(m:Int)>0:=odt h
   refine aa (Small_tot (n:=10) ddc ddc) fun t ⟨t1,t2,t3⟩=>?_
   have hx:=fin h1 h2 om
   refine aa (RI.Times_tot (a:=x) h1 t1 om om) fun p ⟨p1,p2⟩=>ab ?_
   rw[RI.i64_small om om]
   refine ⟨⟨m-1,osm,om,p1,?_⟩,osm⟩
   show vb 65536 p=_
   rw[show vb 65536 p=vb 65536 x*vb 65536 t from p2,h2,t2,show n-(m-1)=(n-m)+1 by omega,Int.pow_add]
   rfl
  ·have h:¬ (m:Int)>0:=odf h
   have:m=0:=by omega
   subst this
   exact ⟨h1,h2⟩
theorem Double_tot {a:List Int} (one:Bool) (ha:Ok3 a) (la:a.length≤50000):Tot (fun fuel=>ref3_Double fuel a one) (fun r=>Ok3 r∧vb 65536 r=2*vb 65536 a+b2 one∧r.length≤a.length+1):=by
 obtain ⟨da,na,_⟩:=ha
 unfold ref3_Double
 refine aa (P:=(· =b2 one)) (by cases one<;>exact ab rfl) fun c hc=>?_
 subst hc
 have hb:0≤b2 one∧b2 one≤1:=by cases one<;>decide
 refine aa (P:=fun j=>0≤j.1∧j.1≤1∧Db 65536 j.2∧j.2.length=a.length∧vb 65536 j.2+65536^a.length*j.1=2*vb 65536 a+b2 one) ?_ fun j ⟨j0,j1,j2,j3,j4⟩=>?_
 ·refine am (fun (st:Int × List Int × Int)=>∃ i:Nat,st.2.2=(i:Int)∧i≤a.length∧0≤st.1∧st.1≤1∧Db 65536 st.2.1∧st.2.1.length=i∧vb 65536 st.2.1+65536^i*st.1=2*vb 65536 (a.take i)+b2 one) (fun st=>a.length-st.2.2.toNat)
   ⟨0,rfl,om,hb.1,hb.2,RI.Db.nil,rfl,by simp[vb]⟩ fun st ⟨i,e,hi,h0,h1,h2,h3,h4⟩=>?_
  obtain ⟨c,out,k⟩:=st
  simp only at e h0 h1 h2 h3 h4
  subst e
  refine ak (fun h=>?_) (fun h=>ab ?_)
  ·have h:i<a.length:=by have:((i:Nat):Int)<(a.length:Int):=odt h;omega
   have hx:=da.get h
   refine ac (RI.idx_nat h) ?_
   rw[RI.i64_small (x:=2*a[i]) om om,RI.i64_small (x:=2*a[i]+c) om om]
   refine al (ac (app_ok oss) (ab ?_))
   rw[ad om,ae om,RI.i64_small om om,RI.i64_small om om]
   refine ⟨⟨i+1,rfl,om,osm,osm,h2.append (RI.Db.one om),by simp[h3],?_⟩,osm⟩
   show vb 65536 (out++[(2*a[i]+c)%65536])+65536^(i+1)*((2*a[i]+c)/65536)=_
   rw[RI.vb_snoc,RI.vb_take_succ h,h3,aq]
   have:=af (2*a[i]+c) 65536
   generalize (65536:Int)^i=Z at*
   grind
  ·have h:¬ ((i:Nat):Int)<(a.length:Int):=odf h
   have:i=a.length:=by omega
   subst this
   rw[List.take_length]at h4
   exact ⟨h0,h1,h2,h3,h4⟩
 ·obtain ⟨c,out⟩:=j
  simp only at j0 j1 j2 j3 j4
  refine aa (P:=fun q=>Db 65536 q∧q.length≤a.length+1∧vb 65536 q=2*vb 65536 a+b2 one) ?_ fun q ⟨q1,q2,q3⟩=>?_
  ·refine ak (fun h=>?_) (fun h=>ab ?_)
   ·refine ac (app_ok oss) (ab ⟨j2.append (RI.Db.one osm),by simp[j3],?_⟩)
    show vb 65536 (out++[c])=_
    rw[RI.vb_snoc,j3,j4]
   ·have h:¬ c>0:=odf h
    have:c=0:=by omega
    subst this
    exact ⟨j2,osm,by simpa using j4⟩
  ·refine aa (RI.rtrim_tot om) fun t ht=>ab ⟨⟨ht.db q1,ht.nz,?_⟩,?_,?_⟩
   ·have:=ht.len;omega
   ·rw[ht.vb];exact q3
   ·have:=ht.len;omega
end Go.Gv.P
namespace Go.Gv.P
open Go Go.Gv Go.Gv.D Go.Gv.R Go.Lib
open Go.Gv.RI (val Dg Nz OkL OkI OkN vb Db IsB Ok3 HalveD_tot vb_big vb_bound vb_mono h16 vbits b2 Trim)
set_option maxRecDepth 100000
/-! ### quotients of the reference's numbers, bit by bit -/
theorem vbits_cons (x:Bool) (l:List Bool):vbits (x::l)=b2 x+2*vbits l:=rfl
theorem b2_le (x:Bool):0≤b2 x∧b2 x≤1:=by cases x<;>decide
theorem div_bit {h b x:Int} (hb:0<b) (hx:0≤x∧x≤1) (hh:0≤h):
 (b≤2*(h%b)+x→(2*h+x)/b=2*(h/b)+1∧(2*h+x)%b=2*(h%b)+x-b)∧
 (¬ b≤2*(h%b)+x→(2*h+x)/b=2*(h/b)∧(2*h+x)%b=2*(h%b)+x):=by
 have e:=af h b
 have e0:=Int.emod_nonneg h (show b≠0 by omega)
 have e1:=an h hb
 generalize h%b=r at*
 generalize h/b=q at*
 subst e
 constructor
 ·intro hc
  have:2*(r+b*q)+x=(2*r+x-b)+b*(2*q+1):=by grind
  rw[this,Int.add_mul_ediv_left _ _ om,Int.add_mul_emod_self_left,aj om om,ap om om]
  exact ⟨om,rfl⟩
 ·intro hc
  have:2*(r+b*q)+x=(2*r+x)+b*(2*q):=by grind
  rw[this,Int.add_mul_ediv_left _ _ om,Int.add_mul_emod_self_left,aj om om,ap om om]
  exact ⟨om,rfl⟩
theorem len_lt_of {a b:List Int} (ha:Ok3 a) (hb:Ok3 b) (h:vb 65536 a<vb 65536 b):a.length≤b.length:=by
 rcases Nat.lt_or_ge b.length a.length with hk | hk
 ·have:=RI.vb_longer h16 hb.1 ha.1 ha.2.1 hk
  omega
 ·exact hk
theorem Divide_tot {a b:List Int} (ha:Ok3 a) (hb:Ok3 b) (la:a.length≤20000) (lb:b.length≤20000) (hb0:0<vb 65536 b):
 Tot (fun fuel=>ref3_Divide fuel a b) (fun r=>Ok3 r.1∧Ok3 r.2∧vb 65536 r.1=vb 65536 a/vb 65536 b∧vb 65536 r.2=vb 65536 a%vb 65536 b):=by
 unfold ref3_Divide
 refine aa (RI.Ones_tot ha) fun o ⟨o1,_,o3⟩=>?_
 have lo:o.length≤320000:=by omega
 refine ac (a:=List.replicate o.length false) (by unfold mkC;rw[if_pos ⟨om,om,om⟩,ah]) ?_
 rw[RI.i64_small om om]
 refine al ?_
 refine aa (P:=fun r=>r.1.length=o.length∧Ok3 r.2∧vbits r.1=vb 65536 a/vb 65536 b∧vb 65536 r.2=vb 65536 a%vb 65536 b) ?_ fun r ⟨h1,h2,h3,h4⟩=>?_
 ·refine am (fun (st:List Bool × List Int × Int)=>∃ i:Nat,st.2.2=(i:Int)-1∧i≤o.length∧st.1.length=o.length∧Ok3 st.2.1∧(∀ j,j<i→st.1[j]? =some false)∧vbits (st.1.drop i)=vbits (o.drop i)/vb 65536 b∧vb 65536 st.2.1=vbits (o.drop i)%vb 65536 b) (fun st=>(st.2.2+1).toNat)
   ⟨o.length,rfl,ao _,by simp,RI.Ok3.nil,fun j hj=>by rw[List.getElem?_replicate];simp;omega,by simp[vbits,vb],by simp[vbits,vb]⟩ fun st ⟨i,e,hi,h1,h2,h5,h3,h4⟩=>?_
  obtain ⟨q,rs,k⟩:=st
  simp only at e h1 h2 h3 h4 h5
  subst e
  refine ak (fun g=>?_) (fun g=>ab ?_)
  ·have g:((i:Nat):Int)-1≥0:=odt g
   obtain ⟨m,rfl⟩:∃ m,i=m+1:=⟨i-1,om⟩
   have hk:(((m+1:Nat):Int)-1)=(m:Int):=by omega
   have hm:m<o.length:=by omega
   have hmq:m<q.length:=by omega
   have hq:q[m]=false:=by
    have:=h5 m om
    rw[List.getElem?_eq_getElem hmq]at this
    exact Option.some.inj this
   have hrl:rs.length≤b.length:=len_lt_of h2 hb (by rw[h4];exact an _ hb0)
   simp only[hk]
   refine ac (RI.idx_nat hm) ?_
   refine aa (Double_tot o[m] h2 om) fun d ⟨d1,d2,d3⟩=>?_
   refine aa (RI.Compare_tot d1 hb) fun c ⟨c1,c2⟩=>?_
   have hho:vbits (o.drop m)=2*vbits (o.drop (m+1))+b2 o[m]:=by rw[ag hm,vbits_cons];omega
   have hh0:0≤vbits (o.drop (m+1)):=(RI.vbits_bound _).1
   obtain ⟨z1,z2⟩:=div_bit (h:=vbits (o.drop (m+1))) hb0 (b2_le o[m]) hh0
   rw[← hho,← h4,← h3]at z1 z2
   replace c1:c<0↔vb 65536 d<vb 65536 b:=c1
   rw[d2]at c1
   refine aa (P:=fun j=>j.1.length=o.length∧Ok3 j.2∧(∀ x,x<m→j.1[x]? =some false)∧vbits (j.1.drop m)=vbits (o.drop m)/vb 65536 b∧vb 65536 j.2=vbits (o.drop m)%vb 65536 b) ?_ fun j ⟨j1,j2,j5,j3,j4⟩=>?_
   ·refine ak (fun h=>?_) (fun h=>ab ?_)
    ·have h:c≥0:=odt h
     have hle:vb 65536 b≤2*vb 65536 rs+b2 o[m]:=by omega
     obtain ⟨y1,y2⟩:=z1 hle
     refine aa (RI.Minus3_tot d1 hb (by show vb 65536 b≤vb 65536 d;rw[d2];exact hle)) fun t ⟨t1,t2⟩=>?_
     replace t2:vb 65536 t=vb 65536 d-vb 65536 b:=t2
     refine ac (RI.idx_nat hmq) ?_
     have hu:upd q (m:Int) true=some (q.set m true):=by
      unfold upd
      rw[if_pos ⟨om,om⟩,ah]
     refine ac hu (ab ⟨by simp[h1],t1,fun x hx=>?_,?_,?_⟩)
     ·show (q.set m true)[x]? =_
      rw[List.getElem?_set_ne om]
      exact h5 x om
     ·show vbits ((q.set m true).drop m)=_
      rw[y1,ag oss,vbits_cons,List.getElem_set_self,List.drop_set_of_lt om]
      show 1+_=_
      omega
     ·show vb 65536 t=_
      rw[t2,d2,y2]
    ·have h:¬ c≥0:=odf h
     obtain ⟨y1,y2⟩:=z2 om
     refine ⟨h1,d1,fun x hx=>h5 x om,?_,?_⟩
     ·show vbits (q.drop m)=_
      rw[y1,ag hmq,vbits_cons,hq]
      show 0+_=_
      omega
     ·show vb 65536 d=_
      rw[d2,y2]
   ·obtain ⟨q',r'⟩:=j
    simp only at j1 j2 j3 j4 j5
    refine ab ?_
    rw[RI.i64_small om om]
    exact ⟨⟨m,rfl,om,j1,j2,j5,j3,j4⟩,osm⟩
  ·have g:¬ ((i:Nat):Int)-1≥0:=odf g
   have:i=0:=by omega
   subst this
   rw[List.drop_zero,List.drop_zero,o1]at h3
   rw[List.drop_zero,o1]at h4
   exact ⟨h1,h2,h3,h4⟩
 ·refine aa (RI.Binary_tot om) fun t ⟨t1,t2⟩=>ab ⟨t1,h2,?_,h4⟩
  show vb 65536 t=_
  rw[show vb 65536 t=vbits r.1 from t2,h3]
end Go.Gv.P
