import Derived.Test.YtbiopeiafkldiaaGreatDoorNA
import Derived.Test.YtbiopeiafkldiaaGreatDoorV1
set_option linter.all false
namespace Go.Gv.P
open Go.Gv.Tot renaming bindq→aa,ret→ab,bind0→ad,if_→ah,it→aj
open Int renaming mul_le_mul_of_nonneg_right→ac,toNat_natCast→af,le_of_lt→ag,pow_add→ai
open List renaming length_append→ae
open Go Go.Gv Go.Gv.D Go.Gv.R Go.Lib
open Go.Gv.RI (val Dg Nz OkL OkI OkN vb Db IsB Ok3 HalveD_tot vb_big vb_bound vb_mono h16 vbits b2 Trim val_bound iv3)
set_option maxRecDepth 100000
/-! ### numbers read from their digits -/
/-- the value of digits, the first one the greatest -/
def hv (l:List Int):Int:=l.foldl (fun a x=>a*10+x) 0
theorem hv_snoc (l:List Int) (x:Int):hv (l++[x])=hv l*10+x:=by unfold hv;rw[List.foldl_append];rfl
theorem hv_rev:∀ (l:List Int),hv l.reverse=vb 10 l
 | []=>rfl
 | x::l=>by
   rw[List.reverse_cons,hv_snoc,hv_rev l]
   show vb 10 l*10+x=x+10*vb 10 l
   omega
theorem hv_zeros (k:Nat) (l:List Int):hv (List.replicate k 0++l)=hv l:=by
 unfold hv
 rw[List.foldl_append]
 congr 1
 induction k with
 | zero=>rfl
 | succ k ih=>rw[List.replicate_succ,List.foldl_cons];exact ih
theorem hv_bound:∀ (n:Nat) (l:List Int),l.length=n→Db 10 l→0≤hv l∧hv l<10^n
 | 0,l,h,_=>by
   have:l=[]:=List.eq_nil_of_length_eq_zero h
   subst this
   exact ⟨Int.le_refl _,ddc⟩
 | n+1,l,h,hd=>by
   obtain ⟨a,x,rfl⟩:∃ a x,l=a++[x]:=⟨l.dropLast,l.getLast (fun e=>by rw[e]at h;simp at h),(List.dropLast_concat_getLast _).symm⟩
   have ih:=hv_bound n a (by simpa using h) hd.left
   have hx:=hd x (by simp)
   rw[hv_snoc,Int.pow_succ]
   omega
theorem Read_tot {l:List Int} (hl:l.length≤4000) (hd:Db 10 l):Tot (fun fuel=>ref3_Read fuel l 10) (fun r=>Ok3 r∧vb 65536 r=hv l∧r.length≤l.length+1):=by
 unfold ref3_Read
 have fin:∀ {r:List Int} {i:Nat},i≤l.length→Ok3 r→vb 65536 r=hv (l.take i)→r.length≤i+1:=fun {r i} hi h1 h2=>by
  refine len16 h1 ?_
  rw[h2]
  have:=(hv_bound i (l.take i) oss (hd.take i)).2
  have:=ten16 i
  omega
 refine aa (P:=fun r=>Ok3 r∧vb 65536 r=hv l) ?_ fun r ⟨h1,h2⟩=>ab ⟨h1,h2,by have:=fin (Nat.le_refl _) h1 (by rw[List.take_length];exact h2);omega⟩
 refine Tot.loop (fun (st:List Int × Int)=>∃ i:Nat,st.2=(i:Int)∧i≤l.length∧Ok3 st.1∧vb 65536 st.1=hv (l.take i)) (fun st=>l.length-st.2.toNat) ⟨0,rfl,om,RI.Ok3.nil,rfl⟩ fun st ⟨i,e,hi,h1,h2⟩=>?_
 obtain ⟨o,k⟩:=st
 simp only at e h1 h2
 subst e
 refine Tot.ite (fun h=>?_) (fun h=>ab ?_)
 ·have h:i<l.length:=by have:(i:Int)<(l.length:Int):=odt h;omega
  have hx:=hd.get h
  have ho:=fin hi h1 h2
  refine ad (RI.idx_nat h) ?_
  refine aa (Small_tot (n:=10) ddc ddc) fun t ⟨t1,t2,t3⟩=>?_
  refine aa (TimesL_tot (a:=o) h1 t1 om om) fun p ⟨p1,p2,p3⟩=>?_
  refine aa (Small_tot (n:=l[i]) hx.1 om) fun u ⟨u1,u2,u3⟩=>?_
  refine aa (RI.Plus3_tot p1 u1 om om) fun q ⟨q1,q2⟩=>ab ?_
  replace q2:vb 65536 q=vb 65536 p+vb 65536 u:=q2
  have hw:IntKind.i64.wrap ((i:Int)+1)=((i+1:Nat):Int):=iw om om
  simp only[hw]
  refine ⟨⟨i+1,rfl,om,q1,?_⟩,om⟩
  rw[q2,p2,t2,u2,h2,List.take_succ_eq_append_getElem h,hv_snoc]
 ·have h:i=l.length:=by have:¬ (i:Int)<(l.length:Int):=odf h;omega
  subst h
  rw[List.take_length]at h2
  exact ⟨h1,h2⟩
/-- digits as numbers -/
def dgs (Z:List UInt8):List Int:=Z.map fun b=>(b.toNat:Int)-48
def AllD (Z:List UInt8):Prop:=∀ b∈Z,48≤b.toNat∧b.toNat≤57
theorem dgs_db {Z:List UInt8} (h:AllD Z):Db 10 (dgs Z):=fun x hx=>by
 obtain ⟨b,hb,rfl⟩:=List.mem_map.1 hx
 have:=h b hb
 omega
theorem dch10:(List.range 10).all (fun n=>decide ((dch (n:Int)).toNat=48+n))=true:=by decide
theorem dch_nat {d:Int} (h:0≤d∧d<10):((dch d).toNat:Int)=48+d:=by
 have:=odt (List.all_eq_true.1 dch10 d.toNat (List.mem_range.2 om))
 rw[show ((d.toNat:Nat):Int)=d by omega]at this
 omega
theorem wn_dgs {N:Int} (h:0≤N):AllD (wn 10 N)∧hv (dgs (wn 10 N))=N:=by
 unfold wn
 obtain ⟨d1,d2,d3⟩:=dl_ok (B:=10) ddc h
 split
 ·rename_i h0
  subst h0
  exact ⟨fun b hb=>by simp at hb;subst hb;decide,rfl⟩
 ·refine ⟨fun b hb=>?_,?_⟩
  ·obtain ⟨d,hd,rfl⟩:=List.mem_map.1 hb
   have:=d1 d (List.mem_reverse.1 hd)
   have:=dch_nat this
   omega
  ·have:dgs ((dl 10 N).reverse.map dch)=(dl 10 N).reverse:=by
    unfold dgs
    rw[List.map_map]
    refine (List.map_congr_left fun d hd=>?_).trans (List.map_id _)
    have:=dch_nat (d1 d (List.mem_reverse.1 hd))
    show ((dch d).toNat:Int)-48=id d
    unfold id
    omega
   rw[this,hv_rev,d2]
theorem padZ_dgs {N:Int} (h:0≤N) (pl:Nat):AllD (padZ pl (wn 10 N))∧hv (dgs (padZ pl (wn 10 N)))=N:=by
 obtain ⟨h1,h2⟩:=wn_dgs h
 unfold padZ
 refine ⟨fun b hb=>?_,?_⟩
 ·rcases List.mem_append.1 hb with hb | hb
  ·rw[List.eq_of_mem_replicate hb];decide
  ·exact h1 b hb
 ·unfold dgs at h2 ⊢
  rw[List.map_append,List.map_replicate]
  show hv (List.replicate _ 0++_)=N
  rw[hv_zeros,h2]
theorem sgnN (neg:Bool):sgnS neg 0=if neg=true then [45] else []:=by unfold sgnS;cases neg<;>rfl
/-- the digits of a fixed form are read again -/
theorem units_tot {neg:Bool} {N:Int} (hN:0≤N) {pl:Nat} (hp:pl≤500) (hl:(wn 10 N).length≤3000):
 Tot (fun fuel=>law4_units fuel (strOf (sgnS neg 0++pnt N pl 0)) (pl:Int)) (fun r=>r.2=true∧Ok3 r.1.2∧iv3 r.1=(if neg=true then-N else N)∧vb 65536 r.1.2=N):=by
 unfold law4_units
 rw[sgnN]
 obtain ⟨z1,z2⟩:=padZ_dgs hN pl
 have hzl:(padZ pl (wn 10 N)).length=max (pl+1) (wn 10 N).length:=by unfold padZ;simp;omega
 unfold pnt
 generalize padZ pl (wn 10 N)=Z at z1 z2 hzl ⊢
 have hg:grp 0 3 (Z.take (Z.length-pl))=Z.take (Z.length-pl):=by unfold grp;rw[if_pos rfl]
 rw[hg]
 have hP1:1≤(Z.take (Z.length-pl)).length:=by rw[List.length_take];omega
 have hP1e:(Z.take (Z.length-pl)).length=Z.length-pl:=by rw[List.length_take];omega
 have hB0:∃ c r,point pl Z (Z.take (Z.length-pl))=c::r∧48≤c.toNat∧c.toNat≤57:=by
  cases hz:Z.take (Z.length-pl) with
  | nil=>rw[hz]at hP1;simp at hP1
  | cons c r=>
    have hc:=z1 c (List.mem_of_mem_take (by rw[hz];exact List.mem_cons_self ..))
    unfold point
    split
    ·exact ⟨c,_,rfl,hc⟩
    ·exact ⟨c,_,rfl,hc⟩
 have hBl:(point pl Z (Z.take (Z.length-pl))).length=Z.length+(if 0<pl then 1 else 0):=by
  unfold point
  split
  ·rw[ae,List.length_cons,List.length_drop,hP1e];omega
  ·rw[hP1e];omega
 have hat:∀ i (h:i<(point pl Z (Z.take (Z.length-pl))).length),(i<Z.length-pl→∃ h2:i<Z.length,(point pl Z (Z.take (Z.length-pl)))[i]=Z[i])∧
  (0<pl→i=Z.length-pl→(point pl Z (Z.take (Z.length-pl)))[i]=46)∧(0<pl→Z.length-pl<i→∃ h2:i-1<Z.length,(point pl Z (Z.take (Z.length-pl)))[i]=Z[i-1]):=by
  intro i h
  have hx:(point pl Z (Z.take (Z.length-pl)))[i]? =some (point pl Z (Z.take (Z.length-pl)))[i]:=List.getElem?_eq_getElem h
  refine ⟨fun h1=>⟨om,?_⟩,fun h0 h1=>?_,fun h0 h1=>?_⟩
  ·have:(point pl Z (Z.take (Z.length-pl)))[i]? =Z[i]?:=by
    unfold point
    split
    ·rw[List.getElem?_append_left om,List.getElem?_take,if_pos h1]
    ·rw[List.getElem?_take,if_pos h1]
   rw[this,List.getElem?_eq_getElem (show i<Z.length by omega)]at hx
   exact (Option.some.inj hx).symm
  ·have:(point pl Z (Z.take (Z.length-pl)))[i]? =some 46:=by
    unfold point
    rw[if_pos h0,List.getElem?_append_right om,hP1e,h1,Nat.sub_self];rfl
   rw[this]at hx
   exact (Option.some.inj hx).symm
  ·have hi:i-1<Z.length:=by rw[hBl,if_pos h0]at h;omega
   refine ⟨hi,?_⟩
   have:(point pl Z (Z.take (Z.length-pl)))[i]? =Z[i-1]?:=by
    unfold point
    rw[if_pos h0,List.getElem?_append_right om,hP1e]
    obtain ⟨k,hk⟩:∃ k,i-(Z.length-pl)=k+1:=⟨i-(Z.length-pl)-1,om⟩
    rw[hk,List.getElem?_cons_succ,List.getElem?_drop]
    congr 1;omega
   rw[this,List.getElem?_eq_getElem hi]at hx
   exact (Option.some.inj hx).symm
 generalize hB:point pl Z (Z.take (Z.length-pl))=B at hB0 hBl hat ⊢
 obtain ⟨c,r,hcr,hc1,hc2⟩:=hB0
 refine aa (P:=(· =neg)) ?_ fun j hj=>?_
 ·refine aj (dtt (by rw[size_str,hcr];simp;omega)) ?_
  cases neg with
  | true=>exact ad (a:=45) rfl (ab rfl)
  | false=>
    refine ad (a:=(c.toNat:Int)) (by rw[hcr];exact sidx0 c r) (ab ?_)
    simp only[beq_eq_false_iff_ne];omega
 subst hj
 refine aa (P:=(· =strOf B)) ?_ fun j2 hj2=>?_
 ·cases j with
  | true=>exact aj rfl (ad (tail1 (b:=45) (t:=B)) (ab rfl))
  | false=>exact ah rfl (ab rfl)
 subst hj2
 have hlen:B.length≤4000:=by rw[hBl];split<;>omega
 refine aa (P:=fun q=>q= .inl (dgs Z,(false,[]))) ?_ fun q hq=>?_
 ·refine Tot.loop (fun (st:List Int × Int × (Bool × List Int))=>∃ i:Nat,st=(dgs (Z.take (if 0<pl∧Z.length-pl<i then i-1 else i)),(i:Int),(false,[]))∧i≤B.length) (fun st=>B.length-st.2.1.toNat) ⟨0,by simp[dgs],om⟩ fun st ⟨i,e,hi⟩=>?_
  subst e
  simp only[size_str]
  refine Tot.ite (fun h=>?_) (fun h=>ab ?_)
  ·have h:i<B.length:=by have:(i:Int)<(B.length:Int):=odt h;omega
   obtain ⟨a1,a2,a3⟩:=hat i h
   have hsx:sidx (strOf B) (i:Int)=some ((B[i]).toNat:Int):=by
    rw[getD_sidx h];simp[List.getD_eq_getElem?_getD,List.getElem?_eq_getElem h]
   have hw:IntKind.i64.wrap ((i:Int)+1)=((i+1:Nat):Int):=iw om om
   by_cases hpt:0<pl∧i=Z.length-pl
   ·have hx:=a2 hpt.1 hpt.2
    rw[hx]at hsx
    refine aa (P:=(· =true)) ?_ fun j3 hj3=>?_
    ·refine ad hsx (aj rfl ?_)
     rw[i64_small (x:=(B.length:Int)-(i:Int)) om om,i64_small (x:=(B.length:Int)-(i:Int)-1) om om]
     refine aj (by simp only[beq_iff_eq];rw[hBl,if_pos hpt.1]at *; omega) (aj (dtt om) (ab (dtt om)))
    ·subst hj3
     refine aa (P:=(· = .inl (dgs (Z.take i),(false,[])))) (aj rfl (ab ?_)) fun q hq=>?_
     ·rw[if_neg om]
     ·subst hq
      refine Tot.contl (ab ?_)
      simp only[hw]
      refine ⟨⟨i+1,?_,om⟩,om⟩
      rw[if_pos ⟨hpt.1,om⟩,Nat.add_sub_cancel]
   ·have hdig:∃ (m:Nat) (hm:m<Z.length),m=(if 0<pl∧Z.length-pl<i then i-1 else i)∧B[i]=Z[m]:=by
     by_cases hlt:i<Z.length-pl
     ·obtain ⟨q1,q2⟩:=a1 hlt
      exact ⟨i,q1,by rw[if_neg om],q2⟩
     ·by_cases h0:0<pl
      ·obtain ⟨q1,q2⟩:=a3 h0 om
       exact ⟨i-1,q1,by rw[if_pos ⟨h0,om⟩],q2⟩
      ·exfalso
       rw[if_neg h0]at hBl
       omega
    obtain ⟨m,hm,em,hx⟩:=hdig
    rw[hx]at hsx
    rw[← em]
    have hz:=z1 Z[m] (List.getElem_mem hm)
    refine aa (P:=(· =false)) (ad hsx (ah (by simp only[beq_eq_false_iff_ne];omega) (ab rfl))) fun j3 hj3=>?_
    subst hj3
    refine aa (P:=(· = .inl (dgs (Z.take (m+1)),(false,[])))) (ah rfl ?_) fun q hq=>?_
    ·refine aa (P:=(· =true)) (ad hsx (aj (dtt om) (ad hsx (ab (dtt om))))) fun j4 hj4=>?_
     subst hj4
     refine aj rfl (ad hsx (ad (app_ok (by simp[dgs];omega)) (ab ?_)))
     have e8:IntKind.i64.wrap (IntKind.u8.wrap (((Z[m]).toNat:Int)-48))=((Z[m]).toNat:Int)-48:=by
      rw[u8_wrap,i64_small om om];omega
     rw[e8,List.take_succ_eq_append_getElem hm]
     unfold dgs;rw[List.map_append];rfl
    ·subst hq
     refine Tot.contl (ab ?_)
     simp only[hw]
     refine ⟨⟨i+1,?_,om⟩,om⟩
     have e9:(if 0<pl∧Z.length-pl<i+1 then i+1-1 else i+1)=m+1:=by
      by_cases h0:0<pl∧Z.length-pl<i
      ·rw[if_pos h0]at em
       rw[if_pos ⟨h0.1,om⟩];omega
      ·rw[if_neg h0]at em
       rw[if_neg om];omega
     rw[e9]
  ·have h:i=B.length:=by have:¬ (i:Int)<(B.length:Int):=odf h;omega
   subst h
   have:(if 0<pl∧Z.length-pl<B.length then B.length-1 else B.length)=Z.length:=by
    rw[hBl];split<;>split<;>omega
   rw[this,List.take_length]
 ·subst hq
  refine Tot.contl ?_
  have hdl:(dgs Z).length=Z.length:=by simp[dgs]
  refine aa (Read_tot (by rw[hdl];omega) (dgs_db z1)) fun n ⟨n1,n2,n3⟩=>?_
  rw[z2]at n2
  have hpos:=nil_of_w n1
  rw[n2]at hpos
  refine aa (P:=fun q=>q.1=true∧q.2.2=n∧q.2.1=(j&&decide (0<n.length))) ?_ fun q ⟨q1,q2,q3⟩=>ab ⟨q1,by simp only;rw[q2];exact n1,?_,by simp only;rw[q2];exact n2⟩
  ·have hd:decide (((dgs Z).length:Int)>(pl:Int))=true:=dtt (by rw[hdl];omega)
   cases j with
   | true=>
     refine aj rfl (Tot.some_bind (ab ⟨hd,rfl,?_⟩))
     simp only[Bool.true_and]
     exact decide_eq_decide.2 om
   | false=>exact ah rfl (Tot.some_bind (ab ⟨hd,rfl,rfl⟩))
  ·unfold iv3
   simp only
   rw[q2,q3]
   cases j with
   | true=>
     simp only[Bool.true_and,if_true]
     by_cases h0:0<n.length
     ·rw[dtt h0,if_pos rfl]
      show-vb 65536 n= -N
      rw[n2]
     ·rw[dff h0,if_neg ddc]
      show vb 65536 n= -N
      rw[n2]
      have:=fun q=>h0 (hpos.2 q)
      omega
   | false=>exact n2
end Go.Gv.P
namespace Go.Gv.P
open Go.Gv.Tot renaming bindq→aa,ret→ab,bind0→ad,if_→ah,it→aj
open Int renaming mul_le_mul_of_nonneg_right→ac,toNat_natCast→af,le_of_lt→ag,pow_add→ai
open List renaming length_append→ae
open Go Go.Gv Go.Gv.D Go.Gv.R Go.Lib
open Go.Gv.RI (val Dg Nz OkL OkI OkN vb Db IsB Ok3 HalveD_tot vb_big vb_bound vb_mono h16 vbits b2 Trim val_bound iv3)
set_option maxRecDepth 100000
/-! ### the reference's ratios -/
theorem iv_abs (a:Bool × List Int) (h:Ok3 a.2):vb 65536 a.2=((iv3 a).natAbs:Int):=by
 have:=(w_lt h).1
 unfold iv3
 split
 ·show vb 65536 a.2=((-vb 65536 a.2).natAbs:Int);omega
 ·show vb 65536 a.2=((vb 65536 a.2).natAbs:Int);omega
theorem ITimesL {a b:Bool × List Int} (ha:Ok3 a.2) (hb:Ok3 b.2) (la:a.2.length≤20000) (lb:b.2.length≤20000):Tot (fun fuel=>ref3_Int_Times fuel a b) (fun r=>Ok3 r.2∧iv3 r=iv3 a*iv3 b∧r.2.length≤a.2.length+b.2.length):=by
 refine (RI.ITimes_tot ha hb la lb).mono fun r ⟨r1,r2⟩=>⟨r1,r2,len16 r1 ?_⟩
 rw[iv_abs r r1,r2,Int.natAbs_mul,Int.natCast_mul,← iv_abs a ha,← iv_abs b hb,ai]
 have h1:=vb_bound h16 ha.1
 have h2:=vb_bound h16 hb.1
 have h3:vb 65536 a.2*vb 65536 b.2≤vb 65536 a.2*65536^b.2.length:=Int.mul_le_mul_of_nonneg_left om h1.1
 have h4:(0:Int)<65536^b.2.length:=Int.pow_pos ddc
 have h5:vb 65536 a.2*65536^b.2.length<65536^a.2.length*65536^b.2.length:=Int.mul_lt_mul_of_pos_right h1.2 h4
 omega
theorem IPlusL {a b:Bool × List Int} {k:Nat} (ha:Ok3 a.2) (hb:Ok3 b.2) (la:a.2.length≤k) (lb:b.2.length≤k) (hk:k≤20000):Tot (fun fuel=>ref3_Int_Plus fuel a b) (fun r=>Ok3 r.2∧iv3 r=iv3 a+iv3 b∧r.2.length≤k+1):=by
 refine (RI.IPlus_tot ha hb om om).mono fun r ⟨r1,r2⟩=>⟨r1,r2,len16 r1 ?_⟩
 have h1:=(vb_bound h16 ha.1).2
 have h2:=(vb_bound h16 hb.1).2
 have h3:(65536:Int)^a.2.length≤65536^k:=vb_mono h16 la
 have h4:(65536:Int)^b.2.length≤65536^k:=vb_mono h16 lb
 have h5:(65536:Int)^(k+1)=65536^k*65536:=Int.pow_succ ..
 rw[iv_abs a ha]at h1
 rw[iv_abs b hb]at h2
 rw[iv_abs r r1,r2,h5]
 generalize (65536:Int)^k=Z at*
 generalize (65536:Int)^a.2.length=Z1 at*
 generalize (65536:Int)^b.2.length=Z2 at*
 omega
abbrev Rt:=(Bool × List Int) × List Int
structure RtOk (x:Rt) (k:Nat):Prop where
 num:Ok3 x.1.2
 den:Ok3 x.2
 pos:0<vb 65536 x.2
 ln:x.1.2.length≤k
 ld:x.2.length≤k
theorem Lowest_tot {x:Rt} {k:Nat} (hx:RtOk x k) (hk:k≤1000):Tot (fun fuel=>ref3_Ratio_Lowest fuel x) (fun r=>RtOk r k∧iv3 r.1*vb 65536 x.2=iv3 x.1*vb 65536 r.2):=by
 obtain ⟨⟨sg,n⟩,d⟩:=x
 obtain ⟨h1,h2,h3,h4,h5⟩:=hx
 simp only at h1 h2 h3 h4 h5
 unfold ref3_Ratio_Lowest
 refine aa (Common_tot (a:=n) (b:=d) h1 h2 om om) fun g ⟨g1,g2⟩=>?_
 have hdp:0<wN d:=by have:=wN_eq h2;omega
 have hgp:0<Nat.gcd (wN n) (wN d):=Nat.gcd_pos_of_pos_right _ hdp
 have hg0:0<vb 65536 g:=by omega
 have hgl:g.length≤k:=by
  have:vb 65536 g≤vb 65536 d:=by
   rw[g2,wN_eq h2]
   have:=Nat.gcd_le_right (wN n) hdp
   omega
  have:=len_le_of g1 h2 this
  omega
 refine aa (Divide_tot (a:=n) (b:=g) h1 g1 om om hg0) fun p ⟨p1,p2,p3,p4⟩=>?_
 refine aa (Divide_tot (a:=d) (b:=g) h2 g1 om om hg0) fun q ⟨q1,q2,q3,q4⟩=>ab ?_
 obtain ⟨u,hu⟩:=Nat.gcd_dvd_left (wN n) (wN d)
 obtain ⟨w,hw⟩:=Nat.gcd_dvd_right (wN n) (wN d)
 have en:vb 65536 n=vb 65536 g*u:=by rw[wN_eq h1,g2];exact_mod_cast hu
 have ed:vb 65536 d=vb 65536 g*w:=by rw[wN_eq h2,g2];exact_mod_cast hw
 have ep:vb 65536 p.1=u:=by rw[p3,en,Int.mul_ediv_cancel_left _ om]
 have eq:vb 65536 q.1=w:=by rw[q3,ed,Int.mul_ediv_cancel_left _ om]
 have hwp:0<w:=by
  rcases Nat.eq_zero_or_pos w with e | e
  ·rw[e]at hw;omega
  ·exact e
 have hun:(u:Int)≤vb 65536 n:=by
  rw[en]
  have:1*(u:Int)≤vb 65536 g*u:=ac om om
  omega
 have hwd:(w:Int)≤vb 65536 d:=by
  rw[ed]
  have:1*(w:Int)≤vb 65536 g*w:=ac om om
  omega
 refine ⟨⟨p1,q1,osm,?_,?_⟩,?_⟩
 ·have:=len_le_of p1 h1 om;simp only;omega
 ·have:=len_le_of q1 h2 om;simp only;omega
 ·unfold iv3
  simp only
  cases sg
  ·show vb 65536 p.1*vb 65536 d=vb 65536 n*vb 65536 q.1
   rw[ep,eq,en,ed]
   grind
  ·show-vb 65536 p.1*vb 65536 d= -vb 65536 n*vb 65536 q.1
   rw[ep,eq,en,ed]
   grind
theorem RTimes_tot {x y:Rt} {k m:Nat} (hx:RtOk x k) (hy:RtOk y m) (hk:k+m≤1000):Tot (fun fuel=>ref3_Ratio_Times fuel x y) (fun r=>RtOk r (k+m)∧iv3 r.1*(vb 65536 x.2*vb 65536 y.2)=iv3 x.1*iv3 y.1*vb 65536 r.2):=by
 unfold ref3_Ratio_Times
 refine aa (ITimesL hx.num hy.num (by have:=hx.ln;omega) (by have:=hy.ln;omega)) fun n ⟨n1,n2,n3⟩=>?_
 refine aa (TimesL_tot hx.den hy.den (by have:=hx.ld;omega) (by have:=hy.ld;omega)) fun d ⟨d1,d2,d3⟩=>?_
 have l1:=hx.ln
 have l2:=hx.ld
 have l3:=hy.ln
 have l4:=hy.ld
 refine aa (Lowest_tot (x:=(n,d)) (k:=k+m) ⟨n1,d1,by rw[d2];exact Int.mul_pos hx.pos hy.pos,osm,osm⟩ hk) fun r ⟨r1,r2⟩=>ab ⟨r1,?_⟩
 simp only at r2
 rw[← d2,← n2];exact r2
theorem RLess_tot {x y:Rt} {k m:Nat} (hx:RtOk x k) (hy:RtOk y m) (hk:k+m+1≤1000):Tot (fun fuel=>ref3_Ratio_Less fuel x y) (fun r=>RtOk r (k+m+1)∧iv3 r.1*(vb 65536 x.2*vb 65536 y.2)=(iv3 x.1*vb 65536 y.2-iv3 y.1*vb 65536 x.2)*vb 65536 r.2):=by
 unfold ref3_Ratio_Less ref3_Ratio_Plus
 have l1:=hx.ln
 have l2:=hx.ld
 have l3:=hy.ln
 have l4:=hy.ld
 refine aa (RI.IMinus_tot hy.num) fun z ⟨z1,z2⟩=>?_
 obtain ⟨zs,zn⟩:=z
 simp only at z1
 subst z1
 refine aa (P:=fun r=>RtOk r (k+m+1)∧iv3 r.1*(vb 65536 x.2*vb 65536 y.2)=(iv3 x.1*vb 65536 y.2-iv3 y.1*vb 65536 x.2)*vb 65536 r.2) ?_ fun r hr=>ab hr
 refine aa (ITimesL (b:=(false,y.2)) hx.num hy.den om osm) fun p ⟨p1,p2,p3⟩=>?_
 refine aa (ITimesL (a:=(zs,y.1.2)) (b:=(false,x.2)) hy.num hx.den osm osm) fun q ⟨q1,q2,q3⟩=>?_
 simp only at p3 q3
 refine aa (IPlusL (k:=k+m) p1 q1 om om om) fun n ⟨n1,n2,n3⟩=>?_
 refine aa (TimesL_tot (a:=x.2) (b:=y.2) hx.den hy.den om om) fun d ⟨d1,d2,d3⟩=>?_
 refine aa (Lowest_tot (x:=(n,d)) (k:=k+m+1) ⟨n1,d1,by rw[d2];exact Int.mul_pos hx.pos hy.pos,osm,osm⟩ hk) fun r ⟨r1,r2⟩=>ab ⟨r1,?_⟩
 simp only at r2
 have e1:iv3 (false,y.2)=vb 65536 y.2:=rfl
 have e2:iv3 (false,x.2)=vb 65536 x.2:=rfl
 rw[n2,p2,q2,z2,e1,e2,d2]at r2
 rw[r2]
 congr 1
 rw[Int.neg_mul];omega
theorem ROrder_tot {x y:Rt} {k m:Nat} (hx:RtOk x k) (hy:RtOk y m) (hk:k+m≤1000):Tot (fun fuel=>ref3_Ratio_Order fuel x y) (fun r=>(r<0↔iv3 x.1*vb 65536 y.2<iv3 y.1*vb 65536 x.2)∧(r=0↔iv3 x.1*vb 65536 y.2=iv3 y.1*vb 65536 x.2)):=by
 unfold ref3_Ratio_Order
 have l1:=hx.ln
 have l2:=hx.ld
 have l3:=hy.ln
 have l4:=hy.ld
 refine aa (ITimesL (b:=(false,y.2)) hx.num hy.den om osm) fun p ⟨p1,p2,p3⟩=>?_
 refine aa (ITimesL (b:=(false,x.2)) hy.num hx.den om osm) fun q ⟨q1,q2,q3⟩=>?_
 refine aa (RI.Order_tot p1 q1) fun r hr=>ab ?_
 have e1:iv3 (false,y.2)=vb 65536 y.2:=rfl
 have e2:iv3 (false,x.2)=vb 65536 x.2:=rfl
 rw[p2,q2,e1,e2]at hr
 exact hr
theorem nea_half {A B:Int} (hA:0≤A) (hB:0<B): -B≤2*(A-B*nea A B)∧2*(A-B*nea A B)≤B:=by
 have h1:=Int.emod_add_mul_ediv A B
 have h2:=Int.emod_nonneg A (show B≠0 by omega)
 have h3:=Int.emod_lt_of_pos A hB
 unfold nea
 generalize A%B=r at*
 generalize A/B=q at*
 split
 ·rw[Int.mul_add,Int.mul_one];omega
 ·omega
end Go.Gv.P
namespace Go.Gv.P
open Go.Gv.Tot renaming bindq→aa,ret→ab,bind0→ad,if_→ah,it→aj
open Int renaming mul_le_mul_of_nonneg_right→ac,toNat_natCast→af,le_of_lt→ag,pow_add→ai
open List renaming length_append→ae
open Go Go.Gv Go.Gv.D Go.Gv.R Go.Lib
open Go.Gv.RI (val Dg Nz OkL OkI OkN vb Db IsB Ok3 HalveD_tot vb_big vb_bound vb_mono h16 vbits b2 Trim val_bound iv3)
set_option maxRecDepth 100000
/-! ### the law FmtspecRounds -/
def sF (pl:Nat) (ty:Int):Sp:=(0,0,0,false,false,0,0,true,(pl:Int),ty)
theorem sF_good {pl:Nat} {ty:Int} (h:pl≤400) (ht:ty=102∨ty=37):Good (sF pl ty):=by
 unfold sF
 refine ⟨⟨osm,osm,osm,osm⟩,.inl rfl,.inl rfl,.inl rfl,.inl rfl,.inr ?_,osm,osm,fun h=>by cases h⟩
 rcases ht with e | e<;>subst e<;>rfl
theorem sF_wr {pl:Nat} {ty:Int} (h:pl≤400) (ht:ty=102∨ty=37):enc (wr (sF pl ty))=46::(itoaB pl++[UInt8.ofNat ty.toNat]):=by
 have e:wr (sF pl ty)=[46]++(itN pl++[ty.toNat]):=by
  have:optN (ty !=0) [ty.toNat]=[ty.toNat]:=by rcases ht with e | e<;>subst e<;>rfl
  show []++([]++([]++([]++([]++([]++([]++((46::itN ((pl:Int)).toNat)++optN (ty !=0) [ty.toNat])))))))=_
  rw[this,af]
  simp
 rw[e,enc_app,enc_app,enc_itN h]
 rcases ht with e | e<;>subst e<;>rfl
theorem ten_le {a b:Nat} (h:a≤b):(10:Int)^a≤10^b:=vb_mono ddc h
theorem wn_up {V:Int} {k:Nat} (h0:0≤V) (h:V<10^k) (hk:1≤k):(wn 10 V).length≤k:=by
 rcases Classical.em (V=0) with e | e
 ·subst e;show 1≤k;exact hk
 ·obtain ⟨a1,a2,a3⟩:=wn_bounds (V:=V) om
  rcases Nat.lt_or_ge k (wn 10 V).length with g | g
  ·have:=ten_le (show k≤(wn 10 V).length-1 by omega);omega
  ·exact g
theorem nea_le {A B:Int} (hA:0≤A) (hB:0<B):nea A B≤A+1:=by
 have:A/B≤A:=Int.ediv_le_self _ hA
 unfold nea
 split<;>omega
/-- the rounded number is short -/
theorem nea_short {a:List Int} (ha:OkL a) {B:Int} (hB:0<B) {k:Nat}:(wn 10 (nea (val a*10^k) B)).length≤1301+k∧0≤nea (val a*10^k) B∧nea (val a*10^k) B<65536^(257+k):=by
 have h0:=(val_bound ha.1).1
 have h1:=wn_len128 ha
 have hm:0≤val a*10^k:=Int.mul_nonneg h0 (ag (tenp k))
 have hle:=nea_le hm hB
 have hnn:=nea_nonneg hm hB
 refine ⟨wn_up hnn ?_ om,hnn,?_⟩
 ·have hV:val a<10^1300:=by
   rcases Classical.em (val a=0) with e | e
   ·rw[e];exact tenp _
   ·have:=(wn_bounds (V:=val a) om).2.1
    have:=ten_le h1
    omega
  have h2:val a*10^k<10^1300*10^k:=Int.mul_lt_mul_of_pos_right hV (tenp k)
  rw[← ai]at h2
  have h3:(10:Int)^(1301+k)=10^(1300+k)*10:=by rw[show 1301+k=(1300+k)+1 by omega,Int.pow_succ]
  have h4:=tenp (1300+k)
  rw[h3];omega
 ·have hV:val a<65536^256:=by
   have h2:=(val_bound ha.1).2
   have h3:(4294967296:Int)^a.length≤4294967296^128:=RI.pow_mono ha.2.2
   have h4:(4294967296:Int)^128=65536^256:=by rw[show (4294967296:Int)=65536^2 by decide,← Int.pow_mul]
   omega
  have h2:val a*10^k≤65536^256*10^k:=ac (ag hV) (ag (tenp k))
  have h5:(65536:Int)^256*10^k≤65536^256*65536^k:=Int.mul_le_mul_of_nonneg_left (RI.pow_le_left ddc ddc k) (ag (Int.pow_pos ddc))
  rw[← ai]at h5
  have h6:(65536:Int)^(257+k)=65536^(256+k)*65536:=by rw[show 257+k=(256+k)+1 by omega,Int.pow_succ]
  have h7:(0:Int)<65536^(256+k):=Int.pow_pos ddc
  rw[h6];omega
theorem pnt_len {N:Int} {pl k:Nat} (h:(wn 10 N).length≤k):(pnt N pl 0).length≤pl+k+2:=by
 unfold pnt point grp padZ
 rw[if_pos rfl]
 split<;>simp<;>omega
/-- what Format gives for a ratio with a fixed number of digits -/
theorem Fix_tot {num den:Bool × List Int} (hR:ROk num den) (hne:den.2≠[1]) {pl:Nat} (hp:pl≤202):
 Tot (fun n=>fmtspec_Format n (3,num,den,strOf [],0) (strOf (46::(itoaB pl++[102])))) (· =(strOf (sgnS num.1 0++pnt (nea (val num.2*10^pl) (val den.2)) pl 0),(0,0)))∧
 Tot (fun n=>fmtspec_Format n (3,num,den,strOf [],0) (strOf (46::(itoaB pl++[37])))) (· =(strOf ((sgnS num.1 0++pnt (nea (val num.2*100*10^pl) (val den.2)) pl 0)++[37]),(0,0))):=by
 have hv:VHyp (3,num,den,strOf [],0):=⟨hR.1.1.1,hR.2.1.1.1,by rw[size_str];simp⟩
 have ok:VOk (3,num,den,strOf [],0):=.inr (.inr (.inl ⟨rfl,hR,hne⟩))
 have h0:=(val_bound hR.1.1.1).1
 have hB:=RI.val_pos hR.2.1.1.1 hR.2.1.1.2.1 hR.2.2.2.1
 have go:∀ (ty:Int) (ht:ty=102∨ty=37) (b:List UInt8),frcB (val num.2) (val den.2) (sF pl ty)=b→b.length≤3000→
  Tot (fun n=>fmtspec_Format n (3,num,den,strOf [],0) (strOf (46::(itoaB pl++[UInt8.ofNat ty.toNat])))) (· =(strOf (sgnS num.1 0++b),(0,0))):=by
  intro ty ht b hb hl
  have g:=sF_good (pl:=pl) om ht
  have hF:isFE (sF pl ty):=by
   rcases ht with e | e<;>subst e
   ·exact ⟨(show (102:Int)≠0 by decide),rfl⟩
   ·exact ⟨(show (37:Int)≠0 by decide),rfl⟩
  have ef:fdf (3,num,den,strOf [],0) (sF pl ty)=((sgnS num.1 0,b,false),(0,0)):=by
   show ratF num.1 (val num.2) (val den.2) (sF pl ty)=_
   unfold ratF frcF
   rw[if_pos hF,if_neg (by rintro (q | ⟨_,q⟩);· cases q
                           ·exact q rfl),hb]
   rfl
  have ht2:=Format_tot hv ok (wr_scal g) (wr_len g) (rd_wr g) g
  rw[sF_wr om ht]at ht2
  refine ht2.mono fun r hr=>?_
  rw[hr]
  obtain ⟨_,hp2⟩:=fd_parts ok g
  obtain ⟨x1,x2,x3,x4,x5,x6⟩:=hp2 (by rw[ef])
  unfold fin
  rw[if_neg (by rw[ef];exact fun q=>q rfl)]
  have e0:padP (phf (3,num,den,strOf [],0) (sF pl ty)) (pbf (3,num,den,strOf [],0) (sF pl ty)) (fdf (3,num,den,strOf [],0) (sF pl ty)).1.2.2 (sF pl ty)=phf (3,num,den,strOf [],0) (sF pl ty)++pbf (3,num,den,strOf [],0) (sF pl ty):=pad_zero (by show (0:Int).toNat-_-_=0;simp)
  rw[e0,enc_app,← x1,← x2,ef]
  simp only
  have:=sgnS_len num.1 0
  rw[if_pos (by rw[ae];omega)]
 constructor
 ·obtain ⟨s1,s2,s3⟩:=nea_short hR.1.1 hB (k:=pl)
  have:=pnt_len (pl:=pl) s1
  refine go 102 (.inl rfl) _ ?_ om
  unfold frcB sF
  rw[if_neg (show ¬ (102:Int)=101 by decide),if_neg (show ¬ (102:Int)=37 by decide)]
  rfl
 ·have e:val num.2*100*10^pl=val num.2*10^(pl+2):=by rw[ai];show _=_*(10^pl*100);rw[Int.mul_comm (10^pl) 100,Int.mul_assoc]
  obtain ⟨s1,s2,s3⟩:=nea_short hR.1.1 hB (k:=pl+2)
  have:=pnt_len (pl:=pl) s1
  rw[List.append_assoc]
  refine go 37 (.inr rfl) _ ?_ (by rw[ae,e];simp;omega)
  unfold frcB sF
  rw[if_neg (show ¬ (37:Int)=101 by decide),if_pos (show (37:Int)=37 from rfl)]
  rfl
theorem numtext_tot {x:Int} (h0:0≤x) (h1:x<1400):Tot (fun fuel=>ref3_Number fuel x) (fun r=>Tot (fun fuel=>ref3_TextOf fuel r 10) (· =strOf (itoaB x.toNat))):=by
 refine (RI.Number_tot (n:=x) om om).mono fun r ⟨r1,r2,r3⟩=>?_
 obtain ⟨neg,l⟩:=r
 simp only at r1 r2 r3
 replace r3:vb 65536 l=(x.natAbs:Int):=r3
 have hl:l.length≤1:=len16 r2 (by rw[r3];omega)
 refine (TextOf_tot (neg:=neg) r2 om IsB10).mono fun t ht=>?_
 rw[ht,r3]
 have hn:neg=false:=by rw[r1];exact dff om
 subst hn
 have hw:wn 10 ((x.toNat:Nat):Int)=itoa ((x.toNat:Nat):Int):=eq_of_beq (List.all_eq_true.1 wn_itoa x.toNat (List.mem_range.2 om))
 unfold tx itoaB
 rw[← hw,show ((x.natAbs:Nat):Int)=((x.toNat:Nat):Int) by omega]
 split
 ·rename_i hz;rw[hz];rfl
 ·rfl
theorem itoaB_len {n:Nat} (h:n<1400):(itoaB n).length≤4:=(itoa4 h).2.2
/-- the last part: numbers alone -/
theorem half_law {p B A N D E F:Int} (hB:0<B) (hE:0<E) (hF:0<F) (h1:N*(B*1)=p*A*E) (a:Int) (h2:D*(E*1)=(N*1-a*E)*F) (h3: -B≤2*(p*A-a*B)∧2*(p*A-a*B)≤B):2*(D.natAbs:Int)≤F:=by
 have e1:D*B=(p*A-a*B)*F:=by
  have h4:D*B*E=(p*A-a*B)*F*E:=by grind
  exact Int.eq_of_mul_eq_mul_right om h4
 have u:2*D*B≤F*B:=by
  have:2*(p*A-a*B)*F≤B*F:=ac h3.2 om
  grind
 have l: -F*B≤2*D*B:=by
  have: -B*F≤2*(p*A-a*B)*F:=ac h3.1 om
  grind
 have u:=Int.le_of_mul_le_mul_right u hB
 have l:=Int.le_of_mul_le_mul_right l hB
 omega
end Go.Gv.P
namespace Go.Gv.P
open Go.Gv.Tot renaming bindq→aa,ret→ab,bind0→ad,if_→ah,it→aj
open Int renaming mul_le_mul_of_nonneg_right→ac,toNat_natCast→af,le_of_lt→ag,pow_add→ai
open List renaming length_append→ae
open Go Go.Gv Go.Gv.D Go.Gv.R Go.Lib
open Go.Gv.RI (val Dg Nz OkL OkI OkN vb Db IsB Ok3 HalveD_tot vb_big vb_bound vb_mono h16 vbits b2 Trim val_bound iv3)
set_option maxRecDepth 100000
theorem int_of_limbs {b:Bool × List Int} {k:Nat} (hb:Ok3 b.2) (hl:b.2.length≤k) (hk:k≤10000):
 Tot (fun fuel=>ref3_Limbs fuel b.2) (fun l=>Tot (fun fuel=>ref3_IntOf fuel (b.1,l)) (fun r=>Ok3 r.2∧iv3 r=iv3 b)):=by
 refine (RI.Limbs_tot hb).mono fun l ⟨l1,l2,l3,l4⟩=>?_
 unfold ref3_IntOf
 refine aa (RI.Of3_tot l1 osm) fun r ⟨r1,r2,r3⟩=>ab ⟨r1,?_⟩
 replace r2:vb 65536 r=val l:=r2
 replace l3:val l=vb 65536 b.2:=l3
 unfold iv3
 simp only
 show (if b.1=true then-vb 65536 r else vb 65536 r)=(if b.1=true then-vb 65536 b.2 else vb 65536 b.2)
 rw[r2,l3]
theorem FmtspecRounds_said (x:(Bool × List Int) × (Bool × List Int)) (places:Int)
 (hx:(True∧(∀ y∈x.1.2,inK .u32 y)∧x.1.2.length≤maxLen)∧(True∧(∀ y∈x.2.2,inK .u32 y)∧x.2.2.length≤maxLen)) (_:inK .i64 places) (_:(0:Nat)≤1048576):
 Tot (fun n=>law4_FmtspecRounds n x places) (· =true):=by
 obtain ⟨⟨_,hn,_⟩,⟨_,hd,_⟩⟩:=hx
 have hn:Dg x.1.2:=fun y hy=>inK_u32 (hn y hy)
 have hd:Dg x.2.2:=fun y hy=>inK_u32 (hd y hy)
 unfold law4_FmtspecRounds
 refine aa (P:=fun j=>j=false→ROk x.1 x.2∧x.2.2≠[1]∧0≤places∧places≤200) ?_ fun j hj=>?_
 ·refine aa formats_tot fun r hr=>?_
  subst hr
  refine ah rfl (aa (ratiook_tot (x:=x.1) (y:=x.2) hn hd) fun r hr=>?_)
  refine Tot.ite (fun h=>ab fun h=>(by cases h)) (fun h=>?_)
  have hR:=hr.1 (by simpa using h)
  have pl:Tot (fun _:Nat=>if (decide (places<0))=true then some true else some (decide (places>200))) (fun j=>j=false→0≤places∧places≤200):=by
   refine Tot.ite (fun h=>ab fun h=>(by cases h)) (fun h=>ab fun h2=>?_)
   have h:=odf h
   have h2:=odf h2
   omega
  refine Tot.ite (fun h=>?_) (fun h=>?_)
  ·have h:x.2.2.length=1:=by
    have:((x.2.2.length:Nat):Int)=1:=by simpa using h
    omega
   obtain ⟨y,hy⟩:=List.length_eq_one_iff.1 h
   refine ad (a:=y) (by rw[hy];rfl) ?_
   refine Tot.ite (fun h=>ab fun h=>(by cases h)) (fun h=>pl.mono fun j hj h2=>⟨hR,?_,hj h2⟩)
   rw[hy]
   intro e
   have:y=1:=by simpa using e
   rw[this]at h;cases h
  ·refine pl.mono fun j hj h2=>⟨hR,fun e=>?_,hj h2⟩
   rw[e]at h;cases h
 refine Tot.ite (fun h=>aa formats_tot fun r hr=>ab hr) (fun h=>?_)
 obtain ⟨hR,hne,p0,p1⟩:=hj h
 clear hj
 obtain ⟨num,den⟩:=x
 simp only at hR hne hn hd
 obtain ⟨pl,rfl⟩:∃ pl:Nat,places=(pl:Int):=⟨places.toNat,om⟩
 have hp:pl≤200:=by omega
 have h0:=(val_bound hR.1.1.1).1
 have hB:=RI.val_pos hR.2.1.1.1 hR.2.1.1.2.1 hR.2.2.2.1
 have w2:IntKind.i64.wrap ((pl:Int)+2)=((pl+2:Nat):Int):=iw om om
 rw[w2]
 obtain ⟨f1,f3⟩:=Fix_tot hR hne (pl:=pl) om
 obtain ⟨f2,_⟩:=Fix_tot hR hne (pl:=pl+2) om
 obtain ⟨s1,s2,s3⟩:=nea_short hR.1.1 hB (k:=pl)
 obtain ⟨t1,t2,t3⟩:=nea_short hR.1.1 hB (k:=pl+2)
 have e100:val num.2*100*10^pl=val num.2*10^(pl+2):=by rw[ai];show _=_*(10^pl*100);rw[Int.mul_comm (10^pl) 100,Int.mul_assoc]
 rw[e100]at f3
 have i1:=itoaB_len (n:=pl) om
 have i2:=itoaB_len (n:=pl+2) om
 refine aa (numtext_tot (x:=(pl:Int)) om om) fun r hr=>aa hr fun a ha=>?_
 subst ha
 rw[af]
 refine ad (cat_str oss) (ad (cat_str oss) ?_)
 refine aa (P:=(· =(strOf (sgnS num.1 0++pnt (nea (val num.2*10^pl) (val den.2)) pl 0),(0,0)))) ?_ fun s hs=>?_
 ·have:([46]++itoaB pl++[102]:List UInt8)=46::(itoaB pl++[102]):=by simp
  rw[this];exact f1
 subst hs
 refine aa (numtext_tot (x:=((pl+2:Nat):Int)) om om) fun r hr=>aa hr fun a ha=>?_
 subst ha
 rw[af]
 refine ad (cat_str oss) (ad (cat_str oss) ?_)
 refine aa (P:=(· =(strOf (sgnS num.1 0++pnt (nea (val num.2*10^(pl+2)) (val den.2)) (pl+2) 0),(0,0)))) ?_ fun s hs=>?_
 ·have:([46]++itoaB (pl+2)++[102]:List UInt8)=46::(itoaB (pl+2)++[102]):=by simp
  rw[this];exact f2
 subst hs
 refine aa (numtext_tot (x:=(pl:Int)) om om) fun r hr=>aa hr fun a ha=>?_
 subst ha
 rw[af]
 refine ad (cat_str oss) (ad (cat_str oss) ?_)
 refine aa (P:=(· =(strOf ((sgnS num.1 0++pnt (nea (val num.2*10^(pl+2)) (val den.2)) pl 0)++[37]),(0,0)))) ?_ fun s hs=>?_
 ·have:([46]++itoaB pl++[37]:List UInt8)=46::(itoaB pl++[37]):=by simp
  rw[this];exact f3
 subst hs
 refine aa (P:=(· =false)) (ah rfl (ah rfl (ab rfl))) fun j hj=>?_
 subst hj
 refine ah rfl ?_
 refine aa (units_tot (neg:=num.1) s2 om om) fun a ⟨a1,a2,a3,a4⟩=>?_
 refine aa (units_tot (neg:=num.1) t2 (pl:=pl+2) om om) fun b ⟨b1,b2',b3,b4⟩=>?_
 have sl:=sgnS_len num.1 0
 have hpl:=pnt_len (pl:=pl) t1
 have hcut:ssub (strOf ((sgnS num.1 0++pnt (nea (val num.2*10^(pl+2)) (val den.2)) pl 0)++[37])) 0 (if 0<(IntKind.i64.wrap (((ByteArray.size (strOf ((sgnS num.1 0++pnt (nea (val num.2*10^(pl+2)) (val den.2)) pl 0)++[37])):Nat):Int)-1)) then (IntKind.i64.wrap (((ByteArray.size (strOf ((sgnS num.1 0++pnt (nea (val num.2*10^(pl+2)) (val den.2)) pl 0)++[37])):Nat):Int)-1)) else 0)=some (strOf (sgnS num.1 0++pnt (nea (val num.2*10^(pl+2)) (val den.2)) pl 0)):=by
  generalize hL:sgnS num.1 0++pnt (nea (val num.2*10^(pl+2)) (val den.2)) pl 0=L
  have hLl:L.length≤10000:=by rw[← hL,ae];omega
  rw[size_str,ae,List.length_singleton,iw (x:=((L.length+1:Nat):Int)-1) (n:=L.length) om om]
  have e:(if 0<((L.length:Nat):Int) then ((L.length:Nat):Int) else 0)=(L.length:Int):=by split<;>omega
  rw[e]
  have:=ssub_str (l:=L++[37]) (i:=0) (j:=L.length) om (by simp)
  rw[List.take_left,List.drop_zero]at this
  exact this
 refine ad hcut ?_
 refine aa (units_tot (neg:=num.1) t2 (pl:=pl) om om) fun c ⟨c1,c2,c3,c4⟩=>?_
 refine ah (by rw[a1,b1,c1];rfl) ?_
 have al:a.1.2.length≤257+pl:=len16 a2 (by rw[a4];exact s3)
 have bl:b.1.2.length≤257+(pl+2):=len16 b2' (by rw[b4];exact t3)
 refine aa (P:=fun r=>RtOk r 256∧iv3 r.1=(if num.1=true then-val num.2 else val num.2)∧vb 65536 r.2=val den.2) ?_ fun e ⟨e1,e2,e3⟩=>?_
 ·unfold ref3_RatioOf ref3_IntOf
  refine aa (P:=fun (r:Bool × List Int)=>r.1=num.1∧Ok3 r.2∧vb 65536 r.2=val num.2∧r.2.length≤256) (aa (of_tot hR.1.1) fun u hu=>ab ⟨rfl,hu⟩) fun r ⟨r0,r1,r2,r3⟩=>?_
  refine aa (of_tot hR.2.1.1) fun d ⟨d1,d2,d3⟩=>ab ⟨⟨r1,d1,by rw[d2];exact hB,r3,d3⟩,?_,d2⟩
  unfold iv3
  simp only
  show (if r.1=true then-vb 65536 r.2 else vb 65536 r.2)=_
  rw[r0,r2]
 refine aa (Ten_tot (n:=pl) om) fun z ⟨z1,z2,z3⟩=>?_
 refine aa small1 fun o ho=>?_
 subst ho
 refine aa (RTimes_tot (y:=((false,z),[1])) (m:=202) e1 ⟨z1,ok3_1,(show (0:Int)<vb 65536 [1] by decide),osm,by simp⟩ ddc) fun E ⟨E1,E2⟩=>?_
 have E2:iv3 E.1*(val den.2*1)=(if num.1=true then-val num.2 else val num.2)*10^pl*vb 65536 E.2:=by
  rw[e2,e3]at E2
  have:iv3 (false,z)=10^pl:=z2
  rw[this]at E2
  exact E2
 refine aa (RI.Number_tot (n:=1) ddc ddc) fun u ⟨u1,u2,u3⟩=>?_
 replace u3:vb 65536 u.2=1:=u3
 refine aa (Small_tot (n:=2) ddc ddc) fun h2 ⟨h21,h22,h23⟩=>?_
 refine aa (P:=(· =true)) ?_ fun j hj=>ab hj
 refine aa (P:=(· =(a.1,[1]))) (aa small1 fun o ho=>by subst ho;exact ab rfl) fun W hW=>?_
 subst hW
 refine aa (RLess_tot (y:=(a.1,[1])) (m:=460) E1 ⟨a2,ok3_1,(show (0:Int)<vb 65536 [1] by decide),osm,by simp⟩ ddc) fun D ⟨D1,D2⟩=>?_
 refine aa (P:=(· =((false,D.1.2),D.2))) (ab rfl) fun A hA=>?_
 subst hA
 have ul:u.2.length≤1:=len16 u2 (by rw[u3];decide)
 refine aa (ROrder_tot (x:=((false,D.1.2),D.2)) (y:=(u,h2)) (m:=2) ⟨D1.num,D1.den,D1.pos,D1.ln,D1.ld⟩ ⟨u2,h21,by rw[h22];decide,osm,osm⟩ ddc) fun r ⟨r1,r2⟩=>?_
 have hr:r≤0:=by
  have k1:iv3 (false,D.1.2)=((iv3 D.1).natAbs:Int):=iv_abs D.1 D1.num
  have k2:iv3 u=1:=by
   unfold iv3
   rw[u1]
   show (if decide ((1:Int)<0)=true then _ else _)=(1:Int)
   rw[if_neg ddc];exact u3
  simp only at r1 r2
  rw[k1,k2,h22]at r1 r2
  have hh:=nea_half (A:=val num.2*10^pl) (B:=val den.2) (Int.mul_nonneg h0 (ag (tenp _))) hB
  have hl:=half_law (p:=if num.1=true then-val num.2 else val num.2) (B:=val den.2) (A:=10^pl) (N:=iv3 E.1) (D:=iv3 D.1) (E:=vb 65536 E.2) (F:=vb 65536 D.2) hB E1.pos D1.pos E2 (iv3 a.1) D2 (by
   rw[a3]
   generalize nea (val num.2*10^pl) (val den.2)=N at hh
   split
   ·have: -val num.2*10^pl- -N*val den.2= -(val num.2*10^pl-val den.2*N):=by rw[Int.neg_mul,Int.neg_mul,Int.mul_comm N];omega
    rw[this];omega
   ·rw[Int.mul_comm N];exact hh)
  rcases Int.lt_trichotomy r 0 with q | q | q
  ·omega
  ·omega
  ·exfalso
   have q1:¬ r<0:=by omega
   have q2:¬ r=0:=by omega
   rw[r1]at q1
   rw[r2]at q2
   omega
 refine aj (dtt hr) ?_
 refine aa (int_of_limbs (k:=600) b2' om ddc) fun l hl=>aa hl fun g ⟨g1,g2⟩=>?_
 refine aa (RI.Order_tot g1 c2) fun q ⟨q1,q2⟩=>ab ?_
 have:q=0:=q2.2 (by rw[g2,b3,c3])
 rw[this];rfl
end Go.Gv.P
