import Derived.Test.YtbiopeiafkldiaaGreatDoorV1
set_option linter.all false
open Go.Gv.Tot renaming bindq→aa,ret→ab,bind0→ac,ite→af
open List renaming length_append→ad,replicate→ag
open Int renaming mul_le_mul_of_nonneg_right→ae,le_of_lt→ah,mul_lt_mul_of_pos_right→ai,le_of_mul_le_mul_right→aj,mul_assoc→ak,pow_add→am
namespace Go.Gv.P
open Go Go.Gv Go.Gv.D Go.Gv.R Go.Lib
open Go.Gv.RI (val Dg Nz OkL OkI OkN vb Db IsB Ok3 HalveD_tot vb_big vb_bound vb_mono h16 vbits b2 Trim)
set_option maxRecDepth 100000
/-! ### the reference's rounding -/
theorem TimesL_tot {a b:List Int} (ha:Ok3 a) (hb:Ok3 b) (la:a.length≤20000) (lb:b.length≤20000):Tot (fun fuel=>ref3_Times fuel a b) (fun r=>Ok3 r∧vb 65536 r=vb 65536 a*vb 65536 b∧r.length≤a.length+b.length):=by
 refine (RI.Times_tot ha hb la lb).mono fun r ⟨r1,r2⟩=>⟨r1,r2,len16 r1 ?_⟩
 replace r2:vb 65536 r=vb 65536 a*vb 65536 b:=r2
 rw[r2,am]
 have h1:=vb_bound h16 ha.1
 have h2:=vb_bound h16 hb.1
 have h3:vb 65536 a*vb 65536 b≤vb 65536 a*65536^b.length:=Int.mul_le_mul_of_nonneg_left om h1.1
 have h4:(0:Int)<65536^b.length:=Int.pow_pos ddc
 have h5:vb 65536 a*65536^b.length<65536^a.length*65536^b.length:=ai h1.2 h4
 omega
theorem odd_head {q:List Int} (hq:Ok3 q):Tot (fun _=>if (decide (((List.length q:Nat):Int)>0))=true then (Option.bind (idx q 0) fun x118=>(some ((((x118).tmod 2)==1)))) else (some (false))) (· =decide (vb 65536 q%2=1)):=by
 cases q with
 | nil=>exact Tot.if_ rfl (ab rfl)
 | cons x l=>
   refine Tot.it (dtt (show (((x::l).length:Nat):Int)>0 by simp)) (ac (a:=x) rfl (ab ?_))
   have hx:=hq.1 x (List.mem_cons_self ..)
   rw[Int.tmod_eq_emod_of_nonneg hx.1]
   show _=decide ((x+65536*vb 65536 l)%2=1)
   have:(x+65536*vb 65536 l)%2=x%2:=by omega
   rw[this]
   by_cases h:x%2=1<;>simp[h]
theorem scaled3_tot {num den:List Int} {n:Int} (h1:Ok3 num) (h2:Ok3 den) (l1:num.length≤1000) (l2:den.length≤1000) (n0: -4200≤n) (n1:n≤4200):
 Tot (fun fuel=>if (decide (n≥0))=true then (Option.bind (ref3_Ten fuel n) fun r4=>(Option.bind (ref3_Times fuel num r4) fun r16=>(some ((r16,den))))) else (Option.bind (ref3_Ten fuel (IntKind.i64.wrap (0-n))) fun r31=>(Option.bind (ref3_Times fuel den r31) fun r43=>(some ((num,r43))))))
  (fun j=>Ok3 j.1∧Ok3 j.2∧j.1.length≤6000∧j.2.length≤6000∧vb 65536 j.1=scA (vb 65536 num) n∧vb 65536 j.2=scB (vb 65536 den) n):=by
 unfold scA scB
 refine af (fun h=>?_) (fun h=>?_)
 ·have h:n≥0:=odt h
  have ht:=Ten_tot (n:=n.toNat) om
  rw[show ((n.toNat:Nat):Int)=n by omega]at ht
  refine aa ht fun t ⟨t1,t2,t3⟩=>aa (TimesL_tot h1 t1 om om) fun p ⟨p1,p2,p3⟩=>ab ⟨p1,h2,osm,osm,?_,?_⟩
  ·show vb 65536 p=_
   rw[if_pos om,p2,t2]
  ·rw[if_pos om]
 ·have h:¬ n≥0:=odf h
  rw[RI.i64_small om om]
  have ht:=Ten_tot (n:=(-n).toNat) om
  rw[show (((-n).toNat:Nat):Int)=0-n by omega]at ht
  refine aa ht fun t ⟨t1,t2,t3⟩=>aa (TimesL_tot h2 t1 om om) fun p ⟨p1,p2,p3⟩=>ab ⟨h1,p1,osm,osm,?_,?_⟩
  ·rw[if_neg om]
  ·show vb 65536 p=_
   rw[if_neg om,p2,t2]
theorem rounded_tot {num den:List Int} {n:Int} (h1:Ok3 num) (h2:Ok3 den) (l1:num.length≤1000) (l2:den.length≤1000) (n0: -4200≤n) (n1:n≤4200) (hd:0<vb 65536 den):
 Tot (fun fuel=>ref4_rounded fuel num den n) (fun r=>Ok3 r∧r.length≤6001∧vb 65536 r=nea (scA (vb 65536 num) n) (scB (vb 65536 den) n)):=by
 unfold ref4_rounded
 refine aa (scaled3_tot h1 h2 l1 l2 n0 n1) fun j ⟨a1,b1,a2,b2',a3,b3⟩=>?_
 obtain ⟨a,b⟩:=j
 simp only at a1 b1 a2 b2' a3 b3
 rw[← a3,← b3]
 have hb0:0<vb 65536 b:=by rw[b3];exact scB_pos hd
 have ha0:=(w_lt a1).1
 refine aa (Divide_tot (a:=a) (b:=b) a1 b1 om om hb0) fun r ⟨r1,r2,r3,r4⟩=>?_
 have hrl:r.2.length≤b.length:=len_lt_of r2 b1 (by rw[r4];exact Int.emod_lt_of_pos _ hb0)
 have hqn:0≤vb 65536 a/vb 65536 b:=Int.ediv_nonneg ha0 om
 have hql:r.1.length≤a.length:=by
  refine len16 r1 ?_
  have:=(vb_bound h16 a1.1).2
  have h3:vb 65536 a/vb 65536 b≤vb 65536 a:=Int.ediv_le_self _ ha0
  rw[r3];omega
 refine aa (Double_tot false r2 om) fun d ⟨d1,d2,d3⟩=>?_
 have d2:vb 65536 d=2*vb 65536 r.2:=by rw[d2];show _+0=_;omega
 refine aa (RI.Compare_tot (a:=d) (b:=b) d1 b1) fun c ⟨c1,c2⟩=>?_
 replace c1:c<0↔vb 65536 d<vb 65536 b:=c1
 replace c2:c=0↔vb 65536 d=vb 65536 b:=c2
 rw[d2,r4]at c1 c2
 refine aa (P:=(· =decide (vb 65536 b<2*(vb 65536 a%vb 65536 b)∨2*(vb 65536 a%vb 65536 b)=vb 65536 b∧vb 65536 a/vb 65536 b%2=1))) ?_ fun j hj=>?_
 ·refine af (fun h=>ab ?_) (fun h=>?_)
  ·have h:c>0:=odt h
   exact (dtt (.inl om)).symm
  ·have h:¬ c>0:=odf h
   refine af (fun h'=>?_) (fun h'=>ab ?_)
   ·have h':c=0:=by simpa using h'
    refine (odd_head r1).mono fun q hq=>?_
    rw[hq,r3]
    have e:=c2.1 h'
    have:¬ vb 65536 b<2*(vb 65536 a%vb 65536 b):=by omega
    refine decide_eq_decide.2 ⟨fun h=>.inr ⟨e,h⟩,fun h=>h.elim (fun h=>absurd h this) (·.2)⟩
   ·have h':c≠0:=by simpa using h'
    refine (dff ?_).symm
    rintro (h3 | ⟨h3,_⟩)
    ·have:¬ c<0:=fun h=>by have:=c1.1 h;omega
     omega
    ·exact h' (c2.2 h3)
 ·subst hj
  refine aa (P:=fun r=>Ok3 r∧r.length≤6001∧vb 65536 r=nea (vb 65536 a) (vb 65536 b)) ?_ fun q hq=>ab hq
  unfold nea
  refine af (fun h=>?_) (fun h=>ab ?_)
  ·rw[if_pos (odt h)]
   refine aa (Small_tot (n:=1) ddc ddc) fun s ⟨s1,s2,s3⟩=>?_
   refine aa (RI.Plus3_tot r1 s1 om om) fun t ⟨t1,t2⟩=>ab ?_
   replace t2:vb 65536 t=vb 65536 r.1+vb 65536 s:=t2
   rw[r3,s2]at t2
   refine ⟨t1,?_,t2⟩
   have hl:t.length≤a.length+1:=by
    refine len16 t1 ?_
    have h3:=(vb_bound h16 a1.1).2
    have h4:vb 65536 a/vb 65536 b≤vb 65536 a:=Int.ediv_le_self _ ha0
    have h5:(0:Int)<65536^a.length:=Int.pow_pos ddc
    rw[t2,Int.pow_succ];omega
   omega
  ·rw[if_neg (odf h)]
   exact ⟨r1,om,r3⟩
end Go.Gv.P
namespace Go.Gv.P
open Go Go.Gv Go.Gv.D Go.Gv.R Go.Lib
open Go.Gv.RI (val Dg Nz OkL OkI OkN vb Db IsB Ok3 HalveD_tot vb_big vb_bound vb_mono h16 vbits b2 Trim)
set_option maxRecDepth 100000
/-! ### the reference's groups and points -/
/-- digits with a sign where the rest is a multiple of z -/
def fg (z:Nat) (g:UInt8):List UInt8→List UInt8
 | []=>[]
 | c::r=>c::(if r≠[]∧r.length%z=0 then g::fg z g r else fg z g r)
theorem fg_short {z:Nat} {g:UInt8}:∀ {l:List UInt8},l.length≤z→fg z g l=l
 | [],_=>rfl
 | c::r,h=>by
   simp only[List.length_cons]at h
   unfold fg
   rw[if_neg,fg_short (l:=r) om]
   rintro ⟨h1,h2⟩
   have:0<r.length:=List.length_pos_iff.2 h1
   rw[Nat.mod_eq_of_lt om]at h2
   omega
theorem fg_app {z:Nat} {g:UInt8} {b:List UInt8} (hz:1≤z) (hb:b.length=z):∀ {a:List UInt8},a≠[]→fg z g (a++b)=fg z g a++g::b
 | [],h=>absurd rfl h
 | [c],_=>by
   show c::(if b≠[]∧b.length%z=0 then g::fg z g b else fg z g b)=(c::(if ([]:List UInt8)≠[]∧_ then _ else []))++g::b
   rw[if_pos ⟨fun e=>by rw[e]at hb;simp at hb;omega,by rw[hb];exact Nat.mod_self z⟩,fg_short om,if_neg (by simp)]
   rfl
 | c::d::a,_=>by
   have ih:=fg_app (g:=g) hz hb (a:=d::a) (by simp)
   show c::(if (d::a)++b≠[]∧((d::a)++b).length%z=0 then g::fg z g ((d::a)++b) else fg z g ((d::a)++b))=(c::(if (d::a)≠[]∧(d::a).length%z=0 then g::fg z g (d::a) else fg z g (d::a)))++g::b
   have he:((d::a)++b).length%z=(d::a).length%z:=by rw[ad,hb,Nat.add_mod_right]
   rw[he,ih]
   by_cases h:(d::a).length%z=0
   ·rw[if_pos ⟨by simp,h⟩,if_pos ⟨by simp,h⟩];simp
   ·rw[if_neg (fun q=>h q.2),if_neg (fun q=>h q.2)];simp
theorem join_snoc (g:UInt8) (x:List UInt8):∀ {ps:List (List UInt8)},ps≠[]→join (ps++[x]) [g]=join ps [g]++g::x
 | [],h=>absurd rfl h
 | p::ps,_=>by
   rw[List.cons_append,join_cons,join_cons]
   unfold joinTail
   simp
theorem gps_ne {z:Nat} (l:List UInt8):gps z l≠[]:=by
 unfold gps
 cases h:l.length with
 | zero=>simp[gp]
 | succ n=>unfold gp;split<;>simp
theorem fg_gps {z:Nat} {g:UInt8} (hz:1≤z):∀ (n:Nat) (l:List UInt8),l.length=n→fg z g l=join (gps z l) [g]:=by
 intro n
 induction n using Nat.strongRecOn with
 | _ n ih=>
   intro l hl
   by_cases h:z<l.length
   ·rw[gps_step hz h,join_snoc _ _ (gps_ne _),← ih (l.length-z) om (l.take (l.length-z)) (by simp),← fg_app hz oss (fun e=>by have:=congrArg List.length e;simp at this;omega),List.take_append_drop]
   ·rw[gps_last h,join_one,fg_short om]
theorem inGroups_tot {l:List UInt8} {g:Int} {z:Nat} (hg:g=0∨g=44∨g=95) (hz:1≤z) (hz':z≤4) (hl:l.length≤100000):
 Tot (fun n=>ref4_inGroups n (strOf l) g (z:Int)) (· =strOf (grp g z l)):=by
 unfold ref4_inGroups
 by_cases h0:g=0
 ·subst h0
  exact Tot.it rfl (ab rfl)
 ·refine Tot.if_ (by simpa using h0) ?_
  unfold grp
  rw[if_neg h0,← fg_gps hz l.length l rfl]
  have hu:u8 g=some (UInt8.ofNat g.toNat):=by rcases hg with h | h | h<;>subst h<;>first | exact absurd rfl h0 | rfl
  generalize UInt8.ofNat g.toNat=G at hu
  refine aa (P:=(· =strOf (fg z G l))) ?_ fun j hj=>by subst hj;exact ab rfl
  refine Tot.loop (fun (st:ByteArray × Int)=>∃ (i:Nat) (out:List UInt8),st=(strOf out,(i:Int))∧i≤l.length∧out.length≤2*i∧out++(if 0<i∧l.drop i≠[]∧(l.drop i).length%z=0 then G::fg z G (l.drop i) else fg z G (l.drop i))=fg z G l) (fun st=>l.length-st.2.toNat)
   ⟨0,[],rfl,om,by simp,by simp⟩ fun st ⟨i,out,e,hi,ho,h1⟩=>?_
  subst e
  simp only[size_str]
  refine af (fun h=>?_) (fun h=>ab ?_)
  ·have h:i<l.length:=by have:(i:Int)<(l.length:Int):=odt h;omega
   have hd:l.drop i=l[i]::l.drop (i+1):=List.drop_eq_getElem_cons h
   have hne:l.drop i≠[]:=fun e=>by rw[hd]at e;cases e
   have hdl:(l.drop i).length=l.length-i:=by simp
   rw[i64_small (x:=(l.length:Int)-(i:Int)) om om]
   refine aa (P:=(· =decide (0<i∧(l.drop i).length%z=0))) ?_ fun j hj=>?_
   ·refine af (fun h=>?_) (fun h=>ab ?_)
    ·have h:(i:Int)>0:=odt h
     refine ac (a:=()) (RI.nz_ok om) (ab ?_)
     rw[show (l.length:Int)-(i:Int)=((l.length-i:Nat):Int) by omega,Int.tmod_eq_emod_of_nonneg om,hdl]
     have h3:(((l.length-i:Nat):Int)%(z:Int))=(((l.length-i)%z:Nat):Int):=by omega
     rw[h3]
     by_cases h4:(l.length-i)%z=0
     ·rw[h4,dtt ⟨om,rfl⟩];rfl
     ·rw[dff (fun q=>h4 q.2)]
      simp only[beq_eq_false_iff_ne];omega
    ·have h:¬ (i:Int)>0:=odf h
     exact (dff (fun q=>by omega)).symm
   ·subst hj
    refine aa (P:=(· =strOf (out++(if 0<i∧(l.drop i).length%z=0 then [G] else [])))) ?_ fun j hj=>?_
    ·refine af (fun h=>?_) (fun h=>ab ?_)
     ·rw[if_pos (odt h)]
      exact ac hu (ac (cat_str oss) (ab rfl))
     ·rw[if_neg (odf h)];simp
    ·subst hj
     have hsl:(if 0<i∧(l.drop i).length%z=0 then [G] else ([]:List UInt8)).length≤1:=by split<;>simp
     rw[iw (x:=(i:Int)+1) (n:=i+1) om om]
     refine ac (ssub_str (l:=l) (i:=i) (j:=i+1) om om) (ac (cat_str (by simp at hsl ⊢;omega)) (ab ?_))
     refine ⟨⟨i+1,(out++(if 0<i∧(l.drop i).length%z=0 then [G] else []))++[l[i]],?_,om,by simp only[ad,List.length_singleton];omega,?_⟩,osm⟩
     ·congr 3
      rw[List.take_add_one,List.getElem?_eq_getElem h,List.drop_append_of_le_length oss]
      simp
     ·rw[← h1,hd]
      have e1:fg z G (l[i]::l.drop (i+1))=l[i]::(if l.drop (i+1)≠[]∧(l.drop (i+1)).length%z=0 then G::fg z G (l.drop (i+1)) else fg z G (l.drop (i+1))):=rfl
      have e2:(if 0<i+1∧l.drop (i+1)≠[]∧(l.drop (i+1)).length%z=0 then G::fg z G (l.drop (i+1)) else fg z G (l.drop (i+1)))=(if l.drop (i+1)≠[]∧(l.drop (i+1)).length%z=0 then G::fg z G (l.drop (i+1)) else fg z G (l.drop (i+1))):=by
       by_cases q:l.drop (i+1)≠[]∧(l.drop (i+1)).length%z=0
       ·rw[if_pos ⟨om,q⟩,if_pos q]
       ·rw[if_neg (fun k=>q k.2),if_neg q]
      rw[e2]
      generalize (if l.drop (i+1)≠[]∧(l.drop (i+1)).length%z=0 then G::fg z G (l.drop (i+1)) else fg z G (l.drop (i+1)))=T at e1 ⊢
      by_cases h4:0<i∧(l[i]::l.drop (i+1)).length%z=0
      ·rw[if_pos h4,if_pos ⟨h4.1,List.cons_ne_nil _ _,h4.2⟩,e1];simp
      ·rw[if_neg h4,if_neg (fun q=>h4 ⟨q.1,q.2.2⟩),e1];simp
  ·have h:i=l.length:=by have:¬ (i:Int)<(l.length:Int):=odf h;omega
   subst h
   rw[List.drop_length,if_neg (by simp)]at h1
   simpa [fg] using congrArg strOf h1
theorem figures_tot {n:List Int} (h:Ok3 n) (hl:n.length≤20000):Tot (fun fuel=>ref4_figures fuel n) (· =strOf (wn 10 (vb 65536 n))):=by
 unfold ref4_figures
 refine aa (TextOf_tot (neg:=false) h hl (.inr (.inr (.inl rfl)))) fun r hr=>ab ?_
 subst hr
 unfold tx
 split
 ·rename_i h0;rw[h0];rfl
 ·rfl
/-- a number with a point -/
def pnt (N:Int) (pl:Nat) (g:Int):List UInt8:=point pl (padZ pl (wn 10 N)) (grp g 3 ((padZ pl (wn 10 N)).take ((padZ pl (wn 10 N)).length-pl)))
theorem fixS_pnt (a b:Int) (pl:Nat) (g:Int):fixS a b pl g=pnt (nea (a*10^pl) b) pl g:=rfl
theorem wn3_len {n:List Int} (h:Ok3 n) {k:Nat} (hl:n.length≤k):1≤(wn 10 (vb 65536 n)).length∧(wn 10 (vb 65536 n)).length≤16*k+1:=by
 have hb:=w_lt h
 have:=dl_len (B:=10) ddc hb.1 hb.2
 unfold wn
 split
 ·simp
 ·rename_i h0
  have h1:dl 10 (vb 65536 n)≠[]:=fun e=>h0 ((dl_nil ddc hb.1).1 e)
  have:=List.length_pos_iff.2 h1
  simp;omega
theorem pointed_tot {n:List Int} {pl:Nat} {g:Int} (h:Ok3 n) (hl:n.length≤6100) (hp:pl≤500) (hg:g=0∨g=44∨g=95):
 Tot (fun fuel=>ref4_pointed fuel n (pl:Int) g) (fun r=>r=strOf (pnt (vb 65536 n) pl g)):=by
 unfold ref4_pointed
 have hw:=wn3_len h hl
 refine aa (figures_tot h om) fun r hr=>?_
 subst hr
 unfold pnt
 generalize wn 10 (vb 65536 n)=D at hw ⊢
 refine aa (P:=(· =strOf (padZ pl D))) ?_ fun j hj=>?_
 ·refine Tot.loop (fun st=>∃ k:Nat,st=strOf (ag k 48++D)∧k≤pl+1-D.length) (fun st=>pl+1-st.size) ⟨0,rfl,om⟩ fun st ⟨k,e,hk⟩=>?_
  subst e
  simp only[size_str]
  have hll:(ag k (48:UInt8)++D).length=k+D.length:=by simp
  refine af (fun h=>?_) (fun h=>ab ?_)
  ·have h:((ag k (48:UInt8)++D).length:Int)≤(pl:Int):=odt h
   rw[hll]at h
   refine ac (cat_str oss) (ab ⟨⟨k+1,rfl,om⟩,?_⟩)
   simp only[size_str]
   simp;omega
  ·have h:¬ ((ag k (48:UInt8)++D).length:Int)≤(pl:Int):=odf h
   rw[hll]at h
   unfold padZ
   rw[show k=pl+1-D.length by omega]
 ·subst hj
  have hz:(padZ pl D).length=max (pl+1) D.length:=by unfold padZ;simp;omega
  generalize padZ pl D=Z at hz ⊢
  simp only[size_str]
  rw[iw (x:=(Z.length:Int)-(pl:Int)) (n:=Z.length-pl) om om]
  refine ac (ssub_str (l:=Z) (i:=0) om om) ?_
  rw[List.drop_zero]
  refine aa (inGroups_tot (z:=3) hg ddc ddc oss) fun r hr=>?_
  subst hr
  have hgl:=grp_len (g:=g) (z:=3) ddc (Z.take (Z.length-pl))
  have htl:(Z.take (Z.length-pl)).length≤100000:=by simp;omega
  have hgl2:(grp g 3 (Z.take (Z.length-pl))).length≤300000:=by omega
  refine aa (P:=(· =strOf (point pl Z (grp g 3 (Z.take (Z.length-pl)))))) ?_ fun j hj=>ab hj
  unfold point
  refine af (fun h=>?_) (fun h=>ab ?_)
  ·have h:(pl:Int)>0:=odt h
   rw[if_pos om]
   refine ac (ssub_str (l:=Z) om (Nat.le_refl _)) (ac (cat_str oss) (ac (cat_str (by simp only[ad,List.length_cons,List.length_drop,List.length_nil,List.length_take];omega)) (ab ?_)))
   rw[List.take_length];rfl
  ·have h:¬ (pl:Int)>0:=odf h
   rw[if_neg om]
end Go.Gv.P
namespace Go.Gv.P
open Go Go.Gv Go.Gv.D Go.Gv.R Go.Lib
open Go.Gv.RI (val Dg Nz OkL OkI OkN vb Db IsB Ok3 HalveD_tot vb_big vb_bound vb_mono h16 vbits b2 Trim)
set_option maxRecDepth 100000
/-! ### the first digit's exponent, and numbers with an exponent -/
theorem IsB10:IsB 10:=.inr (.inr (.inl rfl))
theorem tenp (n:Nat):(0:Int)<10^n:=Int.pow_pos ddc
theorem wn_bounds {V:Int} (h:0<V):10^((wn 10 V).length-1)≤V∧V<10^(wn 10 V).length∧1≤(wn 10 V).length:=by
 obtain ⟨d1,d2,d3⟩:=dl_ok (B:=10) ddc (ah h)
 have hne:dl 10 V≠[]:=fun e=>by have:=(dl_nil (B:=10) ddc (ah h)).1 e;omega
 have hl:(wn 10 V).length=(dl 10 V).length:=by unfold wn;rw[if_neg om];simp
 have h1:=vb_big ddc d1 d3 hne
 have h2:=(vb_bound (b:=10) ddc d1).2
 rw[d2]at h1 h2
 rw[hl]
 exact ⟨h1,h2,List.length_pos_iff.2 hne⟩
theorem wn_len_eq {V:Int} {k:Nat} (h1:10^k≤V) (h2:V<10^(k+1)):(wn 10 V).length=k+1:=by
 have hp:=tenp k
 obtain ⟨a1,a2,a3⟩:=wn_bounds (V:=V) om
 rcases Nat.lt_trichotomy (wn 10 V).length (k+1) with h | h | h
 ·have:=vb_mono (b:=10) ddc (show (wn 10 V).length≤k by omega);omega
 ·exact h
 ·have:=vb_mono (b:=10) ddc (show k+1≤(wn 10 V).length-1 by omega);omega
/-- both sides of a quotient scaled: one power of ten for all -/
theorem sc_iff {a b c n:Int} {M:Nat} (hM: -(M:Int)≤n) (hn:n≤M):(c*scB b n≤scA a n↔c*(b*10^M)≤a*10^(M+n).toNat):=by
 unfold scA scB
 by_cases h:0≤n
 ·rw[if_pos h,if_pos h,show (M+n).toNat=n.toNat+M by omega,am,← ak,← ak]
  exact ⟨fun h=>ae h (ah (tenp M)),fun h=>aj h (tenp M)⟩
 ·rw[if_neg h,if_neg h]
  have e:(10:Int)^M=10^(-n).toNat*10^(M+n).toNat:=by rw[← am];congr 1;omega
  have e3:c*(b*(10^(-n).toNat*10^(M+n).toNat))=c*(b*10^(-n).toNat)*10^(M+n).toNat:=by simp only[ak]
  rw[e,e3]
  exact ⟨fun h=>ae h (ah (tenp _)),fun h=>aj h (tenp _)⟩
/-- 10^f is at most a / b -/
def Q (a b f:Int):Prop:=scB b (-f)≤scA a (-f)
theorem Q_iff {a b f:Int} {M:Nat} (h1: -(M:Int)≤f) (h2:f≤M):(Q a b f↔b*10^M≤a*10^(M-f).toNat):=by
 have:=sc_iff (a:=a) (b:=b) (c:=1) (n:= -f) (M:=M) om om
 rw[Int.one_mul,Int.one_mul,show (M:Int)+ -f=M-f by omega]at this
 exact this
theorem expo_spec {a b:Int} (ha:0<a) (hb:0<b):Q a b (expo a b)∧¬ Q a b (expo a b+1):=by
 obtain ⟨a1,a2,a3⟩:=wn_bounds ha
 obtain ⟨b1,b2',b3⟩:=wn_bounds hb
 unfold expo
 generalize hLa:(wn 10 a).length=La at*
 generalize hLb:(wn 10 b).length=Lb at*
 have up:¬ Q a b ((La:Int)-(Lb:Int)+1):=by
  rw[Q_iff (M:=La+Lb+2) om om,show (((La+Lb+2:Nat):Int)-((La:Int)-(Lb:Int)+1)).toNat=2*Lb+1 by omega]
  have h1:a*10^(2*Lb+1)<10^La*10^(2*Lb+1):=ai a2 (tenp _)
  have h2:(10:Int)^(Lb-1)*10^(La+Lb+2)≤b*10^(La+Lb+2):=ae b1 (ah (tenp _))
  rw[← am]at h1 h2
  rw[show Lb-1+(La+Lb+2)=La+(2*Lb+1) by omega]at h2
  omega
 have low:Q a b ((La:Int)-(Lb:Int)-1):=by
  rw[Q_iff (M:=La+Lb+2) om om,show (((La+Lb+2:Nat):Int)-((La:Int)-(Lb:Int)-1)).toNat=2*Lb+3 by omega]
  have h1:10^(La-1)*10^(2*Lb+3)≤a*10^(2*Lb+3):=ae a1 (ah (tenp _))
  have h2:b*10^(La+Lb+2)<10^Lb*10^(La+Lb+2):=ai b2' (tenp _)
  rw[← am]at h1 h2
  rw[show La-1+(2*Lb+3)=Lb+(La+Lb+2) by omega]at h1
  omega
 split
 ·rename_i h
  refine ⟨low,?_⟩
  rw[show (La:Int)-(Lb:Int)-1+1=(La:Int)-(Lb:Int) by omega]
  unfold Q
  omega
 ·rename_i h
  refine ⟨?_,up⟩
  unfold Q
  omega
theorem Q_top {a b:Int} (ha:0<a) (hb:0<b):¬ Q a b (((wn 10 a).length:Int)-((wn 10 b).length:Int)+1):=by
 have h:=(expo_spec ha hb).2
 intro hq
 apply h
 unfold expo
 split
 ·rename_i hlt
  rw[show ((wn 10 a).length:Int)-((wn 10 b).length:Int)-1+1=((wn 10 a).length:Int)-((wn 10 b).length:Int) by omega]
  generalize ((wn 10 a).length:Int)-((wn 10 b).length:Int)=f at*
  have e1:=(Q_iff (a:=a) (b:=b) (f:=f+1) (M:=f.natAbs+2) om om).1 hq
  refine (Q_iff (a:=a) (b:=b) (f:=f) (M:=f.natAbs+2) om om).2 ?_
  rw[show (((f.natAbs+2:Nat):Int)-f).toNat=(((f.natAbs+2:Nat):Int)-(f+1)).toNat+1 by omega]
  have e2:a*10^((((f.natAbs+2:Nat):Int)-(f+1)).toNat+1)=a*10^(((f.natAbs+2:Nat):Int)-(f+1)).toNat*10:=by rw[Int.pow_succ,ak]
  rw[e2]
  have h0:0≤a*10^(((f.natAbs+2:Nat):Int)-(f+1)).toNat:=Int.mul_nonneg om (ah (tenp _))
  omega
 ·exact hq
theorem First_tot {a b:List Int} (ha:Ok3 a) (hb:Ok3 b) (la:a.length≤256) (lb:b.length≤256) (h1:0<vb 65536 a) (h2:0<vb 65536 b):
 Tot (fun fuel=>ref3_Exact_First fuel (false,a,b,0)) (· =expo (vb 65536 a) (vb 65536 b)):=by
 unfold ref3_Exact_First
 have wa:=wn3_len ha la
 have wb:=wn3_len hb lb
 have ea:(dl 10 (vb 65536 a)).reverse.length=(wn 10 (vb 65536 a)).length:=by unfold wn;rw[if_neg om];simp
 have eb:(dl 10 (vb 65536 b)).reverse.length=(wn 10 (vb 65536 b)).length:=by unfold wn;rw[if_neg om];simp
 refine aa (Figures_tot ha (show a.length≤20000 by omega) IsB10) fun r hr=>?_
 subst hr
 refine aa (Figures_tot hb (show b.length≤20000 by omega) IsB10) fun r hr=>?_
 subst hr
 rw[ea,eb]
 have htop:=Q_top h1 h2
 have hsp:=expo_spec h1 h2
 have hle:expo (vb 65536 a) (vb 65536 b)≤((wn 10 (vb 65536 a)).length:Int)-((wn 10 (vb 65536 b)).length:Int)∧((wn 10 (vb 65536 a)).length:Int)-((wn 10 (vb 65536 b)).length:Int)-1≤expo (vb 65536 a) (vb 65536 b):=by
  unfold expo;split<;>omega
 generalize (wn 10 (vb 65536 a)).length=La at*
 generalize (wn 10 (vb 65536 b)).length=Lb at*
 show Tot (fun fuel=>Option.bind (some (IntKind.i64.wrap (IntKind.i64.wrap (IntKind.i64.wrap ((La:Int)-(Lb:Int))+0)+1))) _) _
 rw[i64_small (x:=(La:Int)-(Lb:Int)) om om,i64_small (x:=(La:Int)-(Lb:Int)+0) om om,i64_small (x:=(La:Int)-(Lb:Int)+0+1) om om]
 refine Tot.some_bind ?_
 refine aa (P:=fun j=>∃ f:Int,j= .inr f∧f=expo (vb 65536 a) (vb 65536 b)) ?_ fun j ⟨f,hj,hf⟩=>by subst hj;exact ab hf
 refine Tot.loop (fun (f:Int)=>expo (vb 65536 a) (vb 65536 b)≤f∧f≤(La:Int)-(Lb:Int)+1∧(f≠expo (vb 65536 a) (vb 65536 b)→¬ Q (vb 65536 a) (vb 65536 b) f)) (fun f=>(f+10000).toNat) ⟨om,om,fun _=>by rw[Int.add_zero];exact htop⟩ fun f ⟨f1,f2,f3⟩=>?_
 refine aa (P:=fun j=>Ok3 j.1∧Ok3 j.2∧vb 65536 j.1=scA (vb 65536 a) (-f)∧vb 65536 j.2=scB (vb 65536 b) (-f)) ?_ fun j ⟨j1,j2,j3,j4⟩=>?_
 ·unfold ref3_Exact_parts
  have hs:=scaled3_tot (n:= -f) ha hb om om om om
  show Tot (fun n=>if (decide (IntKind.i64.wrap (0-f)≥0))=true then (Option.bind (ref3_Ten n (IntKind.i64.wrap (0-f))) fun r12=>(Option.bind (ref3_Times n a r12) fun r26=>(some ((r26,b))))) else (Option.bind (ref3_Ten n (IntKind.i64.wrap (f-0))) fun r45=>(Option.bind (ref3_Times n b r45) fun r59=>(some ((a,r59)))))) _
  rw[i64_small (x:=0-f) om om,i64_small (x:=f-0) om om]
  rw[i64_small (x:=0- -f) om om]at hs
  rw[show 0-f= -f by omega,show f-0=0- -f by omega]
  exact hs.mono fun j ⟨q1,q2,_,_,q5,q6⟩=>⟨q1,q2,q5,q6⟩
 ·refine aa (RI.Compare_tot j1 j2) fun c ⟨c1,c2⟩=>?_
  replace c1:c<0↔vb 65536 j.1<vb 65536 j.2:=c1
  rw[j3,j4]at c1
  refine af (fun h=>ab ⟨f,rfl,?_⟩) (fun h=>ab ?_)
  ·have h:c≥0:=odt h
   rcases Int.lt_trichotomy f (expo (vb 65536 a) (vb 65536 b)) with g | g | g
   ·omega
   ·exact g
   ·exfalso
    exact f3 om (by unfold Q;omega)
  ·have h:¬ c≥0:=odf h
   have hne:f≠expo (vb 65536 a) (vb 65536 b):=fun e=>by
    have:=hsp.1
    rw[← e]at this
    unfold Q at this
    omega
   rw[i64_small (x:=f-1) om om]
   refine ⟨⟨om,om,fun hx=>?_⟩,om⟩
   have:f=(La:Int)-(Lb:Int)+1∨f=(La:Int)-(Lb:Int):=by omega
   have hf:f-1=expo (vb 65536 a) (vb 65536 b)+1:=by omega
   rw[hf];exact hsp.2
end Go.Gv.P
namespace Go.Gv.P
open Go Go.Gv Go.Gv.D Go.Gv.R Go.Lib
open Go.Gv.RI (val Dg Nz OkL OkI OkN vb Db IsB Ok3 HalveD_tot vb_big vb_bound vb_mono h16 vbits b2 Trim)
set_option maxRecDepth 100000
/-! ### numbers with an exponent -/
theorem wn_itoa:(List.range 1400).all (fun n=>wn 10 (n:Int)==itoa (n:Int))=true:=by kernel_rfl
theorem decimal3_tot {x:Int} (h0: -1400<x) (h1:x<1400):Tot (fun n=>ref4_decimal n x) (· =strOf ((if x<0 then [45] else [])++itoa (x.natAbs:Int))):=by
 unfold ref4_decimal
 refine aa (RI.Number_tot (n:=x) om om) fun r ⟨r1,r2,r3⟩=>?_
 obtain ⟨neg,l⟩:=r
 simp only at r1 r2 r3
 replace r3:vb 65536 l=(x.natAbs:Int):=r3
 have hl:l.length≤1:=len16 r2 (by rw[r3];omega)
 refine aa (TextOf_tot (neg:=neg) r2 om IsB10) fun t ht=>ab ?_
 subst ht
 rw[r3]
 have hw:wn 10 (x.natAbs:Int)=itoa (x.natAbs:Int):=eq_of_beq (List.all_eq_true.1 wn_itoa x.natAbs (List.mem_range.2 om))
 unfold tx
 rw[hw]
 congr 1
 split
 ·rename_i hz
  have:x=0:=by omega
  subst this
  exact (odt (by kernel_rfl):([48]:List UInt8)=[]++itoa 0)
 ·subst r1
  by_cases h:x<0<;>simp[h]
theorem nea_bounds {A B:Int} {k:Nat} (hA:0≤A) (hB:0<B) (h1:10^k*B≤A) (h2:A<10^(k+1)*B):10^k≤nea A B∧nea A B≤10^(k+1):=by
 have q1:10^k≤A/B:=(Int.le_ediv_iff_mul_le hB).2 h1
 have q2:A/B<10^(k+1):=Int.ediv_lt_of_lt_mul hB h2
 unfold nea
 split<;>omega
theorem nea_len {a b:Int} (ha:0<a) (hb:0<b) (pl:Nat):
 10^pl≤nea (scA a (pl-expo a b)) (scB b (pl-expo a b))∧nea (scA a (pl-expo a b)) (scB b (pl-expo a b))≤10^(pl+1):=by
 obtain ⟨h1,h2⟩:=expo_spec ha hb
 generalize expo a b=e at*
 have hM:∃ M:Nat,M=e.natAbs+pl+2:=⟨_,rfl⟩
 obtain ⟨M,hM⟩:=hM
 rw[Q_iff (M:=M) om om]at h1 h2
 have k1:(M+((pl:Int)-e)).toNat=((M:Int)-e).toNat+pl:=by omega
 have k2:(M+((pl:Int)-e)).toNat=((M:Int)-(e+1)).toNat+(pl+1):=by omega
 refine nea_bounds (scA_nonneg om) (scB_pos hb) ?_ ?_
 ·have e2:a*10^(((M:Int)-e).toNat+pl)=a*10^((M:Int)-e).toNat*10^pl:=by rw[am,ak]
  rw[sc_iff (M:=M) om om,k1,e2,Int.mul_comm (10^pl)]
  exact ae h1 (ah (tenp _))
 ·have:¬ 10^(pl+1)*scB b ((pl:Int)-e)≤scA a ((pl:Int)-e):=by
   have e2:a*10^(((M:Int)-(e+1)).toNat+(pl+1))=a*10^((M:Int)-(e+1)).toNat*10^(pl+1):=by rw[am,ak]
   rw[sc_iff (M:=M) om om,k2,e2,Int.mul_comm (10^(pl+1))]
   intro h
   exact h2 (aj h (tenp _))
  omega
theorem wn_tenth {N:Int} (h:10≤N):(wn 10 (N/10))=(wn 10 N).take ((wn 10 N).length-1):=by
 have h1:0<N/10:=by omega
 unfold wn
 rw[if_neg om,if_neg om,dl_step ddc (show 0<N by omega)]
 simp
theorem wn_pow {k:Nat}:(wn 10 (10^k)).length=k+1:=wn_len_eq (Int.le_refl _) (by rw[Int.pow_succ];have:=tenp k;omega)
/-- what the reference writes ahead of the exponent -/
theorem pnt_mant {N:Int} {pl:Nat} {D:List UInt8} (hD:wn 10 N=D) (hl:D.length=pl+1):pnt N pl 0=D.take 1++(if 0<pl then 46::D.drop 1 else []):=by
 unfold pnt
 rw[hD]
 have hz:padZ pl D=D:=by unfold padZ;rw[show pl+1-D.length=0 by omega];rfl
 rw[hz,show D.length-pl=1 by omega]
 unfold grp point
 rw[if_pos rfl,show D.length-pl=1 by omega]
 split<;>simp
theorem powered_tot {a b:List Int} (ha:Ok3 a) (hb:Ok3 b) (la:a.length≤256) (lb:b.length≤256) (h2:0<vb 65536 b) {pl:Nat} (hp:pl≤400) (he1: -1301≤expo (vb 65536 a) (vb 65536 b)) (he2:expo (vb 65536 a) (vb 65536 b)≤1300):
 Tot (fun fuel=>ref4_powered fuel a b (pl:Int)) (· =strOf (sciS (vb 65536 a) (vb 65536 b) pl)):=by
 unfold ref4_powered
 have ha0:=(w_lt ha).1
 have hpos:=nil_of_w ha
 refine aa (P:=(· =if vb 65536 a=0 then 0 else expo (vb 65536 a) (vb 65536 b))) ?_ fun f hf=>?_
 ·refine af (fun h=>?_) (fun h=>ab ?_)
  ·have h:0<vb 65536 a:=hpos.1 (by have:((a.length:Nat):Int)>0:=odt h;omega)
   rw[if_neg om]
   exact aa (First_tot ha hb la lb h h2) fun r hr=>ab hr
  ·have h:¬ 0<a.length:=by have:¬ ((a.length:Nat):Int)>0:=odf h;omega
   rw[if_pos (by have:=fun q=>h (hpos.2 q);omega)]
 ·have hfb: -1301≤f∧f≤1300:=by rw[hf];split<;>omega
  rw[i64_small (x:=(pl:Int)-f) om om]
  refine aa (rounded_tot ha hb om om om om h2) fun n ⟨n1,n2,n3⟩=>?_
  refine aa (figures_tot n1 om) fun d hd=>?_
  subst hd
  rw[size_str,n3,i64_small (x:=(pl:Int)+1) om om]
  refine aa (P:=fun j=> -1301≤j.1∧j.1≤1301∧Ok3 j.2∧j.2.length≤6100∧j.1=(mant (vb 65536 a) (vb 65536 b) pl).1∧pnt (vb 65536 j.2) pl 0=(mant (vb 65536 a) (vb 65536 b) pl).2.take 1++(if 0<pl then 46::(mant (vb 65536 a) (vb 65536 b) pl).2.drop 1 else [])) ?_ fun j ⟨j1,j2,j3,j4,j5,j6⟩=>?_
  ·by_cases h0:vb 65536 a=0
   ·rw[if_pos h0]at hf
    subst hf
    have hN:nea (scA (vb 65536 a) ((pl:Int)-0)) (scB (vb 65536 b) ((pl:Int)-0))=0:=by
     have hA:scA (vb 65536 a) ((pl:Int)-0)=0:=by unfold scA;rw[h0];split<;>simp
     have hB:=scB_pos (n:=(pl:Int)-0) h2
     rw[hA]
     unfold nea
     rw[Int.zero_emod,Int.zero_ediv,if_neg om]
    rw[hN]at n3 ⊢
    have hw:wn 10 0=[48]:=rfl
    rw[hw]
    refine Tot.if_ (dff oss) (ab ⟨osm,osm,n1,osm,?_,?_⟩)
    ·unfold mant;rw[if_pos h0]
    ·unfold mant
     rw[if_pos h0]
     simp only
     have hz:padZ pl [48]=ag (pl+1) 48:=by
      unfold padZ
      rw[show pl+1-[(48:UInt8)].length=pl by simp,List.replicate_succ']
     unfold pnt
     rw[n3,hw,hz]
     unfold grp point
     rw[if_pos rfl,List.length_replicate,show pl+1-pl=1 by omega]
     split<;>simp
   ·rw[if_neg h0]at hf
    subst hf
    have hap:0<vb 65536 a:=by omega
    obtain ⟨q1,q2⟩:=nea_len hap h2 pl
    generalize hN:nea (scA (vb 65536 a) ((pl:Int)-expo (vb 65536 a) (vb 65536 b))) (scB (vb 65536 b) ((pl:Int)-expo (vb 65536 a) (vb 65536 b)))=N at n3 q1 q2 ⊢
    have hm:mant (vb 65536 a) (vb 65536 b) pl=if pl+1<(wn 10 N).length then (expo (vb 65536 a) (vb 65536 b)+1,(wn 10 N).take (pl+1)) else (expo (vb 65536 a) (vb 65536 b),wn 10 N):=by
     unfold mant
     rw[if_neg h0,hN]
    rw[hm]
    refine af (fun h=>?_) (fun h=>ab ?_)
    ·have h:pl+1<(wn 10 N).length:=by have:((wn 10 N).length:Int)>(pl:Int)+1:=odt h;omega
     rw[if_pos h]
     have hle:N=10^(pl+1):=by
      rcases Classical.em (N<10^(pl+1)) with g | g
      ·have:=wn_len_eq q1 g;omega
      ·omega
     have hlen:(wn 10 N).length=pl+2:=by rw[hle];exact wn_pow
     have h10:10≤N:=by
      rw[hle,Int.pow_succ]
      have:=tenp pl;omega
     refine aa (HalveD_tot (d:=10) n1 om ddc ddc) fun r ⟨r1,r2,r3,r4⟩=>ab ?_
     replace r2:vb 65536 r.1=vb 65536 n/10:=r2
     rw[i64_small om om]
     refine ⟨osm,osm,r1,osm,rfl,?_⟩
     show pnt (vb 65536 r.1) pl 0=_
     rw[r2,n3]
     have hw:=wn_tenth h10
     rw[hlen,show pl+2-1=pl+1 by omega]at hw
     exact pnt_mant hw oss
    ·have h:¬ pl+1<(wn 10 N).length:=by have:¬ ((wn 10 N).length:Int)>(pl:Int)+1:=odf h;omega
     rw[if_neg h]
     have hlen:(wn 10 N).length=pl+1:=by
      rcases Classical.em (N<10^(pl+1)) with g | g
      ·exact wn_len_eq q1 g
      ·exfalso
       have hle:N=10^(pl+1):=by omega
       rw[hle,wn_pow]at h
       omega
     refine ⟨osm,osm,n1,osm,rfl,?_⟩
     show pnt (vb 65536 n) pl 0=_
     rw[n3]
     exact pnt_mant rfl hlen
  ·obtain ⟨f',n'⟩:=j
   simp only at j1 j2 j3 j4 j5 j6
   refine aa (pointed_tot (g:=0) j3 j4 om (.inl rfl)) fun o ho=>?_
   subst ho
   unfold sciS
   rw[← j6,← j5]
   have hol:(pnt (vb 65536 n') pl 0).length≤300000:=by
    have:=wn3_len j3 j4
    unfold pnt point grp padZ
    rw[if_pos rfl]
    split<;>simp<;>omega
   generalize pnt (vb 65536 n') pl 0=O at hol ⊢
   have hit:=(itoa4 (n:=f'.natAbs) om).2.2
   unfold expS
   refine af (fun h=>?_) (fun h=>af (fun h2=>?_) (fun h2=>af (fun h3=>?_) (fun h3=>?_)))
   ·simp only[Bool.and_eq_true,decide_eq_true_eq]at h
    refine ac (cat_str oss) ?_
    rw[i64_small om om]
    refine aa (decimal3_tot (x:=0-f') om om) fun d hd=>?_
    subst hd
    rw[if_neg om,show (0-f').natAbs=f'.natAbs by omega,List.nil_append]
    refine ac (cat_str oss) (ab ?_)
    rw[if_pos h.2,if_pos om]
    simp
   ·have h2:f'<0:=odt h2
    have h':¬ f'> -10:=fun q=>by rw[dtt q,dtt h2]at h;cases h
    refine ac (cat_str oss) ?_
    refine aa (decimal3_tot (x:=f') om om) fun d hd=>?_
    subst hd
    rw[if_pos h2]
    refine ac (cat_str oss) (ab ?_)
    rw[if_pos h2,if_neg om]
    simp
   ·have h2:¬ f'<0:=odf h2
    have h3:f'<10:=odt h3
    refine ac (cat_str oss) ?_
    refine aa (decimal3_tot (x:=f') om om) fun d hd=>?_
    subst hd
    rw[if_neg h2,List.nil_append]
    refine ac (cat_str oss) (ab ?_)
    rw[if_neg h2,if_pos om]
    simp
   ·have h2:¬ f'<0:=odf h2
    have h3:¬ f'<10:=odf h3
    refine ac (cat_str oss) ?_
    refine aa (decimal3_tot (x:=f') om om) fun d hd=>?_
    subst hd
    rw[if_neg h2,List.nil_append]
    refine ac (cat_str oss) (ab ?_)
    rw[if_neg h2,if_neg om]
    simp
end Go.Gv.P
namespace Go.Gv.P
open Go Go.Gv Go.Gv.D Go.Gv.R Go.Lib
set_option maxRecDepth 100000
/-! ### what is read is well-formed; filling -/
theorem tk_val (S:List UInt8) (l:List Nat):(tk S l).1=0∨((tk S l).1<128∧inB S ((tk S l).1:Int)=true):=by
 cases l with
 | nil=>exact .inl rfl
 | cons c r=>
   have e:tk S (c::r)=if inC S c=true then (c,r) else (0,c::r):=rfl
   rw[e]
   by_cases h:inC S c=true
   ·rw[if_pos h]
    right
    have h1:=inC_lt h
    refine ⟨h1,?_⟩
    unfold inC at h
    rw[Bool.and_eq_true]at h
    exact h.2
   ·rw[if_neg h];exact .inl rfl
theorem rdP_good {fill:Int} {l:List Nat} {s:Sp} (hf:fill=0∨(Scal fill.toNat∧0≤fill∧fill≠123∧fill≠125∧(tk AL l).1≠0)) (h:rdP fill l=(s,(0,0))):Good s:=by
 unfold rdP at h
 simp only at h
 split at h
 ·cases h
 ·rename_i h1
  split at h
  ·cases h
  ·rename_i h2
   have e:=(Prod.mk.inj h).1
   subst e
   have a:=tk_val AL l
   have g:=tk_val SG (tk AL l).2
   have gr:=tk_val GR (wd (tk ZE (tk BA (tk SG (tk AL l).2).2).2).2).2
   generalize hp:prc (tk PT (tk GR (wd (tk ZE (tk BA (tk SG (tk AL l).2).2).2).2).2).2)=pr at*
   have ty:=tk_val TY pr.2.2
   have hpz:pr.1=false→pr.2.1=0:=by
    rw[← hp]
    unfold prc
    split
    ·intro h;cases h
    ·intro _;rfl
   have hw:0≤(wd (tk ZE (tk BA (tk SG (tk AL l).2).2).2).2).1:=by
    unfold wd
    split
    ·exact Int.le_refl _
    ·simp only
     split<;>omega
   refine ⟨⟨osm,osm,osm,osm⟩,?_,?_,?_,?_,?_,⟨hw,osm⟩,⟨osm,osm⟩,hpz⟩
   ·rcases hf with hf | ⟨f1,f2,f3,f4,f5⟩
    ·exact .inl hf
    ·exact .inr ⟨f1,f2,f3,f4,osm⟩
   ·exact a.imp (fun h=>by simp only;omega) (·.2)
   ·exact g.imp (fun h=>by simp only;omega) (·.2)
   ·exact gr.imp (fun h=>by simp only;omega) (·.2)
   ·exact ty.imp (fun h=>by simp only;omega) (·.2)
theorem rd_good {p:List Nat} (hp:∀ r∈p,Scal r) {s:Sp} (h:rd p=(s,(0,0))):Good s:=by
 unfold rd at h
 split at h
 ·rename_i c d r
  split at h
  ·rename_i hd
   split at h
   ·cases h
   ·rename_i hc
    refine rdP_good (.inr ⟨?_,om,om,om,?_⟩) h
    ·have:=hp c (List.mem_cons_self ..)
     simpa using this
    ·have e:tk AL (d::r)=if inC AL d=true then (d,r) else (0,d::r):=rfl
     rw[e,if_pos hd]
     intro e
     simp only at e
     subst e
     cases hd
  ·exact rdP_good (.inl rfl) h
 ·exact rdP_good (.inl rfl) h
theorem filling_tot {c:Nat} (hc:Scal c) {n:Nat} (hn:n≤100000):Tot (fun k=>ref4_filling k (c:Int) (n:Int)) (· =strOf (enc (ag n c))):=by
 unfold ref4_filling
 refine aa (P:=(· =ints (ag n c))) ?_ fun j hj=>?_
 ·refine Tot.loop (fun (st:Int × List Int)=>∃ i:Nat,st.1=(i:Int)∧i≤n∧st.2=ints (ag (n-i) c)) (fun st=>st.1.toNat) ⟨n,rfl,Nat.le_refl _,by simp[ints]⟩ fun st ⟨i,e,hi,h1⟩=>?_
  obtain ⟨k,out⟩:=st
  simp only at e h1
  subst e;subst h1
  refine af (fun h=>?_) (fun h=>ab ?_)
  ·have h:(i:Int)>0:=odt h
   refine ac (app_ok (by simp[ints];omega)) (ab ?_)
   rw[i64_small om om]
   refine ⟨⟨i-1,osm,om,?_⟩,osm⟩
   rw[show n-(i-1)=(n-i)+1 by omega,List.replicate_succ']
   simp[ints]
  ·have h:¬ (i:Int)>0:=odf h
   have:i=0:=by omega
   subst this
   rfl
 ·subst hj
  refine aa (String_tot (fun r hr=>by rw[List.eq_of_mem_replicate hr];exact hc) oss) fun r hr=>ab hr
theorem cat3 {p q:List Nat} (h:(enc p).length+(enc q).length≤9223372036854775807):cat (strOf (enc p)) (strOf (enc q))=some (strOf (enc (p++q))):=by
 rw[cat_str h,enc_app]
theorem filled_tot {ph pb:List Nat} (h1:∀ r∈ph,Scal r) (h2:∀ r∈pb,Scal r) (l1:(enc ph).length≤1000) (l2:(enc pb).length≤200000) {left:Bool} {s:Sp} (g:Good s):
 Tot (fun k=>ref4_filled k (strOf (enc ph)) (strOf (enc pb)) s left) (· =strOf (enc (padP ph pb left s))):=by
 have hf:=fill_scal g
 have hw:=g.w
 unfold ref4_filled
 refine aa (P:=(· =(fillN s:Int))) ?_ fun j2 hj2=>?_
 ·unfold fillN
  refine af (fun h=>?_) (fun h=>ab ?_)
  ·have h:s.1=0:=by simpa using h
   rw[if_pos h]
   exact af (fun h=>ab (by rw[if_pos h];rfl)) (fun h=>ab (by rw[if_neg (by rw[h];decide)];rfl))
  ·have h:s.1≠0:=by simpa using h
   rw[if_neg h]
   rcases g.fill with q | q
   ·exact absurd q h
   ·omega
 subst hj2
 refine aa (P:=(· =alN left s)) ?_ fun j3 hj3=>?_
 ·unfold alN
  refine af (fun h=>ab ?_) (fun h=>?_)
  ·rw[if_neg (by simpa using h)]
  ·rw[if_pos (show s.2.1=0 by simpa using h)]
   cases left with
   | true=>exact Tot.it rfl (ab rfl)
   | false=>
     refine Tot.if_ rfl ?_
     cases hz:s.2.2.2.2.1 with
     | true=>exact Tot.it rfl (ab rfl)
     | false=>exact Tot.if_ rfl (ab rfl)
 subst hj3
 refine ac (cat3 om) ?_
 refine aa (points_enc (fun r hr=>(List.mem_append.1 hr).elim (h1 r) (h2 r)) (by rw[enc_app,ad];omega)) fun r hr=>?_
 subst hr
 have q1:=enc_len_ge ph
 have q2:=enc_len_ge pb
 have hil:(ints (ph++pb)).length=ph.length+pb.length:=by simp[ints]
 show Tot (fun n=>Option.bind (some (IntKind.i64.wrap (s.2.2.2.2.2.1-(((ints (ph++pb)).length:Nat):Int)))) _) _
 rw[hil,i64_small (x:=s.2.2.2.2.2.1-((ph.length+pb.length:Nat):Int)) om om]
 refine Tot.some_bind ?_
 have hk:∃ k:Nat,k=s.2.2.2.2.2.1.toNat-ph.length-pb.length:=⟨_,rfl⟩
 obtain ⟨k,hk⟩:=hk
 refine aa (P:=(· =(k:Int))) ?_ fun j hj=>?_
 ·refine af (fun h=>ab ?_) (fun h=>ab ?_)
  ·have:=odt h;omega
  ·have:=odf h;omega
 subst hj
 have hkl:k≤400:=by omega
 have rl:=rep_len (fillN s) k
 have rl2:=rep_len (fillN s) (k/2)
 have rl3:=rep_len (fillN s) (k-k/2)
 unfold padP
 simp only
 rw[← hk]
 refine af (fun h=>?_) (fun h=>af (fun h2=>?_) (fun h2=>af (fun h3=>?_) (fun h3=>?_)))
 ·have h:alN left s=60:=by simpa using h
  rw[if_pos h]
  refine ac (cat3 om) (aa (filling_tot hf.1 om) fun r hr=>?_)
  subst hr
  exact ac (cat3 (by rw[enc_app,ad];omega)) (ab rfl)
 ·have h:alN left s≠60:=by simpa using h
  have h2:alN left s=62:=by simpa using h2
  rw[if_neg h,if_neg om,if_neg om]
  refine aa (filling_tot hf.1 om) fun r hr=>?_
  subst hr
  exact ac (cat3 om) (ac (cat3 (by rw[enc_app,ad];omega)) (ab rfl))
 ·have h:alN left s≠60:=by simpa using h
  have h3:alN left s=61:=by simpa using h3
  rw[if_neg h,if_neg om,if_pos h3]
  refine aa (filling_tot hf.1 om) fun r hr=>?_
  subst hr
  exact ac (cat3 om) (ac (cat3 (by rw[enc_app,ad];omega)) (ab rfl))
 ·have h:alN left s≠60:=by simpa using h
  have h2:alN left s≠62:=by simpa using h2
  have h3:alN left s≠61:=by simpa using h3
  have h4:alN left s=94:=by
   have hall:(List.range 128).all (fun n=> !(inB AL (n:Int))||(n==60||n==62||n==61||n==94))=true:=by kernel_rfl
   unfold alN at h h2 h3 ⊢
   split at h
   ·exfalso
    rename_i h0
    rw[if_pos h0]at h2 h3
    split at h
    ·omega
    ·rename_i h5
     rw[if_neg h5]at h2 h3
     split at h
     ·rename_i h6;rw[if_pos h6]at h3;omega
     ·rename_i h6;rw[if_neg h6]at h2;omega
   ·rename_i h0
    rw[if_neg h0]at h2 h3 ⊢
    rcases g.al with q | q
    ·exact absurd q h0
    ·have hlt:s.2.1<128∧0≤s.2.1:=by
      have:=(inB_nat AL_ok g.ok.al q).2
      omega
     have:=List.all_eq_true.1 hall s.2.1.toNat (List.mem_range.2 om)
     rw[show ((s.2.1.toNat:Nat):Int)=s.2.1 by omega,q]at this
     simp at this
     omega
  rw[if_neg h,if_pos h4]
  have e2:IntKind.i64.wrap ((k:Int).tdiv 2)=((k/2:Nat):Int):=by
   rw[Int.tdiv_eq_ediv_of_nonneg om,i64_small om om];omega
  rw[e2]
  refine aa (filling_tot hf.1 (n:=k/2) om) fun r hr=>?_
  subst hr
  refine ac (cat3 om) (ac (cat3 (by rw[enc_app,ad];omega)) ?_)
  rw[show IntKind.i64.wrap ((k:Int)-((k/2:Nat):Int))=((k-k/2:Nat):Int) by rw[i64_small om om];omega]
  refine aa (filling_tot hf.1 (n:=k-k/2) om) fun r hr=>?_
  subst hr
  exact ac (cat3 (by rw[enc_app,enc_app,ad,ad];omega)) (ab rfl)
end Go.Gv.P
