import Derived.Test.YtbiopeiafkldiaaGreatDoorX1
import Derived.Test.YtbiopeiafkldiaaGreatDoorX1
set_option linter.all false
open Go.Gv.Tot renaming bindq→aa,ret→ac,ite→ae
open List renaming takeWhile_cons→ab
open Bool renaming and_eq_true→ad
namespace Go.Gv.P
open Go Go.Gv Go.Gv.D Go.Gv.R Go.Lib
set_option maxRecDepth 100000
theorem inC_lt {S:List UInt8} {c:Nat} (h:inC S c=true):c<128:=by
 simp only[inC,ad,decide_eq_true_eq]at h;exact h.1
theorem inNZ {c:Nat}:inC NZ c=(decide (49≤c)&&decide (c≤57)):=by
 rcases Nat.lt_or_ge c 128 with h | h
 ·have:(List.range 128).all (fun c=>inC NZ c==(decide (49≤c)&&decide (c≤57)))=true:=by kernel_rfl
  exact beq_iff_eq.1 (List.all_eq_true.1 this c (List.mem_range.2 h))
 ·rw[inC,dff om,dff (show ¬ c≤57 by omega)];simp
theorem TY_dg {c:Nat} (h:dgN c=true):inC TY c=false:=by
 have hc:=dg_range h
 have:(List.range 128).all (fun c=> !(decide (48≤c)&&decide (c≤57))|| !(inC TY c))=true:=by kernel_rfl
 have:=List.all_eq_true.1 this c (List.mem_range.2 om)
 rw[dtt hc.1,dtt hc.2]at this
 simpa using this
theorem nb_cons (c:Nat) (r:List Nat):nb (c::r)=if c=48 then (0,r) else if dgN c=true then (((min (valN 0 (enc (twN (c::r)))) 401:Nat):Int),dwN (c::r)) else (-1,c::r):=rfl
theorem wd_cons (c:Nat) (r:List Nat):wd (c::r)=if c=48 then (0,c::r) else (if 0<(nb (c::r)).1 then (nb (c::r)).1 else 0,(nb (c::r)).2):=by
 unfold wd;simp only[List.head?_cons,Option.some.injEq]
theorem wd_eq (l:List Nat):wd l=if hdC NZ l=true then (((min (valN 0 (enc (twN l))) 401:Nat):Int),dwN l) else (0,l):=by
 cases l with
 | nil=>rfl
 | cons c r=>
   rw[wd_cons,nb_cons,show hdC NZ (c::r)=inC NZ c from rfl,inNZ]
   by_cases h:c=48
   ·subst h;rfl
   ·rw[if_neg h,if_neg h]
    by_cases hd:dgN c=true
    ·have:=dg_range hd
     have hb:(decide (49≤c)&&decide (c≤57))=true:=by rw[ad,decide_eq_true_eq,decide_eq_true_eq];omega
     rw[if_pos hd,hb]
     simp only[if_true,Prod.mk.injEq,and_true]
     split<;>omega
    ·have hb:(decide (49≤c)&&decide (c≤57))=false:=by
      refine Bool.eq_false_iff.2 fun hh=>hd ?_
      rw[ad,decide_eq_true_eq,decide_eq_true_eq]at hh
      rw[dgN,dtt om,dtt om];rfl
     rw[if_neg hd,hb];rfl
theorem drop_tw (l:List Nat):l.drop (twN l).length=dwN l:=by
 have:=List.drop_left (l₁:=twN l) (l₂:=dwN l)
 rwa [twN_dwN]at this
/-- the digits of a precision are refused -/
def badP (l:List Nat):Bool:=decide (twN l=[])||(decide (1<(twN l).length)&&(l.headD 0==48))
theorem nb_of {l:List Nat} (h:badP l=false):nb l=(((min (valN 0 (enc (twN l))) 401:Nat):Int),dwN l):=by
 cases l with
 | nil=>cases h
 | cons c r=>
   rw[nb_cons]
   simp only[badP,Bool.or_eq_false_iff,decide_eq_false_iff_not,Bool.and_eq_false_iff,List.headD_cons,beq_eq_false_iff_ne]at h
   obtain ⟨h1,h2⟩:=h
   have hd:dgN c=true:=by
    cases hc:dgN c
    ·exact absurd (by unfold twN;rw[ab,hc];rfl) h1
    ·rfl
   by_cases h48:c=48
   ·rw[if_pos h48]
    have hr:twN r=[]:=by
     rcases h2 with h2 | h2
     ·have e:twN (c::r)=c::twN r:=by unfold twN;rw[ab,hd];rfl
      rw[e]at h2
      simpa using h2
     ·exact absurd h48 h2
    have e:twN (c::r)=[c]:=by unfold twN at hr ⊢;rw[ab,hd];simp[hr]
    have e2:dwN (c::r)=r:=by
     have:=twN_dwN (c::r)
     rw[e]at this
     simpa using this
    rw[e,e2,h48]
    rfl
   ·rw[if_neg h48,if_pos hd]
theorem nb_bad {l:List Nat} (h:badP l=true):(nb l).1<0∨(tk TY (nb l).2).2≠[]:=by
 cases l with
 | nil=>exact .inl ddc
 | cons c r=>
   rw[nb_cons]
   simp only[badP,Bool.or_eq_true,decide_eq_true_eq,ad,List.headD_cons,beq_iff_eq]at h
   by_cases h48:c=48
   ·rw[if_pos h48]
    subst h48
    rcases h with h | ⟨h,_⟩
    ·unfold twN at h;rw[ab]at h;cases h
    ·right
     have e:twN (48::r)=48::twN r:=by unfold twN;rw[ab];rfl
     rw[e]at h
     cases r with
     | nil=>simp[twN]at h
     | cons d s=>
       have hd:dgN d=true:=by
        cases hc:dgN d
        ·have:twN (d::s)=[]:=by unfold twN;rw[ab,hc];rfl
         rw[this]at h;simp at h
        ·rfl
       simp only[tk,TY_dg hd,Bool.false_eq_true,if_false]
       exact List.cons_ne_nil _ _
   ·rw[if_neg h48]
    rcases h with h | ⟨_,h⟩
    ·have hd:¬ dgN c=true:=fun hd=>by unfold twN at h;rw[ab,hd]at h;cases h
     rw[if_neg hd];exact .inl (show (-1:Int)<0 by decide)
    ·exact absurd h h48
theorem at_ref (n:Nat) (a b:Int):ref4_At n a b=some (a,b):=rfl
theorem SpecRead_tot {p:List Nat} (hp:∀ r∈p,Scal r) (hz:(enc p).length≤40):Tot (fun n=>ref4_SpecRead n (strOf (enc p))) (· =rd p):=by
 unfold ref4_SpecRead
 have hpl:p.length≤40:=by have:=enc_len_ge p;omega
 have hpz:p.length≤1000:=by omega
 refine Tot.if_ (dff (by rw[size_str];omega)) ?_
 refine aa (P:=(· =(ints p,true))) ((Points_tot (by rw[size_str];omega)).mono fun r hr=>?_) fun r hr=>?_
 ·rw[bytes_str]at hr
  rcases hr with ⟨h,_⟩ | ⟨q,hq,e,e2⟩
  ·rw[valid_enc p hp]at h;cases h
  ·rw[e2,enc_inj hp hq e]
 subst hr
 refine Tot.if_ rfl (aa (P:=(· =((1:Int),(-1:Int)))) (ac rfl) fun r83 h83=>?_)
 subst h83
 refine aa (isAt_tot AL_ok hp 1) fun r98 h98=>?_
 refine aa (P:=fun x=>(x= .inr (zS,((1:Int),(-1:Int)))∧rd p=(zS,(1, -1)))∨∃ (fill:Int) (a:Nat),x= .inl ((a:Int),zS,((0:Int),(0:Int)),((fill,0,0,false,false,0,0,false,0,0):Sp))∧rd p=rdP fill (p.drop a)∧a≤p.length) ?_ fun s hs=>?_
 ·subst h98
  refine ae (fun h=>?_) (fun h=>ac (.inr ⟨0,0,rfl,?_,Nat.zero_le _⟩))
  ·cases p with
   | nil=>cases h
   | cons c t=>
     cases t with
     | nil=>cases h
     | cons d r=>
       have h:inC AL d=true:=h
       have hrd:rd (c::d::r)=if c=123∨c=125∨c=0 then (zS,(1, -1)) else rdP c (d::r):=by simp only[rd,if_pos h]
       have h0:idx (ints (c::d::r)) 0=some (c:Int):=ints_get (i:=0) (l:=c::d::r) (by simp)
       refine aa (P:=(· =decide (c=0∨c=123∨c=125))) (Tot.bind0 h0 (ae (fun hh=>?_) (fun hh=>Tot.bind0 h0 (ae (fun h2=>?_) (fun h2=>Tot.bind0 h0 (ac ?_)))))) fun j hj=>?_
       ·have:=eq_of_beq hh
        exact ac (dtt (.inl om)).symm
       ·have:=eq_of_beq h2
        exact ac (dtt (.inr (.inl om))).symm
       ·have hh:=ne_of_beq_false hh
        have h2:=ne_of_beq_false h2
        rw[Bool.eq_iff_iff,beq_iff_eq,decide_eq_true_eq];omega
       subst hj
       refine ae (fun hh=>?_) (fun hh=>?_)
       ·have hh:=odt hh
        exact ac (.inl ⟨rfl,by rw[hrd,if_pos om]⟩)
       ·have hh:=odf hh
        exact Tot.bind0 h0 (ac (.inr ⟨c,1,rfl,by rw[hrd,if_neg om];rfl,by simp⟩))
  ·cases p with
   | nil=>rfl
   | cons c t=>
     cases t with
     | nil=>rfl
     | cons d r=>
       have h:inC AL d=false:=h
       simp only[rd,h,Bool.false_eq_true,if_false];rfl
 rcases hs with ⟨rfl,e⟩ | ⟨fill,a0,rfl,e,h0⟩
 ·exact Tot.contr e.symm
 rw[e]
 refine Tot.contl ?_
 refine aa (taken_tot AL_ok hp hpz h0) fun r1 ⟨a1,e1,d1,l1⟩=>?_
 subst e1
 refine aa (taken_tot SG_ok hp hpz l1) fun r1 ⟨a2,e1,d2,l2⟩=>?_
 subst e1
 refine aa (taken_tot BA_ok hp hpz l2) fun r1 ⟨a3,e1,d3,l3⟩=>?_
 subst e1
 refine aa (taken_tot ZE_ok hp hpz l3) fun r1 ⟨a4,e1,d4,l4⟩=>?_
 subst e1
 refine aa (isAt_tot NZ_ok hp a4) fun rn hn=>?_
 subst hn
 refine aa (P:=fun x:Int × Sp=>∃ a5:Nat,x=((a5:Int),((fill,((tk AL (p.drop a0)).1:Int),((tk SG (p.drop a1)).1:Int),(((tk BA (p.drop a2)).1:Int)!=0),(((tk ZE (p.drop a3)).1:Int)!=0),(wd (p.drop a4)).1,0,false,0,0):Sp))∧p.drop a5=(wd (p.drop a4)).2∧a5≤p.length) ?_ fun x ⟨a5,ex,d5,l5⟩=>?_
 ·rw[wd_eq]
  have happ:=twN_dwN (p.drop a4)
  have hlen:(twN (p.drop a4)).length+(dwN (p.drop a4)).length=p.length-a4:=by rw[← List.length_append,happ,List.length_drop]
  refine ae (fun h=>?_) (fun h=>?_)
  ·rw[if_pos h]
   refine aa (digitsAt_tot hpz l4) fun r hr=>?_
   subst hr
   refine ac ⟨a4+(twN (p.drop a4)).length,?_,?_,om⟩
   ·rw[i64_small om om];rfl
   ·rw[← List.drop_drop]
    exact drop_tw _
  ·rw[if_neg (by rw[h];decide)]
   exact ac ⟨a4,rfl,rfl,l4⟩
 subst ex
 refine aa (taken_tot GR_ok hp hpz l5) fun r1 ⟨a6,e1,d6,l6⟩=>?_
 subst e1
 refine aa (taken_tot PT_ok hp hpz l6) fun r1 ⟨a7,e1,d7,l7⟩=>?_
 subst e1
 have hrdP:rdP fill (p.drop a0)=if (tk TY (prc (tk PT (p.drop a6))).2.2).2≠[]∨(prc (tk PT (p.drop a6))).2.1<0 then (zS,(1, -1)) else if (wd (p.drop a4)).1>400∨(prc (tk PT (p.drop a6))).2.1>400 then (zS,(4, -1)) else
  (((fill,((tk AL (p.drop a0)).1:Int),((tk SG (p.drop a1)).1:Int),(((tk BA (p.drop a2)).1:Int)!=0),(((tk ZE (p.drop a3)).1:Int)!=0),(wd (p.drop a4)).1,((tk GR (p.drop a5)).1:Int),(prc (tk PT (p.drop a6))).1,(prc (tk PT (p.drop a6))).2.1,((tk TY (prc (tk PT (p.drop a6))).2.2).1:Int)):Sp),(0,0)):=by
  rw[d6,d5,d4,d3,d2,d1];rfl
 rw[hrdP]
 refine aa (P:=fun x=>(x= .inr (zS,((1:Int),(-1:Int)))∧((tk TY (prc (tk PT (p.drop a6))).2.2).2≠[]∨(prc (tk PT (p.drop a6))).2.1<0))∨∃ a8:Nat,x= .inl ((a8:Int),zS,((0:Int),(0:Int)),((fill,((tk AL (p.drop a0)).1:Int),((tk SG (p.drop a1)).1:Int),(((tk BA (p.drop a2)).1:Int)!=0),(((tk ZE (p.drop a3)).1:Int)!=0),(wd (p.drop a4)).1,((tk GR (p.drop a5)).1:Int),(prc (tk PT (p.drop a6))).1,(prc (tk PT (p.drop a6))).2.1,0):Sp))∧
  p.drop a8=(prc (tk PT (p.drop a6))).2.2∧a8≤p.length∧0≤(prc (tk PT (p.drop a6))).2.1) ?_ fun x hx=>?_
 ·unfold prc
  rw[← d7]
  refine ae (fun h=>?_) (fun h=>?_)
  ·have h:(((tk PT (p.drop a6)).1:Int)!=0)=true:=h
   rw[if_pos h]
   have happ:=twN_dwN (p.drop a7)
   have hlen:(twN (p.drop a7)).length+(dwN (p.drop a7)).length=p.length-a7:=by rw[← List.length_append,happ,List.length_drop]
   refine aa (digitsAt_tot hpz l7) fun r hr=>?_
   subst hr
   refine aa (P:=(· =badP (p.drop a7))) ?_ fun j hj=>?_
   ·unfold badP
    refine ae (fun h=>ac ?_) (fun h=>?_)
    ·have:(twN (p.drop a7)).length=0:=by have:=eq_of_beq h;omega
     rw[dtt (List.eq_nil_of_length_eq_zero this)];rfl
    ·have hne:(twN (p.drop a7)).length≠0:=fun e=>by rw[e]at h;cases h
     have h0:decide (twN (p.drop a7)=[])=false:=dff fun e=>hne (by rw[e];rfl)
     rw[h0,Bool.false_or]
     refine ae (fun h2=>?_) (fun h2=>ac ?_)
     ·have h2:1<(twN (p.drop a7)).length:=by have:=odt h2;omega
      have hlt:a7<p.length:=by omega
      refine Tot.bind0 (ints_get hlt) (ac ?_)
      rw[dtt h2,drop_head hlt,Bool.true_and,List.headD_cons,Bool.eq_iff_iff,beq_iff_eq,beq_iff_eq];omega
     ·have h2:¬ 1<(twN (p.drop a7)).length:=by have:=odf h2;omega
      rw[dff h2];rfl
   subst hj
   refine ae (fun hb=>?_) (fun hb=>?_)
   ·refine ac (.inl ⟨rfl,?_⟩)
    rcases nb_bad hb with hh | hh
    ·exact .inr hh
    ·exact .inl hh
   ·refine ac (.inr ⟨a7+(twN (p.drop a7)).length,?_,?_,om,?_⟩)
    ·rw[nb_of hb,i64_small om om];rfl
    ·rw[nb_of hb,← List.drop_drop]
     exact drop_tw _
    ·rw[nb_of hb];show (0:Int)≤((_:Nat):Int);omega
  ·have h:(((tk PT (p.drop a6)).1:Int)!=0)=false:=h
   rw[if_neg (by rw[h];decide)]
   exact ac (.inr ⟨a7,rfl,rfl,l7,Int.le_refl 0⟩)
 rcases hx with ⟨rfl,hb⟩ | ⟨a8,rfl,d8,l8,hpos⟩
 ·rw[if_pos hb];exact Tot.contr rfl
 refine Tot.contl ?_
 rw[← d8]
 refine aa (taken_tot TY_ok hp hpz l8) fun r1 ⟨a9,e1,d9,l9⟩=>?_
 subst e1
 refine Tot.some_bind ?_
 rw[ints_len,← d9]
 refine ae (fun h=>?_) (fun h=>?_)
 ·have h:a9<p.length:=by have:=odt h;omega
  rw[if_pos (.inl (by rw[drop_head h];exact List.cons_ne_nil _ _))]
  exact ac rfl
 have h:¬ a9<p.length:=by have:=odf h;omega
 have hno:¬ (p.drop a9≠[]∨(prc (tk PT (p.drop a6))).2.1<0):=by
  rw[List.drop_of_length_le om]
  rintro (h | h)
  ·exact h rfl
  ·omega
 rw[if_neg hno]
 refine aa (P:=(· =decide ((wd (p.drop a4)).1>400∨(prc (tk PT (p.drop a6))).2.1>400))) ?_ fun j hj=>?_
 ·refine ae (fun h=>ac (dtt (.inl (odt h))).symm) (fun h=>Tot.some_bind (ac ?_))
  have h:=odf h
  exact decide_eq_decide.2 ⟨fun hh=>.inr hh,fun hh=>hh.elim (fun hh=>absurd hh h) id⟩
 subst hj
 refine ae (fun h=>?_) (fun h=>?_)
 ·rw[if_pos (odt h)]
  exact Tot.some_bind (ac rfl)
 ·rw[if_neg (odf h)]
  exact ac rfl
end Go.Gv.P
namespace Go.Gv.P
open Go Go.Gv Go.Gv.D Go.Gv.R Go.Lib
set_option maxRecDepth 100000
def inB (S:List UInt8) (x:Int):Bool:=S.contains (UInt8.ofNat x.toNat)
theorem byte_cast {x:Int} (h:0≤x∧x<256):x=(((UInt8.ofNat x.toNat).toNat:Nat):Int):=by
 rw[UInt8.toNat_ofNat',Nat.mod_eq_of_lt om];omega
theorem oneB_tot {S:List UInt8} (hS:SetOk S) {x:Int} (h:0≤x∧x<256):Tot (fun n=>ref4_oneOf n x (strOf S)) (· =inB S x):=by
 have:=one_tot hS (UInt8.ofNat x.toNat)
 rw[← byte_cast h]at this
 exact this
structure SpOk (s:Sp):Prop where
 al:0≤s.2.1∧s.2.1<256
 sg:0≤s.2.2.1∧s.2.2.1<256
 gr:0≤s.2.2.2.2.2.2.1∧s.2.2.2.2.2.2.1<256
 ty:0≤s.2.2.2.2.2.2.2.2.2∧s.2.2.2.2.2.2.2.2.2<256
theorem i32_in {x:Int} (h0:0≤x) (h1:x≤1114111):IntKind.i32.wrap x=x:=i32_small h0 om
end Go.Gv.P
namespace Go.Gv.P
open Go Go.Gv Go.Gv.D Go.Gv.R Go.Lib
set_option maxRecDepth 100000
theorem encode_str {r:Nat} (h:Scal r):Utf8.encode (r:Int)=strOf (encR r):=by
 have hv:Utf8.valid (r:Int)=true:=by
  unfold Utf8.valid
  rcases h with h | ⟨h1,h2⟩
  ·rw[dtt (show (0:Int)≤(r:Int) by omega),dtt (show (r:Int)<0xD800 by omega)];rfl
  ·rw[dtt (show (0xE000:Int)≤(r:Int) by omega),dtt (show (r:Int)≤0x10FFFF by omega),Bool.and_true,Bool.or_true]
 have hs:r≤1114111:=by unfold Scal at h;omega
 unfold Utf8.encode
 simp only[hv,if_true,Int.toNat_natCast]
 by_cases h1:r<0x80
 ·rw[if_pos h1,encR1 om];rfl
 ·rw[if_neg h1]
  by_cases h2:r<0x800
  ·rw[if_pos h2,encR2 om om];rfl
  ·rw[if_neg h2]
   by_cases h3:r<0x10000
   ·rw[if_pos h3,encR3 om om h];rfl
   ·rw[if_neg h3,encR4 om hs];rfl
def itoaB (n:Nat):List UInt8:=Lib.itoa (n:Int)
theorem itoa_all:(List.range 401).all (fun n=>let l:=itoaB n;l.all dg&&((valN 0 l==n)&&((if n=0 then l==[48] else !(l.headD 48==48))&&(!l.isEmpty&&decide (l.length≤3)))))=true:=by kernel_rfl
structure ItOk (n:Nat):Prop where
 dg:∀ b∈itoaB n,dg b=true
 val:valN 0 (itoaB n)=n
 zero:n=0→itoaB n=[48]
 head:n≠0→(itoaB n).headD 48≠48
 ne:itoaB n≠[]
 len:(itoaB n).length≤3
theorem itOk {n:Nat} (h:n≤400):ItOk n:=by
 have:=List.all_eq_true.1 itoa_all n (List.mem_range.2 om)
 simp only[ad,beq_iff_eq,decide_eq_true_eq]at this
 obtain ⟨h1,h2,h3,h4,h5⟩:=this
 refine ⟨fun b hb=>List.all_eq_true.1 h1 b hb,h2,fun e=>?_,fun e=>?_,fun e=>(by rw[e]at h4;cases h4),h5⟩
 ·rw[if_pos e]at h3;exact eq_of_beq h3
 ·rw[if_neg e]at h3
  simpa using h3
def itN (n:Nat):List Nat:=(itoaB n).map (·.toNat)
theorem enc_bytes:∀ {l:List UInt8},(∀ b∈l,b.toNat<128)→enc (l.map (·.toNat))=l
 | [],_=>rfl
 | b::r,h=>by
   rw[List.map_cons,enc_cons,encR1 (by have:=h b (List.mem_cons_self ..);omega),enc_bytes fun x hx=>h x (List.mem_cons_of_mem _ hx),UInt8.ofNat_toNat];rfl
theorem dg_byte {b:UInt8} (h:dg b=true):48≤b.toNat∧b.toNat≤57:=by simpa [dg] using h
def optN (b:Bool) (l:List Nat):List Nat:=if b then l else []
def T7 (s:Sp):List Nat:=optN (s.2.2.2.2.2.2.2.2.2 !=0) [s.2.2.2.2.2.2.2.2.2.toNat]
def T6 (s:Sp):List Nat:=optN s.2.2.2.2.2.2.2.1 (46::itN s.2.2.2.2.2.2.2.2.1.toNat)++T7 s
def T5 (s:Sp):List Nat:=optN (s.2.2.2.2.2.2.1 !=0) [s.2.2.2.2.2.2.1.toNat]++T6 s
def T4 (s:Sp):List Nat:=optN (decide (s.2.2.2.2.2.1>0)) (itN s.2.2.2.2.2.1.toNat)++T5 s
def T3 (s:Sp):List Nat:=optN s.2.2.2.2.1 [48]++T4 s
def T2 (s:Sp):List Nat:=optN s.2.2.2.1 [35]++T3 s
def T1 (s:Sp):List Nat:=optN (s.2.2.1 !=0) [s.2.2.1.toNat]++T2 s
structure Good (s:Sp):Prop where
 ok:SpOk s
 fill:s.1=0∨(Scal s.1.toNat∧0≤s.1∧s.1≠123∧s.1≠125∧s.2.1≠0)
 al:s.2.1=0∨inB AL s.2.1=true
 sg:s.2.2.1=0∨inB SG s.2.2.1=true
 gr:s.2.2.2.2.2.2.1=0∨inB GR s.2.2.2.2.2.2.1=true
 ty:s.2.2.2.2.2.2.2.2.2=0∨inB TY s.2.2.2.2.2.2.2.2.2=true
 w:0≤s.2.2.2.2.2.1∧s.2.2.2.2.2.1≤400
 p:0≤s.2.2.2.2.2.2.2.2.1∧s.2.2.2.2.2.2.2.2.1≤400
 pz:s.2.2.2.2.2.2.2.1=false→s.2.2.2.2.2.2.2.2.1=0
theorem inB_nat {S:List UInt8} (hS:SetOk S) {x:Int} (hx:0≤x∧x<256) (h:inB S x=true):inC S x.toNat=true∧0<x∧x<128:=by
 have hl:=hS.low _ h
 have hc:=byte_cast hx
 have h2:x<128:=by omega
 refine ⟨?_,om,h2⟩
 unfold inC
 rw[dtt om,Bool.true_and]
 exact h
end Go.Gv.P
namespace Go.Gv.P
open Go Go.Gv Go.Gv.D Go.Gv.R Go.Lib
set_option maxRecDepth 100000
theorem u8_cast {x:Int} (h:0≤x∧x<256):u8 x=some (UInt8.ofNat x.toNat):=by
 have:=u8_ok (n:=x.toNat) om
 rwa [show ((x.toNat:Nat):Int)=x by omega]at this
end Go.Gv.P
namespace Go.Gv.P
open Go Go.Gv Go.Gv.D Go.Gv.R Go.Lib
set_option maxRecDepth 100000
def hdIn (H:List UInt8) (T:List Nat):Prop:=T=[]∨∃ c r,T=c::r∧inC H c=true
theorem inC_app {S H:List UInt8} {c:Nat}:inC (S++H) c=(inC S c||inC H c):=by
 unfold inC
 cases decide (c<128)
 ·rfl
 ·simp[Bool.eq_iff_iff]
theorem hdIn_opt {S H:List UInt8} {b:Bool} {l T:List Nat} (hl:b=true→∃ c r,l=c::r∧inC S c=true) (hT:hdIn H T):hdIn (S++H) (optN b l++T):=by
 cases b
 ·rcases hT with rfl | ⟨c,r,rfl,hc⟩
  ·exact .inl rfl
  ·exact .inr ⟨c,r,rfl,by rw[inC_app,hc,Bool.or_true]⟩
 ·obtain ⟨c,r,rfl,hc⟩:=hl rfl
  exact .inr ⟨c,r++T,rfl,by rw[inC_app,hc,Bool.true_or]⟩
def H6:List UInt8:=PT++TY
def H5:List UInt8:=GR++H6
def H4:List UInt8:=NZ++H5
def H3:List UInt8:=ZE++H4
def H2:List UInt8:=BA++H3
def H1:List UInt8:=SG++H2
section
variable {s:Sp} (g:Good s)
include g
theorem opt_byte {S:List UInt8} (hS:SetOk S) {x:Int} (hx:0≤x∧x<256) (h:x=0∨inB S x=true):(x !=0)=true→inC S x.toNat=true:=fun hne=>by
 rcases h with h | h
 ·rw[h]at hne;cases hne
 ·exact (inB_nat hS hx h).1
theorem hd7:hdIn TY (T7 s):=by
 have:=hdIn_opt (S:=TY) (H:=[]) (T:=[]) (l:=[s.2.2.2.2.2.2.2.2.2.toNat]) (fun h=>⟨_,_,rfl,opt_byte g TY_ok g.ok.ty g.ty h⟩) (.inl rfl)
 rw[List.append_nil,List.append_nil]at this
 exact this
theorem hd6:hdIn H6 (T6 s):=hdIn_opt (fun _=>⟨46,_,rfl,by rfl⟩) (hd7 g)
theorem hd5:hdIn H5 (T5 s):=hdIn_opt (fun h=>⟨_,_,rfl,opt_byte g GR_ok g.ok.gr g.gr h⟩) (hd6 g)
theorem itN_head {n:Nat} (h:n≤400) (h0:n≠0):∃ c r,itN n=c::r∧inC NZ c=true:=by
 have i:=itOk h
 cases hl:itoaB n with
 | nil=>exact absurd hl i.ne
 | cons b t=>
   have h1:=dg_byte (i.dg b (by rw[hl];exact List.mem_cons_self ..))
   have h2:=i.head h0
   rw[hl]at h2
   have h3:b.toNat≠48:=fun e=>h2 (UInt8.toNat_inj.1 e)
   refine ⟨b.toNat,t.map (·.toNat),by unfold itN;rw[hl];rfl,?_⟩
   rw[inNZ,dtt om,dtt om];rfl
theorem hd4:hdIn H4 (T4 s):=hdIn_opt (fun h=>itN_head g (by have:=g.w;omega) (by have:=odt h;omega)) (hd5 g)
theorem hd3:hdIn H3 (T3 s):=hdIn_opt (fun _=>⟨48,_,rfl,by rfl⟩) (hd4 g)
theorem hd2:hdIn H2 (T2 s):=hdIn_opt (fun _=>⟨35,_,rfl,by rfl⟩) (hd3 g)
theorem hd1:hdIn H1 (T1 s):=hdIn_opt (fun h=>⟨_,_,rfl,opt_byte g SG_ok g.ok.sg g.sg h⟩) (hd2 g)
end
end Go.Gv.P
namespace Go.Gv.P
open Go Go.Gv Go.Gv.D Go.Gv.R Go.Lib
set_option maxRecDepth 100000
section
variable {s:Sp} (g:Good s)
include g
end
end Go.Gv.P
