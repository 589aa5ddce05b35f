import Derived.Test.YtbiopeiafkldiaaGreatDoorT3
set_option linter.all false
namespace Go.Gv.P
open Go Go.Gv Go.Gv.D Go.Gv.R Go.Lib
set_option maxRecDepth 100000
theorem inC_lt {S:List UInt8} {c:Nat} (h:inC S c=true):c<128:=by
 simp only[inC,Bool.and_eq_true,decide_eq_true_eq]at h;exact h.1
theorem inNZ {c:Nat}:inC NZ c=(decide (49≤c)&&decide (c≤57)):=by
 rcases Nat.lt_or_ge c 128 with h | h
 ·have:(List.range 128).all (fun c=>inC NZ c==(decide (49≤c)&&decide (c≤57)))=true:=by kernel_rfl
  exact beq_iff_eq.1 (List.all_eq_true.1 this c (List.mem_range.2 h))
 ·rw[inC,decide_eq_false (by omega),decide_eq_false (show ¬ c≤57 by omega)];simp
theorem nb_cons (c:Nat) (r:List Nat):nb (c::r)=if c=48 then (0,r) else if dgN c=true then (((min (valN 0 (enc (twN (c::r)))) 401:Nat):Int),dwN (c::r)) else (-1,c::r):=rfl
theorem wd_cons (c:Nat) (r:List Nat):wd (c::r)=if c=48 then (0,c::r) else (if 0<(nb (c::r)).1 then (nb (c::r)).1 else 0,(nb (c::r)).2):=by
 unfold wd;simp only[List.head?_cons,Option.some.injEq]
theorem wd_eq (l:List Nat):wd l=if hdC NZ l=true then (((min (valN 0 (enc (twN l))) 401:Nat):Int),dwN l) else (0,l):=by
 cases l with
 | nil=>rfl
 | cons c r=>
   rw[wd_cons,nb_cons,show hdC NZ (c::r)=inC NZ c from rfl,inNZ]
   by_cases h:c=48
   ·subst h;rfl
   ·rw[if_neg h,if_neg h]
    by_cases hd:dgN c=true
    ·have:=dg_range hd
     have hb:(decide (49≤c)&&decide (c≤57))=true:=by rw[Bool.and_eq_true,decide_eq_true_eq,decide_eq_true_eq];omega
     rw[if_pos hd,hb]
     simp only[if_true,Prod.mk.injEq,and_true]
     split<;>omega
    ·have hb:(decide (49≤c)&&decide (c≤57))=false:=by
      refine Bool.eq_false_iff.2 fun hh=>hd ?_
      rw[Bool.and_eq_true,decide_eq_true_eq,decide_eq_true_eq]at hh
      rw[dgN,decide_eq_true (by omega),decide_eq_true (by omega)];rfl
     rw[if_neg hd,hb];rfl
/-- the digits of a precision are refused -/
def badP (l:List Nat):Bool:=decide (twN l=[])||(decide (1<(twN l).length)&&(l.headD 0==48))
theorem nb_of {l:List Nat} (h:badP l=false):nb l=(((min (valN 0 (enc (twN l))) 401:Nat):Int),dwN l):=by
 cases l with
 | nil=>cases h
 | cons c r=>
   rw[nb_cons]
   simp only[badP,Bool.or_eq_false_iff,decide_eq_false_iff_not,Bool.and_eq_false_iff,List.headD_cons,beq_eq_false_iff_ne]at h
   obtain ⟨h1,h2⟩:=h
   have hd:dgN c=true:=by
    cases hc:dgN c
    ·exact absurd (by unfold twN;rw[List.takeWhile_cons,hc];rfl) h1
    ·rfl
   by_cases h48:c=48
   ·rw[if_pos h48]
    have hr:twN r=[]:=by
     rcases h2 with h2 | h2
     ·have e:twN (c::r)=c::twN r:=by unfold twN;rw[List.takeWhile_cons,hd];rfl
      rw[e]at h2
      simpa using h2
     ·exact absurd h48 h2
    have e:twN (c::r)=[c]:=by unfold twN at hr ⊢;rw[List.takeWhile_cons,hd];simp[hr]
    have e2:dwN (c::r)=r:=by
     have:=twN_dwN (c::r)
     rw[e]at this
     simpa using this
    rw[e,e2,h48]
    rfl
   ·rw[if_neg h48,if_pos hd]
theorem at_ref (n:Nat) (a b:Int):ref4_At n a b=some (a,b):=rfl
end Go.Gv.P
namespace Go.Gv.P
open Go Go.Gv Go.Gv.D Go.Gv.R Go.Lib
set_option maxRecDepth 100000
def inB (S:List UInt8) (x:Int):Bool:=S.contains (UInt8.ofNat x.toNat)
theorem byte_cast {x:Int} (h:0≤x∧x<256):x=(((UInt8.ofNat x.toNat).toNat:Nat):Int):=by
 rw[UInt8.toNat_ofNat',Nat.mod_eq_of_lt (by omega)];omega
theorem oneB_tot {S:List UInt8} (hS:SetOk S) {x:Int} (h:0≤x∧x<256):Tot (fun n=>ref4_oneOf n x (strOf S)) (· =inB S x):=by
 have:=one_tot hS (UInt8.ofNat x.toNat)
 rw[← byte_cast h]at this
 exact this
def offS (S:List UInt8) (x:Int):Bool:=x !=0&& !(inB S x)
def okFill (x:Int):Bool:=decide ((0≤x∧x<55296)∨(57343<x∧x≤1114111))
def badS (s:Sp):Bool:=
 (((!(okFill s.1)||(s.1==123||s.1==125))||(s.1 !=0&&s.2.1==0))||(offS AL s.2.1||offS SG s.2.2.1))||(offS GR s.2.2.2.2.2.2.1||(offS TY s.2.2.2.2.2.2.2.2.2||(!s.2.2.2.2.2.2.2.1&&s.2.2.2.2.2.2.2.2.1 !=0)))
def outS (s:Sp):Bool:=decide (s.2.2.2.2.2.1<0∨s.2.2.2.2.2.1>400∨s.2.2.2.2.2.2.2.2.1<0∨s.2.2.2.2.2.2.2.2.1>400)
def spF (s:Sp):Int × Int:=if badS s=true then (6, -1) else if outS s=true then (4, -1) else (0,0)
theorem spF_bad {s:Sp} (h:badS s=true):spF s=(6, -1):=by unfold spF;rw[if_pos h]
theorem spF_out {s:Sp} (h:badS s=false) (h2:outS s=true):spF s=(4, -1):=by unfold spF;rw[if_neg (by rw[h];decide),if_pos h2]
theorem spF_ok {s:Sp} (h:badS s=false) (h2:outS s=false):spF s=(0,0):=by unfold spF;rw[if_neg (by rw[h];decide),if_neg (by rw[h2];decide)]
structure SpOk (s:Sp):Prop where
 al:0≤s.2.1∧s.2.1<256
 sg:0≤s.2.2.1∧s.2.2.1<256
 gr:0≤s.2.2.2.2.2.2.1∧s.2.2.2.2.2.2.1<256
 ty:0≤s.2.2.2.2.2.2.2.2.2∧s.2.2.2.2.2.2.2.2.2<256
theorem out_tot (s:Sp):Tot (fun _=>if (decide (s.2.2.2.2.2.1<0))=true then some true else if (decide (s.2.2.2.2.2.1>400))=true then some true else if (decide (s.2.2.2.2.2.2.2.2.1<0))=true then some true else some (decide (s.2.2.2.2.2.2.2.2.1>400))) (· =outS s):=by
 unfold outS
 refine Tot.ite (fun h=>Tot.ret ?_) (fun h=>Tot.ite (fun h2=>Tot.ret ?_) (fun h2=>Tot.ite (fun h3=>Tot.ret ?_) (fun h3=>Tot.ret ?_)))
 ·exact (decide_eq_true (.inl (of_decide_eq_true h))).symm
 ·exact (decide_eq_true (.inr (.inl (of_decide_eq_true h2)))).symm
 ·exact (decide_eq_true (.inr (.inr (.inl (of_decide_eq_true h3))))).symm
 ·have h:=of_decide_eq_false h
  have h2:=of_decide_eq_false h2
  have h3:=of_decide_eq_false h3
  exact decide_eq_decide.2 ⟨fun h=>.inr (.inr (.inr h)),fun hh=>by omega⟩
theorem ref_step {S:List UInt8} (hS:SetOk S) {x:Int} (hx:0≤x∧x<256) {K K':Nat→Option Bool} {k:Bool} (hK:Tot K (· =k)) (hK':Tot K' (· =k)):
 Tot (fun n=>if (x !=0)=true then Option.bind (ref4_oneOf n x (strOf S)) fun r=>if (!r)=true then some true else K n else K' n) (· =(offS S x||k)):=by
 unfold offS
 refine Tot.ite (fun h=>?_) (fun h=>by rw[h];exact hK')
 refine Tot.bindq (oneB_tot hS hx) fun r hr=>?_
 subst hr
 rw[h,Bool.true_and]
 refine Tot.ite (fun h=>Tot.ret (by rw[h];rfl)) (fun h=>?_)
 rw[h,Bool.false_or];exact hK
theorem ref_last {S:List UInt8} (hS:SetOk S) {x:Int} (hx:0≤x∧x<256):
 Tot (fun n=>if (x !=0)=true then Option.bind (ref4_oneOf n x (strOf S)) fun r=>some (!r) else some false) (· =offS S x):=by
 unfold offS
 refine Tot.ite (fun h=>?_) (fun h=>Tot.ret (by rw[h];rfl))
 exact Tot.bindq (oneB_tot hS hx) fun r hr=>Tot.ret (by rw[hr,h];rfl)
theorem prec_last (a:Bool) (x:Int):Tot (fun _=>if (!a)=true then some (x !=0) else some false) (· =(!a&&x !=0)):=
 Tot.ite (fun h=>Tot.ret (by rw[h];rfl)) (fun h=>Tot.ret (by rw[h];rfl))
theorem i32_in {x:Int} (h0:0≤x) (h1:x≤1114111):IntKind.i32.wrap x=x:=i32_small h0 (by omega)
theorem SpecFault_tot {s:Sp} (hs:SpOk s):Tot (fun n=>ref4_SpecFault n s) (· =spF s):=by
 unfold ref4_SpecFault
 refine Tot.bindq (P:=(· =((!(okFill s.1)||(s.1==123||s.1==125))||(s.1 !=0&&s.2.1==0)))) ?_ fun j hj=>?_
 ·refine Tot.bindq (P:=(· =okFill s.1)) ?_ fun r hr=>?_
  ·unfold ref4_Scalar okFill
   refine Tot.ret ?_
   by_cases h:s.1≥0
   ·have h':decide (s.1≥0)=true:=decide_eq_true h
    simp only[h',if_true]
    rw[Bool.eq_iff_iff,decide_eq_true_eq,Bool.or_eq_true,Bool.and_eq_true,decide_eq_true_eq,decide_eq_true_eq,decide_eq_true_eq];omega
   ·have h':decide (s.1≥0)=false:=decide_eq_false h
    simp only[h',Bool.false_eq_true,if_false]
    rw[Bool.eq_iff_iff,decide_eq_true_eq,Bool.and_eq_true,decide_eq_true_eq,decide_eq_true_eq];omega
  subst hr
  refine Tot.ite (fun h=>Tot.ret (by rw[h];rfl)) (fun h=>?_)
  rw[h,Bool.false_or]
  refine Tot.ite (fun h=>Tot.ret (by rw[h];rfl)) (fun h=>?_)
  rw[h,Bool.false_or]
  refine Tot.ite (fun h=>Tot.ret (by rw[h];rfl)) (fun h=>?_)
  rw[h,Bool.false_or]
  exact Tot.ite (fun h=>Tot.ret (by rw[h];rfl)) (fun h=>Tot.ret (by rw[h];rfl))
 subst hj
 have e:badS s=((((!(okFill s.1)||(s.1==123||s.1==125))||(s.1 !=0&&s.2.1==0))||(offS AL s.2.1||offS SG s.2.2.1))||(offS GR s.2.2.2.2.2.2.1||(offS TY s.2.2.2.2.2.2.2.2.2||(!s.2.2.2.2.2.2.2.1&&s.2.2.2.2.2.2.2.2.1 !=0)))):=rfl
 refine Tot.bindq (P:=(· =(((!(okFill s.1)||(s.1==123||s.1==125))||(s.1 !=0&&s.2.1==0))||(offS AL s.2.1||offS SG s.2.2.1)))) ?_ fun j hj=>?_
 ·refine Tot.ite (fun h=>Tot.ret (by rw[h];rfl)) (fun h=>?_)
  rw[h,Bool.false_or]
  exact ref_step AL_ok hs.al (ref_last SG_ok hs.sg) (ref_last SG_ok hs.sg)
 refine Tot.bindq (P:=(· =badS s)) ?_ fun j2 hj2=>?_
 ·rw[e,← hj]
  refine Tot.ite (fun h=>Tot.ret (by rw[h];rfl)) (fun h=>?_)
  rw[h,Bool.false_or]
  exact ref_step GR_ok hs.gr (ref_step TY_ok hs.ty (prec_last _ _) (prec_last _ _)) (ref_step TY_ok hs.ty (prec_last _ _) (prec_last _ _))
 subst hj2
 refine Tot.ite (fun h=>?_) (fun h=>?_)
 ·rw[spF_bad h];exact Tot.some_bind (Tot.ret rfl)
 refine Tot.bindq (out_tot s) fun j hj=>?_
 subst hj
 refine Tot.ite (fun h2=>?_) (fun h2=>?_)
 ·rw[spF_out h h2];exact Tot.some_bind (Tot.ret rfl)
 ·rw[spF_ok h h2];exact Tot.ret rfl
end Go.Gv.P
