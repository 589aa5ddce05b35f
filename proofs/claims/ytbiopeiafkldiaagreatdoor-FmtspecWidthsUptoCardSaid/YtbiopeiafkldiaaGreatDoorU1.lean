import Derived.Test.YtbiopeiafkldiaaGreatDoorL5
import Derived.Lib.ValidLaws
import Derived.Lib.ValidAsc
import Derived.Lib.DecodeNEq
import Derived.Lib.MapLaws
set_option linter.all false
namespace Go.Gv.R
open Go Go.Gv Go.Gv.D Go.Lib
/-! ### words of eight bytes -/
theorem u64_small {x:Int} (h:0≤x) (h':x<18446744073709551616):IntKind.u64.wrap x=x:=by rw[u64_wrap];omega
theorem or64 (a b:Nat) (h:a<18446744073709551616) (h':b<18446744073709551616):bwOr .u64 (a:Int) (b:Int)=((a ||| b:Nat):Int):=by
 unfold bwOr
 rw[show IntKind.u64.bits=64 from rfl,ofInt_nat,ofInt_nat,BitVec.toNat_or,BitVec.toNat_ofNat,BitVec.toNat_ofNat,Nat.mod_eq_of_lt (by omega),Nat.mod_eq_of_lt (by omega)]
 have:a ||| b<2^64:=Nat.or_lt_two_pow (by omega) (by omega)
 exact u64_small (by omega) (by omega)
theorem and64 (a b:Nat) (h:a<18446744073709551616) (h':b<18446744073709551616):bwAnd .u64 (a:Int) (b:Int)=((a &&& b:Nat):Int):=by
 unfold bwAnd
 rw[show IntKind.u64.bits=64 from rfl,ofInt_nat,ofInt_nat,BitVec.toNat_and,BitVec.toNat_ofNat,BitVec.toNat_ofNat,Nat.mod_eq_of_lt (by omega),Nat.mod_eq_of_lt (by omega)]
 have:a &&& b≤a:=Nat.and_le_left
 exact u64_small (by omega) (by omega)
theorem or_at (a b k:Nat) (ha:a<2^k) (hk:k≤56) (hb:b<256):bwOr .u64 (a:Int) (IntKind.u64.wrap (IntKind.u64.wrap (b:Int)*2^k))=((a+2^k*b:Nat):Int):=by
 have h1:2^k≤2^56:=Nat.pow_le_pow_right (by decide) hk
 have h2:2^k*b≤2^k*255:=Nat.mul_le_mul_left _ (by omega)
 have e:(b:Int)*2^k=((2^k*b:Nat):Int):=by
  rw[Nat.mul_comm];simp
 rw[u64_small (x:=(b:Int)) (by omega) (by omega),e,u64_small (by omega) (by omega),or64 _ _ (by omega) (by omega),Nat.or_comm,← Nat.two_pow_add_eq_or_of_lt ha,Nat.add_comm]
theorem get_sidx {t:ByteArray} {i:Nat} (h:i<t.size):sidx t (i:Int)=some ((t.get! i).toNat:Int):=by
 have h':i<(bytesOf t).length:=by rw[← size_bytes];exact h
 rw[sidx_nat h']
 have:(bytesOf t)[i]=t.get! i:=by
  have hi:i<t.data.size:=h
  show _=t.data[i]!
  rw[getElem!_pos t.data i hi]
  simp[bytesOf]
 rw[this]
theorem word_tot {t:ByteArray} (h:8≤t.size):Tot (fun fuel=>utf8_word_string fuel t) (fun r=>r=((leNat [t.get! 0,t.get! 1,t.get! 2,t.get! 3,t.get! 4,t.get! 5,t.get! 6,t.get! 7]:Nat):Int)):=by
 unfold utf8_word_string
 have b0:=byte_lt (t.get! 0)
 have b1:=byte_lt (t.get! 1)
 have b2:=byte_lt (t.get! 2)
 have b3:=byte_lt (t.get! 3)
 have b4:=byte_lt (t.get! 4)
 have b5:=byte_lt (t.get! 5)
 have b6:=byte_lt (t.get! 6)
 have b7:=byte_lt (t.get! 7)
 refine Tot.bind0 (get_sidx (i:=0) (by omega)) (Tot.bind0 (get_sidx (i:=1) (by omega)) (Tot.bind0 (get_sidx (i:=2) (by omega)) (Tot.bind0 (get_sidx (i:=3) (by omega)) (Tot.bind0 (get_sidx (i:=4) (by omega)) (Tot.bind0 (get_sidx (i:=5) (by omega)) (Tot.bind0 (get_sidx (i:=6) (by omega)) (Tot.bind0 (get_sidx (i:=7) (by omega)) (Tot.some_bind (Tot.ret ?_)))))))))
 simp only[leNat]
 generalize (t.get! 0).toNat=x0 at*
 generalize (t.get! 1).toNat=x1 at*
 generalize (t.get! 2).toNat=x2 at*
 generalize (t.get! 3).toNat=x3 at*
 generalize (t.get! 4).toNat=x4 at*
 generalize (t.get! 5).toNat=x5 at*
 generalize (t.get! 6).toNat=x6 at*
 generalize (t.get! 7).toNat=x7 at*
 rw[u64_small (x:=(x0:Int)) (by omega) (by omega),or_at _ _ 8 (by omega) (by omega) b1,or_at _ _ 16 (by omega) (by omega) b2,or_at _ _ 24 (by omega) (by omega) b3,or_at _ _ 32 (by omega) (by omega) b4,or_at _ _ 40 (by omega) (by omega) b5,or_at _ _ 48 (by omega) (by omega) b6,or_at _ _ 56 (by omega) (by omega) b7]
 omega
theorem tail_at {t:ByteArray} {k:Nat} (h:k≤t.size):ssub t (k:Int) (t.size:Int)=some (t.extract k t.size):=by
 unfold ssub
 rw[if_pos ⟨by omega,by omega,by omega⟩]
 rfl
/-! ### what is valid -/
theorem asc8 {t:ByteArray} (h:8≤t.size) (hm:leNat [t.get! 0,t.get! 1,t.get! 2,t.get! 3,t.get! 4,t.get! 5,t.get! 6,t.get! 7] &&& 9259542123273814144=0):Asc t 8:=(word_asc t h).1 hm
theorem acc_at {i:Nat} (h:i<16):idx utf8Acc (i:Int)=some ((accLo i:Int),(accHi i:Int)):=by
 have:((List.range 16).all fun i=>decide (idx utf8Acc ((i:Nat):Int)=some ((accLo i:Int),(accHi i:Int))))=true:=by kernel_rfl
 exact of_decide_eq_true (List.all_eq_true.1 this i (List.mem_range.2 h))
theorem first_at {b:Nat} (h:b<256):idx utf8First (b:Int)=some (UInt8.ofNat (firstT b)):=by
 have:((List.range 256).all fun i=>decide (idx utf8First ((i:Nat):Int)=some (UInt8.ofNat (firstT i))))=true:=by kernel_rfl
 exact of_decide_eq_true (List.all_eq_true.1 this b (List.mem_range.2 h))
theorem firstT_lt (b:Nat):firstT b<256:=by unfold firstT;(repeat' split)<;>omega
theorem first_parts {b:Nat} (h:b<256):(UInt8.ofNat (firstT b)).toNat=firstT b∧IntKind.i64.wrap (bwAnd .u8 (((UInt8.ofNat (firstT b)).toNat:Nat):Int) 7)=((firstT b%8:Nat):Int)∧(((UInt8.ofNat (firstT b)).toNat:Nat):Int).fdiv (2^4)=((firstT b/16:Nat):Int):=by
 have h2:=firstT_lt b
 have e:(UInt8.ofNat (firstT b)).toNat=firstT b:=by rw[UInt8.toNat_ofNat',Nat.mod_eq_of_lt (by omega)]
 rw[e]
 generalize firstT b=c at h2
 have k:((List.range 256).all fun c=>decide (IntKind.i64.wrap (bwAnd .u8 ((c:Nat):Int) 7)=((c%8:Nat):Int))&&decide (((c:Nat):Int).fdiv (2^4)=((c/16:Nat):Int)))=true:=by kernel_rfl
 have:=List.all_eq_true.1 k c (List.mem_range.2 h2)
 simp only[Bool.and_eq_true,decide_eq_true_eq]at this
 exact ⟨rfl,this.1,this.2⟩
theorem get_getD (t:ByteArray) (i:Nat):t.get! i=(bytesOf t).getD i 0:=by
 show t.data[i]! =t.data.toList.getD i 0
 rw[List.getD_eq_getElem?_getD,Array.getElem?_toList]
 by_cases h:i<t.data.size
 ·rw[getElem!_pos t.data i h,Array.getElem?_eq_getElem h];rfl
 ·rw[getElem!_neg t.data i h,Array.getElem?_eq_none (by omega)];rfl
theorem cast_zero {a:Nat} (h:((a:Int)==0)=true):a=0:=by have:=eq_of_beq h;omega
theorem ValidString_tot {s:ByteArray} (hs:s.size≤4611686018427387904):Tot (fun fuel=>utf8_ValidString fuel s) (fun r=>r=validD (bytesOf s)):=by
 unfold utf8_ValidString
 refine Tot.bindq (P:=fun r=>(∃ b,(r= .inr b∧b=validD (bytesOf s)))∨(r= .inl ()∧validD (bytesOf s)=true)) ?_ fun r hr=>?_
 ·refine Tot.loop (fun t=>t.size≤s.size∧validD (bytesOf t)=validD (bytesOf s)) (fun t=>t.size) ⟨Nat.le_refl _,rfl⟩ fun t ⟨hts,hv⟩=>?_
  have skip:∀ {t:ByteArray} {k:Nat},Asc t k→validD (bytesOf (t.extract k t.size))=validD (bytesOf t):=fun {t k} h=>valid_skip t k h
  refine Tot.ite (fun h=>?_) (fun h=>?_)
  ·have h:0<t.size:=by have:((t.size:Nat):Int)>0:=of_decide_eq_true h;omega
   refine Tot.bind0 (get_sidx (i:=0) h) (Tot.ite (fun h1=>?_) (fun h1=>?_))
   ·have h1:(t.get! 0).toNat<128:=by have:((t.get! 0).toNat:Int)<128:=of_decide_eq_true h1;omega
    refine Tot.bind0 (tail_at (k:=1) h) ?_
    have a1:=asc_one t h h1
    have z1:(t.extract 1 t.size).size=t.size-1:=ext_size t 1
    have v1:=skip a1
    generalize t.extract 1 t.size=t1 at z1 v1
    refine Tot.bindq (P:=fun r=>r=true→8<t1.size∧Asc t1 8) ?_ fun r hr=>?_
    ·refine Tot.ite (fun h2=>?_) (fun h2=>Tot.ret (fun e=>by cases e))
     have h2:8<t1.size:=by have:((t1.size:Nat):Int)>8:=of_decide_eq_true h2;omega
     refine Tot.bindq (word_tot (by omega)) fun r hr=>Tot.ret fun e=>⟨h2,?_⟩
     subst hr
     rw[show (9259542123273814144:Int)=((9259542123273814144:Nat):Int) from rfl,and64 _ _ (word_lt t1) (by decide)]at e
     exact asc8 (by omega) (cast_zero e)
    ·refine Tot.bindq (P:=fun t2=>t2.size<t.size∧validD (bytesOf t2)=validD (bytesOf t)) ?_ fun t2 ⟨z2,v2⟩=>?_
     ·refine Tot.ite (fun h3=>?_) (fun h3=>Tot.ret ⟨by omega,v1⟩)
      obtain ⟨h8,a8⟩:=hr h3
      refine Tot.bind0 (tail_at (k:=8) (by omega)) ?_
      have z2:(t1.extract 8 t1.size).size=t1.size-8:=ext_size t1 8
      have v2:=skip a8
      generalize t1.extract 8 t1.size=t2 at z2 v2
      refine Tot.bindq (P:=fun r=>r=true→16<t2.size∧Asc t2 16) ?_ fun r hr=>?_
      ·refine Tot.ite (fun h4=>?_) (fun h4=>Tot.ret (fun e=>by cases e))
       have h4:16<t2.size:=by have:((t2.size:Nat):Int)>16:=of_decide_eq_true h4;omega
       refine Tot.bind0 (tail_at (k:=8) (by omega)) ?_
       have z3:(t2.extract 8 t2.size).size=t2.size-8:=ext_size t2 8
       refine Tot.bindq (word_tot (by omega)) fun r hr=>Tot.bindq (word_tot (by omega)) fun r' hr'=>Tot.ret fun e=>⟨h4,?_⟩
       have l1:=word_lt t2
       have l2:=word_lt (t2.extract 8 t2.size)
       have k1:=asc8 (t:=t2) (by omega)
       have k2:=asc8 (t:=t2.extract 8 t2.size) (by omega)
       generalize leNat [t2.get! 0,t2.get! 1,t2.get! 2,t2.get! 3,t2.get! 4,t2.get! 5,t2.get! 6,t2.get! 7]=n1 at hr l1 k1
       generalize leNat [(t2.extract 8 t2.size).get! 0,(t2.extract 8 t2.size).get! 1,(t2.extract 8 t2.size).get! 2,(t2.extract 8 t2.size).get! 3,(t2.extract 8 t2.size).get! 4,(t2.extract 8 t2.size).get! 5,(t2.extract 8 t2.size).get! 6,(t2.extract 8 t2.size).get! 7]=n2 at hr' l2 k2
       subst hr hr'
       have m1:n1 ||| n2<18446744073709551616:=Nat.or_lt_two_pow (n:=64) l1 l2
       rw[or64 _ _ l1 l2,show (9259542123273814144:Int)=((9259542123273814144:Nat):Int) from rfl,and64 _ _ m1 (by decide)]at e
       obtain ⟨e1,e2⟩:=(or_mask _ _ _).1 (cast_zero e)
       exact asc_add t2 8 8 (k1 e1) (k2 e2)
      ·refine Tot.ite (fun h5=>?_) (fun h5=>Tot.ret ⟨by omega,by rw[v2,v1]⟩)
       obtain ⟨h16,a16⟩:=hr h5
       refine Tot.bind0 (tail_at (k:=16) (by omega)) ?_
       have z3:(t2.extract 16 t2.size).size=t2.size-16:=ext_size t2 16
       have v3:=skip a16
       generalize t2.extract 16 t2.size=t3 at z3 v3
       refine Tot.bindq (P:=fun t4=>t4.size≤t3.size∧validD (bytesOf t4)=validD (bytesOf t3)) ?_ fun t4 ⟨z4,v4⟩=>Tot.ret ⟨by omega,by rw[v4,v3,v2,v1]⟩
       refine Tot.loop (fun u=>u.size≤t3.size∧validD (bytesOf u)=validD (bytesOf t3)) (fun u=>u.size) ⟨Nat.le_refl _,rfl⟩ fun u ⟨zu,vu⟩=>?_
       refine Tot.bindq (P:=fun r=>r=true→32<u.size∧Asc u 32) ?_ fun r hr=>?_
       ·refine Tot.ite (fun h6=>?_) (fun h6=>Tot.ret (fun e=>by cases e))
        have h6:32<u.size:=by have:((u.size:Nat):Int)>32:=of_decide_eq_true h6;omega
        refine Tot.bind0 (tail_at (k:=8) (by omega)) (Tot.bind0 (tail_at (k:=16) (by omega)) (Tot.bind0 (tail_at (k:=24) (by omega)) ?_))
        have y1:(u.extract 8 u.size).size=u.size-8:=ext_size u 8
        have y2:(u.extract 16 u.size).size=u.size-16:=ext_size u 16
        have y3:(u.extract 24 u.size).size=u.size-24:=ext_size u 24
        refine Tot.bindq (word_tot (by omega)) fun r1 hr1=>Tot.bindq (word_tot (by omega)) fun r2 hr2=>Tot.bindq (word_tot (by omega)) fun r3 hr3=>Tot.bindq (word_tot (by omega)) fun r4 hr4=>Tot.ret fun e=>⟨h6,?_⟩
        have l1:=word_lt u
        have l2:=word_lt (u.extract 8 u.size)
        have l3:=word_lt (u.extract 16 u.size)
        have l4:=word_lt (u.extract 24 u.size)
        have k1:=asc8 (t:=u) (by omega)
        have k2:=asc8 (t:=u.extract 8 u.size) (by omega)
        have k3:=asc8 (t:=u.extract 16 u.size) (by omega)
        have k4:=asc8 (t:=u.extract 24 u.size) (by omega)
        generalize leNat [u.get! 0,u.get! 1,u.get! 2,u.get! 3,u.get! 4,u.get! 5,u.get! 6,u.get! 7]=n1 at hr1 l1 k1
        generalize leNat [(u.extract 8 u.size).get! 0,(u.extract 8 u.size).get! 1,(u.extract 8 u.size).get! 2,(u.extract 8 u.size).get! 3,(u.extract 8 u.size).get! 4,(u.extract 8 u.size).get! 5,(u.extract 8 u.size).get! 6,(u.extract 8 u.size).get! 7]=n2 at hr2 l2 k2
        generalize leNat [(u.extract 16 u.size).get! 0,(u.extract 16 u.size).get! 1,(u.extract 16 u.size).get! 2,(u.extract 16 u.size).get! 3,(u.extract 16 u.size).get! 4,(u.extract 16 u.size).get! 5,(u.extract 16 u.size).get! 6,(u.extract 16 u.size).get! 7]=n3 at hr3 l3 k3
        generalize leNat [(u.extract 24 u.size).get! 0,(u.extract 24 u.size).get! 1,(u.extract 24 u.size).get! 2,(u.extract 24 u.size).get! 3,(u.extract 24 u.size).get! 4,(u.extract 24 u.size).get! 5,(u.extract 24 u.size).get! 6,(u.extract 24 u.size).get! 7]=n4 at hr4 l4 k4
        subst hr1 hr2 hr3 hr4
        have m1:n1 ||| n2<18446744073709551616:=Nat.or_lt_two_pow (n:=64) l1 l2
        have m2:n3 ||| n4<18446744073709551616:=Nat.or_lt_two_pow (n:=64) l3 l4
        have m3:(n1 ||| n2) ||| (n3 ||| n4)<18446744073709551616:=Nat.or_lt_two_pow (n:=64) m1 m2
        rw[or64 _ _ l1 l2,or64 _ _ l3 l4,or64 _ _ m1 m2,show (9259542123273814144:Int)=((9259542123273814144:Nat):Int) from rfl,and64 _ _ m3 (by decide)]at e
        obtain ⟨e1,e2⟩:=(or_mask _ _ _).1 (cast_zero e)
        obtain ⟨e1,e3⟩:=(or_mask _ _ _).1 e1
        obtain ⟨e2,e4⟩:=(or_mask _ _ _).1 e2
        exact asc_add u 24 8 (asc_add u 16 8 (asc_add u 8 8 (k1 e1) (k2 e3)) (k3 e2)) (k4 e4)
       ·refine Tot.ite (fun h7=>?_) (fun h7=>Tot.ret ⟨zu,vu⟩)
        obtain ⟨h32,a32⟩:=hr h7
        refine Tot.bind0 (tail_at (k:=32) (by omega)) (Tot.ret ?_)
        have z5:(u.extract 32 u.size).size=u.size-32:=ext_size u 32
        exact ⟨⟨by omega,by rw[skip a32,vu]⟩,by omega⟩
     ·exact Tot.ret ⟨⟨by omega,by rw[v2,hv]⟩,z2⟩
   ·have h1:128≤(t.get! 0).toNat:=by have:¬ ((t.get! 0).toNat:Int)<128:=of_decide_eq_false h1;omega
    have b0:=byte_lt (t.get! 0)
    have hlead:=validD_lead (bytesOf t) (by intro e;have:=size_bytes t;rw[e,List.length_nil]at this;omega) (by rw[← get_getD];exact h1)
    rw[hv,← get_getD,← get_getD,← get_getD,← get_getD,← size_bytes]at hlead
    obtain ⟨f1,f2,f3⟩:=first_parts b0
    have hf:=firstT_lt (t.get! 0).toNat
    refine Tot.bind0 (first_at b0) (Tot.some_bind ?_)
    rw[f2,f3]
    have h16:firstT (t.get! 0).toNat/16<16:=by omega
    refine Tot.bind0 (acc_at h16) ?_
    generalize accLo (firstT (t.get! 0).toNat/16)=lo at hlead
    generalize accHi (firstT (t.get! 0).toNat/16)=hi at hlead
    generalize firstT (t.get! 0).toNat%8=sz at hlead
    have go:∀ {k:Nat},0<k→k≤t.size→validD (bytesOf s)=validD ((bytesOf t).drop k)→((t.extract k t.size).size≤s.size∧validD (bytesOf (t.extract k t.size))=validD (bytesOf s))∧(t.extract k t.size).size<t.size:=fun {k} hk0 hk hvk=>by
     have z:=ext_size t k
     refine ⟨⟨by omega,?_⟩,by omega⟩
     rw[hvk]
     show validD (t.extract k t.size).data.toList=_
     rw[ext_list];rfl
    refine Tot.bindq (P:=fun r=>(r= .inr (.inr (.inr false))∧validD (bytesOf s)=false)∨∃ t',r= .inl t'∧(t'.size≤s.size∧validD (bytesOf t')=validD (bytesOf s))∧t'.size<t.size) ?_ fun r hr=>?_
    ·unfold checkN at hlead
     refine Tot.ite (fun h2=>?_) (fun h2=>Tot.ite (fun h3=>?_) (fun h3=>Tot.ite (fun h4=>?_) (fun h4=>?_)))
     ·have h2:sz=2:=by have:=eq_of_beq h2;omega
      rw[if_pos h2]at hlead
      refine Tot.bindq (P:=fun r=>r=decide (t.size<2∨(t.get! 1).toNat<lo∨hi<(t.get! 1).toNat)) ?_ fun r hr=>?_
      ·refine Tot.ite (fun q=>?_) (fun q=>?_)
       ·have q:(t.size:Int)<2:=of_decide_eq_true q
        exact Tot.ret (decide_eq_true (.inl (by omega))).symm
       ·have q:¬ (t.size:Int)<2:=of_decide_eq_false q
        refine Tot.bind0 (get_sidx (i:=1) (by omega)) (Tot.ite (fun q1=>?_) (fun q1=>?_))
        ·have q1:((t.get! 1).toNat:Int)<(lo:Int):=of_decide_eq_true q1
         exact Tot.ret (decide_eq_true (.inr (.inl (by omega)))).symm
        ·have q1:¬ ((t.get! 1).toNat:Int)<(lo:Int):=of_decide_eq_false q1
         refine Tot.bind0 (get_sidx (i:=1) (by omega)) (Tot.ret (decide_eq_decide.2 ⟨fun h=>.inr (.inr (by omega)),fun h=>?_⟩))
         dsimp only at h ⊢
         omega
      ·subst hr
       refine Tot.ite (fun q=>?_) (fun q=>?_)
       ·have q:=of_decide_eq_true q
        rw[if_pos q]at hlead
        exact Tot.ret (.inl ⟨rfl,hlead⟩)
       ·have q:=of_decide_eq_false q
        rw[if_neg q]at hlead
        refine Tot.bind0 (tail_at (k:=2) (by omega)) (Tot.ret (.inr ⟨_,rfl,go (by omega) (by omega) hlead⟩))
     ·have h3:sz=3:=by have:=eq_of_beq h3;omega
      rw[if_neg (by omega),if_pos h3]at hlead
      refine Tot.bindq (P:=fun r=>r=decide (t.size<3∨(t.get! 1).toNat<lo∨hi<(t.get! 1).toNat∨(t.get! 2).toNat<128∨191<(t.get! 2).toNat)) ?_ fun r hr=>?_
      ·refine Tot.ite (fun q=>?_) (fun q=>?_)
       ·have q:(t.size:Int)<3:=of_decide_eq_true q
        exact Tot.ret (decide_eq_true (.inl (by omega))).symm
       have q:¬ (t.size:Int)<3:=of_decide_eq_false q
       refine Tot.bind0 (get_sidx (i:=1) (by omega)) (Tot.ite (fun q1=>?_) (fun q1=>?_))
       ·have q1:((t.get! 1).toNat:Int)<(lo:Int):=of_decide_eq_true q1
        exact Tot.ret (decide_eq_true (.inr (.inl (by omega)))).symm
       have q1:¬ ((t.get! 1).toNat:Int)<(lo:Int):=of_decide_eq_false q1
       refine Tot.bind0 (get_sidx (i:=1) (by omega)) (Tot.ite (fun q2=>?_) (fun q2=>?_))
       ·have q2:(hi:Int)<((t.get! 1).toNat:Int):=of_decide_eq_true q2
        exact Tot.ret (decide_eq_true (.inr (.inr (.inl (by omega))))).symm
       have q2:¬ (hi:Int)<((t.get! 1).toNat:Int):=of_decide_eq_false q2
       refine Tot.bind0 (get_sidx (i:=2) (by omega)) (Tot.ite (fun q3=>?_) (fun q3=>?_))
       ·have q3:((t.get! 2).toNat:Int)<128:=of_decide_eq_true q3
        exact Tot.ret (decide_eq_true (.inr (.inr (.inr (.inl (by omega)))))).symm
       have q3:¬ ((t.get! 2).toNat:Int)<128:=of_decide_eq_false q3
       refine Tot.bind0 (get_sidx (i:=2) (by omega)) (Tot.ret (decide_eq_decide.2 ⟨fun h=>.inr (.inr (.inr (.inr (by omega)))),fun h=>?_⟩))
       omega
      ·subst hr
       refine Tot.ite (fun q=>?_) (fun q=>?_)
       ·have q:=of_decide_eq_true q
        rw[if_pos q]at hlead
        exact Tot.ret (.inl ⟨rfl,hlead⟩)
       ·have q:=of_decide_eq_false q
        rw[if_neg q]at hlead
        refine Tot.bind0 (tail_at (k:=3) (by omega)) (Tot.ret (.inr ⟨_,rfl,go (by omega) (by omega) hlead⟩))
     ·have h4:sz=4:=by have:=eq_of_beq h4;omega
      rw[if_neg (by omega),if_neg (by omega),if_pos h4]at hlead
      refine Tot.bindq (P:=fun r=>r=decide (t.size<4∨(t.get! 1).toNat<lo∨hi<(t.get! 1).toNat∨(t.get! 2).toNat<128∨191<(t.get! 2).toNat∨(t.get! 3).toNat<128∨191<(t.get! 3).toNat)) ?_ fun r hr=>?_
      ·refine Tot.ite (fun q=>?_) (fun q=>?_)
       ·have q:(t.size:Int)<4:=of_decide_eq_true q
        exact Tot.ret (decide_eq_true (.inl (by omega))).symm
       have q:¬ (t.size:Int)<4:=of_decide_eq_false q
       refine Tot.bind0 (get_sidx (i:=1) (by omega)) (Tot.ite (fun q1=>?_) (fun q1=>?_))
       ·have q1:((t.get! 1).toNat:Int)<(lo:Int):=of_decide_eq_true q1
        exact Tot.ret (decide_eq_true (.inr (.inl (by omega)))).symm
       have q1:¬ ((t.get! 1).toNat:Int)<(lo:Int):=of_decide_eq_false q1
       refine Tot.bind0 (get_sidx (i:=1) (by omega)) (Tot.ite (fun q2=>?_) (fun q2=>?_))
       ·have q2:(hi:Int)<((t.get! 1).toNat:Int):=of_decide_eq_true q2
        exact Tot.ret (decide_eq_true (.inr (.inr (.inl (by omega))))).symm
       have q2:¬ (hi:Int)<((t.get! 1).toNat:Int):=of_decide_eq_false q2
       refine Tot.bind0 (get_sidx (i:=2) (by omega)) (Tot.ite (fun q3=>?_) (fun q3=>?_))
       ·have q3:((t.get! 2).toNat:Int)<128:=of_decide_eq_true q3
        exact Tot.ret (decide_eq_true (.inr (.inr (.inr (.inl (by omega)))))).symm
       have q3:¬ ((t.get! 2).toNat:Int)<128:=of_decide_eq_false q3
       refine Tot.bind0 (get_sidx (i:=2) (by omega)) (Tot.ite (fun q4=>?_) (fun q4=>?_))
       ·have q4:191<((t.get! 2).toNat:Int):=of_decide_eq_true q4
        exact Tot.ret (decide_eq_true (.inr (.inr (.inr (.inr (.inl (by omega))))))).symm
       have q4:¬ 191<((t.get! 2).toNat:Int):=of_decide_eq_false q4
       refine Tot.bind0 (get_sidx (i:=3) (by omega)) (Tot.ite (fun q5=>?_) (fun q5=>?_))
       ·have q5:((t.get! 3).toNat:Int)<128:=of_decide_eq_true q5
        exact Tot.ret (decide_eq_true (.inr (.inr (.inr (.inr (.inr (.inl (by omega)))))))).symm
       have q5:¬ ((t.get! 3).toNat:Int)<128:=of_decide_eq_false q5
       refine Tot.bind0 (get_sidx (i:=3) (by omega)) (Tot.ret (decide_eq_decide.2 ⟨fun h=>.inr (.inr (.inr (.inr (.inr (.inr (by omega)))))),fun h=>?_⟩))
       omega
      ·subst hr
       refine Tot.ite (fun q=>?_) (fun q=>?_)
       ·have q:=of_decide_eq_true q
        rw[if_pos q]at hlead
        exact Tot.ret (.inl ⟨rfl,hlead⟩)
       ·have q:=of_decide_eq_false q
        rw[if_neg q]at hlead
        refine Tot.bind0 (tail_at (k:=4) (by omega)) (Tot.ret (.inr ⟨_,rfl,go (by omega) (by omega) hlead⟩))
     ·have n2:sz≠2:=fun e=>by subst e;cases h2
      have n3:sz≠3:=fun e=>by subst e;cases h3
      have n4:sz≠4:=fun e=>by subst e;cases h4
      rw[if_neg n2,if_neg n3,if_neg n4]at hlead
      exact Tot.ret (.inl ⟨rfl,hlead⟩)
    ·rcases hr with ⟨e,hb⟩ | ⟨t',e,hb,hl⟩
     ·subst e
      exact Tot.contr (.inl ⟨false,rfl,hb.symm⟩)
     ·subst e
      exact Tot.contl (Tot.ret ⟨hb,hl⟩)
  ·have h:t.size=0:=by have:¬ ((t.size:Nat):Int)>0:=of_decide_eq_false h;omega
   refine Tot.ret (.inr ⟨rfl,?_⟩)
   rw[← hv,show bytesOf t=[] from List.length_eq_zero_iff.1 (by rw[← size_bytes];exact h)]
   rfl
 ·rcases hr with ⟨b,e,hb⟩ | ⟨e,hb⟩
  ·subst e;exact Tot.contr hb
  ·subst e;exact Tot.contl (Tot.ret hb.symm)
end Go.Gv.R
namespace Go.Gv.R
open Go Go.Gv Go.Gv.D Go.Lib
theorem i32_small {x:Int} (h:0≤x) (h':x<2147483648):IntKind.i32.wrap x=x:=by
 simp only[IntKind.wrap,IntKind.signed,IntKind.bits,Bool.true_and]
 rw[if_neg (by simp;omega)]
 omega
theorem or32 (a b k:Nat) (hb:b<2^k) (h:2^k*a+b<2147483648):bwOr .i32 ((2^k*a:Nat):Int) (b:Int)=((2^k*a+b:Nat):Int):=by
 unfold bwOr
 rw[show IntKind.i32.bits=32 from rfl,ofInt_nat,ofInt_nat,BitVec.toNat_or,BitVec.toNat_ofNat,BitVec.toNat_ofNat]
 rw[Nat.mod_eq_of_lt (by omega),Nat.mod_eq_of_lt (by omega),← Nat.two_pow_add_eq_or_of_lt hb]
 exact i32_small (by omega) (by omega)
theorem and_u8 {b:Nat} (h:b<256):bwAnd .u8 (b:Int) 7=((b%8:Nat):Int)∧bwAnd .u8 (b:Int) 15=((b%16:Nat):Int)∧bwAnd .u8 (b:Int) 31=((b%32:Nat):Int)∧bwAnd .u8 (b:Int) 63=((b%64:Nat):Int):=by
 have k:((List.range 256).all fun b=>decide (bwAnd .u8 ((b:Nat):Int) 7=((b%8:Nat):Int))&&(decide (bwAnd .u8 ((b:Nat):Int) 15=((b%16:Nat):Int))&&(decide (bwAnd .u8 ((b:Nat):Int) 31=((b%32:Nat):Int))&&decide (bwAnd .u8 ((b:Nat):Int) 63=((b%64:Nat):Int)))))=true:=by kernel_rfl
 have:=List.all_eq_true.1 k b (List.mem_range.2 h)
 simpa only [Bool.and_eq_true,decide_eq_true_eq] using this
theorem sh32 (a k:Nat) (h:2^k*a<2147483648):IntKind.i32.wrap (IntKind.i32.wrap (a:Int)*2^k)=((2^k*a:Nat):Int):=by
 have hp:=Nat.two_pow_pos k
 have ha:a≤2^k*a:=Nat.le_mul_of_pos_left _ hp
 have e:(a:Int)*2^k=((2^k*a:Nat):Int):=by rw[Nat.mul_comm];simp
 rw[i32_small (x:=(a:Int)) (by omega) (by omega),e,i32_small (by omega) (by omega)]
theorem slow_byte {b:Nat} (h:b<256) (hf:240≤firstT b):bwOr .i32 (bwAndNot .i32 (IntKind.i32.wrap (b:Int)) ((IntKind.i32.wrap (IntKind.i32.wrap (firstT b:Int)*2^31)).fdiv (2^31))) (bwAnd .i32 65533 ((IntKind.i32.wrap (IntKind.i32.wrap (firstT b:Int)*2^31)).fdiv (2^31)))=if firstT b=240 then (b:Int) else 65533:=by
 have k:((List.range 256).all fun b=> !(Nat.ble 240 (firstT b))||decide (bwOr .i32 (bwAndNot .i32 (IntKind.i32.wrap ((b:Nat):Int)) ((IntKind.i32.wrap (IntKind.i32.wrap (firstT b:Int)*2^31)).fdiv (2^31))) (bwAnd .i32 65533 ((IntKind.i32.wrap (IntKind.i32.wrap (firstT b:Int)*2^31)).fdiv (2^31)))=if firstT b=240 then ((b:Nat):Int) else 65533))=true:=by kernel_rfl
 have:=List.all_eq_true.1 k b (List.mem_range.2 h)
 rw[Nat.ble_eq_true_of_le hf]at this
 simpa only [Bool.not_true,Bool.false_or,decide_eq_true_eq] using this
theorem firstT_240 {b:Nat} (h:240≤firstT b):firstT b=240∨firstT b=241:=by
 have:firstT b=240∨firstT b=241∨firstT b<240:=by unfold firstT;(repeat' split)<;>omega
 omega
theorem getD_idx {l:List UInt8} {i:Nat} (h:i<l.length):idx l (i:Int)=some (l.getD i 0):=by
 rw[idx_nat h];simp[h]
end Go.Gv.R
namespace Go.Gv.R
open Go Go.Gv Go.Gv.D Go.Lib
theorem u32_small {x:Int} (h:0≤x) (h':x<4294967296):IntKind.u32.wrap x=x:=by rw[u32_wrap];omega
/-! ### scalars, and texts of them -/
def Scal (r:Nat):Prop:=r<55296∨(57343<r∧r≤1114111)
def encR (r:Nat):List UInt8:=encodeRune (r:Int)
def enc (l:List Nat):List UInt8:=l.flatMap encR
theorem encR_pos (r:Nat):1≤(encR r).length∧(encR r).length≤4:=by
 have:=encodeRuneZ_length (r:Int)
 unfold encR encodeRune
 rw[List.length_map];exact this
/-- ENCODED AND DECODED. -/
theorem decode_enc (r:Nat) (h:Scal r) (t:List UInt8):decodeL (encR r++t)=(r,(encR r).length):=by
 rw[decodeL_N]
 unfold encR encodeRune
 have hb:∀ z:Int,0≤z→z<256→(z.toNat.toUInt8).toNat=z.toNat:=fun z h1 h2=>by
  show (UInt8.ofNat z.toNat).toNat=_
  rw[UInt8.toNat_ofNat',Nat.mod_eq_of_lt (by omega)]
 unfold Scal at h
 rcases (by omega:r≤127∨(128≤r∧r≤2047)∨(2048≤r∧r≤65535)∨65536≤r) with c | c | c | c
 ·rw[encodeRuneZ_one (by omega) (by omega)]
  simp only[List.map_cons,List.map_nil,List.cons_append,List.nil_append,List.getD_cons_zero,List.getD_cons_succ,List.length_cons,List.length_nil]
  rw[hb _ (by omega) (by omega)]
  unfold decodeN
  rw[if_pos (by omega)];simp
 ·rw[encodeRuneZ_two (by omega) (by omega)]
  simp only[List.map_cons,List.map_nil,List.cons_append,List.nil_append,List.getD_cons_zero,List.getD_cons_succ,List.length_cons,List.length_nil]
  rw[hb _ (by omega) (by omega),hb _ (by omega) (by omega)]
  unfold decodeN
  rw[if_neg (by omega),if_pos ⟨by omega,by omega,by omega⟩,if_pos (by omega)]
  congr 1;omega
 ·rw[encodeRuneZ_three (by omega)]
  simp only[List.map_cons,List.map_nil,List.cons_append,List.nil_append,List.getD_cons_zero,List.getD_cons_succ,List.length_cons,List.length_nil]
  rw[hb _ (by omega) (by omega),hb _ (by omega) (by omega),hb _ (by omega) (by omega)]
  unfold decodeN
  rw[if_neg (by omega),if_neg (by omega),if_pos ⟨by omega,⟨by omega,by omega⟩,by omega,by omega⟩,if_pos ⟨by omega,by omega⟩]
  congr 1;omega
 ·rw[encodeRuneZ_four (by omega) (by omega)]
  simp only[List.map_cons,List.map_nil,List.cons_append,List.nil_append,List.getD_cons_zero,List.getD_cons_succ,List.length_cons,List.length_nil]
  rw[hb _ (by omega) (by omega),hb _ (by omega) (by omega),hb _ (by omega) (by omega),hb _ (by omega) (by omega)]
  unfold decodeN
  rw[if_neg (by omega),if_neg (by omega),if_neg (by omega),if_pos ⟨by omega,⟨by omega,by omega⟩,⟨by omega,by omega⟩,by omega,by omega⟩,if_pos ⟨by omega,by omega⟩]
  congr 1;omega
theorem enc_cons (r:Nat) (l:List Nat):enc (r::l)=encR r++enc l:=by simp[enc]
theorem enc_app (l m:List Nat):enc (l++m)=enc l++enc m:=by simp[enc]
theorem enc_ne {r:Nat} {l:List Nat}:enc (r::l)≠[]:=by
 have:=encR_pos r
 rw[enc_cons]
 intro e
 have:=congrArg List.length e
 rw[List.length_append,List.length_nil]at this
 omega
theorem not_bad {r:Nat} (h:Scal r):¬ (r=65533∧(encR r).length=1):=fun ⟨e,h2⟩=>by
 subst e
 have:(encR 65533).length=3:=by kernel_rfl
 omega
theorem valid_enc:∀ (l:List Nat),(∀ r∈l,Scal r)→validD (enc l)=true
 | [],_=>rfl
 | r::l,h=>by
   have hr:=h r (by simp)
   rw[validD_step _ enc_ne,enc_cons,decode_enc r hr,if_neg (not_bad hr)]
   rw[List.drop_left]
   exact valid_enc l fun x hx=>h x (by simp[hx])
theorem decode_scal {l:List UInt8} (hne:l≠[]) (hv:¬ ((decodeL l).1=65533∧(decodeL l).2=1)):Scal (decodeL l).1:=by
 rw[decodeL_N]at*
 have k0:=byte_lt (l.getD 0 0)
 have k1:=byte_lt (l.getD 1 0)
 unfold Scal
 rcases decodeN_shape l.length (l.getD 0 0).toNat (l.getD 1 0).toNat (l.getD 2 0).toNat (l.getD 3 0).toNat with ⟨c,e⟩ | ⟨c1,c2,c3,cv,e⟩ | ⟨c1,c2,c3,c4,cv,cs,e⟩ | ⟨c1,c2,c3,c4,c5,cv,cw,e⟩ | e
 ·rw[e];dsimp only;omega
 ·rw[e];dsimp only;omega
 ·rw[e];dsimp only;omega
 ·rw[e];dsimp only;omega
 ·rw[e]at hv;exact absurd ⟨rfl,rfl⟩ hv
theorem enc_of_valid:∀ (n:Nat) (l:List UInt8),l.length≤n→validD l=true→∃ p,(∀ r∈p,Scal r)∧l=enc p
 | _,[],_,_=>⟨[],by simp,rfl⟩
 | 0,_::_,h,_=>by simp at h
 | n+1,x::t,h,hv=>by
   have hne:x::t≠[]:=by simp
   rw[validD_step _ hne]at hv
   split at hv
   ·cases hv
   ·rename_i hb
    have hw:=decodeL_width (x::t)
    obtain ⟨p,hp,e⟩:=enc_of_valid n ((x::t).drop (decodeL (x::t)).2) (by rw[List.length_drop];simp only[List.length_cons]at h ⊢;omega) hv
    refine ⟨(decodeL (x::t)).1::p,?_,?_⟩
    ·intro r hr
     rcases List.mem_cons.1 hr with h' | h'
     ·rw[h'];exact decode_scal hne hb
     ·exact hp r h'
    ·rw[enc_cons,← e,encR,encode_decode _ hne hb,List.take_append_drop]
theorem valid_iff {l:List UInt8} (h:validD l=true):∃ p,(∀ r∈p,Scal r)∧l=enc p:=enc_of_valid _ l (Nat.le_refl _) h
end Go.Gv.R
