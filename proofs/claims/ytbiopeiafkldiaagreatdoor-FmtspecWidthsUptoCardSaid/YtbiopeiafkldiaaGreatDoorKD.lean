import Derived.Test.YtbiopeiafkldiaaGreatDoorKA
set_option linter.all false
namespace Go.Gv.P
open Go Go.Gv Go.Gv.D Go.Gv.R Go.Lib
open Go.Gv.RI (val Dg Nz OkL OkI OkN vb Db IsB noz NDigits_tot DivMod_tot NMul_tot NAdd_tot NCmp_tot val_big val_bound pow_mono pow_le_left)
set_option maxRecDepth 100000
/-! Own work: a fixed number of digits. -/
theorem wn_len {a:List Int} {B:Int} (ha:OkN a) (hB:IsB B):1≤(wn B (val a)).length∧(wn B (val a)).length≤20000:=by
 unfold wn
 split
 ·exact ⟨by simp,by simp⟩
 ·rename_i h
  have h1:=dlen ha hB
  have h2:dl B (val a)≠[]:=fun e=>h ((dl_nil hB.one (val_bound ha.1).1).1 e)
  have:=List.length_pos_iff.2 h2
  simp;omega
theorem rep_bytes (c:UInt8) (n:Nat):repeatL [c] n=List.replicate n c:=by
 induction n with
 | zero=>rfl
 | succ n ih=>rw[List.replicate_succ,← ih];rfl
theorem repeat_some (c:UInt8) {n:Nat} (h:n≤100000) (k:Nat):strings_Repeat k (strOf [c]) (n:Int)=some (strOf (List.replicate n c)):=by
 unfold strings_Repeat
 rw[size_str,bytes_str,if_pos ⟨by omega,by omega,by simp;omega⟩,Int.toNat_natCast,rep_bytes]
/-- digits with zeros ahead, so many that one stands ahead of the point -/
def padZ (pl:Nat) (d:List UInt8):List UInt8:=List.replicate (pl+1-d.length) 48++d
def point (pl:Nat) (d r:List UInt8):List UInt8:=if 0<pl then r++(46::d.drop (d.length-pl)) else r
def fixS (a b:Int) (pl:Nat) (g:Int):List UInt8:=point pl (padZ pl (wn 10 (nea (a*10^pl) b))) (grp g 3 ((padZ pl (wn 10 (nea (a*10^pl) b))).take ((padZ pl (wn 10 (nea (a*10^pl) b))).length-pl)))
theorem grp_len {g:Int} {z:Nat} (hz:1≤z) (l:List UInt8):(grp g z l).length≤2*l.length+1:=by
 unfold grp
 split
 ·omega
 ·have:=gps_len hz l.length l rfl
  rw[join_len,this.2]
  omega
theorem fixed_tot {a b:List Int} (ha:OkN a) (hb:OkN b) (hb0:b≠[]) {pl:Nat} (hp:pl≤500) {g:Int} (hg:g=0∨g=44∨g=95) (la:a.length≤300) (lb:b.length≤200):
 Tot (fun fuel=>fmtspec_fixed fuel a b (pl:Int) g) (fun r=>r=strOf (fixS (val a) (val b) pl g)):=by
 unfold fmtspec_fixed
 refine Tot.bindq (power_tot (n:=pl) (by omega)) fun p ⟨p1,p2,p3⟩=>?_
 refine Tot.bindq (NMul_tot ha p1 (by omega)) fun m ⟨m1,m2,m3,m4⟩=>?_
 refine Tot.bindq (nearest_tot m2 hb hb0 (by omega) (by omega)) fun q ⟨q1,q2,q3⟩=>?_
 refine Tot.bindq (long_tot q1) fun d hd=>?_
 have hl:=wn_len q1 (B:=10) (.inr (.inr (.inl rfl)))
 rw[q2,m3,p2]at hd hl
 subst hd
 unfold fixS
 generalize wn 10 (nea (val a*10^pl) (val b))=D at hl ⊢
 simp only[size_str]
 have w1:IntKind.i64.wrap (IntKind.i64.wrap ((pl:Int)+1)-((D.length:Nat):Int))=(pl:Int)+1-(D.length:Int):=by rw[i64_small (x:=(pl:Int)+1) (by omega) (by omega),i64_small (by omega) (by omega)]
 rw[w1]
 refine Tot.some_bind ?_
 refine Tot.bindq (P:=(· =strOf (padZ pl D))) ?_ fun j hj=>?_
 ·refine Tot.ite (fun h=>?_) (fun h=>Tot.ret ?_)
  ·have h:(pl:Int)+1-(D.length:Int)>0:=of_decide_eq_true h
   rw[show (pl:Int)+1-(D.length:Int)=((pl+1-D.length:Nat):Int) by omega]
   refine Tot.bindq (RI.Tot.all (repeat_some 48 (n:=pl+1-D.length) (by omega))) fun r hr=>?_
   subst hr
   exact Tot.bind0 (cat_str (by simp;omega)) (Tot.ret rfl)
  ·have h:¬ (pl:Int)+1-(D.length:Int)>0:=of_decide_eq_false h
   unfold padZ
   rw[show pl+1-D.length=0 by omega]
   rfl
 ·subst hj
  have hZ:pl+1≤(padZ pl D).length∧(padZ pl D).length≤30000:=by unfold padZ;simp;omega
  generalize padZ pl D=Z at hZ ⊢
  simp only[size_str]
  rw[iw (x:=(Z.length:Int)-(pl:Int)) (n:=Z.length-pl) (by omega) (by omega)]
  refine Tot.bind0 (ssub_str (l:=Z) (i:=0) (by omega) (by omega)) ?_
  refine Tot.bindq (grouped_tot (l:=(Z.take (Z.length-pl)).drop 0) (z:=3) hg (by omega) (by omega) (by simp;omega)) fun r hr=>?_
  subst hr
  have hgl:=grp_len (g:=g) (z:=3) (by omega) ((Z.take (Z.length-pl)).drop 0)
  simp only[List.length_drop,List.length_take]at hgl
  rw[List.drop_zero]at hgl ⊢
  refine Tot.bindq (P:=(· =strOf (point pl Z (grp g 3 (Z.take (Z.length-pl)))))) ?_ fun j hj=>Tot.ret hj
  unfold point
  refine Tot.ite (fun h=>?_) (fun h=>Tot.ret ?_)
  ·have h:0<pl:=by have:(pl:Int)>0:=of_decide_eq_true h;omega
   rw[if_pos h]
   refine Tot.bind0 (ssub_str (l:=Z) (by omega) (Nat.le_refl _)) ?_
   rw[List.take_length]
   refine Tot.bind0 (cat_str (l:=[46]) (by simp;omega)) (Tot.bind0 (cat_str (by simp;omega)) (Tot.ret rfl))
  ·have h:¬ 0<pl:=by have:¬ (pl:Int)>0:=of_decide_eq_false h;omega
   rw[if_neg h]
/-! ### with an exponent -/
/-- num * 10^n and den, or num and den * 10^-n -/
def scA (a:Int) (n:Int):Int:=if 0≤n then a*10^n.toNat else a
def scB (b:Int) (n:Int):Int:=if 0≤n then b else b*10^(-n).toNat
theorem scaled_tot {a b:List Int} (ha:OkN a) (hb:OkN b) (la:a.length≤200) (lb:b.length≤200) {n:Int} (h1: -2000≤n) (h2:n≤2000):
 Tot (fun fuel=>fmtspec_scaled fuel a b n) (fun r=>OkN r.1∧OkN r.2∧val r.1=scA (val a) n∧val r.2=scB (val b) n∧r.1.length≤430∧r.2.length≤430):=by
 unfold fmtspec_scaled scA scB
 refine Tot.bindq (P:=fun j=>OkN j.1∧OkN j.2∧val j.1=(if 0≤n then val a*10^n.toNat else val a)∧val j.2=(if 0≤n then val b else val b*10^(-n).toNat)∧j.1.length≤430∧j.2.length≤430) ?_ fun j hj=>Tot.ret hj
 refine Tot.ite (fun h=>?_) (fun h=>?_)
 ·have h:0≤n:=of_decide_eq_true h
  have hp:=power_tot (n:=n.toNat) (by omega)
  rw[show ((n.toNat:Nat):Int)=n by omega]at hp
  rw[if_pos h,if_pos h]
  exact Tot.bindq hp fun p ⟨p1,p2,p3⟩=>Tot.bindq (NMul_tot ha p1 (by omega)) fun m ⟨m1,m2,m3,m4⟩=>Tot.ret ⟨m2,hb,by rw[m3,p2],rfl,by simp only;omega,by simp only;omega⟩
 ·have h:¬ 0≤n:=of_decide_eq_false h
  have hp:=power_tot (n:=(-n).toNat) (by omega)
  rw[if_neg h,if_neg h]
  rw[i64_small (x:=0-n) (by omega) (by omega)]
  rw[show (((-n).toNat:Nat):Int)=0-n by omega]at hp
  exact Tot.bindq hp fun p ⟨p1,p2,p3⟩=>Tot.bindq (NMul_tot hb p1 (by omega)) fun m ⟨m1,m2,m3,m4⟩=>Tot.ret ⟨ha,m2,rfl,by rw[m3,p2],by simp only;omega,by simp only;omega⟩
theorem less_tot {a b:List Int} (ha:OkN a) (hb:OkN b) (la:a.length≤200) (lb:b.length≤200) {n:Int} (h1: -2000≤n) (h2:n≤2000):
 Tot (fun fuel=>fmtspec_less fuel a b n) (· =decide (scA (val a) (-n)<scB (val b) (-n))):=by
 unfold fmtspec_less
 rw[i64_small (x:=0-n) (by omega) (by omega),show 0-n= -n by omega]
 refine Tot.bindq (scaled_tot ha hb la lb (n:= -n) (by omega) (by omega)) fun r ⟨r1,r2,r3,r4,r5,r6⟩=>?_
 refine Tot.bindq (NCmp_tot r1 r2) fun c ⟨c1,c2,c3⟩=>Tot.ret ?_
 rw[← r3,← r4]
 exact decide_eq_decide.2 c2
/-- the exponent of the first digit -/
def expo (a b:Int):Int:=if scA a (-(((wn 10 a).length:Int)-((wn 10 b).length:Int)))<scB b (-(((wn 10 a).length:Int)-((wn 10 b).length:Int))) then ((wn 10 a).length:Int)-((wn 10 b).length:Int)-1 else ((wn 10 a).length:Int)-((wn 10 b).length:Int)
/-- the digits ahead of the exponent, and it -/
def mant (a b:Int) (pl:Nat):Int × List UInt8:=
 if a=0 then (0,List.replicate (pl+1) 48)
 else if pl+1<(wn 10 (nea (scA a (pl-expo a b)) (scB b (pl-expo a b)))).length then (expo a b+1,(wn 10 (nea (scA a (pl-expo a b)) (scB b (pl-expo a b)))).take (pl+1))
 else (expo a b,wn 10 (nea (scA a (pl-expo a b)) (scB b (pl-expo a b))))
def expS (e:Int):List UInt8:=(if e<0 then [101,45] else [101,43])++(if e.natAbs<10 then [48] else [])++itoa e.natAbs
def sciS (a b:Int) (pl:Nat):List UInt8:=((mant a b pl).2.take 1++(if 0<pl then 46::(mant a b pl).2.drop 1 else []))++expS (mant a b pl).1
theorem wn_len128 {a:List Int} (ha:OkL a):(wn 10 (val a)).length≤1300:=by
 have hB:IsB 10:=.inr (.inr (.inl rfl))
 have h0:=(val_bound ha.1).1
 unfold wn
 split
 ·simp
 ·rename_i h
  obtain ⟨d1,d2,d3⟩:=dl_ok hB.one h0
  rcases Nat.lt_or_ge 1300 ((dl 10 (val a)).reverse.map dch).length with hh | hh
  ·exfalso
   simp at hh
   generalize dl 10 (val a)=l at*
   rcases d3 with d3 | d3
   ·subst d3;simp at hh
   ·have hl:l≠[]:=fun e=>by subst e;simp at hh
    have hge:(10:Int)^(l.length-1)≤vb 10 l:=by
     have:=List.dropLast_concat_getLast hl
     have hd:=d1 (l.getLast hl) (List.getLast_mem hl)
     have hne:l.getLast hl≠0:=fun e=>d3 (by rw[List.getLast?_eq_some_getLast hl,e])
     have hdl:Db 10 l.dropLast:=fun x hx=>d1 x (List.dropLast_subset l hx)
     have h2:=(RI.vb_bound (show (1:Int)<10 by decide) hdl).1
     conv=>rhs;rw[← this]
     rw[RI.vb_snoc]
     have h3:(10:Int)^l.dropLast.length*1≤10^l.dropLast.length*l.getLast hl:=Int.mul_le_mul_of_nonneg_left (by omega) (by have:=ten_pow_pos l.dropLast.length;omega)
     rw[show l.length-1=l.dropLast.length by simp]
     omega
    have h4:=(RI.val_lt_big ha).2
    have h5:(10:Int)^1300≤10^(l.length-1):=by
     obtain ⟨d,hd⟩:=Nat.exists_eq_add_of_le (show 1300≤l.length-1 by omega)
     rw[hd,Int.pow_add]
     have h1:=ten_pow_pos 1300
     have h2:=ten_pow_pos d
     have:(10:Int)^1300*1≤10^1300*10^d:=Int.mul_le_mul_of_nonneg_left (by omega) (by omega)
     omega
    have h6:RI.Big≤(10:Int)^1300:=by rw[RI.big_two];exact of_decide_eq_true (by kernel_rfl)
    omega
  ·exact hh
end Go.Gv.P
namespace Go.Gv.P
open Go Go.Gv Go.Gv.D Go.Gv.R Go.Lib
open Go.Gv.RI (val Dg Nz OkL OkI OkN vb Db IsB noz NDigits_tot DivMod_tot NMul_tot NAdd_tot NCmp_tot val_big val_bound pow_mono pow_le_left)
set_option maxRecDepth 100000
theorem expo_bound {a b:List Int} (ha:OkL a) (hb:OkL b): -1301≤expo (val a) (val b)∧expo (val a) (val b)≤1300:=by
 have h1:=wn_len128 ha
 have h2:=wn_len128 hb
 unfold expo
 split<;>omega
theorem itoa4_all:(List.range 1400).all (fun n=>let l:=itoa (n:Int);l.all dg&&(!l.isEmpty&&decide (l.length≤4)))=true:=by kernel_rfl
theorem itoa4 {n:Nat} (h:n<1400):(∀ b∈itoa (n:Int),dg b=true)∧1≤(itoa (n:Int)).length∧(itoa (n:Int)).length≤4:=by
 have:=List.all_eq_true.1 itoa4_all n (List.mem_range.2 h)
 simp only[Bool.and_eq_true]at this
 obtain ⟨h1,h2,h3⟩:=this
 refine ⟨fun b hb=>List.all_eq_true.1 h1 b hb,?_,of_decide_eq_true h3⟩
 cases hl:itoa (n:Int) with
 | nil=>rw[hl]at h2;simp at h2
 | cons x l=>simp
theorem expS_len {e:Int} (h1: -1301≤e) (h2:e≤1301):(expS e).length≤7:=by
 unfold expS
 have:=(itoa4 (n:=e.natAbs) (by omega)).2.2
 rw[List.length_append,List.length_append]
 have a1:(if e<0 then [101,45] else [101,43]:List UInt8).length=2:=by split<;>rfl
 have a2:(if e.natAbs<10 then [48] else []:List UInt8).length≤1:=by split<;>simp
 omega
theorem itoa_any {x:Int} (h0:0≤x) (h1:x≤1400) (n:Nat):strconv_Itoa n x=some (strOf (itoa (x.natAbs:Int))):=by
 unfold strconv_Itoa
 rw[if_pos ⟨by omega,by omega⟩,show ((x.natAbs:Nat):Int)=x by omega]
theorem scientific_tot {a b:List Int} (ha:OkL a) (hb:OkL b) (hb0:b≠[]) {pl:Nat} (hp:pl≤500):
 Tot (fun fuel=>fmtspec_scientific fuel a b (pl:Int)) (fun r=>r=strOf (sciS (val a) (val b) pl)∧(mant (val a) (val b) pl).2.length≤20001∧ -1301≤(mant (val a) (val b) pl).1∧(mant (val a) (val b) pl).1≤1301):=by
 have h1:=wn_len128 ha
 have h2:=wn_len128 hb
 obtain ⟨x1,x2⟩:=expo_bound ha hb
 unfold fmtspec_scientific
 rw[iw (x:=(pl:Int)+1) (n:=pl+1) (by omega) (by omega)]
 refine Tot.bindq (RI.Tot.all (repeat_some 48 (n:=pl+1) (by omega))) fun z hz=>?_
 subst hz
 refine Tot.bindq (P:=fun j=>j=((mant (val a) (val b) pl).1,strOf (mant (val a) (val b) pl).2)∧1≤(mant (val a) (val b) pl).2.length∧(mant (val a) (val b) pl).2.length≤20001∧ -1301≤(mant (val a) (val b) pl).1∧(mant (val a) (val b) pl).1≤1301) ?_ fun j ⟨hj,m1,m2,m3,m4⟩=>?_
 ·refine Tot.ite (fun h=>?_) (fun h=>?_)
  ·have h:a≠[]:=fun e=>by subst e;simp at h
   have hv:=RI.val_pos ha.1 ha.2.1 h
   have hv0:¬ val a=0:=by omega
   refine Tot.bindq (decimals_tot ha) fun r hr=>?_
   subst hr
   refine Tot.bindq (decimals_tot hb) fun r hr=>?_
   subst hr
   simp only[size_str]
   rw[i64_small (x:=((wn 10 (val a)).length:Int)-((wn 10 (val b)).length:Int)) (by omega) (by omega)]
   refine Tot.some_bind ?_
   have la:a.length≤200:=Nat.le_trans ha.2.2 (by decide)
   have lb:b.length≤200:=Nat.le_trans hb.2.2 (by decide)
   refine Tot.bindq (less_tot (okN_of ha) (okN_of hb) la lb (by omega) (by omega)) fun r hr=>?_
   subst hr
   refine Tot.bindq (P:=(· =expo (val a) (val b))) ?_ fun j hj=>?_
   ·unfold expo
    refine Tot.ite (fun h=>Tot.ret ?_) (fun h=>Tot.ret ?_)
    ·rw[if_pos (of_decide_eq_true h),i64_small (by omega) (by omega)]
    ·rw[if_neg (of_decide_eq_false h)]
   ·subst hj
    rw[i64_small (x:=(pl:Int)-expo (val a) (val b)) (by omega) (by omega)]
    refine Tot.bindq (scaled_tot (okN_of ha) (okN_of hb) la lb (n:=(pl:Int)-expo (val a) (val b)) (by omega) (by omega)) fun s ⟨s1,s2,s3,s4,s5,s6⟩=>?_
    have hs2:s.2≠[]:=fun e=>by
     have hbv:=RI.val_pos hb.1 hb.2.1 hb0
     rw[e]at s4
     have:0<scB (val b) ((pl:Int)-expo (val a) (val b)):=by
      unfold scB
      split
      ·exact hbv
      ·exact Int.mul_pos hbv (ten_pow_pos _)
     rw[← s4]at this
     simp[val]at this
    refine Tot.bindq (nearest_tot s1 s2 hs2 (by omega) (by omega)) fun q ⟨q1,q2,q3⟩=>?_
    refine Tot.bindq (long_tot q1) fun d hd=>?_
    have hl:=wn_len q1 (B:=10) (.inr (.inr (.inl rfl)))
    rw[q2,s3,s4]at hd hl
    subst hd
    unfold mant
    rw[if_neg hv0]
    simp only[size_str]
    generalize wn 10 (nea (scA (val a) ((pl:Int)-expo (val a) (val b))) (scB (val b) ((pl:Int)-expo (val a) (val b))))=D at hl ⊢
    refine Tot.ite (fun h=>?_) (fun h=>Tot.ret ?_)
    ·have h:pl+1<D.length:=by have:(D.length:Int)>((pl+1:Nat):Int):=of_decide_eq_true h;omega
     rw[if_pos h]
     refine Tot.bind0 (ssub_str (l:=D) (i:=0) (by omega) (by omega)) (Tot.ret ?_)
     rw[List.drop_zero,i64_small (x:=expo (val a) (val b)+1) (by omega) (by omega)]
     exact ⟨rfl,by simp;omega,by simp;omega,by simp only;omega,by simp only;omega⟩
    ·have h:¬ pl+1<D.length:=by have:¬ (D.length:Int)>((pl+1:Nat):Int):=of_decide_eq_false h;omega
     rw[if_neg h]
     exact ⟨rfl,hl.1,by simp only;omega,by simp only;omega,by simp only;omega⟩
  ·have h:a=[]:=by
    have:¬ ((a.length:Nat):Int)>0:=of_decide_eq_false h
    exact List.eq_nil_of_length_eq_zero (by omega)
   subst h
   have hv0:val []=0:=rfl
   unfold mant
   rw[if_pos hv0]
   exact Tot.ret ⟨rfl,by simp,by simp;omega,by show (-1301:Int)≤0;decide,by show (0:Int)≤1301;decide⟩
 ·subst hj
  unfold sciS
  generalize (mant (val a) (val b) pl).2=M at m1 m2 ⊢
  generalize (mant (val a) (val b) pl).1=e at m3 m4 ⊢
  simp only[size_str]
  refine Tot.bind0 (ssub_str (l:=M) (i:=0) (j:=1) (by omega) m1) ?_
  rw[List.drop_zero]
  refine Tot.bindq (P:=(· =strOf (M.take 1++(if 0<pl then 46::M.drop 1 else [])))) ?_ fun j hj=>?_
  ·refine Tot.ite (fun h=>?_) (fun h=>Tot.ret ?_)
   ·have h:0<pl:=by have:(pl:Int)>0:=of_decide_eq_true h;omega
    rw[if_pos h]
    refine Tot.bind0 (ssub_str (l:=M) (i:=1) m1 (Nat.le_refl _)) ?_
    rw[List.take_length]
    exact Tot.bind0 (cat_str (l:=[46]) (by simp;omega)) (Tot.bind0 (cat_str (by simp;omega)) (Tot.ret rfl))
   ·have h:¬ 0<pl:=by have:¬ (pl:Int)>0:=of_decide_eq_false h;omega
    rw[if_neg h,List.append_nil]
  ·subst hj
   have hM:(M.take 1++(if 0<pl then 46::M.drop 1 else [])).length≤20003:=by
    rw[List.length_append,List.length_take]
    split<;>simp<;>omega
   generalize M.take 1++(if 0<pl then 46::M.drop 1 else [])=H at hM ⊢
   refine Tot.bindq (P:=(· =((e.natAbs:Int),strOf (if e<0 then [101,45] else [101,43])))) ?_ fun j hj=>?_
   ·refine Tot.ite (fun h=>Tot.ret ?_) (fun h=>Tot.ret ?_)
    ·have h:e<0:=of_decide_eq_true h
     rw[if_pos h,i64_small (x:=0-e) (by omega) (by omega),show 0-e=(e.natAbs:Int) by omega]
    ·have h:¬ e<0:=of_decide_eq_false h
     rw[if_neg h,show e=(e.natAbs:Int) by omega];simp
   ·subst hj
    have hE:(if e<0 then [101,45] else [101,43]:List UInt8).length=2:=by split<;>rfl
    have hI:=(itoa4 (n:=e.natAbs) (by omega)).2.2
    refine Tot.bindq (P:=(· =strOf ((if e<0 then [101,45] else [101,43])++(if e.natAbs<10 then [48] else [])))) ?_ fun j hj=>?_
    ·refine Tot.ite (fun h=>?_) (fun h=>Tot.ret ?_)
     ·have h:e.natAbs<10:=by have:(e.natAbs:Int)<10:=of_decide_eq_true h;omega
      rw[if_pos h]
      exact Tot.bind0 (cat_str (m:=[48]) (by rw[hE];simp)) (Tot.ret rfl)
     ·have h:¬ e.natAbs<10:=by have:¬ (e.natAbs:Int)<10:=of_decide_eq_false h;omega
      rw[if_neg h,List.append_nil]
    ·subst hj
     have hZ:(if e.natAbs<10 then [48] else []:List UInt8).length≤1:=by split<;>simp
     refine Tot.bind0 (cat_str (by rw[List.length_append,hE];omega)) ?_
     refine Tot.bindq (RI.Tot.all (itoa_any (x:=(e.natAbs:Int)) (by omega) (by omega))) fun r hr=>?_
     subst hr
     refine Tot.bind0 (cat_str (by rw[List.length_append,List.length_append,hE];simp only[Int.natAbs_natCast];omega)) (Tot.ret ⟨?_,m2,m3,m4⟩)
     simp only[Int.natAbs_natCast,expS,List.append_assoc]
end Go.Gv.P
