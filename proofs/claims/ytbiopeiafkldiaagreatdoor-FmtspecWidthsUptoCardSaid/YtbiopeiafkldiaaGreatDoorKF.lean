import Derived.Test.YtbiopeiafkldiaaGreatDoorKD
import Derived.Test.YtbiopeiafkldiaaGreatDoorX1
set_option linter.all false
namespace Go.Gv.P
open Go Go.Gv Go.Gv.D Go.Gv.R Go.Lib
open Go.Gv.RI (val Dg Nz OkL OkI OkN vb Db IsB noz NDigits_tot DivMod_tot NMul_tot NAdd_tot NCmp_tot val_big val_bound pow_mono pow_le_left)
set_option maxRecDepth 100000
/-! Own work: how values are formatted, ahead of the filling. -/
abbrev Fd:=(List UInt8 × List UInt8 × Bool) × (Int × Int)
def fo (r:Fd):(ByteArray × ByteArray × Bool) × (Int × Int):=((strOf r.1.1,strOf r.1.2.1,r.1.2.2),r.2)
def noF (c:Int):Fd:=(([],[],false),(c, -2))
def FE:List UInt8:=[102,101,37]
theorem FE_in {x:Int} (h:0≤x∧x<256):Tot (fun n=>fmtspec_in n x (strOf [102,101,37])) (· =inB FE x):=
 Tot.of_all 40 (fun k=>by
  have h1:(List.range 256).all (fun n=>fmtspec_in (k+40) (n:Int) (strOf [102,101,37])==some (inB FE (n:Int)))=true:=by kernel_rfl
  have:=List.all_eq_true.1 h1 x.toNat (List.mem_range.2 (by omega))
  rw[show ((x.toNat:Nat):Int)=x by omega]at this
  exact eq_of_beq this) rfl
def sgnS (neg:Bool) (sg:Int):List UInt8:=if neg=true then [45] else if sg=43∨sg=32 then [UInt8.ofNat sg.toNat] else []
theorem sgnS_len (neg:Bool) (sg:Int):(sgnS neg sg).length≤1:=by unfold sgnS;split<;>(try split)<;>simp
theorem sign_tot (neg:Bool) (s:Sp):Tot (fun n=>fmtspec_sign n neg s) (· =strOf (sgnS neg s.2.2.1)):=by
 unfold fmtspec_sign sgnS
 cases neg with
 | true=>exact Tot.it rfl (Tot.ret rfl)
 | false=>
   refine Tot.if_ rfl ?_
   rw[if_neg (show ¬ (false=true) by decide)]
   refine Tot.bindq (P:=(· =decide (s.2.2.1=43∨s.2.2.1=32))) ?_ fun j hj=>?_
   ·refine Tot.ite (fun h=>Tot.ret ?_) (fun h=>Tot.ret ?_)
    ·have h:s.2.2.1=43:=by simpa using h
     exact (decide_eq_true (.inl h)).symm
    ·have h:s.2.2.1≠43:=by simpa using h
     by_cases h2:s.2.2.1=32<;>simp[h,h2]
   ·subst hj
    refine Tot.ite (fun h=>?_) (fun h=>Tot.ret ?_)
    ·have h:=of_decide_eq_true h
     rw[if_pos h]
     refine Tot.some_bind (Tot.ret ?_)
     rcases h with h | h
     ·rw[h];exact (by kernel_rfl:Utf8.encode (IntKind.i32.wrap 43)=strOf [43])
     ·rw[h];exact (by kernel_rfl:Utf8.encode (IntKind.i32.wrap 32)=strOf [32])
    ·rw[if_neg (of_decide_eq_false h)]
def plc (s:Sp):Nat:=if s.2.2.2.2.2.2.2.1=true then s.2.2.2.2.2.2.2.2.1.toNat else 6
def frcB (a b:Int) (s:Sp):List UInt8:=
 if s.2.2.2.2.2.2.2.2.2=101 then sciS a b (plc s) else if s.2.2.2.2.2.2.2.2.2=37 then fixS (a*100) b (plc s) s.2.2.2.2.2.2.1++[37] else fixS a b (plc s) s.2.2.2.2.2.2.1
def frcF (neg:Bool) (a b:Int) (s:Sp):Fd:=
 if s.2.2.2.1=true∨(s.2.2.2.2.2.2.2.2.2=101∧s.2.2.2.2.2.2.1≠0) then noF 6 else ((sgnS neg s.2.2.1,frcB a b s,false),(0,0))
theorem gr_of {s:Sp} (g:Good s):s.2.2.2.2.2.2.1=0∨s.2.2.2.2.2.2.1=44∨s.2.2.2.2.2.2.1=95:=by
 rcases g.gr with h | h
 ·exact .inl h
 ·have h1:=g.ok.gr
  have h2:(List.range 256).all (fun n=> !(inB GR (n:Int))||(n==44||n==95))=true:=by kernel_rfl
  have:=List.all_eq_true.1 h2 s.2.2.2.2.2.2.1.toNat (List.mem_range.2 (by omega))
  rw[show ((s.2.2.2.2.2.2.1.toNat:Nat):Int)=s.2.2.2.2.2.2.1 by omega,h]at this
  simp at this
  omega
theorem plc_le {s:Sp} (g:Good s):plc s≤400:=by
 unfold plc
 have:=g.p
 split<;>omega
theorem fixS_len' (a b:Int) (pl:Nat) (g:Int) (hp:pl≤500) (h:(wn 10 (nea (a*10^pl) b)).length≤20000):(fixS a b pl g).length≤62000:=by
 unfold fixS
 generalize wn 10 (nea (a*10^pl) b)=D at h ⊢
 have hZ:(padZ pl D).length≤20501:=by unfold padZ;simp;omega
 generalize padZ pl D=Z at hZ ⊢
 have hg:=grp_len (g:=g) (z:=3) (by omega) (Z.take (Z.length-pl))
 simp only[List.length_take]at hg
 unfold point
 split
 ·simp;omega
 ·omega
theorem fixed2_tot {a b:List Int} (ha:OkN a) (hb:OkN b) (hb0:b≠[]) {pl:Nat} (hp:pl≤500) {g:Int} (hg:g=0∨g=44∨g=95) (la:a.length≤300) (lb:b.length≤200):
 Tot (fun fuel=>fmtspec_fixed fuel a b (pl:Int) g) (fun r=>r=strOf (fixS (val a) (val b) pl g)∧(fixS (val a) (val b) pl g).length≤62000):=by
 have h1:=fixed_tot ha hb hb0 hp hg la lb
 refine h1.mono fun r hr=>⟨hr,fixS_len' _ _ _ _ hp ?_⟩
 have h2:=Tot.bindq (f:=fun fuel=>fmtspec_power fuel (pl:Int)) (g:=fun fuel p=>(natural_Mul fuel a p).bind fun m=>fmtspec_nearest fuel m.1 b) (Q:=fun q=>OkN q∧val q=nea (val a*10^pl) (val b)) (power_tot (n:=pl) (by omega)) fun p ⟨p1,p2,p3⟩=>Tot.bindq (NMul_tot ha p1 (by omega)) fun m ⟨m1,m2,m3,m4⟩=>(nearest_tot m2 hb hb0 (by omega) (by omega)).mono fun q ⟨q1,q2,q3⟩=>⟨q1,by rw[q2,m3,p2]⟩
 obtain ⟨q,⟨q1,q2⟩,_⟩:=h2
 have:=(wn_len q1 (B:=10) (.inr (.inr (.inl rfl)))).2
 rwa [q2]at this
theorem fraction_tot {neg:Bool} {a b:List Int} {nb:Bool} (ha:OkL a) (hb:OkL b) (hb0:b≠[]) {s:Sp} (g:Good s):
 Tot (fun n=>fmtspec_fraction n ((neg,a),(nb,b)) s) (fun r=>r=fo (frcF neg (val a) (val b) s)):=by
 unfold fmtspec_fraction frcF
 refine Tot.bindq (P:=(· =decide (s.2.2.2.1=true∨(s.2.2.2.2.2.2.2.2.2=101∧s.2.2.2.2.2.2.1≠0)))) ?_ fun j hj=>?_
 ·refine Tot.ite (fun h=>Tot.ret ?_) (fun h=>?_)
  ·simp[h]
  ·refine Tot.ite (fun h2=>Tot.ret ?_) (fun h2=>Tot.ret ?_)
   ·have h2:s.2.2.2.2.2.2.2.2.2=101:=by simpa using h2
    by_cases h3:s.2.2.2.2.2.2.1=0<;>simp[h,h2,h3]
   ·have h2:s.2.2.2.2.2.2.2.2.2≠101:=by simpa using h2
    simp[h,h2]
 ·subst hj
  refine Tot.ite (fun h=>?_) (fun h=>?_)
  ·rw[if_pos (of_decide_eq_true h)]
   exact Tot.bind0 (at_eq 0 6 (-2)) (Tot.ret rfl)
  ·rw[if_neg (of_decide_eq_false h)]
   have hpl:=plc_le g
   refine Tot.bindq (P:=(· =(plc s:Int))) ?_ fun j hj=>?_
   ·unfold plc
    have:=g.p
    refine Tot.ite (fun h=>Tot.ret ?_) (fun h=>Tot.ret ?_)
    ·rw[if_pos h];omega
    ·rw[if_neg (by rw[h];decide)];rfl
   ·subst hj
    refine Tot.bindq (sign_tot neg s) fun sg hsg=>?_
    subst hsg
    have la:a.length≤200:=Nat.le_trans ha.2.2 (by decide)
    have lb:b.length≤200:=Nat.le_trans hb.2.2 (by decide)
    refine Tot.bindq (P:=(· =(strOf (sgnS neg s.2.2.1),strOf (frcB (val a) (val b) s),false))) ?_ fun j hj=>by subst hj;exact Tot.ret rfl
    unfold frcB
    refine Tot.ite (fun h=>?_) (fun h=>?_)
    ·have h:s.2.2.2.2.2.2.2.2.2=101:=by simpa using h
     rw[if_pos h]
     exact Tot.bindq (scientific_tot ha hb hb0 (by omega)) fun r ⟨hr,_⟩=>by subst hr;exact Tot.ret rfl
    ·have h:s.2.2.2.2.2.2.2.2.2≠101:=by simpa using h
     rw[if_neg h]
     refine Tot.ite (fun h=>?_) (fun h=>?_)
     ·have h:s.2.2.2.2.2.2.2.2.2=37:=by simpa using h
      rw[if_pos h]
      refine Tot.bindq (NMul_tot (okN_of ha) (okN_one (x:=100) (by decide)) (by simp;omega)) fun m ⟨m1,m2,m3,m4⟩=>?_
      refine Tot.bindq (fixed2_tot m2 (okN_of hb) hb0 (by omega) (gr_of g) (by simp at m4;omega) lb) fun r ⟨hr,hl⟩=>?_
      rw[m3,show val [100]=100 by simp[val]]at hr hl
      have hl:(fixS (val a*100) (val b) (plc s) s.2.2.2.2.2.2.1).length≤62000:=hl
      subst hr
      exact Tot.bind0 (cat_str (m:=[37]) (by simp;omega)) (Tot.ret rfl)
     ·have h:s.2.2.2.2.2.2.2.2.2≠37:=by simpa using h
      rw[if_neg h]
      exact Tot.bindq (fixed2_tot (okN_of ha) (okN_of hb) hb0 (by omega) (gr_of g) (by omega) lb) fun r ⟨hr,hl⟩=>by subst hr;exact Tot.ret rfl
end Go.Gv.P
namespace Go.Gv.P
open Go Go.Gv Go.Gv.D Go.Gv.R Go.Lib
open Go.Gv.RI (val Dg Nz OkL OkI OkN vb Db IsB noz NDigits_tot DivMod_tot NMul_tot NAdd_tot NCmp_tot val_big val_bound pow_mono pow_le_left)
set_option maxRecDepth 100000
theorem wn_low {B V:Int} (hB:IsB B) (hV:0≤V):∀ b∈wn B V,b.toNat<128:=fun b hb=>by
 unfold wn at hb
 split at hb
 ·simp at hb;subst hb;decide
 ·obtain ⟨d,hd,rfl⟩:=List.mem_map.1 hb
  have hd':=(dl_ok hB.one hV).1 d (List.mem_reverse.1 hd)
  exact of_decide_eq_true (dig16 (p:=fun d=>decide ((dch d).toNat<128)) (by kernel_rfl) hB hd')
def bsOf (ty:Int):Int:=if ty=98 then 2 else if ty=111 then 8 else if ty=120∨ty=88 then 16 else 10
def pfx (ty:Int):List UInt8:=if ty=98 then [48,98] else if ty=111 then [48,111] else if ty=120 then [48,120] else if ty=88 then [48,88] else []
theorem bsOf_ok (ty:Int):IsB (bsOf ty):=by
 unfold bsOf
 split
 ·exact .inl rfl
 ·split
  ·exact .inr (.inl rfl)
  ·split
   ·exact .inr (.inr (.inr rfl))
   ·exact .inr (.inr (.inl rfl))
theorem base_tot (ty:Int):Tot (fun n=>fmtspec_base n ty) (· =(bsOf ty,strOf (pfx ty))):=by
 unfold fmtspec_base bsOf pfx
 refine Tot.ite (fun h=>Tot.ret ?_) (fun h=>Tot.ite (fun h2=>Tot.ret ?_) (fun h2=>Tot.ite (fun h3=>Tot.ret ?_) (fun h3=>Tot.ite (fun h4=>Tot.ret ?_) (fun h4=>Tot.ret ?_))))
 ·have h:ty=98:=by simpa using h
  simp[h]
 ·have h:ty≠98:=by simpa using h
  have h2:ty=111:=by simpa using h2
  simp[h2]
 ·have h3:ty=120:=by simpa using h3
  simp[h3]
 ·have h4:ty=88:=by simpa using h4
  simp[h4]
 ·have h:ty≠98:=by simpa using h
  have h2:ty≠111:=by simpa using h2
  have h3:ty≠120:=by simpa using h3
  have h4:ty≠88:=by simpa using h4
  simp[h,h2,h3,h4]
def badW (s:Sp):Prop:=s.2.2.2.2.2.2.2.1=true∨(bsOf s.2.2.2.2.2.2.2.2.2=10∧s.2.2.2.1=true)∨(bsOf s.2.2.2.2.2.2.2.2.2≠10∧s.2.2.2.2.2.2.1=44)
instance (s:Sp):Decidable (badW s):=by unfold badW;infer_instance
def digW (v:Int) (ty:Int):List UInt8:=if ty=88 then toUpperA (wn (bsOf ty) v) else wn (bsOf ty) v
def whoF (neg:Bool) (v:Int) (s:Sp):Fd:=
 if badW s then noF 6 else
 ((sgnS neg s.2.2.1++(if s.2.2.2.1=true then pfx s.2.2.2.2.2.2.2.2.2 else []),grp s.2.2.2.2.2.2.1 (if bsOf s.2.2.2.2.2.2.2.2.2≠10 then 4 else 3) (digW v s.2.2.2.2.2.2.2.2.2),false),(0,0))
theorem digW_len {a:List Int} (ha:OkL a) (ty:Int):1≤(digW (val a) ty).length∧(digW (val a) ty).length≤20000:=by
 have:=wn_len (okN_of ha) (bsOf_ok ty)
 unfold digW
 split
 ·unfold toUpperA;rw[List.length_map];exact this
 ·exact this
theorem whole_tot {neg:Bool} {a:List Int} (ha:OkL a) {s:Sp} (g:Good s):Tot (fun n=>fmtspec_whole n (neg,a) s) (· =fo (whoF neg (val a) s)):=by
 unfold fmtspec_whole whoF
 refine Tot.bindq (base_tot _) fun r hr=>?_
 subst hr
 refine Tot.bindq (P:=(· =decide (badW s))) ?_ fun j hj=>?_
 ·unfold badW
  refine Tot.ite (fun h=>Tot.ret (by simp[h])) (fun h=>?_)
  by_cases hB:bsOf s.2.2.2.2.2.2.2.2.2=10
  ·refine Tot.it (by simpa using hB) ?_
   refine Tot.ite (fun h2=>Tot.ret (by simp[h2,hB])) (fun h2=>?_)
   refine Tot.if_ (by simpa using hB) (Tot.ret ?_)
   simp[h,h2,hB]
  ·refine Tot.if_ (by simpa using hB) ?_
   refine Tot.it (by simpa using hB) (Tot.ret ?_)
   by_cases h3:s.2.2.2.2.2.2.1=44<;>simp[h,hB,h3]
 ·subst hj
  refine Tot.ite (fun h=>?_) (fun h=>?_)
  ·rw[if_pos (of_decide_eq_true h)]
   exact Tot.bind0 (at_eq 0 6 (-2)) (Tot.ret rfl)
  ·rw[if_neg (of_decide_eq_false h)]
   have hB:=bsOf_ok s.2.2.2.2.2.2.2.2.2
   refine Tot.bindq (Text_tot ha hB) fun r hr=>?_
   subst hr
   refine Tot.bindq (P:=(· =strOf (digW (val a) s.2.2.2.2.2.2.2.2.2))) ?_ fun j hj=>?_
   ·unfold digW
    refine Tot.ite (fun h=>?_) (fun h=>Tot.ret ?_)
    ·have h:s.2.2.2.2.2.2.2.2.2=88:=by simpa using h
     rw[if_pos h]
     refine Tot.bindq (RI.Tot.all (a:=strOf (toUpperA (wn (bsOf s.2.2.2.2.2.2.2.2.2) (val a)))) fun n=>?_) fun r hr=>by subst hr;exact Tot.ret rfl
     have hl:=wn_len (okN_of ha) hB
     show strings_ToUpper n (strOf (wn (bsOf s.2.2.2.2.2.2.2.2.2) (val a)))=_
     unfold strings_ToUpper asciiB
     rw[size_str,bytes_str,if_pos ⟨by omega,List.all_eq_true.2 fun b hb=>decide_eq_true (wn_low hB (val_bound ha.1).1 b hb)⟩]
    ·have h:s.2.2.2.2.2.2.2.2.2≠88:=by simpa using h
     rw[if_neg h]
   ·subst hj
    refine Tot.bindq (P:=(· =(((if bsOf s.2.2.2.2.2.2.2.2.2≠10 then 4 else 3:Nat)):Int))) ?_ fun j hj=>?_
    ·refine Tot.ite (fun h=>Tot.ret ?_) (fun h=>Tot.ret ?_)
     ·rw[if_pos (by simpa using h)];rfl
     ·rw[if_neg (by simpa using h)];rfl
    ·subst hj
     refine Tot.bindq (P:=(· =strOf (if s.2.2.2.1=true then pfx s.2.2.2.2.2.2.2.2.2 else []))) ?_ fun j hj=>?_
     ·refine Tot.ite (fun h=>Tot.ret ?_) (fun h=>Tot.ret ?_)
      ·rw[if_neg (by simpa using h)]
      ·rw[if_pos (by simpa using h)]
     ·subst hj
      refine Tot.bindq (sign_tot neg s) fun sg hsg=>?_
      subst hsg
      have hs:=sgnS_len neg s.2.2.1
      have hpf:(if s.2.2.2.1=true then pfx s.2.2.2.2.2.2.2.2.2 else []).length≤2:=by
       split
       ·unfold pfx;split<;>(try split)<;>(try split)<;>(try split)<;>simp
       ·simp
      refine Tot.bind0 (cat_str (by omega)) ?_
      have hd:=digW_len ha s.2.2.2.2.2.2.2.2.2
      refine Tot.bindq (grouped_tot (gr_of g) (z:=if bsOf s.2.2.2.2.2.2.2.2.2≠10 then 4 else 3) (by split<;>omega) (by split<;>omega) (by omega)) fun r hr=>?_
      subst hr
      exact Tot.ret rfl
theorem Of1_tot:Tot (fun n=>integer_Of n 1) (· =(false,[1])):=Tot.of_all 100 (fun k=>by kernel_rfl) rfl
theorem ty_of {s:Sp} (g:Good s):0≤s.2.2.2.2.2.2.2.2.2∧s.2.2.2.2.2.2.2.2.2<256:=g.ok.ty
def isFE (s:Sp):Prop:=s.2.2.2.2.2.2.2.2.2≠0∧inB FE s.2.2.2.2.2.2.2.2.2=true
instance (s:Sp):Decidable (isFE s):=by unfold isFE;infer_instance
theorem isFE_tot {s:Sp} (g:Good s):Tot (fun fuel=>if (s.2.2.2.2.2.2.2.2.2 !=0)=true then (Option.bind (fmtspec_in fuel s.2.2.2.2.2.2.2.2.2 (strOf [102,101,37])) fun r58=>(some (r58))) else (some (false))) (· =decide (isFE s)):=by
 unfold isFE
 refine Tot.ite (fun h=>?_) (fun h=>Tot.ret ?_)
 ·have h:s.2.2.2.2.2.2.2.2.2≠0:=by simpa using h
  refine Tot.bindq (FE_in (ty_of g)) fun r hr=>Tot.ret ?_
  subst hr
  by_cases h2:inB FE s.2.2.2.2.2.2.2.2.2=true<;>simp[h,h2]
 ·have h:s.2.2.2.2.2.2.2.2.2=0:=by simpa using h
  simp[h]
def numF (neg:Bool) (v:Int) (s:Sp):Fd:=if s.2.2.2.2.2.2.2.2.2=115 then noF 13 else if isFE s then frcF neg v 1 s else whoF neg v s
theorem numb_tot {neg:Bool} {a:List Int} (ha:OkL a) {s:Sp} (g:Good s):Tot (fun n=>fmtspec_number n (neg,a) s) (· =fo (numF neg (val a) s)):=by
 unfold fmtspec_number numF
 refine Tot.ite (fun h=>?_) (fun h=>?_)
 ·rw[if_pos (by simpa using h)]
  exact Tot.bind0 (at_eq 0 13 (-2)) (Tot.ret rfl)
 ·rw[if_neg (by simpa using h)]
  refine Tot.bindq (isFE_tot g) fun j hj=>?_
  subst hj
  refine Tot.ite (fun h=>?_) (fun h=>?_)
  ·rw[if_pos (of_decide_eq_true h)]
   refine Tot.bindq Of1_tot fun r hr=>?_
   subst hr
   refine Tot.bindq (fraction_tot (neg:=neg) (nb:=false) ha (b:=[1]) ⟨(okN_one (x:=1) (by decide)).1,(okN_one (x:=1) (by decide)).2.1,by simp⟩ (by simp) g) fun r hr=>?_
   subst hr
   rw[show val [1]=1 by simp[val]]
   exact Tot.ret rfl
  ·rw[if_neg (of_decide_eq_false h)]
   exact Tot.bindq (whole_tot ha g) fun r hr=>by subst hr;exact Tot.ret rfl
def ratF (neg:Bool) (a b:Int) (s:Sp):Fd:=
 if isFE s then frcF neg a b s else if s.2.2.2.2.2.2.2.2.2≠0 then noF 13 else
 if s.2.2.2.2.2.2.2.1=true∨s.2.2.2.1=true∨s.2.2.2.2.2.2.1≠0 then noF 6 else ((sgnS neg s.2.2.1,wn 10 a++(47::wn 10 b),false),(0,0))
theorem ratio_tot {neg nb:Bool} {a b:List Int} (ha:OkL a) (hb:OkL b) (hb0:b≠[]) {s:Sp} (g:Good s):Tot (fun n=>fmtspec_ratio n ((neg,a),(nb,b)) s) (· =fo (ratF neg (val a) (val b) s)):=by
 unfold fmtspec_ratio ratF
 refine Tot.bindq (isFE_tot g) fun j hj=>?_
 subst hj
 refine Tot.ite (fun h=>?_) (fun h=>?_)
 ·rw[if_pos (of_decide_eq_true h)]
  exact Tot.bindq (fraction_tot ha hb hb0 g) fun r hr=>by subst hr;exact Tot.ret rfl
 ·rw[if_neg (of_decide_eq_false h)]
  refine Tot.ite (fun h=>?_) (fun h=>?_)
  ·rw[if_pos (show s.2.2.2.2.2.2.2.2.2≠0 by simpa using h)]
   exact Tot.bind0 (at_eq 0 13 (-2)) (Tot.ret rfl)
  ·rw[if_neg (show ¬ s.2.2.2.2.2.2.2.2.2≠0 by simpa using h)]
   refine Tot.bindq (P:=(· =decide (s.2.2.2.2.2.2.2.1=true∨s.2.2.2.1=true∨s.2.2.2.2.2.2.1≠0))) ?_ fun j hj=>?_
   ·refine Tot.ite (fun h=>Tot.ret (by simp[h])) (fun h=>Tot.ite (fun h2=>Tot.ret (by simp[h2])) (fun h2=>Tot.ret ?_))
    by_cases h3:s.2.2.2.2.2.2.1=0<;>simp[h,h2,h3]
   ·subst hj
    refine Tot.ite (fun h=>?_) (fun h=>?_)
    ·rw[if_pos (of_decide_eq_true h)]
     exact Tot.bind0 (at_eq 0 6 (-2)) (Tot.ret rfl)
    ·rw[if_neg (of_decide_eq_false h)]
     refine Tot.bindq (decimals_tot ha) fun r hr=>?_
     subst hr
     have h1:=wn_len128 ha
     have h2:=wn_len128 hb
     refine Tot.bind0 (cat_str (m:=[47]) (by simp;omega)) (Tot.bindq (decimals_tot hb) fun r hr=>?_)
     subst hr
     refine Tot.bind0 (cat_str (by simp;omega)) (Tot.bindq (sign_tot neg s) fun r hr=>?_)
     subst hr
     refine Tot.ret ?_
     simp[fo]
def badT (s:Sp):Prop:=s.2.2.1≠0∨s.2.2.2.1=true∨s.2.2.2.2.1=true∨s.2.2.2.2.2.2.1≠0∨s.2.1=61
instance (s:Sp):Decidable (badT s):=by unfold badT;infer_instance
def cutT (p:List Nat) (s:Sp):List Nat:=if s.2.2.2.2.2.2.2.1=true then p.take s.2.2.2.2.2.2.2.2.1.toNat else p
def txtF (p:List Nat) (s:Sp):Fd:=
 if s.2.2.2.2.2.2.2.2.2≠0∧s.2.2.2.2.2.2.2.2.2≠115 then noF 13 else if badT s then noF 6 else (([],enc (cutT p s),true),(0,0))
theorem text_tot {p:List Nat} (hp:∀ r∈p,Scal r) (hl:(enc p).length≤1048576) {s:Sp} (g:Good s):Tot (fun n=>fmtspec_text n (strOf (enc p)) s) (· =fo (txtF p s)):=by
 unfold fmtspec_text txtF
 refine Tot.bindq (P:=(· =decide (s.2.2.2.2.2.2.2.2.2≠0∧s.2.2.2.2.2.2.2.2.2≠115))) ?_ fun j hj=>?_
 ·refine Tot.ite (fun h=>Tot.ret ?_) (fun h=>Tot.ret ?_)
  ·have h:s.2.2.2.2.2.2.2.2.2≠0:=by simpa using h
   by_cases h2:s.2.2.2.2.2.2.2.2.2=115<;>simp[h,h2]
  ·have h:s.2.2.2.2.2.2.2.2.2=0:=by simpa using h
   simp[h]
 ·subst hj
  refine Tot.ite (fun h=>?_) (fun h=>?_)
  ·rw[if_pos (of_decide_eq_true h)]
   exact Tot.bind0 (at_eq 0 13 (-2)) (Tot.ret rfl)
  ·rw[if_neg (of_decide_eq_false h)]
   refine Tot.bindq (P:=(· =decide (badT s))) ?_ fun j hj=>?_
   ·unfold badT
    refine Tot.ite (fun h=>Tot.ret ?_) (fun h=>Tot.ite (fun h2=>Tot.ret (by simp[h2])) (fun h2=>Tot.ite (fun h3=>Tot.ret (by simp[h3])) (fun h3=>Tot.ite (fun h4=>Tot.ret ?_) (fun h4=>Tot.ret ?_))))
    ·have h:s.2.2.1≠0:=by simpa using h
     simp[h]
    ·have h4:s.2.2.2.2.2.2.1≠0:=by simpa using h4
     simp[h4]
    ·have h:s.2.2.1=0:=by simpa using h
     have h4:s.2.2.2.2.2.2.1=0:=by simpa using h4
     by_cases h5:s.2.1=61<;>simp[h,h2,h3,h4,h5]
   ·subst hj
    refine Tot.ite (fun h=>?_) (fun h=>?_)
    ·rw[if_pos (of_decide_eq_true h)]
     exact Tot.bind0 (at_eq 0 6 (-2)) (Tot.ret rfl)
    ·rw[if_neg (of_decide_eq_false h)]
     refine Tot.bind0 (rn_enc hp hl) ?_
     have hpr:=g.p
     have hil:(ints p).length=p.length:=by simp[ints]
     refine Tot.bindq (P:=(· =decide (s.2.2.2.2.2.2.2.1=true∧s.2.2.2.2.2.2.2.2.1.toNat<p.length))) ?_ fun j hj=>?_
     ·refine Tot.ite (fun h=>Tot.ret ?_) (fun h=>Tot.ret (by simp[h]))
      rw[hil]
      refine decide_eq_decide.2 ⟨fun h2=>⟨h,by omega⟩,fun ⟨_,h2⟩=>by omega⟩
     ·subst hj
      refine Tot.bindq (P:=(· =strOf (enc (cutT p s)))) ?_ fun j hj=>by subst hj;exact Tot.ret rfl
      unfold cutT
      refine Tot.ite (fun h=>?_) (fun h=>Tot.ret ?_)
      ·obtain ⟨h1,h2⟩:=of_decide_eq_true h
       rw[if_pos h1]
       refine Tot.bind0 (a:=ints (p.take s.2.2.2.2.2.2.2.2.1.toNat)) (by rw[sub_ok (by omega) (by omega) (by omega)];simp[ints,List.map_take]) (Tot.ret ?_)
       rw[strR_ints fun r hr=>hp r (List.mem_of_mem_take hr)]
      ·have h:=of_decide_eq_false h
       by_cases h1:s.2.2.2.2.2.2.2.1=true
       ·rw[if_pos h1,List.take_of_length_le (by
         rcases Nat.lt_or_ge s.2.2.2.2.2.2.2.2.1.toNat p.length with h2 | h2
         ·exact absurd ⟨h1,h2⟩ h
         ·exact h2)]
       ·rw[if_neg h1]
end Go.Gv.P
