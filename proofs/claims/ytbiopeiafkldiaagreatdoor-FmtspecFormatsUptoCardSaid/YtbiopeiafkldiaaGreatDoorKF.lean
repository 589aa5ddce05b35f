import Derived.Test.YtbiopeiafkldiaaGreatDoorKA
import Derived.Test.YtbiopeiafkldiaaGreatDoorX1
import Derived.Test.YtbiopeiafkldiaaGreatDoorX1
set_option linter.all false
open Go.Gv.Tot renaming ret→aa,bindq→ab,ite→ac,bind0→ad,if_→af,it→aj
open List renaming replicate→ae,length_append→ag,mem_of_mem_take→ai
open Int renaming toNat_natCast→ah
namespace Go.Gv.P
open Go Go.Gv Go.Gv.D Go.Gv.R Go.Lib
open Go.Gv.RI (val Dg Nz OkL OkI OkN vb Db IsB noz NDigits_tot DivMod_tot NMul_tot NAdd_tot NCmp_tot val_big val_bound pow_mono pow_le_left)
set_option maxRecDepth 100000
/-! Own work: how values are formatted, ahead of the filling. -/
abbrev Fd:=(List UInt8 × List UInt8 × Bool) × (Int × Int)
def fo (r:Fd):(ByteArray × ByteArray × Bool) × (Int × Int):=((strOf r.1.1,strOf r.1.2.1,r.1.2.2),r.2)
def noF (c:Int):Fd:=(([],[],false),(c, -2))
def FE:List UInt8:=[102,101,37]
theorem FE_in {x:Int} (h:0≤x∧x<256):Tot (fun n=>fmtspec_in n x (strOf [102,101,37])) (· =inB FE x):=
 Tot.of_all 40 (fun k=>by
  have h1:(List.range 256).all (fun n=>fmtspec_in (k+40) (n:Int) (strOf [102,101,37])==some (inB FE (n:Int)))=true:=by kernel_rfl
  have:=List.all_eq_true.1 h1 x.toNat (List.mem_range.2 om)
  rw[show ((x.toNat:Nat):Int)=x by omega]at this
  exact eq_of_beq this) rfl
def sgnS (neg:Bool) (sg:Int):List UInt8:=if neg=true then [45] else if sg=43∨sg=32 then [UInt8.ofNat sg.toNat] else []
theorem sgnS_len (neg:Bool) (sg:Int):(sgnS neg sg).length≤1:=by unfold sgnS;split<;>(try split)<;>simp
theorem sign_tot (neg:Bool) (s:Sp):Tot (fun n=>fmtspec_sign n neg s) (· =strOf (sgnS neg s.2.2.1)):=by
 unfold fmtspec_sign sgnS
 cases neg with
 | true=>exact aj rfl (aa rfl)
 | false=>
   refine af rfl ?_
   rw[if_neg (show ¬ (false=true) by decide)]
   refine ab (P:=(· =decide (s.2.2.1=43∨s.2.2.1=32))) ?_ fun j hj=>?_
   ·refine ac (fun h=>aa ?_) (fun h=>aa ?_)
    ·have h:s.2.2.1=43:=by simpa using h
     exact (dtt (.inl h)).symm
    ·have h:s.2.2.1≠43:=by simpa using h
     by_cases h2:s.2.2.1=32<;>simp[h,h2]
   ·subst hj
    refine ac (fun h=>?_) (fun h=>aa ?_)
    ·have h:=odt h
     rw[if_pos h]
     refine Tot.some_bind (aa ?_)
     rcases h with h | h
     ·rw[h];exact (by kernel_rfl:Utf8.encode (IntKind.i32.wrap 43)=strOf [43])
     ·rw[h];exact (by kernel_rfl:Utf8.encode (IntKind.i32.wrap 32)=strOf [32])
    ·rw[if_neg (odf h)]
def plc (s:Sp):Nat:=if s.2.2.2.2.2.2.2.1=true then s.2.2.2.2.2.2.2.2.1.toNat else 6
def frcB (a b:Int) (s:Sp):List UInt8:=
 if s.2.2.2.2.2.2.2.2.2=101 then sciS a b (plc s) else if s.2.2.2.2.2.2.2.2.2=37 then fixS (a*100) b (plc s) s.2.2.2.2.2.2.1++[37] else fixS a b (plc s) s.2.2.2.2.2.2.1
def frcF (neg:Bool) (a b:Int) (s:Sp):Fd:=
 if s.2.2.2.1=true∨(s.2.2.2.2.2.2.2.2.2=101∧s.2.2.2.2.2.2.1≠0) then noF 6 else ((sgnS neg s.2.2.1,frcB a b s,false),(0,0))
theorem gr_of {s:Sp} (g:Good s):s.2.2.2.2.2.2.1=0∨s.2.2.2.2.2.2.1=44∨s.2.2.2.2.2.2.1=95:=by
 rcases g.gr with h | h
 ·exact .inl h
 ·have h1:=g.ok.gr
  have h2:(List.range 256).all (fun n=> !(inB GR (n:Int))||(n==44||n==95))=true:=by kernel_rfl
  have:=List.all_eq_true.1 h2 s.2.2.2.2.2.2.1.toNat (List.mem_range.2 om)
  rw[show ((s.2.2.2.2.2.2.1.toNat:Nat):Int)=s.2.2.2.2.2.2.1 by omega,h]at this
  simp at this
  omega
theorem plc_le {s:Sp} (g:Good s):plc s≤400:=by
 unfold plc
 have:=g.p
 split<;>omega
theorem fixS_len' (a b:Int) (pl:Nat) (g:Int) (hp:pl≤500) (h:(wn 10 (nea (a*10^pl) b)).length≤20000):(fixS a b pl g).length≤62000:=by
 unfold fixS
 generalize wn 10 (nea (a*10^pl) b)=D at h ⊢
 have hZ:(padZ pl D).length≤20501:=by unfold padZ;simp;omega
 generalize padZ pl D=Z at hZ ⊢
 have hg:=grp_len (g:=g) (z:=3) om (Z.take (Z.length-pl))
 simp only[List.length_take]at hg
 unfold point
 split
 ·simp;omega
 ·omega
theorem fixed2_tot {a b:List Int} (ha:OkN a) (hb:OkN b) (hb0:b≠[]) {pl:Nat} (hp:pl≤500) {g:Int} (hg:g=0∨g=44∨g=95) (la:a.length≤300) (lb:b.length≤200):
 Tot (fun fuel=>fmtspec_fixed fuel a b (pl:Int) g) (fun r=>r=strOf (fixS (val a) (val b) pl g)∧(fixS (val a) (val b) pl g).length≤62000):=by
 have h1:=fixed_tot ha hb hb0 hp hg la lb
 refine h1.mono fun r hr=>⟨hr,fixS_len' _ _ _ _ hp ?_⟩
 have h2:=ab (f:=fun fuel=>fmtspec_power fuel (pl:Int)) (g:=fun fuel p=>(natural_Mul fuel a p).bind fun m=>fmtspec_nearest fuel m.1 b) (Q:=fun q=>OkN q∧val q=nea (val a*10^pl) (val b)) (power_tot (n:=pl) om) fun p ⟨p1,p2,p3⟩=>ab (NMul_tot ha p1 om) fun m ⟨m1,m2,m3,m4⟩=>(nearest_tot m2 hb hb0 om om).mono fun q ⟨q1,q2,q3⟩=>⟨q1,by rw[q2,m3,p2]⟩
 obtain ⟨q,⟨q1,q2⟩,_⟩:=h2
 have:=(wn_len q1 (B:=10) (.inr (.inr (.inl rfl)))).2
 rwa [q2]at this
theorem fraction_tot {neg:Bool} {a b:List Int} {nb:Bool} (ha:OkL a) (hb:OkL b) (hb0:b≠[]) {s:Sp} (g:Good s):
 Tot (fun n=>fmtspec_fraction n ((neg,a),(nb,b)) s) (fun r=>r=fo (frcF neg (val a) (val b) s)):=by
 unfold fmtspec_fraction frcF
 refine ab (P:=(· =decide (s.2.2.2.1=true∨(s.2.2.2.2.2.2.2.2.2=101∧s.2.2.2.2.2.2.1≠0)))) ?_ fun j hj=>?_
 ·refine ac (fun h=>aa ?_) (fun h=>?_)
  ·simp[h]
  ·refine ac (fun h2=>aa ?_) (fun h2=>aa ?_)
   ·have h2:s.2.2.2.2.2.2.2.2.2=101:=by simpa using h2
    by_cases h3:s.2.2.2.2.2.2.1=0<;>simp[h,h2,h3]
   ·have h2:s.2.2.2.2.2.2.2.2.2≠101:=by simpa using h2
    simp[h,h2]
 ·subst hj
  refine ac (fun h=>?_) (fun h=>?_)
  ·rw[if_pos (odt h)]
   exact ad (at_eq 0 6 (-2)) (aa rfl)
  ·rw[if_neg (odf h)]
   have hpl:=plc_le g
   refine ab (P:=(· =(plc s:Int))) ?_ fun j hj=>?_
   ·unfold plc
    have:=g.p
    refine ac (fun h=>aa ?_) (fun h=>aa ?_)
    ·rw[if_pos h];omega
    ·rw[if_neg (by rw[h];decide)];rfl
   ·subst hj
    refine ab (sign_tot neg s) fun sg hsg=>?_
    subst hsg
    have la:a.length≤200:=Nat.le_trans ha.2.2 ddc
    have lb:b.length≤200:=Nat.le_trans hb.2.2 ddc
    refine ab (P:=(· =(strOf (sgnS neg s.2.2.1),strOf (frcB (val a) (val b) s),false))) ?_ fun j hj=>by subst hj;exact aa rfl
    unfold frcB
    refine ac (fun h=>?_) (fun h=>?_)
    ·have h:s.2.2.2.2.2.2.2.2.2=101:=by simpa using h
     rw[if_pos h]
     exact ab (scientific_tot ha hb hb0 om) fun r ⟨hr,_⟩=>by subst hr;exact aa rfl
    ·have h:s.2.2.2.2.2.2.2.2.2≠101:=by simpa using h
     rw[if_neg h]
     refine ac (fun h=>?_) (fun h=>?_)
     ·have h:s.2.2.2.2.2.2.2.2.2=37:=by simpa using h
      rw[if_pos h]
      refine ab (NMul_tot (okN_of ha) (okN_one (x:=100) ddc) oss) fun m ⟨m1,m2,m3,m4⟩=>?_
      refine ab (fixed2_tot m2 (okN_of hb) hb0 om (gr_of g) (by simp at m4;omega) lb) fun r ⟨hr,hl⟩=>?_
      rw[m3,show val [100]=100 by simp[val]]at hr hl
      have hl:(fixS (val a*100) (val b) (plc s) s.2.2.2.2.2.2.1).length≤62000:=hl
      subst hr
      exact ad (cat_str (m:=[37]) oss) (aa rfl)
     ·have h:s.2.2.2.2.2.2.2.2.2≠37:=by simpa using h
      rw[if_neg h]
      exact ab (fixed2_tot (okN_of ha) (okN_of hb) hb0 om (gr_of g) om lb) fun r ⟨hr,hl⟩=>by subst hr;exact aa rfl
end Go.Gv.P
namespace Go.Gv.P
open Go Go.Gv Go.Gv.D Go.Gv.R Go.Lib
open Go.Gv.RI (val Dg Nz OkL OkI OkN vb Db IsB noz NDigits_tot DivMod_tot NMul_tot NAdd_tot NCmp_tot val_big val_bound pow_mono pow_le_left)
set_option maxRecDepth 100000
theorem wn_low {B V:Int} (hB:IsB B) (hV:0≤V):∀ b∈wn B V,b.toNat<128:=fun b hb=>by
 unfold wn at hb
 split at hb
 ·simp at hb;subst hb;decide
 ·obtain ⟨d,hd,rfl⟩:=List.mem_map.1 hb
  have hd':=(dl_ok hB.one hV).1 d (List.mem_reverse.1 hd)
  exact odt (dig16 (p:=fun d=>decide ((dch d).toNat<128)) (by kernel_rfl) hB hd')
def bsOf (ty:Int):Int:=if ty=98 then 2 else if ty=111 then 8 else if ty=120∨ty=88 then 16 else 10
def pfx (ty:Int):List UInt8:=if ty=98 then [48,98] else if ty=111 then [48,111] else if ty=120 then [48,120] else if ty=88 then [48,88] else []
theorem bsOf_ok (ty:Int):IsB (bsOf ty):=by
 unfold bsOf
 split
 ·exact .inl rfl
 ·split
  ·exact .inr (.inl rfl)
  ·split
   ·exact .inr (.inr (.inr rfl))
   ·exact .inr (.inr (.inl rfl))
theorem base_tot (ty:Int):Tot (fun n=>fmtspec_base n ty) (· =(bsOf ty,strOf (pfx ty))):=by
 unfold fmtspec_base bsOf pfx
 refine ac (fun h=>aa ?_) (fun h=>ac (fun h2=>aa ?_) (fun h2=>ac (fun h3=>aa ?_) (fun h3=>ac (fun h4=>aa ?_) (fun h4=>aa ?_))))
 ·have h:ty=98:=by simpa using h
  simp[h]
 ·have h:ty≠98:=by simpa using h
  have h2:ty=111:=by simpa using h2
  simp[h2]
 ·have h3:ty=120:=by simpa using h3
  simp[h3]
 ·have h4:ty=88:=by simpa using h4
  simp[h4]
 ·have h:ty≠98:=by simpa using h
  have h2:ty≠111:=by simpa using h2
  have h3:ty≠120:=by simpa using h3
  have h4:ty≠88:=by simpa using h4
  simp[h,h2,h3,h4]
def badW (s:Sp):Prop:=s.2.2.2.2.2.2.2.1=true∨(bsOf s.2.2.2.2.2.2.2.2.2=10∧s.2.2.2.1=true)∨(bsOf s.2.2.2.2.2.2.2.2.2≠10∧s.2.2.2.2.2.2.1=44)
instance (s:Sp):Decidable (badW s):=by unfold badW;infer_instance
def digW (v:Int) (ty:Int):List UInt8:=if ty=88 then toUpperA (wn (bsOf ty) v) else wn (bsOf ty) v
def whoF (neg:Bool) (v:Int) (s:Sp):Fd:=
 if badW s then noF 6 else
 ((sgnS neg s.2.2.1++(if s.2.2.2.1=true then pfx s.2.2.2.2.2.2.2.2.2 else []),grp s.2.2.2.2.2.2.1 (if bsOf s.2.2.2.2.2.2.2.2.2≠10 then 4 else 3) (digW v s.2.2.2.2.2.2.2.2.2),false),(0,0))
theorem digW_len {a:List Int} (ha:OkL a) (ty:Int):1≤(digW (val a) ty).length∧(digW (val a) ty).length≤20000:=by
 have:=wn_len (okN_of ha) (bsOf_ok ty)
 unfold digW
 split
 ·unfold toUpperA;rw[List.length_map];exact this
 ·exact this
theorem whole_tot {neg:Bool} {a:List Int} (ha:OkL a) {s:Sp} (g:Good s):Tot (fun n=>fmtspec_whole n (neg,a) s) (· =fo (whoF neg (val a) s)):=by
 unfold fmtspec_whole whoF
 refine ab (base_tot _) fun r hr=>?_
 subst hr
 refine ab (P:=(· =decide (badW s))) ?_ fun j hj=>?_
 ·unfold badW
  refine ac (fun h=>aa (by simp[h])) (fun h=>?_)
  by_cases hB:bsOf s.2.2.2.2.2.2.2.2.2=10
  ·refine aj (by simpa using hB) ?_
   refine ac (fun h2=>aa (by simp[h2,hB])) (fun h2=>?_)
   refine af (by simpa using hB) (aa ?_)
   simp[h,h2,hB]
  ·refine af (by simpa using hB) ?_
   refine aj (by simpa using hB) (aa ?_)
   by_cases h3:s.2.2.2.2.2.2.1=44<;>simp[h,hB,h3]
 ·subst hj
  refine ac (fun h=>?_) (fun h=>?_)
  ·rw[if_pos (odt h)]
   exact ad (at_eq 0 6 (-2)) (aa rfl)
  ·rw[if_neg (odf h)]
   have hB:=bsOf_ok s.2.2.2.2.2.2.2.2.2
   refine ab (Text_tot ha hB) fun r hr=>?_
   subst hr
   refine ab (P:=(· =strOf (digW (val a) s.2.2.2.2.2.2.2.2.2))) ?_ fun j hj=>?_
   ·unfold digW
    refine ac (fun h=>?_) (fun h=>aa ?_)
    ·have h:s.2.2.2.2.2.2.2.2.2=88:=by simpa using h
     rw[if_pos h]
     refine ab (RI.Tot.all (a:=strOf (toUpperA (wn (bsOf s.2.2.2.2.2.2.2.2.2) (val a)))) fun n=>?_) fun r hr=>by subst hr;exact aa rfl
     have hl:=wn_len (okN_of ha) hB
     show strings_ToUpper n (strOf (wn (bsOf s.2.2.2.2.2.2.2.2.2) (val a)))=_
     unfold strings_ToUpper asciiB
     rw[size_str,bytes_str,if_pos ⟨om,List.all_eq_true.2 fun b hb=>dtt (wn_low hB (val_bound ha.1).1 b hb)⟩]
    ·have h:s.2.2.2.2.2.2.2.2.2≠88:=by simpa using h
     rw[if_neg h]
   ·subst hj
    refine ab (P:=(· =(((if bsOf s.2.2.2.2.2.2.2.2.2≠10 then 4 else 3:Nat)):Int))) ?_ fun j hj=>?_
    ·refine ac (fun h=>aa ?_) (fun h=>aa ?_)
     ·rw[if_pos (by simpa using h)];rfl
     ·rw[if_neg (by simpa using h)];rfl
    ·subst hj
     refine ab (P:=(· =strOf (if s.2.2.2.1=true then pfx s.2.2.2.2.2.2.2.2.2 else []))) ?_ fun j hj=>?_
     ·refine ac (fun h=>aa ?_) (fun h=>aa ?_)
      ·rw[if_neg (by simpa using h)]
      ·rw[if_pos (by simpa using h)]
     ·subst hj
      refine ab (sign_tot neg s) fun sg hsg=>?_
      subst hsg
      have hs:=sgnS_len neg s.2.2.1
      have hpf:(if s.2.2.2.1=true then pfx s.2.2.2.2.2.2.2.2.2 else []).length≤2:=by
       split
       ·unfold pfx;split<;>(try split)<;>(try split)<;>(try split)<;>simp
       ·simp
      refine ad (cat_str om) ?_
      have hd:=digW_len ha s.2.2.2.2.2.2.2.2.2
      refine ab (grouped_tot (gr_of g) (z:=if bsOf s.2.2.2.2.2.2.2.2.2≠10 then 4 else 3) (by split<;>omega) (by split<;>omega) om) fun r hr=>?_
      subst hr
      exact aa rfl
theorem Of1_tot:Tot (fun n=>integer_Of n 1) (· =(false,[1])):=Tot.of_all 100 (fun k=>by kernel_rfl) rfl
theorem ty_of {s:Sp} (g:Good s):0≤s.2.2.2.2.2.2.2.2.2∧s.2.2.2.2.2.2.2.2.2<256:=g.ok.ty
def isFE (s:Sp):Prop:=s.2.2.2.2.2.2.2.2.2≠0∧inB FE s.2.2.2.2.2.2.2.2.2=true
instance (s:Sp):Decidable (isFE s):=by unfold isFE;infer_instance
theorem isFE_tot {s:Sp} (g:Good s):Tot (fun fuel=>if (s.2.2.2.2.2.2.2.2.2 !=0)=true then (Option.bind (fmtspec_in fuel s.2.2.2.2.2.2.2.2.2 (strOf [102,101,37])) fun r58=>(some (r58))) else (some (false))) (· =decide (isFE s)):=by
 unfold isFE
 refine ac (fun h=>?_) (fun h=>aa ?_)
 ·have h:s.2.2.2.2.2.2.2.2.2≠0:=by simpa using h
  refine ab (FE_in (ty_of g)) fun r hr=>aa ?_
  subst hr
  by_cases h2:inB FE s.2.2.2.2.2.2.2.2.2=true<;>simp[h,h2]
 ·have h:s.2.2.2.2.2.2.2.2.2=0:=by simpa using h
  simp[h]
def numF (neg:Bool) (v:Int) (s:Sp):Fd:=if s.2.2.2.2.2.2.2.2.2=115 then noF 13 else if isFE s then frcF neg v 1 s else whoF neg v s
theorem numb_tot {neg:Bool} {a:List Int} (ha:OkL a) {s:Sp} (g:Good s):Tot (fun n=>fmtspec_number n (neg,a) s) (· =fo (numF neg (val a) s)):=by
 unfold fmtspec_number numF
 refine ac (fun h=>?_) (fun h=>?_)
 ·rw[if_pos (by simpa using h)]
  exact ad (at_eq 0 13 (-2)) (aa rfl)
 ·rw[if_neg (by simpa using h)]
  refine ab (isFE_tot g) fun j hj=>?_
  subst hj
  refine ac (fun h=>?_) (fun h=>?_)
  ·rw[if_pos (odt h)]
   refine ab Of1_tot fun r hr=>?_
   subst hr
   refine ab (fraction_tot (neg:=neg) (nb:=false) ha (b:=[1]) ⟨(okN_one (x:=1) ddc).1,(okN_one (x:=1) ddc).2.1,by simp⟩ (by simp) g) fun r hr=>?_
   subst hr
   rw[show val [1]=1 by simp[val]]
   exact aa rfl
  ·rw[if_neg (odf h)]
   exact ab (whole_tot ha g) fun r hr=>by subst hr;exact aa rfl
def ratF (neg:Bool) (a b:Int) (s:Sp):Fd:=
 if isFE s then frcF neg a b s else if s.2.2.2.2.2.2.2.2.2≠0 then noF 13 else
 if s.2.2.2.2.2.2.2.1=true∨s.2.2.2.1=true∨s.2.2.2.2.2.2.1≠0 then noF 6 else ((sgnS neg s.2.2.1,wn 10 a++(47::wn 10 b),false),(0,0))
theorem ratio_tot {neg nb:Bool} {a b:List Int} (ha:OkL a) (hb:OkL b) (hb0:b≠[]) {s:Sp} (g:Good s):Tot (fun n=>fmtspec_ratio n ((neg,a),(nb,b)) s) (· =fo (ratF neg (val a) (val b) s)):=by
 unfold fmtspec_ratio ratF
 refine ab (isFE_tot g) fun j hj=>?_
 subst hj
 refine ac (fun h=>?_) (fun h=>?_)
 ·rw[if_pos (odt h)]
  exact ab (fraction_tot ha hb hb0 g) fun r hr=>by subst hr;exact aa rfl
 ·rw[if_neg (odf h)]
  refine ac (fun h=>?_) (fun h=>?_)
  ·rw[if_pos (show s.2.2.2.2.2.2.2.2.2≠0 by simpa using h)]
   exact ad (at_eq 0 13 (-2)) (aa rfl)
  ·rw[if_neg (show ¬ s.2.2.2.2.2.2.2.2.2≠0 by simpa using h)]
   refine ab (P:=(· =decide (s.2.2.2.2.2.2.2.1=true∨s.2.2.2.1=true∨s.2.2.2.2.2.2.1≠0))) ?_ fun j hj=>?_
   ·refine ac (fun h=>aa (by simp[h])) (fun h=>ac (fun h2=>aa (by simp[h2])) (fun h2=>aa ?_))
    by_cases h3:s.2.2.2.2.2.2.1=0<;>simp[h,h2,h3]
   ·subst hj
    refine ac (fun h=>?_) (fun h=>?_)
    ·rw[if_pos (odt h)]
     exact ad (at_eq 0 6 (-2)) (aa rfl)
    ·rw[if_neg (odf h)]
     refine ab (decimals_tot ha) fun r hr=>?_
     subst hr
     have h1:=wn_len128 ha
     have h2:=wn_len128 hb
     refine ad (cat_str (m:=[47]) oss) (ab (decimals_tot hb) fun r hr=>?_)
     subst hr
     refine ad (cat_str oss) (ab (sign_tot neg s) fun r hr=>?_)
     subst hr
     refine aa ?_
     simp[fo]
def badT (s:Sp):Prop:=s.2.2.1≠0∨s.2.2.2.1=true∨s.2.2.2.2.1=true∨s.2.2.2.2.2.2.1≠0∨s.2.1=61
instance (s:Sp):Decidable (badT s):=by unfold badT;infer_instance
def cutT (p:List Nat) (s:Sp):List Nat:=if s.2.2.2.2.2.2.2.1=true then p.take s.2.2.2.2.2.2.2.2.1.toNat else p
def txtF (p:List Nat) (s:Sp):Fd:=
 if s.2.2.2.2.2.2.2.2.2≠0∧s.2.2.2.2.2.2.2.2.2≠115 then noF 13 else if badT s then noF 6 else (([],enc (cutT p s),true),(0,0))
theorem text_tot {p:List Nat} (hp:∀ r∈p,Scal r) (hl:(enc p).length≤1048576) {s:Sp} (g:Good s):Tot (fun n=>fmtspec_text n (strOf (enc p)) s) (· =fo (txtF p s)):=by
 unfold fmtspec_text txtF
 refine ab (P:=(· =decide (s.2.2.2.2.2.2.2.2.2≠0∧s.2.2.2.2.2.2.2.2.2≠115))) ?_ fun j hj=>?_
 ·refine ac (fun h=>aa ?_) (fun h=>aa ?_)
  ·have h:s.2.2.2.2.2.2.2.2.2≠0:=by simpa using h
   by_cases h2:s.2.2.2.2.2.2.2.2.2=115<;>simp[h,h2]
  ·have h:s.2.2.2.2.2.2.2.2.2=0:=by simpa using h
   simp[h]
 ·subst hj
  refine ac (fun h=>?_) (fun h=>?_)
  ·rw[if_pos (odt h)]
   exact ad (at_eq 0 13 (-2)) (aa rfl)
  ·rw[if_neg (odf h)]
   refine ab (P:=(· =decide (badT s))) ?_ fun j hj=>?_
   ·unfold badT
    refine ac (fun h=>aa ?_) (fun h=>ac (fun h2=>aa (by simp[h2])) (fun h2=>ac (fun h3=>aa (by simp[h3])) (fun h3=>ac (fun h4=>aa ?_) (fun h4=>aa ?_))))
    ·have h:s.2.2.1≠0:=by simpa using h
     simp[h]
    ·have h4:s.2.2.2.2.2.2.1≠0:=by simpa using h4
     simp[h4]
    ·have h:s.2.2.1=0:=by simpa using h
     have h4:s.2.2.2.2.2.2.1=0:=by simpa using h4
     by_cases h5:s.2.1=61<;>simp[h,h2,h3,h4,h5]
   ·subst hj
    refine ac (fun h=>?_) (fun h=>?_)
    ·rw[if_pos (odt h)]
     exact ad (at_eq 0 6 (-2)) (aa rfl)
    ·rw[if_neg (odf h)]
     refine ad (rn_enc hp hl) ?_
     have hpr:=g.p
     have hil:(ints p).length=p.length:=by simp[ints]
     refine ab (P:=(· =decide (s.2.2.2.2.2.2.2.1=true∧s.2.2.2.2.2.2.2.2.1.toNat<p.length))) ?_ fun j hj=>?_
     ·refine ac (fun h=>aa ?_) (fun h=>aa (by simp[h]))
      rw[hil]
      refine decide_eq_decide.2 ⟨fun h2=>⟨h,om⟩,fun ⟨_,h2⟩=>by omega⟩
     ·subst hj
      refine ab (P:=(· =strOf (enc (cutT p s)))) ?_ fun j hj=>by subst hj;exact aa rfl
      unfold cutT
      refine ac (fun h=>?_) (fun h=>aa ?_)
      ·obtain ⟨h1,h2⟩:=odt h
       rw[if_pos h1]
       refine ad (a:=ints (p.take s.2.2.2.2.2.2.2.2.1.toNat)) (by rw[sub_ok om om om];simp[ints,List.map_take]) (aa ?_)
       rw[strR_ints fun r hr=>hp r (ai hr)]
      ·have h:=odf h
       by_cases h1:s.2.2.2.2.2.2.2.1=true
       ·rw[if_pos h1,List.take_of_length_le (by
         rcases Nat.lt_or_ge s.2.2.2.2.2.2.2.2.1.toNat p.length with h2 | h2
         ·exact absurd ⟨h1,h2⟩ h
         ·exact h2)]
       ·rw[if_neg h1]
end Go.Gv.P
namespace Go.Gv.P
open Go Go.Gv Go.Gv.D Go.Gv.R Go.Lib
open Go.Gv.RI (val Dg Nz OkL OkI OkN vb Db IsB noz NDigits_tot DivMod_tot NMul_tot NAdd_tot NCmp_tot val_big val_bound pow_mono pow_le_left)
set_option maxRecDepth 100000
/-! Own work: filling, and the whole of Format. -/
def fillN (s:Sp):Nat:=if s.1=0 then (if s.2.2.2.2.1=true then 48 else 32) else s.1.toNat
def alN (left:Bool) (s:Sp):Int:=if s.2.1=0 then (if left=true then 60 else if s.2.2.2.2.1=true then 61 else 62) else s.2.1
def padP (ph pb:List Nat) (left:Bool) (s:Sp):List Nat:=
 let n:=s.2.2.2.2.2.1.toNat-ph.length-pb.length
 if alN left s=60 then ph++pb++ae n (fillN s)
 else if alN left s=94 then ae (n/2) (fillN s)++ph++pb++ae (n-n/2) (fillN s)
 else if alN left s=61 then ph++ae n (fillN s)++pb
 else ae n (fillN s)++ph++pb
theorem fill_scal {s:Sp} (g:Good s):Scal (fillN s)∧fillN s≠0:=by
 unfold fillN
 split
 ·split<;>exact ⟨by unfold Scal;omega,ddc⟩
 ·rename_i h
  rcases g.fill with h1 | h1
  ·exact absurd h1 h
  ·exact ⟨h1.1,om⟩
theorem repeat_enc (c:Nat) (n:Nat):repeatL (encR c) n=enc (ae n c):=by
 induction n with
 | zero=>rfl
 | succ n ih=>rw[List.replicate_succ,enc_cons,← ih];rfl
theorem pad1_tot {c:Nat} (hc:Scal c) {n:Nat} (hn:n≤100000):Tot (fun k=>fmtspec_pad_1 k (n:Int) (c:Int)) (· =strOf (enc (ae n c))):=by
 unfold fmtspec_pad_1
 rw[encode_str hc]
 refine ab (RI.Tot.all (a:=strOf (enc (ae n c))) fun k=>?_) fun r hr=>by subst hr;exact aa rfl
 unfold strings_Repeat
 have:=(encR_pos c).2
 have h4:(encR c).length*n≤4*100000:=Nat.mul_le_mul om hn
 rw[size_str,bytes_str,if_pos ⟨om,om,by rw[ah];omega⟩,ah,repeat_enc]
theorem rep_len (c n:Nat):(enc (ae n c)).length≤4*n:=by
 have:=enc_len_le (ae n c)
 simpa using this
theorem padn_tot {ph pb:List Nat} (h1:∀ r∈ph,Scal r) (h2:∀ r∈pb,Scal r) (l1:(enc ph).length≤1000) (l2:(enc pb).length≤1048576) {left:Bool} {s:Sp} (g:Good s):
 Tot (fun k=>fmtspec_pad k (strOf (enc ph),strOf (enc pb),left) s) (· =strOf (enc (padP ph pb left s))):=by
 have hf:=fill_scal g
 have hfl:fillN s≤1114111:=scal_i32 hf.1
 have hw:=g.w
 unfold fmtspec_pad
 have hs1:0≤s.1∧s.1≤1114111:=by
  rcases g.fill with h | h
  ·omega
  ·have:=scal_i32 h.1;omega
 rw[i32_in hs1.1 hs1.2]
 refine ab (P:=(· =(s.2.2.2.2.1&&(s.1==0)))) ?_ fun j hj=>?_
 ·refine ac (fun h=>aa (by simp[h])) (fun h=>aa (by simp[h]))
 subst hj
 refine ab (P:=(· =if (s.2.2.2.2.1&&(s.1==0))=true then 48 else s.1)) ?_ fun j hj=>?_
 ·refine ac (fun h=>aa (by rw[if_pos h])) (fun h=>aa (by rw[if_neg (by rw[h];decide)]))
 refine ab (P:=(· =(fillN s:Int))) ?_ fun j2 hj2=>?_
 ·unfold fillN
  by_cases h0:s.1=0
  ·by_cases hz:s.2.2.2.2.1=true
   ·have e:j=48:=by rw[hj];simp[hz,h0]
    subst e
    exact af rfl (aa (by simp[h0,hz]))
   ·have e:j=0:=by rw[hj];simp[hz,h0]
    subst e
    exact aj rfl (aa (by simp[h0,hz]))
  ·have e:j=s.1:=by rw[hj];simp[h0]
   subst e
   refine af (by simpa using h0) (aa ?_)
   rw[if_neg h0];omega
 subst hj2
 refine ab (P:=(· =alN left s)) ?_ fun j3 hj3=>?_
 ·unfold alN
  refine ac (fun h=>?_) (fun h=>aa ?_)
  ·have h:s.2.1=0:=by simpa using h
   rw[if_pos h]
   refine ab (P:=(· =if left=true then 60 else if s.2.2.2.2.1=true then 61 else 62)) ?_ fun j hj=>by subst hj;exact aa rfl
   refine ac (fun h=>aa ?_) (fun h=>?_)
   ·have h:left=true:=h
    simp[h]
   ·have h:left=false:=h
    subst h
    exact ac (fun h=>aa (by simp[h])) (fun h=>aa (by simp[h]))
  ·have h:s.2.1≠0:=by simpa using h
   rw[if_neg h]
 subst hj3
 refine ab (RuneCount_tot h1 om) fun c1 hc1=>?_
 subst hc1
 refine ab (RuneCount_tot h2 l2) fun c2 hc2=>?_
 subst hc2
 have le1:ph.length≤(enc ph).length:=enc_len_ge ph
 have le2:pb.length≤(enc pb).length:=enc_len_ge pb
 rw[i64_small (x:=s.2.2.2.2.2.1-(ph.length:Int)) om om,i64_small (x:=s.2.2.2.2.2.1-(ph.length:Int)-(pb.length:Int)) om om]
 have en:(if 0<s.2.2.2.2.2.1-(ph.length:Int)-(pb.length:Int) then s.2.2.2.2.2.1-(ph.length:Int)-(pb.length:Int) else 0)=((s.2.2.2.2.2.1.toNat-ph.length-pb.length:Nat):Int):=by split<;>omega
 rw[en]
 unfold padP
 generalize hn:s.2.2.2.2.2.1.toNat-ph.length-pb.length=n
 have hn4:n≤400:=by omega
 refine Tot.some_bind ?_
 have e2:IntKind.i64.wrap ((n:Int).tdiv 2)=((n/2:Nat):Int):=by rw[Int.tdiv_eq_ediv_of_nonneg om];exact iw om om
 have e3:IntKind.i64.wrap ((n:Int)-((n/2:Nat):Int))=((n-n/2:Nat):Int):=iw om om
 have r0:=rep_len (fillN s) n
 have r1:=rep_len (fillN s) (n/2)
 have r2:=rep_len (fillN s) (n-n/2)
 have cat3:∀ {x y:List Nat},(enc x).length+(enc y).length≤9223372036854775807→cat (strOf (enc x)) (strOf (enc y))=some (strOf (enc (x++y))):=fun {x y} h=>by rw[cat_str h,enc_app]
 have len3:∀ {x y:List Nat},(enc (x++y)).length=(enc x).length+(enc y).length:=fun {x y}=>by rw[enc_app,ag]
 refine ac (fun h=>?_) (fun h=>?_)
 ·rw[if_pos (by simpa using h)]
  refine ad (cat3 om) (ab (pad1_tot hf.1 om) fun r hr=>?_)
  subst hr
  exact ad (cat3 (by rw[len3];omega)) (aa rfl)
 ·rw[if_neg (by simpa using h)]
  refine ac (fun h=>?_) (fun h=>?_)
  ·rw[if_pos (by simpa using h),e2,e3]
   refine ab (pad1_tot hf.1 om) fun r hr=>?_
   subst hr
   refine ad (cat3 om) (ad (cat3 (by rw[len3];omega)) (ab (pad1_tot hf.1 om) fun r hr=>?_))
   subst hr
   exact ad (cat3 (by rw[len3,len3];omega)) (aa rfl)
  ·rw[if_neg (by simpa using h)]
   refine ac (fun h=>?_) (fun h=>?_)
   ·rw[if_pos (by simpa using h)]
    refine ab (pad1_tot hf.1 om) fun r hr=>?_
    subst hr
    exact ad (cat3 om) (ad (cat3 (by rw[len3];omega)) (aa rfl))
   ·rw[if_neg (by simpa using h)]
    refine ab (pad1_tot hf.1 om) fun r hr=>?_
    subst hr
    exact ad (cat3 om) (ad (cat3 (by rw[len3];omega)) (aa rfl))
end Go.Gv.P
namespace Go.Gv.P
open Go Go.Gv Go.Gv.D Go.Gv.R Go.Lib
open Go.Gv.RI (val Dg Nz OkL OkI OkN vb Db IsB noz NDigits_tot DivMod_tot NMul_tot NAdd_tot NCmp_tot val_big val_bound pow_mono pow_le_left)
set_option maxRecDepth 100000
/-! Own work: what is formatted is made of plain letters, and not too long. -/
def low (l:List UInt8):Prop:=∀ b∈l,b.toNat<128
theorem low_nil:low []:=fun b hb=>by simp at hb
theorem low.app {a b:List UInt8} (h1:low a) (h2:low b):low (a++b):=fun x hx=>(List.mem_append.1 hx).elim (h1 x) (h2 x)
theorem low.cons {x:UInt8} {l:List UInt8} (h1:x.toNat<128) (h2:low l):low (x::l):=fun y hy=>by
 rcases List.mem_cons.1 hy with e | e
 ·subst e;exact h1
 ·exact h2 y e
theorem low.take {l:List UInt8} (h:low l) (n:Nat):low (l.take n):=fun b hb=>h b (ai hb)
theorem low.drop {l:List UInt8} (h:low l) (n:Nat):low (l.drop n):=fun b hb=>h b (List.mem_of_mem_drop hb)
theorem low_rep {c:UInt8} (h:c.toNat<128) (n:Nat):low (ae n c):=fun b hb=>by rw[List.eq_of_mem_replicate hb];exact h
theorem low_join {c:UInt8} (hc:c.toNat<128):∀ {ps:List (List UInt8)},low ps.flatten→low (join ps [c])
 | [],_=>by simp[join,low_nil]
 | [x],h=>by rw[join_one];simpa using h
 | x::y::r,h=>by
   have e:join (x::y::r) [c]=x++c::join (y::r) [c]:=by
    rw[join_cons,join_cons]
    simp[joinTail]
   rw[e]
   rw[List.flatten_cons]at h
   exact low.app (fun b hb=>h b (List.mem_append_left _ hb)) (low.cons hc (low_join hc fun b hb=>h b (List.mem_append_right _ hb)))
theorem low_grp {g:Int} (hg:g=0∨g=44∨g=95) {z:Nat} (hz:1≤z) {l:List UInt8} (h:low l):low (grp g z l):=by
 unfold grp
 split
 ·exact h
 ·refine low_join (by rcases hg with e | e | e<;>subst e<;>decide) ?_
  rw[(gps_len hz l.length l rfl).2]
  exact h
theorem low_dg {l:List UInt8} (h:∀ b∈l,dg b=true):low l:=fun b hb=>by have:=dg_byte (h b hb);omega
theorem low_sgn (neg:Bool) (sg:Int):low (sgnS neg sg):=by
 unfold sgnS
 split
 ·exact low.cons ddc low_nil
 ·split
  ·rename_i h
   refine low.cons ?_ low_nil
   rcases h with h | h<;>rw[h]<;>decide
  ·exact low_nil
theorem low_pfx (ty:Int):low (pfx ty):=by
 unfold pfx
 intro b hb
 split at hb
 ·revert b;decide
 ·split at hb
  ·revert b;decide
  ·split at hb
   ·revert b;decide
   ·split at hb
    ·revert b;decide
    ·simp at hb
theorem low_wn {a:List Int} {B:Int} (ha:Dg a) (hB:IsB B):low (wn B (val a)):=wn_low hB (val_bound ha).1
theorem low_wn' {V:Int} (h:0≤V):low (wn 10 V):=wn_low (.inr (.inr (.inl rfl))) h
theorem low_dig {a:List Int} (ha:OkL a) (ty:Int):low (digW (val a) ty):=by
 unfold digW
 split
 ·intro b hb
  unfold toUpperA at hb
  obtain ⟨c,hc,rfl⟩:=List.mem_map.1 hb
  have:=low_wn ha.1 (bsOf_ok ty) c hc
  have h1:(List.range 128).all (fun n=>decide ((upperB (UInt8.ofNat n)).toNat<128))=true:=by kernel_rfl
  have h2:=List.all_eq_true.1 h1 c.toNat (List.mem_range.2 this)
  rw[UInt8.ofNat_toNat]at h2
  exact odt h2
 ·exact low_wn ha.1 (bsOf_ok ty)
theorem low_padZ {pl:Nat} {d:List UInt8} (h:low d):low (padZ pl d):=low.app (low_rep ddc _) h
theorem low_fixS {a b:Int} (ha:0≤a) (hb:0<b) {pl:Nat} {g:Int} (hg:g=0∨g=44∨g=95):low (fixS a b pl g):=by
 have h0:0≤nea (a*10^pl) b:=nea_nonneg (Int.mul_nonneg ha (Int.le_of_lt (ten_pow_pos pl))) hb
 have h:=low_padZ (pl:=pl) (low_wn' h0)
 unfold fixS point
 split
 ·exact (low_grp hg om (h.take _)).app (low.cons ddc (h.drop _))
 ·exact low_grp hg om (h.take _)
theorem scA_nonneg {a n:Int} (h:0≤a):0≤scA a n:=by
 unfold scA
 split
 ·exact Int.mul_nonneg h (Int.le_of_lt (ten_pow_pos _))
 ·exact h
theorem scB_pos {b n:Int} (h:0<b):0<scB b n:=by
 unfold scB
 split
 ·exact h
 ·exact Int.mul_pos h (ten_pow_pos _)
theorem low_mant {a b:Int} (ha:0≤a) (hb:0<b) (pl:Nat):low (mant a b pl).2:=by
 unfold mant
 have h:=low_wn' (nea_nonneg (scA_nonneg (n:=(pl:Int)-expo a b) ha) (scB_pos (n:=(pl:Int)-expo a b) hb))
 split
 ·exact low_rep ddc _
 ·split
  ·exact h.take _
  ·exact h
theorem low_exp {e:Int} (h:e.natAbs<1400):low (expS e):=by
 unfold expS
 refine low.app (low.app ?_ ?_) (low_dg (itoa4 h).1)
 ·split<;>(intro b;revert b;decide)
 ·split
  ·exact low.cons ddc low_nil
  ·exact low_nil
theorem low_sci {a b:Int} (ha:0≤a) (hb:0<b) {pl:Nat} (he:(mant a b pl).1.natAbs<1400):low (sciS a b pl):=by
 have h:=low_mant ha hb pl
 unfold sciS
 refine low.app (low.app (h.take _) ?_) (low_exp he)
 split
 ·exact low.cons ddc (h.drop _)
 ·exact low_nil
theorem sci_len {a b:Int} {pl:Nat} (hm:(mant a b pl).2.length≤20001) (h1: -1301≤(mant a b pl).1) (h2:(mant a b pl).1≤1301):(sciS a b pl).length≤30000:=by
 have:=expS_len h1 h2
 unfold sciS
 rw[ag,ag,List.length_take]
 split<;>simp<;>omega
/-- a field that may be filled: letters, not too many -/
def FdOk (f:Fd):Prop:=f.2=(0,0)→(low f.1.1∧f.1.1.length≤10)∧(low f.1.2.1∧f.1.2.1.length≤100000)∧f.1.2.2=false
theorem no_ok (c:Int) (hc:c≠0):FdOk (noF c):=fun h=>by simp[noF]at h
theorem frc_ok {neg:Bool} {a b:List Int} (ha:OkL a) (hb:OkL b) (hb0:b≠[]) {s:Sp} (g:Good s):FdOk (frcF neg (val a) (val b) s):=by
 have h1:=(val_bound ha.1).1
 have h2:=RI.val_pos hb.1 hb.2.1 hb0
 have hpl:=plc_le g
 have la:a.length≤200:=Nat.le_trans ha.2.2 ddc
 have lb:b.length≤200:=Nat.le_trans hb.2.2 ddc
 unfold frcF
 split
 ·exact no_ok 6 ddc
 ·refine fun _=>⟨⟨low_sgn _ _,by have:=sgnS_len neg s.2.2.1;simp only;omega⟩,?_,rfl⟩
  show low (frcB (val a) (val b) s)∧(frcB (val a) (val b) s).length≤100000
  unfold frcB
  split
  ·obtain ⟨r,⟨_,m1,m2,m3⟩,_⟩:=scientific_tot ha hb hb0 (pl:=plc s) om
   exact ⟨low_sci h1 h2 om,by have:=sci_len m1 m2 m3;omega⟩
  ·split
   ·obtain ⟨m,⟨m1,m2,m3,m4⟩,_⟩:=NMul_tot (okN_of ha) (okN_one (x:=100) ddc) oss
    obtain ⟨r,⟨_,hl⟩,_⟩:=fixed2_tot m2 (okN_of hb) hb0 (pl:=plc s) om (gr_of g) (by simp at m4;omega) lb
    rw[m3,show val [100]=100 by simp[val]]at hl
    exact ⟨(low_fixS (Int.mul_nonneg h1 ddc) h2 (gr_of g)).app (low.cons ddc low_nil),oss⟩
   ·obtain ⟨r,⟨_,hl⟩,_⟩:=fixed2_tot (okN_of ha) (okN_of hb) hb0 (pl:=plc s) om (gr_of g) om lb
    exact ⟨low_fixS h1 h2 (gr_of g),om⟩
theorem who_ok {neg:Bool} {a:List Int} (ha:OkL a) {s:Sp} (g:Good s):FdOk (whoF neg (val a) s):=by
 unfold whoF
 split
 ·exact no_ok 6 ddc
 ·have hd:=digW_len ha s.2.2.2.2.2.2.2.2.2
  have hz:1≤(if bsOf s.2.2.2.2.2.2.2.2.2≠10 then 4 else 3):=by split<;>omega
  refine fun _=>⟨⟨(low_sgn _ _).app (by split;exact low_pfx _;exact low_nil),?_⟩,⟨low_grp (gr_of g) hz (low_dig ha _),?_⟩,rfl⟩
  ·have hs:=sgnS_len neg s.2.2.1
   have hpf:(if s.2.2.2.1=true then pfx s.2.2.2.2.2.2.2.2.2 else []).length≤2:=by
    split
    ·unfold pfx;split<;>(try split)<;>(try split)<;>(try split)<;>simp
    ·simp
   simp only[ag]
   omega
  ·have:=grp_len (g:=s.2.2.2.2.2.2.1) hz (digW (val a) s.2.2.2.2.2.2.2.2.2)
   simp only
   omega
theorem num_ok {neg:Bool} {a:List Int} (ha:OkL a) {s:Sp} (g:Good s):FdOk (numF neg (val a) s):=by
 unfold numF
 split
 ·exact no_ok 13 ddc
 ·split
  ·have:=frc_ok (neg:=neg) ha (b:=[1]) ⟨(okN_one (x:=1) ddc).1,(okN_one (x:=1) ddc).2.1,by simp⟩ (by simp) g
   rwa [show val [1]=1 by simp[val]]at this
  ·exact who_ok ha g
theorem rat_ok {neg:Bool} {a b:List Int} (ha:OkL a) (hb:OkL b) (hb0:b≠[]) {s:Sp} (g:Good s):FdOk (ratF neg (val a) (val b) s):=by
 unfold ratF
 split
 ·exact frc_ok ha hb hb0 g
 ·split
  ·exact no_ok 13 ddc
  ·split
   ·exact no_ok 6 ddc
   ·have h1:=wn_len128 ha
    have h2:=wn_len128 hb
    have h3:=sgnS_len neg s.2.2.1
    refine fun _=>⟨⟨low_sgn _ _,osm⟩,⟨(low_wn ha.1 (.inr (.inr (.inl rfl)))).app (low.cons ddc (low_wn hb.1 (.inr (.inr (.inl rfl))))),oss⟩,rfl⟩
end Go.Gv.P
namespace Go.Gv.P
open Go Go.Gv Go.Gv.D Go.Gv.R Go.Lib
open Go.Gv.RI (val Dg Nz OkL OkI OkN vb Db IsB noz NDigits_tot DivMod_tot NMul_tot NAdd_tot NCmp_tot Gcd_tot val_big val_bound pow_mono pow_le_left)
set_option maxRecDepth 100000
/-! Own work: which values are valid. -/
abbrev Vl:=Int × (Bool × List Int) × (Bool × List Int) × ByteArray × Int
theorem ivalid_tot {neg:Bool} {l:List Int} (hd:Dg l):Tot (fun n=>integer_Valid n (neg,l)) (fun r=>(r=true↔OkI (neg,l))):=by
 unfold integer_Valid
 refine ab (P:=fun j=>(j=true↔OkI (neg,l))) ?_ fun j hj=>aa hj
 by_cases h128:l.length≤128
 ·refine aj (dtt (show ((l.length:Nat):Int)≤128 by omega)) ?_
  by_cases h0:l=[]
  ·subst h0
   refine aj rfl ?_
   cases neg with
   | false=>exact aj rfl (aa ⟨fun _=>⟨⟨fun x hx=>by simp at hx,.inl rfl,by simp⟩,fun _=>rfl⟩,fun _=>rfl⟩)
   | true=>
     refine af rfl (af rfl (aa ⟨fun h=>(by cases h),fun h=>?_⟩))
     have:=h.2 rfl
     cases this
  ·have hlen:0<l.length:=List.length_pos_iff.2 h0
   obtain ⟨n,hn⟩:∃ n,l.length=n+1:=⟨l.length-1,om⟩
   have hlast:l.getLast? =some (l[n]'(om)):=by
    rw[List.getLast?_eq_getElem?,show l.length-1=n by omega]
    exact List.getElem?_eq_getElem om
   have hiff:((l[n]'(om)!=0)=true↔OkI (neg,l)):=by
    constructor
    ·intro h
     have h:l[n]'(om)≠0:=by simpa using h
     exact ⟨⟨hd,.inr (by rw[hlast];simpa using h),h128⟩,fun e=>absurd e h0⟩
    ·intro h
     rcases h.1.2.1 with h1 | h1
     ·exact absurd h1 h0
     ·have:l.getLast? ≠some 0:=h1
      rw[hlast]at this
      simpa using this
   refine af (by simpa using h0) (aj (dtt (show ((l.length:Nat):Int)>0 by omega)) ?_)
   have hw:IntKind.i64.wrap (((l.length:Nat):Int)-1)=(n:Int):=iw om om
   show Tot (fun _=>Option.bind (idx l (IntKind.i64.wrap (((l.length:Nat):Int)-1))) fun x19=>some (x19 !=0)) _
   rw[hw]
   exact ad (RI.idx_nat (show n<l.length by omega)) (aa hiff)
 ·refine af (dff (show ¬ ((l.length:Nat):Int)≤128 by omega)) (aa ⟨fun h=>(by cases h),fun h=>absurd h.1.2.2 h128⟩)
def ROk (x y:Bool × List Int):Prop:=OkI x∧OkI y∧y.1=false∧y.2≠[]∧Nat.gcd (val x.2).toNat (val y.2).toNat=1
theorem one_val {l:List Int} (h:OkN l):(l=[1]↔val l=1):=by
 constructor
 ·intro h;subst h;simp[val]
 ·intro hv
  exact RI.norm_inj h.1 (okN_one (x:=1) ddc).1 h.2.1 (okN_one (x:=1) ddc).2.1 (by rw[hv];simp[val])
theorem is_one_tot {l:List Int}:Tot (fun _=>if ((((List.length l:Nat):Int)==1))=true then (Option.bind (idx l 0) fun x63=>(some ((x63==1)))) else (some (false))) (fun r=>(r=true↔l=[1])):=by
 refine ac (fun h=>?_) (fun h=>aa ⟨fun h=>(by cases h),fun e=>?_⟩)
 ·have h:l.length=1:=by
   have:((l.length:Nat):Int)=1:=by simpa using h
   omega
  obtain ⟨x,rfl⟩:=List.length_eq_one_iff.1 h
  refine ad (a:=x) rfl (aa ?_)
  simp
 ·subst e;cases h
theorem rvalid_tot {x y:Bool × List Int} (hx:Dg x.2) (hy:Dg y.2):Tot (fun n=>rational_Valid n (x,y)) (fun r=>(r=true↔ROk x y)):=by
 obtain ⟨nx,lx⟩:=x
 obtain ⟨ny,ly⟩:=y
 unfold rational_Valid
 refine ab (P:=fun j=>(j=false↔(OkI (nx,lx)∧OkI (ny,ly)∧ny=false∧ly≠[]))) ?_ fun j hj=>?_
 ·refine ab (ivalid_tot hx) fun r hr=>?_
  refine ac (fun h=>aa ?_) (fun h=>?_)
  ·have h:r=false:=by simpa using h
   constructor
   ·intro h;cases h
   ·intro ⟨h1,_⟩;rw[hr.2 h1]at h;cases h
  ·have h:r=true:=by simpa using h
   have h1:=hr.1 h
   refine ab (ivalid_tot hy) fun r2 hr2=>?_
   refine ac (fun h=>aa ?_) (fun h=>?_)
   ·have h:r2=false:=by simpa using h
    constructor
    ·intro h;cases h
    ·intro ⟨_,h2,_⟩;rw[hr2.2 h2]at h;cases h
   ·have h:r2=true:=by simpa using h
    have h2:=hr2.1 h
    refine ac (fun h=>aa ?_) (fun h=>aa ?_)
    ·constructor
     ·intro h;cases h
     ·intro ⟨_,_,h3,_⟩
      have h:ny=true:=h
      rw[h3]at h;cases h
    ·have h:ny=false:=h
     show ((((ly.length:Nat):Int)==0)=false↔_)
     constructor
     ·intro h3
      refine ⟨h1,h2,h,fun e=>?_⟩
      subst e
      cases h3
     ·intro ⟨_,_,_,h4⟩
      simpa using h4
 ·refine ac (fun h=>aa ?_) (fun h=>?_)
  ·constructor
   ·intro h;cases h
   ·intro ⟨h1,h2,h3,h4,_⟩
    rw[hj.2 ⟨h1,h2,h3,h4⟩]at h
    cases h
  ·obtain ⟨h1,h2,h3,h4⟩:=hj.1 h
   refine ab (Gcd_tot (okN_of h1.1) (okN_of h2.1)) fun r ⟨r1,r2,r3⟩=>?_
   refine ab is_one_tot fun j hj=>aa ?_
   rw[hj,one_val r2,r3]
   constructor
   ·intro h5
    refine ⟨h1,h2,h3,h4,?_⟩
    have h5:(((Nat.gcd (val lx).toNat (val ly).toNat:Nat)):Int)=1:=h5
    simp only
    omega
   ·intro ⟨_,_,_,_,h5⟩
    have h5:Nat.gcd (val lx).toNat (val ly).toNat=1:=h5
    show (((Nat.gcd (val lx).toNat (val ly).toNat:Nat)):Int)=1
    omega
structure VHyp (v:Vl):Prop where
 num:Dg v.2.1.2
 den:Dg v.2.2.1.2
 txt:v.2.2.2.1.size≤1048576
def VOk (v:Vl):Prop:=(v.1=1∧(v.2.2.2.2=0∨v.2.2.2.2=1))∨(v.1=2∧OkI v.2.1)∨(v.1=3∧ROk v.2.1 v.2.2.1∧v.2.2.1.2≠[1])∨(v.1=4∧R.okS v.2.2.2.1=true)
theorem valid_tot {v:Vl} (hv:VHyp v):Tot (fun n=>fmtspec_valid n v) (fun r=>(r=true↔VOk v)):=by
 unfold fmtspec_valid VOk
 refine ac (fun h=>?_) (fun h=>?_)
 ·have h:v.1=1:=by simpa using h
  refine ab (P:=fun j=>(j=true↔(v.2.2.2.2=0∨v.2.2.2.2=1))) ?_ fun j hj=>aa ?_
  ·refine ac (fun h=>aa ?_) (fun h=>aa ?_)
   ·have h:v.2.2.2.2=0:=by simpa using h
    simp[h]
   ·have h:v.2.2.2.2≠0:=by simpa using h
    simp[h]
  ·rw[hj];simp[h]
 ·have h1:v.1≠1:=by simpa using h
  refine ac (fun h=>?_) (fun h=>?_)
  ·have h:v.1=2:=by simpa using h
   refine ab (ivalid_tot hv.num) fun r hr=>aa ?_
   rw[hr];simp[h]
  ·have h2:v.1≠2:=by simpa using h
   refine ac (fun h=>?_) (fun h=>?_)
   ·have h:v.1=3:=by simpa using h
    refine ab (P:=fun j=>(j=true↔(ROk v.2.1 v.2.2.1∧v.2.2.1.2≠[1]))) ?_ fun j hj=>aa ?_
    ·refine ab (rvalid_tot hv.num hv.den) fun r hr=>?_
     refine ac (fun h=>?_) (fun h=>aa ?_)
     ·have hr:=hr.1 h
      refine ac (fun h=>?_) (fun h=>aa ?_)
      ·have h:v.2.2.1.2.length=1:=by
        have:((v.2.2.1.2.length:Nat):Int)=1:=by simpa using h
        omega
       obtain ⟨x,hx⟩:=List.length_eq_one_iff.1 h
       rw[hx]
       refine ad (a:=x) rfl (aa ?_)
       simp
       intro _
       exact hr
      ·constructor
       ·intro _
        refine ⟨hr,fun e=>?_⟩
        rw[e]at h;cases h
       ·intro _;rfl
     ·constructor
      ·intro h;cases h
      ·intro ⟨h1,_⟩;rw[hr.2 h1]at h;cases h
    ·rw[hj];simp[h]
   ·have h3:v.1≠3:=by simpa using h
    refine ab (P:=fun j=>(j=true↔(v.1=4∧R.okS v.2.2.2.1=true))) ?_ fun j hj=>aa (by rw[hj];simp[h1,h2,h3])
    refine ac (fun h=>?_) (fun h=>aa ?_)
    ·have h:v.1=4:=by simpa using h
     have htx:=hv.txt
     refine ab (ValidString_tot om) fun r hr=>?_
     subst hr
     unfold R.okS
     refine ac (fun h2=>?_) (fun h2=>aa ?_)
     ·refine Tot.some_bind (aa ?_)
      rw[h2]
      simp[h]
      omega
     ·rw[h2];simp
    ·have h:v.1≠4:=by simpa using h
     simp[h]
end Go.Gv.P
namespace Go.Gv.P
open Go Go.Gv Go.Gv.D Go.Gv.R Go.Lib
open Go.Gv.RI (val Dg Nz OkL OkI OkN vb Db IsB noz NDigits_tot DivMod_tot NMul_tot NAdd_tot NCmp_tot Gcd_tot val_big val_bound pow_mono pow_le_left)
set_option maxRecDepth 100000
/-! Own work: what Format gives. -/
open Classical in
noncomputable def pts (t:ByteArray):List Nat:=if h:R.okS t=true then Classical.choose (okS_text h) else []
theorem pts_spec {t:ByteArray} (h:R.okS t=true):(∀ r∈pts t,Scal r)∧t=strOf (enc (pts t))∧(enc (pts t)).length≤4000:=by
 unfold pts
 rw[dif_pos h]
 exact Classical.choose_spec (okS_text h)
def tf (r:Int):List Nat:=if r=1 then [116,114,117,101] else [102,97,108,115,101]
/-- the text of a value that is none of numbers -/
noncomputable def vtxt (v:Vl):List Nat:=if v.1=1 then tf v.2.2.2.2 else pts v.2.2.2.1
/-- the field of a value -/
noncomputable def fdf (v:Vl) (s:Sp):Fd:=
 if v.1=2 then numF v.2.1.1 (val v.2.1.2) s else if v.1=3 then ratF v.2.1.1 (val v.2.1.2) (val v.2.2.1.2) s else txtF (vtxt v) s
noncomputable def phf (v:Vl) (s:Sp):List Nat:=(fdf v s).1.1.map (·.toNat)
noncomputable def pbf (v:Vl) (s:Sp):List Nat:=if v.1=2∨v.1=3 then (fdf v s).1.2.1.map (·.toNat) else cutT (vtxt v) s
theorem cut_scal {p:List Nat} (hp:∀ r∈p,Scal r) (s:Sp):∀ r∈cutT p s,Scal r:=by
 unfold cutT
 split
 ·exact fun r hr=>hp r (ai hr)
 ·exact hp
theorem low_scal {l:List UInt8} (h:low l):∀ r∈l.map (·.toNat),Scal r:=fun r hr=>by
 obtain ⟨b,hb,rfl⟩:=List.mem_map.1 hr
 have:=h b hb
 unfold Scal;omega
theorem cut_len {p:List Nat} (s:Sp):(enc (cutT p s)).length≤4*p.length:=by
 have:=enc_len_le (cutT p s)
 have h2:(cutT p s).length≤p.length:=by
  unfold cutT
  split
  ·simp;omega
  ·omega
 omega
/-- what the parts of a field are, as letters -/
theorem fd_parts {v:Vl} (ok:VOk v) {s:Sp} (g:Good s):((fdf v s).2=(0,0)∨((fdf v s).2.1≠0))∧
 ((fdf v s).2=(0,0)→(fdf v s).1.1=enc (phf v s)∧(fdf v s).1.2.1=enc (pbf v s)∧(∀ r∈phf v s,Scal r)∧(∀ r∈pbf v s,Scal r)∧(enc (phf v s)).length≤10∧(enc (pbf v s)).length≤200000):=by
 have two:∀ f:Fd,FdOk f→f.2=(0,0)→f.1.1=enc (f.1.1.map (·.toNat))∧f.1.2.1=enc (f.1.2.1.map (·.toNat))∧(∀ r∈f.1.1.map (·.toNat),Scal r)∧(∀ r∈f.1.2.1.map (·.toNat),Scal r)∧(enc (f.1.1.map (·.toNat))).length≤10∧(enc (f.1.2.1.map (·.toNat))).length≤200000:=fun f hf h0=>by
  obtain ⟨⟨h1,h2⟩,⟨h3,h4⟩,_⟩:=hf h0
  have e1:=enc_bytes h1
  have e2:=enc_bytes h3
  exact ⟨e1.symm,e2.symm,low_scal h1,low_scal h3,by rw[e1];exact h2,by rw[e2];omega⟩
 have codes:∀ f:Fd,(∃ c,c≠0∧f=noF c)∨f.2=(0,0)→(f.2=(0,0)∨f.2.1≠0):=fun f h=>by
  rcases h with ⟨c,hc,rfl⟩ | h
  ·exact .inr hc
  ·exact .inl h
 have cfrc:∀ (neg:Bool) (a b:Int),(∃ c,c≠0∧frcF neg a b s=noF c)∨(frcF neg a b s).2=(0,0):=fun neg a b=>by
  unfold frcF
  split
  ·exact .inl ⟨6,ddc,rfl⟩
  ·exact .inr rfl
 rcases ok with ⟨h,hr⟩ | ⟨h,hI⟩ | ⟨h,hR,hne⟩ | ⟨h,hT⟩
 ·have e1:fdf v s=txtF (tf v.2.2.2.2) s:=by unfold fdf vtxt;rw[if_neg om,if_neg om,if_pos h]
  have e2:pbf v s=cutT (tf v.2.2.2.2) s:=by unfold pbf vtxt;rw[if_neg om,if_pos h]
  unfold phf
  rw[e1,e2]
  have ht:∀ r∈tf v.2.2.2.2,Scal r:=by
   unfold tf
   split<;>(intro r hr;simp at hr;unfold Scal;omega)
  have hl:(tf v.2.2.2.2).length≤5:=by unfold tf;split<;>simp
  have hc:=cut_len (p:=tf v.2.2.2.2) s
  unfold txtF
  split
  ·exact ⟨.inr (by show (13:Int)≠0;decide),fun h=>by simp[noF]at h⟩
  ·split
   ·exact ⟨.inr (by show (6:Int)≠0;decide),fun h=>by simp[noF]at h⟩
   ·exact ⟨.inl rfl,fun _=>⟨rfl,rfl,fun r hr=>by simp at hr,cut_scal ht s,by simp[enc],om⟩⟩
 ·have e1:fdf v s=numF v.2.1.1 (val v.2.1.2) s:=by unfold fdf;rw[if_pos h]
  have e2:pbf v s=(fdf v s).1.2.1.map (·.toNat):=by unfold pbf;rw[if_pos (.inl h)]
  unfold phf
  rw[e2,e1]
  refine ⟨codes _ ?_,two _ (num_ok hI.1 g)⟩
  unfold numF
  split
  ·exact .inl ⟨13,ddc,rfl⟩
  ·split
   ·exact cfrc _ _ _
   ·unfold whoF
    split
    ·exact .inl ⟨6,ddc,rfl⟩
    ·exact .inr rfl
 ·have e1:fdf v s=ratF v.2.1.1 (val v.2.1.2) (val v.2.2.1.2) s:=by unfold fdf;rw[if_neg om,if_pos h]
  have e2:pbf v s=(fdf v s).1.2.1.map (·.toNat):=by unfold pbf;rw[if_pos (.inr h)]
  unfold phf
  rw[e2,e1]
  refine ⟨codes _ ?_,two _ (rat_ok hR.1.1 hR.2.1.1 hR.2.2.2.1 g)⟩
  unfold ratF
  split
  ·exact cfrc _ _ _
  ·split
   ·exact .inl ⟨13,ddc,rfl⟩
   ·split
    ·exact .inl ⟨6,ddc,rfl⟩
    ·exact .inr rfl
 ·have e1:fdf v s=txtF (pts v.2.2.2.1) s:=by unfold fdf vtxt;rw[if_neg om,if_neg om,if_neg om]
  have e2:pbf v s=cutT (pts v.2.2.2.1) s:=by unfold pbf vtxt;rw[if_neg om,if_neg om]
  unfold phf
  rw[e1,e2]
  obtain ⟨p1,p2,p3⟩:=pts_spec hT
  have hc:=cut_len (p:=pts v.2.2.2.1) s
  have:=enc_len_ge (pts v.2.2.2.1)
  unfold txtF
  split
  ·exact ⟨.inr (by show (13:Int)≠0;decide),fun h=>by simp[noF]at h⟩
  ·split
   ·exact ⟨.inr (by show (6:Int)≠0;decide),fun h=>by simp[noF]at h⟩
   ·exact ⟨.inl rfl,fun _=>⟨rfl,rfl,fun r hr=>by simp at hr,cut_scal p1 s,by simp[enc],om⟩⟩
noncomputable def fin (v:Vl) (s:Sp) (s':Sp):ByteArray × (Int × Int):=
 if (fdf v s).2.1≠0 then (strOf [],(fdf v s).2) else
 if (enc (padP (phf v s) (pbf v s) (fdf v s).1.2.2 s')).length≤4000 then (strOf (enc (padP (phf v s) (pbf v s) (fdf v s).1.2.2 s')),(0,0)) else (strOf [],(3, -1))
theorem Format_bad {v:Vl} (hv:VHyp v) (ok:¬ VOk v) (t:ByteArray):Tot (fun n=>fmtspec_Format n v t) (· =(strOf [],(5, -1))):=by
 unfold fmtspec_Format
 refine ab (valid_tot hv) fun r hr=>?_
 have:r=false:=by
  cases r with
  | false=>rfl
  | true=>exact absurd (hr.1 rfl) ok
 subst this
 exact aj rfl (ad (at_eq 0 5 (-1)) (aa rfl))
theorem Format_tot {v:Vl} (hv:VHyp v) (ok:VOk v) {q:List Nat} (hq:∀ r∈q,Scal r) (lq:(enc q).length≤40) {s:Sp} (hrd:rd q=(s,(0,0))) (g:Good s):
 Tot (fun n=>fmtspec_Format n v (strOf (enc q))) (· =fin v s s):=by
 obtain ⟨hc,hp⟩:=fd_parts ok g
 unfold fmtspec_Format
 refine ab (valid_tot hv) fun r hr=>?_
 have:r=true:=hr.2 ok
 subst this
 refine af rfl (ab (Parse_tot hq lq) fun r hr=>?_)
 subst hr
 rw[hrd]
 refine af rfl ?_
 refine ab (P:=(· =((fdf v s).2,(strOf (fdf v s).1.1,strOf (fdf v s).1.2.1,(fdf v s).1.2.2)))) ?_ fun j hj=>?_
 ·rcases ok with ⟨h,hr⟩ | ⟨h,hI⟩ | ⟨h,hR,hne⟩ | ⟨h,hT⟩
  ·have e1:fdf v s=txtF (tf v.2.2.2.2) s:=by unfold fdf vtxt;rw[if_neg om,if_neg om,if_pos h]
   rw[e1]
   refine af (by rw[h];rfl) (af (by rw[h];rfl) (aj (by rw[h];rfl) ?_))
   have hx:idx ([(strOf [102,97,108,115,101]),(strOf [116,114,117,101])]:List ByteArray) v.2.2.2.2=some (strOf (enc (tf v.2.2.2.2))):=by
    rcases hr with hr | hr<;>rw[hr]<;>rfl
   refine ad hx (ab (text_tot (p:=tf v.2.2.2.2) ?_ ?_ g) fun r hr=>by subst hr;exact aa rfl)
   ·unfold tf
    split<;>(intro r hr;simp at hr;unfold Scal;omega)
   ·have:=enc_len_le (tf v.2.2.2.2)
    have hl:(tf v.2.2.2.2).length≤5:=by unfold tf;split<;>simp
    omega
  ·have e1:fdf v s=numF v.2.1.1 (val v.2.1.2) s:=by unfold fdf;rw[if_pos h]
   rw[e1]
   refine aj (by rw[h];rfl) (ab (numb_tot (neg:=v.2.1.1) hI.1 g) fun r hr=>by subst hr;exact aa rfl)
  ·have e1:fdf v s=ratF v.2.1.1 (val v.2.1.2) (val v.2.2.1.2) s:=by unfold fdf;rw[if_neg om,if_pos h]
   rw[e1]
   refine af (by rw[h];rfl) (aj (by rw[h];rfl) (ab (ratio_tot (neg:=v.2.1.1) (nb:=v.2.2.1.1) hR.1.1 hR.2.1.1 hR.2.2.2.1 g) fun r hr=>by subst hr;exact aa rfl))
  ·have e1:fdf v s=txtF (pts v.2.2.2.1) s:=by unfold fdf vtxt;rw[if_neg om,if_neg om,if_neg om]
   rw[e1]
   obtain ⟨p1,p2,p3⟩:=pts_spec hT
   refine af (by rw[h];rfl) (af (by rw[h];rfl) (af (by rw[h];rfl) ?_))
   have ht:=text_tot (p:=pts v.2.2.2.1) p1 om g
   rw[← p2]at ht
   exact ab ht fun r hr=>by subst hr;exact aa rfl
 ·subst hj
  unfold fin
  refine ac (fun h=>aa ?_) (fun h=>?_)
  ·have h:(fdf v s).2.1≠0:=by simpa using h
   rw[if_pos h]
  ·have h:(fdf v s).2.1=0:=by simpa using h
   have h0:(fdf v s).2=(0,0):=by
    rcases hc with hc | hc
    ·exact hc
    ·exact absurd h hc
   obtain ⟨x1,x2,x3,x4,x5,x6⟩:=hp h0
   rw[if_neg om]
   have hpad:=padn_tot x3 x4 om om (left:=(fdf v s).1.2.2) g
   rw[← x1,← x2]at hpad
   refine ab hpad fun r hr=>?_
   subst hr
   rw[size_str]
   refine ac (fun h=>aa ?_) (fun h=>?_)
   ·have h:((enc (padP (phf v s) (pbf v s) (fdf v s).1.2.2 s)).length:Int)≤4000:=odt h
    rw[if_pos om]
   ·have h:¬ ((enc (padP (phf v s) (pbf v s) (fdf v s).1.2.2 s)).length:Int)≤4000:=odf h
    rw[if_neg om]
    exact ad (at_eq 0 3 (-1)) (aa rfl)
end Go.Gv.P
namespace Go.Gv.P
open Go Go.Gv Go.Gv.D Go.Gv.R Go.Lib
open Go.Gv.RI (val Dg Nz OkL OkI OkN vb Db IsB noz)
set_option maxRecDepth 100000
/-! Own work: the law FmtspecWidths. -/
theorem ints_take (l:List Nat) (k:Nat):(ints l).take k=ints (l.take k):=by simp[ints,List.map_take]
theorem ints_drop (l:List Nat) (k:Nat):(ints l).drop k=ints (l.drop k):=by simp[ints,List.map_drop]
theorem sub_ints {l:List Nat} {i j:Nat} (h1:i≤j) (h2:j≤l.length):sub (ints l) (i:Int) (j:Int)=some (ints ((l.take j).drop i)):=by
 rw[sub_ok om om (by rw[ints_len];omega),ah,ah,ints_take,ints_drop]
end Go.Gv.P
namespace Go.Gv.P
open Go Go.Gv Go.Gv.D Go.Gv.R Go.Lib
open Go.Gv.RI (val Dg Nz OkL OkI OkN vb Db IsB noz)
set_option maxRecDepth 100000
end Go.Gv.P
