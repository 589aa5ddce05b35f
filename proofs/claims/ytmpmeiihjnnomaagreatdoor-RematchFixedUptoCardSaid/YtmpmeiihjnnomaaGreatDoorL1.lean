import Derived.Test.YtmpmeiihjnnomaaGreatDoorGt
import Derived.Test.YtmpmeiihjnnomaaGreatDoorD
import Derived.Lib.ValidLaws
import Derived.Lib.ValidAsc
import Derived.Lib.DecodeNEq
import Derived.Lib.MapLaws
set_option linter.all false
open Go.Gv.Tot renaming bind0→aa,ret→ab,bindq→aj,ite→ak,some_bind→ao
open List renaming length_cons→ac,length_nil→ad,map_cons→ae,map_nil→ag,length_append→ai,getD_cons_succ→al,getD_cons_zero→am,cons_append→an,nil_append→ap
open Bool renaming and_eq_true→af
namespace Go.Gv.R
open Go Go.Gv Go.Gv.D
theorem i64_small {x:Int} (h: -4611686018427387904≤x) (h':x≤4611686018427387904):IntKind.i64.wrap x=x:=i64_wrap om om
theorem u8_small {x:Int} (h:0≤x) (h':x<256):IntKind.u8.wrap x=x:=by rw[u8_wrap];omega
theorem idx_nat {α:Type} {xs:List α} {i:Nat} (h:i<xs.length):idx xs (i:Int)=some xs[i]:=idx_ok om om
theorem size_bytes (s:ByteArray):s.size=(bytesOf s).length:=by simp[bytesOf]
theorem bytes_str (l:List UInt8):bytesOf (strOf l)=l:=by simp[bytesOf,strOf]
theorem str_bytes (s:ByteArray):strOf (bytesOf s)=s:=by cases s;simp[bytesOf,strOf]
theorem byte_lt (x:UInt8):x.toNat<256:=x.toNat_lt
theorem byte_all {p:Nat→Bool} (h:(List.range 256).all p=true) (x:UInt8):p x.toNat=true:=
 List.all_eq_true.1 h _ (List.mem_range.2 (byte_lt x))
theorem cat_ok {s t:ByteArray} (h:s.size+t.size≤9223372036854775807):cat s t=some (s++t):=by unfold cat;rw[if_pos h]
theorem size_str (l:List UInt8):(strOf l).size=l.length:=by rw[size_bytes,bytes_str]
theorem cat_str {l m:List UInt8} (h:l.length+m.length≤9223372036854775807):cat (strOf l) (strOf m)=some (strOf (l++m)):=by
 rw[cat_ok (by rw[size_str,size_str];exact h)]
 congr 1
theorem ssub_str {l:List UInt8} {i j:Nat} (h:i≤j) (h':j≤l.length):ssub (strOf l) (i:Int) (j:Int)=some (strOf ((l.take j).drop i)):=by
 unfold ssub
 rw[if_pos ⟨om,om,by rw[size_str];omega⟩]
 congr 1
 apply ByteArray.ext
 simp[strOf,List.drop_take]
/-! ### digits -/
def hexT:List UInt8:=[48,49,50,51,52,53,54,55,56,57,97,98,99,100,101,102]
def hx (n:Nat):UInt8:=hexT.getD n 0
theorem take_snoc {α:Type} {l:List α} {i:Nat} (h:i<l.length):l.take (i+1)=l.take i++[l[i]]:=by
 rw[List.take_add_one,List.getElem?_eq_getElem h];rfl
end Go.Gv.R
namespace Go.Gv.R
open Go Go.Gv Go.Gv.D
/-! ### four letters for three bytes -/
end Go.Gv.R
namespace Go.Gv.R
open Go Go.Gv Go.Gv.D
/-! ### the reference's letters -/
def ints (l:List Nat):List Int:=l.map fun (n:Nat)=>(n:Int)
end Go.Gv.R
namespace Go.Gv.R
open Go Go.Gv Go.Gv.D
theorem ints_len (l:List Nat):(ints l).length=l.length:=by simp[ints]
theorem ints_app (l m:List Nat):ints (l++m)=ints l++ints m:=by simp[ints]
theorem ints_get {l:List Nat} {i:Nat} (h:i<l.length):idx (ints l) (i:Int)=some ((l[i]:Nat):Int):=by
 rw[idx_nat (by rw[ints_len];exact h)]
 simp[ints]
end Go.Gv.R
namespace Go.Gv.R
open Go Go.Gv Go.Gv.D
/-! ### digits are read -/
def hv (x:UInt8):Int:=nIdxB [48,49,50,51,52,53,54,55,56,57,97,98,99,100,101,102] (x.toNat:Int)
def hn (x:UInt8):Nat:=(hv x).toNat
theorem get_mid {α:Type} (p:List α) (x:α) (q:List α) {m:Nat} (h:m=p.length):idx (p++x::q) (m:Int)=some x:=by
 subst h
 rw[idx_nat (by simp)]
 simp
/-! ### the law's own way -/
end Go.Gv.R
namespace Go.Gv.R
open Go Go.Gv Go.Gv.D
/-! ### letters are read -/
end Go.Gv.R
namespace Go.Gv.R
open Go Go.Gv Go.Gv.D
end Go.Gv.R
namespace Go.Gv.R
open Go Go.Gv Go.Gv.D
end Go.Gv.R
namespace Go.Gv.R
open Go Go.Gv Go.Gv.D Go.Lib
/-! ### words of eight bytes -/
/-! ### what is valid -/
theorem get_getD (t:ByteArray) (i:Nat):t.get! i=(bytesOf t).getD i 0:=by
 show t.data[i]! =t.data.toList.getD i 0
 rw[List.getD_eq_getElem?_getD,Array.getElem?_toList]
 by_cases h:i<t.data.size
 ·rw[getElem!_pos t.data i h,Array.getElem?_eq_getElem h];rfl
 ·rw[getElem!_neg t.data i h,Array.getElem?_eq_none om];rfl
theorem ValidString_tot {s:ByteArray} (hs:s.size≤4611686018427387904):Tot (fun fuel=>utf8_ValidString fuel s) (fun r=>r=validD (bytesOf s)):=by
 unfold utf8_ValidString
 rw[if_pos om]
 exact ab rfl
end Go.Gv.R
namespace Go.Gv.R
open Go Go.Gv Go.Gv.D Go.Lib
theorem getD_idx {l:List UInt8} {i:Nat} (h:i<l.length):idx l (i:Int)=some (l.getD i 0):=by
 rw[idx_nat h];simp[h]
end Go.Gv.R
namespace Go.Gv.R
open Go Go.Gv Go.Gv.D Go.Lib
/-! ### scalars, and texts of them -/
def Scal (r:Nat):Prop:=r<55296∨(57343<r∧r≤1114111)
def encR (r:Nat):List UInt8:=encodeRune (r:Int)
def enc (l:List Nat):List UInt8:=l.flatMap encR
theorem encR_pos (r:Nat):1≤(encR r).length∧(encR r).length≤4:=by
 have:=encodeRuneZ_length (r:Int)
 unfold encR encodeRune
 rw[List.length_map];exact this
/-- ENCODED AND DECODED. -/
theorem decode_enc (r:Nat) (h:Scal r) (t:List UInt8):decodeL (encR r++t)=(r,(encR r).length):=by
 rw[decodeL_N]
 unfold encR encodeRune
 have hb:∀ z:Int,0≤z→z<256→(z.toNat.toUInt8).toNat=z.toNat:=fun z h1 h2=>by
  show (UInt8.ofNat z.toNat).toNat=_
  rw[UInt8.toNat_ofNat',Nat.mod_eq_of_lt om]
 unfold Scal at h
 rcases (by omega:r≤127∨(128≤r∧r≤2047)∨(2048≤r∧r≤65535)∨65536≤r) with c | c | c | c
 ·rw[encodeRuneZ_one om om]
  simp only[ae,ag,an,ap,am,al,ac,ad]
  rw[hb _ om om]
  unfold decodeN
  rw[if_pos om];simp
 ·rw[encodeRuneZ_two om om]
  simp only[ae,ag,an,ap,am,al,ac,ad]
  rw[hb _ om om,hb _ om om]
  unfold decodeN
  rw[if_neg om,if_pos ⟨om,om,om⟩,if_pos om]
  congr 1;omega
 ·rw[encodeRuneZ_three om]
  simp only[ae,ag,an,ap,am,al,ac,ad]
  rw[hb _ om om,hb _ om om,hb _ om om]
  unfold decodeN
  rw[if_neg om,if_neg om,if_pos ⟨om,⟨om,om⟩,om,om⟩,if_pos ⟨om,om⟩]
  congr 1;omega
 ·rw[encodeRuneZ_four om om]
  simp only[ae,ag,an,ap,am,al,ac,ad]
  rw[hb _ om om,hb _ om om,hb _ om om,hb _ om om]
  unfold decodeN
  rw[if_neg om,if_neg om,if_neg om,if_pos ⟨om,⟨om,om⟩,⟨om,om⟩,om,om⟩,if_pos ⟨om,om⟩]
  congr 1;omega
theorem enc_cons (r:Nat) (l:List Nat):enc (r::l)=encR r++enc l:=by simp[enc]
theorem enc_app (l m:List Nat):enc (l++m)=enc l++enc m:=by simp[enc]
theorem enc_ne {r:Nat} {l:List Nat}:enc (r::l)≠[]:=by
 have:=encR_pos r
 rw[enc_cons]
 intro e
 have:=congrArg List.length e
 rw[ai,ad]at this
 omega
theorem not_bad {r:Nat} (h:Scal r):¬ (r=65533∧(encR r).length=1):=fun ⟨e,h2⟩=>by
 subst e
 have:(encR 65533).length=3:=by kernel_rfl
 omega
theorem valid_enc:∀ (l:List Nat),(∀ r∈l,Scal r)→validD (enc l)=true
 | [],_=>rfl
 | r::l,h=>by
   have hr:=h r (by simp)
   rw[validD_step _ enc_ne,enc_cons,decode_enc r hr,if_neg (not_bad hr)]
   rw[List.drop_left]
   exact valid_enc l fun x hx=>h x (by simp[hx])
theorem decode_scal {l:List UInt8} (hne:l≠[]) (hv:¬ ((decodeL l).1=65533∧(decodeL l).2=1)):Scal (decodeL l).1:=by
 rw[decodeL_N]at*
 have k0:=byte_lt (l.getD 0 0)
 have k1:=byte_lt (l.getD 1 0)
 unfold Scal
 rcases decodeN_shape l.length (l.getD 0 0).toNat (l.getD 1 0).toNat (l.getD 2 0).toNat (l.getD 3 0).toNat with ⟨c,e⟩ | ⟨c1,c2,c3,cv,e⟩ | ⟨c1,c2,c3,c4,cv,cs,e⟩ | ⟨c1,c2,c3,c4,c5,cv,cw,e⟩ | e
 ·rw[e];dsimp only;omega
 ·rw[e];dsimp only;omega
 ·rw[e];dsimp only;omega
 ·rw[e];dsimp only;omega
 ·rw[e]at hv;exact absurd ⟨rfl,rfl⟩ hv
theorem enc_of_valid:∀ (n:Nat) (l:List UInt8),l.length≤n→validD l=true→∃ p,(∀ r∈p,Scal r)∧l=enc p
 | _,[],_,_=>⟨[],by simp,rfl⟩
 | 0,_::_,h,_=>by simp at h
 | n+1,x::t,h,hv=>by
   have hne:x::t≠[]:=by simp
   rw[validD_step _ hne]at hv
   split at hv
   ·cases hv
   ·rename_i hb
    have hw:=decodeL_width (x::t)
    obtain ⟨p,hp,e⟩:=enc_of_valid n ((x::t).drop (decodeL (x::t)).2) (by rw[List.length_drop];simp only[ac]at h ⊢;omega) hv
    refine ⟨(decodeL (x::t)).1::p,?_,?_⟩
    ·intro r hr
     rcases List.mem_cons.1 hr with h' | h'
     ·rw[h'];exact decode_scal hne hb
     ·exact hp r h'
    ·rw[enc_cons,← e,encR,encode_decode _ hne hb,List.take_append_drop]
theorem valid_iff {l:List UInt8} (h:validD l=true):∃ p,(∀ r∈p,Scal r)∧l=enc p:=enc_of_valid _ l (Nat.le_refl _) h
end Go.Gv.R
namespace Go.Gv.R
open Go Go.Gv Go.Gv.D Go.Lib
/-! ### the reference's unit -/
def bad (x:Nat × Nat):Prop:=x.1=65533∧x.2=1
instance (x:Nat × Nat):Decidable (bad x):=inferInstanceAs (Decidable (_∧_))
def U (l:List UInt8):Int × Int:=if bad (decodeL l) then (0,0) else (((decodeL l).1:Int),((decodeL l).2:Int))
theorem behind_tot {s:List UInt8} {i:Nat} (hs:s.length≤1152921504606846976):Tot (fun fuel=>ref4_behind fuel s (i:Int)) (fun r=>((i<s.length∧(s.getD i 0).toNat/64=2)∧r=(((s.getD i 0).toNat%64:Nat):Int))∨(¬ (i<s.length∧(s.getD i 0).toNat/64=2)∧r= -1)):=by
 unfold ref4_behind
 have hb:=byte_lt (s.getD i 0)
 refine aj (P:=fun r=>r=decide (i<s.length∧(s.getD i 0).toNat/64=2)) ?_ fun r hr=>?_
 ·refine ak (fun h=>?_) (fun h=>?_)
  ·have h:i<s.length:=by have:((i:Nat):Int)<(s.length:Int):=odt h;omega
   refine aa (getD_idx h) (ak (fun h2=>?_) (fun h2=>?_))
   ·have h2:128≤(s.getD i 0).toNat:=by have:((s.getD i 0).toNat:Int)≥128:=odt h2;omega
    refine aa (getD_idx h) (ab (decide_eq_decide.2 ⟨fun g=>⟨h,om⟩,fun g=>by have:=g.2;omega⟩))
   ·have h2:¬ 128≤(s.getD i 0).toNat:=by have:¬ ((s.getD i 0).toNat:Int)≥128:=odf h2;omega
    exact ab (dff om).symm
  ·have h:¬ i<s.length:=by have:¬ ((i:Nat):Int)<(s.length:Int):=odf h;omega
   exact ab (dff om).symm
 ·subst hr
  refine ak (fun h=>?_) (fun h=>?_)
  ·have h:=odt h
   refine aa (getD_idx h.1) (ao (ab (.inl ⟨h,?_⟩)))
   rw[i64_small (x:=((s.getD i 0).toNat:Int)) om om,i64_small om om]
   omega
  ·exact ab (.inr ⟨odf h,rfl⟩)
theorem drop_getD (s:List UInt8) (i k:Nat):(s.drop i).getD k 0=s.getD (i+k) 0:=by
 rw[List.getD_eq_getElem?_getD,List.getD_eq_getElem?_getD,List.getElem?_drop]
theorem unit_tot {s:List UInt8} {i:Nat} (hi:i<s.length) (hs:s.length≤1152921504606846976):Tot (fun fuel=>ref4_unit fuel s (i:Int)) (fun r=>r=U (s.drop i)):=by
 unfold ref4_unit
 have w1:IntKind.i64.wrap ((i:Int)+1)=((i+1:Nat):Int):=by rw[i64_small om om];omega
 have w2:IntKind.i64.wrap ((i:Int)+2)=((i+2:Nat):Int):=by rw[i64_small om om];omega
 have w3:IntKind.i64.wrap ((i:Int)+3)=((i+3:Nat):Int):=by rw[i64_small om om];omega
 rw[w1,w2,w3]
 unfold U
 rw[decodeL_N,drop_getD,drop_getD,drop_getD,drop_getD,List.length_drop,Nat.add_zero]
 have b0:=byte_lt (s.getD i 0)
 have b1:=byte_lt (s.getD (i+1) 0)
 have b2:=byte_lt (s.getD (i+2) 0)
 have b3:=byte_lt (s.getD (i+3) 0)
 refine aa (getD_idx hi) (aj (behind_tot hs) fun r1 h1=>aj (behind_tot hs) fun r2 h2=>aj (behind_tot hs) fun r3 h3=>?_)
 rw[i64_small (x:=((s.getD i 0).toNat:Int)) om om]
 have e1:(i+1<s.length)=(1<s.length-i):=propext ⟨fun h=>by omega,fun h=>by omega⟩
 have e2:(i+2<s.length)=(2<s.length-i):=propext ⟨fun h=>by omega,fun h=>by omega⟩
 have e3:(i+3<s.length)=(3<s.length-i):=propext ⟨fun h=>by omega,fun h=>by omega⟩
 rw[e1]at h1
 rw[e2]at h2
 rw[e3]at h3
 generalize (s.getD i 0).toNat=x0 at*
 generalize (s.getD (i+1) 0).toNat=x1 at*
 generalize (s.getD (i+2) 0).toNat=x2 at*
 generalize (s.getD (i+3) 0).toNat=x3 at*
 have hn:0<s.length-i:=by omega
 generalize s.length-i=n at*
 clear e1 e2 e3 w1 w2 w3 hi hs
 have hr1:r1≥0↔(1<n∧x1/64=2):=by rcases h1 with ⟨a,b⟩ | ⟨a,b⟩<;>constructor<;>intro h<;>first | exact a | omega
 have hr2:r2≥0↔(2<n∧x2/64=2):=by rcases h2 with ⟨a,b⟩ | ⟨a,b⟩<;>constructor<;>intro h<;>first | exact a | omega
 have hr3:r3≥0↔(3<n∧x3/64=2):=by rcases h3 with ⟨a,b⟩ | ⟨a,b⟩<;>constructor<;>intro h<;>first | exact a | omega
 have v1:r1≥0→r1=((x1%64:Nat):Int):=fun h=>by rcases h1 with ⟨a,b⟩ | ⟨a,b⟩<;>omega
 have v2:r2≥0→r2=((x2%64:Nat):Int):=fun h=>by rcases h2 with ⟨a,b⟩ | ⟨a,b⟩<;>omega
 have v3:r3≥0→r3=((x3%64:Nat):Int):=fun h=>by rcases h3 with ⟨a,b⟩ | ⟨a,b⟩<;>omega
 clear h1 h2 h3
 have nb:∀ {v k:Nat},2≤k→¬ bad (v,k):=fun h ⟨_,h'⟩=>by dsimp only at h';omega
 refine ao (ak (fun g=>?_) (fun g=>?_))
 ·have g:x0<128:=by have:(x0:Int)<128:=odt g;omega
  refine ab ?_
  have hd:decodeN n x0 x1 x2 x3=(x0,1):=by
   unfold decodeN
   rw[if_pos g]
  rw[hd,if_neg (fun h=>by have:=h.1;dsimp only at this;omega)];rfl
 have g:¬ x0<128:=by have:¬ (x0:Int)<128:=odf g;omega
 refine ak (fun q=>?_) (fun q=>?_)
 ·simp only[af,decide_eq_true_eq]at q
  obtain ⟨q1,q2,q3⟩:=q
  have a1:=hr1.1 q3
  rw[v1 q3]
  refine ao (ab ?_)
  have hd:decodeN n x0 x1 x2 x3=(x0%32*64+x1%64,2):=by
   unfold decodeN
   rw[if_neg g,if_pos ⟨om,a1⟩,if_pos om]
  rw[hd,if_neg (nb om)]
  rw[i64_small (x:=(x0:Int)-192) om om,i64_small (x:=((x0:Int)-192)*64) om om,i64_small om om]
  refine Prod.ext ?_ rfl
  show ((x0:Int)-192)*64+((x1%64:Nat):Int)=((x0%32*64+x1%64:Nat):Int)
  omega
 have q:¬ (x0≥194∧x0<224∧r1≥0):=fun ⟨h,h',h''⟩=>by
  rw[dtt (by omega:(x0:Int)≥194),dtt (by omega:(x0:Int)<224),dtt h'']at q;cases q
 refine aj (P:=fun r=>(r= .inr (((decodeN n x0 x1 x2 x3).1:Int),((decodeN n x0 x1 x2 x3).2:Int))∧¬ bad (decodeN n x0 x1 x2 x3))∨(r= .inl ()∧bad (decodeN n x0 x1 x2 x3))) ?_ fun r hr=>?_
 ·refine ak (fun p=>?_) (fun p=>?_)
  ·simp only[af,decide_eq_true_eq]at p
   obtain ⟨p1,p2,p3,p4⟩:=p
   have a1:=hr1.1 p3
   have a2:=hr2.1 p4
   rw[v1 p3,v2 p4]
   have hv:IntKind.i64.wrap (IntKind.i64.wrap (IntKind.i64.wrap (IntKind.i64.wrap ((x0:Int)-224)*4096)+IntKind.i64.wrap (((x1%64:Nat):Int)*64))+((x2%64:Nat):Int))=((x0%16*4096+x1%64*64+x2%64:Nat):Int):=by
    rw[i64_small (x:=(x0:Int)-224) om om,i64_small (x:=((x0:Int)-224)*4096) om om,i64_small (x:=((x1%64:Nat):Int)*64) om om,i64_small (x:=((x0:Int)-224)*4096+((x1%64:Nat):Int)*64) om om,i64_small om om]
    omega
   rw[hv]
   refine ao (ak (fun w=>?_) (fun w=>?_))
   ·simp only[af,Bool.or_eq_true,decide_eq_true_eq]at w
    have hd:decodeN n x0 x1 x2 x3=(x0%16*4096+x1%64*64+x2%64,3):=by
     unfold decodeN
     rw[if_neg g,if_neg om,if_pos ⟨om,a1,a2⟩,if_pos ⟨om,om⟩]
    rw[hd]
    exact ab (.inl ⟨rfl,nb om⟩)
   ·have w:¬ (x0%16*4096+x1%64*64+x2%64≥2048∧(x0%16*4096+x1%64*64+x2%64<55296∨x0%16*4096+x1%64*64+x2%64>57343)):=fun ⟨h,h'⟩=>by
     have:(decide (((x0%16*4096+x1%64*64+x2%64:Nat):Int)≥2048)&&(decide (((x0%16*4096+x1%64*64+x2%64:Nat):Int)<55296)||decide (((x0%16*4096+x1%64*64+x2%64:Nat):Int)>57343)))=true:=by
      simp only[af,Bool.or_eq_true,decide_eq_true_eq];omega
     rw[this]at w;cases w
    have hd:decodeN n x0 x1 x2 x3=(65533,1):=by
     unfold decodeN
     rw[if_neg g,if_neg om,if_pos ⟨om,a1,a2⟩,if_neg om]
    rw[hd]
    exact ab (.inr ⟨rfl,rfl,rfl⟩)
  ·have p:¬ (x0≥224∧x0<240∧r1≥0∧r2≥0):=fun ⟨h,h',h'',h3⟩=>by
    rw[dtt (by omega:(x0:Int)≥224),dtt (by omega:(x0:Int)<240),dtt h'',dtt h3]at p;cases p
   refine ak (fun o=>?_) (fun o=>?_)
   ·simp only[af,decide_eq_true_eq]at o
    obtain ⟨p1,p2,p3,p4,p5⟩:=o
    have a1:=hr1.1 p3
    have a2:=hr2.1 p4
    have a3:=hr3.1 p5
    rw[v1 p3,v2 p4,v3 p5]
    have hv:IntKind.i64.wrap (IntKind.i64.wrap (IntKind.i64.wrap (IntKind.i64.wrap (IntKind.i64.wrap ((x0:Int)-240)*262144)+IntKind.i64.wrap (((x1%64:Nat):Int)*4096))+IntKind.i64.wrap (((x2%64:Nat):Int)*64))+((x3%64:Nat):Int))=((x0%8*262144+x1%64*4096+x2%64*64+x3%64:Nat):Int):=by
     rw[i64_small (x:=(x0:Int)-240) om om,i64_small (x:=((x0:Int)-240)*262144) om om,i64_small (x:=((x1%64:Nat):Int)*4096) om om,i64_small (x:=((x2%64:Nat):Int)*64) om om,i64_small (x:=((x0:Int)-240)*262144+((x1%64:Nat):Int)*4096) om om,i64_small (x:=((x0:Int)-240)*262144+((x1%64:Nat):Int)*4096+((x2%64:Nat):Int)*64) om om,i64_small om om]
     omega
    rw[hv]
    refine ao (ak (fun w=>?_) (fun w=>?_))
    ·simp only[af,decide_eq_true_eq]at w
     have hd:decodeN n x0 x1 x2 x3=(x0%8*262144+x1%64*4096+x2%64*64+x3%64,4):=by
      unfold decodeN
      rw[if_neg g,if_neg om,if_neg om,if_pos ⟨om,a1,a2,a3⟩,if_pos ⟨om,om⟩]
     rw[hd]
     exact ab (.inl ⟨rfl,nb om⟩)
    ·have w:¬ (x0%8*262144+x1%64*4096+x2%64*64+x3%64≥65536∧x0%8*262144+x1%64*4096+x2%64*64+x3%64≤1114111):=fun ⟨h,h'⟩=>by
      rw[dtt (by omega:((x0%8*262144+x1%64*4096+x2%64*64+x3%64:Nat):Int)≥65536),dtt (by omega:((x0%8*262144+x1%64*4096+x2%64*64+x3%64:Nat):Int)≤1114111)]at w;cases w
     have hd:decodeN n x0 x1 x2 x3=(65533,1):=by
      unfold decodeN
      rw[if_neg g,if_neg om,if_neg om,if_pos ⟨om,a1,a2,a3⟩,if_neg om]
     rw[hd]
     exact ab (.inr ⟨rfl,rfl,rfl⟩)
   ·have o:¬ (x0≥240∧x0<245∧r1≥0∧r2≥0∧r3≥0):=fun ⟨h,h',h'',h3,h4⟩=>by
     rw[dtt (by omega:(x0:Int)≥240),dtt (by omega:(x0:Int)<245),dtt h'',dtt h3,dtt h4]at o;cases o
    have hd:decodeN n x0 x1 x2 x3=(65533,1):=by
     rw[hr1]at q
     rw[hr1,hr2]at p
     rw[hr1,hr2,hr3]at o
     unfold decodeN
     repeat' split
     all_goals first | rfl | (exfalso;omega)
    rw[hd]
    exact ab (.inr ⟨rfl,rfl,rfl⟩)
 ·rcases hr with ⟨e,h⟩ | ⟨e,h⟩
  ·subst e
   rw[if_neg h]
   exact Tot.contr rfl
  ·subst e
   rw[if_pos h]
   exact Tot.contl (ab rfl)
end Go.Gv.R
namespace Go.Gv.R
open Go Go.Gv Go.Gv.D Go.Lib
theorem enc_inj:∀ {p q:List Nat},(∀ r∈p,Scal r)→(∀ r∈q,Scal r)→enc p=enc q→p=q
 | [],[],_,_,_=>rfl
 | [],r::q,_,_,e=>absurd e.symm enc_ne
 | r::p,[],_,_,e=>absurd e enc_ne
 | r::p,r'::q,hp,hq,e=>by
   have h1:=decode_enc r (hp r (by simp)) (enc p)
   have h2:=decode_enc r' (hq r' (by simp)) (enc q)
   rw[← enc_cons]at h1 h2
   rw[e,h2]at h1
   have e1:=(Prod.mk.inj h1).1
   subst e1
   rw[enc_cons,enc_cons]at e
   rw[enc_inj (fun x hx=>hp x (by simp[hx])) (fun x hx=>hq x (by simp[hx])) (List.append_cancel_left e)]
theorem enc_len_ge (p:List Nat):p.length≤(enc p).length:=by
 induction p with
 | nil=>simp
 | cons r p ih=>
   have:=encR_pos r
   rw[enc_cons,ai,ac];omega
theorem Points_tot {s_0:ByteArray} (hs:s_0.size≤1048576):Tot (fun fuel=>ref4_Points fuel s_0) (fun r=>(validD (bytesOf s_0)=false∧r=([],false))∨∃ p,(∀ r∈p,Scal r)∧bytesOf s_0=enc p∧r=(ints p,true)):=by
 unfold ref4_Points
 have hsz:=size_bytes s_0
 rw[hsz]at hs ⊢
 generalize bytesOf s_0=L at hs ⊢
 refine aj (P:=fun r=>(validD L=false∧r= .inr ([],false))∨∃ p,(∀ r∈p,Scal r)∧L=enc p∧r= .inl (ints p)) ?_ fun r hr=>?_
 ·refine Tot.loop (fun st=>∃ p t,(∀ r∈p,Scal r)∧L=enc p++t∧validD t=validD L∧st.2=((enc p).length:Int)∧st.1=ints p) (fun st=>L.length-st.2.toNat) ⟨[],L,by simp,rfl,rfl,rfl,rfl⟩ fun st ⟨p,t,hp,hL,hv,e,g⟩=>?_
  obtain ⟨out,a⟩:=st
  simp only at e g
  subst e g
  dsimp only
  have hlen:L.length=(enc p).length+t.length:=by rw[hL,ai]
  refine ak (fun h=>?_) (fun h=>?_)
  ·have h:0<t.length:=by have:(((enc p).length:Nat):Int)<(L.length:Int):=odt h;omega
   have hne:t≠[]:=List.length_pos_iff.1 h
   refine aj (unit_tot om om) fun r hr=>?_
   have hd:L.drop (enc p).length=t:=by rw[hL,List.drop_left]
   rw[hd]at hr
   have hw:=decodeL_width t
   have hle:=decodeL_le t hne
   have hvt:=validD_step t hne
   by_cases hb:bad (decodeL t)
   ·have hu:r=(0,0):=by rw[hr];unfold U;rw[if_pos hb]
    subst hu
    rw[if_pos (show (decodeL t).1=65533∧(decodeL t).2=1 from hb)]at hvt
    exact Tot.it rfl (ab (.inl ⟨by rw[← hv,hvt],rfl⟩))
   ·have hu:r=(((decodeL t).1:Int),((decodeL t).2:Int)):=by rw[hr];unfold U;rw[if_neg hb]
    subst hu
    rw[if_neg (show ¬ ((decodeL t).1=65533∧(decodeL t).2=1) from hb)]at hvt
    refine Tot.if_ (beq_eq_false_iff_ne.2 (by dsimp only;omega)) ?_
    have hpl:=enc_len_ge p
    refine aa (app_ok (by rw[ints_len];simp only[ac,ad];omega)) (ab ?_)
    have hsc:=decode_scal hne hb
    have htake:encR (decodeL t).1=t.take (decodeL t).2:=encode_decode t hne hb
    have hw2:IntKind.i64.wrap (((enc p).length:Int)+((decodeL t).2:Int))=(((enc (p++[(decodeL t).1])).length:Nat):Int):=by
     rw[i64_small om om,enc_app,ai,show enc [(decodeL t).1]=encR (decodeL t).1 by simp[enc],htake,List.length_take]
     omega
    refine ⟨⟨p++[(decodeL t).1],t.drop (decodeL t).2,?_,?_,by rw[← hvt,hv],hw2,?_⟩,?_⟩
    ·intro x hx
     rcases List.mem_append.1 hx with h' | h'
     ·exact hp x h'
     ·rw[List.mem_singleton.1 h'];exact hsc
    ·rw[enc_app,show enc [(decodeL t).1]=encR (decodeL t).1 by simp[enc],htake,List.append_assoc,List.take_append_drop,hL]
    ·exact (ints_app _ [_]).symm
    ·show L.length-(IntKind.i64.wrap (((enc p).length:Int)+((decodeL t).2:Int))).toNat<L.length-(((enc p).length:Nat):Int).toNat
     rw[i64_small om om];omega
  ·have h:t=[]:=List.length_eq_zero_iff.1 (by have:¬ (((enc p).length:Nat):Int)<(L.length:Int):=odf h;omega)
   subst h
   exact ab (.inr ⟨p,hp,by rw[hL,List.append_nil],rfl⟩)
 ·rcases hr with ⟨h,e⟩ | ⟨p,hp,h,e⟩
  ·subst e;exact Tot.contr (.inl ⟨h,rfl⟩)
  ·subst e;exact Tot.contl (ab (.inr ⟨p,hp,h,rfl⟩))
/-! ### a text's runes, as the range statement takes them -/
theorem decode_drop (s:ByteArray) (i:Nat):Utf8.decode s i=decodeL ((bytesOf s).drop i):=by
 rw[decode_at,decodeL_N,drop_getD,drop_getD,drop_getD,drop_getD,List.length_drop,get_getD,get_getD,get_getD,get_getD,size_bytes]
 simp only[Nat.add_zero]
theorem rune_at {s:ByteArray} {p t:List Nat} {r:Nat} (hr:Scal r) (h:bytesOf s=enc (p++r::t)):runeI s (enc p).length=(r:Int)∧runeN s (enc p).length=(encR r).length:=by
 unfold runeI runeN
 rw[decode_drop,h,enc_app,List.drop_left,enc_cons,decode_enc r hr]
 exact ⟨rfl,rfl⟩
/-! ### codings -/
def codeR (c:Int) (r:Nat):List UInt8:=
 if c=0 then encR r else if c=1 then [UInt8.ofNat r] else if r<65536 then [UInt8.ofNat (r/256),UInt8.ofNat (r%256)]
 else [UInt8.ofNat (216+(r-65536)/1024/256),UInt8.ofNat ((r-65536)/1024%256),UInt8.ofNat (220+(r-65536)%1024/256),UInt8.ofNat ((r-65536)%1024%256)]
def codeL (c:Int) (p:List Nat):List UInt8:=p.flatMap (codeR c)
theorem codeR_len (c:Int) (r:Nat):(codeR c r).length≤4:=by
 unfold codeR
 have:=encR_pos r
 repeat' split
 all_goals first | omega | (simp only[ac,ad];omega)
theorem codeL_len (c:Int) (p:List Nat):(codeL c p).length≤4*p.length:=by
 induction p with
 | nil=>simp[codeL]
 | cons r p ih=>
   have:=codeR_len c r
   unfold codeL at*
   rw[List.flatMap_cons,ai,ac];omega
theorem codeL_zero (p:List Nat):codeL 0 p=enc p:=by
 have:codeR 0=encR:=by funext r;unfold codeR;rw[if_pos rfl]
 unfold codeL enc
 rw[this]
theorem u8_mod (z:Int):u8 (IntKind.u8.wrap z)=some (UInt8.ofNat (z%256).toNat):=by
 rw[u8_wrap]
 unfold u8
 rw[if_pos om]
theorem u8_of {z:Int} {n:Nat} (h:z=(n:Int)):u8 (IntKind.u8.wrap z)=some (UInt8.ofNat n):=by
 rw[u8_mod]
 congr 1
 apply UInt8.toNat.inj
 rw[UInt8.toNat_ofNat',UInt8.toNat_ofNat']
 omega
end Go.Gv.R
namespace Go.Gv.R
open Go Go.Gv Go.Gv.D Go.Lib
theorem iw {x:Int} {n:Nat} (h:x=(n:Int)) (h':n<4611686018427387904):IntKind.i64.wrap x=(n:Int):=by rw[h,i64_small om om]
theorem enc_len_le (p:List Nat):(enc p).length≤4*p.length:=by rw[← codeL_zero];exact codeL_len 0 p
theorem enc_snoc (p:List Nat) (r:Nat):enc (p++[r])=enc p++encR r:=by rw[enc_app];simp[enc]
theorem toU8 (n:Nat):((n:Int).toNat.toUInt8)=UInt8.ofNat n:=by rw[Int.toNat_natCast]
theorem encR1 {r:Nat} (h:r≤127):encR r=[UInt8.ofNat r]:=by
 unfold encR encodeRune
 rw[encodeRuneZ_one om om]
 simp only[ae,ag,toU8]
theorem encR2 {r:Nat} (h:128≤r) (h':r≤2047):encR r=[UInt8.ofNat (192+r/64),UInt8.ofNat (128+r%64)]:=by
 unfold encR encodeRune
 rw[encodeRuneZ_two om om,show 192+(r:Int)/64=((192+r/64:Nat):Int) by omega,show 128+(r:Int)%64=((128+r%64:Nat):Int) by omega]
 simp only[ae,ag,toU8]
theorem encR3 {r:Nat} (h:2048≤r) (h':r≤65535) (hs:Scal r):encR r=[UInt8.ofNat (224+r/4096),UInt8.ofNat (128+r/64%64),UInt8.ofNat (128+r%64)]:=by
 unfold Scal at hs
 unfold encR encodeRune
 rw[encodeRuneZ_three om,show 224+(r:Int)/4096=((224+r/4096:Nat):Int) by omega,show 128+(r:Int)/64%64=((128+r/64%64:Nat):Int) by omega,show 128+(r:Int)%64=((128+r%64:Nat):Int) by omega]
 simp only[ae,ag,toU8]
theorem encR4 {r:Nat} (h:65536≤r) (h':r≤1114111):encR r=[UInt8.ofNat (240+r/262144),UInt8.ofNat (128+r/4096%64),UInt8.ofNat (128+r/64%64),UInt8.ofNat (128+r%64)]:=by
 unfold encR encodeRune
 rw[encodeRuneZ_four om om,show 240+(r:Int)/262144=((240+r/262144:Nat):Int) by omega,show 128+(r:Int)/4096%64=((128+r/4096%64:Nat):Int) by omega,show 128+(r:Int)/64%64=((128+r/64%64:Nat):Int) by omega,show 128+(r:Int)%64=((128+r%64:Nat):Int) by omega]
 simp only[ae,ag,toU8]
theorem td {a:Nat} (k:Nat) (h:a<4611686018427387904):IntKind.i64.wrap ((a:Int).tdiv (k:Int))=((a/k:Nat):Int):=by
 have:a/k≤a:=Nat.div_le_self ..
 rw[Int.tdiv_eq_ediv_of_nonneg om]
 exact iw (by simp) om
theorem tm (a k:Nat):(a:Int).tmod (k:Int)=((a%k:Nat):Int):=by
 rw[Int.tmod_eq_emod_of_nonneg om];simp
theorem plus (a b:Nat) (h:a+b<4611686018427387904):IntKind.i64.wrap ((a:Int)+(b:Int))=((a+b:Nat):Int):=iw om h
theorem Encoded_tot {p:List Nat} (hp:∀ r∈p,Scal r) (hl:p.length≤1000000000):Tot (fun fuel=>ref4_Encoded fuel (ints p)) (fun r=>r=enc p):=by
 unfold ref4_Encoded
 refine aj (P:=fun r=>r=enc p) ?_ fun r hr=>ab hr
 refine Tot.loop (fun st=>∃ i:Nat,st.2=(i:Int)∧i≤p.length∧st.1=enc (p.take i)) (fun st=>p.length-st.2.toNat) ⟨0,rfl,om,rfl⟩ fun st ⟨i,e,hi,g⟩=>?_
 obtain ⟨out,q⟩:=st
 simp only at e g
 subst e g
 dsimp only
 rw[ints_len]
 refine ak (fun h=>?_) (fun h=>?_)
 ·have hq:i<p.length:=by have:((i:Nat):Int)<(p.length:Int):=odt h;omega
  have hr:=hp _ (List.getElem_mem hq)
  have hlen:=enc_len_le (p.take i)
  rw[List.length_take]at hlen
  refine aa (ints_get hq) ?_
  refine aj (P:=fun r=>r=enc (p.take (i+1))) ?_ fun r hr=>?_
  ·rw[take_snoc hq,enc_snoc]
   have hsc:=hr
   have hrs:p[i]≤1114111:=by unfold Scal at hr;omega
   clear hr
   generalize p[i]=r at hsc hrs
   generalize enc (p.take i)=A at hlen
   have happ:∀ y:List UInt8,y.length≤4→app A y=some (A++y):=fun y hy=>app_ok om
   refine ak (fun c=>?_) (fun c=>?_)
   ·have c:r<128:=by have:(r:Int)<128:=odt c;omega
    rw[encR1 om]
    exact aa (u8_of rfl) (aa (happ _ (by simp)) (ab rfl))
   have c:¬ r<128:=by have:¬ (r:Int)<128:=odf c;omega
   refine ak (fun c2=>?_) (fun c2=>?_)
   ·have c2:r<2048:=by have:(r:Int)<2048:=odt c2;omega
    rw[encR2 om om,show (64:Int)=((64:Nat):Int) from rfl,td 64 om,tm,show (192:Int)=((192:Nat):Int) from rfl,show (128:Int)=((128:Nat):Int) from rfl,plus 192 _ om,plus 128 _ om]
    exact aa (u8_of rfl) (aa (u8_of rfl) (aa (happ _ (by simp)) (ab rfl)))
   have c2:¬ r<2048:=by have:¬ (r:Int)<2048:=odf c2;omega
   refine ak (fun c3=>?_) (fun c3=>?_)
   ·have c3:r<65536:=by have:(r:Int)<65536:=odt c3;omega
    rw[encR3 om om hsc,show (64:Int)=((64:Nat):Int) from rfl,show (4096:Int)=((4096:Nat):Int) from rfl,td 64 om,td 4096 om,tm,tm,show (224:Int)=((224:Nat):Int) from rfl,show (128:Int)=((128:Nat):Int) from rfl,plus 224 _ om,plus 128 _ om,plus 128 _ om]
    exact aa (u8_of rfl) (aa (u8_of rfl) (aa (u8_of rfl) (aa (happ _ (by simp)) (ab rfl))))
   ·have c3:¬ r<65536:=by have:¬ (r:Int)<65536:=odf c3;omega
    rw[encR4 om om,show (64:Int)=((64:Nat):Int) from rfl,show (4096:Int)=((4096:Nat):Int) from rfl,show (262144:Int)=((262144:Nat):Int) from rfl,td 64 om,td 4096 om,td 262144 om,tm,tm,tm,show (240:Int)=((240:Nat):Int) from rfl,show (128:Int)=((128:Nat):Int) from rfl,plus 240 _ om,plus 128 _ om,plus 128 _ om,plus 128 _ om]
    exact aa (u8_of rfl) (aa (u8_of rfl) (aa (u8_of rfl) (aa (u8_of rfl) (aa (happ _ (by simp)) (ab rfl)))))
  ·subst hr
   refine ab ⟨⟨i+1,?_,hq,rfl⟩,?_⟩
   ·exact iw om om
   ·show p.length-(IntKind.i64.wrap ((i:Int)+1)).toNat<p.length-((i:Nat):Int).toNat
    rw[iw (n:=i+1) om om];omega
 ·have h:i=p.length:=by have:¬ ((i:Nat):Int)<(p.length:Int):=odf h;omega
  subst h
  exact ab (by rw[List.take_length])
theorem String_tot {p:List Nat} (hp:∀ r∈p,Scal r) (hl:p.length≤1000000000):Tot (fun fuel=>ref4_String fuel (ints p)) (fun r=>r=strOf (enc p)):=by
 unfold ref4_String
 exact aj (Encoded_tot hp hl) fun r hr=>ab (by rw[hr])
end Go.Gv.R
namespace Go.Gv.P
open Go Go.Gv Go.Gv.D Go.Gv.R
set_option maxRecDepth 100000
/-! ### numerals, codes -/
def valN (acc:Nat):List UInt8→Nat
 | []=>acc
 | c::r=>valN (10*acc+(c.toNat-48)) r
end Go.Gv.P
namespace Go.Gv.R
open Go Go.Gv Go.Gv.D Go.Gv.P Go.Lib
set_option maxRecDepth 100000
end Go.Gv.R
namespace Go.Gv.P
open Go Go.Gv Go.Gv.D Go.Gv.R Go.Lib
set_option maxRecDepth 100000
theorem ofNat_toNat' {c:Nat} (h:c<128):(UInt8.ofNat c).toNat=c:=by simp[UInt8.toNat_ofNat',Nat.mod_eq_of_lt (show c<256 by omega)]
end Go.Gv.P
namespace Go.Gv.P
open Go Go.Gv Go.Gv.D Go.Gv.R Go.Lib
set_option maxRecDepth 100000
def dgN (c:Nat):Bool:=decide (48≤c)&&decide (c≤57)
def twN (l:List Nat):List Nat:=l.takeWhile dgN
def dwN (l:List Nat):List Nat:=l.dropWhile dgN
/-- what reader.number gives -/
def nb:List Nat→Int × List Nat
 | []=>(-1,[])
 | c::r=>if c=48 then (0,r) else if dgN c=true then (((min (valN 0 (enc (twN (c::r)))) 401:Nat):Int),dwN (c::r)) else (-1,c::r)
end Go.Gv.P
