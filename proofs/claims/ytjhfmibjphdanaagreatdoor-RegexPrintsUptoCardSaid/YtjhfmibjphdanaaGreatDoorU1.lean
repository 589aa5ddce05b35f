import Derived.Test.YtjhfmibjphdanaaGreatDoorL1
import Derived.Lib.ValidLaws
import Derived.Lib.ValidAsc
import Derived.Lib.DecodeNEq
import Derived.Lib.MapLaws
set_option linter.all false
open Go.Gv.Tot renaming bind0→aa,ret→ak
open List renaming length_cons→ab,map_cons→ac,map_nil→ad,length_nil→ae,getD_cons_zero→af,getD_cons_succ→ag,cons_append→ai,nil_append→aj
namespace Go.Gv.R
open Go Go.Gv Go.Gv.D Go.Lib
/-! ### words of eight bytes -/
/-! ### what is valid -/
theorem ValidString_tot {s:ByteArray} (hs:s.size≤4611686018427387904):Tot (fun fuel=>utf8_ValidString fuel s) (fun r=>r=validD (bytesOf s)):=by
 unfold utf8_ValidString
 rw[if_pos om]
 exact ak rfl
end Go.Gv.R
namespace Go.Gv.R
open Go Go.Gv Go.Gv.D Go.Lib
end Go.Gv.R
namespace Go.Gv.R
open Go Go.Gv Go.Gv.D Go.Lib
/-! ### scalars, and texts of them -/
def Scal (r:Nat):Prop:=r<55296∨(57343<r∧r≤1114111)
def encR (r:Nat):List UInt8:=encodeRune (r:Int)
def enc (l:List Nat):List UInt8:=l.flatMap encR
theorem encR_pos (r:Nat):1≤(encR r).length∧(encR r).length≤4:=by
 have:=encodeRuneZ_length (r:Int)
 unfold encR encodeRune
 rw[List.length_map];exact this
/-- ENCODED AND DECODED. -/
theorem decode_enc (r:Nat) (h:Scal r) (t:List UInt8):decodeL (encR r++t)=(r,(encR r).length):=by
 rw[decodeL_N]
 unfold encR encodeRune
 have hb:∀ z:Int,0≤z→z<256→(z.toNat.toUInt8).toNat=z.toNat:=fun z h1 h2=>by
  show (UInt8.ofNat z.toNat).toNat=_
  rw[UInt8.toNat_ofNat',Nat.mod_eq_of_lt om]
 unfold Scal at h
 rcases (by omega:r≤127∨(128≤r∧r≤2047)∨(2048≤r∧r≤65535)∨65536≤r) with c | c | c | c
 ·rw[encodeRuneZ_one om om]
  simp only[ac,ad,ai,aj,af,ag,ab,ae]
  rw[hb _ om om]
  unfold decodeN
  rw[if_pos om];simp
 ·rw[encodeRuneZ_two om om]
  simp only[ac,ad,ai,aj,af,ag,ab,ae]
  rw[hb _ om om,hb _ om om]
  unfold decodeN
  rw[if_neg om,if_pos ⟨om,om,om⟩,if_pos om]
  congr 1;omega
 ·rw[encodeRuneZ_three om]
  simp only[ac,ad,ai,aj,af,ag,ab,ae]
  rw[hb _ om om,hb _ om om,hb _ om om]
  unfold decodeN
  rw[if_neg om,if_neg om,if_pos ⟨om,⟨om,om⟩,om,om⟩,if_pos ⟨om,om⟩]
  congr 1;omega
 ·rw[encodeRuneZ_four om om]
  simp only[ac,ad,ai,aj,af,ag,ab,ae]
  rw[hb _ om om,hb _ om om,hb _ om om,hb _ om om]
  unfold decodeN
  rw[if_neg om,if_neg om,if_neg om,if_pos ⟨om,⟨om,om⟩,⟨om,om⟩,om,om⟩,if_pos ⟨om,om⟩]
  congr 1;omega
theorem enc_cons (r:Nat) (l:List Nat):enc (r::l)=encR r++enc l:=by simp[enc]
theorem enc_app (l m:List Nat):enc (l++m)=enc l++enc m:=by simp[enc]
theorem enc_ne {r:Nat} {l:List Nat}:enc (r::l)≠[]:=by
 have:=encR_pos r
 rw[enc_cons]
 intro e
 have:=congrArg List.length e
 rw[List.length_append,ae]at this
 omega
theorem not_bad {r:Nat} (h:Scal r):¬ (r=65533∧(encR r).length=1):=fun ⟨e,h2⟩=>by
 subst e
 have:(encR 65533).length=3:=by kernel_rfl
 omega
theorem valid_enc:∀ (l:List Nat),(∀ r∈l,Scal r)→validD (enc l)=true
 | [],_=>rfl
 | r::l,h=>by
   have hr:=h r (by simp)
   rw[validD_step _ enc_ne,enc_cons,decode_enc r hr,if_neg (not_bad hr)]
   rw[List.drop_left]
   exact valid_enc l fun x hx=>h x (by simp[hx])
end Go.Gv.R
namespace Go.Gv.R
open Go Go.Gv Go.Gv.D Go.Lib
/-! ### the reference's unit -/
def bad (x:Nat × Nat):Prop:=x.1=65533∧x.2=1
instance (x:Nat × Nat):Decidable (bad x):=inferInstanceAs (Decidable (_∧_))
end Go.Gv.R
namespace Go.Gv.R
open Go Go.Gv Go.Gv.D Go.Lib
theorem enc_len_ge (p:List Nat):p.length≤(enc p).length:=by
 induction p with
 | nil=>simp
 | cons r p ih=>
   have:=encR_pos r
   rw[enc_cons,List.length_append,ab];omega
/-! ### a text's runes, as the range statement takes them -/
/-! ### codings -/
def codeR (c:Int) (r:Nat):List UInt8:=
 if c=0 then encR r else if c=1 then [UInt8.ofNat r] else if r<65536 then [UInt8.ofNat (r/256),UInt8.ofNat (r%256)]
 else [UInt8.ofNat (216+(r-65536)/1024/256),UInt8.ofNat ((r-65536)/1024%256),UInt8.ofNat (220+(r-65536)%1024/256),UInt8.ofNat ((r-65536)%1024%256)]
def codeL (c:Int) (p:List Nat):List UInt8:=p.flatMap (codeR c)
theorem codeR_len (c:Int) (r:Nat):(codeR c r).length≤4:=by
 unfold codeR
 have:=encR_pos r
 repeat' split
 all_goals first | omega | (simp only[ab,ae];omega)
theorem codeL_len (c:Int) (p:List Nat):(codeL c p).length≤4*p.length:=by
 induction p with
 | nil=>simp[codeL]
 | cons r p ih=>
   have:=codeR_len c r
   unfold codeL at*
   rw[List.flatMap_cons,List.length_append,ab];omega
theorem codeL_zero (p:List Nat):codeL 0 p=enc p:=by
 have:codeR 0=encR:=by funext r;unfold codeR;rw[if_pos rfl]
 unfold codeL enc
 rw[this]
theorem u8_mod (z:Int):u8 (IntKind.u8.wrap z)=some (UInt8.ofNat (z%256).toNat):=by
 rw[u8_wrap]
 unfold u8
 rw[if_pos om]
theorem u8_of {z:Int} {n:Nat} (h:z=(n:Int)):u8 (IntKind.u8.wrap z)=some (UInt8.ofNat n):=by
 rw[u8_mod]
 congr 1
 apply UInt8.toNat.inj
 rw[UInt8.toNat_ofNat',UInt8.toNat_ofNat']
 omega
end Go.Gv.R
namespace Go.Gv.R
open Go Go.Gv Go.Gv.D Go.Lib
theorem iw {x:Int} {n:Nat} (h:x=(n:Int)) (h':n<4611686018427387904):IntKind.i64.wrap x=(n:Int):=by rw[h,i64_small om om]
theorem enc_len_le (p:List Nat):(enc p).length≤4*p.length:=by rw[← codeL_zero];exact codeL_len 0 p
theorem enc_snoc (p:List Nat) (r:Nat):enc (p++[r])=enc p++encR r:=by rw[enc_app];simp[enc]
theorem toU8 (n:Nat):((n:Int).toNat.toUInt8)=UInt8.ofNat n:=by rw[Int.toNat_natCast]
theorem encR1 {r:Nat} (h:r≤127):encR r=[UInt8.ofNat r]:=by
 unfold encR encodeRune
 rw[encodeRuneZ_one om om]
 simp only[ac,ad,toU8]
theorem encR2 {r:Nat} (h:128≤r) (h':r≤2047):encR r=[UInt8.ofNat (192+r/64),UInt8.ofNat (128+r%64)]:=by
 unfold encR encodeRune
 rw[encodeRuneZ_two om om,show 192+(r:Int)/64=((192+r/64:Nat):Int) by omega,show 128+(r:Int)%64=((128+r%64:Nat):Int) by omega]
 simp only[ac,ad,toU8]
theorem encR3 {r:Nat} (h:2048≤r) (h':r≤65535) (hs:Scal r):encR r=[UInt8.ofNat (224+r/4096),UInt8.ofNat (128+r/64%64),UInt8.ofNat (128+r%64)]:=by
 unfold Scal at hs
 unfold encR encodeRune
 rw[encodeRuneZ_three om,show 224+(r:Int)/4096=((224+r/4096:Nat):Int) by omega,show 128+(r:Int)/64%64=((128+r/64%64:Nat):Int) by omega,show 128+(r:Int)%64=((128+r%64:Nat):Int) by omega]
 simp only[ac,ad,toU8]
theorem encR4 {r:Nat} (h:65536≤r) (h':r≤1114111):encR r=[UInt8.ofNat (240+r/262144),UInt8.ofNat (128+r/4096%64),UInt8.ofNat (128+r/64%64),UInt8.ofNat (128+r%64)]:=by
 unfold encR encodeRune
 rw[encodeRuneZ_four om om,show 240+(r:Int)/262144=((240+r/262144:Nat):Int) by omega,show 128+(r:Int)/4096%64=((128+r/4096%64:Nat):Int) by omega,show 128+(r:Int)/64%64=((128+r/64%64:Nat):Int) by omega,show 128+(r:Int)%64=((128+r%64:Nat):Int) by omega]
 simp only[ac,ad,toU8]
theorem td {a:Nat} (k:Nat) (h:a<4611686018427387904):IntKind.i64.wrap ((a:Int).tdiv (k:Int))=((a/k:Nat):Int):=by
 have:a/k≤a:=Nat.div_le_self ..
 rw[Int.tdiv_eq_ediv_of_nonneg om]
 exact iw (by simp) om
theorem tm (a k:Nat):(a:Int).tmod (k:Int)=((a%k:Nat):Int):=by
 rw[Int.tmod_eq_emod_of_nonneg om];simp
theorem plus (a b:Nat) (h:a+b<4611686018427387904):IntKind.i64.wrap ((a:Int)+(b:Int))=((a+b:Nat):Int):=iw om h
theorem Encoded_tot {p:List Nat} (hp:∀ r∈p,Scal r) (hl:p.length≤100000000):Tot (fun fuel=>ref4_Encoded fuel (ints p)) (fun r=>r=enc p):=by
 unfold ref4_Encoded
 refine Tot.bindq (P:=fun r=>r=enc p) ?_ fun r hr=>ak hr
 refine Tot.loop (fun st=>∃ i:Nat,st.2=(i:Int)∧i≤p.length∧st.1=enc (p.take i)) (fun st=>p.length-st.2.toNat) ⟨0,rfl,om,rfl⟩ fun st ⟨i,e,hi,g⟩=>?_
 obtain ⟨out,q⟩:=st
 simp only at e g
 subst e g
 dsimp only
 rw[ints_len]
 refine Tot.ite (fun h=>?_) (fun h=>?_)
 ·have hq:i<p.length:=by have:((i:Nat):Int)<(p.length:Int):=odt h;omega
  have hr:=hp _ (List.getElem_mem hq)
  have hlen:=enc_len_le (p.take i)
  rw[List.length_take]at hlen
  refine aa (ints_get hq) ?_
  refine Tot.bindq (P:=fun r=>r=enc (p.take (i+1))) ?_ fun r hr=>?_
  ·rw[take_snoc hq,enc_snoc]
   have hsc:=hr
   have hrs:p[i]≤1114111:=by unfold Scal at hr;omega
   clear hr
   generalize p[i]=r at hsc hrs
   generalize enc (p.take i)=A at hlen
   have happ:∀ y:List UInt8,y.length≤4→app A y=some (A++y):=fun y hy=>app_ok om
   refine Tot.ite (fun c=>?_) (fun c=>?_)
   ·have c:r<128:=by have:(r:Int)<128:=odt c;omega
    rw[encR1 om]
    exact aa (u8_of rfl) (aa (happ _ (by simp)) (ak rfl))
   have c:¬ r<128:=by have:¬ (r:Int)<128:=odf c;omega
   refine Tot.ite (fun c2=>?_) (fun c2=>?_)
   ·have c2:r<2048:=by have:(r:Int)<2048:=odt c2;omega
    rw[encR2 om om,show (64:Int)=((64:Nat):Int) from rfl,td 64 om,tm,show (192:Int)=((192:Nat):Int) from rfl,show (128:Int)=((128:Nat):Int) from rfl,plus 192 _ om,plus 128 _ om]
    exact aa (u8_of rfl) (aa (u8_of rfl) (aa (happ _ (by simp)) (ak rfl)))
   have c2:¬ r<2048:=by have:¬ (r:Int)<2048:=odf c2;omega
   refine Tot.ite (fun c3=>?_) (fun c3=>?_)
   ·have c3:r<65536:=by have:(r:Int)<65536:=odt c3;omega
    rw[encR3 om om hsc,show (64:Int)=((64:Nat):Int) from rfl,show (4096:Int)=((4096:Nat):Int) from rfl,td 64 om,td 4096 om,tm,tm,show (224:Int)=((224:Nat):Int) from rfl,show (128:Int)=((128:Nat):Int) from rfl,plus 224 _ om,plus 128 _ om,plus 128 _ om]
    exact aa (u8_of rfl) (aa (u8_of rfl) (aa (u8_of rfl) (aa (happ _ (by simp)) (ak rfl))))
   ·have c3:¬ r<65536:=by have:¬ (r:Int)<65536:=odf c3;omega
    rw[encR4 om om,show (64:Int)=((64:Nat):Int) from rfl,show (4096:Int)=((4096:Nat):Int) from rfl,show (262144:Int)=((262144:Nat):Int) from rfl,td 64 om,td 4096 om,td 262144 om,tm,tm,tm,show (240:Int)=((240:Nat):Int) from rfl,show (128:Int)=((128:Nat):Int) from rfl,plus 240 _ om,plus 128 _ om,plus 128 _ om,plus 128 _ om]
    exact aa (u8_of rfl) (aa (u8_of rfl) (aa (u8_of rfl) (aa (u8_of rfl) (aa (happ _ (by simp)) (ak rfl)))))
  ·subst hr
   refine ak ⟨⟨i+1,?_,hq,rfl⟩,?_⟩
   ·exact iw om om
   ·show p.length-(IntKind.i64.wrap ((i:Int)+1)).toNat<p.length-((i:Nat):Int).toNat
    rw[iw (n:=i+1) om om];omega
 ·have h:i=p.length:=by have:¬ ((i:Nat):Int)<(p.length:Int):=odf h;omega
  subst h
  exact ak (by rw[List.take_length])
theorem String_tot {p:List Nat} (hp:∀ r∈p,Scal r) (hl:p.length≤100000000):Tot (fun fuel=>ref4_String fuel (ints p)) (fun r=>r=strOf (enc p)):=by
 unfold ref4_String
 exact Tot.bindq (Encoded_tot hp hl) fun r hr=>ak (by rw[hr])
end Go.Gv.R
