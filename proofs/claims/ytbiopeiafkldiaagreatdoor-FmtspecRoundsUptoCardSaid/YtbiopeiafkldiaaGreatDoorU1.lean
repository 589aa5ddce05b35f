import Derived.Test.YtbiopeiafkldiaaGreatDoorL1
import Derived.Lib.ValidLaws
import Derived.Lib.ValidAsc
import Derived.Lib.DecodeNEq
import Derived.Lib.MapLaws
set_option linter.all false
namespace Go.Gv.R
open List renaming length_cons→aa,map_cons→ab,map_nil→ac,length_nil→ad,getD_cons_zero→ae,getD_cons_succ→af,cons_append→ag,nil_append→ah
open Go Go.Gv Go.Gv.D Go.Lib
/-! ### words of eight bytes -/
theorem u64_small {x:Int} (h:0≤x) (h':x<18446744073709551616):IntKind.u64.wrap x=x:=by rw[u64_wrap];omega
/-! ### what is valid -/
theorem get_getD (t:ByteArray) (i:Nat):t.get! i=(bytesOf t).getD i 0:=by
 show t.data[i]! =t.data.toList.getD i 0
 rw[List.getD_eq_getElem?_getD,Array.getElem?_toList]
 by_cases h:i<t.data.size
 ·rw[getElem!_pos t.data i h,Array.getElem?_eq_getElem h];rfl
 ·rw[getElem!_neg t.data i h,Array.getElem?_eq_none om];rfl
theorem ValidString_tot {s:ByteArray} (hs:s.size≤4611686018427387904):Tot (fun fuel=>utf8_ValidString fuel s) (fun r=>r=validD (bytesOf s)):=by
 unfold utf8_ValidString
 rw[if_pos om]
 exact Tot.ret rfl
end Go.Gv.R
namespace Go.Gv.R
open List renaming length_cons→aa,map_cons→ab,map_nil→ac,length_nil→ad,getD_cons_zero→ae,getD_cons_succ→af,cons_append→ag,nil_append→ah
open Go Go.Gv Go.Gv.D Go.Lib
theorem i32_small {x:Int} (h:0≤x) (h':x<2147483648):IntKind.i32.wrap x=x:=by
 simp only[IntKind.wrap,IntKind.signed,IntKind.bits,Bool.true_and]
 rw[if_neg oss]
 omega
end Go.Gv.R
namespace Go.Gv.R
open List renaming length_cons→aa,map_cons→ab,map_nil→ac,length_nil→ad,getD_cons_zero→ae,getD_cons_succ→af,cons_append→ag,nil_append→ah
open Go Go.Gv Go.Gv.D Go.Lib
theorem u32_small {x:Int} (h:0≤x) (h':x<4294967296):IntKind.u32.wrap x=x:=by rw[u32_wrap];omega
/-! ### scalars, and texts of them -/
def Scal (r:Nat):Prop:=r<55296∨(57343<r∧r≤1114111)
def encR (r:Nat):List UInt8:=encodeRune (r:Int)
def enc (l:List Nat):List UInt8:=l.flatMap encR
theorem encR_pos (r:Nat):1≤(encR r).length∧(encR r).length≤4:=by
 have:=encodeRuneZ_length (r:Int)
 unfold encR encodeRune
 rw[List.length_map];exact this
/-- ENCODED AND DECODED. -/
theorem decode_enc (r:Nat) (h:Scal r) (t:List UInt8):decodeL (encR r++t)=(r,(encR r).length):=by
 rw[decodeL_N]
 unfold encR encodeRune
 have hb:∀ z:Int,0≤z→z<256→(z.toNat.toUInt8).toNat=z.toNat:=fun z h1 h2=>by
  show (UInt8.ofNat z.toNat).toNat=_
  rw[UInt8.toNat_ofNat',Nat.mod_eq_of_lt om]
 unfold Scal at h
 rcases (by omega:r≤127∨(128≤r∧r≤2047)∨(2048≤r∧r≤65535)∨65536≤r) with c | c | c | c
 ·rw[encodeRuneZ_one om om]
  simp only[ab,ac,ag,ah,ae,af,aa,ad]
  rw[hb _ om om]
  unfold decodeN
  rw[if_pos om];simp
 ·rw[encodeRuneZ_two om om]
  simp only[ab,ac,ag,ah,ae,af,aa,ad]
  rw[hb _ om om,hb _ om om]
  unfold decodeN
  rw[if_neg om,if_pos ⟨om,om,om⟩,if_pos om]
  congr 1;omega
 ·rw[encodeRuneZ_three om]
  simp only[ab,ac,ag,ah,ae,af,aa,ad]
  rw[hb _ om om,hb _ om om,hb _ om om]
  unfold decodeN
  rw[if_neg om,if_neg om,if_pos ⟨om,⟨om,om⟩,om,om⟩,if_pos ⟨om,om⟩]
  congr 1;omega
 ·rw[encodeRuneZ_four om om]
  simp only[ab,ac,ag,ah,ae,af,aa,ad]
  rw[hb _ om om,hb _ om om,hb _ om om,hb _ om om]
  unfold decodeN
  rw[if_neg om,if_neg om,if_neg om,if_pos ⟨om,⟨om,om⟩,⟨om,om⟩,om,om⟩,if_pos ⟨om,om⟩]
  congr 1;omega
theorem enc_cons (r:Nat) (l:List Nat):enc (r::l)=encR r++enc l:=by simp[enc]
theorem enc_app (l m:List Nat):enc (l++m)=enc l++enc m:=by simp[enc]
theorem enc_ne {r:Nat} {l:List Nat}:enc (r::l)≠[]:=by
 have:=encR_pos r
 rw[enc_cons]
 intro e
 have:=congrArg List.length e
 rw[List.length_append,ad]at this
 omega
theorem not_bad {r:Nat} (h:Scal r):¬ (r=65533∧(encR r).length=1):=fun ⟨e,h2⟩=>by
 subst e
 have:(encR 65533).length=3:=by kernel_rfl
 omega
theorem valid_enc:∀ (l:List Nat),(∀ r∈l,Scal r)→validD (enc l)=true
 | [],_=>rfl
 | r::l,h=>by
   have hr:=h r (by simp)
   rw[validD_step _ enc_ne,enc_cons,decode_enc r hr,if_neg (not_bad hr)]
   rw[List.drop_left]
   exact valid_enc l fun x hx=>h x (by simp[hx])
theorem decode_scal {l:List UInt8} (hne:l≠[]) (hv:¬ ((decodeL l).1=65533∧(decodeL l).2=1)):Scal (decodeL l).1:=by
 rw[decodeL_N]at*
 have k0:=byte_lt (l.getD 0 0)
 have k1:=byte_lt (l.getD 1 0)
 unfold Scal
 rcases decodeN_shape l.length (l.getD 0 0).toNat (l.getD 1 0).toNat (l.getD 2 0).toNat (l.getD 3 0).toNat with ⟨c,e⟩ | ⟨c1,c2,c3,cv,e⟩ | ⟨c1,c2,c3,c4,cv,cs,e⟩ | ⟨c1,c2,c3,c4,c5,cv,cw,e⟩ | e
 ·rw[e];dsimp only;omega
 ·rw[e];dsimp only;omega
 ·rw[e];dsimp only;omega
 ·rw[e];dsimp only;omega
 ·rw[e]at hv;exact absurd ⟨rfl,rfl⟩ hv
theorem enc_of_valid:∀ (n:Nat) (l:List UInt8),l.length≤n→validD l=true→∃ p,(∀ r∈p,Scal r)∧l=enc p
 | _,[],_,_=>⟨[],by simp,rfl⟩
 | 0,_::_,h,_=>by simp at h
 | n+1,x::t,h,hv=>by
   have hne:x::t≠[]:=by simp
   rw[validD_step _ hne]at hv
   split at hv
   ·cases hv
   ·rename_i hb
    have hw:=decodeL_width (x::t)
    obtain ⟨p,hp,e⟩:=enc_of_valid n ((x::t).drop (decodeL (x::t)).2) (by rw[List.length_drop];simp only[aa]at h ⊢;omega) hv
    refine ⟨(decodeL (x::t)).1::p,?_,?_⟩
    ·intro r hr
     rcases List.mem_cons.1 hr with h' | h'
     ·rw[h'];exact decode_scal hne hb
     ·exact hp r h'
    ·rw[enc_cons,← e,encR,encode_decode _ hne hb,List.take_append_drop]
theorem valid_iff {l:List UInt8} (h:validD l=true):∃ p,(∀ r∈p,Scal r)∧l=enc p:=enc_of_valid _ l (Nat.le_refl _) h
end Go.Gv.R
namespace Go.Gv.R
open List renaming length_cons→aa,map_cons→ab,map_nil→ac,length_nil→ad,getD_cons_zero→ae,getD_cons_succ→af,cons_append→ag,nil_append→ah
open Go Go.Gv Go.Gv.D Go.Lib
/-! ### the reference's unit -/
def bad (x:Nat × Nat):Prop:=x.1=65533∧x.2=1
instance (x:Nat × Nat):Decidable (bad x):=inferInstanceAs (Decidable (_∧_))
def U (l:List UInt8):Int × Int:=if bad (decodeL l) then (0,0) else (((decodeL l).1:Int),((decodeL l).2:Int))
theorem drop_getD (s:List UInt8) (i k:Nat):(s.drop i).getD k 0=s.getD (i+k) 0:=by
 rw[List.getD_eq_getElem?_getD,List.getD_eq_getElem?_getD,List.getElem?_drop]
end Go.Gv.R
namespace Go.Gv.R
open List renaming length_cons→aa,map_cons→ab,map_nil→ac,length_nil→ad,getD_cons_zero→ae,getD_cons_succ→af,cons_append→ag,nil_append→ah
open Go Go.Gv Go.Gv.D Go.Lib
theorem enc_len_ge (p:List Nat):p.length≤(enc p).length:=by
 induction p with
 | nil=>simp
 | cons r p ih=>
   have:=encR_pos r
   rw[enc_cons,List.length_append,aa];omega
/-! ### a text's runes, as the range statement takes them -/
theorem decode_drop (s:ByteArray) (i:Nat):Utf8.decode s i=decodeL ((bytesOf s).drop i):=by
 rw[decode_at,decodeL_N,drop_getD,drop_getD,drop_getD,drop_getD,List.length_drop,get_getD,get_getD,get_getD,get_getD,size_bytes]
 simp only[Nat.add_zero]
theorem rune_at {s:ByteArray} {p t:List Nat} {r:Nat} (hr:Scal r) (h:bytesOf s=enc (p++r::t)):runeI s (enc p).length=(r:Int)∧runeN s (enc p).length=(encR r).length:=by
 unfold runeI runeN
 rw[decode_drop,h,enc_app,List.drop_left,enc_cons,decode_enc r hr]
 exact ⟨rfl,rfl⟩
/-! ### codings -/
def codeR (c:Int) (r:Nat):List UInt8:=
 if c=0 then encR r else if c=1 then [UInt8.ofNat r] else if r<65536 then [UInt8.ofNat (r/256),UInt8.ofNat (r%256)]
 else [UInt8.ofNat (216+(r-65536)/1024/256),UInt8.ofNat ((r-65536)/1024%256),UInt8.ofNat (220+(r-65536)%1024/256),UInt8.ofNat ((r-65536)%1024%256)]
def codeL (c:Int) (p:List Nat):List UInt8:=p.flatMap (codeR c)
theorem codeR_len (c:Int) (r:Nat):(codeR c r).length≤4:=by
 unfold codeR
 have:=encR_pos r
 repeat' split
 all_goals first | omega | (simp only[aa,ad];omega)
theorem codeL_len (c:Int) (p:List Nat):(codeL c p).length≤4*p.length:=by
 induction p with
 | nil=>simp[codeL]
 | cons r p ih=>
   have:=codeR_len c r
   unfold codeL at*
   rw[List.flatMap_cons,List.length_append,aa];omega
theorem codeL_zero (p:List Nat):codeL 0 p=enc p:=by
 have:codeR 0=encR:=by funext r;unfold codeR;rw[if_pos rfl]
 unfold codeL enc
 rw[this]
end Go.Gv.R
namespace Go.Gv.R
open List renaming length_cons→aa,map_cons→ab,map_nil→ac,length_nil→ad,getD_cons_zero→ae,getD_cons_succ→af,cons_append→ag,nil_append→ah
open Go Go.Gv Go.Gv.D Go.Lib
theorem iw {x:Int} {n:Nat} (h:x=(n:Int)) (h':n<4611686018427387904):IntKind.i64.wrap x=(n:Int):=by rw[h,i64_small om om]
theorem enc_len_le (p:List Nat):(enc p).length≤4*p.length:=by rw[← codeL_zero];exact codeL_len 0 p
theorem enc_snoc (p:List Nat) (r:Nat):enc (p++[r])=enc p++encR r:=by rw[enc_app];simp[enc]
theorem toU8 (n:Nat):((n:Int).toNat.toUInt8)=UInt8.ofNat n:=by rw[Int.toNat_natCast]
theorem encR1 {r:Nat} (h:r≤127):encR r=[UInt8.ofNat r]:=by
 unfold encR encodeRune
 rw[encodeRuneZ_one om om]
 simp only[ab,ac,toU8]
theorem encR2 {r:Nat} (h:128≤r) (h':r≤2047):encR r=[UInt8.ofNat (192+r/64),UInt8.ofNat (128+r%64)]:=by
 unfold encR encodeRune
 rw[encodeRuneZ_two om om,show 192+(r:Int)/64=((192+r/64:Nat):Int) by omega,show 128+(r:Int)%64=((128+r%64:Nat):Int) by omega]
 simp only[ab,ac,toU8]
theorem encR3 {r:Nat} (h:2048≤r) (h':r≤65535) (hs:Scal r):encR r=[UInt8.ofNat (224+r/4096),UInt8.ofNat (128+r/64%64),UInt8.ofNat (128+r%64)]:=by
 unfold Scal at hs
 unfold encR encodeRune
 rw[encodeRuneZ_three om,show 224+(r:Int)/4096=((224+r/4096:Nat):Int) by omega,show 128+(r:Int)/64%64=((128+r/64%64:Nat):Int) by omega,show 128+(r:Int)%64=((128+r%64:Nat):Int) by omega]
 simp only[ab,ac,toU8]
theorem encR4 {r:Nat} (h:65536≤r) (h':r≤1114111):encR r=[UInt8.ofNat (240+r/262144),UInt8.ofNat (128+r/4096%64),UInt8.ofNat (128+r/64%64),UInt8.ofNat (128+r%64)]:=by
 unfold encR encodeRune
 rw[encodeRuneZ_four om om,show 240+(r:Int)/262144=((240+r/262144:Nat):Int) by omega,show 128+(r:Int)/4096%64=((128+r/4096%64:Nat):Int) by omega,show 128+(r:Int)/64%64=((128+r/64%64:Nat):Int) by omega,show 128+(r:Int)%64=((128+r%64:Nat):Int) by omega]
 simp only[ab,ac,toU8]
end Go.Gv.R
