import Derived.Test.YtjhfmibjphdanaaGreatDoorL5
import Derived.Lib.ValidLaws
import Derived.Lib.ValidAsc
import Derived.Lib.DecodeNEq
import Derived.Lib.MapLaws
set_option linter.all false
open List renaming length_cons→aa,getD_cons_zero→ab,getD_cons_succ→ac,length_nil→ad,cons_append→ae,nil_append→af
namespace Go.Gv.R
open Go Go.Gv Go.Gv.D Go.Lib
/-! ### words of eight bytes -/
/-! ### what is valid -/
theorem ValidString_tot {s:ByteArray} (hs:s.size≤4611686018427387904):Tot (fun fuel=>utf8_ValidString fuel s) (fun r=>r=validD (bytesOf s)):=by
 unfold utf8_ValidString
 rw[if_pos om]
 exact Tot.ret rfl
end Go.Gv.R
namespace Go.Gv.R
open Go Go.Gv Go.Gv.D Go.Lib
end Go.Gv.R
namespace Go.Gv.R
open Go Go.Gv Go.Gv.D Go.Lib
/-! ### scalars, and texts of them -/
def Scal (r:Nat):Prop:=r<55296∨(57343<r∧r≤1114111)
def encR (r:Nat):List UInt8:=encodeRune (r:Int)
def enc (l:List Nat):List UInt8:=l.flatMap encR
theorem encR_pos (r:Nat):1≤(encR r).length∧(encR r).length≤4:=by
 have:=encodeRuneZ_length (r:Int)
 unfold encR encodeRune
 rw[List.length_map];exact this
/-- ENCODED AND DECODED. -/
theorem decode_enc (r:Nat) (h:Scal r) (t:List UInt8):decodeL (encR r++t)=(r,(encR r).length):=by
 rw[decodeL_N]
 unfold encR encodeRune
 have hb:∀ z:Int,0≤z→z<256→(z.toNat.toUInt8).toNat=z.toNat:=fun z h1 h2=>by
  show (UInt8.ofNat z.toNat).toNat=_
  rw[UInt8.toNat_ofNat',Nat.mod_eq_of_lt om]
 unfold Scal at h
 rcases (by omega:r≤127∨(128≤r∧r≤2047)∨(2048≤r∧r≤65535)∨65536≤r) with c | c | c | c
 ·rw[encodeRuneZ_one om om]
  simp only[List.map_cons,List.map_nil,ae,af,ab,ac,aa,ad]
  rw[hb _ om om]
  unfold decodeN
  rw[if_pos om];simp
 ·rw[encodeRuneZ_two om om]
  simp only[List.map_cons,List.map_nil,ae,af,ab,ac,aa,ad]
  rw[hb _ om om,hb _ om om]
  unfold decodeN
  rw[if_neg om,if_pos ⟨om,om,om⟩,if_pos om]
  congr 1;omega
 ·rw[encodeRuneZ_three om]
  simp only[List.map_cons,List.map_nil,ae,af,ab,ac,aa,ad]
  rw[hb _ om om,hb _ om om,hb _ om om]
  unfold decodeN
  rw[if_neg om,if_neg om,if_pos ⟨om,⟨om,om⟩,om,om⟩,if_pos ⟨om,om⟩]
  congr 1;omega
 ·rw[encodeRuneZ_four om om]
  simp only[List.map_cons,List.map_nil,ae,af,ab,ac,aa,ad]
  rw[hb _ om om,hb _ om om,hb _ om om,hb _ om om]
  unfold decodeN
  rw[if_neg om,if_neg om,if_neg om,if_pos ⟨om,⟨om,om⟩,⟨om,om⟩,om,om⟩,if_pos ⟨om,om⟩]
  congr 1;omega
theorem enc_cons (r:Nat) (l:List Nat):enc (r::l)=encR r++enc l:=by simp[enc]
theorem enc_app (l m:List Nat):enc (l++m)=enc l++enc m:=by simp[enc]
theorem enc_ne {r:Nat} {l:List Nat}:enc (r::l)≠[]:=by
 have:=encR_pos r
 rw[enc_cons]
 intro e
 have:=congrArg List.length e
 rw[List.length_append,ad]at this
 omega
theorem not_bad {r:Nat} (h:Scal r):¬ (r=65533∧(encR r).length=1):=fun ⟨e,h2⟩=>by
 subst e
 have:(encR 65533).length=3:=by kernel_rfl
 omega
theorem valid_enc:∀ (l:List Nat),(∀ r∈l,Scal r)→validD (enc l)=true
 | [],_=>rfl
 | r::l,h=>by
   have hr:=h r (by simp)
   rw[validD_step _ enc_ne,enc_cons,decode_enc r hr,if_neg (not_bad hr)]
   rw[List.drop_left]
   exact valid_enc l fun x hx=>h x (by simp[hx])
theorem decode_scal {l:List UInt8} (hne:l≠[]) (hv:¬ ((decodeL l).1=65533∧(decodeL l).2=1)):Scal (decodeL l).1:=by
 rw[decodeL_N]at*
 have k0:=byte_lt (l.getD 0 0)
 have k1:=byte_lt (l.getD 1 0)
 unfold Scal
 rcases decodeN_shape l.length (l.getD 0 0).toNat (l.getD 1 0).toNat (l.getD 2 0).toNat (l.getD 3 0).toNat with ⟨c,e⟩ | ⟨c1,c2,c3,cv,e⟩ | ⟨c1,c2,c3,c4,cv,cs,e⟩ | ⟨c1,c2,c3,c4,c5,cv,cw,e⟩ | e
 ·rw[e];dsimp only;omega
 ·rw[e];dsimp only;omega
 ·rw[e];dsimp only;omega
 ·rw[e];dsimp only;omega
 ·rw[e]at hv;exact absurd ⟨rfl,rfl⟩ hv
theorem enc_of_valid:∀ (n:Nat) (l:List UInt8),l.length≤n→validD l=true→∃ p,(∀ r∈p,Scal r)∧l=enc p
 | _,[],_,_=>⟨[],by simp,rfl⟩
 | 0,_::_,h,_=>by simp at h
 | n+1,x::t,h,hv=>by
   have hne:x::t≠[]:=by simp
   rw[validD_step _ hne]at hv
   split at hv
   ·cases hv
   ·rename_i hb
    have hw:=decodeL_width (x::t)
    obtain ⟨p,hp,e⟩:=enc_of_valid n ((x::t).drop (decodeL (x::t)).2) (by rw[List.length_drop];simp only[aa]at h ⊢;omega) hv
    refine ⟨(decodeL (x::t)).1::p,?_,?_⟩
    ·intro r hr
     rcases List.mem_cons.1 hr with h' | h'
     ·rw[h'];exact decode_scal hne hb
     ·exact hp r h'
    ·rw[enc_cons,← e,encR,encode_decode _ hne hb,List.take_append_drop]
theorem valid_iff {l:List UInt8} (h:validD l=true):∃ p,(∀ r∈p,Scal r)∧l=enc p:=enc_of_valid _ l (Nat.le_refl _) h
end Go.Gv.R
