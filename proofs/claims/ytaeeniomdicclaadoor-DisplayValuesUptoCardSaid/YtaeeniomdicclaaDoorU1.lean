import Derived.Test.YtaeeniomdicclaaDoorL1
import Derived.Lib.ValidLaws
import Derived.Lib.ValidAsc
import Derived.Lib.DecodeNEq
import Derived.Lib.MapLaws
set_option linter.all false
namespace Go.Gv.R
open Go Go.Gv Go.Gv.D Go.Lib
theorem zxy {x:Int} (h:0<=x) (h':x<18446744073709551616):IntKind.u64.wrap x=x:=by rw[zvw];omega
theorem u32_small {x:Int} (h:0<=x) (h':x<4294967296):IntKind.u32.wrap x=x:=by rw[zte];omega
def Scal (r:Nat):Prop:=r<55296∨(57343<r∧r<=1114111)
def zo2 (r:Nat):List UInt8:=encodeRune (r:Int)
def enc (l:List Nat):List UInt8:=l.flatMap zo2
theorem ztj (r:Nat) (l:List Nat):enc (r::l)=zo2 r++enc l:=by simp[enc]
theorem zpf (l m:List Nat):enc (l++m)=enc l++enc m:=by simp[enc]
theorem zu9 {l:List UInt8} (hne:l≠[]) (hv:¬ ((decodeL l).1=65533∧(decodeL l).2=1)):Scal (decodeL l).1:=by
 rw[decodeL_N]at*
 have k0:=zwL (l.getD 0 0)
 have k1:=zwL (l.getD 1 0)
 unfold Scal
 rcases decodeN_shape l.length (l.getD 0 0).toNat (l.getD 1 0).toNat (l.getD 2 0).toNat (l.getD 3 0).toNat with ⟨c,e⟩ | ⟨c1,c2,c3,cv,e⟩ | ⟨c1,c2,c3,c4,cv,cs,e⟩ | ⟨c1,c2,c3,c4,c5,cv,cw,e⟩ | e
 ·rw[e];dsimp only;omega
 ·rw[e];dsimp only;omega
 ·rw[e];dsimp only;omega
 ·rw[e];dsimp only;omega
 ·rw[e]at hv;exact absurd ⟨rfl,rfl⟩ hv
theorem zw0:∀ (n:Nat) (l:List UInt8),l.length<=n->validD l=true->∃ p,(∀ r∈p,Scal r)∧l=enc p
 | _,[],_,_=>⟨[],by simp,rfl⟩
 | 0,_::_,h,_=>by simp at h
 | n+1,x::t,h,hv=>by
   have b:x::t≠[]:=by simp
   rw[validD_step _ b]at hv
   split at hv
   ·cases hv
   ·rename_i hb
    have hw:=decodeL_width (x::t)
    obtain ⟨p,hp,e⟩:=zw0 n ((x::t).drop (decodeL (x::t)).2) (by rw[List.length_drop];simp only[List.length_cons]at h ⊢;omega) hv
    refine ⟨(decodeL (x::t)).1::p,?_,?_⟩
    ·intro r hr
     rcases List.mem_cons.1 hr with h' | h'
     ·rw[h'];exact zu9 b hb
     ·exact hp r h'
    ·rw[ztj,<- e,zo2,encode_decode _ b hb,List.take_append_drop]
theorem zsL {l:List UInt8} (h:validD l=true):∃ p,(∀ r∈p,Scal r)∧l=enc p:=zw0 _ l (Nat.le_refl _) h
def bad (x:Nat × Nat):Prop:=x.1=65533∧x.2=1
instance (x:Nat × Nat):Decidable (bad x):=inferInstanceAs (Decidable (_∧_))
def U (l:List UInt8):Int × Int:=if bad (decodeL l) then (0,0) else (((decodeL l).1:Int),((decodeL l).2:Int))
theorem iw {x:Int} {n:Nat} (h:x=(n:Int)) (h':n<4611686018427387904):IntKind.i64.wrap x=(n:Int):=by rw[h,i64_small om om]
theorem toU8 (n:Nat):((n:Int).toNat.toUInt8)=UInt8.ofNat n:=by rw[Int.toNat_natCast]
theorem encR1 {r:Nat} (h:r<=127):zo2 r=[UInt8.ofNat r]:=by
 unfold zo2 encodeRune
 rw[encodeRuneZ_one om om]
 simp only[List.map_cons,List.map_nil,toU8]
end Go.Gv.R
