import Derived.Test.YtmpmeiihjnnomaaGreatDoorProg
import Derived.Shelf.LaysM
import Derived.Shelf.LaysC
import Derived.Shelf.Strings.SlTrimAscii
import Derived.Shelf.Strings.OnBuilder
import Derived.Shelf.Strconv.AtoiAll
import Derived.Shelf.Strconv.Itoa3
import Derived.Lib.SmallJoins
import Derived.Test.YtmpmeiihjnnomaaGreatDoorVs
import Derived.Test.YtmpmeiihjnnomaaGreatDoorRd
set_option linter.all false
namespace Go.Proofs.YtmpmeiihjnnomaaGreatDoor
open Go.Gv Go.Gv.D Go.Shelf Go.RowKit
set_option maxRecDepth 1000000
def renI:Ren:=⟨fun n=>if n=171 then 91 else if n=243 then 111 else if n=246 then 131 else if n=283 then 157 else if n=284 then 158 else if n=285 then 159 else if n=286 then 160 else if n=129 then 172 else if n=317 then 171 else if n=318 then 173 else if n=319 then 174 else if n=320 then 175 else if n=337 then 186 else if n=338 then 187 else n,fun n=>if n=171 then 193 else if n=53 then 159 else if n=37 then 73 else if n=173 then 196 else if n=212 then 207 else if n=51 then 163 else if n=213 then 208 else if n=46 then 144 else if n=232 then 231 else if n=233 then 232 else n,fun n=>if n=17 then 3 else if n=18 then 4 else if n=19 then 5 else n⟩
def renJ:Ren:=⟨fun n=>if n=156 then 89 else if n=165 then 110 else if n=166 then 43 else if n=169 then 46 else if n=240 then 76 else if n=241 then 130 else if n=276 then 100 else if n=277 then 156 else n,fun n=>if n=31 then 54 else if n=72 then 97 else if n=76 then 100 else if n=70 then 95 else if n=37 then 73 else if n=75 then 99 else if n=127 then 145 else if n=164 then 160 else if n=80 then 106 else n,fun n=>n⟩
theorem zjt:LaysM.n171 Tryz.prog renI:=by constructor<;>first | kernel_rfl | (intro w;kernel_rfl) | (constructor<;>first | kernel_rfl | (intro w;kernel_rfl))
theorem znr:Lays.n156 Tryz.prog renJ:=by constructor<;>first | kernel_rfl | (intro w;kernel_rfl)
theorem zks:Builder.Extra Tryz.prog renJ where
 sizeBuilder:=by kernel_rfl
 liesBuilder:=by kernel_rfl
 t5:=by kernel_rfl
 a5:=by intro w;kernel_rfl
 z5:=by intro w;kernel_rfl
 v5:=by intro w;kernel_rfl
 infoByte:=by kernel_rfl
 cellsByte:=by kernel_rfl
 sizeByte:=by kernel_rfl
 neB5:=by decide
theorem zvt (fuel:Nat) (pa0_0:Option Addr) (pc0_0:Nat) (elems_0:(List ByteArray)) (sep_1:ByteArray) (w0:World) (X0:Nat->Prop) (hX0:∀ k,X0 k->k<w0.heap.size) (hpa0_0:Rd sE w0 X0 pa0_0 pc0_0 elems_0) (r0:ByteArray) (h0:strings_Join fuel elems_0 sep_1=some r0):
 Calls Tryz.prog 89 ([(.slice pa0_0 (List.length elems_0) pc0_0),(.string sep_1)]:List Value).toArray w0 (Ret fun v w'=>w0.grownBy w' none∧v=tup [(.string r0)]):=by
 unfold strings_Join at h0
 split at h0
 ·rename_i hb
  cases h0
  cases elems_0 with
  | nil=>
    refine (Any.strings_Join_none znr zks pa0_0 pc0_0 sep_1 w0).mono fun e w' ⟨he,hw⟩=>?_
    subst he hw
    exact ⟨World.grownBy.refl _ _,rfl⟩
  | cons x xs=>
    obtain ⟨b,off,c,rfl,hX,_⟩:=hpa0_0.2 0 x rfl
    refine (Any.strings_Join znr zks b off pc0_0 (x::xs) sep_1 w0 (fun j y hj=>?_) (hX0 b hX) hb.1 hpa0_0.1 hb.2).mono fun e w' ⟨he,hw⟩=>?_
    ·obtain ⟨b',f,c',e',_,a,d⟩:=hpa0_0.2 j y hj
     cases e'
     have a:c'=[.string y]:=a
     subst a
     have:=d 0 _ rfl
     rw[add_lit]at this
     simpa [sE,flat] using this
    ·subst he
     exact ⟨grown_of_below hw,rfl⟩
 ·cases h0
theorem zxI (fuel:Nat) (i_0:Int) (w0:World) (X0:Nat->Prop) (hX0:∀ k,X0 k->k<w0.heap.size) (hG:Rd (zsl 3 pow10C) w0 X0 (some ⟨3,0,none⟩) 1 [(.int .u64 1)]) (r0:ByteArray) (h0:strconv_Itoa fuel i_0=some r0):
 Calls Tryz.prog 91 ([(.int .i64 i_0)]:List Value).toArray w0 (Ret fun v w'=>w0.grownBy w' none∧v=tup [(.string r0)]):=by
 unfold strconv_Itoa at h0
 split at h0
 ·rename_i hb
  cases h0
  refine (Any.strconv_Itoa zjt i_0 hb.1 hb.2 w0 (zih (by kernel_rfl) hG)).mono fun e w' ⟨he,k,os,hw⟩=>?_
  subst he hw
  exact ⟨⟨rfl,rfl,rfl,by simp,fun kk hk _=>by rw[Sort.heap_grow_old _ _ (by simpa using hk)];rfl⟩,rfl⟩
 ·cases h0
end Go.Proofs.YtmpmeiihjnnomaaGreatDoor
