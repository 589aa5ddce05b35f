import Derived.Test.YtjhfmibjphdanaaGreatDoorProg
import Derived.Shelf.LaysM
import Derived.Shelf.LaysC
import Derived.Shelf.Strings.SlTrimAscii
import Derived.Shelf.Strings.OnBuilder
import Derived.Shelf.Strconv.AtoiAll
import Derived.Shelf.Strconv.Itoa3
import Derived.Lib.SmallJoins
import Derived.Test.YtjhfmibjphdanaaGreatDoorGs
import Derived.Test.YtjhfmibjphdanaaGreatDoorGq
import Derived.Test.YtjhfmibjphdanaaGreatDoorSx
import Derived.Test.YtjhfmibjphdanaaGreatDoorVs
import Derived.Test.YtjhfmibjphdanaaGreatDoorRd
/- Own work: functions of Go's library by the shelf. -/
set_option linter.all false
namespace Go.Proofs.YtjhfmibjphdanaaGreatDoor
open Go.Gv Go.Gv.D Go.Shelf Go.RowKit
set_option maxRecDepth 1000000
def renL:Ren:=⟨fun n=>if n=161 then 114 else if n=231 then 126 else if n=227 then 127 else if n=233 then 128 else if n=235 then 129 else if n=228 then 135 else if n=197 then 113 else if n=151 then 136 else if n=260 then 125 else if n=152 then 151 else if n=137 then 53 else if n=119 then 79 else if n=224 then 160 else if n=225 then 161 else if n=217 then 73 else if n=266 then 87 else n,fun n=>if n=117 then 149 else if n=116 then 148 else if n=124 then 152 else if n=105 then 137 else if n=119 then 68 else if n=46 then 72 else if n=139 then 71 else if n=138 then 70 else n,fun n=>if n=3 then 0 else if n=4 then 1 else n⟩
def renA:Ren:=⟨fun n=>if n=172 then 115 else if n=244 then 130 else if n=245 then 131 else if n=247 then 137 else if n=279 then 138 else if n=280 then 139 else if n=281 then 140 else if n=282 then 141 else if n=287 then 152 else if n=316 then 153 else if n=171 then 36 else if n=205 then 154 else if n=321 then 162 else if n=322 then 163 else if n=243 then 57 else if n=246 then 76 else if n=283 then 90 else if n=284 then 91 else if n=285 then 92 else if n=286 then 93 else if n=129 then 105 else if n=317 then 104 else if n=318 then 106 else if n=319 then 107 else if n=320 then 108 else if n=337 then 120 else if n=338 then 121 else n,fun n=>if n=75 then 90 else if n=76 then 91 else if n=167 then 159 else if n=37 then 83 else if n=85 then 160 else if n=168 then 162 else if n=53 then 98 else if n=175 then 174 else if n=46 then 72 else if n=210 then 178 else if n=127 then 106 else if n=145 then 190 else if n=143 then 188 else if n=171 then 120 else if n=173 then 123 else if n=212 then 129 else if n=51 then 130 else if n=213 then 131 else if n=232 then 154 else if n=233 then 155 else if n=80 then 93 else n,fun n=>if n=15 then 6 else if n=16 then 7 else if n=17 then 3 else if n=18 then 4 else if n=19 then 5 else n⟩
def renI:Ren:=⟨fun n=>if n=171 then 36 else if n=243 then 57 else if n=246 then 76 else if n=283 then 90 else if n=284 then 91 else if n=285 then 92 else if n=286 then 93 else if n=129 then 105 else if n=317 then 104 else if n=318 then 106 else if n=319 then 107 else if n=320 then 108 else if n=337 then 120 else if n=338 then 121 else n,fun n=>if n=171 then 120 else if n=53 then 98 else if n=37 then 83 else if n=173 then 123 else if n=212 then 129 else if n=51 then 130 else if n=213 then 131 else if n=46 then 72 else if n=232 then 154 else if n=233 then 155 else n,fun n=>if n=17 then 3 else if n=18 then 4 else if n=19 then 5 else n⟩
def renJ:Ren:=⟨fun n=>if n=156 then 34 else if n=165 then 54 else if n=166 then 55 else if n=169 then 56 else if n=240 then 74 else if n=241 then 75 else if n=276 then 88 else if n=277 then 89 else n,fun n=>if n=31 then 61 else if n=72 then 87 else if n=76 then 91 else if n=70 then 85 else if n=37 then 83 else if n=75 then 90 else if n=127 then 106 else if n=164 then 117 else if n=80 then 93 else n,fun n=>n⟩
theorem lays161:Lays.n161 Tryz.prog renL:=by constructor<;>first | kernel_rfl | (intro w;kernel_rfl)
theorem lays172m:LaysM.n172 Tryz.prog renA:=by constructor<;>first | kernel_rfl | (intro w;kernel_rfl) | (constructor<;>first | kernel_rfl | (intro w;kernel_rfl))
theorem lays172:LaysC.n172 Tryz.prog renA:=by constructor<;>first | exact lays172m | kernel_rfl | (intro w;kernel_rfl)
theorem lays171:LaysM.n171 Tryz.prog renI:=by constructor<;>first | kernel_rfl | (intro w;kernel_rfl) | (constructor<;>first | kernel_rfl | (intro w;kernel_rfl))
theorem lays156:Lays.n156 Tryz.prog renJ:=by constructor<;>first | kernel_rfl | (intro w;kernel_rfl)
theorem extraJ:Builder.Extra Tryz.prog renJ where
 sizeBuilder:=by kernel_rfl
 liesBuilder:=by kernel_rfl
 t5:=by kernel_rfl
 a5:=by intro w;kernel_rfl
 z5:=by intro w;kernel_rfl
 v5:=by intro w;kernel_rfl
 infoByte:=by kernel_rfl
 cellsByte:=by kernel_rfl
 sizeByte:=by kernel_rfl
 neB5:=by decide
theorem hi116L:(Tryz.prog.info? (renL.t 116)).map (fun i=>(i.zero,i.size))=some (some (.agg (Array.replicate 256 (.bool false))),256):=by kernel_rfl
theorem asciiB_at {s:ByteArray} (h:asciiB s=true):∀ (j:Nat) b,s.data.toList[j]? =some b→b.toNat<128:=fun j b hj=>by
 have:=List.all_eq_true.1 h b (List.mem_of_getElem? hj)
 exact of_decide_eq_true this
theorem strings_TrimLeft_ok (fuel:Nat) (s_0 cs_1:ByteArray) (w0:World) (r0:ByteArray) (h0:strings_TrimLeft fuel s_0 cs_1=some r0):
 Calls Tryz.prog 114 ([(.string s_0),(.string cs_1)]:List Value).toArray w0 (Ret fun v w'=>w0.grownBy w' none∧v=tup [(.string r0)]):=by
 unfold strings_TrimLeft at h0
 split at h0
 ·rename_i hb
  cases h0
  refine (Any.strings_TrimLeft_laid lays161 hi116L s_0 cs_1 w0 hb.1 (asciiB_at hb.2)).mono fun e w' ⟨he,hw⟩=>?_
  subst he
  exact ⟨grown_of_below hw,rfl⟩
 ·cases h0
theorem err_cell {erx:TypeId × Value} {w:World} {X:Nat→Prop} (h:Rd eE w X (some ⟨7,0,none⟩) 1 [erx]):w.cell? ⟨7,0,none⟩=some (.iface erx.1 erx.2):=by
 obtain ⟨b,off,c,e,_,hc,hat⟩:=h.2 0 erx rfl
 cases e
 have hc:c=[.iface erx.1 erx.2]:=hc
 subst hc
 have:=hat 0 _ rfl
 rwa [add_lit]at this
theorem strconv_Atoi_ok (fuel:Nat) (s_0:ByteArray) (w0:World) (X0:Nat→Prop) (hX0:∀ k,X0 k→k<w0.heap.size) {erx:TypeId × Value} (hG:Rd eE w0 X0 (some ⟨7,0,none⟩) 1 [erx]) (r0:Int × Bool) (h0:strconv_Atoi fuel s_0=some r0):
 Calls Tryz.prog 115 ([(.string s_0)]:List Value).toArray w0 (Ret fun v w'=>w0.grownBy w' none∧∃ (te:TypeId) (pe:Value),v=tup [(.int .i64 r0.1),(ifE r0.2 te pe)]):=by
 unfold strconv_Atoi at h0
 split at h0
 ·rename_i hb
  split at h0
  ·rename_i v hv
   cases h0
   refine (Any.strconv_Atoi_ok lays172 s_0 (by omega) v hv w0).mono fun e w' ⟨he,hw⟩=>?_
   subst he
   refine ⟨?_,0,.nilIface,rfl⟩
   rcases hw with hw | ⟨t,hw⟩
   ·subst hw;exact World.grownBy.refl _ _
   ·subst hw;exact grown_of_below (Lib.bytesWorld_below _ _ _)
  ·rename_i hv
   cases h0
   refine (Any.strconv_Atoi_range lays172 s_0 hb hv (.iface erx.1 erx.2) w0 (err_cell hG) (Or.inr ⟨_,_,rfl⟩)).mono fun e w' ⟨N,he,_,_,hw⟩=>?_
   subst he
   exact ⟨grown_of_below hw,_,_,rfl⟩
  ·cases h0
 ·cases h0
theorem strings_Join_ok (fuel:Nat) (pa0_0:Option Addr) (pc0_0:Nat) (elems_0:(List ByteArray)) (sep_1:ByteArray) (w0:World) (X0:Nat→Prop) (hX0:∀ k,X0 k→k<w0.heap.size) (hpa0_0:Rd sE w0 X0 pa0_0 pc0_0 elems_0) (r0:ByteArray) (h0:strings_Join fuel elems_0 sep_1=some r0):
 Calls Tryz.prog 34 ([(.slice pa0_0 (List.length elems_0) pc0_0),(.string sep_1)]:List Value).toArray w0 (Ret fun v w'=>w0.grownBy w' none∧v=tup [(.string r0)]):=by
 unfold strings_Join at h0
 split at h0
 ·rename_i hb
  cases h0
  cases elems_0 with
  | nil=>
    refine (Any.strings_Join_none lays156 extraJ pa0_0 pc0_0 sep_1 w0).mono fun e w' ⟨he,hw⟩=>?_
    subst he hw
    exact ⟨World.grownBy.refl _ _,rfl⟩
  | cons x xs=>
    obtain ⟨b,off,c,rfl,hX,_⟩:=hpa0_0.2 0 x rfl
    refine (Any.strings_Join lays156 extraJ b off pc0_0 (x::xs) sep_1 w0 (fun j y hj=>?_) (hX0 b hX) hb.1 hpa0_0.1 hb.2).mono fun e w' ⟨he,hw⟩=>?_
    ·obtain ⟨b',off',c',e',_,hc',hat⟩:=hpa0_0.2 j y hj
     cases e'
     have hc':c'=[.string y]:=hc'
     subst hc'
     have:=hat 0 _ rfl
     rw[add_lit]at this
     simpa [sE,flat] using this
    ·subst he
     exact ⟨grown_of_below hw,rfl⟩
 ·cases h0
theorem strconv_Itoa_ok (fuel:Nat) (i_0:Int) (w0:World) (X0:Nat→Prop) (hX0:∀ k,X0 k→k<w0.heap.size) (hG:Rd (tabE 3 pow10C) w0 X0 (some ⟨3,0,none⟩) 1 [(.int .u64 1)]) (r0:ByteArray) (h0:strconv_Itoa fuel i_0=some r0):
 Calls Tryz.prog 36 ([(.int .i64 i_0)]:List Value).toArray w0 (Ret fun v w'=>w0.grownBy w' none∧v=tup [(.string r0)]):=by
 unfold strconv_Itoa at h0
 split at h0
 ·rename_i hb
  cases h0
  refine (Any.strconv_Itoa lays171 i_0 hb.1 hb.2 w0 (tab_is (by kernel_rfl) hG)).mono fun e w' ⟨he,k,os,hw⟩=>?_
  subst he hw
  exact ⟨⟨rfl,rfl,rfl,by simp,fun kk hk _=>by rw[Sort.heap_grow_old _ _ (by simpa using hk)];rfl⟩,rfl⟩
 ·cases h0
end Go.Proofs.YtjhfmibjphdanaaGreatDoor
