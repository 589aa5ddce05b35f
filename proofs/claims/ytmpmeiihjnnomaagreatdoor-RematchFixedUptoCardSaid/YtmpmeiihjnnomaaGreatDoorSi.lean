import Derived.Test.YtmpmeiihjnnomaaGreatDoorProg
import Derived.Shelf.LaysM
import Derived.Shelf.Strings.LastIndexAll
import Derived.Shelf.Strings.Split
import Derived.Test.YtmpmeiihjnnomaaGreatDoorGs
/- Own work: strings.Index and strings.Count, by the shelf's contracts. -/
set_option linter.all false
namespace Go.Proofs.YtmpmeiihjnnomaaGreatDoor
open Go.Gv Go.Gv.D Go.Shelf Go.RowKit
set_option maxRecDepth 1000000
def renF:Ren:=⟨fun n=>if n=143 then 50 else if n=219 then 79 else if n=217 then 101 else if n=225 then 102 else if n=224 then 103 else if n=267 then 104 else if n=266 then 125 else if n=314 then 126 else if n=148 then 51 else if n=222 then 80 else if n=223 then 81 else if n=269 then 105 else if n=138 then 53 else if n=195 then 52 else if n=218 then 82 else n,fun n=>if n=46 then 144 else if n=146 then 164 else if n=51 then 163 else n,fun n=>if n=1 then 2 else n⟩
theorem laysF143:Lays.n143 Tryz.prog renF:=by constructor<;>first | kernel_rfl | (intro w;kernel_rfl)
theorem laysF138:Lays.n138 Tryz.prog renF:=by constructor<;>first | kernel_rfl | (intro w;kernel_rfl)
theorem max_cellF {gmx:Int} {w:World} {X:Nat→Prop} (h:Rd (iE .i64) w X (some ⟨2,0,none⟩) 1 [gmx]):w.cell? ⟨2,0,none⟩=some (.int .i64 gmx):=by
 obtain ⟨b,off,c,e,_,hc,hat⟩:=h.2 0 gmx rfl
 cases e
 have hc:c=[.int .i64 gmx]:=hc
 subst hc
 have:=hat 0 _ rfl
 rwa [add_lit]at this
theorem strings_Count_ok (fuel:Nat) (s_0:ByteArray) (substr_1:ByteArray) (w0:World) (X0:Nat→Prop) (hX0:∀ k,X0 k→k<w0.heap.size) {gmx:Int} (hG:Rd (iE .i64) w0 X0 (some ⟨2,0,none⟩) 1 [gmx]) (r0:Int) (h0:strings_Count fuel s_0 substr_1=some r0):
 Calls Tryz.prog 53 ([(.string s_0),(.string substr_1)]:List Value).toArray w0 (Ret fun v w'=>w0.grownBy w' none∧v=tup [(.int .i64 r0)]):=by
 unfold strings_Count at h0
 split at h0
 ·rename_i hb
  cases h0
  refine (Any.strings_Count_any laysF138 s_0 substr_1 gmx w0 hb.1 (max_cellF hG) hb.2).mono fun e w' ⟨he,hw⟩=>?_
  subst he hw
  exact ⟨World.grownBy.refl _ _,rfl⟩
 ·cases h0
theorem strings_Index_ok (fuel:Nat) (s_0:ByteArray) (substr_1:ByteArray) (w0:World) (X0:Nat→Prop) (hX0:∀ k,X0 k→k<w0.heap.size) {gmx:Int} (hG:Rd (iE .i64) w0 X0 (some ⟨2,0,none⟩) 1 [gmx]) (r0:Int) (h0:strings_Index fuel s_0 substr_1=some r0):
 Calls Tryz.prog 50 ([(.string s_0),(.string substr_1)]:List Value).toArray w0 (Ret fun v w'=>w0.grownBy w' none∧v=tup [(.int .i64 r0)]):=by
 unfold strings_Index at h0
 split at h0
 ·rename_i hb
  cases h0
  refine (Any.strings_Index laysF143 s_0 substr_1 gmx w0 hb (max_cellF hG)).mono fun e w' ⟨he,hw⟩=>?_
  subst he hw
  exact ⟨World.grownBy.refl _ _,rfl⟩
 ·cases h0
end Go.Proofs.YtmpmeiihjnnomaaGreatDoor
