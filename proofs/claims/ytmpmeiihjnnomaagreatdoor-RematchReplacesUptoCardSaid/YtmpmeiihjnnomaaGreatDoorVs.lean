import Derived.Test.YtmpmeiihjnnomaaGreatDoorProg
import Derived.Shelf.LaysM
import Derived.Shelf.Unicode.ValidAny
import Derived.Shelf.Unicode.DecodeAny
import Derived.Test.YtmpmeiihjnnomaaGreatDoorGs
import Derived.Test.YtmpmeiihjnnomaaGreatDoorGq
set_option linter.all false
namespace Go.Proofs.YtmpmeiihjnnomaaGreatDoor
open Go.Gv Go.Gv.D Go.Shelf Go.RowKit
def ziI:Ren:=⟨fun n=>if n=196 then 41 else if n=259 then 75 else n,fun n=>if n=119 then 140 else if n=46 then 144 else if n=139 then 143 else if n=138 then 142 else if n=53 then 159 else n,fun n=>if n=3 then 0 else if n=4 then 1 else n⟩
theorem zjY:Lays.n196 Tryz.prog ziI:=by constructor<;>first | kernel_rfl | (intro w;kernel_rfl)
theorem zjn:(List.range 256).all (fun c=>(utf8First[c]?).elim false fun b=>b.toNat==Lib.firstT c)=true:=by kernel_rfl
theorem zkc:(List.range 16).all (fun i=>(utf8Acc[i]?).elim false fun p=>p.1==(Lib.accLo i:Int)&&p.2==(Lib.accHi i:Int))=true:=by kernel_rfl
theorem znX {g3 g4:Nat} {w:World} {X:Nat->Prop} (h1:Rd bE w X (some ⟨g3,0,none⟩) 256 utf8First) (h2:Rd (prE (iE .u8) (iE .u8)) w X (some ⟨g4,0,none⟩) 16 utf8Acc):Lib.Utf8Tabs g3 g4 w:=by
 refine ⟨fun c hc=>?_,fun i hi=>?_⟩
 ·have ha:=List.all_eq_true.1 zjn c (List.mem_range.2 hc)
  cases hx:utf8First[c]? with
  | none=>rw[hx]at ha;cases ha
  | some x=>
    rw[hx]at ha
    obtain ⟨b,off,d,e,_,hd,a⟩:=h1.2 c x hx
    cases e
    have:=a 0 _ (by rw[show d=[Value.int .u8 x.toNat] from hd];rfl)
    rw[add_lit]at this
    rw[<- eq_of_beq ha]
    simpa [bE,flat] using this
 ·have ha:=List.all_eq_true.1 zkc i (List.mem_range.2 hi)
  cases hx:utf8Acc[i]? with
  | none=>rw[hx]at ha;cases ha
  | some x=>
    rw[hx]at ha
    simp only[Option.elim,Bool.and_eq_true,beq_iff_eq]at ha
    obtain ⟨b,off,d,e,_,⟨p,q,ed,hp,hq⟩,a⟩:=h2.2 i x hx
    cases e
    have ep:p=[Value.int .u8 x.1]:=hp
    have eq:q=[Value.int .u8 x.2]:=hq
    subst ep;subst eq;subst ed
    have h0:=a 0 _ rfl
    have h1:=a 1 _ rfl
    rw[add_lit]at h0 h1
    have hn:(prE (iE .u8) (iE .u8)).n=2:=rfl
    rw[hn]at h0 h1
    rw[<- ha.1,<- ha.2]
    refine ⟨?_,?_⟩
    ·rw[show 2*i=0+i*2+0 by omega];exact h0
    ·rw[show 2*i+1=0+i*2+1 by omega];exact h1
theorem zy6 (fuel:Nat) (s_0:ByteArray) (w0:World) (X0:Nat->Prop) (hX0:∀ k,X0 k->k<w0.heap.size) (hG0:Rd bE w0 X0 (some ⟨0,0,none⟩) 256 utf8First) (hG1:Rd (prE (iE .u8) (iE .u8)) w0 X0 (some ⟨1,0,none⟩) 16 utf8Acc) (r0:Bool) (h0:utf8_ValidString fuel s_0=some r0):
 Calls Tryz.prog 41 ([(.string s_0)]:List Value).toArray w0 (Ret fun v w'=>w0.grownBy w' none∧v=tup [(.bool r0)]):=by
 unfold utf8_ValidString at h0
 split at h0
 ·rename_i hb
  cases h0
  refine (Any.utf8_ValidString zjY s_0 w0 hb (znX hG0 hG1)).mono fun e w' ⟨he,hw⟩=>?_
  subst he
  exact ⟨grown_of_below hw,rfl⟩
 ·cases h0
def zhp:Ren:=⟨fun n=>if n=197 then 168 else if n=260 then 179 else n,fun n=>if n=105 then 203 else if n=119 then 140 else if n=46 then 144 else if n=139 then 143 else if n=138 then 142 else n,fun n=>if n=3 then 0 else if n=4 then 1 else n⟩
theorem zja:Lays.n197 Tryz.prog zhp:=by constructor<;>first | kernel_rfl | (intro w;kernel_rfl)
theorem zxD (fuel:Nat) (s_0:ByteArray) (w0:World) (X0:Nat->Prop) (hX0:∀ k,X0 k->k<w0.heap.size) (hG0:Rd bE w0 X0 (some ⟨0,0,none⟩) 256 utf8First) (hG1:Rd (prE (iE .u8) (iE .u8)) w0 X0 (some ⟨1,0,none⟩) 16 utf8Acc) (r0:Int × Int) (h0:utf8_DecodeRuneInString fuel s_0=some r0):
 Calls Tryz.prog 168 ([(.string s_0)]:List Value).toArray w0 (Ret fun v w'=>w0.grownBy w' none∧v=tup [(.int .i32 r0.1),(.int .i64 r0.2)]):=by
 unfold utf8_DecodeRuneInString at h0
 cases h0
 refine (Any.utf8_DecodeRuneInString zja s_0 w0 (znX hG0 hG1)).mono fun e w' ⟨he,hw⟩=>?_
 subst he
 refine ⟨grown_of_below hw,?_⟩
 unfold Lib.decodeGo
 by_cases h:s_0.size=0
 ·simp[h,tup]
 ·simp[h,tup]
end Go.Proofs.YtmpmeiihjnnomaaGreatDoor
