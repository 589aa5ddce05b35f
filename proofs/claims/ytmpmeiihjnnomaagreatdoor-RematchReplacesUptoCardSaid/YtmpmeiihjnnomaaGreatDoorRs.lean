import Derived.Test.YtmpmeiihjnnomaaGreatDoorProg
import Derived.Shelf.LaysM
import Derived.Shelf.Strings.Cut
import Derived.Test.YtmpmeiihjnnomaaGreatDoorGj
import Derived.Test.YtmpmeiihjnnomaaGreatDoorGcp
set_option linter.all false
namespace Go.Proofs.YtmpmeiihjnnomaaGreatDoor
open Go.Gv Go.Gv.D Go.Shelf Go.RowKit
set_option maxRecDepth 1000000
def ziE:Ren:=⟨fun n=>if n=145 then 74 else if n=220 then 99 else if n=219 then 79 else if n=217 then 101 else if n=225 then 102 else if n=224 then 103 else if n=267 then 104 else if n=266 then 125 else if n=314 then 126 else if n=165 then 110 else if n=240 then 76 else if n=241 then 130 else if n=276 then 100 else if n=277 then 156 else if n=169 then 46 else if n=166 then 43 else if n=170 then 45 else n,fun n=>if n=75 then 99 else if n=80 then 106 else if n=59 then 137 else if n=46 then 144 else if n=146 then 164 else if n=51 then 163 else if n=70 then 95 else if n=72 then 97 else if n=37 then 73 else if n=164 then 160 else if n=127 then 145 else n,fun n=>if n=1 then 2 else n⟩
theorem zmB:Lays.n145 Tryz.prog ziE:=by constructor<;>first | kernel_rfl | (intro w;kernel_rfl)
theorem zmX:Lays.n166 Tryz.prog ziE:=by constructor<;>first | kernel_rfl | (intro w;kernel_rfl)
theorem zmT:Lays.n169 Tryz.prog ziE:=by constructor<;>first | kernel_rfl | (intro w;kernel_rfl)
theorem zlF:Lays.n170 Tryz.prog ziE:=by constructor<;>first | kernel_rfl | (intro w;kernel_rfl)
theorem zl8:Builder.Extra Tryz.prog ziE where
 sizeBuilder:=by kernel_rfl
 liesBuilder:=by kernel_rfl
 t5:=by kernel_rfl
 a5:=by intro w;kernel_rfl
 z5:=by intro w;kernel_rfl
 v5:=by intro w;kernel_rfl
 infoByte:=by kernel_rfl
 cellsByte:=by kernel_rfl
 sizeByte:=by kernel_rfl
 neB5:=by decide
theorem zoj {gmx:Int} {w:World} {X:Nat->Prop} (h:Rd (iE .i64) w X (some ⟨2,0,none⟩) 1 [gmx]):w.cell? ⟨2,0,none⟩=some (.int .i64 gmx):=by
 obtain ⟨b,off,c,e,_,hc,a⟩:=h.2 0 gmx rfl
 cases e
 have hc:c=[.int .i64 gmx]:=hc
 subst hc
 have:=a 0 _ rfl
 rwa [add_lit]at this
theorem zyZ {b:Nat} {w:World} {s:ByteArray} {x y:Option (List UInt8)} (h:Bld 97 5 w b x) (hy:zuj x s=some y):
 Calls Tryz.prog 43 ([bp b,.string s]:List Value).toArray w (Ret fun v w'=>v= .tuple #[.int .i64 s.size,.nilIface]∧Below b w w'∧Lib.OthersKept 5 (some b) w w'∧Bld 97 5 w' b y):=ztC zmX zl8 h hy
theorem zt0 {b:Nat} {w:World} {s:ByteArray} {x:Option (List UInt8)} (h:Bld 97 5 w b x) (hy:strB x=some s):
 Calls Tryz.prog 46 ([bp b]:List Value).toArray w (Ret fun v w'=>v= .string s∧Below b w w'∧Lib.OthersKept 5 (some b) w w'):=zp9 zmT zl8 h hy
theorem ztF {b:Nat} {w:World} {n:Int} {x:Option (List UInt8)} (h:Bld 97 5 w b x) (hy:zmG x=some n):
 Calls Tryz.prog 45 ([bp b]:List Value).toArray w (Ret fun v w'=>v=tup [.int .i64 n]∧w'=w):=zkA zlF h hy
theorem zqx (w:World) (q:Nat):w.grownBy (w.drewN q) none:=⟨rfl,rfl,rfl,Nat.le_refl _,fun _ _ _=>rfl⟩
theorem zt5 (fuel:Nat) (s_0:ByteArray) (sep_1:ByteArray) (w0:World) (X0:Nat->Prop) (hX0:∀ k,X0 k->k<w0.heap.size) {gmx:Int} (hG:Rd (iE .i64) w0 X0 (some ⟨2,0,none⟩) 1 [gmx]) (r0:ByteArray × ByteArray × Bool) (h0:strings_Cut fuel s_0 sep_1=some r0):
 Calls Tryz.prog 74 ([(.string s_0),(.string sep_1)]:List Value).toArray w0 (Ret fun v w'=>w0.grownBy w' none∧v=tup [(.string r0.1),(.string r0.2.1),(.bool r0.2.2)]):=by
 unfold strings_Cut at h0
 split at h0
 ·rename_i hb
  cases h0
  refine (Any.strings_Cut zmB s_0 sep_1 gmx w0 hb (zoj hG)).mono fun e w' ⟨he,n,hw⟩=>?_
  subst he hw
  exact ⟨zqx w0 n,rfl⟩
 ·cases h0
end Go.Proofs.YtmpmeiihjnnomaaGreatDoor
