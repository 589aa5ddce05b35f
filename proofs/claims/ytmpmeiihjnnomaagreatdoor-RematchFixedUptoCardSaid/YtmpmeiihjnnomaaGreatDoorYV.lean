import Derived.Test.YtmpmeiihjnnomaaGreatDoorYE
import Derived.Test.YtmpmeiihjnnomaaGreatDoorYE
/-! Own work: templates as code points. -/
set_option linter.all false
namespace Go.Gv.M
open Go Go.Gv Go.Gv.D Go.Gv.X Go.Gv.R Go.Gv.P Go.Lib
set_option maxHeartbeats 4000000
end Go.Gv.M
/-! Own work: the law of replacing: its loops. -/
namespace Go.Gv.M
open Go Go.Gv Go.Gv.D Go.Gv.X Go.Gv.R Go.Gv.P Go.Lib
set_option maxHeartbeats 4000000
section
variable {ps:List Nat} (hp:∀ c∈ps,Scal c) (hl:ps.length≤400) {G:Nat} (hG:G≤9) (most:Int) (all:List Sp) (hal:all.length≤1000)
include hp hl hG hal
end
/-! a template's faults -/
theorem idx_ints {pre r:List Nat} {c:Nat} {k:Int} (hk:k=(pre.length:Int)):idx (ints (pre++c::r)) k=some (c:Int):=by
 subst hk
 have:ints (pre++c::r)=ints pre++(c:Int)::ints r:=by simp[ints]
 rw[this]
 exact get_mid (ints pre) _ _ (by simp[ints])
end Go.Gv.M
/-! Own work: the law of replacing. -/
namespace Go.Gv.M
open Go Go.Gv Go.Gv.D Go.Gv.X Go.Gv.R Go.Gv.P Go.Lib
set_option maxHeartbeats 4000000
theorem ints_app (a b:List Nat):ints (a++b)=ints a++ints b:=by simp[ints]
section
variable {ps:List Nat} (hl:ps.length≤400) {G:Nat} (hG:G≤9) {t:List Nat} (ht:t.length≤1048576) (all:List Sp) (hal:all.length≤1000)
include hl hG ht
include hal
end
/-! the law -/
end Go.Gv.M
/-! Own work: all matches, replacing and splitting, as the program gives them. -/
namespace Go.Gv.M
open Go Go.Gv Go.Gv.D Go.Gv.X Go.Gv.R Go.Gv.P Go.Lib
set_option maxHeartbeats 4000000
section
variable {p:Pc} {s:ByteArray} {w:Int × Int} (hw:w.1≠0) (hc:∀ i,Tot (fun n=>rematch_check n p.un s i) (· =w))
include hw hc
end
section
variable {p:Pc} {s:ByteArray} {ps:List Nat} (ht:TextOk s ps) (hck:Tot (fun n=>rematch_check n p.un s 0) (· =(0,0)))
include ht hck
theorem All_tot {r:Option (List Sp)} (hall:Tot (fun m=>rematch_all m p.un (ints ps) (-1)) (· =allO r)):Tot (fun n=>rematch_All n p.un s) (· =allO r):=by
 unfold rematch_All
 refine Tot.bindq hck fun a e=>?_
 subst e
 refine Tot.if_ rfl (Tot.bind0 ht.rn (Tot.bindq hall fun a e=>?_))
 subst e
 cases r<;>exact Tot.ret rfl
end
end Go.Gv.M
/-! Own work: the law of replacing. -/
namespace Go.Gv.M
open Go Go.Gv Go.Gv.D Go.Gv.X Go.Gv.R Go.Gv.P Go.Lib
set_option maxHeartbeats 4000000
theorem at_tot (a b:Int):Tot (fun n=>ref4_At n a b) (· =(a,b)):=by unfold ref4_At;exact Tot.ret rfl
end Go.Gv.M
