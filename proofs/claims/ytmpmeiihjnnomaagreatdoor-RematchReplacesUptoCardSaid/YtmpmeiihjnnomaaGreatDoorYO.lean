import Derived.Test.YtmpmeiihjnnomaaGreatDoorYE
import Derived.Test.YtmpmeiihjnnomaaGreatDoorGpo
set_option linter.all false
namespace Go.Gv.M
open Go Go.Gv Go.Gv.D Go.Gv.X Go.Gv.R Go.Gv.P Go.Lib
set_option maxRecDepth 100000
theorem zk2 (p:Pc):0<mPc p:=by cases p;rw[mPc];omega
theorem zqH:∀ l:List Pc,l.length<=znk l
 | []=>Nat.zero_le _
 | p::l=>by have:=zqH l;have:=zk2 p;rw[znk,List.length_cons];omega
mutual
theorem bd_m:∀ (p:Pc),mPc p<=2000000->BdL (zxo p)
 | .mk k lo hi no lz rs subs,h=>by
   rw[mPc]at h
   rw[ztU]
   intro q hq
   rcases List.mem_cons.1 hq with rfl | hq
   ·have:=zqH subs
    exact ⟨show rs.length<=BigL by unfold BigL;omega,show subs.length<=BigL by unfold BigL;omega⟩
   ·exact zi9 subs om q hq
theorem zi9:∀ (l:List Pc),znk l<=2000000->BdL (preL l)
 | [],_=>fun q hq=>by rw[preL]at hq;cases hq
 | p::l,h=>fun q hq=>by
   rw[znk]at h
   rw[preL]at hq
   rcases List.mem_append.1 hq with h1 | h1
   ·exact bd_m p om q h1
   ·exact zi9 l om q h1
end
theorem zkY {p:PcT} (hb:zxE (fun x:Int × Int=>1+1+1) p.2.2.2.2.2.1+zxE mPc p.2.2.2.2.2.2<=1048576):BdL (zxo (Pc.of p)):=by
 have h1:=zrv p.2.2.2.2.2.1
 have h2:=zs4 p.2.2.2.2.2.2
 have h3:zxE (fun x:Int × Int=>1+1+1) p.2.2.2.2.2.1=(p.2.2.2.2.2.1.map fun _=>3).sum+1:=rfl
 have h5:zxE mPc p.2.2.2.2.2.2=(p.2.2.2.2.2.2.map mPc).sum+1:=rfl
 have h4:mPc (Pc.of p)=1+p.2.2.2.2.2.1.length+znk p.2.2.2.2.2.2:=by
  show mPc (.mk _ _ _ _ _ _ _)=_
  rw[mPc]
 exact bd_m _ om
end Go.Gv.M
