import Derived.Test.YtmpmeiihjnnomaaGreatDoorYE
import Derived.Test.YtmpmeiihjnnomaaGreatDoorGpo
/-! Own work: arguments that were read; the law of finding, as it is said. -/
set_option linter.all false
namespace Go.Gv.M
open Go Go.Gv Go.Gv.D Go.Gv.X Go.Gv.R Go.Gv.P Go.Lib
set_option maxRecDepth 100000
theorem mPc_pos (p:Pc):0<mPc p:=by cases p;rw[mPc];omega
theorem mPcL_len:∀ l:List Pc,l.length≤mPcL l
 | []=>Nat.zero_le _
 | p::l=>by have:=mPcL_len l;have:=mPc_pos p;rw[mPcL,List.length_cons];omega
mutual
theorem bd_m:∀ (p:Pc),mPc p≤2000000→BdL (preP p)
 | .mk k lo hi no lz rs subs,h=>by
   rw[mPc]at h
   rw[pre_eq]
   intro q hq
   rcases List.mem_cons.1 hq with rfl | hq
   ·have:=mPcL_len subs
    exact ⟨show rs.length≤BigL by unfold BigL;omega,show subs.length≤BigL by unfold BigL;omega⟩
   ·exact bd_mL subs om q hq
theorem bd_mL:∀ (l:List Pc),mPcL l≤2000000→BdL (preL l)
 | [],_=>fun q hq=>by rw[preL]at hq;cases hq
 | p::l,h=>fun q hq=>by
   rw[mPcL]at h
   rw[preL]at hq
   rcases List.mem_append.1 hq with h1 | h1
   ·exact bd_m p om q h1
   ·exact bd_mL l om q h1
end
theorem bd_said {p:PcT} (hb:sumL (fun x:Int × Int=>1+1+1) p.2.2.2.2.2.1+sumL mPc p.2.2.2.2.2.2≤1048576):BdL (preP (Pc.of p)):=by
 have h1:=sum_ones p.2.2.2.2.2.1
 have h2:=mPcL_sum p.2.2.2.2.2.2
 have h3:sumL (fun x:Int × Int=>1+1+1) p.2.2.2.2.2.1=(p.2.2.2.2.2.1.map fun _=>3).sum+1:=rfl
 have h5:sumL mPc p.2.2.2.2.2.2=(p.2.2.2.2.2.2.map mPc).sum+1:=rfl
 have h4:mPc (Pc.of p)=1+p.2.2.2.2.2.1.length+mPcL p.2.2.2.2.2.2:=by
  show mPc (.mk _ _ _ _ _ _ _)=_
  rw[mPc]
 exact bd_m _ om
end Go.Gv.M
