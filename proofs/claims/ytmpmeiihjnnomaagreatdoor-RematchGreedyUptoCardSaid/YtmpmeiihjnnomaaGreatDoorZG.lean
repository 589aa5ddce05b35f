import Derived.Test.YtmpmeiihjnnomaaGreatDoorYO
import Derived.Test.YtmpmeiihjnnomaaGreatDoorYO
/-! Own work: the law of repetitions, as it is said. -/
set_option linter.all false
namespace Go.Gv.M
open Go Go.Gv Go.Gv.D Go.Gv.X Go.Gv.R Go.Gv.P Go.Lib
theorem RematchGreedy_said (p:PcT) (lo hi:Int) (s:ByteArray) (i:Int) (_:inK .i64 p.1∧inK .i64 p.2.1∧inK .i64 p.2.2.1∧True∧True∧((∀ x∈p.2.2.2.2.2.1,(fun x=>inK .i64 x.1∧inK .i64 x.2) x)∧p.2.2.2.2.2.1.length≤maxLen)∧((∀ x∈p.2.2.2.2.2.2,(fun _=>True) x)∧p.2.2.2.2.2.2.length≤maxLen)) (hlo:inK .i64 lo) (_:inK .i64 hi) (_:s.size≤maxLen) (_:inK .i64 i)
 (hb:(1+(1+(1+(1+(1+(sumL (fun x:Int × Int=>1+1+1) p.2.2.2.2.2.1+sumL mPc p.2.2.2.2.2.2))))))+(1+(1+((s.size+1)+1)))+1≤1048576):Tot (fun n=>law4_RematchGreedy n p lo hi s i) (· =true):=
 greedy_law (x:=Pc.of p) (bd_said om) hlo om
end Go.Gv.M
