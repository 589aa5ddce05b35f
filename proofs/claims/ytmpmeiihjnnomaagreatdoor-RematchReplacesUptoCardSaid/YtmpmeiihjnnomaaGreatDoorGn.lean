import Derived.Test.YtmpmeiihjnnomaaGreatDoorGl
import Derived.Test.YtmpmeiihjnnomaaGreatDoorGk
import Derived.Stop.LaidErr
set_option linter.all false
namespace Go.Gv
open Go Go.Lib
mutual
def zpV {H:Type}:DataW H->List Value
 | .lit (.int k n)=>[.int k n]
 | .agg a=>zrm a
 | _=>[]
def zrm {H:Type}:List (DataW H)->List Value
 | []=>[]
 | d::r=>zpV d++zrm r
end
end Go.Gv
