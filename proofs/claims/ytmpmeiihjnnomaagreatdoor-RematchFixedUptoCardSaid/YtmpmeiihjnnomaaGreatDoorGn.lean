import Derived.Test.YtmpmeiihjnnomaaGreatDoorGl
import Derived.Test.YtmpmeiihjnnomaaGreatDoorGk
import Derived.Stop.LaidErr
set_option linter.all false
namespace Go.Gv
open Go Go.Lib
/-! Own work: sentinels and further tables of a row: what the walks ask of them, and a world that holds them. -/
/- the cells of a datum of numbers -/
mutual
def cellsD {H:Type}:DataW H→List Value
 | .lit (.int k n)=>[.int k n]
 | .agg a=>cellsDAll a
 | _=>[]
def cellsDAll {H:Type}:List (DataW H)→List Value
 | []=>[]
 | d::r=>cellsD d++cellsDAll r
end
end Go.Gv
