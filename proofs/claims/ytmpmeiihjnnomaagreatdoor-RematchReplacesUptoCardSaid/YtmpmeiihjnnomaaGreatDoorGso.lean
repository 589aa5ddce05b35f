import Derived.Test.YtmpmeiihjnnomaaGreatDoorGw
import Derived.Sort.Defs
import Derived.Lib.BitFns
set_option linter.all false
namespace Go.Gv
def ltFst (x y:Int × Int):Bool:=decide (x.1<y.1)
def sortR (l:List (Int × Int)):List (Int × Int):=if l=[] then [] else (Go.Sort.pdq ltFst l.toArray 0 l.toArray.size (Go.Lib.bitLen l.toArray.size) true true).toList
namespace D
end D
end Go.Gv
