import Derived.Test.YtaeeniomdicclaaDoorX1
import Derived.Test.YtaeeniomdicclaaDoorX1
set_option linter.all false
namespace Go.Gv.P
open Go Go.Gv Go.Gv.D Go.Gv.R Go.Lib
set_option maxRecDepth 100000
def inB (S:List UInt8) (x:Int):Bool:=S.contains (UInt8.ofNat x.toNat)
structure SpOk (s:Sp):Prop where
 al:0<=s.2.1∧s.2.1<256
 sg:0<=s.2.2.1∧s.2.2.1<256
 gr:0<=s.2.2.2.2.2.2.1∧s.2.2.2.2.2.2.1<256
 ty:0<=s.2.2.2.2.2.2.2.2.2∧s.2.2.2.2.2.2.2.2.2<256
structure Good (s:Sp):Prop where
 ok:SpOk s
 fill:s.1=0∨(Scal s.1.toNat∧0<=s.1∧s.1≠123∧s.1≠125∧s.2.1≠0)
 al:s.2.1=0∨inB AL s.2.1=true
 sg:s.2.2.1=0∨inB SG s.2.2.1=true
 gr:s.2.2.2.2.2.2.1=0∨inB GR s.2.2.2.2.2.2.1=true
 ty:s.2.2.2.2.2.2.2.2.2=0∨inB TY s.2.2.2.2.2.2.2.2.2=true
 w:0<=s.2.2.2.2.2.1∧s.2.2.2.2.2.1<=400
 p:0<=s.2.2.2.2.2.2.2.2.1∧s.2.2.2.2.2.2.2.2.1<=400
 pz:s.2.2.2.2.2.2.2.1=false->s.2.2.2.2.2.2.2.2.1=0
theorem zp0 {x:Int} (h:0<=x∧x<256):u8 x=some (UInt8.ofNat x.toNat):=by
 have:=zoS (n:=x.toNat) om
 rwa [show ((x.toNat:Nat):Int)=x by omega]at this
section
variable {s:Sp} (g:Good s)
include g
end
section
variable {s:Sp} (g:Good s)
include g
end
end Go.Gv.P
