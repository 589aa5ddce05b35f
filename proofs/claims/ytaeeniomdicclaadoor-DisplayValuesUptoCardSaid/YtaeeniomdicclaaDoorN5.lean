import Derived.Test.YtaeeniomdicclaaDoorV1
set_option linter.all false
namespace Go.Gv.P
open Go Go.Gv Go.Gv.D Go.Gv.R Go.Lib
open Go.Gv.RI (val Dg Nz OkL OkI OkN vb Db IsB Ok3 zzh zyv zzr zze h16 zzo b2 zwu)
set_option maxRecDepth 100000
open Go.Gv.RI (val Dg Nz OkL OkI OkN vb Db IsB Ok3 zzh zyv zzr zze h16 zzo b2 zwu)
set_option maxRecDepth 100000
open Go.Gv.RI (val Dg Nz OkL OkI OkN vb Db IsB Ok3 zzh zyv zzr zze h16 zzo b2 zwu)
set_option maxRecDepth 100000
def Q (a b f:Int):Prop:=scB b (-f)<=scA a (-f)
open Go.Gv.RI (val Dg Nz OkL OkI OkN vb Db IsB Ok3 zzh zyv zzr zze h16 zzo b2 zwu)
set_option maxRecDepth 100000
set_option maxRecDepth 100000
end Go.Gv.P
