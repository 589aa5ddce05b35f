import Derived.Laws.Cover4
import Derived.Laws.IdiomStrings
import Derived.Laws.Runes
import Derived.Test.YtaeeniomdicclaaDoorGh
set_option linter.all false
namespace Go.Gv
open Go.RowKit
section
variable {P:Program} {R:RR} {n:Nat} {k:List It} {σ σ':List (Nat × Value)} {w:World} {all:Array Oper} {C:World->Prop} {o:Oper} {m:Mk} {rest:List (Oper × Mk)}
end
end Go.Gv
