import Derived.Lib.Bytealg
import Derived.Laws.Externs
import Derived.Test.YtaeeniomdicclaaDoorGe
set_option linter.all false
namespace Go.Gv
open Go.RowKit
def nIdxB (l:List UInt8) (c:Int):Int:=Lib.indexByte l c.toNat.toUInt8
def utf8First:List UInt8:=List.replicate 128 240++List.replicate 66 241++List.replicate 30 2++[19]++List.replicate 12 3++[35,3,3,52]++List.replicate 3 4++[68]++List.replicate 11 241
theorem zut:utf8First.length=256:=by
 unfold utf8First
 simp only[List.length_append,List.length_replicate,List.length_cons,List.length_nil]
def zyh:List (Int × Int):=[(128,191),(160,191),(128,159),(144,191),(128,143)]++List.replicate 11 (0,0)
theorem zvc:zyh.length=16:=by simp[zyh]
section
variable {P:Program} {R:RR} {n:Nat} {k:List It} {σ σ':List (Nat × Value)} {w:World} {all:Array Oper} {C:World->Prop} {o:Oper} {m:Mk} {rest:List (Oper × Mk)}
end
end Go.Gv
