import Derived.Test.YtaeeniomdicclaaDoorProg
import Derived.Test.YtaeeniomdicclaaDoorGsp
set_option linter.all false
namespace Go.Proofs.YtaeeniomdicclaaDoor
open Go.Gv
def zun:Lin (prE (iE .i64) (prE sE (prE (iE .i64) (prE (slE (iE .i64)) (prE (slE (iE .i64)) (prE (slE sE) (prE (slE (prE (iE .i64) (prE (prE tE (slE (iE .u32))) (prE (prE tE (slE (iE .u32))) (prE sE (iE .i64)))))) (prE (slE (prE (iE .i64) (prE (prE tE (slE (iE .u32))) (prE (prE tE (slE (iE .u32))) (prE sE (iE .i64)))))) (prE (iE .i64) (iE .i64))))))))))
    (prE (iE .i64) (prE (prE tE (slE (iE .u32))) (prE (prE tE (slE (iE .u32))) (prE sE (iE .i64))))) where
 f:=6
 get x:=x.2.2.2.2.2.2.1
 put x ys:=(x.1,x.2.1,x.2.2.1,x.2.2.2.1,x.2.2.2.2.1,x.2.2.2.2.2.1,ys,x.2.2.2.2.2.2.2.1,x.2.2.2.2.2.2.2.2.1,x.2.2.2.2.2.2.2.2.2)
 gp _ _:=rfl
 pp _ _ _:=rfl
 hf:=by decide
end Go.Proofs.YtaeeniomdicclaaDoor
