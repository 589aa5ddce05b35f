import Derived.Test.YtbiopeiafkldiaaGreatDoorL1
set_option linter.all false
namespace Go.Gv.R
open Go Go.Gv Go.Gv.D
/-! ### digits are read -/
def hv (x:UInt8):Int:=nIdxB [48,49,50,51,52,53,54,55,56,57,97,98,99,100,101,102] (x.toNat:Int)
def hn (x:UInt8):Nat:=(hv x).toNat
/-! ### the law's own way -/
end Go.Gv.R
namespace Go.Gv.R
open Go Go.Gv Go.Gv.D
/-! ### letters are read -/
def lv (x:UInt8):Int:=nIdxB [(65:UInt8),(66:UInt8),(67:UInt8),(68:UInt8),(69:UInt8),(70:UInt8),(71:UInt8),(72:UInt8),(73:UInt8),(74:UInt8),(75:UInt8),(76:UInt8),(77:UInt8),(78:UInt8),(79:UInt8),(80:UInt8),(81:UInt8),(82:UInt8),(83:UInt8),(84:UInt8),(85:UInt8),(86:UInt8),(87:UInt8),(88:UInt8),(89:UInt8),(90:UInt8),(97:UInt8),(98:UInt8),(99:UInt8),(100:UInt8),(101:UInt8),(102:UInt8),(103:UInt8),(104:UInt8),(105:UInt8),(106:UInt8),(107:UInt8),(108:UInt8),(109:UInt8),(110:UInt8),(111:UInt8),(112:UInt8),(113:UInt8),(114:UInt8),(115:UInt8),(116:UInt8),(117:UInt8),(118:UInt8),(119:UInt8),(120:UInt8),(121:UInt8),(122:UInt8),(48:UInt8),(49:UInt8),(50:UInt8),(51:UInt8),(52:UInt8),(53:UInt8),(54:UInt8),(55:UInt8),(56:UInt8),(57:UInt8),(43:UInt8),(47:UInt8)] (x.toNat:Int)
/-- the number that the first k letters of y make -/
def part (y:List UInt8) (k:Nat):Nat:=num3 y/2^(24-6*k)*2^(24-6*k)
end Go.Gv.R
namespace Go.Gv.R
open Go Go.Gv Go.Gv.D
end Go.Gv.R
namespace Go.Gv.R
open Go Go.Gv Go.Gv.D
end Go.Gv.R
