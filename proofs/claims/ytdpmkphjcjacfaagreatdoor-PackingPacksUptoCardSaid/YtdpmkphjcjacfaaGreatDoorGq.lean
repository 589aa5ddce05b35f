import Derived.Test.YtdpmkphjcjacfaaGreatDoorGk
import Derived.Lib.AtoiAll
import Derived.Lib.SlTrimSet
/- Own work: plain functions for some of package strconv's and strings', within the bounds of their contracts. -/
namespace Go.Gv.D
open Go Go.Gv
def asciiB (s : ByteArray) : Bool := (bytesOf s).all fun b => decide (b.toNat < 128)
noncomputable def strconv_Atoi (_ : Nat) (s : ByteArray) : Option (Int × Bool) :=
  if s.size ≤ 281474976710656 then (match Lib.atoiAll (bytesOf s) with | .ok v => some (v, false) | .range => some (Lib.atoiSat (bytesOf s), true) | _ => none) else none
noncomputable def strings_TrimLeft (_ : Nat) (s cs : ByteArray) : Option ByteArray :=
  if cs.size < 4294967281 ∧ asciiB cs = true then some (strOf (Lib.trimLeftS (bytesOf s) (bytesOf cs))) else none
noncomputable def strings_Trim (_ : Nat) (s cs : ByteArray) : Option ByteArray :=
  if s.size ≤ 9223372036854775807 ∧ cs.size < 4294967281 ∧ asciiB cs = true then some (strOf (Lib.trimS (bytesOf s) (bytesOf cs))) else none
end Go.Gv.D
