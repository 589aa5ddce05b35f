import Derived.Test.YtaeeniomdicclaaDoorU1
set_option linter.all false
namespace Go.Gv.R
open Go Go.Gv Go.Gv.D Go.Lib
def okS (s:ByteArray):Bool:=validD (bytesOf s)&&decide (s.size<=4000)
theorem zqG {s:ByteArray} (h:okS s=true):∃ p,(∀ r∈p,Scal r)∧s=strOf (enc p)∧(enc p).length<=4000:=by
 unfold okS at h
 rw[Bool.and_eq_true]at h
 obtain ⟨p,hp,e⟩:=zsL h.1
 have h2:=odt h.2
 refine ⟨p,hp,?_,?_⟩
 ·rw[<- e,zya]
 ·rw[<- e,<- zzP];exact h2
end Go.Gv.R
namespace Go.Gv.P
open Go Go.Gv Go.Gv.D Go.Gv.R
set_option maxRecDepth 100000
def dg (b:UInt8):Bool:=decide (48<=b.toNat)&&decide (b.toNat<=57)
def zon (acc:Nat):List UInt8->Nat
 | []=>acc
 | c::r=>zon (10*acc+(c.toNat-48)) r
theorem zuV:∀ (l:List UInt8) (acc:Nat) (c:UInt8),zon acc (l++[c])=10*zon acc l+(c.toNat-48)
 | [],_,_=>rfl
 | d::r,acc,c=>zuV r (10*acc+(d.toNat-48)) c
end Go.Gv.P
namespace Go.Gv.P
open Go Go.Gv Go.Gv.D
set_option maxRecDepth 100000
end Go.Gv.P
namespace Go.Gv.R
open Go Go.Gv Go.Gv.D Go.Gv.P Go.Lib
set_option maxRecDepth 100000
end Go.Gv.R
namespace Go.Gv.P
open Go Go.Gv Go.Gv.D Go.Gv.R Go.Lib
set_option maxRecDepth 100000
def AL:List UInt8:=[60,62,94,61]
def SG:List UInt8:=[43,45,32]
def GR:List UInt8:=[44,95]
def TY:List UInt8:=[98,111,120,88,100,102,101,37,115]
theorem zub {c:Nat} (h:c<128):(UInt8.ofNat c).toNat=c:=by simp[UInt8.toNat_ofNat',Nat.mod_eq_of_lt (show c<256 by omega)]
end Go.Gv.P
namespace Go.Gv.P
open Go Go.Gv Go.Gv.D Go.Gv.R Go.Lib
set_option maxRecDepth 100000
def dgN (c:Nat):Bool:=decide (48<=c)&&decide (c<=57)
def twN (l:List Nat):List Nat:=l.takeWhile dgN
def dwN (l:List Nat):List Nat:=l.dropWhile dgN
def nb:List Nat->Int × List Nat
 | []=>(-1,[])
 | c::r=>if c=48 then (0,r) else if dgN c=true then (((min (zon 0 (enc (twN (c::r)))) 401:Nat):Int),dwN (c::r)) else (-1,c::r)
abbrev Sp:=Int × Int × Int × Bool × Bool × Int × Int × Bool × Int × Int
theorem zrT {c:Nat} (h:dgN c=true):48<=c∧c<=57:=by simpa [dgN] using h
theorem zwd {l:List Nat} {c:Nat} (h:dgN c=true):zon 0 (enc (l++[c]))=10*zon 0 (enc l)+(c-48):=by
 have hc:=zrT h
 rw[zpf,show enc [c]=[UInt8.ofNat c] by rw[ztj,encR1 om];rfl,zuV,zub om]
end Go.Gv.P
