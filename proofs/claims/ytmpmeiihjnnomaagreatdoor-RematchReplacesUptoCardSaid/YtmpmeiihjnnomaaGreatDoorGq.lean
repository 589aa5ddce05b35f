import Derived.Test.YtmpmeiihjnnomaaGreatDoorGk
import Derived.Lib.AtoiAll
import Derived.Lib.SlTrimSet
import Derived.Lib.ItoaNum
import Derived.Lib.LaidTab
import Derived.Lib.Case
import Derived.Lib.ValidU
namespace Go.Gv.D
open Go Go.Gv
noncomputable def strconv_Itoa (_:Nat) (n:Int):Option ByteArray:=
 if-9223372036854775808<=n∧n<=9223372036854775807 then some (strOf (Lib.itoa n)) else none
noncomputable def utf8_DecodeRuneInString (_:Nat) (s:ByteArray):Option (Int × Int):=some (if s.size=0 then (65533,0) else (((Utf8.decode s 0).1:Int),((Utf8.decode s 0).2:Int)))
noncomputable def utf8_ValidString (_:Nat) (s:ByteArray):Option Bool:=if s.size<=9223372036854775807 then some (Lib.validD (bytesOf s)) else none
end Go.Gv.D
set_option linter.all false
namespace Go.Gv
def zsl (g:Nat) (cs:Array Value):Enc Value where
 n:=1
 rep w X c x:=c=[x]∧x.oneCell'=true∧X g∧∃ t f,w.heap[g]? =some (.cells cs t f)
 len e:=by rw[e.1];rfl
 one e v hv:=by rw[e.1]at hv;rw[List.mem_singleton.1 hv];exact e.2.1
 keep e h:=⟨e.1,e.2.1,e.2.2.1,by rw[h _ e.2.2.1];exact e.2.2.2⟩
 wide e h:=⟨e.1,e.2.1,h _ e.2.2.1,e.2.2.2⟩
def pow10C:Array Value:=(Lib.pow10Tab.map fun z=>Value.int .u64 z).toArray
theorem zih {P:Program} {w:World} {X:Nat->Prop} {g:Nat} {nm:String} {x:Value} (hg:P.globalNamed nm=some g) (h:Rd (zsl g pow10C) w X (some ⟨g,0,none⟩) 1 [x]):Lib.TabIs P w nm .u64 Lib.pow10Tab:=by
 obtain ⟨_,_,_,_,_,⟨_,_,_,t,f,hh⟩,_⟩:=h.2 0 x rfl
 show w.var? P nm=_
 simp only[World.var?,hg,Option.bind_some,hh]
 rfl
end Go.Gv
