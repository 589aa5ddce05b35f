import Derived.Test.YtjhfmibjphdanaaGreatDoorGt
import Derived.Test.YtjhfmibjphdanaaGreatDoorD
set_option linter.all false
namespace Go.Gv.R
open Go Go.Gv Go.Gv.D
theorem i64_small {x:Int} (h: -4611686018427387904≤x) (h':x≤4611686018427387904):IntKind.i64.wrap x=x:=i64_wrap om om
theorem u8_small {x:Int} (h:0≤x) (h':x<256):IntKind.u8.wrap x=x:=by rw[u8_wrap];omega
theorem idx_nat {α:Type} {xs:List α} {i:Nat} (h:i<xs.length):idx xs (i:Int)=some xs[i]:=idx_ok om om
theorem size_bytes (s:ByteArray):s.size=(bytesOf s).length:=by simp[bytesOf]
theorem bytes_str (l:List UInt8):bytesOf (strOf l)=l:=by simp[bytesOf,strOf]
theorem str_bytes (s:ByteArray):strOf (bytesOf s)=s:=by cases s;simp[bytesOf,strOf]
theorem toList_bytes (s:ByteArray):s.toList=bytesOf s:=by
 have h:∀ (n i:Nat) (acc:List UInt8),s.size-i=n→i≤s.size→ByteArray.toList.loop s i acc=acc.reverse++(bytesOf s).drop i:=by
  intro n
  induction n with
  | zero=>
    intro i acc h1 h2
    unfold ByteArray.toList.loop
    rw[if_neg om,List.drop_of_length_le (by rw[← size_bytes];omega),List.append_nil]
  | succ n ih=>
    intro i acc h1 h2
    unfold ByteArray.toList.loop
    rw[if_pos om,ih (i+1) _ om om]
    have hl:i<(bytesOf s).length:=by rw[← size_bytes];omega
    rw[List.drop_eq_getElem_cons hl]
    have:s.get! i=(bytesOf s)[i]:=by
     have hi:i<s.data.size:=by rw[size_bytes]at h2;simpa [bytesOf] using hl
     show s.data[i]! =_
     rw[getElem!_pos s.data i hi]
     simp[bytesOf]
    rw[this]
    simp
 have:=h s.size 0 [] om om
 simpa [ByteArray.toList] using this
theorem str_eq (a b:ByteArray):(a.toList==b.toList)=decide (a=b):=by
 rw[toList_bytes,toList_bytes]
 by_cases h:a=b
 ·subst h;simp
 ·rw[dff h]
  exact beq_eq_false_iff_ne.2 fun e=>h (by rw[← str_bytes a,e,str_bytes])
theorem byte_lt (x:UInt8):x.toNat<256:=x.toNat_lt
theorem byte_all {p:Nat→Bool} (h:(List.range 256).all p=true) (x:UInt8):p x.toNat=true:=
 List.all_eq_true.1 h _ (List.mem_range.2 (byte_lt x))
theorem cat_ok {s t:ByteArray} (h:s.size+t.size≤9223372036854775807):cat s t=some (s++t):=by unfold cat;rw[if_pos h]
theorem size_str (l:List UInt8):(strOf l).size=l.length:=by rw[size_bytes,bytes_str]
theorem cat_str {l m:List UInt8} (h:l.length+m.length≤9223372036854775807):cat (strOf l) (strOf m)=some (strOf (l++m)):=by
 rw[cat_ok (by rw[size_str,size_str];exact h)]
 congr 1
theorem ssub_str {l:List UInt8} {i j:Nat} (h:i≤j) (h':j≤l.length):ssub (strOf l) (i:Int) (j:Int)=some (strOf ((l.take j).drop i)):=by
 unfold ssub
 rw[if_pos ⟨om,om,by rw[size_str];omega⟩]
 congr 1
 apply ByteArray.ext
 simp[strOf,List.drop_take]
/-! ### digits -/
def hexT:List UInt8:=[48,49,50,51,52,53,54,55,56,57,97,98,99,100,101,102]
def hx (n:Nat):UInt8:=hexT.getD n 0
theorem take_snoc {α:Type} {l:List α} {i:Nat} (h:i<l.length):l.take (i+1)=l.take i++[l[i]]:=by
 rw[List.take_add_one,List.getElem?_eq_getElem h];rfl
end Go.Gv.R
namespace Go.Gv.R
open Go Go.Gv Go.Gv.D
/-! ### four letters for three bytes -/
def num3 (y:List UInt8):Nat:=(y.getD 0 0).toNat*65536+(y.getD 1 0).toNat*256+(y.getD 2 0).toNat
end Go.Gv.R
namespace Go.Gv.R
open Go Go.Gv Go.Gv.D
/-! ### the reference's letters -/
def ints (l:List Nat):List Int:=l.map fun (n:Nat)=>(n:Int)
end Go.Gv.R
namespace Go.Gv.R
open Go Go.Gv Go.Gv.D
theorem ints_len (l:List Nat):(ints l).length=l.length:=by simp[ints]
theorem ints_app (l m:List Nat):ints (l++m)=ints l++ints m:=by simp[ints]
theorem ints_get {l:List Nat} {i:Nat} (h:i<l.length):idx (ints l) (i:Int)=some ((l[i]:Nat):Int):=by
 rw[idx_nat (by rw[ints_len];exact h)]
 simp[ints]
end Go.Gv.R
namespace Go.Gv.R
open Go Go.Gv Go.Gv.D
/-! ### digits are read -/
def hv (x:UInt8):Int:=nIdxB [48,49,50,51,52,53,54,55,56,57,97,98,99,100,101,102] (x.toNat:Int)
def hn (x:UInt8):Nat:=(hv x).toNat
theorem set_mid {α:Type} (p:List α) (x y:α) (q:List α) {m:Nat} (h:m=p.length):(p++x::q).set m y=p++y::q:=by
 subst h
 simp
theorem get_mid {α:Type} (p:List α) (x:α) (q:List α) {m:Nat} (h:m=p.length):idx (p++x::q) (m:Int)=some x:=by
 subst h
 rw[idx_nat (by simp)]
 simp
theorem upd_mid {α:Type} (p:List α) (x y:α) (q:List α) {m:Nat} (h:m=p.length):upd (p++x::q) (m:Int) y=some (p++y::q):=by
 unfold upd
 rw[if_pos ⟨om,oss⟩,Int.toNat_natCast,set_mid p x y q h]
/-! ### the law's own way -/
end Go.Gv.R
namespace Go.Gv.R
open Go Go.Gv Go.Gv.D
/-! ### letters are read -/
/-- the number that the first k letters of y make -/
def part (y:List UInt8) (k:Nat):Nat:=num3 y/2^(24-6*k)*2^(24-6*k)
end Go.Gv.R
namespace Go.Gv.R
open Go Go.Gv Go.Gv.D
end Go.Gv.R
namespace Go.Gv.R
open Go Go.Gv Go.Gv.D
end Go.Gv.R
