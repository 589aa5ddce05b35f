import Derived.Test.YtaeeniomdicclaaDoorGt
import Derived.Test.YtaeeniomdicclaaDoorD
set_option linter.all false
namespace Go.Gv.R
open Go Go.Gv Go.Gv.D
theorem i64_small {x:Int} (h: -4611686018427387904<=x) (h':x<=4611686018427387904):IntKind.i64.wrap x=x:=zxG om om
theorem zvt {x:Int} (h:0<=x) (h':x<256):IntKind.u8.wrap x=x:=by rw[zsN];omega
theorem idx_nat {α:Type} {xs:List α} {i:Nat} (h:i<xs.length):idx xs (i:Int)=some xs[i]:=ztZ om om
theorem zuv {s:ByteArray} {i:Nat} (h:i<(bytesOf s).length):zvo s (i:Int)=some ((bytesOf s)[i].toNat:Int):=by
 unfold zvo
 rw[if_pos om]
 rw[show (s.data.toList)[((i:Nat):Int).toNat]? =(bytesOf s)[i]? by rw[Int.toNat_natCast];rfl,List.getElem?_eq_getElem h]
 rfl
theorem zzP (s:ByteArray):s.size=(bytesOf s).length:=by simp[bytesOf]
theorem zzd (l:List UInt8):bytesOf (strOf l)=l:=by simp[bytesOf,strOf]
theorem zya (s:ByteArray):strOf (bytesOf s)=s:=by cases s;simp[bytesOf,strOf]
theorem zwD (s:ByteArray):s.toList=bytesOf s:=by
 have h:∀ (n i:Nat) (a:List UInt8),s.size-i=n->i<=s.size->ByteArray.toList.loop s i a=a.reverse++(bytesOf s).drop i:=by
  intro n
  induction n with
  | zero=>
    intro i a h1 h2
    unfold ByteArray.toList.loop
    rw[if_neg om,List.drop_of_length_le (by rw[<- zzP];omega),List.append_nil]
  | succ n ih=>
    intro i a h1 h2
    unfold ByteArray.toList.loop
    rw[if_pos om,ih (i+1) _ om om]
    have hl:i<(bytesOf s).length:=by rw[<- zzP];omega
    rw[List.drop_eq_getElem_cons hl]
    have:s.get! i=(bytesOf s)[i]:=by
     have hi:i<s.data.size:=by rw[zzP]at h2;simpa [bytesOf] using hl
     show s.data[i]! =_
     rw[getElem!_pos s.data i hi]
     simp[bytesOf]
    rw[this]
    simp
 have:=h s.size 0 [] om om
 simpa [ByteArray.toList] using this
theorem ztO (a b:ByteArray):(a.toList==b.toList)=decide (a=b):=by
 rw[zwD,zwD]
 by_cases h:a=b
 ·subst h;simp
 ·rw[dff h]
  exact beq_eq_false_iff_ne.2 fun e=>h (by rw[<- zya a,e,zya])
theorem zwL (x:UInt8):x.toNat<256:=x.toNat_lt
theorem ztV {p:Nat->Bool} (h:(List.range 256).all p=true) (x:UInt8):p x.toNat=true:=
 List.all_eq_true.1 h _ (List.mem_range.2 (zwL x))
theorem zoS {n:Nat} (h:n<256):u8 (n:Int)=some (UInt8.ofNat n):=by
 unfold u8
 rw[if_pos om,Int.toNat_natCast]
theorem zyj (x:UInt8):u8 (x.toNat:Int)=some x:=by rw[zoS (zwL x),UInt8.ofNat_toNat]
theorem zoB {s t:ByteArray} (h:s.size+t.size<=9223372036854775807):cat s t=some (s++t):=by unfold cat;rw[if_pos h]
theorem zyg (l:List UInt8):(strOf l).size=l.length:=by rw[zzP,zzd]
theorem zyi {l m:List UInt8} (h:l.length+m.length<=9223372036854775807):cat (strOf l) (strOf m)=some (strOf (l++m)):=by
 rw[zoB (by rw[zyg,zyg];exact h)]
 congr 1
def zop:List UInt8:=[48,49,50,51,52,53,54,55,56,57,97,98,99,100,101,102]
def hx (n:Nat):UInt8:=zop.getD n 0
theorem zod (x:UInt8):zvo (strOf [48,49,50,51,52,53,54,55,56,57,97,98,99,100,101,102]) ((x.toNat:Int).fdiv (2^4))=some ((hx (x.toNat/16)).toNat:Int):=by
 have:=ztV (p:=fun n=>zvo (strOf zop) ((n:Int).fdiv (2^4))==some ((hx (n/16)).toNat:Int)) (by kernel_rfl) x
 exact eq_of_beq this
theorem zoZ (x:UInt8):zvo (strOf [48,49,50,51,52,53,54,55,56,57,97,98,99,100,101,102]) (zqr .u8 (x.toNat:Int) 15)=some ((hx (x.toNat%16)).toNat:Int):=by
 have:=ztV (p:=fun n=>zvo (strOf zop) (zqr .u8 (n:Int) 15)==some ((hx (n%16)).toNat:Int)) (by kernel_rfl) x
 exact eq_of_beq this
def hv (x:UInt8):Int:=nIdxB [48,49,50,51,52,53,54,55,56,57,97,98,99,100,101,102] (x.toNat:Int)
def hn (x:UInt8):Nat:=(hv x).toNat
theorem ztS {k:Nat} (h:k<16):zvo (strOf [48,49,50,51,52,53,54,55,56,57,97,98,99,100,101,102]) (k:Int)=some ((zop.getD k 0).toNat:Int):=by
 have:((List.range 16).all fun k=>zvo (strOf zop) ((k:Nat):Int)==some ((zop.getD k 0).toNat:Int))=true:=by kernel_rfl
 exact eq_of_beq (List.all_eq_true.1 this k (List.mem_range.2 h))
end Go.Gv.R
