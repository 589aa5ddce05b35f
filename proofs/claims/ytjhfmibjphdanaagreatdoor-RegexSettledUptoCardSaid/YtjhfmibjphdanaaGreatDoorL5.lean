import Derived.Test.YtjhfmibjphdanaaGreatDoorL1
set_option linter.all false
namespace Go.Gv.R
open Go Go.Gv Go.Gv.D
/-! ### digits are read -/
def hv (x:UInt8):Int:=nIdxB [48,49,50,51,52,53,54,55,56,57,97,98,99,100,101,102] (x.toNat:Int)
def hn (x:UInt8):Nat:=(hv x).toNat
theorem set_mid {α:Type} (p:List α) (x y:α) (q:List α) {m:Nat} (h:m=p.length):(p++x::q).set m y=p++y::q:=by
 subst h
 simp
theorem get_mid {α:Type} (p:List α) (x:α) (q:List α) {m:Nat} (h:m=p.length):idx (p++x::q) (m:Int)=some x:=by
 subst h
 rw[idx_nat (by simp)]
 simp
theorem upd_mid {α:Type} (p:List α) (x y:α) (q:List α) {m:Nat} (h:m=p.length):upd (p++x::q) (m:Int) y=some (p++y::q):=by
 unfold upd
 rw[if_pos ⟨om,oss⟩,Int.toNat_natCast,set_mid p x y q h]
/-! ### the law's own way -/
end Go.Gv.R
namespace Go.Gv.R
open Go Go.Gv Go.Gv.D
/-! ### letters are read -/
end Go.Gv.R
namespace Go.Gv.R
open Go Go.Gv Go.Gv.D
end Go.Gv.R
namespace Go.Gv.R
open Go Go.Gv Go.Gv.D
end Go.Gv.R
