import Derived.Test.YtaeeniomdicclaaDoorKA
import Derived.Test.YtaeeniomdicclaaDoorX1
set_option linter.all false
open List renaming replicate->aa
namespace Go.Gv.P
open Go Go.Gv Go.Gv.D Go.Gv.R Go.Lib
open Go.Gv.RI (val Dg Nz OkL OkI OkN vb Db IsB noz zzZ zy1 val_bound zz9 pow_le_left)
set_option maxRecDepth 100000
abbrev Fd:=(List UInt8 × List UInt8 × Bool) × (Int × Int)
def noF (c:Int):Fd:=(([],[],false),(c, -2))
def FE:List UInt8:=[102,101,37]
def sgnS (neg:Bool) (sg:Int):List UInt8:=if neg=true then [45] else if sg=43∨sg=32 then [UInt8.ofNat sg.toNat] else []
def plc (s:Sp):Nat:=if s.2.2.2.2.2.2.2.1=true then s.2.2.2.2.2.2.2.2.1.toNat else 6
def frcB (a b:Int) (s:Sp):List UInt8:=
 if s.2.2.2.2.2.2.2.2.2=101 then sciS a b (plc s) else if s.2.2.2.2.2.2.2.2.2=37 then fixS (a*100) b (plc s) s.2.2.2.2.2.2.1++[37] else fixS a b (plc s) s.2.2.2.2.2.2.1
def frcF (neg:Bool) (a b:Int) (s:Sp):Fd:=
 if s.2.2.2.1=true∨(s.2.2.2.2.2.2.2.2.2=101∧s.2.2.2.2.2.2.1≠0) then noF 6 else ((sgnS neg s.2.2.1,frcB a b s,false),(0,0))
open Go.Gv.RI (val Dg Nz OkL OkI OkN vb Db IsB noz zzZ zy1 val_bound zz9 pow_le_left)
set_option maxRecDepth 100000
def zob (ty:Int):Int:=if ty=98 then 2 else if ty=111 then 8 else if ty=120∨ty=88 then 16 else 10
def pfx (ty:Int):List UInt8:=if ty=98 then [48,98] else if ty=111 then [48,111] else if ty=120 then [48,120] else if ty=88 then [48,88] else []
def badW (s:Sp):Prop:=s.2.2.2.2.2.2.2.1=true∨(zob s.2.2.2.2.2.2.2.2.2=10∧s.2.2.2.1=true)∨(zob s.2.2.2.2.2.2.2.2.2≠10∧s.2.2.2.2.2.2.1=44)
instance (s:Sp):Decidable (badW s):=by unfold badW;infer_instance
def digW (v:Int) (ty:Int):List UInt8:=if ty=88 then toUpperA (wn (zob ty) v) else wn (zob ty) v
def whoF (neg:Bool) (v:Int) (s:Sp):Fd:=
 if badW s then noF 6 else
 ((sgnS neg s.2.2.1++(if s.2.2.2.1=true then pfx s.2.2.2.2.2.2.2.2.2 else []),grp s.2.2.2.2.2.2.1 (if zob s.2.2.2.2.2.2.2.2.2≠10 then 4 else 3) (digW v s.2.2.2.2.2.2.2.2.2),false),(0,0))
def isFE (s:Sp):Prop:=s.2.2.2.2.2.2.2.2.2≠0∧inB FE s.2.2.2.2.2.2.2.2.2=true
instance (s:Sp):Decidable (isFE s):=by unfold isFE;infer_instance
def numF (neg:Bool) (v:Int) (s:Sp):Fd:=if s.2.2.2.2.2.2.2.2.2=115 then noF 13 else if isFE s then frcF neg v 1 s else whoF neg v s
def ratF (neg:Bool) (a b:Int) (s:Sp):Fd:=
 if isFE s then frcF neg a b s else if s.2.2.2.2.2.2.2.2.2≠0 then noF 13 else
 if s.2.2.2.2.2.2.2.1=true∨s.2.2.2.1=true∨s.2.2.2.2.2.2.1≠0 then noF 6 else ((sgnS neg s.2.2.1,wn 10 a++(47::wn 10 b),false),(0,0))
def badT (s:Sp):Prop:=s.2.2.1≠0∨s.2.2.2.1=true∨s.2.2.2.2.1=true∨s.2.2.2.2.2.2.1≠0∨s.2.1=61
instance (s:Sp):Decidable (badT s):=by unfold badT;infer_instance
def cutT (p:List Nat) (s:Sp):List Nat:=if s.2.2.2.2.2.2.2.1=true then p.take s.2.2.2.2.2.2.2.2.1.toNat else p
def txtF (p:List Nat) (s:Sp):Fd:=
 if s.2.2.2.2.2.2.2.2.2≠0∧s.2.2.2.2.2.2.2.2.2≠115 then noF 13 else if badT s then noF 6 else (([],enc (cutT p s),true),(0,0))
open Go.Gv.RI (val Dg Nz OkL OkI OkN vb Db IsB noz zzZ zy1 val_bound zz9 pow_le_left)
set_option maxRecDepth 100000
def zsI (s:Sp):Nat:=if s.1=0 then (if s.2.2.2.2.1=true then 48 else 32) else s.1.toNat
def alN (left:Bool) (s:Sp):Int:=if s.2.1=0 then (if left=true then 60 else if s.2.2.2.2.1=true then 61 else 62) else s.2.1
def padP (ph pb:List Nat) (left:Bool) (s:Sp):List Nat:=
 let n:=s.2.2.2.2.2.1.toNat-ph.length-pb.length
 if alN left s=60 then ph++pb++aa n (zsI s)
 else if alN left s=94 then aa (n/2) (zsI s)++ph++pb++aa (n-n/2) (zsI s)
 else if alN left s=61 then ph++aa n (zsI s)++pb
 else aa n (zsI s)++ph++pb
open Go.Gv.RI (val Dg Nz OkL OkI OkN vb Db IsB noz zzZ zy1 val_bound zz9 pow_le_left)
set_option maxRecDepth 100000
def low (l:List UInt8):Prop:=∀ b∈l,b.toNat<128
theorem low.app {a b:List UInt8} (h1:low a) (h2:low b):low (a++b):=fun x hx=>(List.mem_append.1 hx).elim (h1 x) (h2 x)
theorem low.cons {x:UInt8} {l:List UInt8} (h1:x.toNat<128) (h2:low l):low (x::l):=fun y hy=>by
 rcases List.mem_cons.1 hy with e | e
 ·subst e;exact h1
 ·exact h2 y e
theorem low.take {l:List UInt8} (h:low l) (n:Nat):low (l.take n):=fun b hb=>h b (List.mem_of_mem_take hb)
theorem low.drop {l:List UInt8} (h:low l) (n:Nat):low (l.drop n):=fun b hb=>h b (List.mem_of_mem_drop hb)
open Go.Gv.RI (val Dg Nz OkL OkI OkN vb Db IsB noz zzZ zy1 val_bound zz9 pow_le_left)
set_option maxRecDepth 100000
abbrev Vl:=Int × (Bool × List Int) × (Bool × List Int) × ByteArray × Int
open Go.Gv.RI (val Dg Nz OkL OkI OkN vb Db IsB noz zzZ zy1 val_bound zz9 pow_le_left)
set_option maxRecDepth 100000
open Classical in
noncomputable def pts (t:ByteArray):List Nat:=if h:R.okS t=true then Classical.choose (zqG h) else []
def tf (r:Int):List Nat:=if r=1 then [116,114,117,101] else [102,97,108,115,101]
noncomputable def vtxt (v:Vl):List Nat:=if v.1=1 then tf v.2.2.2.2 else pts v.2.2.2.1
noncomputable def fdf (v:Vl) (s:Sp):Fd:=
 if v.1=2 then numF v.2.1.1 (val v.2.1.2) s else if v.1=3 then ratF v.2.1.1 (val v.2.1.2) (val v.2.2.1.2) s else txtF (vtxt v) s
noncomputable def phf (v:Vl) (s:Sp):List Nat:=(fdf v s).1.1.map (·.toNat)
noncomputable def pbf (v:Vl) (s:Sp):List Nat:=if v.1=2∨v.1=3 then (fdf v s).1.2.1.map (·.toNat) else cutT (vtxt v) s
noncomputable def fin (v:Vl) (s:Sp) (s':Sp):ByteArray × (Int × Int):=
 if (fdf v s).2.1≠0 then (strOf [],(fdf v s).2) else
 if (enc (padP (phf v s) (pbf v s) (fdf v s).1.2.2 s')).length<=4000 then (strOf (enc (padP (phf v s) (pbf v s) (fdf v s).1.2.2 s')),(0,0)) else (strOf [],(3, -1))
open Go.Gv.RI (val Dg Nz OkL OkI OkN vb Db IsB noz)
set_option maxRecDepth 100000
open Go.Gv.RI (val Dg Nz OkL OkI OkN vb Db IsB noz)
set_option maxRecDepth 100000
end Go.Gv.P
