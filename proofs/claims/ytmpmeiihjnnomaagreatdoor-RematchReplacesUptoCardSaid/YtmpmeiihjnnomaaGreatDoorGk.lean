import Derived.Lib.AppendStr
import Derived.WideLaws
import Derived.Test.YtmpmeiihjnnomaaGreatDoorGh
set_option linter.all false
namespace Go.Gv
open Go.RowKit
theorem zkW (A:Addr) (i j:Nat):(A.add i).add j=A.add (i+j):=by
 unfold Addr.add
 by_cases h1:i=0<;>by_cases h2:j=0<;>simp[h1,h2]<;>(try cases A;rename_i b o s;cases s<;>simp[Nat.add_assoc])
theorem zpI {w:World} {A:Addr} {cs:List Value} (h:zyL w A cs) (off:Nat) (ps:List Value) (hp:(cs.drop off).take ps.length=ps):zyL w (A.add off) ps:=fun j v hj=>by
 rw[zkW]
 refine h (off+j) v ?_
 have hl:=(List.getElem?_eq_some_iff.1 hj).1
 rw[<- hp,List.getElem?_take,if_pos hl,List.getElem?_drop]at hj
 exact hj
def zkB (a:Option Addr) (l:List Nat):List Nat:=(blk a).toList++l
theorem zk5 {a:Option Addr} {l:List Nat} {g:Nat} (e:blk a=some g):g∈zkB a l:=by unfold zkB;rw[e];exact List.mem_cons_self ..
theorem zjH {a:Option Addr} {l:List Nat} {b:Nat} (h:∀ g,blk a=some g->¬ (· =b) g) (h2:b∉l):b∉zkB a l:=fun hm=>by
 unfold zkB at hm
 rcases List.mem_append.1 hm with hm | hm
 ·cases e:blk a with
  | none=>rw[e]at hm;cases hm
  | some g=>rw[e]at hm;exact h g e (List.mem_singleton.1 hm).symm
 ·exact h2 hm
theorem zl6 {a:Option Addr} {l:List Nat} {A:Nat}:∀ g,blk a=some g->g∈zkB a l∨A<=g:=fun _ e=>.inl (zk5 e)
theorem rf_flat {α:Type} {f:α->Value} {hf:∀ x,(f x).oneCell'=true}:∀ (w:World) (X Y:Nat->Prop) (c:List Value) (x:α),(flat f hf).rep w X c x->(flat f hf).rep w Y c x:=fun _ _ _ _ _ h=>h
theorem zre {α β:Type} {E:Enc α} {F:Enc β} (h1:∀ w X Y c x,E.rep w X c x->E.rep w Y c x) (h2:∀ w X Y c x,F.rep w X c x->F.rep w Y c x):∀ (w:World) (X Y:Nat->Prop) (c:List Value) (x:α × β),(prE E F).rep w X c x->(prE E F).rep w Y c x:=
 fun w X Y _ _ ⟨c,d,e,g1,g2⟩=>⟨c,d,e,h1 w X Y _ _ g1,h2 w X Y _ _ g2⟩
def zeros (l:Int):Option (List UInt8):=if 0<=l∧l<=4294967296 then some (List.replicate l.toNat 0) else none
section
variable {P:Program} {R:RR} {n:Nat} {k:List It} {σ σ':List (Nat × Value)} {w:World} {all:Array Oper} {C:World->Prop} {o:Oper} {m:Mk} {rest:List (Oper × Mk)}
end
end Go.Gv
