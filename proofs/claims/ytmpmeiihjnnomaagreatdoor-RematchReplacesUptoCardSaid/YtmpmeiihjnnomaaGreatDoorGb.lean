import Derived.Test.YtmpmeiihjnnomaaGreatDoorGa
set_option linter.all false
namespace Go.Gv
open Go.RowKit
structure Thr where
 i:Nat
 d:Nat
 ty:TypeId
 z:Array Value
 s:Option (Nat × Nat)
def cnt (A:Array Bool):Nat:=(A.toList.filter id).length
theorem Ok.app {σ τ:List (Nat × Value)} {tm:Array Value} (h:Ok σ tm) (h':Ok τ tm):Ok (σ++τ) tm:=by
 induction σ with
 | nil=>exact h'
 | cons p σ ih=>exact ⟨h.1,ih h.2⟩
theorem Ok.left {σ τ:List (Nat × Value)} {tm:Array Value} (h:Ok (σ++τ) tm):Ok σ tm:=by
 induction σ with
 | nil=>trivial
 | cons p σ ih=>exact ⟨h.1,ih h.2⟩
theorem Ok.right {σ τ:List (Nat × Value)} {tm:Array Value} (h:Ok (σ++τ) tm):Ok τ tm:=by
 induction σ with
 | nil=>exact h
 | cons p σ ih=>exact ih h.2
def Thr.fin (t:Thr) (σ:List (Nat × Value)):Array Value:=
 match t.s with
 | some (_,x)=>match look σ x with
   | some v=>v.cells
   | none=> #[]
 | none=>t.z
theorem zr8 {P:Program} {l:List Oper} {C:World->Prop} {Q:Exit->Act->World->Prop} {rest:List (Oper × Mk)} {i:Nat} {G:Act->World->Prop} {a:Act} {w:World} (hi:i<l.length) (hC:C w)
 (h:wpO P l.toArray C (nQ Q) ((nth l i,some false)::rest) a w) (hG:∀ a' w',C w'->wpO P l.toArray C (nQ Q) rest a' w'->G a' w') {R':Exit->Act->World->Prop} (hp:∀ c a w,Q (.panic c) a w->R' (.panic c) a w:=by exact fun _ _ _ h=>h):
 wpOp P l.toArray (nQ R') i (fun a w=>C w∧G a w) a w:=by
 have hn:l.toArray[i]? =some (nth l i):=by simpa using zwN l i hi
 unfold wpOp
 simp only[hn]
 have h2:(if Region.wanted (nth l i) (yielded l.toArray a.tmps) then (nth l i).wp P a w (fun a' w'=>C w'∧wpO P l.toArray C (nQ Q) rest a' w') (nQ Q) else wpO P l.toArray C (nQ Q) rest (a.put (nth l i).dst undef) w):=h
 split at h2
 ·rename_i hw
  rw[if_pos hw]
  refine .inl (Oper.upon_monoQ (fun a w hh=>⟨hh.1,hG a w hh.1 hh.2⟩) (fun e a w he hh=>?_) h2)
  cases e<;>first | exact hh.elim | exact fun a' ha=>hp _ _ _ (hh a' ha) | exact absurd rfl he
 ·rename_i hw;rw[if_neg hw];exact ⟨hC,hG _ _ hC h2⟩
section
variable {P:Program} {R:RR} {n:Nat} {k:List It} {l:List Oper} {M:World} {Ml:List Nat} {q0:List Nat} {mains:List (Nat × List Nat)} {thr:List Thr} {kp:Nat->List Nat}
end
end Go.Gv
