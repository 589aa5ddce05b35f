import Derived.Test.YtmpmeiihjnnomaaGreatDoorProg
import Derived.Test.YtmpmeiihjnnomaaGreatDoorGu
set_option linter.all false
namespace Go.Proofs.YtmpmeiihjnnomaaGreatDoor
open Go Go.Gv Go.RowKit
abbrev SrSt:Type:=List Int × List (Int × Int) × Int
abbrev SrS (b:Nat) (a:Option Addr):Nat->Prop:=fun k=>k=b∨blk a=some k
theorem zjq {b:Nat} {a:Option Addr} {z:Nat}:∀ g,blk a=some g->SrS b a g∨z<=g:=fun _ e=>.inl (.inr e)
def Beh (b:Nat) (ta:Option Addr) (tc:Nat) (tx:List Int) (a:Option Addr) (c:Nat) (f:Nat) (cap:List Value) (K:Int->SrSt->Option ((Bool × SrSt) ⊕ Unit)) (w:World):Prop:=
 Go.Gv.Enters Tryz.prog f∧∀ (i:Int) (st:SrSt) (w1:World) (r0:(Bool × SrSt) ⊕ Unit),GF w w1 (SrS b a)->Box w1 b 129 #[.slice ta (List.length tx) tc,.slice a (List.length st.2.1) c,.int .i64 st.2.2]->
  Gv.Own (prE (iE .i64) (iE .i64)) 37 w1 (fun _=>False) a c st.2.1->K i st=some r0->
  Calls Tryz.prog f (([.int .i64 i]:List Value)++cap).toArray w1 (RetP (fun (r0:Bool × SrSt) v w'=>GF w1 w' (SrS b a)∧v=tup [.bool r0.1]∧Box w' b 129 #[.slice ta (List.length tx) tc,.slice a (List.length r0.2.2.1) c,.int .i64 r0.2.2.2]∧Gv.Own (prE (iE .i64) (iE .i64)) 37 w' (fun _=>False) a c r0.2.2.1) (fun _:Unit=>Value.iface 125 (.agg #[])) (fun w'=>GF w1 w' (SrS b a)) r0)
section
variable {b:Nat} {ta:Option Addr} {tc:Nat} {tx:List Int} {a:Option Addr} {c:Nat} {f:Nat} {cap:List Value} {K:Int->SrSt->Option ((Bool × SrSt) ⊕ Unit)} {w w':World}
theorem Beh.mono (h:Beh b ta tc tx a c f cap K w) (hg:GF w w' (SrS b a)):Beh b ta tc tx a c f cap K w':=
 ⟨h.1,fun i st w1 r0 h1=>h.2 i st w1 r0 (zqD hg h1 fun _ h=>.inl h)⟩
theorem Beh.pure {D:Int->Option Bool} (he:Go.Gv.Enters Tryz.prog f) (h:∀ (i:Int) (w:World) (r:Bool),D i=some r->Calls Tryz.prog f ([.int .i64 i]:List Value).toArray w (Ret fun v w'=>w.grownBy w' none∧v=tup [.bool r])):
 Beh b ta tc tx a c f [] (fun (i:Int) (st:SrSt)=>Option.bind (D i) fun r=>some (Sum.inl (r,st))) w:=by
 refine ⟨he,fun i st w1 r0 hg hb ho hr=>?_⟩
 obtain ⟨r,h1,h2⟩:=Option.bind_eq_some_iff.1 hr
 cases h2
 intro cs
 obtain ⟨e,w',fr,hR,hc,hf,hl⟩:=h i w1 r h1 cs
 refine ⟨e,w',fr,?_,hc,hf,hl⟩
 cases e with
 | returned v=>
   obtain ⟨g,rfl⟩:=hR
   exact ⟨gf_step (r:=none) (gf_refl w1 _) g nofun,rfl,hb.grown g nofun,ho.grown g (fun _ h=>h.elim) nofun⟩
 | _=>exact hR.elim
end
end Go.Proofs.YtmpmeiihjnnomaaGreatDoor
