/-
  Own helper texts:what remains of a search (a datum that leads to another one of its kind by a pointer),and how it lies in cells. No condition of its own.
-/
import Derived.Test.YtmpmeiihjnnomaaGreatDoorGpc
set_option linter.all false
namespace Go.Gv
def ptE {α:Type} (E:Enc α):Enc (List α) where
 n:=1
 rep w X cs xs:=∃ a cap,cs=[.pointer a]∧Rd E w X a cap xs
 len:=fun ⟨_,_,e,_⟩=>by rw[e];rfl
 one:=fun ⟨_,_,e,_⟩ v hv=>by rw[e]at hv;rw[List.mem_singleton.1 hv];rfl
 keep:=fun ⟨a,cap,e,h⟩ hk=>⟨a,cap,e,h.keep hk⟩
 wide:=fun ⟨a,cap,e,h⟩ hk=>⟨a,cap,e,h.wide hk⟩
inductive Rs where
 | mk (kind:Int) (parts:List Pc) (piece:PcT) (start rounds:Int) (next:List Rs)
abbrev RsT:=Int × List Pc × PcT × Int × Int × List Rs
namespace Rs
def un:Rs→RsT | .mk k p q s r n=>(k,p,q,s,r,n)
def of (t:RsT):Rs:=.mk t.1 t.2.1 t.2.2.1 t.2.2.2.1 t.2.2.2.2.1 t.2.2.2.2.2
end Rs
@[reducible] def rsW (E:Enc Rs):Enc RsT:=prE (iE .i64) (prE (slE pcE) (prE pcT (prE (iE .i64) (prE (iE .i64) (ptE E)))))
def rsN:Nat→Enc Rs
 | 0=>{ n:=12,rep:=fun _ _ _ _=>False,len:=fun h=>h.elim,one:=fun h=>h.elim,keep:=fun h _=>h,wide:=fun h _=>h}
 | d+1=>{ n:=12,rep:=fun w X cs x=>(rsW (rsN d)).rep w X cs x.un,len:=fun h=>(rsW (rsN d)).len h,one:=fun h=>(rsW (rsN d)).one h,keep:=fun h=>(rsW (rsN d)).keep h,wide:=fun h=>(rsW (rsN d)).wide h}
theorem rsN_n (d:Nat):(rsN d).n=12:=by cases d<;>rfl
theorem rsW_mono {E F:Enc Rs} {w:World} {X:Nat→Prop} {cs:List Value} {t:RsT} (hn:E.n=F.n) (hr:∀ x∈t.2.2.2.2.2,∀ cs,E.rep w X cs x→F.rep w X cs x) (h:(rsW E).rep w X cs t):(rsW F).rep w X cs t:=by
 obtain ⟨_,_,rfl,h1,_,_,rfl,h2,_,_,rfl,h3,_,_,rfl,h4,_,_,rfl,h5,a,cap,rfl,h6⟩:=h
 exact ⟨_,_,rfl,h1,_,_,rfl,h2,_,_,rfl,h3,_,_,rfl,h4,_,_,rfl,h5,a,cap,rfl,h6.ofEnc hn hr⟩
def rsE:Enc Rs where
 n:=12
 rep w X cs x:=∃ d,(rsN d).rep w X cs x
 len:=fun ⟨d,h⟩=>by rw[(rsN d).len h,rsN_n]
 one:=fun ⟨d,h⟩=>(rsN d).one h
 keep:=fun ⟨d,h⟩ hk=>⟨d,(rsN d).keep h hk⟩
 wide:=fun ⟨d,h⟩ hk=>⟨d,(rsN d).wide h hk⟩
@[reducible] def rsT:Enc RsT:=rsW rsE
theorem rs_un {w:World} {X:Nat→Prop} {cs:List Value} {x:Rs} (h:rsE.rep w X cs x):rsT.rep w X cs x.un:=by
 obtain ⟨d,h⟩:=h
 cases d with
 | zero=>exact h.elim
 | succ d=>exact rsW_mono (E:=rsN d) (F:=rsE) (rsN_n d) (fun y _ cs h=>⟨d,h⟩) h
end Go.Gv
