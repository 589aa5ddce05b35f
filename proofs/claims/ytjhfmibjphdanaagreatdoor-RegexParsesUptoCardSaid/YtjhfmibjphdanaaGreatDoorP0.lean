import Derived.Test.YtjhfmibjphdanaaGreatDoorRows
import Derived.Test.YtjhfmibjphdanaaGreatDoorGh
import Derived.Test.YtjhfmibjphdanaaGreatDoorD
import Derived.Test.YtjhfmibjphdanaaGreatDoorGpc
import Derived.Test.YtjhfmibjphdanaaGreatDoorGal
import Derived.Test.YtjhfmibjphdanaaGreatDoorGso
import Derived.Test.YtjhfmibjphdanaaGreatDoorRc
import Derived.Test.YtjhfmibjphdanaaGreatDoorRd
import Derived.Test.YtjhfmibjphdanaaGreatDoorSx
import Derived.Test.YtjhfmibjphdanaaGreatDoorVs
import Derived.Test.YtjhfmibjphdanaaGreatDoorSt
set_option linter.all false
set_option maxHeartbeats 4000000
set_option maxRecDepth 100000
/- Own work, printed by a program of mine: the walk of each function: a call returns what the plain function says. -/
namespace Go.Proofs.YtjhfmibjphdanaaGreatDoor
open Go.Gv Go.Gv.D Go.RowKit
open Go.Gv renaming grown_step→aa,gv_nil→ab,rowne→ac,gv_goal→ad,bindE→ae,grown_of_below→ag,gv_call0→ak,gv_cond→al,grown_trans→am,rowpp→ap,gv_store0→aq,gv_goA→ar,ite_t→au,ite_f→av,gv_cret→aw,gv_done→ay,Cls.refl→az,gv_split→aA,gv_ret→aD,gv_cut_code→aE,gv_region→aF,lowb→aH,blk→aI,gv_skip→aJ,gv_stage→aK,Own→aL,gv_in→aM,gv_block→aN,ltx→aP,gv_new0→aQ,gv_cut_ops→aR,inw0→aS,gv_pre→aT,calls_run→aV,gv_seq→aW,elemAddr→ba,ltb→bc,strOf→bh,gv_stageE→bi,gv_sub→bv,Box→bC,cont_inr→bD,blk_neX→bF,nm_nil→bG,rowppr→bH,lowo→bI,rowlo→bN,gv_blk→bQ,Box.ownE→bR,grown_refl→bW,gv_drawA→bX,prE→bY,gv_cexit→cd,inw1→cf,blk_rev→cg,gv_exit→cl,gv_loop→cm,cont_inl→cn,lob→cp,gv_name→cq,gv_append→ct,nmx_nil→cB,blk_step→cC,rdnn→cG,Cls→cS,tup→dn,u8_spec→dt
open Go.Proofs.Tryz renaming prog→aC,underlying22→aY,underlying27→bt,underlying55→bw,underlying23→bT,underlying9→bU,underlying83→ce,underlying77→cQ,underlying61→df,underlying3→dq,underlying5→dr
open List (length)
abbrev bS:=Option Addr
theorem cW {p : Prop} (h : p := by decide) : p := h
abbrev wI (x:Int):Int:=IntKind.i64.wrap x
abbrev wU (x:Int):Int:=IntKind.u64.wrap x
abbrev wT (x:Int):Int:=IntKind.u32.wrap x
abbrev wB (x:Int):Int:=IntKind.u8.wrap x
abbrev wR (x:Int):Int:=IntKind.i32.wrap x
abbrev vI (x:Int):Value:=.int .i64 x
abbrev vW (x:Int):Value:=.int .u64 x
abbrev vT (x:Int):Value:=.int .u32 x
abbrev vU (x:Int):Value:=.int .u8 x
abbrev vR (x:Int):Value:=.int .i32 x
abbrev vB (x:Bool):Value:=.bool x
abbrev vS (x:ByteArray):Value:=.string x
abbrev vL {α:Type} (a:bS) (x:List α) (c:Nat):Value:=.slice a x.length c
abbrev ro (b:Nat):bS:=some ⟨b,0,none⟩
abbrev lz {α:Type} (x:List α):Int:=((x.length:Nat):Int)
abbrev bz (x:ByteArray):Int:=((x.size:Nat):Int)
abbrev Ap (a b:bS):Prop:=∀ g,aI a=some g→¬ (fun k=>aI b=some k) g
abbrev Lo (w:World) (a:bS):Prop:=∀ g,aI a=some g→w.heap.size≤g
abbrev Bl (w w':World):Prop:=Below w.heap.size w w'
abbrev Sz (w w':World):Prop:=w.heap.size≤w'.heap.size
abbrev Qa (a:Act) (n:Nat) (σ:List (Nat × Value)):Prop:=a.defers=[]∧a.tmps.size=n∧Ok σ a.tmps
abbrev bq (x:Int × Int × Int × Bool × Bool × (List (Int × Int)) × (List Pc)) (a0:bS) (c0:Nat) (a1:bS) (c1:Nat):Array Value:= #[vI x.1,vI x.2.1,vI x.2.2.1,vB x.2.2.2.1,vB x.2.2.2.2.1,vL a0 x.2.2.2.2.2.1 c0,vL a1 x.2.2.2.2.2.2 c1]
abbrev da (x:ByteArray × Int × Int × Bool × Bool):Array Value:= #[vS x.1,vI x.2.1,vI x.2.2.1,vB x.2.2.2.1,vB x.2.2.2.2]
abbrev cN (x:Int × Int):Array Value:= #[vI x.1,vI x.2]
abbrev S78 (x:Bool × (List Int)) (a0:bS) (c0:Nat):Array Value:= #[vB x.1,vL a0 x.2 c0]
theorem xq {X c:Nat→Prop} {a:World} {b:Nat} (hs:∀ k,X k→c k∨a.heap.size≤k) (d:∀ k,c k→k<a.heap.size∧k≠b) (hp:b<a.heap.size):¬ X b:=fun h=>(hs _ h).elim (fun h=>(d _ h).2 rfl) (fun h=>Nat.not_lt_of_le h hp)
theorem rg {α:Type} {E:Enc α} {w w':World} {X:Nat→Prop} {a:bS} {cap b:Nat} {xs:List α} (h:Rd E w X a cap xs) (g:w.grownBy w' (some b)) (c:∀ k,X k→k<w.heap.size∧k≠b):Rd E w' X a cap xs:=h.grown g (fun k hk=>(c k hk).1) (fun g e hk=>by cases e;exact (c _ hk).2 rfl)
theorem jg {a:Nat→Prop} {c w:World} {b:Nat} {r:Option Nat} (d:∀ k,a k→k<c.heap.size∧k≠b) (g:c.grownBy w r):∀ k,a k→k<w.heap.size∧k≠b:=fun k hk=>⟨Nat.lt_of_lt_of_le (d k hk).1 g.size,(d k hk).2⟩
abbrev dm (X:Nat→Prop) (w':World) (a:Nat→Prop) (b:World):Prop:=∀ k,X k→k<w'.heap.size∧(a k∨b.heap.size≤k)
theorem cO {X a:Nat→Prop} {w' b:World} (c:∀ k,X k→k<w'.heap.size) (d:∀ k,X k→a k∨b.heap.size≤k):dm X w' a b:=fun k hk=>⟨c k hk,d k hk⟩
abbrev cy:Type:=Int × Int × Int × Bool × Bool × (List (Int × Int)) × (List Pc)
abbrev cu:Type:=ByteArray × Int × Int × Bool × Bool
abbrev cZ:Type:=(List Int) × Int × Int × Int × Bool × Bool × Bool
abbrev bu:Type:=Int × Int
abbrev cz:Array Value:= #[vI 0,vI 0,vI 0,vB false,vB false,vL none ([]:List (Int × Int)) 0,vL none ([]:List Pc) 0]
def qB (n:Nat) (all:Array Oper) (σ:List (Nat × Value)) (o:Oper):Bool:=match o.dst with
  | some d=>Nat.blt d n&&((match guardB all σ o with | some true=>true | _=>false)&&(noSel o.op&&known σ o.op.operands.toList))
  | none=>false
theorem qB_spec {n:Nat} {all:Array Oper} {σ:List (Nat × Value)} {o:Oper} (h:qB n all σ o=true):∃ d,o.dst=some d∧Nat.blt d n=true∧guardB all σ o=some true∧(noSel o.op&&known σ o.op.operands.toList)=true:=by
  unfold qB at h
  cases hd:o.dst with
  | none=>rw[hd]at h;cases h
  | some d=>
    rw[hd]at h
    simp only[Bool.and_eq_true]at h
    refine ⟨d,rfl,h.1,?_,by simp only[Bool.and_eq_true];exact h.2.2⟩
    cases hg:guardB all σ o with
    | none=>rw[hg]at h;cases h.2.1
    | some b=>cases b with
      | true=>rfl
      | false=>rw[hg]at h;cases h.2.1
section
variable {P:Program} {R:RR} {n:Nat} {k:List It} {σ:List (Nat × Value)} {w:World} {all:Array Oper} {C:World→Prop} {o:Oper} {m:Mk} {rest:List (Oper × Mk)}
theorem bx (t:TypeId) (A:Addr) (v:Value) (hc:∀ w',Inw m C w w'→w'.cell? A=some v) (h:Run P R n (.ops all C rest::k) .normal (putO σ o.dst v) w) (hm:m=some false→C w:=by nofun) (hq:qB n all σ o=true:=by kernel_rfl) (hop:execOp (evr σ) o=(do pure (.value (← Instr.loadAt t (.pointer (some A))))):=by kernel_rfl) (ht:aggB P t=some false:=by kernel_rfl):Run P R n (.ops all C ((o,m)::rest)::k) .normal σ w:=by
  obtain ⟨d,a,b,c,e⟩:=qB_spec hq
  rw[a]at h
  exact gv_load v [] hm a b c e hop ht hc rfl h
theorem laq (t:TypeId) (A:Addr) (cs:Array Value) (hc:∀ w',Inw m C w w'→cellsAt w' A cs.toList) (h:Run P R n (.ops all C rest::k) .normal (putO σ o.dst (.agg cs)) w) (hm:m=some false→C w:=by nofun) (hq:qB n all σ o=true:=by kernel_rfl) (hop:execOp (evr σ) o=(do pure (.value (← Instr.loadAt t (.pointer (some A))))):=by kernel_rfl) (ht:aggB P t=some true:=by kernel_rfl) (hsz:(P.info? t).map (·.size)=some cs.size:=by kernel_rfl):Run P R n (.ops all C ((o,m)::rest)::k) .normal σ w:=by
  obtain ⟨d,a,b,c,e⟩:=qB_spec hq
  rw[a]at h
  exact gv_loadAgg cs [] hm a b c e hop ht hsz hc rfl h
theorem lbq (t:TypeId) (b:Nat) (cs:Array Value) (hc:∀ w',Inw m C w w'→w'.heap[b]? =some (.cells cs t (0,0))) (h:Run P R n (.ops all C rest::k) .normal (putO σ o.dst (.agg cs)) w) (hm:m=some false→C w:=by nofun) (hq:qB n all σ o=true:=by kernel_rfl) (hop:execOp (evr σ) o=(do pure (.value (← Instr.loadAt t (.pointer (some ⟨b,0,none⟩))))):=by kernel_rfl) (ht:aggB P t=some true:=by kernel_rfl) (hsz:(P.info? t).map (·.size)=some cs.size:=by kernel_rfl):Run P R n (.ops all C ((o,m)::rest)::k) .normal σ w:=by
  obtain ⟨d,a,c,e,f⟩:=qB_spec hq
  rw[a]at h
  exact gv_loadBox cs [] hm a c e f hop ht hsz hc rfl h
theorem dp {α:Type} {E:Enc α} {X:Nat→Prop} {c:World} {t e:TypeId} {a:bS} {cap:Nat} {xs:List α} {x:α} {i:Int} (kk:IntKind) (sz:Nat) (hR:Rd E c X a cap xs) (hx:idx xs i=some x) (ht:P.underlying t=some (.slice e)) (h:Run P R n (.ops all C rest::k) .normal (putO σ o.dst (.pointer (some (ba a (i.toNat*sz))))) w) (hm:m=some false→C w:=by nofun) (hq:qB n all σ o=true:=by kernel_rfl) (hop:execOp (evr σ) o=(do pure (.value (← Instr.indexAt t (.slice a xs.length cap) (.int kk i)))):=by kernel_rfl) (hsz:(P.info? e).map (·.size)=some sz:=by kernel_rfl):Run P R n (.ops all C ((o,m)::rest)::k) .normal σ w:=by
  obtain ⟨d,b,f,g,j⟩:=qB_spec hq
  rw[b]at h
  exact gv_idxaddr [] hm b f g j hop ht hsz (hR.has hx) (idx_spec hx).1 (idx_spec hx).2.1 rfl h
theorem siq {t:TypeId} {s:ByteArray} {i c:Int} (kk:IntKind) (hx:sidx s i=some c) (ht:P.underlying t=some .string) (h:Run P R n (.ops all C rest::k) .normal (putO σ o.dst (.int .u8 c)) w) (hm:m=some false→C w:=by nofun) (hq:qB n all σ o=true:=by kernel_rfl) (hop:execOp (evr σ) o=(do pure (.value (← Instr.index t (.string s) (.int kk i)))):=by kernel_rfl):Run P R n (.ops all C ((o,m)::rest)::k) .normal σ w:=by
  obtain ⟨d,a,b,e,f⟩:=qB_spec hq
  rw[a]at h
  exact gv_sindex c [] hm a b e f hop ht hx rfl h
theorem dz {s u r:ByteArray} (t:TypeId) (hr:cat s u=some r) (h:Run P R n (.ops all C rest::k) .normal (putO σ o.dst (.string r)) w) (hm:m=some false→C w:=by nofun) (hq:qB n all σ o=true:=by kernel_rfl) (hop:execOp (evr σ) o=(do pure (.value (← binOp .add t (.string s) (.string u)))):=by kernel_rfl):Run P R n (.ops all C ((o,m)::rest)::k) .normal σ w:=by
  obtain ⟨d,a,b,c,e⟩:=qB_spec hq
  rw[a]at h
  exact gv_cat r [] hm a b c e hop hr rfl h
theorem aO {id:Nat} {l:List Oper} {y:Code} (h:Run P R n (.ops l.toArray (fun _=>True) (mk0 l):: .code y::k) .normal σ w) (hr:R.r=none:=by rfl):Run P R n (.code (.seq (.region id l.toArray false) y)::k) .normal σ w:=aW (aF h hr)
theorem cI {x y:Code} (h:Run P R n (.code x:: .code y::k) .normal σ w):Run P R n (.ops all C []:: .code (.seq x y)::k) .normal σ w:=ab (aW h)
theorem bV {id:Nat} {l:List Oper} {y:Code} (h:Run P R n (.ops l.toArray (fun _=>True) (mk0 l):: .code y::k) .normal σ w) (hr:R.r=none:=by rfl):Run P R n (.ops all C []:: .code (.seq (.region id l.toArray false) y)::k) .normal σ w:=ab (aW (aF h hr))
theorem clq {x:Operand} {xs:Array Operand} {tys:Array TypeId} {f:FuncId} {vs:List Value} {S:Value→World→Prop} (hf:Go.Gv.Enters P f) (hc:Calls P f vs.toArray w (Ret S)) (h:∀ v w',S v w'→(m=some false→C w')∧Run P R n (.ops all C rest::k) .normal (putO σ o.dst v) w') (hm:m≠some true:=by decide) (hdn:dstOk n o.dst=true:=by kernel_rfl) (hg:guardB all σ o=some true:=by kernel_rfl) (ho:o.op= .call { callee:=.value x,args:=xs,argTypes:=tys}:=by rfl) (hx:ev σ x=some (.func (.func f) #[] ([]:List Value).toArray):=by kernel_rfl) (hxs:evs σ xs.toList=some vs:=by kernel_rfl):Run P R n (.ops all C ((o,m)::rest)::k) .normal σ w:=
  gv_call (cap:=[]) S hm hdn hg ho hx hxs hf (by rw[List.append_nil];exact hc) h
end
abbrev Lw (X:Nat→Prop) (w:World):Prop:=∀ k,X k→k<w.heap.size
abbrev Cs (f:Nat) (l:List Value) (w:World) (R:Ending→World→Prop):Prop:=Calls aC f l.toArray w R
abbrev G1 (w:World) (r:List Value):Ending→World→Prop:=Ret fun v w'=>w.grownBy w' none∧v=dn r
theorem nl {a b:Nat} (h:a≤b):¬ b<a:=Nat.not_lt_of_le h
theorem sj {α:Type _} {a b:α} (h:some a=some b):a=b:=Option.some.inj h
theorem ng {a b:Nat} (h:b<a):a≠b:=Nat.ne_of_gt h
theorem bm {a b c:Nat} (h:a<b) (h':b≤c):a<c:=Nat.lt_of_lt_of_le h h'
theorem ltt {a b c:Nat} (h:a<b) (h':b<c):a<c:=Nat.lt_trans h h'
section
variable {P:Program} {R:RR} {n:Nat} {k:List It} {σ σ':List (Nat × Value)} {w:World} {all:Array Oper} {C:World→Prop}
theorem pN (c:Nat) (ds:List Nat) (news:List (Nat × Value)) {l:List (Oper × Mk)} (h:Run P R n (.ops all C (drops c l)::k) .normal (nw news ds σ) w) (hp:(match stepsP false P n all c l σ with | some σ1=>picks ((nw news ds σ).map (·.1)) σ1 | none=>none)=some (nw news ds σ):=by kernel_rfl):Run P R n (.ops all C l::k) .normal σ w:=gv_pureN c ds news hp h
theorem okp (ss:List Nat) {t:Array Value} (h:Ok σ t) (hp:picks ss σ=some σ':=by kernel_rfl):Ok σ' t:=ok_pick ss h hp
theorem aZ {σ':List (Nat × Value)} {t:Array Value} (h:Ok σ t) (hp:picks (σ'.map (·.1)) σ=some σ':=by kernel_rfl):Ok σ' t:=ok_pick _ h hp
theorem vLc {α:Type} {x y:List α} {a:bS} {c:Nat} (h:x.length=y.length):vL a x c=vL a y c:=by unfold vL;rw[h]
theorem cj (σ':List (Nat × Value)) {e:Exit} (h:Run P R n k e σ' w) (hp:picks (σ'.map (·.1)) σ=some σ':=by kernel_rfl):Run P R n k e σ w:=bv _ hp h
theorem bZ {a:Nat}:a≤a:=Nat.le_refl a
theorem kr {p:Prop} (h:p:=by kernel_rfl):p:=h
end
open List (length)
theorem cR {P : Program} {f : FuncId} {fn : Func} (h : P.funcs[f]? = some fn) (a : (fn.name == "runtime.NumGoroutine") = false := by kernel_rfl) (b : fn.body.isNone = false := by kernel_rfl) : Go.Gv.Enters P f := ⟨fn, h, a, b⟩
theorem enters6:Go.Gv.Enters aC 6:=cR Tryz.func6
theorem enters7:Go.Gv.Enters aC 7:=cR Tryz.func7
theorem enters9:Go.Gv.Enters aC 9:=cR Tryz.func9
theorem enters10:Go.Gv.Enters aC 10:=cR Tryz.func10
theorem enters11:Go.Gv.Enters aC 11:=cR Tryz.func11
theorem enters12:Go.Gv.Enters aC 12:=cR Tryz.func12
theorem enters14:Go.Gv.Enters aC 14:=cR Tryz.func14
theorem enters15:Go.Gv.Enters aC 15:=cR Tryz.func15
theorem enters16:Go.Gv.Enters aC 16:=cR Tryz.func16
theorem enters17:Go.Gv.Enters aC 17:=cR Tryz.func17
theorem enters19:Go.Gv.Enters aC 19:=cR Tryz.func19
theorem enters21:Go.Gv.Enters aC 21:=cR Tryz.func21
theorem dy:Go.Gv.Enters aC 22:=cR Tryz.func22
theorem enters23:Go.Gv.Enters aC 23:=cR Tryz.func23
theorem enters25:Go.Gv.Enters aC 25:=cR Tryz.func25
theorem cr:Go.Gv.Enters aC 26:=cR Tryz.func26
theorem enters27:Go.Gv.Enters aC 27:=cR Tryz.func27
theorem enters28:Go.Gv.Enters aC 28:=cR Tryz.func28
theorem enters29:Go.Gv.Enters aC 29:=cR Tryz.func29
theorem enters30:Go.Gv.Enters aC 30:=cR Tryz.func30
theorem enters31:Go.Gv.Enters aC 31:=cR Tryz.func31
theorem enters32:Go.Gv.Enters aC 32:=cR Tryz.func32
theorem enters33:Go.Gv.Enters aC 33:=cR Tryz.func33
theorem enters34:Go.Gv.Enters aC 34:=cR Tryz.func34
theorem enters35:Go.Gv.Enters aC 35:=cR Tryz.func35
theorem enters36:Go.Gv.Enters aC 36:=cR Tryz.func36
theorem enters39:Go.Gv.Enters aC 39:=cR Tryz.func39
theorem enters40:Go.Gv.Enters aC 40:=cR Tryz.func40
theorem enters42:Go.Gv.Enters aC 42:=cR Tryz.func42
theorem ci:Go.Gv.Enters aC 43:=cR Tryz.func43
theorem cP:Go.Gv.Enters aC 44:=cR Tryz.func44
theorem enters45:Go.Gv.Enters aC 45:=cR Tryz.func45
theorem enters46:Go.Gv.Enters aC 46:=cR Tryz.func46
theorem enters47:Go.Gv.Enters aC 47:=cR Tryz.func47
theorem enters48:Go.Gv.Enters aC 48:=cR Tryz.func48
theorem enters49:Go.Gv.Enters aC 49:=cR Tryz.func49
theorem enters50:Go.Gv.Enters aC 50:=cR Tryz.func50
theorem cA:Go.Gv.Enters aC 51:=cR Tryz.func51
theorem cU:Go.Gv.Enters aC 52:=cR Tryz.func52
theorem enters53:Go.Gv.Enters aC 53:=cR Tryz.func53
theorem enters58:Go.Gv.Enters aC 58:=cR Tryz.func58
theorem enters59:Go.Gv.Enters aC 59:=cR Tryz.func59
theorem enters60:Go.Gv.Enters aC 60:=cR Tryz.func60
theorem enters61:Go.Gv.Enters aC 61:=cR Tryz.func61
theorem enters62:Go.Gv.Enters aC 62:=cR Tryz.func62
theorem enters63:Go.Gv.Enters aC 63:=cR Tryz.func63
theorem enters64:Go.Gv.Enters aC 64:=cR Tryz.func64
theorem enters65:Go.Gv.Enters aC 65:=cR Tryz.func65
theorem enters66:Go.Gv.Enters aC 66:=cR Tryz.func66
theorem enters67:Go.Gv.Enters aC 67:=cR Tryz.func67
theorem enters68:Go.Gv.Enters aC 68:=cR Tryz.func68
theorem enters69:Go.Gv.Enters aC 69:=cR Tryz.func69
theorem enters70:Go.Gv.Enters aC 70:=cR Tryz.func70
theorem enters71:Go.Gv.Enters aC 71:=cR Tryz.func71
theorem enters72:Go.Gv.Enters aC 72:=cR Tryz.func72
theorem enters73:Go.Gv.Enters aC 73:=cR Tryz.func73
theorem enters77:Go.Gv.Enters aC 77:=cR Tryz.func77
theorem enters78:Go.Gv.Enters aC 78:=cR Tryz.func78
theorem enters79:Go.Gv.Enters aC 79:=cR Tryz.func79
theorem enters80:Go.Gv.Enters aC 80:=cR Tryz.func80
theorem enters81:Go.Gv.Enters aC 81:=cR Tryz.func81
theorem enters82:Go.Gv.Enters aC 82:=cR Tryz.func82
theorem enters83:Go.Gv.Enters aC 83:=cR Tryz.func83
theorem enters84:Go.Gv.Enters aC 84:=cR Tryz.func84
theorem enters85:Go.Gv.Enters aC 85:=cR Tryz.func85
theorem enters86:Go.Gv.Enters aC 86:=cR Tryz.func86
theorem dx:Go.Gv.Enters aC 94:=cR Tryz.func94
theorem enters95:Go.Gv.Enters aC 95:=cR Tryz.func95
theorem enters96:Go.Gv.Enters aC 96:=cR Tryz.func96
theorem dv:Go.Gv.Enters aC 97:=cR Tryz.func97
theorem enters98:Go.Gv.Enters aC 98:=cR Tryz.func98
theorem enters99:Go.Gv.Enters aC 99:=cR Tryz.func99
theorem enters100:Go.Gv.Enters aC 100:=cR Tryz.func100
theorem enters101:Go.Gv.Enters aC 101:=cR Tryz.func101
theorem enters102:Go.Gv.Enters aC 102:=cR Tryz.func102
theorem enters103:Go.Gv.Enters aC 103:=cR Tryz.func103
theorem enters109:Go.Gv.Enters aC 109:=cR Tryz.func109
theorem enters110:Go.Gv.Enters aC 110:=cR Tryz.func110
theorem enters111:Go.Gv.Enters aC 111:=cR Tryz.func111
theorem enters112:Go.Gv.Enters aC 112:=cR Tryz.func112
theorem enters113:Go.Gv.Enters aC 113:=cR Tryz.func113
theorem enters114:Go.Gv.Enters aC 114:=cR Tryz.func114
theorem enters115:Go.Gv.Enters aC 115:=cR Tryz.func115
theorem enters116:Go.Gv.Enters aC 116:=cR Tryz.func116
theorem enters117:Go.Gv.Enters aC 117:=cR Tryz.func117
theorem enters118:Go.Gv.Enters aC 118:=cR Tryz.func118
theorem enters119:Go.Gv.Enters aC 119:=cR Tryz.func119
theorem enters122:Go.Gv.Enters aC 122:=cR Tryz.func122
theorem native87:Go.Gv.Native aC 87 Extern.BytealgIndexByte.indexByte:=⟨Tryz.f87,Tryz.func87,by kernel_rfl,by kernel_rfl,by kernel_rfl,by kernel_rfl⟩
theorem info3:InfoOk aC 3 1:=infoOk (z:=(.int .i64 0)) (bytes:=8) (by kernel_rfl) (by kernel_rfl) (by kernel_rfl) (by kernel_rfl)
theorem info4:InfoOk aC 4 1:=infoOk (z:=(.bool false)) (bytes:=1) (by kernel_rfl) (by kernel_rfl) (by kernel_rfl) (by kernel_rfl)
theorem info5:InfoOk aC 5 1:=infoOk (z:=(.int .u8 0)) (bytes:=1) (by kernel_rfl) (by kernel_rfl) (by kernel_rfl) (by kernel_rfl)
theorem info9:InfoOk aC 9 1:=infoOk (z:=(.string ⟨#[]⟩)) (bytes:=16) (by kernel_rfl) (by kernel_rfl) (by kernel_rfl) (by kernel_rfl)
theorem info25:InfoOk aC 25 7:=infoOk (z:=(.agg #[.int .i64 0,(.int .i64 0),(.int .i64 0),(.bool false),(.bool false),(.slice none 0 0),(.slice none 0 0)])) (bytes:=80) (by kernel_rfl) (by kernel_rfl) (by kernel_rfl) (by kernel_rfl)
theorem info53:InfoOk aC 53 2:=infoOk (z:=(.agg #[.int .i64 0,(.int .i64 0)])) (bytes:=16) (by kernel_rfl) (by kernel_rfl) (by kernel_rfl) (by kernel_rfl)
theorem eqs27eql (a:Int) (b:Int) (c:Int) (d:Int) (x y:Operand) (w:World):(do eqGuard .eql 27 x y (.agg #[.int .i64 a,.int .i64 b]) (.agg #[.int .i64 c,.int .i64 d]);binOp .eql 27 (.agg #[.int .i64 a,.int .i64 b]) (.agg #[.int .i64 c,.int .i64 d]):Sem Value).run aC w= .ok (.bool ((a==c)&&(b==d))) w:=by
  have e:aC.eqGuardType aC.depth 27=false:=by kernel_rfl
  have f:aC.stoodInHeld 27=false:=by kernel_rfl
  have g:aC.underlying 27=some (.struct (aC.fieldsOf 27)):=by kernel_rfl
  have h:=bt
  rw[Sem.run_bind,run_eqGuard_agg w .eql 27 x y _ _ e,Result.andThen_ok,run_eql_struct,run_equalIn_struct w 9999 27 _ _ g f]
  by_cases g0:a=c<;>by_cases g1:b=d<;>simp[Program.fieldsOf,h,Op.eqFields,part,isAgg,run_underlying dq,run_equalIn_int _ _ _ _ _ _ _ dq,g0,g1]
theorem eqs53neq (a:Int) (b:Int) (c:Int) (d:Int) (x y:Operand) (w:World):(do eqGuard .neq 53 x y (.agg #[.int .i64 a,.int .i64 b]) (.agg #[.int .i64 c,.int .i64 d]);binOp .neq 53 (.agg #[.int .i64 a,.int .i64 b]) (.agg #[.int .i64 c,.int .i64 d]):Sem Value).run aC w= .ok (.bool (!((a==c)&&(b==d)))) w:=by
  have e:aC.eqGuardType aC.depth 53=false:=by kernel_rfl
  obtain ⟨i,hi⟩:∃ i,aC.info? 3=some i:=Option.isSome_iff_exists.1 (by kernel_rfl)
  have hc:aC.cellsOf 3=1:=by kernel_rfl
  rw[Sem.run_bind,run_eqGuard_agg w .neq 53 x y _ _ e,Result.andThen_ok,run_neq_struct,run_equalIn_array w 9999 _ _ Tryz.underlying53 hi,hc]
  by_cases g0:a=c<;>by_cases g1:b=d<;>simp[List.range,List.range.loop,Op.eqItems,part,isAgg,run_underlying dq,run_equalIn_int _ _ _ _ _ _ _ dq,g0,g1]

theorem regex_flat_ok (ao:Nat) (af:bS) (ai:Nat) (h:bS) (i:Nat) (c:cy) (n:World) (X0:Nat→Prop) (b6:Lw X0 n) (aG:Rd (bY (iE .i64) (iE .i64)) n X0 af ai c.2.2.2.2.2.1) (a9:Rd pcE n X0 h i c.2.2.2.2.2.2) (r0:Bool) (m:regex_flat ao c=some r0):
    Cs 39 [.agg (bq c af ai h i)] n (G1 n [vB r0]):=by
 have V:Bl n n:=Below.refl _ _;unfold regex_flat at m;refine aV Tryz.func39 rfl Tryz.ntmps39 kr ?_;refine cj [(0,.agg (bq c af ai h i))]<|aO<|aQ bp (bq c af ai h i) 25 kr kr ?_
 intro d w2 W l b2 b7;refine pN 1 [2] []<|bV<|ae m ?_;clear m;intro j7 b m
 refine aR (J:=fun a X=>Bl n X∧Sz w2 X∧bC X d 25 (bq c af ai h i)∧Qa a 76 [(1,bp d),(3,vB j7)]) ?_ ?_
 ·refine pN 1 [5] [(5,bp d)]<|bx 3 ⟨d,0,none⟩ (vI c.1) (aS (l.cell 0 rfl))<|pN 2 [7,8] [(8,vB (c.1==1))]<|aA (s:=8) (g:=(c.1==1)) kr (fun Y=>?_) (fun Y=>?_)
  ·replace b:=au Y b;refine pN 15 [3,9,10,11,12,13,14,15,16,17,18,19,20,21,22] [(3,vB true)]<|ab ?_;obtain rfl:=sj b;refine ad fun a hd hs aj=>?_;exact ⟨(bg V W nb),bZ,l,hd,hs,aZ aj⟩
  ·replace b:=av Y b;refine pN 1 [9] [(9,bp d)]<|bx 3 ⟨d,0,none⟩ (vI c.1) (aS (l.cell 0 rfl))<|pN 3 [11,12,13] [(13,vB (c.1==7))]<|aA (s:=13) (g:=(c.1==7)) kr (fun p=>?_) (fun p=>?_)
   ·replace b:=au p b;refine pN 10 [3,14,15,16,17,18,19,20,21,22] [(3,vB true)]<|ab ?_;obtain rfl:=sj b;refine ad fun a hd hs aj=>?_;exact ⟨(bg V W nb),bZ,l,hd,hs,aZ aj⟩
   ·replace b:=av p b;refine pN 1 [14] [(14,bp d)]<|bx 3 ⟨d,0,none⟩ (vI c.1) (aS (l.cell 0 rfl))<|pN 3 [16,17,18] [(18,vB (c.1==10))]<|aA (s:=18) (g:=(c.1==10)) kr (fun q=>?_) (fun q=>?_)
    ·replace b:=au q b;refine pN 5 [3,19,20,21,22] [(3,vB true)]<|ab ?_;obtain rfl:=sj b;refine ad fun a hd hs aj=>?_;exact ⟨(bg V W nb),bZ,l,hd,hs,aZ aj⟩
    ·replace b:=av q b;refine pN 1 [19] [(19,bp d)]<|bx 3 ⟨d,0,none⟩ (vI c.1) (aS (l.cell 0 rfl))<|pN 3 [3,21,22] [(3,vB (c.1==12))]<|cj [(1,bp d),(3,vB (c.1==12))]<|ab ?_;obtain rfl:=sj b;refine ad fun a hd hs aj=>?_;exact ⟨(bg V W nb),bZ,l,hd,hs,aZ aj⟩
 ·rintro a X ⟨r,b3,k,hd,hs,aj⟩;refine aM ?_ hd hs aj;refine aO<|ae m ?_;clear m;intro j b m
  refine aR (J:=fun a o=>Bl n o∧Sz X o∧bC o d 25 (bq c af ai h i)∧Qa a 76 [(1,bp d),(3,vB j7),(4,vB j)]) ?_ ?_
  ·refine pN 1 [23] [(23,bp d)]<|bx 3 ⟨d,0,none⟩ (vI c.1) (aS (k.cell 0 rfl))<|pN 2 [25,26] [(26,vB (c.1==3))]<|aA (s:=26) (g:=(c.1==3)) kr (fun t=>?_) (fun t=>?_)
   ·replace b:=au t b;refine pN 10 [4,27,28,29,30,31,32,33,34,35] [(4,vB true)]<|ab ?_;obtain rfl:=sj b;refine ad fun a hd hs aj=>?_;exact ⟨r,bZ,k,hd,hs,aZ aj⟩
   ·replace b:=av t b;refine pN 1 [27] [(27,bp d)]<|bx 3 ⟨d,0,none⟩ (vI c.1) (aS (k.cell 0 rfl))<|pN 3 [29,30,31] [(31,vB (c.1==6))]<|aA (s:=31) (g:=(c.1==6)) kr (fun u=>?_) (fun u=>?_)
    ·replace b:=au u b;refine pN 5 [4,32,33,34,35] [(4,vB true)]<|ab ?_;obtain rfl:=sj b;refine ad fun a hd hs aj=>?_;exact ⟨r,bZ,k,hd,hs,aZ aj⟩
    ·replace b:=av u b;refine pN 1 [32] [(32,bp d)]<|bx 3 ⟨d,0,none⟩ (vI c.1) (aS (k.cell 0 rfl))<|pN 3 [4,34,35] [(4,vB (c.1==11))]<|ab ?_;obtain rfl:=sj b;refine ad fun a hd hs aj=>?_;exact ⟨r,bZ,k,hd,hs,aZ aj⟩
  ·rintro a o ⟨f,b4,e,hd,hs,aj⟩;refine aM ?_ hd hs aj;refine aO<|ae m ?_;clear m;intro an b m
   refine aR (J:=fun a Z=>Bl n Z∧Sz o Z∧Qa a 76 [(2,vB an)]) ?_ ?_
   ·refine pN 2 [36,37] [(37,vB j7)]<|aA (s:=37) (g:=j7) kr (fun w=>?_) (fun w=>?_)
    ·replace b:=au w b;refine pN 6 [38,39,40,41,42,43] [(42,vB true),(43,bp d)]<|bx 3 ⟨d,0,none⟩ (vI c.1) (aS (e.cell 0 rfl))<|pN 2 [45,46] [(46,vB (c.1==10))]<|aA (s:=46) (g:=(c.1==10)) kr (fun x=>?_) (fun x=>?_)
     ·replace b:=au x b;refine pN 13 [47,48,49,50,51,52,53,54,55,56,57,58,59] [(57,vB true),(59,vB j)]<|aA (s:=59) (g:=j) kr (fun y=>?_) (fun y=>?_)
      ·replace b:=au y b;refine pN 7 [60,61,62,63,64,65,66] [(65,vB true),(66,bp d)]<|bx 3 ⟨d,0,none⟩ (vI c.1) (aS (e.cell 0 rfl))<|pN 2 [68,69] [(69,vB (c.1==3))]<|aA (s:=69) (g:=(c.1==3)) kr (fun z=>?_) (fun z=>?_)
       ·replace b:=au z b;refine pN 7 [2,70,71,72,73,74,75] [(2,vB true)]<|ab ?_;obtain rfl:=sj b;refine ad fun a hd hs aj=>?_;exact ⟨f,bZ,hd,hs,aZ aj⟩
       ·replace b:=av z b;refine pN 1 [70] [(70,.pointer (some ⟨d,5,none⟩))]<|bx 22 ⟨d,5,none⟩ (vL af c.2.2.2.2.2.1 ai) (aS (e.cell 5 rfl))<|pN 5 [2,72,73,74,75] [(2,vB ((lz c.2.2.2.2.2.1)==0))]<|ae b ?_;clear b;intro bd a0 b;refine cq (s:=2) (v:=(vB ((lz c.2.2.2.2.2.1)==0))) (v':=(vB bd)) kr (congrArg (Value.bool) (sj a0))<|ab ?_;obtain rfl:=sj b;refine ad fun a hd hs aj=>?_;exact ⟨f,bZ,hd,hs,aZ aj⟩
      ·replace b:=av y b;refine pN 1 [60] [(60,.pointer (some ⟨d,3,none⟩))]<|bx 4 ⟨d,3,none⟩ (vB c.2.2.2.1) (aS (e.cell 3 rfl))<|pN 4 [62,63,64,65] [(65,vB (!c.2.2.2.1))]<|aA (s:=65) (g:=(!c.2.2.2.1)) kr (fun A=>?_) (fun A=>?_)
       ·replace b:=au A b;refine pN 1 [66] [(66,bp d)]<|bx 3 ⟨d,0,none⟩ (vI c.1) (aS (e.cell 0 rfl))<|pN 2 [68,69] [(69,vB (c.1==3))]<|aA (s:=69) (g:=(c.1==3)) kr (fun B=>?_) (fun B=>?_)
        ·replace b:=au B b;refine pN 7 [2,70,71,72,73,74,75] [(2,vB true)]<|ab ?_;obtain rfl:=sj b;refine ad fun a hd hs aj=>?_;exact ⟨f,bZ,hd,hs,aZ aj⟩
        ·replace b:=av B b;refine pN 1 [70] [(70,.pointer (some ⟨d,5,none⟩))]<|bx 22 ⟨d,5,none⟩ (vL af c.2.2.2.2.2.1 ai) (aS (e.cell 5 rfl))<|pN 5 [2,72,73,74,75] [(2,vB ((lz c.2.2.2.2.2.1)==0))]<|cj [(2,vB ((lz c.2.2.2.2.2.1)==0))]<|ae b ?_;clear b;intro be a1 b;refine cq (s:=2) (v:=(vB ((lz c.2.2.2.2.2.1)==0))) (v':=(vB be)) kr (congrArg (Value.bool) (sj a1))<|ab ?_;obtain rfl:=sj b;refine ad fun a hd hs aj=>?_;exact ⟨f,bZ,hd,hs,aZ aj⟩
       ·replace b:=av A b;refine pN 11 [2,66,67,68,69,70,71,72,73,74,75] [(2,vB false)]<|ab ?_;obtain rfl:=sj b;refine ad fun a hd hs aj=>?_;exact ⟨f,bZ,hd,hs,aZ aj⟩
     ·replace b:=av x b;refine pN 1 [47] [(47,.pointer (some ⟨d,2,none⟩))]<|bx 3 ⟨d,2,none⟩ (vI c.2.2.1) (aS (e.cell 2 rfl))<|pN 2 [49,50] [(50,vB (c.2.2.1==0))]<|aA (s:=50) (g:=(c.2.2.1==0)) kr (fun C=>?_) (fun C=>?_)
      ·replace b:=au C b;refine pN 1 [51] [(51,.pointer (some ⟨d,4,none⟩))]<|bx 4 ⟨d,4,none⟩ (vB c.2.2.2.2.1) (aS (e.cell 4 rfl))<|pN 5 [53,54,55,56,57] [(57,vB (!c.2.2.2.2.1))]<|aA (s:=57) (g:=(!c.2.2.2.2.1)) kr (fun D=>?_) (fun D=>?_)
       ·replace b:=au D b;refine pN 2 [58,59] [(59,vB j)]<|aA (s:=59) (g:=j) kr (fun E=>?_) (fun E=>?_)
        ·replace b:=au E b;refine pN 7 [60,61,62,63,64,65,66] [(65,vB true),(66,bp d)]<|bx 3 ⟨d,0,none⟩ (vI c.1) (aS (e.cell 0 rfl))<|pN 2 [68,69] [(69,vB (c.1==3))]<|cj [(1,bp d),(65,vB true),(69,vB (c.1==3))]<|aA (s:=69) (g:=(c.1==3)) kr (fun F=>?_) (fun F=>?_)
         ·replace b:=au F b;refine pN 7 [2,70,71,72,73,74,75] [(2,vB true)]<|ab ?_;obtain rfl:=sj b;refine ad fun a hd hs aj=>?_;exact ⟨f,bZ,hd,hs,aZ aj⟩
         ·replace b:=av F b;refine pN 1 [70] [(70,.pointer (some ⟨d,5,none⟩))]<|bx 22 ⟨d,5,none⟩ (vL af c.2.2.2.2.2.1 ai) (aS (e.cell 5 rfl))<|pN 5 [2,72,73,74,75] [(2,vB ((lz c.2.2.2.2.2.1)==0))]<|ae b ?_;clear b;intro bl a2 b;refine cq (s:=2) (v:=(vB ((lz c.2.2.2.2.2.1)==0))) (v':=(vB bl)) kr (congrArg (Value.bool) (sj a2))<|ab ?_;obtain rfl:=sj b;refine ad fun a hd hs aj=>?_;exact ⟨f,bZ,hd,hs,aZ aj⟩
        ·replace b:=av E b;refine pN 1 [60] [(60,.pointer (some ⟨d,3,none⟩))]<|bx 4 ⟨d,3,none⟩ (vB c.2.2.2.1) (aS (e.cell 3 rfl))<|pN 4 [62,63,64,65] [(65,vB (!c.2.2.2.1))]<|cj [(1,bp d),(65,vB (!c.2.2.2.1))]<|aA (s:=65) (g:=(!c.2.2.2.1)) kr (fun G=>?_) (fun G=>?_)
         ·replace b:=au G b;refine pN 1 [66] [(66,bp d)]<|bx 3 ⟨d,0,none⟩ (vI c.1) (aS (e.cell 0 rfl))<|pN 2 [68,69] [(69,vB (c.1==3))]<|aA (s:=69) (g:=(c.1==3)) kr (fun H=>?_) (fun H=>?_)
          ·replace b:=au H b;refine pN 7 [2,70,71,72,73,74,75] [(2,vB true)]<|ab ?_;obtain rfl:=sj b;refine ad fun a hd hs aj=>?_;exact ⟨f,bZ,hd,hs,aZ aj⟩
          ·replace b:=av H b;refine pN 1 [70] [(70,.pointer (some ⟨d,5,none⟩))]<|bx 22 ⟨d,5,none⟩ (vL af c.2.2.2.2.2.1 ai) (aS (e.cell 5 rfl))<|pN 5 [2,72,73,74,75] [(2,vB ((lz c.2.2.2.2.2.1)==0))]<|ae b ?_;clear b;intro bn a3 b;refine cq (s:=2) (v:=(vB ((lz c.2.2.2.2.2.1)==0))) (v':=(vB bn)) kr (congrArg (Value.bool) (sj a3))<|ab ?_;obtain rfl:=sj b;refine ad fun a hd hs aj=>?_;exact ⟨f,bZ,hd,hs,aZ aj⟩
         ·replace b:=av G b;refine pN 11 [2,66,67,68,69,70,71,72,73,74,75] [(2,vB false)]<|ab ?_;obtain rfl:=sj b;refine ad fun a hd hs aj=>?_;exact ⟨f,bZ,hd,hs,aZ aj⟩
       ·replace b:=av D b;refine pN 19 [2,58,59,60,61,62,63,64,65,66,67,68,69,70,71,72,73,74,75] [(2,vB false)]<|ab ?_;obtain rfl:=sj b;refine ad fun a hd hs aj=>?_;exact ⟨f,bZ,hd,hs,aZ aj⟩
      ·replace b:=av C b;refine pN 26 [2,51,52,53,54,55,56,57,58,59,60,61,62,63,64,65,66,67,68,69,70,71,72,73,74,75] [(2,vB false)]<|ab ?_;obtain rfl:=sj b;refine ad fun a hd hs aj=>?_;exact ⟨f,bZ,hd,hs,aZ aj⟩
    ·replace b:=av w b;refine pN 1 [38] [(38,.pointer (some ⟨d,1,none⟩))]<|bx 3 ⟨d,1,none⟩ (vI c.2.1) (aS (e.cell 1 rfl))<|pN 3 [40,41,42] [(42,vB (c.2.1==0))]<|aA (s:=42) (g:=(c.2.1==0)) kr (fun I=>?_) (fun I=>?_)
     ·replace b:=au I b;refine pN 1 [43] [(43,bp d)]<|bx 3 ⟨d,0,none⟩ (vI c.1) (aS (e.cell 0 rfl))<|pN 2 [45,46] [(46,vB (c.1==10))]<|aA (s:=46) (g:=(c.1==10)) kr (fun K=>?_) (fun K=>?_)
      ·replace b:=au K b;refine pN 13 [47,48,49,50,51,52,53,54,55,56,57,58,59] [(57,vB true),(59,vB j)]<|aA (s:=59) (g:=j) kr (fun L=>?_) (fun L=>?_)
       ·replace b:=au L b;refine pN 7 [60,61,62,63,64,65,66] [(65,vB true),(66,bp d)]<|bx 3 ⟨d,0,none⟩ (vI c.1) (aS (e.cell 0 rfl))<|pN 2 [68,69] [(69,vB (c.1==3))]<|aA (s:=69) (g:=(c.1==3)) kr (fun M=>?_) (fun M=>?_)
        ·replace b:=au M b;refine pN 7 [2,70,71,72,73,74,75] [(2,vB true)]<|ab ?_;obtain rfl:=sj b;refine ad fun a hd hs aj=>?_;exact ⟨f,bZ,hd,hs,aZ aj⟩
        ·replace b:=av M b;refine pN 1 [70] [(70,.pointer (some ⟨d,5,none⟩))]<|bx 22 ⟨d,5,none⟩ (vL af c.2.2.2.2.2.1 ai) (aS (e.cell 5 rfl))<|pN 5 [2,72,73,74,75] [(2,vB ((lz c.2.2.2.2.2.1)==0))]<|cj [(2,vB ((lz c.2.2.2.2.2.1)==0))]<|ae b ?_;clear b;intro bo a4 b;refine cq (s:=2) (v:=(vB ((lz c.2.2.2.2.2.1)==0))) (v':=(vB bo)) kr (congrArg (Value.bool) (sj a4))<|ab ?_;obtain rfl:=sj b;refine ad fun a hd hs aj=>?_;exact ⟨f,bZ,hd,hs,aZ aj⟩
       ·replace b:=av L b;refine pN 1 [60] [(60,.pointer (some ⟨d,3,none⟩))]<|bx 4 ⟨d,3,none⟩ (vB c.2.2.2.1) (aS (e.cell 3 rfl))<|pN 4 [62,63,64,65] [(65,vB (!c.2.2.2.1))]<|aA (s:=65) (g:=(!c.2.2.2.1)) kr (fun N=>?_) (fun N=>?_)
        ·replace b:=au N b;refine pN 1 [66] [(66,bp d)]<|bx 3 ⟨d,0,none⟩ (vI c.1) (aS (e.cell 0 rfl))<|pN 2 [68,69] [(69,vB (c.1==3))]<|cj [(1,bp d),(65,vB true),(69,vB (c.1==3))]<|aA (s:=69) (g:=(c.1==3)) kr (fun O=>?_) (fun O=>?_)
         ·replace b:=au O b;refine pN 7 [2,70,71,72,73,74,75] [(2,vB true)]<|ab ?_;obtain rfl:=sj b;refine ad fun a hd hs aj=>?_;exact ⟨f,bZ,hd,hs,aZ aj⟩
         ·replace b:=av O b;refine pN 1 [70] [(70,.pointer (some ⟨d,5,none⟩))]<|bx 22 ⟨d,5,none⟩ (vL af c.2.2.2.2.2.1 ai) (aS (e.cell 5 rfl))<|pN 5 [2,72,73,74,75] [(2,vB ((lz c.2.2.2.2.2.1)==0))]<|ae b ?_;clear b;intro bs a5 b;refine cq (s:=2) (v:=(vB ((lz c.2.2.2.2.2.1)==0))) (v':=(vB bs)) kr (congrArg (Value.bool) (sj a5))<|ab ?_;obtain rfl:=sj b;refine ad fun a hd hs aj=>?_;exact ⟨f,bZ,hd,hs,aZ aj⟩
        ·replace b:=av N b;refine pN 11 [2,66,67,68,69,70,71,72,73,74,75] [(2,vB false)]<|ab ?_;obtain rfl:=sj b;refine ad fun a hd hs aj=>?_;exact ⟨f,bZ,hd,hs,aZ aj⟩
      ·replace b:=av K b;refine pN 1 [47] [(47,.pointer (some ⟨d,2,none⟩))]<|bx 3 ⟨d,2,none⟩ (vI c.2.2.1) (aS (e.cell 2 rfl))<|pN 2 [49,50] [(50,vB (c.2.2.1==0))]<|aA (s:=50) (g:=(c.2.2.1==0)) kr (fun P=>?_) (fun P=>?_)
       ·replace b:=au P b;refine pN 1 [51] [(51,.pointer (some ⟨d,4,none⟩))]<|bx 4 ⟨d,4,none⟩ (vB c.2.2.2.2.1) (aS (e.cell 4 rfl))<|pN 5 [53,54,55,56,57] [(57,vB (!c.2.2.2.2.1))]<|aA (s:=57) (g:=(!c.2.2.2.2.1)) kr (fun Q=>?_) (fun Q=>?_)
        ·replace b:=au Q b;refine pN 2 [58,59] [(59,vB j)]<|cj [(1,bp d),(57,vB true),(59,vB j)]<|aA (s:=59) (g:=j) kr (fun R=>?_) (fun R=>?_)
         ·replace b:=au R b;refine pN 7 [60,61,62,63,64,65,66] [(65,vB true),(66,bp d)]<|bx 3 ⟨d,0,none⟩ (vI c.1) (aS (e.cell 0 rfl))<|pN 2 [68,69] [(69,vB (c.1==3))]<|aA (s:=69) (g:=(c.1==3)) kr (fun S=>?_) (fun S=>?_)
          ·replace b:=au S b;refine pN 7 [2,70,71,72,73,74,75] [(2,vB true)]<|ab ?_;obtain rfl:=sj b;refine ad fun a hd hs aj=>?_;exact ⟨f,bZ,hd,hs,aZ aj⟩
          ·replace b:=av S b;refine pN 1 [70] [(70,.pointer (some ⟨d,5,none⟩))]<|bx 22 ⟨d,5,none⟩ (vL af c.2.2.2.2.2.1 ai) (aS (e.cell 5 rfl))<|pN 5 [2,72,73,74,75] [(2,vB ((lz c.2.2.2.2.2.1)==0))]<|ae b ?_;clear b;intro bA a6 b;refine cq (s:=2) (v:=(vB ((lz c.2.2.2.2.2.1)==0))) (v':=(vB bA)) kr (congrArg (Value.bool) (sj a6))<|ab ?_;obtain rfl:=sj b;refine ad fun a hd hs aj=>?_;exact ⟨f,bZ,hd,hs,aZ aj⟩
         ·replace b:=av R b;refine pN 1 [60] [(60,.pointer (some ⟨d,3,none⟩))]<|bx 4 ⟨d,3,none⟩ (vB c.2.2.2.1) (aS (e.cell 3 rfl))<|pN 4 [62,63,64,65] [(65,vB (!c.2.2.2.1))]<|aA (s:=65) (g:=(!c.2.2.2.1)) kr (fun T=>?_) (fun T=>?_)
          ·replace b:=au T b;refine pN 1 [66] [(66,bp d)]<|bx 3 ⟨d,0,none⟩ (vI c.1) (aS (e.cell 0 rfl))<|pN 2 [68,69] [(69,vB (c.1==3))]<|aA (s:=69) (g:=(c.1==3)) kr (fun U=>?_) (fun U=>?_)
           ·replace b:=au U b;refine pN 7 [2,70,71,72,73,74,75] [(2,vB true)]<|ab ?_;obtain rfl:=sj b;refine ad fun a hd hs aj=>?_;exact ⟨f,bZ,hd,hs,aZ aj⟩
           ·replace b:=av U b;refine pN 1 [70] [(70,.pointer (some ⟨d,5,none⟩))]<|bx 22 ⟨d,5,none⟩ (vL af c.2.2.2.2.2.1 ai) (aS (e.cell 5 rfl))<|pN 5 [2,72,73,74,75] [(2,vB ((lz c.2.2.2.2.2.1)==0))]<|ae b ?_;clear b;intro bE a7 b;refine cq (s:=2) (v:=(vB ((lz c.2.2.2.2.2.1)==0))) (v':=(vB bE)) kr (congrArg (Value.bool) (sj a7))<|ab ?_;obtain rfl:=sj b;refine ad fun a hd hs aj=>?_;exact ⟨f,bZ,hd,hs,aZ aj⟩
          ·replace b:=av T b;refine pN 11 [2,66,67,68,69,70,71,72,73,74,75] [(2,vB false)]<|ab ?_;obtain rfl:=sj b;refine ad fun a hd hs aj=>?_;exact ⟨f,bZ,hd,hs,aZ aj⟩
        ·replace b:=av Q b;refine pN 19 [2,58,59,60,61,62,63,64,65,66,67,68,69,70,71,72,73,74,75] [(2,vB false)]<|cj [(2,vB false)]<|ab ?_;obtain rfl:=sj b;refine ad fun a hd hs aj=>?_;exact ⟨f,bZ,hd,hs,aZ aj⟩
       ·replace b:=av P b;refine pN 26 [2,51,52,53,54,55,56,57,58,59,60,61,62,63,64,65,66,67,68,69,70,71,72,73,74,75] [(2,vB false)]<|ab ?_;obtain rfl:=sj b;refine ad fun a hd hs aj=>?_;exact ⟨f,bZ,hd,hs,aZ aj⟩
     ·replace b:=av I b;refine pN 34 [2,43,44,45,46,47,48,49,50,51,52,53,54,55,56,57,58,59,60,61,62,63,64,65,66,67,68,69,70,71,72,73,74,75] [(2,vB false)]<|ab ?_;obtain rfl:=sj b;refine ad fun a hd hs aj=>?_;exact ⟨f,bZ,hd,hs,aZ aj⟩
   ·rintro a Z ⟨a8,b5,hd,hs,aj⟩;refine aM ?_ hd hs aj;refine aw ?_;obtain rfl:=sj m;refine aD (ay [vB an] rfl ⟨kr,trivial⟩ ?_);exact ⟨ag a8,rfl⟩

theorem utf8_ValidRune_ok (ao:Nat) (c:Int) (f:World) (p:Bool) (d:utf8_ValidRune ao c=some p):
    Cs 79 [vR c] f (G1 f [vB p]):=by
 have h:Bl f f:=Below.refl _ _;unfold utf8_ValidRune at d;refine aV Tryz.func79 rfl Tryz.ntmps79 kr ?_;refine cj [(0,vR c)]<|aO<|pN 1 [2] []<|cI<|aN<|aO<|aR (J:=fun a q=>f=q∧Qa a 17 [(0,vR c),(3,vB ((decide (0≤c))&&(decide (c<55296))))]) ?_ ?_
 ·refine pN 3 [4,5,6] [(6,vB (decide (0≤c)))]<|aA (s:=6) (g:=(decide (0≤c))) kr (fun i=>?_) (fun i=>?_)
  ·refine pN 4 [3,7,8,9] [(3,vB (decide (c<55296)))]<|ab<|bv [0,3] (σ':=[(0,vR c),(3,vB (decide (c<55296)))]) kr<|ad fun a hd hs aj=>⟨rfl,hd,hs,?_⟩;obtain ⟨n,o,_⟩:=aj;exact ⟨n,(by rw[i];exact o),trivial⟩
  ·refine pN 4 [3,7,8,9] [(3,vB false)]<|ab<|bv [0,3] (σ':=[(0,vR c),(3,vB false)]) kr<|ad fun a hd hs aj=>⟨rfl,hd,hs,?_⟩;obtain ⟨n,o,_⟩:=aj;exact ⟨n,(by rw[i];exact o),trivial⟩
 ·rintro a q ⟨e,hd,hs,aj⟩;subst e;refine aM ?_ hd hs aj;refine al (b:=((decide (0≤c))&&(decide (c<55296)))) kr (fun j=>?_) (fun j=>?_)
  ·replace d:=au j d;refine aO<|pN 1 [2] [(2,vB true)]<|ab<|aw ?_
   obtain rfl:=sj d;refine aD (ay [vB true] rfl ⟨kr,trivial⟩ ?_);exact ⟨ag h,rfl⟩
  ·replace d:=av j d;refine aO<|aR (J:=fun a r=>f=r∧Qa a 17 [(10,vB ((decide (57343<c))&&(decide (c≤1114111))))]) ?_ ?_
   ·refine pN 3 [11,12,13] [(13,vB (decide (57343<c)))]<|aA (s:=13) (g:=(decide (57343<c))) kr (fun k=>?_) (fun k=>?_)
    ·refine pN 4 [10,14,15,16] [(10,vB (decide (c≤1114111)))]<|ab<|bv [10] (σ':=[(10,vB (decide (c≤1114111)))]) kr<|ad fun a hd hs aj=>⟨rfl,hd,hs,?_⟩;obtain ⟨l,_⟩:=aj;exact ⟨(by rw[k];exact l),trivial⟩
    ·refine pN 4 [10,14,15,16] [(10,vB false)]<|ab<|bv [10] (σ':=[(10,vB false)]) kr<|ad fun a hd hs aj=>⟨rfl,hd,hs,?_⟩;obtain ⟨l,_⟩:=aj;exact ⟨(by rw[k];exact l),trivial⟩
   ·rintro a r ⟨e,hd,hs,aj⟩;subst e;refine aM ?_ hd hs aj;refine al (b:=((decide (57343<c))&&(decide (c≤1114111)))) kr (fun m=>?_) (fun m=>?_)
    ·replace d:=au m d;refine aO<|pN 1 [2] [(2,vB true)]<|ab<|aw ?_
     obtain rfl:=sj d;refine aD (ay [vB true] rfl ⟨kr,trivial⟩ ?_);exact ⟨ag h,rfl⟩
    ·replace d:=av m d;refine aJ<|bQ<|aO<|pN 1 [2] [(2,vB false)]<|ab<|aw ?_
     obtain rfl:=sj d;refine aD (ay [vB false] rfl ⟨kr,trivial⟩ ?_);exact ⟨ag h,rfl⟩

theorem regex_scalar_ok (ao:Nat) (b:Int) (d:World) (m:Bool) (e:regex_scalar ao b=some m):
    Cs 62 [vI b] d (G1 d [vB m]):=by
 have f:Bl d d:=Below.refl _ _;unfold regex_scalar at e;refine aV Tryz.func62 rfl Tryz.ntmps62 kr ?_;refine cj [(0,vI b)]<|aO<|pN 1 [2] []<|bV<|ae e ?_;clear e;intro n c e
 refine aR (J:=fun a k=>Bl d k∧Sz d k∧Qa a 14 [(2,vB n)]) ?_ ?_
 ·refine pN 3 [3,4,5] [(5,vB (decide (b≥0)))]<|aA (s:=5) (g:=(decide (b≥0))) kr (fun h=>?_) (fun h=>?_)
  ·replace c:=au h c;refine pN 4 [6,7,8,9] [(9,vB (decide (b≤1114111)))]<|aA (s:=9) (g:=(decide (b≤1114111))) kr (fun i=>?_) (fun i=>?_)
   ·replace c:=au i c;refine pN 2 [10,11] [(11,vR (wR (b)))]<|ae c ?_;clear c;intro o p c;refine ak kr rfl kr enters79 (utf8_ValidRune_ok ao (wR (b)) d o p) ?_;rintro r t ⟨j,rfl⟩;refine pN 2 [2,13] [(2,vB o)]<|ab ?_;obtain rfl:=sj c;refine ad fun a hd hs aj=>?_;exact ⟨(bg f j nb),j.size,hd,hs,aZ aj⟩
   ·replace c:=av i c;refine pN 5 [2,10,11,12,13] [(2,vB false)]<|ab ?_;obtain rfl:=sj c;refine ad fun a hd hs aj=>?_;exact ⟨f,bZ,hd,hs,aZ aj⟩
  ·replace c:=av h c;refine pN 9 [2,6,7,8,9,10,11,12,13] [(2,vB false)]<|ab ?_;obtain rfl:=sj c;refine ad fun a hd hs aj=>?_;exact ⟨f,bZ,hd,hs,aZ aj⟩
 ·rintro a k ⟨l,q,hd,hs,aj⟩;refine aM ?_ hd hs aj;refine aw ?_;obtain rfl:=sj e;refine aD (ay [vB n] rfl ⟨kr,trivial⟩ ?_);exact ⟨ag l,rfl⟩

theorem regex_ordered_ok (ao:Nat) (af:bS) (ai:Nat) (c:List bu) (p:World) (X0:Nat→Prop) (z:Lw X0 p) (aG:Rd (bY (iE .i64) (iE .i64)) p X0 af ai c) (r0:Bool) (u:regex_ordered ao c=some r0):
    Cs 63 [vL af c ai] p (G1 p [vB r0]):=by
 have bn:Bl p p:=Below.refl _ _;unfold regex_ordered at u;refine aV Tryz.func63 rfl Tryz.ntmps63 kr ?_;refine cj [(0,vL af c ai)]<|aO<|pN 1 [2] []<|cI<|aO<|pN 3 [5,6,7] [(5,vL af c ai),(6,vI (lz c)),(7,vI 0)]<|ab<|ae u ?_;clear u;intro j1 I u
 refine aE (J:=fun a w3=>∃ s2:Unit,j1= .inl s2∧Bl p w3∧Sz p w3∧Qa a 49 [(0,vL af c ai)]) ?_ ?_
 ·refine aN<|cm (A:=fun (l:Int) a U=>Bl p U∧Sz p U∧Qa a 49 [(0,vL af c ai),(5,vL af c ai),(6,vI (lz c)),(7,vI l)]) I ?_ ?_
  ·intro a hd hs aj;exact ⟨bn,bZ,hd,hs,aZ aj⟩
  ·rintro l r2 o ah a U ⟨j,an,hd,hs,aj⟩;refine aM ?_ hd hs aj;refine aO<|pN 1 [8] [(8,vB (decide (l<(lz c))))]<|cI<|al (b:=(decide (l<(lz c)))) kr (fun K=>?_) (fun K=>?_)
   ·replace o:=au K o;refine aJ<|aW<|aN<|aO<|pN 1 [9] [(9,vI l)]<|ae o ?_;clear o;intro q L o;refine dp .i64 2 (aG.below j z) L aY ?_;obtain ⟨_,⟨_,_,rfl,rfl,rfl⟩,a3⟩:=aG.cellsK L;refine laq 53 (ba af ((l:Int).toNat*2)) (cN q) (aS (a3 U (fun k hk=>j.block k (z k hk)))) ?_;refine aQ bp #[vI 0,vI 0] 53 kr kr ?_;intro f ck w a4 r b0;refine pN 1 [3] [(3,vI l)]<|aq 53 0 (.agg (cN q)) (cN q) a4 kr kr kr ?_;intro bs x a5 b1;refine cI<|ae o ?_;clear o;intro ax d o
    refine aE (J:=fun a M=>Bl p M∧Sz bs M∧Qa a 49 [(0,vL af c ai),(5,vL af c ai),(6,vI (lz c)),(7,vI l),(44,vB ax)]) ?_ ?_
    ·refine bX kr ?_;intro N h;refine aT [0] (bA 33 [0]) 32 kr kr<|pN 1 [12] [(12,bp f)]<|ab<|ar<|aK (cS N []) [1] [(1,some true)] (bA 33 [0,1]) 31 kr kr (az _ _) ?_;have b2:=az N [];have O:=a5.grown h nb;refine bx 3 ⟨f,0,none⟩ (vI q.1) (cf fun w' hC'=>((hC'.box O bG).cell 0 rfl)) ?_;refine ab<|ar<|aK (fun _=>True) [2] [(2,some false)] (bA 33 [0,1,2]) 30 kr kr trivial ?_;refine ae d ?_;clear d;intro P a6 d;refine clq enters62 (regex_scalar_ok ao q.1 N P a6) ?_;rintro cs t ⟨i,rfl⟩;refine ⟨(fun _=>trivial),?_⟩;refine ab<|ar<|aT [3,4,5] (bA 33 [0,1,2,3,4,5]) 27 kr kr<|pN 2 [15,16] [(16,vB (!P))]<|aA (s:=16) (g:=(!P)) kr (fun B=>?_) (fun B=>?_)
     ·replace d:=au B d;refine pN 1 [17] [(17,undef)]<|ab<|ar<|aK (cS t []) [6] [(6,some true)] (bA 33 [0,1,2,3,4,5,6]) 26 kr kr (az _ _) ?_;have b3:=az t [];refine pN 1 [18] [(18,undef)]<|ab<|ar<|aK (fun _=>True) [7] [(7,some false)] (bA 33 [0,1,2,3,4,5,6,7]) 25 kr kr trivial ?_;refine gv_pureNC trivial 1 [19] [(19,undef)] kr<|cj [(0,vL af c ai),(3,vI l),(4,bp f),(5,vL af c ai),(6,vI (lz c)),(7,vI l),(16,vB true),(19,undef)]<|ab<|ar<|aT [8,9,10,11,13] (bA 33 [0,1,2,3,4,5,6,7,8,9,10,11,13]) 20 kr kr<|pN 5 [20,21,22,23,25] [(22,vB true),(23,undef),(25,undef)]<|ab<|ar<|aK (cS t []) [12,14] [(12,some true),(14,some true)] (bA 33 [0,1,2,3,4,5,6,7,8,9,10,11,12,13,14]) 18 kr kr (az _ _) ?_;have b4:=az t [];refine pN 2 [24,26] [(24,undef),(26,undef)]<|ab<|ar<|aT [15,16,17,18,19,20,21,23,24,25,26,27] (bA 33 [0,1,2,3,4,5,6,7,8,9,10,11,12,13,14,15,16,17,18,19,20,21,23,24,25,26,27]) 6 kr kr<|pN 12 [27,28,29,30,31,32,33,35,36,37,38,39] [(29,vB true),(32,undef),(33,undef),(39,undef)]<|ab<|ar<|aK (cS t []) [22,28,29] [(22,some true),(28,some true),(29,some true)] (bA 33 [0,1,2,3,4,5,6,7,8,9,10,11,12,13,14,15,16,17,18,19,20,21,22,23,24,25,26,27,28,29]) 3 kr kr (az _ _) ?_;have b5:=az t [];refine pN 3 [34,40,41] [(34,undef),(41,undef)]<|ab<|ar<|aT [30,31,32] (bA 33 [0,1,2,3,4,5,6,7,8,9,10,11,12,13,14,15,16,17,18,19,20,21,22,23,24,25,26,27,28,29,30,31,32]) 0 kr kr<|pN 3 [42,43,44] [(44,vB true)]<|ab<|ar<|bi kr ?_;obtain rfl:=sj d;refine ad fun a hd hs aj=>?_;have V:p.heap.size≤f:=cp r j.size;exact ⟨(bg (bg (bg j w nb) x (bN V)) (am h i) nb),(nt h.size i.size),hd,hs,aZ aj⟩
     ·replace d:=av B d;refine pN 1 [17] [(17,.pointer (some ⟨f,1,none⟩))]<|ab<|ar<|aK (cS t []) [6] [(6,some true)] (bA 33 [0,1,2,3,4,5,6]) 26 kr kr (az _ _) ?_;have b6:=az t [];have Q:=O.grown i nb;refine bx 3 ⟨f,1,none⟩ (vI q.2) (cf fun w' hC'=>((hC'.box Q bG).cell 1 rfl)) ?_;refine ab<|ar<|aK (fun _=>True) [7] [(7,some false)] (bA 33 [0,1,2,3,4,5,6,7]) 25 kr kr trivial ?_;refine ae d ?_;clear d;intro H a7 d;refine clq enters62 (regex_scalar_ok ao q.2 t H a7) ?_;rintro cv n ⟨m,rfl⟩;refine ⟨(fun _=>trivial),?_⟩;refine ab<|ar<|aT [8,9,10,11,13] (bA 33 [0,1,2,3,4,5,6,7,8,9,10,11,13]) 20 kr kr<|pN 3 [20,21,22] [(22,vB (!H))]<|cj [(0,vL af c ai),(3,vI l),(4,bp f),(5,vL af c ai),(6,vI (lz c)),(7,vI l),(22,vB (!H))]<|aA (s:=22) (g:=(!H)) kr (fun C=>?_) (fun C=>?_)
      ·replace d:=au C d;refine pN 2 [23,25] [(23,undef),(25,undef)]<|ab<|ar<|aK (cS n []) [12,14] [(12,some true),(14,some true)] (bA 33 [0,1,2,3,4,5,6,7,8,9,10,11,12,13,14]) 18 kr kr (az _ _) ?_;have b7:=az n [];refine pN 2 [24,26] [(24,undef),(26,undef)]<|ab<|ar<|aT [15,16,17,18,19,20,21,23,24,25,26,27] (bA 33 [0,1,2,3,4,5,6,7,8,9,10,11,12,13,14,15,16,17,18,19,20,21,23,24,25,26,27]) 6 kr kr<|pN 12 [27,28,29,30,31,32,33,35,36,37,38,39] [(29,vB true),(32,undef),(33,undef),(39,undef)]<|ab<|ar<|aK (cS n []) [22,28,29] [(22,some true),(28,some true),(29,some true)] (bA 33 [0,1,2,3,4,5,6,7,8,9,10,11,12,13,14,15,16,17,18,19,20,21,22,23,24,25,26,27,28,29]) 3 kr kr (az _ _) ?_;have b8:=az n [];refine pN 3 [34,40,41] [(34,undef),(41,undef)]<|ab<|ar<|aT [30,31,32] (bA 33 [0,1,2,3,4,5,6,7,8,9,10,11,12,13,14,15,16,17,18,19,20,21,22,23,24,25,26,27,28,29,30,31,32]) 0 kr kr<|pN 3 [42,43,44] [(44,vB true)]<|ab<|ar<|bi kr ?_;obtain rfl:=sj d;refine ad fun a hd hs aj=>?_;have W:p.heap.size≤f:=cp r j.size;exact ⟨(bg (bg (bg j w nb) x (bN W)) (am (am h i) m) nb),(nt (nt h.size i.size) m.size),hd,hs,aZ aj⟩
      ·replace d:=av C d;refine pN 2 [23,25] [(23,bp f),(25,.pointer (some ⟨f,1,none⟩))]<|ab<|ar<|aK (cS n []) [12,14] [(12,some true),(14,some true)] (bA 33 [0,1,2,3,4,5,6,7,8,9,10,11,12,13,14]) 18 kr kr (az _ _) ?_;have b9:=az n [];have D:=Q.grown m nb;refine bx 3 ⟨f,0,none⟩ (vI q.1) (cf fun w' hC'=>((hC'.box D bG).cell 0 rfl)) ?_;refine bx 3 ⟨f,1,none⟩ (vI q.2) (cf fun w' hC'=>((hC'.box D bG).cell 1 rfl)) ?_;refine ab<|ar<|aT [15,16,17,18,19,20,21,23,24,25,26,27] (bA 33 [0,1,2,3,4,5,6,7,8,9,10,11,12,13,14,15,16,17,18,19,20,21,23,24,25,26,27]) 6 kr kr<|pN 3 [27,28,29] [(29,vB (decide (q.1>q.2)))]<|aA (s:=29) (g:=(decide (q.1>q.2))) kr (fun E=>?_) (fun E=>?_)
       ·replace d:=au E d;refine pN 9 [30,31,32,33,35,36,37,38,39] [(32,undef),(33,undef),(39,undef)]<|ab<|ar<|aK (cS n []) [22,28,29] [(22,some true),(28,some true),(29,some true)] (bA 33 [0,1,2,3,4,5,6,7,8,9,10,11,12,13,14,15,16,17,18,19,20,21,22,23,24,25,26,27,28,29]) 3 kr kr (az _ _) ?_;have ca:=az n [];refine pN 3 [34,40,41] [(34,undef),(41,undef)]<|ab<|ar<|aT [30,31,32] (bA 33 [0,1,2,3,4,5,6,7,8,9,10,11,12,13,14,15,16,17,18,19,20,21,22,23,24,25,26,27,28,29,30,31,32]) 0 kr kr<|pN 3 [42,43,44] [(44,vB true)]<|ab<|ar<|bi kr ?_;obtain rfl:=sj d;refine ad fun a hd hs aj=>?_;have X:p.heap.size≤f:=cp r j.size;exact ⟨(bg (bg (bg j w nb) x (bN X)) (am (am h i) m) nb),(nt (nt h.size i.size) m.size),hd,hs,aZ aj⟩
       ·replace d:=av E d;refine pN 3 [30,31,32] [(32,vB (decide (l>0)))]<|aA (s:=32) (g:=(decide (l>0))) kr (fun F=>?_) (fun F=>?_)
        ·replace d:=au F d;refine pN 4 [33,35,36,37] [(33,bp f),(35,vL af c ai),(37,vI (wI (l-1)))]<|ae d ?_;clear d;intro R S d;have Y:p.heap.size≤f:=cp r j.size;have y:=bg (bg (bg j w nb) x (bN Y)) (am (am h i) m) nb;refine dp .i64 2 (aG.below y z) S aY<|pN 1 [39] [(39,.pointer (some (Addr.add (ba af (((wI (l-1)):Int).toNat*2)) 1)))]<|ab<|ar<|aK (cS n []) [22,28,29] [(22,some true),(28,some true),(29,some true)] (bA 33 [0,1,2,3,4,5,6,7,8,9,10,11,12,13,14,15,16,17,18,19,20,21,22,23,24,25,26,27,28,29]) 3 kr kr (az _ _) ?_;have cb:=az n [];refine bx 3 ⟨f,0,none⟩ (vI q.1) (cf fun w' hC'=>((hC'.box D bG).cell 0 rfl)) ?_;obtain ⟨_,⟨_,_,rfl,rfl,rfl⟩,a8⟩:=aG.cellsK S;refine bx 3 (Addr.add (ba af (((wI (l-1)):Int).toNat*2)) 1) (vI R.2) (cf fun w' hC'=>((a8 w' (fun k hk=>(hC'.2 k ((fun k (hk:X0 k)=>bm (z k hk) y.size) k hk) (fun hg=>cB k hg hk)).trans (y.block k (z k hk)))) 1 _ rfl)) ?_;refine pN 1 [41] [(41,vI (wI (R.2+1)))]<|ab<|ar<|aT [30,31,32] (bA 33 [0,1,2,3,4,5,6,7,8,9,10,11,12,13,14,15,16,17,18,19,20,21,22,23,24,25,26,27,28,29,30,31,32]) 0 kr kr<|pN 3 [42,43,44] [(44,vB (decide (q.1≤(wI (R.2+1)))))]<|ab<|ar<|bi kr ?_;obtain rfl:=sj d;refine ad fun a hd hs aj=>?_;exact ⟨y,(nt (nt h.size i.size) m.size),hd,hs,aZ aj⟩
        ·replace d:=av F d;refine pN 6 [33,35,36,37,38,39] [(33,undef),(39,undef)]<|ab<|ar<|aK (cS n []) [22,28,29] [(22,some true),(28,some true),(29,some true)] (bA 33 [0,1,2,3,4,5,6,7,8,9,10,11,12,13,14,15,16,17,18,19,20,21,22,23,24,25,26,27,28,29]) 3 kr kr (az _ _) ?_;have cc:=az n [];refine pN 3 [34,40,41] [(34,undef),(41,undef)]<|ab<|ar<|aT [30,31,32] (bA 33 [0,1,2,3,4,5,6,7,8,9,10,11,12,13,14,15,16,17,18,19,20,21,22,23,24,25,26,27,28,29,30,31,32]) 0 kr kr<|pN 3 [42,43,44] [(44,vB false)]<|ab<|ar<|bi kr ?_;obtain rfl:=sj d;refine ad fun a hd hs aj=>?_;have Z:p.heap.size≤f:=cp r j.size;exact ⟨(bg (bg (bg j w nb) x (bN Z)) (am (am h i) m) nb),(nt (nt h.size i.size) m.size),hd,hs,aZ aj⟩
    ·rintro a M ⟨T,a9,hd,hs,aj⟩;refine aM ?_ hd hs aj;have bb:=(nt (nt (nt an w.size) x.size) a9);refine al (b:=ax) kr (fun G=>?_) (fun G=>?_)
     ·replace o:=au G o;refine aO<|pN 1 [2] [(2,vB false)]<|ab<|aw ?_
      obtain rfl:=sj o;replace I:=congrArg some (ah _ rfl);obtain rfl:=sj I;replace u:=bD u;obtain rfl:=sj u;refine aD (ay [vB false] rfl ⟨kr,trivial⟩ ?_);exact ⟨ag T,rfl⟩
     ·replace o:=av G o;refine aJ<|bQ<|aF<|pN 2 [7,45] [(7,vI (wI (l+1)))]<|ab ?_;obtain rfl:=sj o;refine ad fun a hd hs aj=>?_;exact ⟨(wI (l+1)),rfl,T,bb,hd,hs,aZ aj⟩
   ·replace o:=av K o;refine cd<|cl rfl ?_
    obtain rfl:=sj o;replace I:=congrArg some (ah _ rfl);obtain rfl:=sj I;refine ad fun a hd hs aj=>?_;exact ⟨(),rfl,j,an,hd,hs,aZ aj⟩
 ·rintro a w3 ⟨s2,e,bd,ch,hd,hs,aj⟩;subst e;refine aM ?_ hd hs aj;replace u:=cn u;refine aO<|pN 4 [2,46,47,48] [(2,vB (decide ((lz c)>0)))]<|ae u ?_;clear u;intro a0 be u;refine cq (s:=2) (v:=(vB (decide ((lz c)>0)))) (v':=(vB a0)) kr (congrArg (Value.bool) (sj be))<|ab<|aw ?_
  obtain rfl:=sj u;refine aD (ay [vB a0] rfl ⟨kr,trivial⟩ ?_);exact ⟨ag bd,rfl⟩

theorem slices_Index_sint_int_ok (ao:Nat) (af:bS) (ai:Nat) (c:List Int) (f:Int) (h:World) (v:Nat→Prop) (o:Lw v h) (aG:Rd (iE .i64) h v af ai c) (w:Int) (i:slices_Index_sint_int ao c f=some w):
    Cs 78 [vL af c ai,vI f] h (G1 h [vI w]):=by
 have x:Bl h h:=Below.refl _ _;unfold slices_Index_sint_int at i;refine aV Tryz.func78 rfl Tryz.ntmps78 kr ?_;refine cj [(0,vL af c ai),(1,vI f)]<|aO<|pN 1 [4] []<|cI<|aO<|pN 3 [6,7,8] [(7,vI (lz c)),(8,vI 0)]<|ab<|ae i ?_;clear i;intro z l i
 refine aE (J:=fun a r=>∃ y:Unit,z= .inl y∧Bl h r∧Sz h r∧Qa a 19 []) ?_ ?_
 ·refine aN<|cm (A:=fun (g:Int) a s=>Bl h s∧Sz h s∧Qa a 19 [(0,vL af c ai),(1,vI f),(7,vI (lz c)),(8,vI g)]) l ?_ ?_
  ·intro a hd hs aj;exact ⟨x,bZ,hd,hs,aZ aj⟩
  ·rintro g C d p a s ⟨j,q,hd,hs,aj⟩;refine aM ?_ hd hs aj;refine aO<|pN 1 [9] [(9,vB (decide (g<(lz c))))]<|cI<|al (b:=(decide (g<(lz c)))) kr (fun m=>?_) (fun m=>?_)
   ·replace d:=au m d;refine aJ<|aW<|aN<|aO<|pN 2 [5,10] [(5,vI g)]<|bV<|pN 3 [11,12,13] [(11,vI f),(12,vL af c ai),(13,vI g)]<|ae d ?_;clear d;intro t n d;refine dp .i64 1 (aG.below j o) n bw<|bx 3 (ba af ((g:Int).toNat*1)) (vI t) (aS ((aG.below j o).cell n))<|pN 1 [16] [(16,vB (f==t))]<|ab<|al (b:=(f==t)) kr (fun k=>?_) (fun k=>?_)
    ·replace d:=au k d;refine aO<|pN 2 [4,17] [(4,vI g)]<|ab<|aw ?_
     obtain rfl:=sj d;replace l:=congrArg some (p _ rfl);obtain rfl:=sj l;replace i:=bD i;obtain rfl:=sj i;refine aD (ay [vI g] rfl ⟨kr,trivial⟩ ?_);exact ⟨ag j,rfl⟩
    ·replace d:=av k d;refine aJ<|bQ<|aF<|pN 2 [8,18] [(8,vI (wI (g+1)))]<|ab ?_;obtain rfl:=sj d;refine ad fun a hd hs aj=>?_;exact ⟨(wI (g+1)),rfl,j,q,hd,hs,aZ aj⟩
   ·replace d:=av m d;refine cd<|cl rfl ?_
    obtain rfl:=sj d;replace l:=congrArg some (p _ rfl);obtain rfl:=sj l;refine ad fun a hd hs aj=>?_;exact ⟨(),rfl,j,q,hd,hs,aZ aj⟩
 ·rintro a r ⟨y,e,u,B,hd,hs,aj⟩;subst e;refine aM ?_ hd hs aj;replace i:=cn i;refine aO<|pN 1 [4] [(4,vI (-1))]<|ab<|aw ?_
  obtain rfl:=sj i;refine aD (ay [vI (-1)] rfl ⟨kr,trivial⟩ ?_);exact ⟨ag u,rfl⟩

theorem slices_Contains_sint_int_ok (ao:Nat) (af:bS) (ai:Nat) (a:List Int) (b:Int) (c:World) (f:Nat→Prop) (g:Lw f c) (aG:Rd (iE .i64) c f af ai a) (i:Bool) (d:slices_Contains_sint_int ao a b=some i):
    Cs 61 [vL af a ai,vI b] c (G1 c [vB i]):=by
 have e:Bl c c:=Below.refl _ _;unfold slices_Contains_sint_int at d;refine aV Tryz.func61 rfl Tryz.ntmps61 kr ?_;refine cj [(0,vL af a ai),(1,vI b)]<|aO<|pN 1 [4] []<|bV<|pN 2 [5,6] [(5,vL af a ai),(6,vI b)]<|ae d ?_;clear d;intro h j d;refine ak kr rfl kr enters78 (slices_Index_sint_int_ok ao af ai a b c f (fun k (hk:f k)=>bm (g k hk) e.size) (aG.below e g) h j) ?_;rintro m n ⟨l,rfl⟩;refine pN 2 [4,8] [(4,vB (decide (h≥0)))]<|ab<|aw ?_
 obtain rfl:=sj d;refine aD (ay [vB (decide (h≥0))] rfl ⟨kr,trivial⟩ ?_);exact ⟨ag (bg e l nb),rfl⟩

theorem regex_formed_1_1_ok (ao:Nat) (af:bS) (ai:Nat) (c:bS) (d:Nat) (b:cy) (g:Nat) (bL:bS) (bM:Nat) (a:List Int) (e:World) (h:Nat→Prop) (j:Lw h e) (l:bC e g 55 #[vL bL a bM]) (aG:Rd (bY (iE .i64) (iE .i64)) e h af ai b.2.2.2.2.2.1) (p:Rd pcE e h c d b.2.2.2.2.2.2) (cV:Rd (iE .i64) e h bL bM a) (q:Bool) (i:regex_formed_1_1 ao b a=some q):
    Cs 60 [.agg (bq b af ai c d),bp g] e (G1 e [vB q]):=by
 have r:Bl e e:=Below.refl _ _;unfold regex_formed_1_1 at i;refine aV Tryz.func60 rfl Tryz.ntmps60 kr ?_;refine cj [(0,.agg (bq b af ai c d)),(1,bp g)] ?_;have v:=l.lt;refine aO<|aQ bp (bq b af ai c d) 25 kr kr ?_
 intro s w m t x y;refine pN 1 [3] []<|bV<|bx 55 ⟨g,0,none⟩ (vL bL a bM) (aS ((l.grown m nb).cell 0 rfl))<|pN 1 [5] [(5,bp s)]<|bx 3 ⟨s,0,none⟩ (vI b.1) (aS (t.cell 0 rfl))<|ae i ?_;clear i;intro n u i;have f:=bg r m nb;refine ak kr rfl kr enters61 (slices_Contains_sint_int_ok ao bL bM a b.1 w h (fun k (hk:h k)=>bm (j k hk) f.size) (cV.below f j) n u) ?_;rintro z A ⟨o,rfl⟩;refine pN 1 [3] [(3,vB n)]<|ab<|aw ?_
 obtain rfl:=sj i;refine aD (ay [vB n] rfl ⟨kr,trivial⟩ ?_);exact ⟨ag (bg f o nb),rfl⟩

theorem api_Piece_1_1_1_ok (ao:Nat) (af:bS) (ai:Nat) (l:List Pc) (d:Nat) (g:bS) (h:Nat) (j:List Int) (n:World) (w:Nat→Prop) (q:Lw w n) (u:bC n d 55 #[vL g j h]) (aG:Rd pcE n w af ai l) (s:Rd (iE .i64) n w g h j) (Q:Int) (p:api_Piece_1_1_1 ao l j=some Q):
    Cs 77 [vL af l ai,.func (.func 60) #[] #[bp d]] n (G1 n [vI Q]):=by
 have R:Bl n n:=Below.refl _ _;unfold api_Piece_1_1_1 at p;refine aV Tryz.func77 rfl Tryz.ntmps77 kr ?_;refine cj [(0,vL af l ai),(1,.func (.func 60) #[] #[bp d])] ?_;have S:=u.lt;refine aO<|pN 1 [4] []<|cI<|aO<|pN 3 [6,7,8] [(7,vI (lz l)),(8,vI 0)]<|ab<|ae p ?_;clear p;intro U x p
 refine aE (J:=fun a G=>∃ T:Unit,U= .inl T∧Bl n G∧Sz n G∧bC G d 55 #[vL g j h]∧Qa a 19 []) ?_ ?_
 ·refine aN<|cm (A:=fun (o:Int) a v=>Bl n v∧Sz n v∧bC v d 55 #[vL g j h]∧Qa a 19 [(0,vL af l ai),(1,.func (.func 60) #[] #[bp d]),(7,vI (lz l)),(8,vI o)]) x ?_ ?_
  ·intro a hd hs aj;exact ⟨R,bZ,u,hd,hs,aZ aj⟩
  ·rintro o Z i H a v ⟨m,I,y,hd,hs,aj⟩;refine aM ?_ hd hs aj;refine aO<|pN 1 [9] [(9,vB (decide (o<(lz l))))]<|cI<|al (b:=(decide (o<(lz l)))) kr (fun z=>?_) (fun z=>?_)
   ·replace i:=au z i;refine aJ<|aW<|aN<|aO<|pN 2 [5,10] [(5,vI o)]<|bV<|pN 3 [11,12,13] [(11,.func (.func 60) #[] #[bp d]),(12,vL af l ai),(13,vI o)] ?_
    refine ae i ?_;clear i;intro c B i;refine dp .i64 7 (aG.below m q) B bT ?_;obtain ⟨_,⟨_,_,rfl,rfl,⟨_,_,rfl,rfl,⟨_,_,rfl,rfl,⟨_,_,rfl,rfl,⟨_,_,rfl,rfl,⟨_,_,rfl,⟨C,D,rfl,L⟩,⟨E,F,rfl,M⟩⟩⟩⟩⟩⟩⟩,N⟩:=cells_un (aG.cellsK B);refine laq 25 (ba af ((o:Int).toNat*7)) #[vI (Pc.un c).1,vI (Pc.un c).2.1,vI (Pc.un c).2.2.1,vB (Pc.un c).2.2.2.1,vB (Pc.un c).2.2.2.2.1,.slice C (length (Pc.un c).2.2.2.2.2.1) D,.slice E (length (Pc.un c).2.2.2.2.2.2) F] (aS (N v (fun k hk=>m.block k (q k hk)))) ?_;refine ae i ?_;clear i;intro K O i;refine gv_call (f:=60) (vs:=[.agg #[vI (Pc.un c).1,vI (Pc.un c).2.1,vI (Pc.un c).2.2.1,vB (Pc.un c).2.2.2.1,vB (Pc.un c).2.2.2.2.1,.slice C (length (Pc.un c).2.2.2.2.2.1) D,.slice E (length (Pc.un c).2.2.2.2.2.2) F]]) (cap:=[bp d]) _ cW rfl rfl rfl kr kr enters60 (regex_formed_1_1_ok ao C D E F ((Pc.un c).1,(Pc.un c).2.1,(Pc.un c).2.2.1,(Pc.un c).2.2.2.1,(Pc.un c).2.2.2.2.1,(Pc.un c).2.2.2.2.2.1,(Pc.un c).2.2.2.2.2.2) d g h j v w (fun k (hk:w k)=>bm (q k hk) m.size) y (L.below m q) (M.below m q) (s.below m q) K O) ?_;rintro X Y ⟨r,rfl⟩;refine ⟨nofun,?_⟩;refine ab<|al (b:=K) kr (fun t=>?_) (fun t=>?_)
    ·replace i:=au t i;refine aO<|pN 2 [4,17] [(4,vI o)]<|ab<|aw ?_
     obtain rfl:=sj i;replace x:=congrArg some (H _ rfl);obtain rfl:=sj x;replace p:=bD p;obtain rfl:=sj p;refine aD (ay [vI o] rfl ⟨kr,trivial⟩ ?_);exact ⟨ag (bg m r nb),rfl⟩
    ·replace i:=av t i;refine aJ<|bQ<|aF<|pN 2 [8,18] [(8,vI (wI (o+1)))]<|ab ?_;obtain rfl:=sj i;refine ad fun a hd hs aj=>?_;exact ⟨(wI (o+1)),rfl,(bg m r nb),(nt I r.size),(y.grown r nb),hd,hs,aZ aj⟩
   ·replace i:=av z i;refine cd<|cl rfl ?_
    obtain rfl:=sj i;replace x:=congrArg some (H _ rfl);obtain rfl:=sj x;refine ad fun a hd hs aj=>?_;exact ⟨(),rfl,m,I,y,hd,hs,aZ aj⟩
 ·rintro a G ⟨T,e,P,V,W,hd,hs,aj⟩;subst e;refine aM ?_ hd hs aj;replace p:=cn p;refine aO<|pN 1 [4] [(4,vI (-1))]<|ab<|aw ?_
  obtain rfl:=sj p;refine aD (ay [vI (-1)] rfl ⟨kr,trivial⟩ ?_);exact ⟨ag P,rfl⟩

theorem api_Piece_1_1_ok (ao:Nat) (af:bS) (ai:Nat) (e:List Pc) (a:Nat) (b:bS) (c:Nat) (d:List Int) (f:World) (j:Nat→Prop) (l:Lw j f) (h:bC f a 55 #[vL b d c]) (aG:Rd pcE f j af ai e) (g:Rd (iE .i64) f j b c d) (o:Bool) (m:api_Piece_1_1 ao e d=some o):
    Cs 59 [vL af e ai,.func (.func 60) #[] #[bp a]] f (G1 f [vB o]):=by
 have i:Bl f f:=Below.refl _ _;unfold api_Piece_1_1 at m;refine aV Tryz.func59 rfl Tryz.ntmps59 kr ?_;refine cj [(0,vL af e ai),(1,.func (.func 60) #[] #[bp a])] ?_;have p:=h.lt;refine aO<|pN 1 [4] []<|bV<|pN 2 [5,6] [(5,vL af e ai),(6,.func (.func 60) #[] #[bp a])] ?_
 refine ae m ?_;clear m;intro n q m;refine ak kr rfl kr enters77 (api_Piece_1_1_1_ok ao af ai e a b c d f j (fun k (hk:j k)=>bm (l k hk) i.size) h (aG.below i l) (g.below i l) n q) ?_;rintro s t ⟨r,rfl⟩;refine pN 2 [4,8] [(4,vB (decide (n≥0)))]<|ab<|aw ?_
 obtain rfl:=sj m;refine aD (ay [vB (decide (n≥0))] rfl ⟨kr,trivial⟩ ?_);exact ⟨ag (bg i r nb),rfl⟩

theorem di (ao:Nat) (af:bS) (ai:Nat) (a:List Int) (g:Nat) (bL:bS) (bM:Nat) (c:bS) (d:Nat) (b:cy) (e:World) (h:Nat→Prop) (i:Lw h e) (m:bC e g 25 (bq b bL bM c d)) (aG:Rd (iE .i64) e h af ai a) (cV:Rd (bY (iE .i64) (iE .i64)) e h bL bM b.2.2.2.2.2.1) (j:Rd pcE e h c d b.2.2.2.2.2.2) (q:Bool) (l:regex_formed_1 ao a b=some q):
    Cs 58 [vL af a ai,bp g] e (G1 e [vB q]):=by
 have r:Bl e e:=Below.refl _ _;unfold regex_formed_1 at l;refine aV Tryz.func58 rfl Tryz.ntmps58 kr ?_;refine cj [(0,vL af a ai),(1,bp g)] ?_;have v:=m.lt;refine aO<|aQ bp #[vL af a ai] 55 kr kr ?_
 intro s w n t x y;refine pN 1 [3] []<|bV<|pN 1 [4] [(4,.pointer (some ⟨g,6,none⟩))]<|bx 23 ⟨g,6,none⟩ (vL c b.2.2.2.2.2.2 d) (aS ((m.grown n nb).cell 6 rfl))<|pN 1 [6] [(6,.func (.func 60) #[] #[bp s])] ?_;refine ae l ?_;clear l;intro o u l;have f:=bg r n nb;refine ak kr rfl kr enters59 (api_Piece_1_1_ok ao c d b.2.2.2.2.2.2 s af ai a w h (fun k (hk:h k)=>bm (i k hk) f.size) t (j.below f i) (aG.below f i) o u) ?_;rintro z A ⟨p,rfl⟩;refine pN 2 [3,8] [(3,vB (!o))]<|ab<|aw ?_
 obtain rfl:=sj l;refine aD (ay [vB (!o)] rfl ⟨kr,trivial⟩ ?_);exact ⟨ag (bg f p nb),rfl⟩

theorem regex_formed_ok (ao:Nat) (af:bS) (ai:Nat) (l:bS) (m:Nat) (d:cy) (p:World) (A:Nat→Prop) (q:Lw A p) (aG:Rd (bY (iE .i64) (iE .i64)) p A af ai d.2.2.2.2.2.1) (B:Rd pcE p A l m d.2.2.2.2.2.2) (r0:Bool) (i:regex_formed ao d=some r0):
    Cs 40 [.agg (bq d af ai l m)] p (G1 p [vB r0]):=by
 have u:Bl p p:=Below.refl _ _;unfold regex_formed at i;refine aV Tryz.func40 rfl Tryz.ntmps40 kr ?_;refine cj [(0,.agg (bq d af ai l m))]<|aO<|aQ bp (bq d af ai l m) 25 kr kr ?_
 intro j w2 w x dL dY;refine pN 1 [2] []<|bV<|pN 1 [5] [(5,.pointer (some ⟨j,6,none⟩))]<|bx 23 ⟨j,6,none⟩ (vL l d.2.2.2.2.2.2 m) (aS (x.cell 6 rfl))<|pN 2 [3,7] [(3,vI (lz d.2.2.2.2.2.2))]<|ae i ?_;clear i;intro o dE i;refine cq (s:=3) (v:=(vI (lz d.2.2.2.2.2.2))) (v':=(vI o)) kr (congrArg (Value.int .i64) (sj dE))<|bV<|pN 2 [4,8] [(4,.func (.func 58) #[] #[bp j])] ?_
 refine cI<|aO<|pN 1 [9] [(9,bp j)]<|bx 3 ⟨j,0,none⟩ (vI d.1) (aS (x.cell 0 rfl))<|ab<|aN<|aO<|pN 2 [11,12] [(11,vB (d.1==1))]<|ab<|al (b:=(d.1==1)) kr (fun a9=>?_) (fun a9=>?_)
 ·replace i:=au a9 i;refine aO<|ae i ?_;clear i;intro cs c i
  refine aR (J:=fun a bb=>Bl p bb∧Sz w2 bb∧Qa a 80 [(2,vB cs)]) ?_ ?_
  ·refine pN 3 [13,14,15] [(15,vB (o==0))]<|aA (s:=15) (g:=(o==0)) kr (fun L=>?_) (fun L=>?_)
   ·replace c:=au L c;refine pN 1 [16] [(16,.pointer (some ⟨j,1,none⟩))]<|bx 3 ⟨j,1,none⟩ (vI d.2.1) (aS (x.cell 1 rfl))<|ae c ?_;clear c;intro bd c6 c;refine ak kr rfl kr enters62 (regex_scalar_ok ao d.2.1 w2 bd c6) ?_;rintro dZ d0 ⟨be,rfl⟩;refine pN 2 [2,19] [(2,vB bd)]<|cj [(2,vB bd)]<|ab ?_;obtain rfl:=sj c;refine ad fun a hd hs aj=>?_;exact ⟨(bg u (am w be) nb),be.size,hd,hs,aZ aj⟩
   ·replace c:=av L c;refine pN 5 [2,16,17,18,19] [(2,vB false)]<|ab ?_;obtain rfl:=sj c;refine ad fun a hd hs aj=>?_;exact ⟨(bg u w nb),bZ,hd,hs,aZ aj⟩
  ·rintro a bb ⟨c7,dM,hd,hs,aj⟩;refine aM ?_ hd hs aj;refine aw ?_;obtain rfl:=sj i;refine aD (ay [vB cs] rfl ⟨kr,trivial⟩ ?_);exact ⟨ag c7,rfl⟩
 ·replace i:=av a9 i;refine aO<|pN 2 [20,21] [(20,vB (d.1==3))]<|ab<|al (b:=(d.1==3)) kr (fun M=>?_) (fun M=>?_)
  ·replace i:=au M i;refine aO<|ae i ?_;clear i;intro cv c i
   refine aR (J:=fun a bl=>Bl p bl∧Sz w2 bl∧Qa a 80 [(2,vB cv)]) ?_ ?_
   ·refine pN 3 [22,23,24] [(24,vB (o==0))]<|aA (s:=24) (g:=(o==0)) kr (fun N=>?_) (fun N=>?_)
    ·replace c:=au N c;refine pN 1 [25] [(25,.pointer (some ⟨j,5,none⟩))]<|bx 22 ⟨j,5,none⟩ (vL af d.2.2.2.2.2.1 ai) (aS (x.cell 5 rfl))<|ae c ?_;clear c;intro bn c8 c;have O:=bg u w nb;refine ak kr rfl kr enters63 (regex_ordered_ok ao af ai d.2.2.2.2.2.1 w2 A (fun k (hk:A k)=>bm (q k hk) O.size) (aG.below O q) bn c8) ?_;rintro d1 d2 ⟨bo,rfl⟩;refine pN 2 [2,28] [(2,vB bn)]<|cj [(2,vB bn)]<|ab ?_;obtain rfl:=sj c;refine ad fun a hd hs aj=>?_;exact ⟨(bg O bo nb),bo.size,hd,hs,aZ aj⟩
    ·replace c:=av N c;refine pN 5 [2,25,26,27,28] [(2,vB false)]<|ab ?_;obtain rfl:=sj c;refine ad fun a hd hs aj=>?_;exact ⟨(bg u w nb),bZ,hd,hs,aZ aj⟩
   ·rintro a bl ⟨c9,dN,hd,hs,aj⟩;refine aM ?_ hd hs aj;refine aw ?_;obtain rfl:=sj i;refine aD (ay [vB cv] rfl ⟨kr,trivial⟩ ?_);exact ⟨ag c9,rfl⟩
  ·replace i:=av M i;refine aW<|aO<|pN 2 [29,30] [(29,vB (d.1==2))]<|ab<|ae i ?_;clear i;intro cw c i
   refine aE (J:=fun a F=>Bl p F∧Sz w2 F∧bC F j 25 (bq d af ai l m)∧Qa a 80 [(1,bp j),(3,vI o),(4,.func (.func 58) #[] #[bp j]),(10,vI d.1),(29,vB cw)]) ?_ ?_
   ·refine al (b:=(d.1==2)) kr (fun P=>?_) (fun P=>?_)
    ·replace c:=au P c;refine aJ ?_;obtain rfl:=sj c;refine ad fun a hd hs aj=>?_;exact ⟨(bg u w nb),bZ,x,hd,hs,aZ aj⟩
    ·replace c:=av P c;refine aO<|pN 2 [29,31] [(29,vB (d.1==4))]<|ab<|al (b:=(d.1==4)) kr (fun Q=>?_) (fun Q=>?_)
     ·replace c:=au Q c;refine aJ ?_;obtain rfl:=sj c;refine ad fun a hd hs aj=>?_;exact ⟨(bg u w nb),bZ,x,hd,hs,aZ aj⟩
     ·replace c:=av Q c;refine aO<|pN 2 [29,32] [(29,vB (d.1==5))]<|ab<|al (b:=(d.1==5)) kr (fun R=>?_) (fun R=>?_)
      ·replace c:=au R c;refine aJ ?_;obtain rfl:=sj c;refine ad fun a hd hs aj=>?_;exact ⟨(bg u w nb),bZ,x,hd,hs,aZ aj⟩
      ·replace c:=av R c;refine aF<|pN 2 [29,33] [(29,vB (d.1==6))]<|cj [(1,bp j),(3,vI o),(4,.func (.func 58) #[] #[bp j]),(10,vI d.1),(29,vB (d.1==6))] ?_;refine ab ?_;obtain rfl:=sj c;refine ad fun a hd hs aj=>?_;exact ⟨(bg u w nb),bZ,x,hd,hs,aZ aj⟩
   ·rintro a F ⟨t,dO,G,hd,hs,aj⟩;refine aM ?_ hd hs aj;refine al (b:=cw) kr (fun S=>?_) (fun S=>?_)
    ·replace i:=au S i;refine aO<|pN 3 [2,34,35] [(2,vB (o==0))]<|ab<|aw ?_
     obtain rfl:=sj i;refine aD (ay [vB (o==0)] rfl ⟨kr,trivial⟩ ?_);exact ⟨ag t,rfl⟩
    ·replace i:=av S i;refine aO<|pN 2 [36,37] [(36,vB (d.1==12))]<|ab<|al (b:=(d.1==12)) kr (fun T=>?_) (fun T=>?_)
     ·replace i:=au T i;refine aO<|ae i ?_;clear i;intro cx c i
      refine aR (J:=fun a bs=>Bl p bs∧Sz F bs∧Qa a 80 [(2,vB cx)]) ?_ ?_
      ·refine pN 3 [38,39,40] [(40,vB (o==0))]<|aA (s:=40) (g:=(o==0)) kr (fun U=>?_) (fun U=>?_)
       ·replace c:=au U c;refine pN 1 [41] [(41,.pointer (some ⟨j,1,none⟩))]<|bx 3 ⟨j,1,none⟩ (vI d.2.1) (aS (G.cell 1 rfl))<|pN 3 [43,44,45] [(45,vB (decide (d.2.1≥1)))]<|aA (s:=45) (g:=(decide (d.2.1≥1))) kr (fun V=>?_) (fun V=>?_)
        ·replace c:=au V c;refine pN 1 [46] [(46,.pointer (some ⟨j,1,none⟩))]<|bx 3 ⟨j,1,none⟩ (vI d.2.1) (aS (G.cell 1 rfl))<|pN 3 [2,48,49] [(2,vB (decide (d.2.1≤9)))]<|ab ?_;obtain rfl:=sj c;refine ad fun a hd hs aj=>?_;exact ⟨t,bZ,hd,hs,aZ aj⟩
        ·replace c:=av V c;refine pN 5 [2,46,47,48,49] [(2,vB false)]<|ab ?_;obtain rfl:=sj c;refine ad fun a hd hs aj=>?_;exact ⟨t,bZ,hd,hs,aZ aj⟩
       ·replace c:=av U c;refine pN 10 [2,41,42,43,44,45,46,47,48,49] [(2,vB false)]<|ab ?_;obtain rfl:=sj c;refine ad fun a hd hs aj=>?_;exact ⟨t,bZ,hd,hs,aZ aj⟩
      ·rintro a bs ⟨dg,dP,hd,hs,aj⟩;refine aM ?_ hd hs aj;refine aw ?_;obtain rfl:=sj i;refine aD (ay [vB cx] rfl ⟨kr,trivial⟩ ?_);exact ⟨ag dg,rfl⟩
     ·replace i:=av T i;refine aW<|aO<|pN 2 [50,51] [(50,vB (d.1==7))]<|ab<|ae i ?_;clear i;intro c0 c i
      refine aE (J:=fun a C=>Bl p C∧Sz F C∧bC C j 25 (bq d af ai l m)∧Qa a 80 [(3,vI o),(4,.func (.func 58) #[] #[bp j]),(10,vI d.1),(50,vB c0)]) ?_ ?_
      ·refine al (b:=(d.1==7)) kr (fun W=>?_) (fun W=>?_)
       ·replace c:=au W c;refine aJ ?_;obtain rfl:=sj c;refine ad fun a hd hs aj=>?_;exact ⟨t,bZ,G,hd,hs,aZ aj⟩
       ·replace c:=av W c;refine aF<|pN 2 [50,52] [(50,vB (d.1==11))]<|ab ?_;obtain rfl:=sj c;refine ad fun a hd hs aj=>?_;exact ⟨t,bZ,G,hd,hs,aZ aj⟩
      ·rintro a C ⟨n,dQ,X,hd,hs,aj⟩;refine aM ?_ hd hs aj;refine al (b:=c0) kr (fun Z=>?_) (fun Z=>?_)
       ·replace i:=au Z i;refine aO<|pN 3 [2,53,54] [(2,vB (o==1))]<|ab<|aw ?_
        obtain rfl:=sj i;refine aD (ay [vB (o==1)] rfl ⟨kr,trivial⟩ ?_);exact ⟨ag n,rfl⟩
       ·replace i:=av Z i;refine aO<|pN 2 [55,56] [(55,vB (d.1==8))]<|ab<|al (b:=(d.1==8)) kr (fun ah=>?_) (fun ah=>?_)
        ·replace i:=au ah i;refine aO<|ae i ?_;clear i;intro c1 c i
         refine aR (J:=fun a bA=>Bl p bA∧Sz C bA∧Qa a 80 [(2,vB c1)]) ?_ ?_
         ·refine pN 3 [57,58,59] [(59,vB (o !=1))]<|aA (s:=59) (g:=(o !=1)) kr (fun an=>?_) (fun an=>?_)
          ·replace c:=au an c;refine pN 1 [60] [(60,.func (.func 58) #[] #[bp j])] ?_;refine aQ (fun b=>.slice (ro b) 2 2) #[vI 8,vI 9] 3 kr kr ?_;intro D c2 ax ds b9 dR;have bE:aL (iE .i64) 3 c2 (fun _=>False) (ro D) 2 ([8,9]:List Int):=bR ds ⟨[vI 8],[vI 9],rfl,rfl,⟨[vI 9],[],rfl,rfl,rfl⟩⟩ (show 2≤maxLen by decide) (fun h=>h);have dS:Lo p (ro D):=loo b9 n.size;refine ae c ?_;clear c;intro c3 dw c;have H:=bg n ax nb;refine gv_call (f:=58) (vs:=[vL (ro D) ([8,9]:List Int) 2]) (cap:=[bp j]) _ cW rfl rfl rfl kr kr enters58 (di ao (ro D) 2 ([8,9]:List Int) j af ai l m d c2 (fun k=>(fun k=>aI (ro D)=some k) k∨A k) (fun k hk=>(hk).elim (fun h=>(fun k (hk:aI (ro D)=some k)=>bE.lt k hk) k h) (fun h=>(fun k (hk:A k)=>bm (q k hk) H.size) k h)) (X.grown ax nb) ((bE.rd (Y:=fun k=>aI (ro D)=some k) (fun _ h=>h.elim) (fun g e=>e)).wide (fun k hk=>(.inl hk))) ((aG.below H q).wide (fun k hk=>(.inr hk))) ((B.below H q).wide (fun k hk=>(.inr hk))) c3 dw) ?_;rintro d3 d4 ⟨b0,rfl⟩;refine ⟨nofun,?_⟩;refine pN 2 [2,63] [(2,vB c3)]<|ab ?_;obtain rfl:=sj c;refine ad fun a hd hs aj=>?_;exact ⟨(bg H b0 nb),(nt ax.size b0.size),hd,hs,aZ aj⟩
          ·replace c:=av an c;refine pN 5 [2,60,61,62,63] [(2,vB false)]<|ab ?_;obtain rfl:=sj c;refine ad fun a hd hs aj=>?_;exact ⟨n,bZ,hd,hs,aZ aj⟩
         ·rintro a bA ⟨dB,dT,hd,hs,aj⟩;refine aM ?_ hd hs aj;refine aw ?_;obtain rfl:=sj i;refine aD (ay [vB c1] rfl ⟨kr,trivial⟩ ?_);exact ⟨ag dB,rfl⟩
        ·replace i:=av ah i;refine aO<|pN 2 [64,65] [(64,vB (d.1==9))]<|ab<|al (b:=(d.1==9)) kr (fun a0=>?_) (fun a0=>?_)
         ·replace i:=au a0 i;refine aO<|ae i ?_;clear i;intro c4 c i
          refine aR (J:=fun a b2=>Bl p b2∧Sz C b2∧Qa a 80 [(2,vB c4)]) ?_ ?_
          ·refine pN 3 [66,67,68] [(68,vB (decide (o≥2)))]<|aA (s:=68) (g:=(decide (o≥2))) kr (fun a1=>?_) (fun a1=>?_)
           ·replace c:=au a1 c;refine pN 1 [69] [(69,.func (.func 58) #[] #[bp j])] ?_;refine aQ (fun b=>.slice (ro b) 1 1) #[vI 9] 3 kr kr ?_;intro E c5 a2 dC b3 dF;have a4:aL (iE .i64) 3 c5 (fun _=>False) (ro E) 1 ([9]:List Int):=bR dC ⟨[vI 9],[],rfl,rfl,rfl⟩ (show 1≤maxLen by decide) (fun h=>h);have dG:Lo p (ro E):=loo b3 n.size;refine ae c ?_;clear c;intro b4 ca c;have y:=bg n a2 nb;refine gv_call (f:=58) (vs:=[vL (ro E) ([9]:List Int) 1]) (cap:=[bp j]) _ cW rfl rfl rfl kr kr enters58 (di ao (ro E) 1 ([9]:List Int) j af ai l m d c5 (fun k=>(fun k=>aI (ro E)=some k) k∨A k) (fun k hk=>(hk).elim (fun h=>(fun k (hk:aI (ro E)=some k)=>a4.lt k hk) k h) (fun h=>(fun k (hk:A k)=>bm (q k hk) y.size) k h)) (X.grown a2 nb) ((a4.rd (Y:=fun k=>aI (ro E)=some k) (fun _ h=>h.elim) (fun g e=>e)).wide (fun k hk=>(.inl hk))) ((aG.below y q).wide (fun k hk=>(.inr hk))) ((B.below y q).wide (fun k hk=>(.inr hk))) b4 ca) ?_;rintro dU dV ⟨a5,rfl⟩;refine ⟨nofun,?_⟩;refine pN 2 [2,72] [(2,vB b4)]<|ab ?_;obtain rfl:=sj c;refine ad fun a hd hs aj=>?_;exact ⟨(bg y a5 nb),(nt a2.size a5.size),hd,hs,aZ aj⟩
           ·replace c:=av a1 c;refine pN 5 [2,69,70,71,72] [(2,vB false)]<|ab ?_;obtain rfl:=sj c;refine ad fun a hd hs aj=>?_;exact ⟨n,bZ,hd,hs,aZ aj⟩
          ·rintro a b2 ⟨cb,dH,hd,hs,aj⟩;refine aM ?_ hd hs aj;refine aw ?_;obtain rfl:=sj i;refine aD (ay [vB c4] rfl ⟨kr,trivial⟩ ?_);exact ⟨ag cb,rfl⟩
         ·replace i:=av a0 i;refine aJ<|bQ<|aO<|ae i ?_;clear i;intro b5 c i
          refine aR (J:=fun a a3=>Bl p a3∧Sz C a3∧Qa a 80 [(2,vB b5)]) ?_ ?_
          ·refine pN 3 [73,74,75] [(75,vB (o==1))]<|aA (s:=75) (g:=(o==1)) kr (fun I=>?_) (fun I=>?_)
           ·replace c:=au I c;refine pN 1 [76] [(76,.func (.func 58) #[] #[bp j])] ?_;refine aQ (fun b=>.slice (ro b) 7 7) #[vI 8,vI 9,vI 10,vI 4,vI 5,vI 6,vI 11] 3 kr kr ?_;intro r b6 K cc b7 dI;have a6:aL (iE .i64) 3 b6 (fun _=>False) (ro r) 7 ([8,9,10,4,5,6,11]:List Int):=bR cc ⟨[vI 8],[vI 9,vI 10,vI 4,vI 5,vI 6,vI 11],rfl,rfl,⟨[vI 9],[vI 10,vI 4,vI 5,vI 6,vI 11],rfl,rfl,⟨[vI 10],[vI 4,vI 5,vI 6,vI 11],rfl,rfl,⟨[vI 4],[vI 5,vI 6,vI 11],rfl,rfl,⟨[vI 5],[vI 6,vI 11],rfl,rfl,⟨[vI 6],[vI 11],rfl,rfl,⟨[vI 11],[],rfl,rfl,rfl⟩⟩⟩⟩⟩⟩⟩ (show 7≤maxLen by decide) (fun h=>h);have dJ:Lo p (ro r):=loo b7 n.size;refine ae c ?_;clear c;intro b8 ch c;have z:=bg n K nb;refine gv_call (f:=58) (vs:=[vL (ro r) ([8,9,10,4,5,6,11]:List Int) 7]) (cap:=[bp j]) _ cW rfl rfl rfl kr kr enters58 (di ao (ro r) 7 ([8,9,10,4,5,6,11]:List Int) j af ai l m d b6 (fun k=>(fun k=>aI (ro r)=some k) k∨A k) (fun k hk=>(hk).elim (fun h=>(fun k (hk:aI (ro r)=some k)=>a6.lt k hk) k h) (fun h=>(fun k (hk:A k)=>bm (q k hk) z.size) k h)) (X.grown K nb) ((a6.rd (Y:=fun k=>aI (ro r)=some k) (fun _ h=>h.elim) (fun g e=>e)).wide (fun k hk=>(.inl hk))) ((aG.below z q).wide (fun k hk=>(.inr hk))) ((B.below z q).wide (fun k hk=>(.inr hk))) b8 ch) ?_;rintro dW dX ⟨a7,rfl⟩;refine ⟨nofun,?_⟩;refine pN 2 [2,79] [(2,vB b8)]<|ab ?_;obtain rfl:=sj c;refine ad fun a hd hs aj=>?_;exact ⟨(bg z a7 nb),(nt K.size a7.size),hd,hs,aZ aj⟩
           ·replace c:=av I c;refine pN 5 [2,76,77,78,79] [(2,vB false)]<|ab ?_;obtain rfl:=sj c;refine ad fun a hd hs aj=>?_;exact ⟨n,bZ,hd,hs,aZ aj⟩
          ·rintro a a3 ⟨ck,dK,hd,hs,aj⟩;refine aM ?_ hd hs aj;refine aw ?_;obtain rfl:=sj i;refine aD (ay [vB b5] rfl ⟨kr,trivial⟩ ?_);exact ⟨ag ck,rfl⟩

abbrev gC21 (ao:Nat):Prop:=∀ (a:Nat) (f:bu) (bL:bS) (bM:Nat) (b:bS) (c:Nat) (d:cy) (e:World) (g:Nat→Prop) (j:∀ k,g k→k<e.heap.size∧k≠a) (l:bC e a 44 (cN f)) (cV:Rd (bY (iE .i64) (iE .i64)) e g bL bM d.2.2.2.2.2.1) (i:Rd pcE e g b c d.2.2.2.2.2.2) (h:Int × bu),regex_survey_look ao f d=some h→Calls aC 21 ([bp a,.agg (bq d bL bM b c)]:List Value).toArray e (Ret fun v w'=>e.grownBy w' (some a)∧v=dn [vI h.1]∧bC w' a 44 (cN h.2))
set_option maxHeartbeats 4000000 in
set_option maxRecDepth 100000 in
theorem regex_survey_look_step (ao:Nat) (r:gC21 ao) (f:Nat) (i:bu) (bL:bS) (bM:Nat) (m:bS) (n:Nat) (c:cy) (w:World) (X0:Nat→Prop) (u:∀ k,X0 k→k<w.heap.size∧k≠f) (c0:bC w f 44 (cN i)) (cV:Rd (bY (iE .i64) (iE .i64)) w X0 bL bM c.2.2.2.2.2.1) (C:Rd pcE w X0 m n c.2.2.2.2.2.2) (r0:Int × bu) (l:regex_survey_look (ao+1) i c=some r0):
    Cs 21 [bp f,.agg (bq c bL bM m n)] w (Ret fun v w'=>w.grownBy w' (some f)∧v=dn [vI r0.1]∧bC w' f 44 (cN r0.2)):=by
 have ds:w.grownBy w (some f):=bW _ _;rw[regex_survey_look.eq_2]at l;refine aV Tryz.func21 rfl Tryz.ntmps21 kr ?_;refine cj [(0,bp f),(1,.agg (bq c bL bM m n))] ?_;have eq:=c0.lt;refine aO<|aQ bp (bq c bL bM m n) 25 kr kr ?_
 intro j w2 c1 ef dw eE;refine pN 1 [4] []<|cI<|aO<|pN 3 [8,9,10] [(8,bp f),(10,bp f)] ?_
 have dZ:=c0.grown c1 nb;refine bx 3 ⟨f,0,none⟩ (vI i.1) (aS (dZ.cell 0 rfl))<|pN 3 [12,13,14] [(12,vI (wI (i.1+1))),(14,bp f)]<|aq 3 0 (vI (wI (i.1+1))) #[vI (wI (i.1+1)),vI i.2] dZ kr kr kr ?_;intro w8 c2 W es;refine bV<|pN 3 [15,16,17] [(17,bp f)]<|bx 3 ⟨f,0,none⟩ (vI (wI (i.1+1))) (aS (W.cell 0 rfl))<|pN 1 [19] [(19,vB (decide ((wI (i.1+1))>60)))]<|ab<|al (b:=(decide ((wI (i.1+1))>60))) kr (fun bn=>?_) (fun bn=>?_)
 ·replace l:=au bn l;refine aO<|pN 1 [4] [(4,vI 2)]<|ab<|aw ?_
  obtain rfl:=sj l;refine aD (ay [vI 2] rfl ⟨kr,trivial⟩ ?_);exact ⟨(aa (aa ds c1 nb) c2 ap),rfl,W⟩
 ·replace l:=av bn l;refine aJ<|aW<|aN<|aO<|ae l ?_;clear l;intro d0 d l
  refine aR (J:=fun a K=>w.grownBy K (some f)∧Sz w8 K∧bC K f 44 #[vI (wI (i.1+1)),vI i.2]∧bC K j 25 (bq c bL bM m n)∧Qa a 129 [(0,bp f),(3,bp j),(20,vB d0)]) ?_ ?_
  ·refine pN 1 [21] [(21,bp j)] ?_;have d8:¬ (· =j) f:=fun hx=>nl ((aH dw) _ hx) ((bc c0) _ rfl);have X:=ef.grown c2 (ac d8);refine bx 3 ⟨j,0,none⟩ (vI c.1) (aS (X.cell 0 rfl))<|pN 2 [23,24] [(24,vB (decide (c.1<1)))]<|aA (s:=24) (g:=(decide (c.1<1))) kr (fun bo=>?_) (fun bo=>?_)
   ·replace d:=au bo d;refine pN 5 [20,25,26,27,28] [(20,vB true)]<|ab ?_;obtain rfl:=sj d;refine ad fun a hd hs aj=>?_;exact ⟨(aa (aa ds c1 nb) c2 ap),bZ,W,X,hd,hs,aZ aj⟩
   ·replace d:=av bo d;refine pN 1 [25] [(25,bp j)]<|bx 3 ⟨j,0,none⟩ (vI c.1) (aS (X.cell 0 rfl))<|pN 3 [20,27,28] [(20,vB (decide (c.1≥13)))]<|cj [(0,bp f),(3,bp j),(20,vB (decide (c.1≥13)))]<|ab ?_;obtain rfl:=sj d;refine ad fun a hd hs aj=>?_;exact ⟨(aa (aa ds c1 nb) c2 ap),bZ,W,X,hd,hs,aZ aj⟩
  ·rintro a K ⟨F,et,bs,bE,hd,hs,aj⟩;refine aM ?_ hd hs aj;refine al (b:=d0) kr (fun b0=>?_) (fun b0=>?_)
   ·replace l:=au b0 l;refine aO<|pN 1 [4] [(4,vI 5)]<|ab<|aw ?_
    obtain rfl:=sj l;refine aD (ay [vI 5] rfl ⟨kr,trivial⟩ ?_);exact ⟨F,rfl,bs⟩
   ·replace l:=av b0 l;refine aO<|ae l ?_;clear l;intro d1 d l
    refine aR (J:=fun a T=>w.grownBy T (some f)∧Sz K T∧bC T f 44 #[vI (wI (i.1+1)),vI i.2]∧bC T j 25 (bq c bL bM m n)∧Qa a 129 [(0,bp f),(3,bp j),(29,vB d1)]) ?_ ?_
    ·refine lbq 25 j (bq c bL bM m n) (aS bE)<|ae d ?_;clear d;intro dB d9 d;refine ak kr rfl kr enters39 (regex_flat_ok ao bL bM m n c K X0 (fun k (hk:X0 k)=>bm (u k hk).1 F.size) (rg cV F u) (rg C F u) dB d9) ?_;rintro eF eg ⟨x,rfl⟩;refine pN 2 [32,33] [(33,vB (!dB))]<|aA (s:=33) (g:=(!dB)) kr (fun b2=>?_) (fun b2=>?_)
     ·replace d:=au b2 d;refine pN 5 [29,34,35,36,37] [(29,vB true)]<|ab ?_;obtain rfl:=sj d;refine ad fun a hd hs aj=>?_;exact ⟨(aa F x nb),x.size,(bs.grown x nb),(bE.grown x nb),hd,hs,aZ aj⟩
     ·replace d:=av b2 d;have dC:=bE.grown x nb;refine lbq 25 j (bq c bL bM m n) (aS dC)<|ae d ?_;clear d;intro d2 ea d;have Y:=aa F x nb;refine ak kr rfl kr enters40 (regex_formed_ok ao bL bM m n c eg X0 (fun k (hk:X0 k)=>bm (u k hk).1 Y.size) (rg cV Y u) (rg C Y u) d2 ea) ?_;rintro eG eH ⟨Z,rfl⟩;refine pN 3 [29,36,37] [(29,vB (!d2))]<|ab ?_;obtain rfl:=sj d;refine ad fun a hd hs aj=>?_;exact ⟨(aa Y Z nb),(nt x.size Z.size),(bs.grown (am x Z) nb),(dC.grown Z nb),hd,hs,aZ aj⟩
    ·rintro a T ⟨y,eu,z,o,hd,hs,aj⟩;refine aM ?_ hd hs aj;refine al (b:=d1) kr (fun b3=>?_) (fun b3=>?_)
     ·replace l:=au b3 l;refine aO<|pN 1 [4] [(4,vI 6)]<|ab<|aw ?_
      obtain rfl:=sj l;refine aD (ay [vI 6] rfl ⟨kr,trivial⟩ ?_);exact ⟨y,rfl,z⟩
     ·replace l:=av b3 l;refine aO<|ae l ?_;clear l;intro d3 d l
      refine aR (J:=fun a U=>w.grownBy U (some f)∧Sz T U∧bC U f 44 #[vI (wI (i.1+1)),vI i.2]∧bC U j 25 (bq c bL bM m n)∧Qa a 129 [(0,bp f),(3,bp j),(38,vB d3)]) ?_ ?_
      ·refine pN 1 [39] [(39,bp j)]<|bx 3 ⟨j,0,none⟩ (vI c.1) (aS (o.cell 0 rfl))<|pN 2 [41,42] [(42,vB (c.1==10))]<|aA (s:=42) (g:=(c.1==10)) kr (fun b4=>?_) (fun b4=>?_)
       ·replace d:=au b4 d;refine pN 1 [43] [(43,.pointer (some ⟨j,1,none⟩))]<|bx 3 ⟨j,1,none⟩ (vI c.2.1) (aS (o.cell 1 rfl))<|pN 2 [45,46] [(46,vB (decide (c.2.1<0)))]<|aA (s:=46) (g:=(decide (c.2.1<0))) kr (fun b5=>?_) (fun b5=>?_)
        ·replace d:=au b5 d;refine pN 28 [38,47,48,49,50,51,52,53,54,55,56,57,58,59,60,61,62,63,64,65,66,67,68,69,70,71,72,73] [(38,vB true)]<|ab ?_;obtain rfl:=sj d;refine ad fun a hd hs aj=>?_;exact ⟨y,bZ,z,o,hd,hs,aZ aj⟩
        ·replace d:=av b5 d;refine pN 1 [47] [(47,.pointer (some ⟨j,1,none⟩))]<|bx 3 ⟨j,1,none⟩ (vI c.2.1) (aS (o.cell 1 rfl))<|pN 3 [49,50,51] [(51,vB (decide (c.2.1>99)))]<|aA (s:=51) (g:=(decide (c.2.1>99))) kr (fun b6=>?_) (fun b6=>?_)
         ·replace d:=au b6 d;refine pN 23 [38,52,53,54,55,56,57,58,59,60,61,62,63,64,65,66,67,68,69,70,71,72,73] [(38,vB true)]<|ab ?_;obtain rfl:=sj d;refine ad fun a hd hs aj=>?_;exact ⟨y,bZ,z,o,hd,hs,aZ aj⟩
         ·replace d:=av b6 d;refine pN 1 [52] [(52,.pointer (some ⟨j,2,none⟩))]<|bx 3 ⟨j,2,none⟩ (vI c.2.2.1) (aS (o.cell 2 rfl))<|pN 3 [54,55,56] [(56,vB (decide (c.2.2.1<(-1))))]<|aA (s:=56) (g:=(decide (c.2.2.1<(-1)))) kr (fun b7=>?_) (fun b7=>?_)
          ·replace d:=au b7 d;refine pN 18 [38,57,58,59,60,61,62,63,64,65,66,67,68,69,70,71,72,73] [(38,vB true)]<|ab ?_;obtain rfl:=sj d;refine ad fun a hd hs aj=>?_;exact ⟨y,bZ,z,o,hd,hs,aZ aj⟩
          ·replace d:=av b7 d;refine pN 1 [57] [(57,.pointer (some ⟨j,2,none⟩))]<|bx 3 ⟨j,2,none⟩ (vI c.2.2.1) (aS (o.cell 2 rfl))<|pN 3 [59,60,61] [(61,vB (decide (c.2.2.1>99)))]<|cj [(0,bp f),(3,bp j),(42,vB true),(61,vB (decide (c.2.2.1>99)))]<|aA (s:=61) (g:=(decide (c.2.2.1>99))) kr (fun b8=>?_) (fun b8=>?_)
           ·replace d:=au b8 d;refine pN 13 [38,62,63,64,65,66,67,68,69,70,71,72,73] [(38,vB true)]<|ab ?_;obtain rfl:=sj d;refine ad fun a hd hs aj=>?_;exact ⟨y,bZ,z,o,hd,hs,aZ aj⟩
           ·replace d:=av b8 d;refine pN 1 [62] [(62,.pointer (some ⟨j,2,none⟩))]<|bx 3 ⟨j,2,none⟩ (vI c.2.2.1) (aS (o.cell 2 rfl))<|pN 2 [64,65] [(65,vB (decide (c.2.2.1≥0)))]<|aA (s:=65) (g:=(decide (c.2.2.1≥0))) kr (fun b9=>?_) (fun b9=>?_)
            ·replace d:=au b9 d;refine pN 1 [66] [(66,.pointer (some ⟨j,2,none⟩))]<|bx 3 ⟨j,2,none⟩ (vI c.2.2.1) (aS (o.cell 2 rfl))<|pN 1 [68] [(68,.pointer (some ⟨j,1,none⟩))]<|bx 3 ⟨j,1,none⟩ (vI c.2.1) (aS (o.cell 1 rfl))<|pN 5 [38,70,71,72,73] [(38,vB (decide (c.2.2.1<c.2.1)))]<|ab ?_;obtain rfl:=sj d;refine ad fun a hd hs aj=>?_;exact ⟨y,bZ,z,o,hd,hs,aZ aj⟩
            ·replace d:=av b9 d;refine pN 9 [38,66,67,68,69,70,71,72,73] [(38,vB false)]<|ab ?_;obtain rfl:=sj d;refine ad fun a hd hs aj=>?_;exact ⟨y,bZ,z,o,hd,hs,aZ aj⟩
       ·replace d:=av b4 d;refine pN 32 [38,43,44,45,46,47,48,49,50,51,52,53,54,55,56,57,58,59,60,61,62,63,64,65,66,67,68,69,70,71,72,73] [(38,vB false)]<|ab ?_;obtain rfl:=sj d;refine ad fun a hd hs aj=>?_;exact ⟨y,bZ,z,o,hd,hs,aZ aj⟩
      ·rintro a U ⟨ca,ev,cb,ah,hd,hs,aj⟩;refine aM ?_ hd hs aj;refine al (b:=d3) kr (fun cc=>?_) (fun cc=>?_)
       ·replace l:=au cc l;refine aO<|pN 1 [4] [(4,vI 4)]<|ab<|aw ?_
        obtain rfl:=sj l;refine aD (ay [vI 4] rfl ⟨kr,trivial⟩ ?_);exact ⟨ca,rfl,cb⟩
       ·replace l:=av cc l;refine aO<|ae l ?_;clear l;intro d4 d l
        refine aR (J:=fun a L=>w.grownBy L (some f)∧Sz U L∧bC L f 44 #[vI (wI (i.1+1)),vI i.2]∧bC L j 25 (bq c bL bM m n)∧Qa a 129 [(0,bp f),(3,bp j),(74,vB d4)]) ?_ ?_
        ·refine pN 1 [75] [(75,bp j)]<|bx 3 ⟨j,0,none⟩ (vI c.1) (aS (ah.cell 0 rfl))<|pN 2 [77,78] [(78,vB (c.1==7))]<|aA (s:=78) (g:=(c.1==7)) kr (fun ch=>?_) (fun ch=>?_)
         ·replace d:=au ch d;refine pN 1 [79] [(79,.pointer (some ⟨j,1,none⟩))]<|bx 3 ⟨j,1,none⟩ (vI c.2.1) (aS (ah.cell 1 rfl))<|pN 3 [74,81,82] [(74,vB (c.2.1 !=0))]<|ab ?_;obtain rfl:=sj d;refine ad fun a hd hs aj=>?_;exact ⟨ca,bZ,cb,ah,hd,hs,aZ aj⟩
         ·replace d:=av ch d;refine pN 5 [74,79,80,81,82] [(74,vB false)]<|ab ?_;obtain rfl:=sj d;refine ad fun a hd hs aj=>?_;exact ⟨ca,bZ,cb,ah,hd,hs,aZ aj⟩
        ·rintro a L ⟨an,ew,ax,dD,hd,hs,aj⟩;refine aM ?_ hd hs aj;refine ae l ?_;clear l;intro eh d l;refine aE (J:=fun a M=>∃ dE:bu,eh= .inl dE∧w.grownBy M (some f)∧Sz L M∧bC M f 44 (cN dE)∧bC M j 25 (bq c bL bM m n)∧Qa a 129 [(0,bp f),(3,bp j)]) ?_ ?_
         ·refine al (b:=d4) kr (fun ck=>?_) (fun ck=>?_)
          ·replace d:=au ck d;refine aO<|pN 3 [83,84,85] [(83,bp f),(85,.pointer (some ⟨f,1,none⟩))]<|bx 3 ⟨f,1,none⟩ (vI i.2) (aS (ax.cell 1 rfl))<|pN 3 [87,88,89] [(87,vI (wI (i.2+1))),(89,.pointer (some ⟨f,1,none⟩))]<|aq 3 1 (vI (wI (i.2+1))) #[vI (wI (i.1+1)),vI (wI (i.2+1))] ax kr kr kr ?_;intro ei a0 eb ex;refine cI<|ae d ?_;clear d;intro d5 p d
           refine aE (J:=fun a bg=>w.grownBy bg (some f)∧Sz ei bg∧bC bg f 44 #[vI (wI (i.1+1)),vI (wI (i.2+1))]∧bC bg j 25 (bq c bL bM m n)∧Qa a 129 [(0,bp f),(3,bp j),(101,vB d5)]) ?_ ?_
           ·refine bX kr ?_;intro V G;refine aT [0,2,3,4] (bA 12 [0,2,3,4]) 8 kr kr<|pN 4 [90,92,93,94] [(90,.pointer (some ⟨j,1,none⟩)),(94,.pointer (some ⟨f,1,none⟩))]<|ab<|ar<|aK (cS V []) [1,5] [(1,some true),(5,some true)] (bA 12 [0,1,2,3,4,5]) 6 kr kr (az _ _) ?_;have ey:=az V [];have ec:¬ (· =j) f:=fun hx=>nl ((aH dw) _ hx) ((bc c0) _ rfl);have a1:=(dD.grown a0 (ac ec)).grown G nb;refine bx 3 ⟨j,1,none⟩ (vI c.2.1) (cf fun w' hC'=>((hC'.box a1 bG).cell 1 rfl)) ?_;have cs:=eb.grown G nb;refine bx 3 ⟨f,1,none⟩ (vI (wI (i.2+1))) (cf fun w' hC'=>((hC'.box cs bG).cell 1 rfl)) ?_;refine ab<|ar<|aT [6,7,8] (bA 12 [0,1,2,3,4,5,6,7,8]) 3 kr kr<|pN 2 [96,97] [(97,vB (c.2.1 !=(wI (i.2+1))))]<|aA (s:=97) (g:=(c.2.1 !=(wI (i.2+1)))) kr (fun cv=>?_) (fun cv=>?_)
            ·replace p:=au cv p;refine pN 1 [98] [(98,undef)]<|ab<|ar<|aK (cS V []) [9] [(9,some true)] (bA 12 [0,1,2,3,4,5,6,7,8,9]) 2 kr kr (az _ _) ?_;have ez:=az V [];refine pN 1 [99] [(99,undef)]<|ab<|ar<|aT [10,11] (bA 12 [0,1,2,3,4,5,6,7,8,9,10,11]) 0 kr kr<|pN 2 [100,101] [(101,vB true)]<|ab<|ar<|bi kr ?_;obtain rfl:=sj p;refine ad fun a hd hs aj=>?_;exact ⟨(aa (aa an a0 ap) G nb),G.size,cs,a1,hd,hs,aZ aj⟩
            ·replace p:=av cv p;refine pN 1 [98] [(98,.pointer (some ⟨j,1,none⟩))]<|ab<|ar<|aK (cS V []) [9] [(9,some true)] (bA 12 [0,1,2,3,4,5,6,7,8,9]) 2 kr kr (az _ _) ?_;have eA:=az V [];refine bx 3 ⟨j,1,none⟩ (vI c.2.1) (cf fun w' hC'=>((hC'.box a1 bG).cell 1 rfl)) ?_;refine ab<|ar<|aT [10,11] (bA 12 [0,1,2,3,4,5,6,7,8,9,10,11]) 0 kr kr<|pN 2 [100,101] [(101,vB (decide (c.2.1>9)))]<|ab<|ar<|bi kr ?_;obtain rfl:=sj p;refine ad fun a hd hs aj=>?_;exact ⟨(aa (aa an a0 ap) G nb),G.size,cs,a1,hd,hs,aZ aj⟩
           ·rintro a bg ⟨c3,dH,c4,dI,hd,hs,aj⟩;refine aM ?_ hd hs aj;have dJ:=(nt a0.size dH);refine al (b:=d5) kr (fun a2=>?_) (fun a2=>?_)
            ·replace d:=au a2 d;refine aO<|pN 1 [4] [(4,vI 11)]<|ab<|aw ?_
             obtain rfl:=sj d;replace l:=bD l;obtain rfl:=sj l;refine aD (ay [vI 11] rfl ⟨kr,trivial⟩ ?_);exact ⟨c3,rfl,c4⟩
            ·replace d:=av a2 d;refine aJ ?_;obtain rfl:=sj d;refine ad fun a hd hs aj=>?_;exact ⟨((wI (i.1+1)),wI (i.2+1)),rfl,c3,dJ,c4,dI,hd,hs,aZ aj⟩
          ·replace d:=av ck d;refine aW<|ae d ?_;clear d;intro dF p d
           refine aE (J:=fun a N=>w.grownBy N (some f)∧Sz L N∧bC N f 44 #[vI (wI (i.1+1)),vI i.2]∧bC N j 25 (bq c bL bM m n)∧Qa a 129 [(0,bp f),(3,bp j),(102,vB dF)]) ?_ ?_
           ·refine bX kr ?_;intro H t;refine aT [0] (bA 13 [0]) 12 kr kr<|pN 1 [103] [(103,bp j)]<|ab<|ar<|aK (cS H []) [1] [(1,some true)] (bA 13 [0,1]) 11 kr kr (az _ _) ?_;have ej:=az H [];have I:=dD.grown t nb;refine bx 3 ⟨j,0,none⟩ (vI c.1) (cf fun w' hC'=>((hC'.box I bG).cell 0 rfl)) ?_;refine ab<|ar<|aT [2,3,4,6,7,8] (bA 13 [0,1,2,3,4,6,7,8]) 5 kr kr<|pN 2 [105,106] [(106,vB (c.1==12))]<|aA (s:=106) (g:=(c.1==12)) kr (fun a3=>?_) (fun a3=>?_)
            ·replace p:=au a3 p;refine pN 4 [107,109,110,111] [(107,.pointer (some ⟨j,1,none⟩)),(111,.pointer (some ⟨f,1,none⟩))]<|ab<|ar<|aK (cS H []) [5,9] [(5,some true),(9,some true)] (bA 13 [0,1,2,3,4,5,6,7,8,9]) 3 kr kr (az _ _) ?_;have ek:=az H [];refine bx 3 ⟨j,1,none⟩ (vI c.2.1) (cf fun w' hC'=>((hC'.box I bG).cell 1 rfl)) ?_;have c5:=ax.grown t nb;refine bx 3 ⟨f,1,none⟩ (vI i.2) (cf fun w' hC'=>((hC'.box c5 bG).cell 1 rfl)) ?_;refine ab<|ar<|aT [10,11,12] (bA 13 [0,1,2,3,4,5,6,7,8,9,10,11,12]) 0 kr kr<|pN 3 [102,113,114] [(102,vB (decide (c.2.1>i.2)))]<|ab<|ar<|bi kr ?_;obtain rfl:=sj p;refine ad fun a hd hs aj=>?_;exact ⟨(aa an t nb),t.size,c5,I,hd,hs,aZ aj⟩
            ·replace p:=av a3 p;refine pN 4 [107,109,110,111] [(107,undef),(111,undef)]<|ab<|ar<|aK (cS H []) [5,9] [(5,some true),(9,some true)] (bA 13 [0,1,2,3,4,5,6,7,8,9]) 3 kr kr (az _ _) ?_;have el:=az H [];refine pN 2 [108,112] [(108,undef),(112,undef)]<|ab<|ar<|aT [10,11,12] (bA 13 [0,1,2,3,4,5,6,7,8,9,10,11,12]) 0 kr kr<|pN 3 [102,113,114] [(102,vB false)]<|ab<|ar<|bi kr ?_;obtain rfl:=sj p;refine ad fun a hd hs aj=>?_;exact ⟨(aa an t nb),t.size,(ax.grown t nb),I,hd,hs,aZ aj⟩
           ·rintro a N ⟨c6,dK,c7,dL,hd,hs,aj⟩;refine aM ?_ hd hs aj;refine al (b:=dF) kr (fun a4=>?_) (fun a4=>?_)
            ·replace d:=au a4 d;refine aO<|pN 1 [4] [(4,vI 12)]<|ab<|aw ?_
             obtain rfl:=sj d;replace l:=bD l;obtain rfl:=sj l;refine aD (ay [vI 12] rfl ⟨kr,trivial⟩ ?_);exact ⟨c6,rfl,c7⟩
            ·replace d:=av a4 d;refine aJ ?_;obtain rfl:=sj d;refine ad fun a hd hs aj=>?_;exact ⟨((wI (i.1+1)),i.2),rfl,c6,dK,c7,dL,hd,hs,aZ aj⟩
         ·rintro a M ⟨dE,e,dM,em,dN,dO,hd,hs,aj⟩;subst e;refine aM ?_ hd hs aj;replace l:=cn l;refine bQ<|aW<|aO<|pN 1 [115] [(115,.pointer (some ⟨j,6,none⟩))]<|bx 23 ⟨j,6,none⟩ (vL m c.2.2.2.2.2.2 n) (aS (dO.cell 6 rfl))<|pN 2 [117,118] [(117,vI (lz c.2.2.2.2.2.2)),(118,vI 0)]<|ab<|ae l ?_;clear l;intro ed d l
          refine aE (J:=fun a a5=>∃ cw:bu,ed= .inl cw∧w.grownBy a5 (some f)∧Sz M a5∧bC a5 f 44 (cN cw)∧Qa a 129 []) ?_ ?_
          ·refine aN<|cm (A:=fun (q:Int × bu) a O=>w.grownBy O (some f)∧Sz M O∧bC O f 44 (cN q.2)∧Qa a 129 [(0,bp f),(116,vL m c.2.2.2.2.2.2 n),(117,vI (lz c.2.2.2.2.2.2)),(118,vI q.1)]) d ?_ ?_
           ·intro a hd hs aj;exact ⟨dM,bZ,dN,hd,hs,aZ aj⟩
           ·rintro q r2 p d6 a O ⟨D,c8,a6,hd,hs,aj⟩;refine aM ?_ hd hs aj;refine aO<|pN 1 [119] [(119,vB (decide (q.1<(lz c.2.2.2.2.2.2))))]<|cI<|al (b:=(decide (q.1<(lz c.2.2.2.2.2.2)))) kr (fun a7=>?_) (fun a7=>?_)
            ·replace p:=au a7 p;refine aJ<|aW<|aN<|aO<|ae p ?_;clear p;intro h c9 p
             refine dp .i64 7 (rg C D u) c9 bT ?_;obtain ⟨_,⟨_,_,rfl,rfl,⟨_,_,rfl,rfl,⟨_,_,rfl,rfl,⟨_,_,rfl,rfl,⟨_,_,rfl,rfl,⟨_,_,rfl,⟨P,Q,rfl,dP⟩,⟨R,S,rfl,dQ⟩⟩⟩⟩⟩⟩⟩,dR⟩:=cells_un (C.cellsK c9);refine laq 25 (ba m ((q.1:Int).toNat*7)) #[vI (Pc.un h).1,vI (Pc.un h).2.1,vI (Pc.un h).2.2.1,vB (Pc.un h).2.2.2.1,vB (Pc.un h).2.2.2.2.1,.slice P (length (Pc.un h).2.2.2.2.2.1) Q,.slice R (length (Pc.un h).2.2.2.2.2.2) S] (aS (dR O (fun k hk=>D.block k (u k hk).1 (fun e=>(u k hk).2 (sj e))))) ?_;refine aQ bp cz 25 kr kr ?_;intro cx eB a8 dS bl en;have dT:=(nt c8 a8.size);refine aq 25 0 (.agg #[vI (Pc.un h).1,vI (Pc.un h).2.1,vI (Pc.un h).2.2.1,vB (Pc.un h).2.2.2.1,vB (Pc.un h).2.2.2.2.1,.slice P (length (Pc.un h).2.2.2.2.2.1) Q,.slice R (length (Pc.un h).2.2.2.2.2.2) S]) #[vI (Pc.un h).1,vI (Pc.un h).2.1,vI (Pc.un h).2.2.1,vB (Pc.un h).2.2.2.1,vB (Pc.un h).2.2.2.2.1,.slice P (length (Pc.un h).2.2.2.2.2.1) Q,.slice R (length (Pc.un h).2.2.2.2.2.2) S] dS kr kr kr ?_;intro ee a9 dU eo;refine bV<|pN 1 [122] [(122,bp f)]<|lbq 25 cx #[vI (Pc.un h).1,vI (Pc.un h).2.1,vI (Pc.un h).2.2.1,vB (Pc.un h).2.2.2.1,vB (Pc.un h).2.2.2.2.1,.slice P (length (Pc.un h).2.2.2.2.2.1) Q,.slice R (length (Pc.un h).2.2.2.2.2.2) S] (aS dU)<|ae p ?_;clear p;intro B dV p;have dG:w.heap.size≤cx:=cp bl D.size;have E:=aa (aa D a8 nb) a9 (bH dG);have dW:¬ (· =f) cx:=fun hx=>nl ((aH bl) _ rfl) ((bc a6) _ hx);refine ak kr rfl kr enters21 (r f q.2 P Q R S ((Pc.un h).1,(Pc.un h).2.1,(Pc.un h).2.2.1,(Pc.un h).2.2.2.1,(Pc.un h).2.2.2.2.1,(Pc.un h).2.2.2.2.2.1,(Pc.un h).2.2.2.2.2.2) ee X0 (jg u E) ((a6.grown a8 nb).grown a9 (ac dW)) (rg dP E u) (rg dQ E u) B dV) ?_;rintro eC eD ⟨bb,rfl,dg⟩;refine pN 1 [7] [(7,vI B.1)]<|bV<|pN 2 [125,126] [(126,vB (B.1 !=0))]<|ab<|al (b:=(B.1 !=0)) kr (fun bd=>?_) (fun bd=>?_)
             ·replace p:=au bd p;refine aO<|pN 2 [4,127] [(4,vI B.1)]<|ab<|aw ?_
              obtain rfl:=sj p;replace d:=congrArg some (d6 _ rfl);obtain rfl:=sj d;replace l:=bD l;obtain rfl:=sj l;refine aD (ay [vI B.1] rfl ⟨kr,trivial⟩ ?_);exact ⟨(aa E bb ap),rfl,dg⟩
             ·replace p:=av bd p;refine aJ<|bQ<|aF<|pN 2 [118,128] [(118,vI (wI (q.1+1)))]<|ab ?_;obtain rfl:=sj p;refine ad fun a hd hs aj=>?_;exact ⟨((wI (q.1+1)),B.2),rfl,(aa E bb ap),(nt (nt dT a9.size) bb.size),dg,hd,hs,aZ aj⟩
            ·replace p:=av a7 p;refine cd<|cl rfl ?_
             obtain rfl:=sj p;replace d:=congrArg some (d6 _ rfl);obtain rfl:=sj d;refine ad fun a hd hs aj=>?_;exact ⟨q.2,rfl,D,c8,a6,hd,hs,aZ aj⟩
          ·rintro a a5 ⟨cw,e,dX,ep,dY,hd,hs,aj⟩;subst e;refine aM ?_ hd hs aj;replace l:=cn l;refine aO<|pN 1 [4] [(4,vI 0)]<|ab<|aw ?_
           obtain rfl:=sj l;refine aD (ay [vI 0] rfl ⟨kr,trivial⟩ ?_);exact ⟨dX,rfl,dY⟩
theorem grp_regex_survey_look_ok:∀ (ao:Nat),gC21 ao:=by
  intro ao
  induction ao with
  | zero=>unfold gC21;intros;rename_i a;rw[regex_survey_look.eq_1]at a;cases a
  | succ ao ih=>exact regex_survey_look_step ao ih

theorem regex_survey_look_ok (ao:Nat):
    gC21 ao:=
  grp_regex_survey_look_ok ao

theorem cX (ao:Nat) (b:Int) (a:Int) (c:World) (h:bu) (i:regex_at ao b a=some h):
    Cs 22 [vI b,vI a] c (G1 c [.agg (cN h)]):=by
 have e:Bl c c:=Below.refl _ _;unfold regex_at at i;refine aV Tryz.func22 rfl Tryz.ntmps22 kr ?_;refine cj [(0,vI b),(1,vI a)]<|aO<|aQ bp #[vI 0,vI 0] 27 kr kr ?_
 intro f q j k g p;refine bV<|pN 3 [5,6,7] [(7,.agg #[vI b,vI a])]<|aq 27 0 (.agg #[vI b,vI a]) #[vI b,vI a] k kr kr kr ?_;intro n l m o;refine ab<|aw ?_
 obtain rfl:=sj i;refine aD (ay [.agg #[vI b,vI a]] rfl ⟨⟨⟨f,0,none⟩,kr,run_loadVar_row n f _ 27 _ _ _ m bt rfl kr⟩,trivial⟩ ?_);have d:c.heap.size≤f:=cp g e.size;exact ⟨ag (bg (bg e j nb) l (bN d)),rfl⟩

theorem stringslite_IndexByte_ok (ao:Nat) (a:ByteArray) (b:Int) (c:World) (d:Int) (e:stringslite_IndexByte ao a b=some d):
    Cs 73 [vS a,vU b] c (G1 c [vI d]):=by
 have g:Bl c c:=Below.refl _ _;unfold stringslite_IndexByte at e;refine aV Tryz.func73 rfl Tryz.ntmps73 kr ?_;refine cj [(0,vS a),(1,vU b)]<|aO<|pN 1 [4] []<|bV<|pN 2 [5,6] [(5,vS a),(6,vU b)]<|gv_nat (f:=87) (vs:=[vS a,vU b]) (vI (nIdxB (bytesOf a) b)) [] nofun rfl rfl rfl kr rfl kr kr native87 (fun w' _=>nat_idxS _ _ w') rfl ?_;refine pN 1 [4] [(4,vI (nIdxB (bytesOf a) b))]<|ab<|aw ?_
 obtain rfl:=sj e;refine aD (ay [vI (nIdxB (bytesOf a) b)] rfl ⟨kr,trivial⟩ ?_);exact ⟨ag g,rfl⟩

theorem strings_IndexByte_ok (ao:Nat) (a:ByteArray) (b:Int) (c:World) (f:Int) (d:strings_IndexByte ao a b=some f):
    Cs 53 [vS a,vU b] c (G1 c [vI f]):=by
 have g:Bl c c:=Below.refl _ _;unfold strings_IndexByte at d;refine aV Tryz.func53 rfl Tryz.ntmps53 kr ?_;refine cj [(0,vS a),(1,vU b)]<|aO<|pN 1 [4] []<|bV<|pN 2 [5,6] [(5,vS a),(6,vU b)]<|ae d ?_;clear d;intro e h d;refine ak kr rfl kr enters73 (stringslite_IndexByte_ok ao a b c e h) ?_;rintro j k ⟨i,rfl⟩;refine pN 1 [4] [(4,vI e)]<|ab<|aw ?_
 obtain rfl:=sj d;refine aD (ay [vI e] rfl ⟨kr,trivial⟩ ?_);exact ⟨ag (bg g i nb),rfl⟩

theorem regex_spell_ok (ao:Nat) (c:Int) (e:ByteArray) (h:World) (t:ByteArray) (d:regex_spell ao c e=some t):
    Cs 31 [vI c,vS e] h (G1 h [vS t]):=by
 have j:Bl h h:=Below.refl _ _;unfold regex_spell at d;refine aV Tryz.func31 rfl Tryz.ntmps31 kr ?_;refine cj [(0,vI c),(1,vS e)]<|aO<|pN 1 [4] []<|cI<|aN<|aO<|pN 3 [5,6,7] [(5,vB (c==10))]<|ab<|al (b:=(c==10)) kr (fun k=>?_) (fun k=>?_)
 ·replace d:=au k d;refine aO<|pN 1 [4] [(4,vS (bh [92,110]))]<|ab<|aw ?_
  obtain rfl:=sj d;refine aD (ay [vS (bh [92,110])] rfl ⟨kr,trivial⟩ ?_);exact ⟨ag j,rfl⟩
 ·replace d:=av k d;refine aO<|pN 3 [8,9,10] [(8,vB (c==9))]<|ab<|al (b:=(c==9)) kr (fun l=>?_) (fun l=>?_)
  ·replace d:=au l d;refine aO<|pN 1 [4] [(4,vS (bh [92,116]))]<|ab<|aw ?_
   obtain rfl:=sj d;refine aD (ay [vS (bh [92,116])] rfl ⟨kr,trivial⟩ ?_);exact ⟨ag j,rfl⟩
  ·replace d:=av l d;refine aO<|ae d ?_;clear d;intro u f d
   refine aR (J:=fun a q=>Bl h q∧Sz h q∧Qa a 28 [(0,vI c),(11,vB u)]) ?_ ?_
   ·refine pN 3 [12,13,14] [(14,vB (decide (c<128)))]<|aA (s:=14) (g:=(decide (c<128))) kr (fun m=>?_) (fun m=>?_)
    ·replace f:=au m f;refine pN 3 [15,16,17] [(15,vS e),(17,vU (wB (c)))]<|ae f ?_;clear f;intro v w f;refine ak kr rfl kr enters53 (strings_IndexByte_ok ao e (wB (c)) h v w) ?_;rintro z A ⟨o,rfl⟩;refine pN 3 [11,19,20] [(11,vB (decide (v≥0)))]<|ab ?_;obtain rfl:=sj f;refine ad fun a hd hs aj=>?_;exact ⟨(bg j o nb),o.size,hd,hs,aZ aj⟩
    ·replace f:=av m f;refine pN 7 [11,15,16,17,18,19,20] [(11,vB false)]<|ab ?_;obtain rfl:=sj f;refine ad fun a hd hs aj=>?_;exact ⟨j,bZ,hd,hs,aZ aj⟩
   ·rintro a q ⟨n,y,hd,hs,aj⟩;refine aM ?_ hd hs aj;refine al (b:=u) kr (fun i=>?_) (fun i=>?_)
    ·replace d:=au i d;refine aO<|pN 2 [21,22] [(22,vR (wR (c)))]<|gv_i2s (src:=21) (dst:=9) (kk:=.i32) (x:=(wR (c))) [] nofun rfl rfl rfl kr kr kr bU rfl ?_;refine ae d ?_;clear d;intro p r d;refine dz 9 r<|pN 1 [4] [(4,vS p)]<|ab<|aw ?_
     obtain rfl:=sj d;refine aD (ay [vS p] rfl ⟨kr,trivial⟩ ?_);exact ⟨ag n,rfl⟩
    ·replace d:=av i d;refine aJ<|bQ<|aO<|pN 2 [25,26] [(26,vR (wR (c)))]<|gv_i2s (src:=21) (dst:=9) (kk:=.i32) (x:=(wR (c))) [] nofun rfl rfl rfl kr kr kr bU rfl ?_;refine pN 1 [4] [(4,vS (Utf8.encode (wR (c))))]<|ab<|aw ?_
     obtain rfl:=sj d;refine aD (ay [vS (Utf8.encode (wR (c)))] rfl ⟨kr,trivial⟩ ?_);exact ⟨ag n,rfl⟩

theorem regex_class_ok (ao:Nat) (af:bS) (ai:Nat) (j:bS) (l:Nat) (c:cy) (m:World) (T:Nat→Prop) (M:Lw T m) (aG:Rd (bY (iE .i64) (iE .i64)) m T af ai c.2.2.2.2.2.1) (a6:Rd pcE m T j l c.2.2.2.2.2.2) (r0:ByteArray) (o:regex_class ao c=some r0):
    Cs 32 [.agg (bq c af ai j l)] m (G1 m [vS r0]):=by
 have N:Bl m m:=Below.refl _ _;unfold regex_class at o;refine aV Tryz.func32 rfl Tryz.ntmps32 kr ?_;refine cj [(0,.agg (bq c af ai j l))]<|aO<|aQ bp (bq c af ai j l) 25 kr kr ?_
 intro x w2 O z bo b3;refine pN 1 [2] []<|bV<|pN 1 [3] [(3,vS (bh [91]))]<|cI<|aO<|pN 1 [6] [(6,.pointer (some ⟨x,3,none⟩))]<|bx 4 ⟨x,3,none⟩ (vB c.2.2.2.1) (aS (z.cell 3 rfl))<|ab<|ae o ?_;clear o;intro j7 n o
 refine aE (J:=fun a y=>Bl m y∧Sz w2 y∧bC y x 25 (bq c af ai j l)∧Qa a 36 [(1,bp x),(3,vS j7)]) ?_ ?_
 ·refine al (b:=c.2.2.2.1) kr (fun B=>?_) (fun B=>?_)
  ·replace n:=au B n;refine aF<|pN 1 [8] [(8,vS (bh [91]))]<|ae n ?_;clear n;intro a8 U n;refine dz 9 U<|pN 1 [3] [(3,vS a8)]<|ab ?_;obtain rfl:=sj n;refine ad fun a hd hs aj=>?_;exact ⟨(bg N O nb),bZ,z,hd,hs,aZ aj⟩
  ·replace n:=av B n;refine aJ ?_;obtain rfl:=sj n;refine ad fun a hd hs aj=>?_;exact ⟨(bg N O nb),bZ,z,hd,hs,aZ aj⟩
 ·rintro a y ⟨V,bA,W,hd,hs,aj⟩;refine aM ?_ hd hs aj;refine aW<|aO<|pN 1 [10] [(10,.pointer (some ⟨x,5,none⟩))]<|bx 22 ⟨x,5,none⟩ (vL af c.2.2.2.2.2.1 ai) (aS (W.cell 5 rfl))<|pN 2 [12,13] [(12,vI (lz c.2.2.2.2.2.1)),(13,vI 0)]<|ab<|ae o ?_;clear o;intro P n o
  refine aE (J:=fun a C=>Bl m C∧Sz y C∧Qa a 36 [(3,vS P)]) ?_ ?_
  ·refine aN<|cm (A:=fun (f:ByteArray × Int) a v=>Bl m v∧Sz y v∧Qa a 36 [(3,vS f.1),(11,vL af c.2.2.2.2.2.1 ai),(12,vI (lz c.2.2.2.2.2.1)),(13,vI f.2)]) n ?_ ?_
   ·intro a hd hs aj;exact ⟨V,bZ,hd,hs,aZ aj⟩
   ·rintro f r2 e a9 a v ⟨h,D,hd,hs,aj⟩;refine aM ?_ hd hs aj;refine aO<|pN 1 [14] [(14,vB (decide (f.2<(lz c.2.2.2.2.2.1))))]<|cI<|al (b:=(decide (f.2<(lz c.2.2.2.2.2.1)))) kr (fun q=>?_) (fun q=>?_)
    ·replace e:=au q e;refine aJ<|aW<|aN<|aO<|ae e ?_;clear e;intro d E e
     refine dp .i64 2 (aG.below h M) E aY ?_;obtain ⟨_,⟨_,_,rfl,rfl,rfl⟩,X⟩:=aG.cellsK E;refine laq 53 (ba af ((f.2:Int).toNat*2)) (cN d) (aS (X v (fun k hk=>h.block k (M k hk)))) ?_;refine aQ bp #[vI 0,vI 0] 53 kr kr ?_;intro g b4 r Y w bE;refine aq 53 0 (.agg (cN d)) (cN d) Y kr kr kr ?_;intro bb s F b0;refine bV<|pN 2 [17,18] [(17,vS f.1),(18,bp g)]<|bx 3 ⟨g,0,none⟩ (vI d.1) (aS (F.cell 0 rfl))<|ae e ?_;clear e;intro bd Z e;refine ak kr rfl kr enters31 (regex_spell_ok ao d.1 (bh [92,93,94,45,91]) bb bd Z) ?_;rintro b5 Q ⟨p,rfl⟩;refine ae e ?_;clear e;intro G ah e;refine dz 9 ah<|pN 1 [3] [(3,vS G)]<|bV<|pN 1 [22] [(22,.pointer (some ⟨g,1,none⟩))] ?_
     have t:=F.grown p nb;refine bx 3 ⟨g,1,none⟩ (vI d.2) (aS (t.cell 1 rfl))<|pN 1 [24] [(24,bp g)]<|bx 3 ⟨g,0,none⟩ (vI d.1) (aS (t.cell 0 rfl))<|pN 1 [26] [(26,vB (decide (d.2>d.1)))]<|cj [(3,vS G),(5,bp g),(11,vL af c.2.2.2.2.2.1 ai),(12,vI (lz c.2.2.2.2.2.1)),(13,vI f.2),(26,vB (decide (d.2>d.1)))]<|ab<|ae e ?_;clear e;intro R i e
     refine aE (J:=fun a H=>Bl m H∧Sz Q H∧Qa a 36 [(3,vS R),(11,vL af c.2.2.2.2.2.1 ai),(12,vI (lz c.2.2.2.2.2.1)),(13,vI f.2)]) ?_ ?_
     ·refine al (b:=(decide (d.2>d.1))) kr (fun u=>?_) (fun u=>?_)
      ·replace i:=au u i;refine aF<|pN 2 [27,28] [(27,vS G),(28,.pointer (some ⟨g,1,none⟩))]<|bx 3 ⟨g,1,none⟩ (vI d.2) (aS (t.cell 1 rfl))<|ae i ?_;clear i;intro be an i;refine ak kr rfl kr enters31 (regex_spell_ok ao d.2 (bh [92,93,94,45,91]) Q be an) ?_;rintro b6 b7 ⟨I,rfl⟩;refine ae i ?_;clear i;intro b8 ax i;refine dz 9 ax<|ae i ?_;clear i;intro bl a0 i;refine dz 9 a0<|pN 1 [3] [(3,vS bl)]<|ab ?_;obtain rfl:=sj i;refine ad fun a hd hs aj=>?_;have K:m.heap.size≤g:=cp w h.size;exact ⟨(bg (bg (bg h r nb) s (bN K)) (am p I) nb),I.size,hd,hs,aZ aj⟩
      ·replace i:=av u i;refine aJ ?_;obtain rfl:=sj i;refine ad fun a hd hs aj=>?_;have L:m.heap.size≤g:=cp w h.size;exact ⟨(bg (bg (bg h r nb) s (bN L)) p nb),bZ,hd,hs,aZ aj⟩
     ·rintro a H ⟨a1,a2,hd,hs,aj⟩;refine aM ?_ hd hs aj;have a3:=(nt (nt (nt (nt D r.size) s.size) p.size) a2);refine bQ<|aF<|pN 2 [13,33] [(13,vI (wI (f.2+1)))]<|ab ?_;obtain rfl:=sj e;refine ad fun a hd hs aj=>?_;exact ⟨(R,wI (f.2+1)),rfl,a1,a3,hd,hs,aZ aj⟩
    ·replace e:=av q e;refine cd<|cl rfl ?_
     obtain rfl:=sj e;replace n:=congrArg some (a9 _ rfl);obtain rfl:=sj n;refine ad fun a hd hs aj=>?_;exact ⟨h,D,hd,hs,aZ aj⟩
  ·rintro a C ⟨a4,b2,hd,hs,aj⟩;refine aM ?_ hd hs aj;refine aO<|pN 1 [34] [(34,vS P)]<|ae o ?_;clear o;intro S a5 o;refine dz 9 a5<|pN 1 [2] [(2,vS S)]<|ab<|aw ?_
   obtain rfl:=sj o;refine aD (ay [vS S] rfl ⟨kr,trivial⟩ ?_);exact ⟨ag a4,rfl⟩

theorem regex_pick_ok (ao:Nat) (c:Bool) (d:ByteArray) (a:ByteArray) (g:World) (i:ByteArray) (e:regex_pick ao c d a=some i):
    Cs 33 [vB c,vS d,vS a] g (G1 g [vS i]):=by
 have h:Bl g g:=Below.refl _ _;unfold regex_pick at e;refine aV Tryz.func33 rfl Tryz.ntmps33 kr ?_;refine cj [(0,vB c),(1,vS d),(2,vS a)]<|aO<|pN 1 [6] []<|cI<|aO<|pN 1 [7] [(7,vB c)]<|ab<|al (b:=c) kr (fun f=>?_) (fun f=>?_)
 ·replace e:=au f e;refine aO<|pN 2 [6,8] [(6,vS a)]<|ab<|aw ?_
  obtain rfl:=sj e;refine aD (ay [vS a] rfl ⟨kr,trivial⟩ ?_);exact ⟨ag h,rfl⟩
 ·replace e:=av f e;refine aJ<|aO<|pN 2 [6,9] [(6,vS d)]<|ab<|aw ?_
  obtain rfl:=sj e;refine aD (ay [vS d] rfl ⟨kr,trivial⟩ ?_);exact ⟨ag h,rfl⟩

theorem regex_times_ok (ao:Nat) (af:bS) (ai:Nat) (f:bS) (h:Nat) (d:cy) (l:World) (u:Nat→Prop) (N:Lw u l) (aG:Rd (bY (iE .i64) (iE .i64)) l u af ai d.2.2.2.2.2.1) (bb:Rd pcE l u f h d.2.2.2.2.2.2) (T:Rd (tabE 3 pow10C) l u (ro 3) 1 [vW 1]) (r0:ByteArray) (j:regex_times ao d=some r0):
    Cs 35 [.agg (bq d af ai f h)] l (G1 l [vS r0]):=by
 have be:Bl l l:=Below.refl _ _;unfold regex_times at j;refine aV Tryz.func35 rfl Tryz.ntmps35 kr ?_;refine cj [(0,.agg (bq d af ai f h))]<|aO<|aQ bp (bq d af ai f h) 25 kr kr ?_
 intro e w2 bl U b4 b8;refine pN 1 [2] []<|bV<|pN 1 [3] []<|cI<|aO<|pN 1 [5] [(5,.pointer (some ⟨e,1,none⟩))]<|bx 3 ⟨e,1,none⟩ (vI d.2.1) (aS (U.cell 1 rfl))<|ae j ?_;clear j;intro v bn j;have O:=bg be bl nb;refine ak kr rfl kr enters36 (strconv_Itoa_ok ao d.2.1 w2 u (fun k (hk:u k)=>bm (N k hk) O.size) (T.below O N) v bn) ?_;rintro b9 bo ⟨z,rfl⟩;refine pN 1 [4] [(4,vS v)]<|ab<|aN<|aO<|ae j ?_;clear j;intro V c j
 refine aR (J:=fun a q=>Bl l q∧Sz bo q∧bC q e 25 (bq d af ai f h)∧Qa a 64 [(1,bp e),(4,vS v),(16,vB V)]) ?_ ?_
 ·refine pN 1 [17] [(17,.pointer (some ⟨e,2,none⟩))] ?_;have r:=U.grown z nb;refine bx 3 ⟨e,2,none⟩ (vI d.2.2.1) (aS (r.cell 2 rfl))<|pN 2 [19,20] [(20,vB (d.2.2.1==(-1)))]<|aA (s:=20) (g:=(d.2.2.1==(-1))) kr (fun A=>?_) (fun A=>?_)
  ·replace c:=au A c;refine pN 1 [21] [(21,.pointer (some ⟨e,1,none⟩))]<|bx 3 ⟨e,1,none⟩ (vI d.2.1) (aS (r.cell 1 rfl))<|pN 3 [16,23,24] [(16,vB (d.2.1==0))]<|ab ?_;obtain rfl:=sj c;refine ad fun a hd hs aj=>?_;exact ⟨(bg O z nb),bZ,r,hd,hs,aZ aj⟩
  ·replace c:=av A c;refine pN 5 [16,21,22,23,24] [(16,vB false)]<|ab ?_;obtain rfl:=sj c;refine ad fun a hd hs aj=>?_;exact ⟨(bg O z nb),bZ,r,hd,hs,aZ aj⟩
 ·rintro a q ⟨B,b5,o,hd,hs,aj⟩;refine aM ?_ hd hs aj;refine ae j ?_;clear j;intro W c j;refine aE (J:=fun a w=>Bl l w∧Sz q w∧bC w e 25 (bq d af ai f h)∧Qa a 64 [(1,bp e),(3,vS W)]) ?_ ?_
  ·refine al (b:=V) kr (fun C=>?_) (fun C=>?_)
   ·replace c:=au C c;refine aF<|pN 1 [3] [(3,vS (bh [42]))]<|ab ?_;obtain rfl:=sj c;refine ad fun a hd hs aj=>?_;exact ⟨B,bZ,o,hd,hs,aZ aj⟩
   ·replace c:=av C c;refine aO<|ae c ?_;clear c;intro X m c
    refine aR (J:=fun a x=>Bl l x∧Sz q x∧bC x e 25 (bq d af ai f h)∧Qa a 64 [(1,bp e),(4,vS v),(25,vB X)]) ?_ ?_
    ·refine pN 1 [26] [(26,.pointer (some ⟨e,2,none⟩))]<|bx 3 ⟨e,2,none⟩ (vI d.2.2.1) (aS (o.cell 2 rfl))<|pN 2 [28,29] [(29,vB (d.2.2.1==(-1)))]<|aA (s:=29) (g:=(d.2.2.1==(-1))) kr (fun D=>?_) (fun D=>?_)
     ·replace m:=au D m;refine pN 1 [30] [(30,.pointer (some ⟨e,1,none⟩))]<|bx 3 ⟨e,1,none⟩ (vI d.2.1) (aS (o.cell 1 rfl))<|pN 3 [25,32,33] [(25,vB (d.2.1==1))]<|ab ?_;obtain rfl:=sj m;refine ad fun a hd hs aj=>?_;exact ⟨B,bZ,o,hd,hs,aZ aj⟩
     ·replace m:=av D m;refine pN 5 [25,30,31,32,33] [(25,vB false)]<|ab ?_;obtain rfl:=sj m;refine ad fun a hd hs aj=>?_;exact ⟨B,bZ,o,hd,hs,aZ aj⟩
    ·rintro a x ⟨E,P,p,hd,hs,aj⟩;refine aM ?_ hd hs aj;refine al (b:=X) kr (fun F=>?_) (fun F=>?_)
     ·replace c:=au F c;refine aF<|pN 1 [3] [(3,vS (bh [43]))]<|ab ?_;obtain rfl:=sj c;refine ad fun a hd hs aj=>?_;exact ⟨E,P,p,hd,hs,aZ aj⟩
     ·replace c:=av F c;refine aO<|ae c ?_;clear c;intro Y m c
      refine aR (J:=fun a y=>Bl l y∧Sz x y∧bC y e 25 (bq d af ai f h)∧Qa a 64 [(1,bp e),(4,vS v),(34,vB Y)]) ?_ ?_
      ·refine pN 1 [35] [(35,.pointer (some ⟨e,1,none⟩))]<|bx 3 ⟨e,1,none⟩ (vI d.2.1) (aS (p.cell 1 rfl))<|pN 2 [37,38] [(38,vB (d.2.1==0))]<|aA (s:=38) (g:=(d.2.1==0)) kr (fun G=>?_) (fun G=>?_)
       ·replace m:=au G m;refine pN 1 [39] [(39,.pointer (some ⟨e,2,none⟩))]<|bx 3 ⟨e,2,none⟩ (vI d.2.2.1) (aS (p.cell 2 rfl))<|pN 3 [34,41,42] [(34,vB (d.2.2.1==1))]<|ab ?_;obtain rfl:=sj m;refine ad fun a hd hs aj=>?_;exact ⟨E,bZ,p,hd,hs,aZ aj⟩
       ·replace m:=av G m;refine pN 5 [34,39,40,41,42] [(34,vB false)]<|ab ?_;obtain rfl:=sj m;refine ad fun a hd hs aj=>?_;exact ⟨E,bZ,p,hd,hs,aZ aj⟩
      ·rintro a y ⟨n,ah,i,hd,hs,aj⟩;refine aM ?_ hd hs aj;have t:=(nt P ah);refine al (b:=Y) kr (fun H=>?_) (fun H=>?_)
       ·replace c:=au H c;refine aF<|pN 1 [3] [(3,vS (bh [63]))]<|ab ?_;obtain rfl:=sj c;refine ad fun a hd hs aj=>?_;exact ⟨n,t,i,hd,hs,aZ aj⟩
       ·replace c:=av H c;refine aO<|pN 1 [44] [(44,.pointer (some ⟨e,2,none⟩))]<|bx 3 ⟨e,2,none⟩ (vI d.2.2.1) (aS (i.cell 2 rfl))<|pN 2 [43,46] [(43,vB (d.2.2.1==(-1)))]<|ab<|al (b:=(d.2.2.1==(-1))) kr (fun I=>?_) (fun I=>?_)
        ·replace c:=au I c;refine aF<|pN 1 [47] [(47,vS v)]<|ae c ?_;clear c;intro ca an c;refine dz 9 an<|ae c ?_;clear c;intro bs ax c;refine dz 9 ax<|pN 1 [3] [(3,vS bs)]<|ab ?_;obtain rfl:=sj c;refine ad fun a hd hs aj=>?_;exact ⟨n,t,i,hd,hs,aZ aj⟩
        ·replace c:=av I c;refine aO<|pN 1 [51] [(51,.pointer (some ⟨e,2,none⟩))]<|bx 3 ⟨e,2,none⟩ (vI d.2.2.1) (aS (i.cell 2 rfl))<|pN 1 [53] [(53,.pointer (some ⟨e,1,none⟩))]<|bx 3 ⟨e,1,none⟩ (vI d.2.1) (aS (i.cell 1 rfl))<|pN 2 [50,55] [(50,vB (d.2.2.1==d.2.1))]<|ab<|al (b:=(d.2.2.1==d.2.1)) kr (fun K=>?_) (fun K=>?_)
         ·replace c:=au K c;refine aF<|pN 1 [56] [(56,vS v)]<|ae c ?_;clear c;intro cb a0 c;refine dz 9 a0<|ae c ?_;clear c;intro bA a1 c;refine dz 9 a1<|pN 1 [3] [(3,vS bA)]<|ab ?_;obtain rfl:=sj c;refine ad fun a hd hs aj=>?_;exact ⟨n,t,i,hd,hs,aZ aj⟩
         ·replace c:=av K c;refine aF<|pN 1 [8] [(8,vS v)]<|ae c ?_;clear c;intro cc a2 c;refine dz 9 a2<|ae c ?_;clear c;intro bE a3 c;refine dz 9 a3<|pN 1 [11] [(11,.pointer (some ⟨e,2,none⟩))]<|bx 3 ⟨e,2,none⟩ (vI d.2.2.1) (aS (i.cell 2 rfl))<|ae c ?_;clear c;intro Z a4 c;refine ak kr rfl kr enters36 (strconv_Itoa_ok ao d.2.2.1 y u (fun k (hk:u k)=>bm (N k hk) n.size) (T.below n N) Z a4) ?_;rintro ch ck ⟨L,rfl⟩;refine cj [(1,bp e),(10,vS bE),(13,vS Z)]<|ae c ?_;clear c;intro cs a5 c;refine dz 9 a5<|ae c ?_;clear c;intro b0 a6 c;refine dz 9 a6<|pN 1 [3] [(3,vS b0)]<|ab ?_;obtain rfl:=sj c;refine ad fun a hd hs aj=>?_;exact ⟨(bg n L nb),(nt t L.size),(i.grown L nb),hd,hs,aZ aj⟩
  ·rintro a w ⟨Q,b6,a7,hd,hs,aj⟩;refine aM ?_ hd hs aj;refine bQ<|aW<|aO<|pN 1 [59] [(59,.pointer (some ⟨e,4,none⟩))]<|bx 4 ⟨e,4,none⟩ (vB d.2.2.2.2.1) (aS (a7.cell 4 rfl))<|ab<|ae j ?_;clear j;intro R c j
   refine aE (J:=fun a S=>Bl l S∧Sz w S∧Qa a 64 [(3,vS R)]) ?_ ?_
   ·refine al (b:=d.2.2.2.2.1) kr (fun M=>?_) (fun M=>?_)
    ·replace c:=au M c;refine aF<|pN 1 [61] [(61,vS W)]<|ae c ?_;clear c;intro b2 a8 c;refine dz 9 a8<|pN 1 [3] [(3,vS b2)]<|ab ?_;obtain rfl:=sj c;refine ad fun a hd hs aj=>?_;exact ⟨Q,bZ,hd,hs,aZ aj⟩
    ·replace c:=av M c;refine aJ ?_;obtain rfl:=sj c;refine ad fun a hd hs aj=>?_;exact ⟨Q,bZ,hd,hs,aZ aj⟩
   ·rintro a S ⟨a9,b7,hd,hs,aj⟩;refine aM ?_ hd hs aj;refine aO<|pN 2 [2,63] [(2,vS R)]<|ab<|aw ?_
    obtain rfl:=sj j;refine aD (ay [vS R] rfl ⟨kr,trivial⟩ ?_);exact ⟨ag a9,rfl⟩

abbrev gC16 (ao:Nat):Prop:=∀ (af:bS) (ai:Nat) (a:bS) (b:Nat) (c:cy) (d:World) (e:Nat→Prop) (h:Lw e d) (aG:Rd (bY (iE .i64) (iE .i64)) d e af ai c.2.2.2.2.2.1) (f:Rd pcE d e a b c.2.2.2.2.2.2) (i:Rd (tabE 3 pow10C) d e (ro 3) 1 [vW 1]) (g:ByteArray),regex_text ao c=some g→Calls aC 16 ([.agg (bq c af ai a b)]:List Value).toArray d (Ret fun v w'=>d.grownBy w' none∧v=dn [vS g])
set_option maxHeartbeats 4000000 in
set_option maxRecDepth 100000 in
theorem regex_text_step (ao:Nat) (E:gC16 ao) (af:bS) (ai:Nat) (l:bS) (m:Nat) (d:cy) (u:World) (F:Nat→Prop) (p:Lw F u) (aG:Rd (bY (iE .i64) (iE .i64)) u F af ai d.2.2.2.2.2.1) (y:Rd pcE u F l m d.2.2.2.2.2.2) (c5:Rd (tabE 3 pow10C) u F (ro 3) 1 [vW 1]) (r0:ByteArray) (c:regex_text (ao+1) d=some r0):
    Cs 16 [.agg (bq d af ai l m)] u (G1 u [vS r0]):=by
 have eu:Bl u u:=Below.refl _ _;rw[regex_text.eq_2]at c;refine aV Tryz.func16 rfl Tryz.ntmps16 kr ?_;refine cj [(0,.agg (bq d af ai l m))]<|aO<|aQ bp (bq d af ai l m) 25 kr kr ?_
 intro n w2 ev d5 ez e6;refine pN 1 [2] []<|bV<|pN 1 [3] [(3,vL none ([]:List ByteArray) 0)]<|cI<|aO<|pN 1 [6] [(6,.pointer (some ⟨n,6,none⟩))]<|bx 23 ⟨n,6,none⟩ (vL l d.2.2.2.2.2.2 m) (aS (d5.cell 6 rfl))<|pN 2 [8,9] [(8,vI (lz d.2.2.2.2.2.2)),(9,vI 0)]<|ab<|ae c ?_;clear c;intro P h1 c
 refine aE (J:=fun a H=>∃ (o:bS) (z:Nat),Bl u H∧Sz w2 H∧aL sE 9 H (fun _=>False) o z P∧(Lo u o)∧(∀ g,aI o=some g→¬ (· =n) g)∧¬ (fun k=>aI o=some k) n∧bC H n 25 (bq d af ai l m)∧Qa a 82 [(1,bp n),(3,vL o P z)]) ?_ ?_
 ·refine aN<|cm (A:=fun (I:(List ByteArray) × Int) a Q=>∃ (o:bS) (z:Nat),Bl u Q∧Sz w2 Q∧aL sE 9 Q (fun _=>False) o z I.1∧(Lo u o)∧(∀ g,aI o=some g→¬ (· =n) g)∧¬ (fun k=>aI o=some k) n∧bC Q n 25 (bq d af ai l m)∧Qa a 82 [(1,bp n),(3,vL o I.1 z),(7,vL l d.2.2.2.2.2.2 m),(8,vI (lz d.2.2.2.2.2.2)),(9,vI I.2)]) h1 ?_ ?_
  ·intro a hd hs aj;exact ⟨none,0,(bg eu ev nb),bZ,aL.nil sE 9 w2 (fun _=>False),(fun _ h=>by cases h),(fun _ h=>by cases h),(fun h=>by cases h),d5,hd,hs,aZ aj⟩
  ·rintro I r2 v ew a Q ⟨q,c6,K,c7,L,bE,b0,c8,b2,hd,hs,aj⟩;refine aM ?_ hd hs aj;refine aO<|pN 1 [10] [(10,vB (decide (I.2<(lz d.2.2.2.2.2.2))))]<|cI<|al (b:=(decide (I.2<(lz d.2.2.2.2.2.2)))) kr (fun b3=>?_) (fun b3=>?_)
   ·replace v:=au b3 v;refine aJ<|aW<|aN<|aO<|ae v ?_;clear v;intro f c9 v
    refine dp .i64 7 (y.below K p) c9 bT ?_;obtain ⟨_,⟨_,_,rfl,rfl,⟨_,_,rfl,rfl,⟨_,_,rfl,rfl,⟨_,_,rfl,rfl,⟨_,_,rfl,rfl,⟨_,_,rfl,⟨be,bl,rfl,d9⟩,⟨bn,bo,rfl,ea⟩⟩⟩⟩⟩⟩⟩,eb⟩:=cells_un (y.cellsK c9);refine laq 25 (ba l ((I.2:Int).toNat*7)) #[vI (Pc.un f).1,vI (Pc.un f).2.1,vI (Pc.un f).2.2.1,vB (Pc.un f).2.2.2.1,vB (Pc.un f).2.2.2.2.1,.slice be (length (Pc.un f).2.2.2.2.2.1) bl,.slice bn (length (Pc.un f).2.2.2.2.2.2) bo] (aS (eb Q (fun k hk=>K.block k (p k hk)))) ?_;refine aQ bp cz 25 kr kr ?_;intro R e7 M ec G eA;refine aq 25 0 (.agg #[vI (Pc.un f).1,vI (Pc.un f).2.1,vI (Pc.un f).2.2.1,vB (Pc.un f).2.2.2.1,vB (Pc.un f).2.2.2.2.1,.slice be (length (Pc.un f).2.2.2.2.2.1) bl,.slice bn (length (Pc.un f).2.2.2.2.2.2) bo]) #[vI (Pc.un f).1,vI (Pc.un f).2.1,vI (Pc.un f).2.2.1,vB (Pc.un f).2.2.2.1,vB (Pc.un f).2.2.2.2.1,.slice be (length (Pc.un f).2.2.2.2.2.1) bl,.slice bn (length (Pc.un f).2.2.2.2.2.2) bo] ec kr kr kr ?_;intro ex N dg eB;refine ab<|aF<|pN 1 [13] [(13,vL q I.1 c6)]<|lbq 25 R #[vI (Pc.un f).1,vI (Pc.un f).2.1,vI (Pc.un f).2.2.1,vB (Pc.un f).2.2.2.1,vB (Pc.un f).2.2.2.2.1,.slice be (length (Pc.un f).2.2.2.2.2.1) bl,.slice bn (length (Pc.un f).2.2.2.2.2.2) bo] (aS dg)<|ae v ?_;clear v;intro bs ed v;have dJ:u.heap.size≤R:=cp G K.size;have O:=bg (bg K M nb) N (bN dJ);refine ak kr rfl kr enters16 (E be bl bn bo ((Pc.un f).1,(Pc.un f).2.1,(Pc.un f).2.2.1,(Pc.un f).2.2.2.1,(Pc.un f).2.2.2.2.1,(Pc.un f).2.2.2.2.2.1,(Pc.un f).2.2.2.2.2.2) ex F (fun k (hk:F k)=>bm (p k hk) O.size) (d9.below O p) (ea.below O p) (c5.below O p) bs ed) ?_;rintro e8 e9 ⟨S,rfl⟩;refine aQ (fun b=>.slice (ro b) 1 1) #[vS bs] 9 kr kr ?_;intro s ey b4 ee T eC;have b5:aL sE 9 ey (fun _=>False) (ro s) 1 ([bs]:List ByteArray):=bR ee ⟨[vS bs],[],rfl,rfl,rfl⟩ (show 1≤maxLen by decide) (fun h=>h);have ds:=bg O S nb;have eD:Lo u (ro s):=loo T ds.size;refine ae v ?_;clear v;intro dw ef v;have b6:¬ (fun k=>aI q=some k) R:=fun hx=>nl ((aH G) _ rfl) ((fun k (hk:aI q=some k)=>L.lt k hk) _ hx);have b7:=(am S b4);refine ct sE (t:=61) (ty:=61) (e:=9) (a:=q) (ax:=(ro s)) (cap:=c6) (cx:=1) (xs:=I.1) (ys:=([bs]:List ByteArray)) dw (X:=(fun _=>False)) (Y:=(fun k=>aI (ro s)=some k)) cW rfl rfl kr kr df info9 (((L.grown M (fun _ h=>h.elim) nb).grown N (fun _ h=>h.elim) (cG (ac b6))).grown b7 (fun _ h=>h.elim) nb) (b5.rd (Y:=fun k=>aI (ro s)=some k) (fun _ h=>h.elim) (fun g e=>e)) ef (.inr fun _ _ _ _ _ h=>h) (fun _ h=>h.elim) ?_;intro B d6 fa b8 eg w;refine ⟨nofun,?_⟩;have dB:=bg ds b4 nb;have eh:Lo u B:=cC w bE dB.size;have b9:=((b2.grown M nb).grown N (ac (ng (bm ((bc b2) _ rfl) ((aH G) _ rfl))))).grown b7 nb;have ei:∀ g,aI B=some g→¬ (· =n) g:=bF w b0 (bc b9);have ej:¬ (fun k=>aI B=some k) n:=fun h=>cg w (fun h=>(c8) h) (b9.lt) h;have ek:∀ g,aI q=some g→¬ (· =R) g:=fun g e hx=>nl ((aH G) _ hx) ((fun k (hk:aI q=some k)=>L.lt k hk) g e);have dC:=dg.grown b7 nb;have eE:∀ g,aI B=some g→¬ (· =R) g:=bF w ek (bc dC);have eF:¬ (fun k=>aI B=some k) R:=fun h=>cg w (fun h=>(b6) h) (dC.lt) h;have dD:=((L.grown M (fun _ h=>h.elim) nb).grown N (fun _ h=>h.elim) (cG (ac b6))).grown S (fun _ h=>h.elim) nb;have el:Ap q (ro s):=fun g e hx=>nl ((bI T) _ hx) ((fun k (hk:aI q=some k)=>dD.lt k hk) g e);have eG:Ap B (ro s):=bF w el (fun k (hk:aI (ro s)=some k)=>b5.lt k hk);have em:Ap (ro s) q:=fun g e hx=>nl ((bI T) g e) ((fun k (hk:aI q=some k)=>dD.lt k hk) _ hx);have eH:Ap (ro s) B:=fun g e h=>cg w (fun h=>((em) g e) h) (b5.lt g e) h;refine pN 1 [3] [(3,vL B dw d6)]<|ab<|bQ<|aF<|pN 2 [9,18] [(9,vI (wI (I.2+1)))]<|ab ?_;obtain rfl:=sj v;refine ad fun a hd hs aj=>?_;exact ⟨(dw,wI (I.2+1)),rfl,B,d6,(bg dB b8 bE),(nt (nt (nt (nt (nt c7 M.size) N.size) S.size) b4.size) b8.size),eg,eh,ei,ej,(b9.grown b8 b0),hd,hs,aZ aj⟩
   ·replace v:=av b3 v;refine cd<|cl rfl ?_
    obtain rfl:=sj v;replace h1:=congrArg some (ew _ rfl);obtain rfl:=sj h1;refine ad fun a hd hs aj=>?_;exact ⟨q,c6,K,c7,L,bE,b0,c8,b2,hd,hs,aZ aj⟩
 ·rintro a H ⟨i,D,j,eI,x,eJ,eK,eL,r,hd,hs,aj⟩;refine aM ?_ hd hs aj;refine aW<|aO<|pN 1 [19] [(19,bp n)]<|bx 3 ⟨n,0,none⟩ (vI d.1) (aS (r.cell 0 rfl))<|ab<|aN<|aO<|pN 2 [21,22] [(21,vB (d.1==1))]<|ab<|al (b:=(d.1==1)) kr (fun U=>?_) (fun U=>?_)
  ·replace c:=au U c;refine aO<|pN 1 [23] [(23,.pointer (some ⟨n,1,none⟩))]<|bx 3 ⟨n,1,none⟩ (vI d.2.1) (aS (r.cell 1 rfl))<|ae c ?_;clear c;intro ca dK c;refine ak kr rfl kr enters31 (regex_spell_ok ao d.2.1 (bh [92,46,94,36,42,43,63,40,41,91,93,123,125,124]) H ca dK) ?_;rintro eM eN ⟨dL,rfl⟩;refine pN 1 [2] [(2,vS ca)]<|ab<|aw ?_
   obtain rfl:=sj c;refine aD (ay [vS ca] rfl ⟨kr,trivial⟩ ?_);exact ⟨ag (bg j dL nb),rfl⟩
  ·replace c:=av U c;refine aO<|pN 2 [26,27] [(26,vB (d.1==2))]<|ab<|al (b:=(d.1==2)) kr (fun V=>?_) (fun V=>?_)
   ·replace c:=au V c;refine aO<|pN 1 [2] [(2,vS (bh [46]))]<|ab<|aw ?_
    obtain rfl:=sj c;refine aD (ay [vS (bh [46])] rfl ⟨kr,trivial⟩ ?_);exact ⟨ag j,rfl⟩
   ·replace c:=av V c;refine aO<|pN 2 [28,29] [(28,vB (d.1==3))]<|ab<|al (b:=(d.1==3)) kr (fun W=>?_) (fun W=>?_)
    ·replace c:=au W c;refine aO<|lbq 25 n (bq d af ai l m) (aS r)<|ae c ?_;clear c;intro cb dM c;refine ak kr rfl kr enters32 (regex_class_ok ao af ai l m d H F (fun k (hk:F k)=>bm (p k hk) j.size) (aG.below j p) (y.below j p) cb dM) ?_;rintro eO eP ⟨dN,rfl⟩;refine pN 1 [2] [(2,vS cb)]<|ab<|aw ?_
     obtain rfl:=sj c;refine aD (ay [vS cb] rfl ⟨kr,trivial⟩ ?_);exact ⟨ag (bg j dN nb),rfl⟩
    ·replace c:=av W c;refine aO<|pN 2 [32,33] [(32,vB (d.1==4))]<|ab<|al (b:=(d.1==4)) kr (fun Z=>?_) (fun Z=>?_)
     ·replace c:=au Z c;refine aO<|pN 1 [2] [(2,vS (bh [94]))]<|ab<|aw ?_
      obtain rfl:=sj c;refine aD (ay [vS (bh [94])] rfl ⟨kr,trivial⟩ ?_);exact ⟨ag j,rfl⟩
     ·replace c:=av Z c;refine aO<|pN 2 [34,35] [(34,vB (d.1==5))]<|ab<|al (b:=(d.1==5)) kr (fun ah=>?_) (fun ah=>?_)
      ·replace c:=au ah c;refine aO<|pN 1 [2] [(2,vS (bh [36]))]<|ab<|aw ?_
       obtain rfl:=sj c;refine aD (ay [vS (bh [36])] rfl ⟨kr,trivial⟩ ?_);exact ⟨ag j,rfl⟩
      ·replace c:=av ah c;refine aO<|pN 2 [36,37] [(36,vB (d.1==6))]<|ab<|al (b:=(d.1==6)) kr (fun an=>?_) (fun an=>?_)
       ·replace c:=au an c;refine aO<|pN 1 [38] [(38,.pointer (some ⟨n,3,none⟩))]<|bx 4 ⟨n,3,none⟩ (vB d.2.2.2.1) (aS (r.cell 3 rfl))<|ae c ?_;clear c;intro cc dO c;refine ak kr rfl kr enters33 (regex_pick_ok ao d.2.2.2.1 (bh [92,98]) (bh [92,66]) H cc dO) ?_;rintro eQ eR ⟨dP,rfl⟩;refine pN 1 [2] [(2,vS cc)]<|ab<|aw ?_
        obtain rfl:=sj c;refine aD (ay [vS cc] rfl ⟨kr,trivial⟩ ?_);exact ⟨ag (bg j dP nb),rfl⟩
       ·replace c:=av an c;refine aO<|pN 2 [41,42] [(41,vB (d.1==7))]<|ab<|al (b:=(d.1==7)) kr (fun a0=>?_) (fun a0=>?_)
        ·replace c:=au a0 c;refine aW<|bX kr ?_
         intro ch a1;refine aT [0,4,5] (bA 10 [0,4,5]) 7 kr kr<|pN 2 [43,47] [(43,.pointer (some ⟨n,1,none⟩)),(47,vL i P D)]<|ae c ?_;clear c;intro dE cw c;have a2:=x.grown a1 (fun _ h=>h.elim) nb;refine dp .i64 1 (a2.rd (Y:=fun k=>aI i=some k) (fun _ h=>h.elim) (fun g e=>e)) cw df ?_;refine ab<|ar<|aK (cS ch []) [1,2,3,6] [(1,some true),(2,some true),(6,some true),(3,some false)] (bA 10 [0,1,2,3,4,5,6]) 3 kr kr (az _ _)<|bx 3 ⟨n,1,none⟩ (vI d.2.1) (cf fun w' hC'=>((hC'.box (r.grown a1 nb) bG).cell 1 rfl)) ?_;refine pN 1 [45] [(45,vB (d.2.1==0))]<|bx 9 (ba i ((0:Int).toNat*1)) (vS dE) (cf fun w' hC'=>((hC'.rd (a2.rd (Y:=fun k=>aI i=some k) (fun _ h=>h.elim) (fun g e=>e)) (fun k (hk:aI i=some k)=>a2.lt k hk) cB).cell cw)) ?_;refine cj [(45,vB (d.2.1==0)),(49,vS dE)]<|ae c ?_;clear c;intro en dQ c;refine clq enters33 (regex_pick_ok ao (d.2.1==0) (bh [40]) (bh [40,63,58]) ch en dQ) ?_;rintro eS eT ⟨c0,rfl⟩;refine ⟨(fun _=>(az ch []).grown c0 nb),?_⟩;refine ab<|ar<|aT [7,8,9] (bA 10 [0,1,2,3,4,5,6,7,8,9]) 0 kr kr<|ae c ?_;clear c;intro eU dR c;refine dz 9 dR<|ae c ?_;clear c;intro dF dS c;refine dz 9 dS<|pN 1 [2] [(2,vS dF)]<|ab<|ar<|bi kr<|aw ?_;obtain rfl:=sj c;refine aD (ay [vS dF] rfl ⟨kr,trivial⟩ ?_);exact ⟨ag (bg j (am a1 c0) nb),rfl⟩
        ·replace c:=av a0 c;refine aO<|pN 2 [52,53] [(52,vB (d.1==8))]<|ab<|al (b:=(d.1==8)) kr (fun a3=>?_) (fun a3=>?_)
         ·replace c:=au a3 c;refine aO<|pN 1 [54] [(54,vL i P D)]<|ae c ?_;clear c;intro ck dT c;refine ak kr rfl kr enters34 (strings_Join_ok ao i D P (bh []) H (fun k=>aI i=some k) (fun k (hk:aI i=some k)=>x.lt k hk) (x.rd (Y:=fun k=>aI i=some k) (fun _ h=>h.elim) (fun g e=>e)) ck dT) ?_;rintro eV eW ⟨dU,rfl⟩;refine pN 1 [2] [(2,vS ck)]<|ab<|aw ?_
          obtain rfl:=sj c;refine aD (ay [vS ck] rfl ⟨kr,trivial⟩ ?_);exact ⟨ag (bg j dU nb),rfl⟩
         ·replace c:=av a3 c;refine aO<|pN 2 [56,57] [(56,vB (d.1==9))]<|ab<|al (b:=(d.1==9)) kr (fun a4=>?_) (fun a4=>?_)
          ·replace c:=au a4 c;refine aO<|pN 1 [58] [(58,vL i P D)]<|ae c ?_;clear c;intro a5 dV c;refine ak kr rfl kr enters34 (strings_Join_ok ao i D P (bh [124]) H (fun k=>aI i=some k) (fun k (hk:aI i=some k)=>x.lt k hk) (x.rd (Y:=fun k=>aI i=some k) (fun _ h=>h.elim) (fun g e=>e)) a5 dV) ?_;rintro eX eY ⟨dW,rfl⟩;refine pN 1 [2] [(2,vS a5)]<|cj [(2,vS a5)]<|ab<|aw ?_
           obtain rfl:=sj c;refine aD (ay [vS a5] rfl ⟨kr,trivial⟩ ?_);exact ⟨ag (bg j dW nb),rfl⟩
          ·replace c:=av a4 c;refine aO<|pN 2 [60,61] [(60,vB (d.1==10))]<|ab<|al (b:=(d.1==10)) kr (fun a6=>?_) (fun a6=>?_)
           ·replace c:=au a6 c;refine aW<|bX kr ?_
            intro cs a7;refine aT [0,1] (bA 7 [0,1]) 5 kr kr<|pN 1 [62] [(62,vL i P D)]<|ae c ?_;clear c;intro eo c1 c;have a8:=x.grown a7 (fun _ h=>h.elim) nb;refine dp .i64 1 (a8.rd (Y:=fun k=>aI i=some k) (fun _ h=>h.elim) (fun g e=>e)) c1 df ?_;refine ab<|ar<|aK (cS cs []) [2,3,4] [(2,some true),(3,some true),(4,some false)] (bA 7 [0,1,2,3,4]) 2 kr kr (az _ _)<|cj [(1,bp n),(63,.pointer (some (ba i ((0:Int).toNat*1))))]<|bx 9 (ba i ((0:Int).toNat*1)) (vS eo) (cf fun w' hC'=>((hC'.rd (a8.rd (Y:=fun k=>aI i=some k) (fun _ h=>h.elim) (fun g e=>e)) (fun k (hk:aI i=some k)=>a8.lt k hk) cB).cell c1)) ?_;refine lbq 25 n (bq d af ai l m) (cf fun w' hC'=>(hC'.box (r.grown a7 nb) bG)) ?_;refine ae c ?_;clear c;intro ep dX c;have C:=bg j a7 nb;refine clq enters35 (regex_times_ok ao af ai l m d cs F (fun k (hk:F k)=>bm (p k hk) C.size) (aG.below C p) (y.below C p) (c5.below C p) ep dX) ?_;rintro eZ e0 ⟨c2,rfl⟩;refine ⟨(fun _=>(az cs []).grown c2 nb),?_⟩;refine ab<|ar<|aT [5,6] (bA 7 [0,1,2,3,4,5,6]) 0 kr kr<|ae c ?_;clear c;intro dG dY c;refine dz 9 dY<|pN 1 [2] [(2,vS dG)]<|ab<|ar<|bi kr<|aw ?_;obtain rfl:=sj c;refine aD (ay [vS dG] rfl ⟨kr,trivial⟩ ?_);exact ⟨ag (bg C c2 nb),rfl⟩
           ·replace c:=av a6 c;refine aO<|pN 2 [68,69] [(68,vB (d.1==11))]<|ab<|al (b:=(d.1==11)) kr (fun a9=>?_) (fun a9=>?_)
            ·replace c:=au a9 c;refine aW<|bX kr ?_
             intro cv bb;refine aT [0,3,4] (bA 9 [0,3,4]) 6 kr kr<|pN 2 [70,73] [(70,.pointer (some ⟨n,3,none⟩)),(73,vL i P D)]<|cj [(70,.pointer (some ⟨n,3,none⟩)),(73,vL i P D)]<|ae c ?_;clear c;intro eq c3 c;have bd:=x.grown bb (fun _ h=>h.elim) nb;refine dp .i64 1 (bd.rd (Y:=fun k=>aI i=some k) (fun _ h=>h.elim) (fun g e=>e)) c3 df ?_;refine ab<|ar<|aK (cS cv []) [1,2,5] [(1,some true),(5,some true),(2,some false)] (bA 9 [0,1,2,3,4,5]) 3 kr kr (az _ _)<|bx 4 ⟨n,3,none⟩ (vB d.2.2.2.1) (cf fun w' hC'=>((hC'.box (r.grown bb nb) bG).cell 3 rfl)) ?_;refine bx 9 (ba i ((0:Int).toNat*1)) (vS eq) (cf fun w' hC'=>((hC'.rd (bd.rd (Y:=fun k=>aI i=some k) (fun _ h=>h.elim) (fun g e=>e)) (fun k (hk:aI i=some k)=>bd.lt k hk) cB).cell c3)) ?_;refine ae c ?_;clear c;intro er dZ c;refine clq enters33 (regex_pick_ok ao d.2.2.2.1 (bh [40,63,61]) (bh [40,63,33]) cv er dZ) ?_;rintro e1 e2 ⟨c4,rfl⟩;refine ⟨(fun _=>(az cv []).grown c4 nb),?_⟩;refine ab<|ar<|aT [6,7,8] (bA 9 [0,1,2,3,4,5,6,7,8]) 0 kr kr<|ae c ?_;clear c;intro e3 d0 c;refine dz 9 d0<|ae c ?_;clear c;intro dH d1 c;refine dz 9 d1<|pN 1 [2] [(2,vS dH)]<|ab<|ar<|bi kr<|aw ?_;obtain rfl:=sj c;refine aD (ay [vS dH] rfl ⟨kr,trivial⟩ ?_);exact ⟨ag (bg j (am bb c4) nb),rfl⟩
            ·replace c:=av a9 c;refine aJ<|bQ<|aO<|pN 1 [78] [(78,.pointer (some ⟨n,1,none⟩))]<|cj [(78,.pointer (some ⟨n,1,none⟩))]<|bx 3 ⟨n,1,none⟩ (vI d.2.1) (aS (r.cell 1 rfl))<|ae c ?_;clear c;intro es d2 c;refine ak kr rfl kr enters36 (strconv_Itoa_ok ao d.2.1 H F (fun k (hk:F k)=>bm (p k hk) j.size) (c5.below j p) es d2) ?_;rintro e4 e5 ⟨d3,rfl⟩;refine ae c ?_;clear c;intro dI d4 c;refine dz 9 d4<|pN 1 [2] [(2,vS dI)]<|ab<|aw ?_
             obtain rfl:=sj c;refine aD (ay [vS dI] rfl ⟨kr,trivial⟩ ?_);exact ⟨ag (bg j d3 nb),rfl⟩
theorem grp_regex_text_ok:∀ (ao:Nat),gC16 ao:=by
  intro ao
  induction ao with
  | zero=>unfold gC16;intros;rename_i a;rw[regex_text.eq_1]at a;cases a
  | succ ao ih=>exact regex_text_step ao ih

theorem regex_text_ok (ao:Nat):
    gC16 ao:=
  grp_regex_text_ok ao

theorem regex_Check_ok (ao:Nat) (af:bS) (ai:Nat) (c:bS) (d:Nat) (f:cy) (l:World) (p:Nat→Prop) (j:Lw p l) (aG:Rd (bY (iE .i64) (iE .i64)) l p af ai f.2.2.2.2.2.1) (u:Rd pcE l p c d f.2.2.2.2.2.2) (ax:Rd (tabE 3 pow10C) l p (ro 3) 1 [vW 1]) (r0:bu) (a:regex_Check ao f=some r0):
    Cs 10 [.agg (bq f af ai c d)] l (G1 l [.agg (cN r0)]):=by
 have v:Bl l l:=Below.refl _ _;unfold regex_Check at a;refine aV Tryz.func10 rfl Tryz.ntmps10 kr ?_;refine cj [(0,.agg (bq f af ai c d))]<|aO<|aQ bp (bq f af ai c d) 25 kr kr ?_
 intro b1 w2 w M a7 bl;refine aQ bp #[vI 0,vI 0] 27 kr kr ?_;intro q w8 N n m a8;refine bV<|aQ bp #[vI 0,vI 0] 44 kr kr ?_
 intro x a2 r P s a9;refine cI<|aW<|aF ?_
 have E:=(am N r);have F:=M.grown E nb;refine lbq 25 b1 (bq f af ai c d) (aS F)<|ae a ?_;clear a;intro g Q a;have o:=bg v (am w E) nb;have t:l.heap.size≤x:=cp s (bg v (am w N) nb).size;refine ak kr rfl kr enters21 (regex_survey_look_ok ao x (0,0) af ai c d f a2 p (fun k hk=>⟨(fun k (hk:p k)=>bm (j k hk) o.size) k hk,fun e=>(fun (hx:p x)=>nl t (j _ hx)) (e ▸ hk)⟩) P (aG.below o j) (u.below o j) g Q) ?_;rintro bn O ⟨h,rfl,R⟩;refine pN 1 [4] [(4,vI g.1)]<|bV<|pN 2 [7,8] [(8,vB (g.1 !=0))]<|ab<|al (b:=(g.1 !=0)) kr (fun y=>?_) (fun y=>?_)
 ·replace a:=au y a;refine aO<|pN 2 [9,10] [(9,vI g.1),(10,bp x)]<|bx 3 ⟨x,0,none⟩ (vI g.2.1) (aS (R.cell 0 rfl))<|pN 1 [12] [(12,vI (wI (g.2.1-1)))]<|ae a ?_;clear a;intro C S a;refine ak kr rfl kr dy (cX ao g.1 (wI (g.2.1-1)) O C S) ?_;rintro bo bs ⟨G,rfl⟩;refine aq 27 0 (.agg (cN C)) (cN C) (((n.grown r nb).grown h (ac (ng (bm ((bc n) _ rfl) ((aH s) _ rfl))))).grown G nb) kr kr kr ?_;intro a3 T U bb;refine ab<|aw ?_
  obtain rfl:=sj a;refine aD (ay [.agg (cN C)] rfl ⟨⟨⟨q,0,none⟩,kr,run_loadVar_row a3 q _ 27 _ _ _ U bt rfl kr⟩,trivial⟩ ?_);have J:l.heap.size≤q:=cp m (bg v w nb).size;exact ⟨ag (bg (bg (bg o h (bN t)) G nb) T (bN J)),rfl⟩
 ·replace a:=av y a;refine aJ<|aW<|aW<|aF ?_
  have z:=bm ((bc n) _ rfl) ((aH s) _ rfl);refine lbq 25 b1 (bq f af ai c d) (aS (F.grown h (ac (ng (ltt (bm ((bc M) _ rfl) ((aH m) _ rfl)) z)))))<|ae a ?_;clear a;intro H V a;have i:=bg o h (bN t);refine ak kr rfl kr enters16 (regex_text_ok ao af ai c d f O p (fun k (hk:p k)=>bm (j k hk) i.size) (aG.below i j) (u.below i j) (ax.below i j) H V) ?_;rintro bA a4 ⟨A,rfl⟩;refine pN 2 [16,17] [(17,vB (decide ((bz H)>200)))]<|ab<|al (b:=(decide ((bz H)>200))) kr (fun B=>?_) (fun B=>?_)
  ·replace a:=au B a;refine aO<|ae a ?_;clear a;intro D W a
   refine ak kr rfl kr dy (cX ao 3 (-1) a4 D W) ?_;rintro bE b0 ⟨X,rfl⟩;have I:=(am A X);refine aq 27 0 (.agg (cN D)) (cN D) (((n.grown r nb).grown h (ac (ng z))).grown I nb) kr kr kr ?_;intro a5 Y Z bd;refine ab<|aw ?_
   obtain rfl:=sj a;refine aD (ay [.agg (cN D)] rfl ⟨⟨⟨q,0,none⟩,kr,run_loadVar_row a5 q _ 27 _ _ _ Z bt rfl kr⟩,trivial⟩ ?_);have K:l.heap.size≤q:=cp m (bg v w nb).size;exact ⟨ag (bg (bg i I nb) Y (bN K)),rfl⟩
  ·replace a:=av B a;refine aJ<|aO<|pN 1 [19] [(19,.agg #[vI 0,vI 0])]<|aq 27 0 (.agg #[vI 0,vI 0]) #[vI 0,vI 0] (((n.grown r nb).grown h (ac (ng z))).grown A nb) kr kr kr ?_;intro a6 ah an be;refine ab<|aw ?_
   obtain rfl:=sj a;refine aD (ay [.agg #[vI 0,vI 0]] rfl ⟨⟨⟨q,0,none⟩,kr,run_loadVar_row a6 q _ 27 _ _ _ an bt rfl kr⟩,trivial⟩ ?_);have L:l.heap.size≤q:=cp m (bg v w nb).size;exact ⟨ag (bg (bg i A nb) ah (bN L)),rfl⟩

theorem regex_Print_ok (ao:Nat) (af:bS) (ai:Nat) (a:bS) (c:Nat) (f:cy) (j:World) (p:Nat→Prop) (i:Lw p j) (aG:Rd (bY (iE .i64) (iE .i64)) j p af ai f.2.2.2.2.2.1) (q:Rd pcE j p a c f.2.2.2.2.2.2) (O:Rd (tabE 3 pow10C) j p (ro 3) 1 [vW 1]) (S:ByteArray × bu) (g:regex_Print ao f=some S):
    Cs 6 [.agg (bq f af ai a c)] j (G1 j [vS S.1,.agg (cN S.2)]):=by
 have A:Bl j j:=Below.refl _ _;unfold regex_Print at g;refine aV Tryz.func6 rfl Tryz.ntmps6 kr ?_;refine cj [(0,.agg (bq f af ai a c))]<|aO<|aQ bp (bq f af ai a c) 25 kr kr ?_
 intro b1 w2 B P a1 a9;refine pN 1 [2] []<|aQ bp #[vI 0,vI 0] 27 kr kr ?_;intro s w8 Q w o a3;refine cI<|aW<|aF ?_
 have C:=P.grown Q nb;refine lbq 25 b1 (bq f af ai a c) (aS C)<|ae g ?_;clear g;intro d T g;have e:=bg A (am B Q) nb;refine ak kr rfl kr enters10 (regex_Check_ok ao af ai a c f w8 p (fun k (hk:p k)=>bm (i k hk) e.size) (aG.below e i) (q.below e i) (O.below e i) d T) ?_;rintro bb bd ⟨h,rfl⟩;refine aQ bp #[vI 0,vI 0] 27 kr kr ?_;intro r be x U l a4;refine aq 27 0 (.agg (cN d)) (cN d) U kr kr kr ?_;intro an m D a5;refine bV<|pN 1 [7] [(7,bp r)]<|bx 3 ⟨r,0,none⟩ (vI d.1) (aS (D.cell 0 rfl))<|pN 1 [9] [(9,vB (d.1 !=0))]<|ab<|al (b:=(d.1 !=0)) kr (fun y=>?_) (fun y=>?_)
 ·replace g:=au y g;refine aW<|bX kr ?_
  intro R z;refine aT [1] (bA 3 [1]) 2 kr kr<|pN 1 [2] [(2,vS (bh []))]<|ab<|ar<|aK (cS R []) [0] [(0,some true)] (bA 3 [0,1]) 1 kr kr (az _ _) ?_;have a6:=az R [];refine lbq 27 r (cN d) (cf fun w' hC'=>(hC'.box (D.grown z nb) bG)) ?_;refine ab<|ar<|aK (fun _=>True) [2] [(2,some false)] (bA 3 [0,1,2]) 0 kr kr trivial ?_;have E:=(am h x);refine gv_store (t:=27) (b:=s) (off:=0) (v:=(.agg #[.int .i64 d.1,.int .i64 d.2])) (t':=27) (cs:=#[.int .i64 0,.int .i64 0]) #[.int .i64 d.1,.int .i64 d.2] cW rfl rfl kr kr kr (by intro u hu;simp[Value.cells]at hu;rcases hu with rfl | rfl<;>rfl) (show 0+2≤2 by decide) (by rfl) (((w.grown E nb).grown m (ac (ng (bm ((bc (w.grown h nb)) _ rfl) ((aH l) _ rfl))))).grown z nb) ?_;intro ax V W a7;refine ⟨(fun _=>trivial),?_⟩;refine ab<|ar<|bi kr<|aw ?_;obtain rfl:=sj g;refine aD (ay [vS (bh []),.agg (cN d)] rfl ⟨kr,⟨⟨s,0,none⟩,kr,run_loadVar_row ax s _ 27 _ _ _ W bt rfl kr⟩,trivial⟩ ?_);have K:j.heap.size≤r:=cp l (bg e h nb).size;have L:j.heap.size≤s:=cp o (bg A B nb).size;exact ⟨ag (bg (bg (bg (bg e E nb) m (bN K)) z nb) V (bN L)),rfl⟩
 ·replace g:=av y g;refine aJ<|aW<|aF ?_
  have F:=(am h x);have G:=w.grown h nb;have H:=bm ((bc G) _ rfl) ((aH l) _ rfl);refine lbq 25 b1 (bq f af ai a c) (aS ((C.grown F nb).grown m (ac (ng (ltt (bm ((bc P) _ rfl) ((aH o) _ rfl)) H)))))<|ae g ?_;clear g;intro I X g;have M:j.heap.size≤r:=cp l (bg e h nb).size;have n:=bg (bg e F nb) m (bN M);refine ak kr rfl kr enters16 (regex_text_ok ao af ai a c f an p (fun k (hk:p k)=>bm (i k hk) n.size) (aG.below n i) (q.below n i) (O.below n i) I X) ?_;rintro bl bn ⟨J,rfl⟩;refine pN 2 [2,13] [(2,vS I),(13,.agg #[vI 0,vI 0])]<|aq 27 0 (.agg #[vI 0,vI 0]) #[vI 0,vI 0] (((G.grown x nb).grown m (ac (ng H))).grown J nb) kr kr kr ?_;intro a0 Y Z a8;refine ab<|aw ?_
  obtain rfl:=sj g;refine aD (ay [vS I,.agg #[vI 0,vI 0]] rfl ⟨kr,⟨⟨s,0,none⟩,kr,run_loadVar_row a0 s _ 27 _ _ _ Z bt rfl kr⟩,trivial⟩ ?_);have N:j.heap.size≤s:=cp o (bg A B nb).size;exact ⟨ag (bg (bg n J nb) Y (bN N)),rfl⟩

abbrev gC17 (ao:Nat):Prop:=∀ (af:bS) (ai:Nat) (a:bS) (b:Nat) (c:cy) (d:World) (e:Nat→Prop) (h:Lw e d) (aG:Rd (bY (iE .i64) (iE .i64)) d e af ai c.2.2.2.2.2.1) (f:Rd pcE d e a b c.2.2.2.2.2.2) (g:Int),regex_groups ao c=some g→Calls aC 17 ([.agg (bq c af ai a b)]:List Value).toArray d (Ret fun v w'=>d.grownBy w' none∧v=dn [vI g])
set_option maxHeartbeats 4000000 in
set_option maxRecDepth 100000 in
theorem regex_groups_step (ao:Nat) (h:gC17 ao) (af:bS) (ai:Nat) (e:bS) (f:Nat) (d:cy) (j:World) (B:Nat→Prop) (o:Lw B j) (aG:Rd (bY (iE .i64) (iE .i64)) j B af ai d.2.2.2.2.2.1) (p:Rd pcE j B e f d.2.2.2.2.2.2) (r0:Int) (q:regex_groups (ao+1) d=some r0):
    Cs 17 [.agg (bq d af ai e f)] j (G1 j [vI r0]):=by
 have O:Bl j j:=Below.refl _ _;rw[regex_groups.eq_2]at q;refine aV Tryz.func17 rfl Tryz.ntmps17 kr ?_;refine cj [(0,.agg (bq d af ai e f))]<|aO<|aQ bp (bq d af ai e f) 25 kr kr ?_
 intro r w2 P x a1 a7;refine pN 1 [2] []<|bV<|pN 1 [3] [(3,vI 0)]<|cI<|aO<|pN 1 [6] [(6,bp r)]<|bx 3 ⟨r,0,none⟩ (vI d.1) (aS (x.cell 0 rfl))<|pN 1 [8] [(8,vB (d.1==7))]<|ab<|ae q ?_;clear q;intro j7 m q
 refine aE (J:=fun a z=>Bl j z∧Sz w2 z∧bC z r 25 (bq d af ai e f)∧Qa a 25 [(1,bp r),(3,vI j7)]) ?_ ?_
 ·refine al (b:=(d.1==7)) kr (fun C=>?_) (fun C=>?_)
  ·replace m:=au C m;refine aF<|pN 1 [9] [(9,.pointer (some ⟨r,1,none⟩))]<|bx 3 ⟨r,1,none⟩ (vI d.2.1) (aS (x.cell 1 rfl))<|pN 2 [3,11] [(3,vI (if 1<d.2.1 then 1 else d.2.1))]<|ab ?_;obtain rfl:=sj m;refine ad fun a hd hs aj=>?_;exact ⟨(bg O P nb),bZ,x,hd,hs,aZ aj⟩
  ·replace m:=av C m;refine aJ ?_;obtain rfl:=sj m;refine ad fun a hd hs aj=>?_;exact ⟨(bg O P nb),bZ,x,hd,hs,aZ aj⟩
 ·rintro a z ⟨R,a3,S,hd,hs,aj⟩;refine aM ?_ hd hs aj;refine aW<|aO<|pN 1 [12] [(12,.pointer (some ⟨r,6,none⟩))]<|bx 23 ⟨r,6,none⟩ (vL e d.2.2.2.2.2.2 f) (aS (S.cell 6 rfl))<|pN 2 [14,15] [(14,vI (lz d.2.2.2.2.2.2)),(15,vI 0)]<|ab<|ae q ?_;clear q;intro D m q
  refine aE (J:=fun a E=>Bl j E∧Sz z E∧Qa a 25 [(3,vI D)]) ?_ ?_
  ·refine aN<|cm (A:=fun (g:bu) a y=>Bl j y∧Sz z y∧Qa a 25 [(3,vI g.1),(13,vL e d.2.2.2.2.2.2 f),(14,vI (lz d.2.2.2.2.2.2)),(15,vI g.2)]) m ?_ ?_
   ·intro a hd hs aj;exact ⟨R,bZ,hd,hs,aZ aj⟩
   ·rintro g r2 i an a y ⟨l,F,hd,hs,aj⟩;refine aM ?_ hd hs aj;refine aO<|pN 1 [16] [(16,vB (decide (g.2<(lz d.2.2.2.2.2.2))))]<|cI<|al (b:=(decide (g.2<(lz d.2.2.2.2.2.2)))) kr (fun w=>?_) (fun w=>?_)
    ·replace i:=au w i;refine aJ<|aW<|aN<|aO<|ae i ?_;clear i;intro c G i
     refine dp .i64 7 (p.below l o) G bT ?_;obtain ⟨_,⟨_,_,rfl,rfl,⟨_,_,rfl,rfl,⟨_,_,rfl,rfl,⟨_,_,rfl,rfl,⟨_,_,rfl,rfl,⟨_,_,rfl,⟨s,t,rfl,T⟩,⟨u,v,rfl,U⟩⟩⟩⟩⟩⟩⟩,V⟩:=cells_un (p.cellsK G);refine laq 25 (ba e ((g.2:Int).toNat*7)) #[vI (Pc.un c).1,vI (Pc.un c).2.1,vI (Pc.un c).2.2.1,vB (Pc.un c).2.2.2.1,vB (Pc.un c).2.2.2.2.1,.slice s (length (Pc.un c).2.2.2.2.2.1) t,.slice u (length (Pc.un c).2.2.2.2.2.2) v] (aS (V y (fun k hk=>l.block k (o k hk)))) ?_;refine aQ bp cz 25 kr kr ?_;intro Q a8 H W M a4;refine aq 25 0 (.agg #[vI (Pc.un c).1,vI (Pc.un c).2.1,vI (Pc.un c).2.2.1,vB (Pc.un c).2.2.2.1,vB (Pc.un c).2.2.2.2.1,.slice s (length (Pc.un c).2.2.2.2.2.1) t,.slice u (length (Pc.un c).2.2.2.2.2.2) v]) #[vI (Pc.un c).1,vI (Pc.un c).2.1,vI (Pc.un c).2.2.1,vB (Pc.un c).2.2.2.1,vB (Pc.un c).2.2.2.2.1,.slice s (length (Pc.un c).2.2.2.2.2.1) t,.slice u (length (Pc.un c).2.2.2.2.2.2) v] W kr kr kr ?_;intro ax I X a5;refine ab<|aF<|pN 1 [19] [(19,vI g.1)]<|lbq 25 Q #[vI (Pc.un c).1,vI (Pc.un c).2.1,vI (Pc.un c).2.2.1,vB (Pc.un c).2.2.2.1,vB (Pc.un c).2.2.2.2.1,.slice s (length (Pc.un c).2.2.2.2.2.1) t,.slice u (length (Pc.un c).2.2.2.2.2.2) v] (aS X)<|ae i ?_;clear i;intro K Y i;have N:j.heap.size≤Q:=cp M l.size;have n:=bg (bg l H nb) I (bN N);refine ak kr rfl kr enters17 (h s t u v ((Pc.un c).1,(Pc.un c).2.1,(Pc.un c).2.2.1,(Pc.un c).2.2.2.1,(Pc.un c).2.2.2.2.1,(Pc.un c).2.2.2.2.2.1,(Pc.un c).2.2.2.2.2.2) ax B (fun k (hk:B k)=>bm (o k hk) n.size) (T.below n o) (U.below n o) K Y) ?_;rintro a9 bb ⟨L,rfl⟩;refine pN 2 [3,22] [(3,vI (wI (g.1+K)))]<|ab<|bQ<|aF<|pN 2 [15,23] [(15,vI (wI (g.2+1)))]<|ab ?_;obtain rfl:=sj i;refine ad fun a hd hs aj=>?_;exact ⟨((wI (g.1+K)),wI (g.2+1)),rfl,(bg n L nb),(nt (nt (nt F H.size) I.size) L.size),hd,hs,aZ aj⟩
    ·replace i:=av w i;refine cd<|cl rfl ?_
     obtain rfl:=sj i;replace m:=congrArg some (an _ rfl);obtain rfl:=sj m;refine ad fun a hd hs aj=>?_;exact ⟨l,F,hd,hs,aZ aj⟩
  ·rintro a E ⟨Z,a6,hd,hs,aj⟩;refine aM ?_ hd hs aj;refine aO<|pN 2 [2,24] [(2,vI D)]<|ab<|aw ?_
   obtain rfl:=sj q;refine aD (ay [vI D] rfl ⟨kr,trivial⟩ ?_);exact ⟨ag Z,rfl⟩
theorem grp_regex_groups_ok:∀ (ao:Nat),gC17 ao:=by
  intro ao
  induction ao with
  | zero=>unfold gC17;intros;rename_i a;rw[regex_groups.eq_1]at a;cases a
  | succ ao ih=>exact regex_groups_step ao ih

theorem regex_groups_ok (ao:Nat):
    gC17 ao:=
  grp_regex_groups_ok ao

theorem regex_Groups_ok (ao:Nat) (af:bS) (ai:Nat) (a:bS) (c:Nat) (f:cy) (i:World) (p:Nat→Prop) (l:Lw p i) (aG:Rd (bY (iE .i64) (iE .i64)) i p af ai f.2.2.2.2.2.1) (q:Rd pcE i p a c f.2.2.2.2.2.2) (Z:Rd (tabE 3 pow10C) i p (ro 3) 1 [vW 1]) (R:Int × bu) (g:regex_Groups ao f=some R):
    Cs 7 [.agg (bq f af ai a c)] i (G1 i [vI R.1,.agg (cN R.2)]):=by
 have A:Bl i i:=Below.refl _ _;unfold regex_Groups at g;refine aV Tryz.func7 rfl Tryz.ntmps7 kr ?_;refine cj [(0,.agg (bq f af ai a c))]<|aO<|aQ bp (bq f af ai a c) 25 kr kr ?_
 intro b1 w2 B O a1 a9;refine pN 1 [2] []<|aQ bp #[vI 0,vI 0] 27 kr kr ?_;intro s w8 P w n a3;refine cI<|aW<|aF ?_
 have C:=O.grown P nb;refine lbq 25 b1 (bq f af ai a c) (aS C)<|ae g ?_;clear g;intro d S g;have e:=bg A (am B P) nb;refine ak kr rfl kr enters10 (regex_Check_ok ao af ai a c f w8 p (fun k (hk:p k)=>bm (l k hk) e.size) (aG.below e l) (q.below e l) (Z.below e l) d S) ?_;rintro bb bd ⟨h,rfl⟩;refine aQ bp #[vI 0,vI 0] 27 kr kr ?_;intro r be x T j a4;refine aq 27 0 (.agg (cN d)) (cN d) T kr kr kr ?_;intro an m D a5;refine bV<|pN 1 [7] [(7,bp r)]<|bx 3 ⟨r,0,none⟩ (vI d.1) (aS (D.cell 0 rfl))<|pN 1 [9] [(9,vB (d.1 !=0))]<|ab<|al (b:=(d.1 !=0)) kr (fun y=>?_) (fun y=>?_)
 ·replace g:=au y g;refine aW<|bX kr ?_
  intro Q z;refine aT [1] (bA 3 [1]) 2 kr kr<|pN 1 [2] [(2,vI 0)]<|ab<|ar<|aK (cS Q []) [0] [(0,some true)] (bA 3 [0,1]) 1 kr kr (az _ _) ?_;have a6:=az Q [];refine lbq 27 r (cN d) (cf fun w' hC'=>(hC'.box (D.grown z nb) bG)) ?_;refine ab<|ar<|aK (fun _=>True) [2] [(2,some false)] (bA 3 [0,1,2]) 0 kr kr trivial ?_;have E:=(am h x);refine gv_store (t:=27) (b:=s) (off:=0) (v:=(.agg #[.int .i64 d.1,.int .i64 d.2])) (t':=27) (cs:=#[.int .i64 0,.int .i64 0]) #[.int .i64 d.1,.int .i64 d.2] cW rfl rfl kr kr kr (by intro u hu;simp[Value.cells]at hu;rcases hu with rfl | rfl<;>rfl) (show 0+2≤2 by decide) (by rfl) (((w.grown E nb).grown m (ac (ng (bm ((bc (w.grown h nb)) _ rfl) ((aH j) _ rfl))))).grown z nb) ?_;intro ax U V a7;refine ⟨(fun _=>trivial),?_⟩;refine ab<|ar<|bi kr<|aw ?_;obtain rfl:=sj g;refine aD (ay [vI 0,.agg (cN d)] rfl ⟨kr,⟨⟨s,0,none⟩,kr,run_loadVar_row ax s _ 27 _ _ _ V bt rfl kr⟩,trivial⟩ ?_);have K:i.heap.size≤r:=cp j (bg e h nb).size;have L:i.heap.size≤s:=cp n (bg A B nb).size;exact ⟨ag (bg (bg (bg (bg e E nb) m (bN K)) z nb) U (bN L)),rfl⟩
 ·replace g:=av y g;refine aJ<|aW<|aF ?_
  have F:=(am h x);have G:=w.grown h nb;have H:=bm ((bc G) _ rfl) ((aH j) _ rfl);refine lbq 25 b1 (bq f af ai a c) (aS ((C.grown F nb).grown m (ac (ng (ltt (bm ((bc O) _ rfl) ((aH n) _ rfl)) H)))))<|ae g ?_;clear g;intro I W g;have M:i.heap.size≤r:=cp j (bg e h nb).size;have o:=bg (bg e F nb) m (bN M);refine ak kr rfl kr enters17 (regex_groups_ok ao af ai a c f an p (fun k (hk:p k)=>bm (l k hk) o.size) (aG.below o l) (q.below o l) I W) ?_;rintro bl bn ⟨J,rfl⟩;refine pN 2 [2,13] [(2,vI I),(13,.agg #[vI 0,vI 0])]<|aq 27 0 (.agg #[vI 0,vI 0]) #[vI 0,vI 0] (((G.grown x nb).grown m (ac (ng H))).grown J nb) kr kr kr ?_;intro a0 X Y a8;refine ab<|aw ?_
  obtain rfl:=sj g;refine aD (ay [vI I,.agg #[vI 0,vI 0]] rfl ⟨kr,⟨⟨s,0,none⟩,kr,run_loadVar_row a0 s _ 27 _ _ _ Y bt rfl kr⟩,trivial⟩ ?_);have N:i.heap.size≤s:=cp n (bg A B nb).size;exact ⟨ag (bg (bg o J nb) X (bN N)),rfl⟩

theorem ref4_At_ok (ao:Nat) (b:Int) (a:Int) (c:World) (h:bu) (i:ref4_At ao b a=some h):
    Cs 19 [vI b,vI a] c (G1 c [.agg (cN h)]):=by
 have e:Bl c c:=Below.refl _ _;unfold ref4_At at i;refine aV Tryz.func19 rfl Tryz.ntmps19 kr ?_;refine cj [(0,vI b),(1,vI a)]<|aO<|aQ bp #[vI 0,vI 0] 27 kr kr ?_
 intro f q j k g p;refine bV<|pN 3 [5,6,7] [(7,.agg #[vI b,vI a])]<|aq 27 0 (.agg #[vI b,vI a]) #[vI b,vI a] k kr kr kr ?_;intro n l m o;refine ab<|aw ?_
 obtain rfl:=sj i;refine aD (ay [.agg #[vI b,vI a]] rfl ⟨⟨⟨f,0,none⟩,kr,run_loadVar_row n f _ 27 _ _ _ m bt rfl kr⟩,trivial⟩ ?_);have d:c.heap.size≤f:=cp g e.size;exact ⟨ag (bg (bg e j nb) l (bN d)),rfl⟩

theorem ref4_oneOf_ok (ao:Nat) (g:Int) (c:ByteArray) (h:World) (t:Bool) (f:ref4_oneOf ao g c=some t):
    Cs 45 [vU g,vS c] h (G1 h [vB t]):=by
 have u:Bl h h:=Below.refl _ _;unfold ref4_oneOf at f;refine aV Tryz.func45 rfl Tryz.ntmps45 kr ?_;refine cj [(0,vU g),(1,vS c)]<|aO<|pN 1 [4] []<|cI<|aO<|pN 1 [5] [(5,vI 0)]<|ab<|ae f ?_;clear f;intro x k f
 refine aE (J:=fun a p=>∃ v:Unit,x= .inl v∧Bl h p∧Sz h p∧Qa a 17 []) ?_ ?_
 ·refine aN<|cm (A:=fun (i:Int) a q=>Bl h q∧Sz h q∧Qa a 17 [(0,vU g),(1,vS c),(5,vI i)]) k ?_ ?_
  ·intro a hd hs aj;exact ⟨u,bZ,hd,hs,aZ aj⟩
  ·rintro i z d n a q ⟨l,o,hd,hs,aj⟩;refine aM ?_ hd hs aj;refine aW<|aO<|pN 4 [6,7,8,9] [(9,vB (decide (i<(bz c))))]<|ab<|al (b:=(decide (i<(bz c)))) kr (fun m=>?_) (fun m=>?_)
   ·replace d:=au m d;refine aJ<|aW<|aN<|aO<|pN 2 [12,13] [(12,vS c),(13,vI i)]<|ae d ?_;clear d;intro w r d;refine siq .i64 r bU<|pN 2 [15,16] [(16,vB (w==g))]<|ab<|al (b:=(w==g)) kr (fun j=>?_) (fun j=>?_)
    ·replace d:=au j d;refine aO<|pN 1 [4] [(4,vB true)]<|ab<|aw ?_
     obtain rfl:=sj d;replace k:=congrArg some (n _ rfl);obtain rfl:=sj k;replace f:=bD f;obtain rfl:=sj f;refine aD (ay [vB true] rfl ⟨kr,trivial⟩ ?_);exact ⟨ag l,rfl⟩
    ·replace d:=av j d;refine aJ<|bQ<|aF<|pN 3 [5,10,11] [(5,vI (wI (i+1)))]<|ab ?_;obtain rfl:=sj d;refine ad fun a hd hs aj=>?_;exact ⟨(wI (i+1)),rfl,l,o,hd,hs,aZ aj⟩
   ·replace d:=av m d;refine cd<|cl rfl ?_
    obtain rfl:=sj d;replace k:=congrArg some (n _ rfl);obtain rfl:=sj k;refine ad fun a hd hs aj=>?_;exact ⟨(),rfl,l,o,hd,hs,aZ aj⟩
 ·rintro a p ⟨v,e,s,y,hd,hs,aj⟩;subst e;refine aM ?_ hd hs aj;replace f:=cn f;refine aO<|pN 1 [4] [(4,vB false)]<|ab<|aw ?_
  obtain rfl:=sj f;refine aD (ay [vB false] rfl ⟨kr,trivial⟩ ?_);exact ⟨ag s,rfl⟩

theorem ref4_Encoded_ok (ao:Nat) (af:bS) (ai:Nat) (w:List Int) (j:World) (X0:Nat→Prop) (dB:Lw X0 j) (aG:Rd (iE .i64) j X0 af ai w) (r0:List UInt8) (h0:ref4_Encoded ao w=some r0):
    Cs 67 [vL af w ai] j (Ret fun v w'=>j.grownBy w' none∧∃ (bj:bS) (br:Nat),v=dn [vL bj r0 br]∧aL bE 5 w' (fun _=>False) bj br r0∧(Lo j bj)):=by
 have ec:Bl j j:=Below.refl _ _;unfold ref4_Encoded at h0;refine aV Tryz.func67 rfl Tryz.ntmps67 kr ?_;refine cj [(0,vL af w ai)]<|aO<|pN 1 [2] []<|bV<|pN 1 [3] [(3,vL none ([]:List UInt8) 0)]<|cI<|aO<|pN 1 [4] [(4,vI 0)]<|ab<|ae h0 ?_;clear h0;intro j1 h1 h0
 refine aE (J:=fun a w2=>∃ (f:bS) (l:Nat),Bl j w2∧Sz j w2∧aL bE 5 w2 (fun _=>False) f l j1∧(Lo j f)∧Qa a 79 [(3,vL f j1 l)]) ?_ ?_
 ·refine aN<|cm (A:=fun (o:(List UInt8) × Int) a w4=>∃ (f:bS) (l:Nat),Bl j w4∧Sz j w4∧aL bE 5 w4 (fun _=>False) f l o.1∧(Lo j f)∧Qa a 79 [(0,vL af w ai),(3,vL f o.1 l),(4,vI o.2)]) h1 ?_ ?_
  ·intro a hd hs aj;exact ⟨none,0,ec,bZ,aL.nil bE 5 j (fun _=>False),(fun _ h=>by cases h),hd,hs,aZ aj⟩
  ·rintro o r2 x ed a w4 ⟨i,C,q,dC,n,p,hd,hs,aj⟩;refine aM ?_ hd hs aj;refine aW<|aO<|pN 4 [6,7,8,9] [(9,vB (decide (o.2<(lz w))))]<|ab<|al (b:=(decide (o.2<(lz w)))) kr (fun N=>?_) (fun N=>?_)
   ·replace x:=au N x;refine aJ<|aW<|aN<|aO<|pN 2 [12,13] [(12,vL af w ai),(13,vI o.2)]<|ae x ?_;clear x;intro c a9 x;refine dp .i64 1 (aG.below q dB) a9 bw<|bx 3 (ba af ((o.2:Int).toNat*1)) (vI c) (aS ((aG.below q dB).cell a9))<|pN 1 [5] [(5,vI c)]<|ab<|aN<|aO<|pN 3 [37,38,39] [(37,vB (decide (c<128)))]<|ab<|ae x ?_;clear x;intro bb d x
    refine aE (J:=fun a a1=>∃ (f:bS) (l:Nat),Bl j a1∧Sz w4 a1∧aL bE 5 a1 (fun _=>False) f l bb∧(Lo j f)∧Qa a 79 [(0,vL af w ai),(3,vL f bb l),(4,vI o.2)]) ?_ ?_
    ·refine al (b:=(decide (c<128))) kr (fun O=>?_) (fun O=>?_)
     ·replace d:=au O d;refine aF<|pN 3 [40,41,42] [(40,vL i o.1 C),(42,vU (wB (c)))]<|ae d ?_;clear d;intro dD dP d;refine aQ (fun b=>.slice (ro b) 1 1) #[vU (wB (c))] 5 kr kr ?_;intro r ee P dQ D ep;have Q:aL bE 5 ee (fun _=>False) (ro r) 1 ([dD]:List UInt8):=bR dQ ⟨[vU (wB (c))],[],rfl,(by simp only[bE,flat,(dt dP)]),rfl⟩ (show 1≤maxLen by decide) (fun h=>h);have eq:Lo j (ro r):=loo D q.size;refine ae d ?_;clear d;intro dE dR d;refine ct bE (t:=83) (ty:=83) (e:=5) (a:=i) (ax:=(ro r)) (cap:=C) (cx:=1) (xs:=o.1) (ys:=([dD]:List UInt8)) dE (X:=(fun _=>False)) (Y:=(fun k=>aI (ro r)=some k)) cW rfl rfl kr kr ce info5 (n.grown P (fun _ h=>h.elim) nb) (Q.rd (Y:=fun k=>aI (ro r)=some k) (fun _ h=>h.elim) (fun g e=>e)) dR (.inr fun _ _ _ _ _ h=>h) (fun _ h=>h.elim) ?_;intro L dF eA bd dS R;refine ⟨nofun,?_⟩;have be:=bg q P nb;have dT:Lo j L:=cC R p be.size;have dU:Ap i (ro r):=fun g e hx=>nl ((bI D) _ hx) ((fun k (hk:aI i=some k)=>n.lt k hk) g e);have er:Ap L (ro r):=bF R dU (fun k (hk:aI (ro r)=some k)=>Q.lt k hk);have dV:Ap (ro r) i:=fun g e hx=>nl ((bI D) g e) ((fun k (hk:aI i=some k)=>n.lt k hk) _ hx);have es:Ap (ro r) L:=fun g e h=>cg R (fun h=>((dV) g e) h) (Q.lt g e) h;refine pN 1 [3] [(3,vL L dE dF)]<|ab ?_;obtain rfl:=sj d;refine ad fun a hd hs aj=>?_;exact ⟨L,dF,(bg be bd p),(nt P.size bd.size),dS,dT,hd,hs,aZ aj⟩
     ·replace d:=av O d;refine aO<|pN 3 [45,46,47] [(45,vB (decide (c<2048)))]<|ab<|al (b:=(decide (c<2048))) kr (fun S=>?_) (fun S=>?_)
      ·replace d:=au S d;refine aF<|pN 9 [48,49,50,51,52,53,54,55,56] [(48,vL i o.1 C),(52,vU (wB ((wI (192+(wI ((c).tdiv 64))))))),(56,vU (wB ((wI (128+((c).tmod 64))))))]<|ae d ?_;clear d;intro dG dW d;refine ae d ?_;clear d;intro dH dX d;refine aQ (fun b=>.slice (ro b) 2 2) #[vU (wB ((wI (192+(wI ((c).tdiv 64)))))),vU (wB ((wI (128+((c).tmod 64)))))] 5 kr kr ?_;intro s ef T dY E et;have U:aL bE 5 ef (fun _=>False) (ro s) 2 ([dG,dH]:List UInt8):=bR dY ⟨[vU (wB ((wI (192+(wI ((c).tdiv 64))))))],[vU (wB ((wI (128+((c).tmod 64)))))],rfl,(by simp only[bE,flat,(dt dW)]),⟨[vU (wB ((wI (128+((c).tmod 64)))))],[],rfl,(by simp only[bE,flat,(dt dX)]),rfl⟩⟩ (show 2≤maxLen by decide) (fun h=>h);have eu:Lo j (ro s):=loo E q.size;refine ae d ?_;clear d;intro dI dZ d;refine ct bE (t:=83) (ty:=83) (e:=5) (a:=i) (ax:=(ro s)) (cap:=C) (cx:=2) (xs:=o.1) (ys:=([dG,dH]:List UInt8)) dI (X:=(fun _=>False)) (Y:=(fun k=>aI (ro s)=some k)) cW rfl rfl kr kr ce info5 (n.grown T (fun _ h=>h.elim) nb) (U.rd (Y:=fun k=>aI (ro s)=some k) (fun _ h=>h.elim) (fun g e=>e)) dZ (.inr fun _ _ _ _ _ h=>h) (fun _ h=>h.elim) ?_;intro M dJ eB bl d0 V;refine ⟨nofun,?_⟩;have bn:=bg q T nb;have d1:Lo j M:=cC V p bn.size;have d2:Ap i (ro s):=fun g e hx=>nl ((bI E) _ hx) ((fun k (hk:aI i=some k)=>n.lt k hk) g e);have ev:Ap M (ro s):=bF V d2 (fun k (hk:aI (ro s)=some k)=>U.lt k hk);have d3:Ap (ro s) i:=fun g e hx=>nl ((bI E) g e) ((fun k (hk:aI i=some k)=>n.lt k hk) _ hx);have ew:Ap (ro s) M:=fun g e h=>cg V (fun h=>((d3) g e) h) (U.lt g e) h;refine pN 1 [3] [(3,vL M dI dJ)]<|ab ?_;obtain rfl:=sj d;refine ad fun a hd hs aj=>?_;exact ⟨M,dJ,(bg bn bl p),(nt T.size bl.size),d0,d1,hd,hs,aZ aj⟩
      ·replace d:=av S d;refine aO<|pN 3 [59,60,61] [(59,vB (decide (c<65536)))]<|ab<|al (b:=(decide (c<65536))) kr (fun W=>?_) (fun W=>?_)
       ·replace d:=au W d;refine aF<|pN 14 [62,63,64,65,66,67,68,69,70,71,72,73,74,75] [(62,vL i o.1 C),(66,vU (wB ((wI (224+(wI ((c).tdiv 4096))))))),(71,vU (wB ((wI (128+(((wI ((c).tdiv 64))).tmod 64)))))),(75,vU (wB ((wI (128+((c).tmod 64))))))]<|ae d ?_;clear d;intro dK d4 d;refine ae d ?_;clear d;intro dL d5 d;refine ae d ?_;clear d;intro dM d6 d;refine aQ (fun b=>.slice (ro b) 3 3) #[vU (wB ((wI (224+(wI ((c).tdiv 4096)))))),vU (wB ((wI (128+(((wI ((c).tdiv 64))).tmod 64))))),vU (wB ((wI (128+((c).tmod 64)))))] 5 kr kr ?_;intro u eg Z d7 F ex;have ah:aL bE 5 eg (fun _=>False) (ro u) 3 ([dK,dL,dM]:List UInt8):=bR d7 ⟨[vU (wB ((wI (224+(wI ((c).tdiv 4096))))))],[vU (wB ((wI (128+(((wI ((c).tdiv 64))).tmod 64))))),vU (wB ((wI (128+((c).tmod 64)))))],rfl,(by simp only[bE,flat,(dt d4)]),⟨[vU (wB ((wI (128+(((wI ((c).tdiv 64))).tmod 64)))))],[vU (wB ((wI (128+((c).tmod 64)))))],rfl,(by simp only[bE,flat,(dt d5)]),⟨[vU (wB ((wI (128+((c).tmod 64)))))],[],rfl,(by simp only[bE,flat,(dt d6)]),rfl⟩⟩⟩ (show 3≤maxLen by decide) (fun h=>h);have eh:Lo j (ro u):=loo F q.size;refine ae d ?_;clear d;intro bo b6 d;refine ct bE (t:=83) (ty:=83) (e:=5) (a:=i) (ax:=(ro u)) (cap:=C) (cx:=3) (xs:=o.1) (ys:=([dK,dL,dM]:List UInt8)) bo (X:=(fun _=>False)) (Y:=(fun k=>aI (ro u)=some k)) cW rfl rfl kr kr ce info5 (n.grown Z (fun _ h=>h.elim) nb) (ah.rd (Y:=fun k=>aI (ro u)=some k) (fun _ h=>h.elim) (fun g e=>e)) b6 (.inr fun _ _ _ _ _ h=>h) (fun _ h=>h.elim) ?_;intro y bp ey a2 b7 G;refine ⟨nofun,?_⟩;have a3:=bg q Z nb;have b8:Lo j y:=cC G p a3.size;have b9:Ap i (ro u):=fun g e hx=>nl ((bI F) _ hx) ((fun k (hk:aI i=some k)=>n.lt k hk) g e);have ei:Ap y (ro u):=bF G b9 (fun k (hk:aI (ro u)=some k)=>ah.lt k hk);have ca:Ap (ro u) i:=fun g e hx=>nl ((bI F) g e) ((fun k (hk:aI i=some k)=>n.lt k hk) _ hx);have ej:Ap (ro u) y:=fun g e h=>cg G (fun h=>((ca) g e) h) (ah.lt g e) h;refine pN 1 [3] [(3,vL y bo bp)]<|ab ?_;obtain rfl:=sj d;refine ad fun a hd hs aj=>?_;exact ⟨y,bp,(bg a3 a2 p),(nt Z.size a2.size),b7,b8,hd,hs,aZ aj⟩
       ·replace d:=av W d;refine aF<|pN 19 [16,17,18,19,20,21,22,23,24,25,26,27,28,29,30,31,32,33,34] [(16,vL i o.1 C),(20,vU (wB ((wI (240+(wI ((c).tdiv 262144))))))),(25,vU (wB ((wI (128+(((wI ((c).tdiv 4096))).tmod 64)))))),(30,vU (wB ((wI (128+(((wI ((c).tdiv 64))).tmod 64)))))),(34,vU (wB ((wI (128+((c).tmod 64))))))]<|ae d ?_;clear d;intro bs cb d;refine ae d ?_;clear d;intro bA cc d;refine ae d ?_;clear d;intro b0 ch d;refine ae d ?_;clear d;intro b1 ck d;refine aQ (fun b=>.slice (ro b) 4 4) #[vU (wB ((wI (240+(wI ((c).tdiv 262144)))))),vU (wB ((wI (128+(((wI ((c).tdiv 4096))).tmod 64))))),vU (wB ((wI (128+(((wI ((c).tdiv 64))).tmod 64))))),vU (wB ((wI (128+((c).tmod 64)))))] 5 kr kr ?_;intro m d8 H cs z ek;have I:aL bE 5 d8 (fun _=>False) (ro m) 4 ([bs,bA,b0,b1]:List UInt8):=bR cs ⟨[vU (wB ((wI (240+(wI ((c).tdiv 262144))))))],[vU (wB ((wI (128+(((wI ((c).tdiv 4096))).tmod 64))))),vU (wB ((wI (128+(((wI ((c).tdiv 64))).tmod 64))))),vU (wB ((wI (128+((c).tmod 64)))))],rfl,(by simp only[bE,flat,(dt cb)]),⟨[vU (wB ((wI (128+(((wI ((c).tdiv 4096))).tmod 64)))))],[vU (wB ((wI (128+(((wI ((c).tdiv 64))).tmod 64))))),vU (wB ((wI (128+((c).tmod 64)))))],rfl,(by simp only[bE,flat,(dt cc)]),⟨[vU (wB ((wI (128+(((wI ((c).tdiv 64))).tmod 64)))))],[vU (wB ((wI (128+((c).tmod 64)))))],rfl,(by simp only[bE,flat,(dt ch)]),⟨[vU (wB ((wI (128+((c).tmod 64)))))],[],rfl,(by simp only[bE,flat,(dt ck)]),rfl⟩⟩⟩⟩ (show 4≤maxLen by decide) (fun h=>h);have el:Lo j (ro m):=loo z q.size;refine ae d ?_;clear d;intro b2 cv d;refine ct bE (t:=83) (ty:=83) (e:=5) (a:=i) (ax:=(ro m)) (cap:=C) (cx:=4) (xs:=o.1) (ys:=([bs,bA,b0,b1]:List UInt8)) b2 (X:=(fun _=>False)) (Y:=(fun k=>aI (ro m)=some k)) cW rfl rfl kr kr ce info5 (n.grown H (fun _ h=>h.elim) nb) (I.rd (Y:=fun k=>aI (ro m)=some k) (fun _ h=>h.elim) (fun g e=>e)) cv (.inr fun _ _ _ _ _ h=>h) (fun _ h=>h.elim) ?_;intro B b3 ez a4 cw K;refine ⟨nofun,?_⟩;have a5:=bg q H nb;have c0:Lo j B:=cC K p a5.size;have c1:Ap i (ro m):=fun g e hx=>nl ((bI z) _ hx) ((fun k (hk:aI i=some k)=>n.lt k hk) g e);have em:Ap B (ro m):=bF K c1 (fun k (hk:aI (ro m)=some k)=>I.lt k hk);have c2:Ap (ro m) i:=fun g e hx=>nl ((bI z) g e) ((fun k (hk:aI i=some k)=>n.lt k hk) _ hx);have en:Ap (ro m) B:=fun g e h=>cg K (fun h=>((c2) g e) h) (I.lt g e) h;have c3:=(nt H.size a4.size);refine pN 1 [3] [(3,vL B b2 b3)]<|ab ?_;obtain rfl:=sj d;refine ad fun a hd hs aj=>?_;exact ⟨B,b3,(bg a5 a4 p),c3,cw,c0,hd,hs,aZ aj⟩
    ·rintro a a1 ⟨d9,ea,c4,c5,c6,c7,hd,hs,aj⟩;refine aM ?_ hd hs aj;have c9:=(nt dC c5);refine bQ<|bQ<|aF<|pN 3 [4,10,11] [(4,vI (wI (o.2+1)))]<|ab ?_;obtain rfl:=sj x;refine ad fun a hd hs aj=>?_;exact ⟨(bb,wI (o.2+1)),rfl,d9,ea,c4,c9,c6,c7,hd,hs,aZ aj⟩
   ·replace x:=av N x;refine cd<|cl rfl ?_
    obtain rfl:=sj x;replace h1:=congrArg some (ed _ rfl);obtain rfl:=sj h1;refine ad fun a hd hs aj=>?_;exact ⟨i,C,q,dC,n,p,hd,hs,aZ aj⟩
 ·rintro a w2 ⟨an,a0,dg,eo,ds,dw,hd,hs,aj⟩;refine aM ?_ hd hs aj;refine aO<|pN 2 [2,78] [(2,vL an j1 a0)]<|ab<|aw ?_
  obtain rfl:=sj h0;refine aD (ay [vL an j1 a0] rfl ⟨kr,trivial⟩ ?_);exact ⟨ag dg,an,a0,rfl,ds,dw⟩

theorem ref4_String_ok (ao:Nat) (af:bS) (ai:Nat) (b:List Int) (c:World) (i:Nat→Prop) (m:Lw i c) (aG:Rd (iE .i64) c i af ai b) (n:ByteArray) (f:ref4_String ao b=some n):
    Cs 46 [vL af b ai] c (G1 c [vS n]):=by
 have d:Bl c c:=Below.refl _ _;unfold ref4_String at f;refine aV Tryz.func46 rfl Tryz.ntmps46 kr ?_;refine cj [(0,vL af b ai)]<|aO<|pN 1 [2] []<|bV<|pN 1 [3] [(3,vL af b ai)]<|ae f ?_;clear f;intro j o f;refine ak kr rfl kr enters67 (ref4_Encoded_ok ao af ai b c i (fun k (hk:i k)=>bm (m k hk) d.size) (aG.below d m) j o) ?_;rintro u v ⟨p,l,s,rfl,q,r⟩;have t:Lo c l:=fun g e=>Nat.le_trans d.size (r g e);refine gv_b2s (src:=83) (dst:=9) (e:=5) (xs:=j) (a:=l) (cap:=s) (X:=(fun k=>aI l=some k)) [] nofun rfl rfl rfl kr kr ce dr bU (aS (q.rd (Y:=fun k=>aI l=some k) (fun _ h=>h.elim) (fun g e=>e))) rfl ?_;refine pN 1 [2] [(2,vS (bh j))]<|ab<|aw ?_
 obtain rfl:=sj f;refine aD (ay [vS (bh j)] rfl ⟨kr,trivial⟩ ?_);exact ⟨ag (bg d p nb),rfl⟩

theorem ref4_written_ok (ao:Nat) (c:Int) (f:ByteArray) (l:World) (O:ByteArray) (d:ref4_written ao c f=some O):
    Cs 27 [vI c,vS f] l (G1 l [vS O]):=by
 have p:Bl l l:=Below.refl _ _;unfold ref4_written at d;refine aV Tryz.func27 rfl Tryz.ntmps27 kr ?_;refine cj [(0,vI c),(1,vS f)]<|aO<|pN 1 [4] []<|cI<|aN<|aO<|pN 3 [5,6,7] [(5,vB (c==10))]<|ab<|al (b:=(c==10)) kr (fun q=>?_) (fun q=>?_)
 ·replace d:=au q d;refine aO<|pN 1 [4] [(4,vS (bh [92,110]))]<|ab<|aw ?_
  obtain rfl:=sj d;refine aD (ay [vS (bh [92,110])] rfl ⟨kr,trivial⟩ ?_);exact ⟨ag p,rfl⟩
 ·replace d:=av q d;refine aO<|pN 3 [8,9,10] [(8,vB (c==9))]<|ab<|al (b:=(c==9)) kr (fun r=>?_) (fun r=>?_)
  ·replace d:=au r d;refine aO<|pN 1 [4] [(4,vS (bh [92,116]))]<|ab<|aw ?_
   obtain rfl:=sj d;refine aD (ay [vS (bh [92,116])] rfl ⟨kr,trivial⟩ ?_);exact ⟨ag p,rfl⟩
  ·replace d:=av r d;refine aO<|ae d ?_;clear d;intro P m d
   refine aR (J:=fun a D=>Bl l D∧Sz l D∧Qa a 27 [(0,vI c),(11,vB P)]) ?_ ?_
   ·refine pN 3 [12,13,14] [(14,vB (decide (c<128)))]<|aA (s:=14) (g:=(decide (c<128))) kr (fun t=>?_) (fun t=>?_)
    ·replace m:=au t m;refine pN 3 [15,16,17] [(16,vU (wB (c))),(17,vS f)]<|ae m ?_;clear m;intro Q R m;refine ak kr rfl kr enters45 (ref4_oneOf_ok ao (wB (c)) f l Q R) ?_;rintro Z w8 ⟨z,rfl⟩;refine pN 2 [11,19] [(11,vB Q)]<|ab ?_;obtain rfl:=sj m;refine ad fun a hd hs aj=>?_;exact ⟨(bg p z nb),z.size,hd,hs,aZ aj⟩
    ·replace m:=av t m;refine pN 6 [11,15,16,17,18,19] [(11,vB false)]<|ab ?_;obtain rfl:=sj m;refine ad fun a hd hs aj=>?_;exact ⟨p,bZ,hd,hs,aZ aj⟩
   ·rintro a D ⟨n,T,hd,hs,aj⟩;refine aM ?_ hd hs aj;refine al (b:=P) kr (fun o=>?_) (fun o=>?_)
    ·replace d:=au o d;refine aO<|pN 1 [20] [(20,vI c)]<|aQ (fun b=>.slice (ro b) 1 1) #[vI c] 3 kr kr ?_;intro i A E F x U;have u:aL (iE .i64) 3 A (fun _=>False) (ro i) 1 ([c]:List Int):=bR F ⟨[vI c],[],rfl,rfl,rfl⟩ (show 1≤maxLen by decide) (fun h=>h);have V:Lo l (ro i):=loo x n.size;refine ae d ?_;clear d;intro S G d;refine ak kr rfl kr enters46 (ref4_String_ok ao (ro i) 1 ([c]:List Int) A (fun k=>aI (ro i)=some k) (fun k (hk:aI (ro i)=some k)=>u.lt k hk) (u.rd (Y:=fun k=>aI (ro i)=some k) (fun _ h=>h.elim) (fun g e=>e)) S G) ?_;rintro ah an ⟨H,rfl⟩;refine ae d ?_;clear d;intro B I d;refine dz 9 I<|pN 1 [4] [(4,vS B)]<|ab<|aw ?_
     obtain rfl:=sj d;refine aD (ay [vS B] rfl ⟨kr,trivial⟩ ?_);exact ⟨ag (bg n (am E H) nb),rfl⟩
    ·replace d:=av o d;refine aJ<|bQ<|aO<|pN 1 [24] [(24,vI c)]<|aQ (fun b=>.slice (ro b) 1 1) #[vI c] 3 kr kr ?_;intro j C K L y W;have v:aL (iE .i64) 3 C (fun _=>False) (ro j) 1 ([c]:List Int):=bR L ⟨[vI c],[],rfl,rfl,rfl⟩ (show 1≤maxLen by decide) (fun h=>h);have X:Lo l (ro j):=loo y n.size;refine ae d ?_;clear d;intro w M d;refine ak kr rfl kr enters46 (ref4_String_ok ao (ro j) 1 ([c]:List Int) C (fun k=>aI (ro j)=some k) (fun k (hk:aI (ro j)=some k)=>v.lt k hk) (v.rd (Y:=fun k=>aI (ro j)=some k) (fun _ h=>h.elim) (fun g e=>e)) w M) ?_;rintro ax a0 ⟨N,rfl⟩;refine pN 1 [4] [(4,vS w)]<|ab<|aw ?_
     obtain rfl:=sj d;refine aD (ay [vS w] rfl ⟨kr,trivial⟩ ?_);exact ⟨ag (bg n (am K N) nb),rfl⟩

theorem ref3_trim_ok (ao:Nat) (af:bS) (ai:Nat) (u:List Int) (c:World) (l:Nat→Prop) (m:Lw l c) (aG:Rd (iE .i64) c l af ai u) (Q:List Int) (z:ref3_trim ao u=some Q):
    Cs 84 [vL af u ai] c (Ret fun v w'=>c.grownBy w' none∧∃ (bj:bS) (br:Nat),∃ (w:Nat→Prop),v=dn [vL bj Q br]∧Rd (iE .i64) w' w bj br Q∧(dm w w' l c)):=by
 have W:Bl c c:=Below.refl _ _;unfold ref3_trim at z;refine aV Tryz.func84 rfl Tryz.ntmps84 kr ?_;refine cj [(0,vL af u ai)]<|aO<|pN 1 [2] []<|cI<|ae z ?_;clear z;intro K R z
 refine aE (J:=fun a S=>∃ (d:bS) (f:Nat),Bl c S∧Sz c S∧Rd (iE .i64) c l d f K∧Qa a 21 [(0,vL d K f)]) ?_ ?_
 ·refine aN<|cm (A:=fun (h:List Int) a L=>∃ (d:bS) (f:Nat),Bl c L∧Sz c L∧Rd (iE .i64) c l d f h∧Qa a 21 [(0,vL d h f)]) R ?_ ?_
  ·intro a hd hs aj;exact ⟨af,ai,W,bZ,aG,hd,hs,aZ aj⟩
  ·rintro h r2 i X a L ⟨y,B,x,Y,n,hd,hs,aj⟩;refine aM ?_ hd hs aj;refine aW<|aO<|ae i ?_;clear i;intro M j i
   refine aR (J:=fun a C=>Bl c C∧Sz L C∧Qa a 21 [(0,vL y h B),(14,vB M)]) ?_ ?_
   ·refine pN 4 [3,4,5,6] [(6,vB (decide ((lz h)>0)))]<|aA (s:=6) (g:=(decide ((lz h)>0))) kr (fun o=>?_) (fun o=>?_)
    ·replace j:=au o j;refine pN 4 [7,8,9,10] [(7,vL y h B),(10,vI (wI ((lz h)-1)))]<|ae j ?_;clear j;intro N D j;refine dp .i64 1 (n.below x m) D cQ<|bx 3 (ba y (((wI ((lz h)-1)):Int).toNat*1)) (vI N) (aS ((n.below x m).cell D))<|pN 2 [13,14] [(14,vB (N==0))]<|ab ?_;obtain rfl:=sj j;refine ad fun a hd hs aj=>?_;exact ⟨x,bZ,hd,hs,aZ aj⟩
    ·replace j:=av o j;refine pN 8 [7,8,9,10,11,12,13,14] [(14,vB false)]<|ab ?_;obtain rfl:=sj j;refine ad fun a hd hs aj=>?_;exact ⟨x,bZ,hd,hs,aZ aj⟩
   ·rintro a C ⟨p,T,hd,hs,aj⟩;refine aM ?_ hd hs aj;have E:=(nt Y T);refine al (b:=M) kr (fun q=>?_) (fun q=>?_)
    ·replace i:=au q i;refine aJ<|aN<|aF<|pN 4 [15,16,17,18] [(15,vL y h B),(18,vI (wI ((lz h)-1)))]<|ae i ?_;clear i;intro F U i;refine gv_ssl2 (iE .i64) (t:=77) (e:=3) (xs:=h) (a:=y) (cap:=B) (lo:=none) (hi:=(some (vI (wI ((lz h)-1))))) 0 (wI ((lz h)-1)) F nofun rfl rfl rfl kr kr cQ kr (.inl ⟨rfl,rfl⟩) (.inr ⟨_,rfl⟩) U (n.below p m).1 ?_;intro O P G;refine pN 1 [0] [(0,vL O F P)]<|ab<|bQ ?_
     obtain rfl:=sj i;refine ad fun a hd hs aj=>?_;exact ⟨F,rfl,O,P,p,E,(G _ _ n),hd,hs,aZ aj⟩
    ·replace i:=av q i;refine cd<|cl rfl ?_
     obtain rfl:=sj i;replace R:=congrArg some (X _ rfl);obtain rfl:=sj R;refine ad fun a hd hs aj=>?_;exact ⟨y,B,p,E,n,hd,hs,aZ aj⟩
 ·rintro a S ⟨H,I,r,Z,V,hd,hs,aj⟩;refine aM ?_ hd hs aj;refine aO<|pN 2 [2,20] [(2,vL H K I)]<|ab<|aw ?_
  obtain rfl:=sj z;refine aD (ay [vL H K I] rfl ⟨kr,trivial⟩ ?_);exact ⟨ag r,H,I,l,rfl,V.below r m,(fun k hk=>⟨(fun k (hk:l k)=>bm (m k hk) r.size) k hk,(fun k (hk:l k)=>Or.inl hk) k hk⟩)⟩

theorem ref3_Binary_ok (ao:Nat) (af:bS) (ai:Nat) (f:List Bool) (i:World) (X0:Nat→Prop) (be:Lw X0 i) (aG:Rd tE i X0 af ai f) (r0:List Int) (z:ref3_Binary ao f=some r0):
    Cs 69 [vL af f ai] i (Ret fun v w'=>i.grownBy w' none∧∃ (bj:bS) (br:Nat),∃ (P:Nat→Prop),v=dn [vL bj r0 br]∧Rd (iE .i64) w' P bj br r0∧(dm P w' X0 i)):=by
 have c7:Bl i i:=Below.refl _ _;unfold ref3_Binary at z;refine aV Tryz.func69 rfl Tryz.ntmps69 kr ?_;refine cj [(0,vL af f ai)]<|aO<|pN 1 [2] []<|bV<|pN 1 [3] [(3,vL none ([]:List Int) 0)]<|cI<|aO<|pN 1 [4] [(4,vI 0)]<|ab<|ae z ?_;clear z;intro j1 h1 z
 refine aE (J:=fun a T=>∃ (j:bS) (o:Nat),Bl i T∧Sz i T∧aL (iE .i64) 3 T (fun _=>False) j o j1∧(Lo i j)∧Qa a 41 [(3,vL j j1 o)]) ?_ ?_
 ·refine aN<|cm (A:=fun (c:(List Int) × Int) a S=>∃ (j:bS) (o:Nat),Bl i S∧Sz i S∧aL (iE .i64) 3 S (fun _=>False) j o c.1∧(Lo i j)∧Qa a 41 [(0,vL af f ai),(3,vL j c.1 o),(4,vI c.2)]) h1 ?_ ?_
  ·intro a hd hs aj;exact ⟨none,0,c7,bZ,aL.nil (iE .i64) 3 i (fun _=>False),(fun _ h=>by cases h),hd,hs,aZ aj⟩
  ·rintro c r2 p c9 a S ⟨n,r,bl,bn,bo,E,hd,hs,aj⟩;refine aM ?_ hd hs aj;refine aW<|aO<|pN 4 [7,8,9,10] [(10,vB (decide (c.2<(lz f))))]<|ab<|al (b:=(decide (c.2<(lz f)))) kr (fun F=>?_) (fun F=>?_)
   ·replace p:=au F p;refine aJ<|aW<|aN<|aO<|pN 1 [5] [(5,vI 0)]<|cI<|aO<|pN 1 [6] [(6,vI 15)]<|ab<|ae p ?_;clear p;intro w h3 p
    refine aE (J:=fun a Q=>Bl i Q∧Sz S Q∧aL (iE .i64) 3 Q (fun _=>False) n r c.1∧Qa a 41 [(0,vL af f ai),(3,vL n c.1 r),(4,vI c.2),(5,vI w)]) ?_ ?_
    ·refine aN<|cm (A:=fun (d:bu) a B=>Bl i B∧Sz S B∧aL (iE .i64) 3 B (fun _=>False) n r c.1∧Qa a 41 [(0,vL af f ai),(3,vL n c.1 r),(4,vI c.2),(5,vI d.1),(6,vI d.2)]) h3 ?_ ?_
     ·intro a hd hs aj;exact ⟨bl,bZ,bo,hd,hs,aZ aj⟩
     ·rintro d r4 q dg a B ⟨u,U,G,hd,hs,aj⟩;refine aM ?_ hd hs aj;refine aW<|aO<|pN 2 [13,14] [(14,vB (decide (d.2≥0)))]<|ab<|al (b:=(decide (d.2≥0))) kr (fun H=>?_) (fun H=>?_)
      ·replace q:=au H q;refine aJ<|aW<|aN<|aO<|pN 3 [5,17,18] [(5,vI (wI (d.1*2)))]<|bV<|ae q ?_;clear q;intro bp l q
       refine aR (J:=fun a C=>Bl i C∧Sz B C∧aL (iE .i64) 3 C (fun _=>False) n r c.1∧Qa a 41 [(0,vL af f ai),(3,vL n c.1 r),(4,vI c.2),(5,vI (wI (d.1*2))),(6,vI d.2),(32,vB bp)]) ?_ ?_
       ·refine pN 7 [19,20,21,22,23,24,25] [(25,vB (decide ((wI (c.2+d.2))<(lz f))))]<|aA (s:=25) (g:=(decide ((wI (c.2+d.2))<(lz f)))) kr (fun I=>?_) (fun I=>?_)
        ·replace l:=au I l;refine pN 4 [26,27,28,29] [(26,vL af f ai),(29,vI (wI (c.2+d.2)))]<|ae l ?_;clear l;intro bs V l;refine dp .i64 1 (aG.below u be) V Tryz.underlying103<|bx 4 (ba af (((wI (c.2+d.2)):Int).toNat*1)) (vB bs) (aS ((aG.below u be).cell V))<|pN 1 [32] [(32,vB bs)]<|ab ?_;obtain rfl:=sj l;refine ad fun a hd hs aj=>?_;exact ⟨u,bZ,G,hd,hs,aZ aj⟩
        ·replace l:=av I l;refine pN 7 [26,27,28,29,30,31,32] [(32,vB false)]<|ab ?_;obtain rfl:=sj l;refine ad fun a hd hs aj=>?_;exact ⟨u,bZ,G,hd,hs,aZ aj⟩
       ·rintro a C ⟨W,b4,Z,hd,hs,aj⟩;refine aM ?_ hd hs aj;have b5:=(nt U b4);refine ae q ?_;clear q;intro bA l q;refine aE (J:=fun a R=>Bl i R∧Sz C R∧aL (iE .i64) 3 R (fun _=>False) n r c.1∧Qa a 41 [(0,vL af f ai),(3,vL n c.1 r),(4,vI c.2),(5,vI bA),(6,vI d.2)]) ?_ ?_
        ·refine al (b:=bp) kr (fun K=>?_) (fun K=>?_)
         ·replace l:=au K l;refine aF<|pN 3 [5,33,34] [(5,vI (wI ((wI (d.1*2))+1)))]<|ae l ?_;clear l;intro ds b6 l;refine cq (s:=5) (v:=(vI (wI ((wI (d.1*2))+1)))) (v':=(vI ds)) kr (congrArg (Value.int .i64) (sj b6))<|ab ?_;obtain rfl:=sj l;refine ad fun a hd hs aj=>?_;exact ⟨W,bZ,Z,hd,hs,aZ aj⟩
         ·replace l:=av K l;refine aJ ?_;obtain rfl:=sj l;refine ad fun a hd hs aj=>?_;exact ⟨W,bZ,Z,hd,hs,aZ aj⟩
        ·rintro a R ⟨b7,b8,b9,hd,hs,aj⟩;refine aM ?_ hd hs aj;have ca:=(nt b5 b8);refine bQ<|aF<|pN 3 [6,15,16] [(6,vI (wI (d.2-1)))]<|ab ?_;obtain rfl:=sj q;refine ad fun a hd hs aj=>?_;exact ⟨(bA,wI (d.2-1)),rfl,b7,ca,b9,hd,hs,aZ aj⟩
      ·replace q:=av H q;refine cd<|cl rfl ?_
       obtain rfl:=sj q;replace h3:=congrArg some (dg _ rfl);obtain rfl:=sj h3;refine ad fun a hd hs aj=>?_;exact ⟨u,U,G,hd,hs,aZ aj⟩
    ·rintro a Q ⟨ah,cb,L,hd,hs,aj⟩;refine aM ?_ hd hs aj;have cc:=(nt bn cb);refine aF<|pN 2 [35,36] [(35,vL n c.1 r),(36,vI w)]<|aQ (fun b=>.slice (ro b) 1 1) #[vI w] 3 kr kr ?_;intro m dw M ch y dC;have N:aL (iE .i64) 3 dw (fun _=>False) (ro m) 1 ([w]:List Int):=bR ch ⟨[vI w],[],rfl,rfl,rfl⟩ (show 1≤maxLen by decide) (fun h=>h);have dD:Lo i (ro m):=loo y ah.size;refine ae p ?_;clear p;intro an ck p;refine ct (iE .i64) (t:=77) (ty:=77) (e:=3) (a:=n) (ax:=(ro m)) (cap:=r) (cx:=1) (xs:=c.1) (ys:=([w]:List Int)) an (X:=(fun _=>False)) (Y:=(fun k=>aI (ro m)=some k)) cW rfl rfl kr kr cQ info3 (L.grown M (fun _ h=>h.elim) nb) (N.rd (Y:=fun k=>aI (ro m)=some k) (fun _ h=>h.elim) (fun g e=>e)) ck (.inr fun _ _ _ _ _ h=>h) (fun _ h=>h.elim) ?_;intro D bE dH a0 cs O;refine ⟨nofun,?_⟩;have a1:=bg ah M nb;have cv:Lo i D:=cC O E a1.size;have cw:Ap n (ro m):=fun g e hx=>nl ((bI y) _ hx) ((fun k (hk:aI n=some k)=>L.lt k hk) g e);have dE:Ap D (ro m):=bF O cw (fun k (hk:aI (ro m)=some k)=>N.lt k hk);have c0:Ap (ro m) n:=fun g e hx=>nl ((bI y) g e) ((fun k (hk:aI n=some k)=>L.lt k hk) _ hx);have dF:Ap (ro m) D:=fun g e h=>cg O (fun h=>((c0) g e) h) (N.lt g e) h;refine pN 1 [3] [(3,vL D an bE)]<|ab<|bQ<|aF<|pN 3 [4,11,12] [(4,vI (wI (c.2+16)))]<|ab ?_;obtain rfl:=sj p;refine ad fun a hd hs aj=>?_;exact ⟨(an,wI (c.2+16)),rfl,D,bE,(bg a1 a0 E),(nt (nt cc M.size) a0.size),cs,cv,hd,hs,aZ aj⟩
   ·replace p:=av F p;refine cd<|cl rfl ?_
    obtain rfl:=sj p;replace h1:=congrArg some (c9 _ rfl);obtain rfl:=sj h1;refine ad fun a hd hs aj=>?_;exact ⟨n,r,bl,bn,bo,E,hd,hs,aZ aj⟩
 ·rintro a T ⟨x,b0,a2,dG,a3,c1,hd,hs,aj⟩;refine aM ?_ hd hs aj;refine aO<|pN 1 [39] [(39,vL x j1 b0)]<|ae z ?_;clear z;intro a4 c2 z;refine ak kr rfl kr enters84 (ref3_trim_ok ao x b0 j1 T (fun k=>aI x=some k) (fun k (hk:aI x=some k)=>a3.lt k hk) (a3.rd (Y:=fun k=>aI x=some k) (fun _ h=>h.elim) (fun g e=>e)) a4 c2) ?_;rintro dI dB ⟨c3,a5,a6,a8,rfl,c4,a9⟩;have c5:∀ k,a8 k→k<dB.heap.size:=fun k hk=>(a9 k hk).1;have c6:∀ k,a8 k→X0 k∨i.heap.size≤k:=fun k hk=>(a9 k hk).2.elim (fun h=>(fun k (hk:aI x=some k)=>Or.inr (c1 k hk)) k h) (fun h=>.inr (Nat.le_trans a2.size h));refine pN 1 [2] [(2,vL a5 a4 a6)]<|ab<|aw ?_
  obtain rfl:=sj z;refine aD (ay [vL a5 a4 a6] rfl ⟨kr,trivial⟩ ?_);exact ⟨ag (bg a2 c3 nb),a5,a6,a8,rfl,c4,cO c5 c6⟩

theorem ref3_Number_ok (ao:Nat) (d:Int) (m:World) (r0:Bool × (List Int)) (x:ref3_Number ao d=some r0):
    Cs 48 [vI d] m (Ret fun v w'=>m.grownBy w' none∧∃ (bj:bS) (br:Nat),∃ (N:Nat→Prop),v=dn [.agg (S78 r0 bj br)]∧Rd (iE .i64) w' N bj br r0.2∧(∀ k,N k→k<w'.heap.size∧((fun _=>False) k∨m.heap.size≤k))):=by
 have a3:Bl m m:=Below.refl _ _;unfold ref3_Number at x;refine aV Tryz.func48 rfl Tryz.ntmps48 kr ?_;refine cj [(0,vI d)]<|aO<|aQ bp #[vB false,vL none ([]:List Int) 0] 79 kr kr ?_
 intro j w2 b7 b8 a8 c2;refine bV<|pN 1 [3] [(3,vL none ([]:List Bool) 0)]<|bV<|pN 3 [4,5,6] [(4,vB (decide (d<0)))]<|cI<|ae x ?_;clear x;intro j7 h1 x
 refine aE (J:=fun a P=>∃ (c:bS) (l:Nat),Bl m P∧Sz w2 P∧aL tE 4 P (fun _=>False) c l j7∧(Lo m c)∧(∀ g,aI c=some g→¬ (· =j) g)∧¬ (fun k=>aI c=some k) j∧bC P j 79 #[vB false,vL none ([]:List Int) 0]∧Qa a 21 [(2,bp j),(3,vL c j7 l),(4,vB (decide (d<0)))]) ?_ ?_
 ·refine aN<|cm (A:=fun (i:Int × (List Bool)) a y=>∃ (c:bS) (l:Nat),Bl m y∧Sz w2 y∧aL tE 4 y (fun _=>False) c l i.2∧(Lo m c)∧(∀ g,aI c=some g→¬ (· =j) g)∧¬ (fun k=>aI c=some k) j∧bC y j 79 #[vB false,vL none ([]:List Int) 0]∧Qa a 21 [(0,vI i.1),(2,bp j),(3,vL c i.2 l),(4,vB (decide (d<0)))]) h1 ?_ ?_
  ·intro a hd hs aj;exact ⟨none,0,(bg a3 b7 nb),bZ,aL.nil tE 4 w2 (fun _=>False),(fun _ h=>by cases h),(fun _ h=>by cases h),(fun h=>by cases h),b8,hd,hs,aZ aj⟩
  ·rintro i r2 r b9 a y ⟨n,Q,D,R,s,E,F,S,T,hd,hs,aj⟩;refine aM ?_ hd hs aj;refine aW<|aO<|pN 2 [7,8] [(8,vB (i.1 !=0))]<|ab<|al (b:=(i.1 !=0)) kr (fun G=>?_) (fun G=>?_)
   ·replace r:=au G r;refine aJ<|aN<|aO<|pN 4 [9,10,11,12] [(9,vL n i.2 Q),(12,vB (((i.1).tmod 2)!=0))]<|aQ (fun b=>.slice (ro b) 1 1) #[vB (((i.1).tmod 2)!=0)] 4 kr kr ?_;intro f ca u bb w ch;have H:aL tE 4 ca (fun _=>False) (ro f) 1 ([((i.1).tmod 2)!=0]:List Bool):=bR bb ⟨[vB (((i.1).tmod 2)!=0)],[],rfl,rfl,rfl⟩ (show 1≤maxLen by decide) (fun h=>h);have ck:Lo m (ro f):=loo w D.size;refine ae r ?_;clear r;intro U bd r;refine ct tE (t:=103) (ty:=103) (e:=4) (a:=n) (ax:=(ro f)) (cap:=Q) (cx:=1) (xs:=i.2) (ys:=([((i.1).tmod 2)!=0]:List Bool)) U (X:=(fun _=>False)) (Y:=(fun k=>aI (ro f)=some k)) cW rfl rfl kr kr Tryz.underlying103 info4 (s.grown u (fun _ h=>h.elim) nb) (H.rd (Y:=fun k=>aI (ro f)=some k) (fun _ h=>h.elim) (fun g e=>e)) bd (.inr fun _ _ _ _ _ h=>h) (fun _ h=>h.elim) ?_;intro o a4 c3 I be p;refine ⟨nofun,?_⟩;have V:=bg D u nb;have bl:Lo m o:=cC p E V.size;have K:=T.grown u nb;have bn:∀ g,aI o=some g→¬ (· =j) g:=bF p F (bc K);have bo:¬ (fun k=>aI o=some k) j:=fun h=>cg p (fun h=>(S) h) (K.lt) h;have bs:Ap n (ro f):=fun g e hx=>nl ((bI w) _ hx) ((fun k (hk:aI n=some k)=>s.lt k hk) g e);have cs:Ap o (ro f):=bF p bs (fun k (hk:aI (ro f)=some k)=>H.lt k hk);have bA:Ap (ro f) n:=fun g e hx=>nl ((bI w) g e) ((fun k (hk:aI n=some k)=>s.lt k hk) _ hx);have cv:Ap (ro f) o:=fun g e h=>cg p (fun h=>((bA) g e) h) (H.lt g e) h;refine pN 1 [3] [(3,vL o U a4)]<|ab<|aF<|pN 3 [0,15,16] [(0,vI (wI ((i.1).tdiv 2)))]<|ab<|bQ ?_
    obtain rfl:=sj r;refine ad fun a hd hs aj=>?_;exact ⟨((wI ((i.1).tdiv 2)),U),rfl,o,a4,(bg V I E),(nt (nt R u.size) I.size),be,bl,bn,bo,(K.grown I F),hd,hs,aZ aj⟩
   ·replace r:=av G r;refine cd<|cl rfl ?_
    obtain rfl:=sj r;replace h1:=congrArg some (b9 _ rfl);obtain rfl:=sj h1;refine ad fun a hd hs aj=>?_;exact ⟨n,Q,D,R,s,E,F,S,T,hd,hs,aZ aj⟩
 ·rintro a P ⟨q,a5,W,cw,Z,bE,c0,b0,ah,hd,hs,aj⟩;refine aM ?_ hd hs aj;refine aO<|pN 2 [17,18] [(17,vB (decide (d<0))),(18,vL q j7 a5)]<|ae x ?_;clear x;intro z b2 x;refine ak kr rfl kr enters69 (ref3_Binary_ok ao q a5 j7 P (fun k=>aI q=some k) (fun k (hk:aI q=some k)=>Z.lt k hk) (Z.rd (Y:=fun k=>aI q=some k) (fun _ h=>h.elim) (fun g e=>e)) z b2) ?_;rintro c4 cb ⟨an,B,C,O,rfl,b3,L⟩;have a0:∀ k,O k→k<cb.heap.size:=fun k hk=>(L k hk).1;have b4:∀ k,O k→(fun _=>False) k∨m.heap.size≤k:=fun k hk=>(L k hk).2.elim (fun h=>(fun k (hk:aI q=some k)=>Or.inr (bE k hk)) k h) (fun h=>.inr (Nat.le_trans W.size h));refine pN 1 [20] [(20,.agg #[vB (decide (d<0)),vL B z C])]<|aq 79 0 (.agg #[vB (decide (d<0)),vL B z C]) #[vB (decide (d<0)),vL B z C] (ah.grown an nb) kr kr kr ?_;intro cc M b5 c1;refine ab<|aw ?_
  obtain rfl:=sj x;refine aD (ay [.agg #[vB (decide (d<0)),vL B z C]] rfl ⟨⟨⟨j,0,none⟩,kr,run_loadVar_row cc j _ 79 _ _ _ b5 Tryz.underlying79 rfl kr⟩,trivial⟩ ?_);have a2:m.heap.size≤j:=cp a8 a3.size;have b6:¬ O j:=fun h=>((L _ h).2.elim (fun h=>(b0) h) (fun h=>nl h (ah.lt)));exact ⟨ag (bg (bg W an nb) M (bN a2)),B,C,O,rfl,(b3.grown M a0 (ac b6)),cO (aP a0 M.size) b4⟩

theorem ref3_Halve_ok (ao:Nat) (af:bS) (ai:Nat) (m:List Int) (p:Int) (u:World) (X0:Nat→Prop) (a0:Lw X0 u) (aG:Rd (iE .i64) u X0 af ai m) (r0:(List Int) × Int) (q:ref3_Halve ao m p=some r0):
    Cs 83 [vL af m ai,vI p] u (Ret fun v w'=>u.grownBy w' none∧∃ (bj:bS) (br:Nat),∃ (K:Nat→Prop),v=dn [vL bj r0.1 br,vI r0.2]∧Rd (iE .i64) w' K bj br r0.1∧(dm K w' X0 u)):=by
 have a1:Bl u u:=Below.refl _ _;unfold ref3_Halve at q;refine aV Tryz.func83 rfl Tryz.ntmps83 kr ?_;refine cj [(0,vL af m ai),(1,vI p)]<|aO<|pN 2 [4,5] []<|bV<|pN 2 [9,10] [(10,vI (lz m))]<|ae q ?_;clear q;intro l1 bs q;refine gv_makeC (f:=(fun n:Int=>Value.int .i64 n)) (hf:=fun _=>rfl) (t:=77) (e:=3) (kl:=.i64) (kc:=.i64) (l:=(lz m)) (c:=(lz m)) (bytes:=8) 0 l1 cW rfl rfl kr kr cQ kr cW bs ?_;intro b3 w4 bE b0 a4 b8;refine ⟨nofun,?_⟩;have b1:Lo u (ro b3):=loo a4 a1.size;refine pN 1 [6] [(6,vL (ro b3) l1 ((lz m)).toNat)]<|bV<|pN 1 [7] [(7,vI 0)]<|cI<|aO<|pN 4 [8,12,13,14] [(8,vI (wI ((lz m)-1)))]<|ae q ?_;clear q;intro b2 a5 q;refine cq (s:=8) (v:=(vI (wI ((lz m)-1)))) (v':=(vI b2)) kr (congrArg (Value.int .i64) (sj a5))<|ab<|ae q ?_;clear q;intro z h1 q
 refine aE (J:=fun a F=>∃ (o:bS) (r:Nat),Bl u F∧Sz w4 F∧aL (iE .i64) 3 F (fun _=>False) o r z.1∧(Lo u o)∧Qa a 38 [(6,vL o z.1 r),(7,vI z.2)]) ?_ ?_
 ·refine aN<|cm (A:=fun (d:(List Int) × Int × Int) a L=>∃ (o:bS) (r:Nat),Bl u L∧Sz w4 L∧aL (iE .i64) 3 L (fun _=>False) o r d.1∧(Lo u o)∧Qa a 38 [(0,vL af m ai),(1,vI p),(6,vL o d.1 r),(7,vI d.2.1),(8,vI d.2.2)]) h1 ?_ ?_
  ·intro a hd hs aj;exact ⟨(ro b3),((lz m)).toNat,(bg a1 bE nb),bZ,b0,b1,hd,hs,aZ aj⟩
  ·rintro d r2 j b4 a L ⟨B,C,E,N,G,H,hd,hs,aj⟩;refine aM ?_ hd hs aj;refine aW<|aO<|pN 2 [15,16] [(16,vB (decide (d.2.2≥0)))]<|ab<|al (b:=(decide (d.2.2≥0))) kr (fun I=>?_) (fun I=>?_)
   ·replace j:=au I j;refine aJ<|aW<|aN<|aO<|pN 4 [19,20,21,22] [(20,vI (wI (d.2.1*65536))),(21,vL af m ai),(22,vI d.2.2)]<|ae j ?_;clear j;intro O P j;refine dp .i64 1 (aG.below E a0) P cQ<|bx 3 (ba af ((d.2.2:Int).toNat*1)) (vI O) (aS ((aG.below E a0).cell P))<|pN 2 [7,25] [(7,vI (wI ((wI (d.2.1*65536))+O)))]<|ae j ?_;clear j;intro w a7 j;refine cq (s:=7) (v:=(vI (wI ((wI (d.2.1*65536))+O)))) (v':=(vI w)) kr (congrArg (Value.int .i64) (sj a7))<|bV<|pN 4 [26,27,28,29] [(26,vL B d.1 C),(27,vI d.2.2),(28,vI w),(29,vI p)]<|ae j ?_;clear j;intro _ hx28 j;refine gv_quo (t:=3) (kk:=.i64) (x:=w) (y:=p) [] nofun rfl rfl rfl kr kr (nz_spec hx28) rfl ?_;refine ae j ?_;clear j;intro b9 a8 j;refine dp .i64 1 (G.rd (Y:=fun k=>aI B=some k) (fun _ h=>h.elim) (fun g e=>e)) a8 cQ ?_;refine ae j ?_;clear j;intro M Q j;refine gv_upd (f:=(fun n:Int=>Value.int .i64 n)) (hf:=fun _=>rfl) (t:=3) (e:=3) (a:=B) (cap:=C) (xs:=d.1) (i:=d.2.2) (wI ((w).tdiv p)) M cW rfl rfl kr rfl kr kr G Q ?_;intro ca R a9 b6;refine ⟨nofun,?_⟩;have ax:length d.1=length M:=by obtain ⟨_,_,e⟩:=upd_spec Q;rw[e,List.length_set]
    refine cq (s:=6) (v:=(vL B d.1 C)) (v':=(vL B M C)) kr (vLc ax)<|ab<|aF<|pN 2 [32,33] [(32,vI w),(33,vI p)]<|ae j ?_;clear j;intro _ hx38 j;refine gv_rem (t:=3) (kk:=.i64) (x:=w) (y:=p) [] nofun rfl rfl rfl kr kr (nz_spec hx38) rfl ?_;refine pN 1 [7] [(7,vI ((w).tmod p))]<|ab<|bQ<|aF<|pN 3 [8,17,18] [(8,vI (wI (d.2.2-1)))]<|ab ?_;obtain rfl:=sj j;refine ad fun a hd hs aj=>?_;exact ⟨(M,(w).tmod p,wI (d.2.2-1)),rfl,B,C,(bg E R H),(nt N R.size),a9,H,hd,hs,aZ aj⟩
   ·replace j:=av I j;refine cd<|cl rfl ?_
    obtain rfl:=sj j;replace h1:=congrArg some (b4 _ rfl);obtain rfl:=sj h1;refine ad fun a hd hs aj=>?_;exact ⟨B,C,E,N,G,H,hd,hs,aZ aj⟩
 ·rintro a F ⟨D,a2,S,b7,T,bb,hd,hs,aj⟩;refine aM ?_ hd hs aj;refine aO<|pN 1 [35] [(35,vL D z.1 a2)]<|ae q ?_;clear q;intro U bd q;refine ak kr rfl kr enters84 (ref3_trim_ok ao D a2 z.1 F (fun k=>aI D=some k) (fun k (hk:aI D=some k)=>T.lt k hk) (T.rd (Y:=fun k=>aI D=some k) (fun _ h=>h.elim) (fun g e=>e)) U bd) ?_;rintro cb b5 ⟨be,V,W,X,rfl,bl,Z⟩;have bn:∀ k,X k→k<b5.heap.size:=fun k hk=>(Z k hk).1;have bo:∀ k,X k→X0 k∨u.heap.size≤k:=fun k hk=>(Z k hk).2.elim (fun h=>(fun k (hk:aI D=some k)=>Or.inr (bb k hk)) k h) (fun h=>.inr (Nat.le_trans S.size h));refine pN 3 [4,5,37] [(4,vL V U W),(5,vI z.2)]<|ab<|aw ?_
  obtain rfl:=sj q;refine aD (ay [vL V U W,vI z.2] rfl ⟨kr,kr,trivial⟩ ?_);exact ⟨ag (bg S be nb),V,W,X,rfl,bl,cO bn bo⟩

theorem ref3_Figures_ok (ao:Nat) (af:bS) (ai:Nat) (bl:List Int) (j:Int) (d:World) (T:Nat→Prop) (ds:Lw T d) (aG:Rd (iE .i64) d T af ai bl) (r0:List Int) (y:ref3_Figures ao bl j=some r0):
    Cs 68 [vL af bl ai,vI j] d (Ret fun v w'=>d.grownBy w' none∧∃ (bj:bS) (br:Nat),v=dn [vL bj r0 br]∧aL (iE .i64) 3 w' (fun _=>False) bj br r0∧(Lo d bj)):=by
 have bE:Bl d d:=Below.refl _ _;unfold ref3_Figures at y;refine aV Tryz.func68 rfl Tryz.ntmps68 kr ?_;refine cj [(0,vL af bl ai),(1,vI j)]<|aO<|pN 1 [4] []<|bV<|pN 1 [5] [(5,vL none ([]:List Int) 0)]<|cI<|ae y ?_;clear y;intro U V y
 refine aE (J:=fun a W=>∃ (i:bS) (q:Nat),Bl d W∧Sz d W∧aL (iE .i64) 3 W (fun _=>False) i q U∧(Lo d i)∧Qa a 37 [(5,vL i U q)]) ?_ ?_
 ·refine aN<|cm (A:=fun (z:(List Int) × (List Int)) a Z=>∃ (bn:bS) (bo:Nat),∃ (x:Nat→Prop),∃ (i:bS) (q:Nat),Bl d Z∧Sz d Z∧Rd (iE .i64) Z x bn bo z.1∧(∀ k,x k→k<Z.heap.size)∧(∀ k,x k→T k∨d.heap.size≤k)∧aL (iE .i64) 3 Z (fun _=>False) i q z.2∧(Lo d i)∧(∀ g,aI i=some g→¬ x g)∧Qa a 37 [(0,vL bn z.1 bo),(1,vI j),(5,vL i z.2 q)]) V ?_ ?_
  ·intro a hd hs aj;exact ⟨af,ai,T,none,0,bE,bZ,aG.below bE ds,(fun k (hk:T k)=>bm (ds k hk) bE.size),(fun k (hk:T k)=>Or.inl hk),aL.nil (iE .i64) 3 d (fun _=>False),(fun _ h=>by cases h),(fun _ h=>by cases h),hd,hs,aZ aj⟩
  ·rintro z r2 c b0 a Z ⟨a7,c8,X7,P,b1,b2,dw,dF,b3,dG,F,ah,b4,hd,hs,aj⟩;refine aM ?_ hd hs aj;refine aW<|aO<|pN 3 [9,10,11] [(11,vB (decide ((lz z.1)>0)))]<|ab<|al (b:=(decide ((lz z.1)>0))) kr (fun an=>?_) (fun an=>?_)
   ·replace c:=au an c;refine aJ<|aN<|aO<|pN 1 [6] []<|bV<|pN 2 [13,14] [(13,vL a7 z.1 c8),(14,vI j)]<|ae c ?_;clear c;intro r dH c;refine ak kr rfl kr enters83 (ref3_Halve_ok ao a7 c8 z.1 j Z X7 b3 dF r dH) ?_;rintro eh dZ ⟨G,dB,dC,Q,rfl,dI,a0⟩;have b5:∀ k,Q k→k<dZ.heap.size:=fun k hk=>(a0 k hk).1;have dJ:∀ k,Q k→T k∨d.heap.size≤k:=fun k hk=>(a0 k hk).2.elim (fun h=>dG k h) (fun h=>.inr (Nat.le_trans b2.size h));refine pN 5 [0,6,12,16,17] [(0,vL dB r.1 dC),(6,vI r.2)]<|ab<|aF<|pN 2 [18,19] [(18,vL P z.2 b1),(19,vI r.2)]<|aQ (fun b=>.slice (ro b) 1 1) #[vI r.2] 3 kr kr ?_;intro n d0 B dK H d8;have a1:aL (iE .i64) 3 d0 (fun _=>False) (ro n) 1 ([r.2]:List Int):=bR dK ⟨[vI r.2],[],rfl,rfl,rfl⟩ (show 1≤maxLen by decide) (fun h=>h);have b6:=bg b2 G nb;have d9:Lo d (ro n):=loo H b6.size;refine ae c ?_;clear c;intro b7 dL c;have b8:=(am G B);refine ct (iE .i64) (t:=55) (ty:=55) (e:=3) (a:=P) (ax:=(ro n)) (cap:=b1) (cx:=1) (xs:=z.2) (ys:=([r.2]:List Int)) b7 (X:=(fun _=>False)) (Y:=(fun k=>aI (ro n)=some k)) cW rfl rfl kr kr bw info3 (F.grown b8 (fun _ h=>h.elim) nb) (a1.rd (Y:=fun k=>aI (ro n)=some k) (fun _ h=>h.elim) (fun g e=>e)) dL (.inr fun _ _ _ _ _ h=>h) (fun _ h=>h.elim) ?_;intro C dD ei I dM D;refine ⟨nofun,?_⟩;have b9:=bg b6 B nb;have dN:Lo d C:=cC D ah b9.size;have ea:∀ g,aI C=some g→¬ X7 g:=bF D b4 (aP b3 b8.size);have ca:∀ g,aI P=some g→¬ Q g:=fun g e h=>((a0 _ h).2.elim (fun h=>(b4) g e h) (fun h=>nl h (F.lt g e)));have a2:=aP b5 B.size;have dO:∀ g,aI C=some g→¬ Q g:=bF D ca a2;have cb:=F.grown G (fun _ h=>h.elim) nb;have dP:Ap P (ro n):=fun g e hx=>nl ((bI H) _ hx) ((fun k (hk:aI P=some k)=>cb.lt k hk) g e);have eb:Ap C (ro n):=bF D dP (fun k (hk:aI (ro n)=some k)=>a1.lt k hk);have dQ:Ap (ro n) P:=fun g e hx=>nl ((bI H) g e) ((fun k (hk:aI P=some k)=>cb.lt k hk) _ hx);have ec:Ap (ro n) C:=fun g e h=>cg D (fun h=>((dQ) g e) h) (a1.lt g e) h;refine pN 1 [5] [(5,vL C b7 dD)]<|ab<|bQ ?_
    obtain rfl:=sj c;refine ad fun a hd hs aj=>?_;exact ⟨(r.1,b7),rfl,dB,dC,Q,C,dD,(bg b9 I ah),(nt (nt (nt dw G.size) B.size) I.size),((dI.grown B b5 nb).grown I a2 ca),(aP a2 I.size),dJ,dM,dN,dO,hd,hs,aZ aj⟩
   ·replace c:=av an c;refine cd<|cl rfl ?_
    obtain rfl:=sj c;replace V:=congrArg some (b0 _ rfl);obtain rfl:=sj V;refine ad fun a hd hs aj=>?_;exact ⟨P,b1,b2,dw,F,ah,hd,hs,aZ aj⟩
 ·rintro a W ⟨m,cc,dR,ed,dS,ee,hd,hs,aj⟩;refine aM ?_ hd hs aj;refine aO<|pN 1 [7] [(7,vL none ([]:List Int) 0)]<|cI<|aO<|pN 4 [8,22,23,24] [(8,vI (wI ((lz U)-1)))]<|ae y ?_;clear y;intro d1 dT y;refine cq (s:=8) (v:=(vI (wI ((lz U)-1)))) (v':=(vI d1)) kr (congrArg (Value.int .i64) (sj dT))<|ab<|ae y ?_;clear y;intro bp V y
  refine aE (J:=fun a bs=>∃ (f:bS) (u:Nat),Bl d bs∧Sz W bs∧aL (iE .i64) 3 bs (fun _=>False) f u bp∧(Lo d f)∧Qa a 37 [(7,vL f bp u)]) ?_ ?_
  ·refine aN<|cm (A:=fun (l:(List Int) × Int) a R=>∃ (f:bS) (u:Nat),Bl d R∧Sz W R∧aL (iE .i64) 3 R (fun _=>False) f u l.1∧(Lo d f)∧(Ap f m)∧(Ap m f)∧aL (iE .i64) 3 R (fun _=>False) m cc U∧Qa a 37 [(5,vL m U cc),(7,vL f l.1 u),(8,vI l.2)]) V ?_ ?_
   ·intro a hd hs aj;exact ⟨none,0,dR,bZ,aL.nil (iE .i64) 3 W (fun _=>False),(fun _ h=>by cases h),(fun _ h=>by cases h),(fun _ _ h=>by cases h),dS,hd,hs,aZ aj⟩
   ·rintro l r2 c b0 a R ⟨E,ch,a3,ck,K,a4,cs,dU,a5,hd,hs,aj⟩;refine aM ?_ hd hs aj;refine aW<|aO<|pN 2 [25,26] [(26,vB (decide (l.2≥0)))]<|ab<|al (b:=(decide (l.2≥0))) kr (fun a6=>?_) (fun a6=>?_)
    ·replace c:=au a6 c;refine aJ<|aW<|aN<|aF<|pN 3 [29,30,31] [(29,vL E l.1 ch),(30,vL m U cc),(31,vI l.2)]<|ae c ?_;clear c;intro S cv c;refine dp .i64 1 (a5.rd (Y:=fun k=>aI m=some k) (fun _ h=>h.elim) (fun g e=>e)) cv bw ?_;refine bx 3 (ba m ((l.2:Int).toNat*1)) (vI S) (aS ((a5.rd (Y:=fun k=>aI m=some k) (fun _ h=>h.elim) (fun g e=>e)).cell cv)) ?_;refine aQ (fun b=>.slice (ro b) 1 1) #[vI S] 3 kr kr ?_;intro o d2 L dV M ef;have a8:aL (iE .i64) 3 d2 (fun _=>False) (ro o) 1 ([S]:List Int):=bR dV ⟨[vI S],[],rfl,rfl,rfl⟩ (show 1≤maxLen by decide) (fun h=>h);have d3:Lo d (ro o):=loo M a3.size;refine ae c ?_;clear c;intro bb c0 c;refine ct (iE .i64) (t:=55) (ty:=55) (e:=3) (a:=E) (ax:=(ro o)) (cap:=ch) (cx:=1) (xs:=l.1) (ys:=([S]:List Int)) bb (X:=(fun _=>False)) (Y:=(fun k=>aI (ro o)=some k)) cW rfl rfl kr kr bw info3 (K.grown L (fun _ h=>h.elim) nb) (a8.rd (Y:=fun k=>aI (ro o)=some k) (fun _ h=>h.elim) (fun g e=>e)) c0 (.inr fun _ _ _ _ _ h=>h) (fun _ h=>h.elim) ?_;intro p cw eg N c1 w;refine ⟨nofun,?_⟩;have bA:=bg a3 L nb;have c2:Lo d p:=cC w a4 bA.size;have O:=a5.grown L (fun _ h=>h.elim) nb;have c3:Ap p m:=bF w cs (fun k (hk:aI m=some k)=>O.lt k hk);have c4:Ap m p:=fun g e h=>cg w (fun h=>((dU) g e) h) (O.lt g e) h;have c5:Ap E (ro o):=fun g e hx=>nl ((bI M) _ hx) ((fun k (hk:aI E=some k)=>K.lt k hk) g e);have d4:Ap p (ro o):=bF w c5 (fun k (hk:aI (ro o)=some k)=>a8.lt k hk);have c6:Ap (ro o) E:=fun g e hx=>nl ((bI M) g e) ((fun k (hk:aI E=some k)=>K.lt k hk) _ hx);have d5:Ap (ro o) p:=fun g e h=>cg w (fun h=>((c6) g e) h) (a8.lt g e) h;refine pN 1 [7] [(7,vL p bb cw)]<|ab<|bQ<|aF<|pN 3 [8,27,28] [(8,vI (wI (l.2-1)))]<|ab ?_;obtain rfl:=sj c;refine ad fun a hd hs aj=>?_;exact ⟨(bb,wI (l.2-1)),rfl,p,cw,(bg bA N a4),(nt (nt ck L.size) N.size),c1,c2,c3,c4,(O.grown N (fun _ h=>h.elim) (cG cs)),hd,hs,aZ aj⟩
    ·replace c:=av a6 c;refine cd<|cl rfl ?_
     obtain rfl:=sj c;replace V:=congrArg some (b0 _ rfl);obtain rfl:=sj V;refine ad fun a hd hs aj=>?_;exact ⟨E,ch,a3,ck,K,a4,hd,hs,aZ aj⟩
  ·rintro a bs ⟨bd,be,c7,d6,c9,dg,hd,hs,aj⟩;refine aM ?_ hd hs aj;refine aO<|pN 2 [4,36] [(4,vL bd bp be)]<|ab<|aw ?_
   obtain rfl:=sj y;refine aD (ay [vL bd bp be] rfl ⟨kr,trivial⟩ ?_);exact ⟨ag c7,bd,be,rfl,c9,dg⟩

theorem ref3_TextOf_ok (ao:Nat) (af:bS) (ai:Nat) (o:Bool × (List Int)) (l:Int) (n:World) (X0:Nat→Prop) (bd:Lw X0 n) (aG:Rd (iE .i64) n X0 af ai o.2) (r0:ByteArray) (f:ref3_TextOf ao o l=some r0):
    Cs 47 [.agg (S78 o af ai),vI l] n (G1 n [vS r0]):=by
 have c1:Bl n n:=Below.refl _ _;unfold ref3_TextOf at f;refine aV Tryz.func47 rfl Tryz.ntmps47 kr ?_;refine cj [(0,.agg (S78 o af ai)),(1,vI l)]<|aO<|aQ bp (S78 o af ai) 79 kr kr ?_
 intro b1 w2 c2 be dw dI;refine pN 1 [4] []<|bV<|pN 1 [9] [(9,.pointer (some ⟨b1,1,none⟩))]<|bx 77 ⟨b1,1,none⟩ (vL af o.2 ai) (aS (be.cell 1 rfl))<|pN 1 [11] [(11,vI l)]<|ae f ?_;clear f;intro q c3 f;have x:=bg c1 c2 nb;refine ak kr rfl kr enters68 (ref3_Figures_ok ao af ai o.2 l w2 X0 (fun k (hk:X0 k)=>bm (bd k hk) x.size) (aG.below x bd) q c3) ?_;rintro dJ c4 ⟨B,c,y,rfl,W,b0⟩;have dB:Lo n c:=fun g e=>Nat.le_trans x.size (b0 g e);refine pN 1 [5] [(5,vL c q y)]<|cI<|aO<|pN 3 [13,14,15] [(15,vB ((lz q)==0))]<|ab<|al (b:=((lz q)==0)) kr (fun K=>?_) (fun K=>?_)
 ·replace f:=au K f;refine aO<|pN 1 [4] [(4,vS (bh [48]))]<|ab<|aw ?_
  obtain rfl:=sj f;refine aD (ay [vS (bh [48])] rfl ⟨kr,trivial⟩ ?_);exact ⟨ag (bg x B nb),rfl⟩
 ·replace f:=av K f;refine aJ<|aO<|pN 1 [6] [(6,vS (bh []))]<|cI<|aO<|pN 1 [16] [(16,bp b1)]<|bx 4 ⟨b1,0,none⟩ (vB o.1) (aS ((be.grown B nb).cell 0 rfl))<|ab<|ae f ?_;clear f;intro Z w f
  refine aE (J:=fun a U=>Bl n U∧Sz c4 U∧aL (iE .i64) 3 U (fun _=>False) c y q∧Qa a 36 [(5,vL c q y),(6,vS Z)]) ?_ ?_
  ·refine al (b:=o.1) kr (fun L=>?_) (fun L=>?_)
   ·replace w:=au L w;refine aF<|pN 1 [6] [(6,vS (bh [45]))]<|ab ?_;obtain rfl:=sj w;refine ad fun a hd hs aj=>?_;exact ⟨(bg x B nb),bZ,W,hd,hs,aZ aj⟩
   ·replace w:=av L w;refine aJ ?_;obtain rfl:=sj w;refine ad fun a hd hs aj=>?_;exact ⟨(bg x B nb),bZ,W,hd,hs,aZ aj⟩
  ·rintro a U ⟨ah,dC,M,hd,hs,aj⟩;refine aM ?_ hd hs aj;refine aO<|pN 1 [18] [(18,vS Z)]<|ae f ?_;clear f;intro c5 b2 f;refine gv_s2bO (src:=9) (dst:=83) (e:=5) (s:=Z) cW rfl rfl kr kr bU ce dr b2 ?_;rintro H bl bn an b3 C dD;refine ⟨nofun,?_⟩;have b4:Lo n (ro H):=loo C ah.size;refine pN 1 [7] [(7,vL (ro H) c5 bl)]<|cI<|aO<|pN 1 [8] [(8,vI 0)]<|ab<|ae f ?_;clear f;intro z w f
   refine aE (J:=fun a V=>∃ (d:bS) (p:Nat),Bl n V∧Sz bn V∧aL bE 5 V (fun _=>False) d p z∧(Lo n d)∧Qa a 36 [(7,vL d z p)]) ?_ ?_
   ·refine aN<|cm (A:=fun (i:(List UInt8) × Int) a I=>∃ (d:bS) (p:Nat),Bl n I∧Sz bn I∧aL bE 5 I (fun _=>False) d p i.1∧(Lo n d)∧(Ap d c)∧(Ap c d)∧aL (iE .i64) 3 I (fun _=>False) c y q∧Qa a 36 [(5,vL c q y),(7,vL d i.1 p),(8,vI i.2)]) w ?_ ?_
    ·intro a hd hs aj;have b5:Ap (ro H) c:=fun g e hx=>nl ((bI C) g e) ((fun k (hk:aI c=some k)=>M.lt k hk) _ hx);have b6:Ap c (ro H):=fun g e hx=>nl ((bI C) _ hx) ((fun k (hk:aI c=some k)=>M.lt k hk) g e);exact ⟨(ro H),bl,(bg ah an nb),bZ,b3,b4,b5,b6,(M.grown an (fun _ h=>h.elim) nb),hd,hs,aZ aj⟩
    ·rintro i r2 j c6 a I ⟨r,a0,N,a1,D,O,a2,b7,P,hd,hs,aj⟩;refine aM ?_ hd hs aj;refine aW<|aO<|pN 4 [20,21,22,23] [(23,vB (decide (i.2<(lz q))))]<|ab<|al (b:=(decide (i.2<(lz q)))) kr (fun Q=>?_) (fun Q=>?_)
     ·replace j:=au Q j;refine aJ<|aW<|aN<|aF<|pN 3 [26,27,28] [(26,vL r i.1 a0),(27,vL c q y),(28,vI i.2)]<|ae j ?_;clear j;intro c7 a3 j;refine dp .i64 1 (P.rd (Y:=fun k=>aI c=some k) (fun _ h=>h.elim) (fun g e=>e)) a3 bw ?_;refine bx 3 (ba c ((i.2:Int).toNat*1)) (vI c7) (aS ((P.rd (Y:=fun k=>aI c=some k) (fun _ h=>h.elim) (fun g e=>e)).cell a3)) ?_;refine ae j ?_;clear j;intro bo b8 j;refine siq .i64 b8 bU<|ae j ?_;clear j;intro bs b9 j;refine aQ (fun b=>.slice (ro b) 1 1) #[vU bo] 5 kr kr ?_;intro m c8 E ca F dE;have R:aL bE 5 c8 (fun _=>False) (ro m) 1 ([bs]:List UInt8):=bR ca ⟨[vU bo],[],rfl,(by simp only[bE,flat,(dt b9)]),rfl⟩ (show 1≤maxLen by decide) (fun h=>h);have dF:Lo n (ro m):=loo F N.size;refine ae j ?_;clear j;intro a4 cb j;refine ct bE (t:=83) (ty:=83) (e:=5) (a:=r) (ax:=(ro m)) (cap:=a0) (cx:=1) (xs:=i.1) (ys:=([bs]:List UInt8)) a4 (X:=(fun _=>False)) (Y:=(fun k=>aI (ro m)=some k)) cW rfl rfl kr kr ce info5 (D.grown E (fun _ h=>h.elim) nb) (R.rd (Y:=fun k=>aI (ro m)=some k) (fun _ h=>h.elim) (fun g e=>e)) cb (.inr fun _ _ _ _ _ h=>h) (fun _ h=>h.elim) ?_;intro u bA dK S cc v;refine ⟨nofun,?_⟩;have a5:=bg N E nb;have ch:Lo n u:=cC v O a5.size;have T:=P.grown E (fun _ h=>h.elim) nb;have ck:Ap u c:=bF v a2 (fun k (hk:aI c=some k)=>T.lt k hk);have cs:Ap c u:=fun g e h=>cg v (fun h=>((b7) g e) h) (T.lt g e) h;have cv:Ap r (ro m):=fun g e hx=>nl ((bI F) _ hx) ((fun k (hk:aI r=some k)=>D.lt k hk) g e);have dG:Ap u (ro m):=bF v cv (fun k (hk:aI (ro m)=some k)=>R.lt k hk);have cw:Ap (ro m) r:=fun g e hx=>nl ((bI F) g e) ((fun k (hk:aI r=some k)=>D.lt k hk) _ hx);have dH:Ap (ro m) u:=fun g e h=>cg v (fun h=>((cw) g e) h) (R.lt g e) h;refine pN 1 [7] [(7,vL u a4 bA)]<|ab<|bQ<|aF<|pN 3 [8,24,25] [(8,vI (wI (i.2+1)))]<|ab ?_;obtain rfl:=sj j;refine ad fun a hd hs aj=>?_;exact ⟨(a4,wI (i.2+1)),rfl,u,bA,(bg a5 S O),(nt (nt a1 E.size) S.size),cc,ch,ck,cs,(T.grown S (fun _ h=>h.elim) (cG a2)),hd,hs,aZ aj⟩
     ·replace j:=av Q j;refine cd<|cl rfl ?_
      obtain rfl:=sj j;replace w:=congrArg some (c6 _ rfl);obtain rfl:=sj w;refine ad fun a hd hs aj=>?_;exact ⟨r,a0,N,a1,D,O,hd,hs,aZ aj⟩
   ·rintro a V ⟨G,a6,a9,c9,bb,dg,hd,hs,aj⟩;refine aM ?_ hd hs aj;refine aO<|pN 1 [34] [(34,vL G z a6)]<|gv_b2s (src:=83) (dst:=9) (e:=5) (xs:=z) (a:=G) (cap:=a6) (X:=(fun k=>aI G=some k)) [] nofun rfl rfl rfl kr kr ce dr bU (aS (bb.rd (Y:=fun k=>aI G=some k) (fun _ h=>h.elim) (fun g e=>e))) rfl ?_;refine pN 1 [4] [(4,vS (bh z))]<|ab<|aw ?_
    obtain rfl:=sj f;refine aD (ay [vS (bh z)] rfl ⟨kr,trivial⟩ ?_);exact ⟨ag a9,rfl⟩

theorem ref4_decimal_ok (ao:Nat) (a:Int) (c:World) (m:ByteArray) (b:ref4_decimal ao a=some m):
    Cs 28 [vI a] c (G1 c [vS m]):=by
 have f:Bl c c:=Below.refl _ _;unfold ref4_decimal at b;refine aV Tryz.func28 rfl Tryz.ntmps28 kr ?_;refine cj [(0,vI a)]<|aO<|pN 1 [2] []<|bV<|pN 1 [3] [(3,vI a)]<|ae b ?_;clear b;intro n o b;refine ak kr rfl kr enters48 (ref3_Number_ok ao a c n o) ?_;rintro x p ⟨q,s,t,g,rfl,r,d⟩;have i:∀ k,g k→k<p.heap.size:=fun k hk=>(d k hk).1;have u:∀ k,g k→(fun _=>False) k∨c.heap.size≤k:=fun k hk=>(d k hk).2.elim (fun h=>h.elim) (fun h=>.inr (Nat.le_trans f.size h));refine ae b ?_;clear b;intro e j b;refine ak kr rfl kr enters47 (ref3_TextOf_ok ao s t n 10 p g i r e j) ?_;rintro v w ⟨l,rfl⟩;refine pN 1 [2] [(2,vS e)]<|ab<|aw ?_
 obtain rfl:=sj b;refine aD (ay [vS e] rfl ⟨kr,trivial⟩ ?_);exact ⟨ag (bg f (am q l) nb),rfl⟩

end Go.Proofs.YtjhfmibjphdanaaGreatDoor
