import Derived.Test.YtjhfmibjphdanaaGreatDoorRows
import Derived.Test.YtjhfmibjphdanaaGreatDoorGh
import Derived.Test.YtjhfmibjphdanaaGreatDoorD
import Derived.Test.YtjhfmibjphdanaaGreatDoorGpc
import Derived.Test.YtjhfmibjphdanaaGreatDoorGal
import Derived.Test.YtjhfmibjphdanaaGreatDoorGso
import Derived.Test.YtjhfmibjphdanaaGreatDoorRc
import Derived.Test.YtjhfmibjphdanaaGreatDoorRd
import Derived.Test.YtjhfmibjphdanaaGreatDoorSx
import Derived.Test.YtjhfmibjphdanaaGreatDoorVs
import Derived.Test.YtjhfmibjphdanaaGreatDoorSt
set_option linter.all false
set_option maxHeartbeats 4000000
set_option maxRecDepth 100000
/- Own work, printed by a program of mine: the walk of each function: a call returns what the plain function says. -/
namespace Go.Proofs.YtjhfmibjphdanaaGreatDoor
open Go.Gv Go.Gv.D Go.RowKit
open Go.Gv renaming grown_step→aa,gv_nil→ab,gv_goal→ac,rowne→ad,grown_of_below→ae,bindE→af,grown_trans→aj,gv_call0→ak,gv_cond→am,ite_t→ap,ite_f→aq,gv_split→au,gv_cret→av,gv_done→aw,rowpp→ay,gv_region→az,gv_ret→aB,gv_store0→aC,Own→aD,gv_cut_code→aE,gv_skip→aF,gv_goA→aG,blk→aH,inw0→aI,gv_block→aJ,gv_in→aM,Cls.refl→aN,gv_new0→aP,lowb→aR,gv_cut_ops→aS,gv_seq→aU,calls_run→aW,cont_inr→aZ,strOf→ba,elemAddr→bb,rowlo→bc,gv_stage→bf,ltx→bk,gv_pre→bu,ltb→bC,gv_sub→bD,Box→bG,gv_stageE→bH,gv_blk→bI,Box.ownE→bM,lowo→bN,gv_cexit→bO,cont_inl→bS,blk_neX→bU,nm_nil→bV,gv_exit→bW,gv_loop→bX,prE→bY,grown_stepO→ce,rowppr→cf,lob→cg,grown_refl→ci,blk_rev→cl,gv_name→co,gv_drawA→cp,inw1→cu,gv_append→cv,blk_step→cG,nmx_nil→cJ,rdnn→de
open Go.Proofs.Tryz renaming prog→aA,underlying27→aT,underlying22→bm,underlying23→bq,underlying9→bL,underlying55→cw,underlying61→cT,underlying3→cX
open List (length)
abbrev bP:=Option Addr
theorem cN {p : Prop} (h : p := by decide) : p := h
abbrev wI (x:Int):Int:=IntKind.i64.wrap x
abbrev wU (x:Int):Int:=IntKind.u64.wrap x
abbrev wT (x:Int):Int:=IntKind.u32.wrap x
abbrev wB (x:Int):Int:=IntKind.u8.wrap x
abbrev wR (x:Int):Int:=IntKind.i32.wrap x
abbrev vI (x:Int):Value:=.int .i64 x
abbrev vW (x:Int):Value:=.int .u64 x
abbrev vT (x:Int):Value:=.int .u32 x
abbrev vU (x:Int):Value:=.int .u8 x
abbrev vR (x:Int):Value:=.int .i32 x
abbrev vB (x:Bool):Value:=.bool x
abbrev vS (x:ByteArray):Value:=.string x
abbrev vL {α:Type} (a:bP) (x:List α) (c:Nat):Value:=.slice a x.length c
abbrev ro (b:Nat):bP:=some ⟨b,0,none⟩
abbrev lz {α:Type} (x:List α):Int:=((x.length:Nat):Int)
abbrev bz (x:ByteArray):Int:=((x.size:Nat):Int)
abbrev Ap (a b:bP):Prop:=∀ g,aH a=some g→¬ (fun k=>aH b=some k) g
abbrev Lo (w:World) (a:bP):Prop:=∀ g,aH a=some g→w.heap.size≤g
abbrev Bl (w w':World):Prop:=Below w.heap.size w w'
abbrev Sz (w w':World):Prop:=w.heap.size≤w'.heap.size
abbrev Qa (a:Act) (n:Nat) (σ:List (Nat × Value)):Prop:=a.defers=[]∧a.tmps.size=n∧Ok σ a.tmps
abbrev bh (x:Int × Int × Int × Bool × Bool × (List (Int × Int)) × (List Pc)) (a0:bP) (c0:Nat) (a1:bP) (c1:Nat):Array Value:= #[vI x.1,vI x.2.1,vI x.2.2.1,vB x.2.2.2.1,vB x.2.2.2.2.1,vL a0 x.2.2.2.2.2.1 c0,vL a1 x.2.2.2.2.2.2 c1]
abbrev cM (x:ByteArray × Int × Int × Bool × Bool):Array Value:= #[vS x.1,vI x.2.1,vI x.2.2.1,vB x.2.2.2.1,vB x.2.2.2.2]
abbrev cm (x:Int × Int):Array Value:= #[vI x.1,vI x.2]
abbrev S78 (x:Bool × (List Int)) (a0:bP) (c0:Nat):Array Value:= #[vB x.1,vL a0 x.2 c0]
theorem xq {X c:Nat→Prop} {a:World} {b:Nat} (hs:∀ k,X k→c k∨a.heap.size≤k) (d:∀ k,c k→k<a.heap.size∧k≠b) (hp:b<a.heap.size):¬ X b:=fun h=>(hs _ h).elim (fun h=>(d _ h).2 rfl) (fun h=>Nat.not_lt_of_le h hp)
theorem rg {α:Type} {E:Enc α} {w w':World} {X:Nat→Prop} {a:bP} {cap b:Nat} {xs:List α} (h:Rd E w X a cap xs) (g:w.grownBy w' (some b)) (c:∀ k,X k→k<w.heap.size∧k≠b):Rd E w' X a cap xs:=h.grown g (fun k hk=>(c k hk).1) (fun g e hk=>by cases e;exact (c _ hk).2 rfl)
theorem jg {a:Nat→Prop} {c w:World} {b:Nat} {r:Option Nat} (d:∀ k,a k→k<c.heap.size∧k≠b) (g:c.grownBy w r):∀ k,a k→k<w.heap.size∧k≠b:=fun k hk=>⟨Nat.lt_of_lt_of_le (d k hk).1 g.size,(d k hk).2⟩
abbrev Sxb (X:Nat→Prop) (w':World) (a:Nat→Prop) (b:World):Prop:=∀ k,X k→k<w'.heap.size∧(a k∨b.heap.size≤k)
theorem dc {X a:Nat→Prop} {w' b:World} (c:∀ k,X k→k<w'.heap.size) (d:∀ k,X k→a k∨b.heap.size≤k):Sxb X w' a b:=fun k hk=>⟨c k hk,d k hk⟩
abbrev cn:Type:=Int × Int × Int × Bool × Bool × (List (Int × Int)) × (List Pc)
abbrev cd:Type:=ByteArray × Int × Int × Bool × Bool
abbrev bx:Type:=Int × Int
abbrev cH:Array Value:= #[vI 0,vI 0,vI 0,vB false,vB false,vL none ([]:List (Int × Int)) 0,vL none ([]:List Pc) 0]
def qB (n:Nat) (all:Array Oper) (σ:List (Nat × Value)) (o:Oper):Bool:=match o.dst with
  | some d=>Nat.blt d n&&((match guardB all σ o with | some true=>true | _=>false)&&(noSel o.op&&known σ o.op.operands.toList))
  | none=>false
theorem qB_spec {n:Nat} {all:Array Oper} {σ:List (Nat × Value)} {o:Oper} (h:qB n all σ o=true):∃ d,o.dst=some d∧Nat.blt d n=true∧guardB all σ o=some true∧(noSel o.op&&known σ o.op.operands.toList)=true:=by
  unfold qB at h
  cases hd:o.dst with
  | none=>rw[hd]at h;cases h
  | some d=>
    rw[hd]at h
    simp only[Bool.and_eq_true]at h
    refine ⟨d,rfl,h.1,?_,by simp only[Bool.and_eq_true];exact h.2.2⟩
    cases hg:guardB all σ o with
    | none=>rw[hg]at h;cases h.2.1
    | some b=>cases b with
      | true=>rfl
      | false=>rw[hg]at h;cases h.2.1
section
variable {P:Program} {R:RR} {n:Nat} {k:List It} {σ:List (Nat × Value)} {w:World} {all:Array Oper} {C:World→Prop} {o:Oper} {m:Mk} {rest:List (Oper × Mk)}
theorem br (t:TypeId) (A:Addr) (v:Value) (hc:∀ w',Inw m C w w'→w'.cell? A=some v) (h:Run P R n (.ops all C rest::k) .normal (putO σ o.dst v) w) (hm:m=some false→C w:=by nofun) (hq:qB n all σ o=true:=by kernel_rfl) (hop:execOp (evr σ) o=(do pure (.value (← Instr.loadAt t (.pointer (some A))))):=by kernel_rfl) (ht:aggB P t=some false:=by kernel_rfl):Run P R n (.ops all C ((o,m)::rest)::k) .normal σ w:=by
  obtain ⟨d,a,b,c,e⟩:=qB_spec hq
  rw[a]at h
  exact gv_load v [] hm a b c e hop ht hc rfl h
theorem laq (t:TypeId) (A:Addr) (cs:Array Value) (hc:∀ w',Inw m C w w'→cellsAt w' A cs.toList) (h:Run P R n (.ops all C rest::k) .normal (putO σ o.dst (.agg cs)) w) (hm:m=some false→C w:=by nofun) (hq:qB n all σ o=true:=by kernel_rfl) (hop:execOp (evr σ) o=(do pure (.value (← Instr.loadAt t (.pointer (some A))))):=by kernel_rfl) (ht:aggB P t=some true:=by kernel_rfl) (hsz:(P.info? t).map (·.size)=some cs.size:=by kernel_rfl):Run P R n (.ops all C ((o,m)::rest)::k) .normal σ w:=by
  obtain ⟨d,a,b,c,e⟩:=qB_spec hq
  rw[a]at h
  exact gv_loadAgg cs [] hm a b c e hop ht hsz hc rfl h
theorem di (t:TypeId) (b:Nat) (cs:Array Value) (hc:∀ w',Inw m C w w'→w'.heap[b]? =some (.cells cs t (0,0))) (h:Run P R n (.ops all C rest::k) .normal (putO σ o.dst (.agg cs)) w) (hm:m=some false→C w:=by nofun) (hq:qB n all σ o=true:=by kernel_rfl) (hop:execOp (evr σ) o=(do pure (.value (← Instr.loadAt t (.pointer (some ⟨b,0,none⟩))))):=by kernel_rfl) (ht:aggB P t=some true:=by kernel_rfl) (hsz:(P.info? t).map (·.size)=some cs.size:=by kernel_rfl):Run P R n (.ops all C ((o,m)::rest)::k) .normal σ w:=by
  obtain ⟨d,a,c,e,f⟩:=qB_spec hq
  rw[a]at h
  exact gv_loadBox cs [] hm a c e f hop ht hsz hc rfl h
theorem dj {α:Type} {E:Enc α} {X:Nat→Prop} {c:World} {t e:TypeId} {a:bP} {cap:Nat} {xs:List α} {x:α} {i:Int} (kk:IntKind) (sz:Nat) (hR:Rd E c X a cap xs) (hx:idx xs i=some x) (ht:P.underlying t=some (.slice e)) (h:Run P R n (.ops all C rest::k) .normal (putO σ o.dst (.pointer (some (bb a (i.toNat*sz))))) w) (hm:m=some false→C w:=by nofun) (hq:qB n all σ o=true:=by kernel_rfl) (hop:execOp (evr σ) o=(do pure (.value (← Instr.indexAt t (.slice a xs.length cap) (.int kk i)))):=by kernel_rfl) (hsz:(P.info? e).map (·.size)=some sz:=by kernel_rfl):Run P R n (.ops all C ((o,m)::rest)::k) .normal σ w:=by
  obtain ⟨d,b,f,g,j⟩:=qB_spec hq
  rw[b]at h
  exact gv_idxaddr [] hm b f g j hop ht hsz (hR.has hx) (idx_spec hx).1 (idx_spec hx).2.1 rfl h
theorem siq {t:TypeId} {s:ByteArray} {i c:Int} (kk:IntKind) (hx:sidx s i=some c) (ht:P.underlying t=some .string) (h:Run P R n (.ops all C rest::k) .normal (putO σ o.dst (.int .u8 c)) w) (hm:m=some false→C w:=by nofun) (hq:qB n all σ o=true:=by kernel_rfl) (hop:execOp (evr σ) o=(do pure (.value (← Instr.index t (.string s) (.int kk i)))):=by kernel_rfl):Run P R n (.ops all C ((o,m)::rest)::k) .normal σ w:=by
  obtain ⟨d,a,b,e,f⟩:=qB_spec hq
  rw[a]at h
  exact gv_sindex c [] hm a b e f hop ht hx rfl h
theorem dd {s u r:ByteArray} (t:TypeId) (hr:cat s u=some r) (h:Run P R n (.ops all C rest::k) .normal (putO σ o.dst (.string r)) w) (hm:m=some false→C w:=by nofun) (hq:qB n all σ o=true:=by kernel_rfl) (hop:execOp (evr σ) o=(do pure (.value (← binOp .add t (.string s) (.string u)))):=by kernel_rfl):Run P R n (.ops all C ((o,m)::rest)::k) .normal σ w:=by
  obtain ⟨d,a,b,c,e⟩:=qB_spec hq
  rw[a]at h
  exact gv_cat r [] hm a b c e hop hr rfl h
theorem aO {id:Nat} {l:List Oper} {y:Code} (h:Run P R n (.ops l.toArray (fun _=>True) (mk0 l):: .code y::k) .normal σ w) (hr:R.r=none:=by rfl):Run P R n (.code (.seq (.region id l.toArray false) y)::k) .normal σ w:=aU (az h hr)
theorem cK {x y:Code} (h:Run P R n (.code x:: .code y::k) .normal σ w):Run P R n (.ops all C []:: .code (.seq x y)::k) .normal σ w:=ab (aU h)
theorem bR {id:Nat} {l:List Oper} {y:Code} (h:Run P R n (.ops l.toArray (fun _=>True) (mk0 l):: .code y::k) .normal σ w) (hr:R.r=none:=by rfl):Run P R n (.ops all C []:: .code (.seq (.region id l.toArray false) y)::k) .normal σ w:=ab (aU (az h hr))
theorem clq {x:Operand} {xs:Array Operand} {tys:Array TypeId} {f:FuncId} {vs:List Value} {S:Value→World→Prop} (hf:Go.Gv.Enters P f) (hc:Calls P f vs.toArray w (Ret S)) (h:∀ v w',S v w'→(m=some false→C w')∧Run P R n (.ops all C rest::k) .normal (putO σ o.dst v) w') (hm:m≠some true:=by decide) (hdn:dstOk n o.dst=true:=by kernel_rfl) (hg:guardB all σ o=some true:=by kernel_rfl) (ho:o.op= .call { callee:=.value x,args:=xs,argTypes:=tys}:=by rfl) (hx:ev σ x=some (.func (.func f) #[] ([]:List Value).toArray):=by kernel_rfl) (hxs:evs σ xs.toList=some vs:=by kernel_rfl):Run P R n (.ops all C ((o,m)::rest)::k) .normal σ w:=
  gv_call (cap:=[]) S hm hdn hg ho hx hxs hf (by rw[List.append_nil];exact hc) h
end
abbrev Lw (X:Nat→Prop) (w:World):Prop:=∀ k,X k→k<w.heap.size
abbrev Cs (f:Nat) (l:List Value) (w:World) (R:Ending→World→Prop):Prop:=Calls aA f l.toArray w R
abbrev G1 (w:World) (r:List Value):Ending→World→Prop:=Ret fun v w'=>w.grownBy w' none∧v=tup r
theorem nl {a b:Nat} (h:a≤b):¬ b<a:=Nat.not_lt_of_le h
theorem sj {α:Type _} {a b:α} (h:some a=some b):a=b:=Option.some.inj h
theorem ng {a b:Nat} (h:b<a):a≠b:=Nat.ne_of_gt h
theorem bj {a b c:Nat} (h:a<b) (h':b≤c):a<c:=Nat.lt_of_lt_of_le h h'
theorem ltt {a b c:Nat} (h:a<b) (h':b<c):a<c:=Nat.lt_trans h h'
section
variable {P:Program} {R:RR} {n:Nat} {k:List It} {σ σ':List (Nat × Value)} {w:World} {all:Array Oper} {C:World→Prop}
theorem pN (c:Nat) (ds:List Nat) (news:List (Nat × Value)) {l:List (Oper × Mk)} (h:Run P R n (.ops all C (drops c l)::k) .normal (nw news ds σ) w) (hp:(match stepsP false P n all c l σ with | some σ1=>picks ((nw news ds σ).map (·.1)) σ1 | none=>none)=some (nw news ds σ):=by kernel_rfl):Run P R n (.ops all C l::k) .normal σ w:=gv_pureN c ds news hp h
theorem okp (ss:List Nat) {t:Array Value} (h:Ok σ t) (hp:picks ss σ=some σ':=by kernel_rfl):Ok σ' t:=ok_pick ss h hp
theorem aX {σ':List (Nat × Value)} {t:Array Value} (h:Ok σ t) (hp:picks (σ'.map (·.1)) σ=some σ':=by kernel_rfl):Ok σ' t:=ok_pick _ h hp
theorem vLc {α:Type} {x y:List α} {a:bP} {c:Nat} (h:x.length=y.length):vL a x c=vL a y c:=by unfold vL;rw[h]
theorem cj (σ':List (Nat × Value)) {e:Exit} (h:Run P R n k e σ' w) (hp:picks (σ'.map (·.1)) σ=some σ':=by kernel_rfl):Run P R n k e σ w:=bD _ hp h
theorem bK {a:Nat}:a≤a:=Nat.le_refl a
theorem kr {p:Prop} (h:p:=by kernel_rfl):p:=h
end
open List (length)
theorem cO {P : Program} {f : FuncId} {fn : Func} (h : P.funcs[f]? = some fn) (a : (fn.name == "runtime.NumGoroutine") = false := by kernel_rfl) (b : fn.body.isNone = false := by kernel_rfl) : Go.Gv.Enters P f := ⟨fn, h, a, b⟩
theorem enters6:Go.Gv.Enters aA 6:=cO Tryz.func6
theorem enters7:Go.Gv.Enters aA 7:=cO Tryz.func7
theorem enters8:Go.Gv.Enters aA 8:=cO Tryz.func8
theorem enters9:Go.Gv.Enters aA 9:=cO Tryz.func9
theorem enters10:Go.Gv.Enters aA 10:=cO Tryz.func10
theorem enters11:Go.Gv.Enters aA 11:=cO Tryz.func11
theorem enters12:Go.Gv.Enters aA 12:=cO Tryz.func12
theorem enters13:Go.Gv.Enters aA 13:=cO Tryz.func13
theorem enters14:Go.Gv.Enters aA 14:=cO Tryz.func14
theorem enters16:Go.Gv.Enters aA 16:=cO Tryz.func16
theorem enters17:Go.Gv.Enters aA 17:=cO Tryz.func17
theorem enters18:Go.Gv.Enters aA 18:=cO Tryz.func18
theorem df:Go.Gv.Enters aA 19:=cO Tryz.func19
theorem enters20:Go.Gv.Enters aA 20:=cO Tryz.func20
theorem enters21:Go.Gv.Enters aA 21:=cO Tryz.func21
theorem db:Go.Gv.Enters aA 22:=cO Tryz.func22
theorem enters23:Go.Gv.Enters aA 23:=cO Tryz.func23
theorem enters25:Go.Gv.Enters aA 25:=cO Tryz.func25
theorem bZ:Go.Gv.Enters aA 26:=cO Tryz.func26
theorem enters27:Go.Gv.Enters aA 27:=cO Tryz.func27
theorem enters28:Go.Gv.Enters aA 28:=cO Tryz.func28
theorem enters31:Go.Gv.Enters aA 31:=cO Tryz.func31
theorem enters32:Go.Gv.Enters aA 32:=cO Tryz.func32
theorem enters33:Go.Gv.Enters aA 33:=cO Tryz.func33
theorem enters34:Go.Gv.Enters aA 34:=cO Tryz.func34
theorem enters35:Go.Gv.Enters aA 35:=cO Tryz.func35
theorem enters36:Go.Gv.Enters aA 36:=cO Tryz.func36
theorem enters37:Go.Gv.Enters aA 37:=cO Tryz.func37
theorem enters38:Go.Gv.Enters aA 38:=cO Tryz.func38
theorem enters39:Go.Gv.Enters aA 39:=cO Tryz.func39
theorem enters40:Go.Gv.Enters aA 40:=cO Tryz.func40
theorem enters42:Go.Gv.Enters aA 42:=cO Tryz.func42
theorem bQ:Go.Gv.Enters aA 43:=cO Tryz.func43
theorem cD:Go.Gv.Enters aA 44:=cO Tryz.func44
theorem enters45:Go.Gv.Enters aA 45:=cO Tryz.func45
theorem enters46:Go.Gv.Enters aA 46:=cO Tryz.func46
theorem enters47:Go.Gv.Enters aA 47:=cO Tryz.func47
theorem enters48:Go.Gv.Enters aA 48:=cO Tryz.func48
theorem enters53:Go.Gv.Enters aA 53:=cO Tryz.func53
theorem enters58:Go.Gv.Enters aA 58:=cO Tryz.func58
theorem enters59:Go.Gv.Enters aA 59:=cO Tryz.func59
theorem enters60:Go.Gv.Enters aA 60:=cO Tryz.func60
theorem enters61:Go.Gv.Enters aA 61:=cO Tryz.func61
theorem enters62:Go.Gv.Enters aA 62:=cO Tryz.func62
theorem enters63:Go.Gv.Enters aA 63:=cO Tryz.func63
theorem enters64:Go.Gv.Enters aA 64:=cO Tryz.func64
theorem enters65:Go.Gv.Enters aA 65:=cO Tryz.func65
theorem enters66:Go.Gv.Enters aA 66:=cO Tryz.func66
theorem enters67:Go.Gv.Enters aA 67:=cO Tryz.func67
theorem enters68:Go.Gv.Enters aA 68:=cO Tryz.func68
theorem enters69:Go.Gv.Enters aA 69:=cO Tryz.func69
theorem enters73:Go.Gv.Enters aA 73:=cO Tryz.func73
theorem enters77:Go.Gv.Enters aA 77:=cO Tryz.func77
theorem enters78:Go.Gv.Enters aA 78:=cO Tryz.func78
theorem enters79:Go.Gv.Enters aA 79:=cO Tryz.func79
theorem enters80:Go.Gv.Enters aA 80:=cO Tryz.func80
theorem enters81:Go.Gv.Enters aA 81:=cO Tryz.func81
theorem enters82:Go.Gv.Enters aA 82:=cO Tryz.func82
theorem enters83:Go.Gv.Enters aA 83:=cO Tryz.func83
theorem enters84:Go.Gv.Enters aA 84:=cO Tryz.func84
theorem c9:Go.Gv.Enters aA 94:=cO Tryz.func94
theorem enters95:Go.Gv.Enters aA 95:=cO Tryz.func95
theorem enters96:Go.Gv.Enters aA 96:=cO Tryz.func96
theorem da:Go.Gv.Enters aA 97:=cO Tryz.func97
theorem enters98:Go.Gv.Enters aA 98:=cO Tryz.func98
theorem enters99:Go.Gv.Enters aA 99:=cO Tryz.func99
theorem enters109:Go.Gv.Enters aA 109:=cO Tryz.func109
theorem enters110:Go.Gv.Enters aA 110:=cO Tryz.func110
theorem enters111:Go.Gv.Enters aA 111:=cO Tryz.func111
theorem enters112:Go.Gv.Enters aA 112:=cO Tryz.func112
theorem enters113:Go.Gv.Enters aA 113:=cO Tryz.func113
theorem enters114:Go.Gv.Enters aA 114:=cO Tryz.func114
theorem enters115:Go.Gv.Enters aA 115:=cO Tryz.func115
theorem enters122:Go.Gv.Enters aA 122:=cO Tryz.func122
theorem native87:Go.Gv.Native aA 87 Extern.BytealgIndexByte.indexByte:=⟨Tryz.f87,Tryz.func87,by kernel_rfl,by kernel_rfl,by kernel_rfl,by kernel_rfl⟩
theorem info3:InfoOk aA 3 1:=infoOk (z:=(.int .i64 0)) (bytes:=8) (by kernel_rfl) (by kernel_rfl) (by kernel_rfl) (by kernel_rfl)
theorem info4:InfoOk aA 4 1:=infoOk (z:=(.bool false)) (bytes:=1) (by kernel_rfl) (by kernel_rfl) (by kernel_rfl) (by kernel_rfl)
theorem info5:InfoOk aA 5 1:=infoOk (z:=(.int .u8 0)) (bytes:=1) (by kernel_rfl) (by kernel_rfl) (by kernel_rfl) (by kernel_rfl)
theorem info9:InfoOk aA 9 1:=infoOk (z:=(.string ⟨#[]⟩)) (bytes:=16) (by kernel_rfl) (by kernel_rfl) (by kernel_rfl) (by kernel_rfl)
theorem info25:InfoOk aA 25 7:=infoOk (z:=(.agg #[.int .i64 0,(.int .i64 0),(.int .i64 0),(.bool false),(.bool false),(.slice none 0 0),(.slice none 0 0)])) (bytes:=80) (by kernel_rfl) (by kernel_rfl) (by kernel_rfl) (by kernel_rfl)
theorem info53:InfoOk aA 53 2:=infoOk (z:=(.agg #[.int .i64 0,(.int .i64 0)])) (bytes:=16) (by kernel_rfl) (by kernel_rfl) (by kernel_rfl) (by kernel_rfl)
theorem eqs27neq (a:Int) (b:Int) (c:Int) (d:Int) (x y:Operand) (w:World):(do eqGuard .neq 27 x y (.agg #[.int .i64 a,.int .i64 b]) (.agg #[.int .i64 c,.int .i64 d]);binOp .neq 27 (.agg #[.int .i64 a,.int .i64 b]) (.agg #[.int .i64 c,.int .i64 d]):Sem Value).run aA w= .ok (.bool (!((a==c)&&(b==d)))) w:=by
  have e:aA.eqGuardType aA.depth 27=false:=by kernel_rfl
  have f:aA.stoodInHeld 27=false:=by kernel_rfl
  have g:aA.underlying 27=some (.struct (aA.fieldsOf 27)):=by kernel_rfl
  have h:=aT
  rw[Sem.run_bind,run_eqGuard_agg w .neq 27 x y _ _ e,Result.andThen_ok,run_neq_struct,run_equalIn_struct w 9999 27 _ _ g f]
  by_cases g0:a=c<;>by_cases g1:b=d<;>simp[Program.fieldsOf,h,Op.eqFields,part,isAgg,run_underlying cX,run_equalIn_int _ _ _ _ _ _ _ cX,g0,g1]
theorem eqs53neq (a:Int) (b:Int) (c:Int) (d:Int) (x y:Operand) (w:World):(do eqGuard .neq 53 x y (.agg #[.int .i64 a,.int .i64 b]) (.agg #[.int .i64 c,.int .i64 d]);binOp .neq 53 (.agg #[.int .i64 a,.int .i64 b]) (.agg #[.int .i64 c,.int .i64 d]):Sem Value).run aA w= .ok (.bool (!((a==c)&&(b==d)))) w:=by
  have e:aA.eqGuardType aA.depth 53=false:=by kernel_rfl
  obtain ⟨i,hi⟩:∃ i,aA.info? 3=some i:=Option.isSome_iff_exists.1 (by kernel_rfl)
  have hc:aA.cellsOf 3=1:=by kernel_rfl
  rw[Sem.run_bind,run_eqGuard_agg w .neq 53 x y _ _ e,Result.andThen_ok,run_neq_struct,run_equalIn_array w 9999 _ _ Tryz.underlying53 hi,hc]
  by_cases g0:a=c<;>by_cases g1:b=d<;>simp[List.range,List.range.loop,Op.eqItems,part,isAgg,run_underlying cX,run_equalIn_int _ _ _ _ _ _ _ cX,g0,g1]

theorem regex_flat_ok (ar:Nat) (ai:bP) (ao:Nat) (h:bP) (i:Nat) (c:cn) (n:World) (X0:Nat→Prop) (b7:Lw X0 n) (aV:Rd (bY (iE .i64) (iE .i64)) n X0 ai ao c.2.2.2.2.2.1) (a8:Rd pcE n X0 h i c.2.2.2.2.2.2) (r0:Bool) (m:regex_flat ar c=some r0):
    Cs 39 [.agg (bh c ai ao h i)] n (G1 n [vB r0]):=by
 have V:Bl n n:=Below.refl _ _;unfold regex_flat at m;refine aW Tryz.func39 rfl Tryz.ntmps39 kr ?_;refine cj [(0,.agg (bh c ai ao h i))]<|aO<|aP bp (bh c ai ao h i) 25 kr kr ?_
 intro d w2 W l b3 b8;refine pN 1 [2] []<|bR<|af m ?_;clear m;intro j7 b m
 refine aS (J:=fun a X=>Bl n X∧Sz w2 X∧bG X d 25 (bh c ai ao h i)∧Qa a 76 [(1,bp d),(3,vB j7)]) ?_ ?_
 ·refine pN 1 [5] [(5,bp d)]<|br 3 ⟨d,0,none⟩ (vI c.1) (aI (l.cell 0 rfl))<|pN 2 [7,8] [(8,vB (c.1==1))]<|au (s:=8) (g:=(c.1==1)) kr (fun Y=>?_) (fun Y=>?_)
  ·replace b:=ap Y b;refine pN 15 [3,9,10,11,12,13,14,15,16,17,18,19,20,21,22] [(3,vB true)]<|ab ?_;obtain rfl:=sj b;refine ac fun a hd hs ag=>?_;exact ⟨(bg V W nb),bK,l,hd,hs,aX ag⟩
  ·replace b:=aq Y b;refine pN 1 [9] [(9,bp d)]<|br 3 ⟨d,0,none⟩ (vI c.1) (aI (l.cell 0 rfl))<|pN 3 [11,12,13] [(13,vB (c.1==7))]<|au (s:=13) (g:=(c.1==7)) kr (fun p=>?_) (fun p=>?_)
   ·replace b:=ap p b;refine pN 10 [3,14,15,16,17,18,19,20,21,22] [(3,vB true)]<|ab ?_;obtain rfl:=sj b;refine ac fun a hd hs ag=>?_;exact ⟨(bg V W nb),bK,l,hd,hs,aX ag⟩
   ·replace b:=aq p b;refine pN 1 [14] [(14,bp d)]<|br 3 ⟨d,0,none⟩ (vI c.1) (aI (l.cell 0 rfl))<|pN 3 [16,17,18] [(18,vB (c.1==10))]<|au (s:=18) (g:=(c.1==10)) kr (fun q=>?_) (fun q=>?_)
    ·replace b:=ap q b;refine pN 5 [3,19,20,21,22] [(3,vB true)]<|ab ?_;obtain rfl:=sj b;refine ac fun a hd hs ag=>?_;exact ⟨(bg V W nb),bK,l,hd,hs,aX ag⟩
    ·replace b:=aq q b;refine pN 1 [19] [(19,bp d)]<|br 3 ⟨d,0,none⟩ (vI c.1) (aI (l.cell 0 rfl))<|pN 3 [3,21,22] [(3,vB (c.1==12))]<|cj [(1,bp d),(3,vB (c.1==12))]<|ab ?_;obtain rfl:=sj b;refine ac fun a hd hs ag=>?_;exact ⟨(bg V W nb),bK,l,hd,hs,aX ag⟩
 ·rintro a X ⟨r,b4,k,hd,hs,ag⟩;refine aM ?_ hd hs ag;refine aO<|af m ?_;clear m;intro j b m
  refine aS (J:=fun a o=>Bl n o∧Sz X o∧bG o d 25 (bh c ai ao h i)∧Qa a 76 [(1,bp d),(3,vB j7),(4,vB j)]) ?_ ?_
  ·refine pN 1 [23] [(23,bp d)]<|br 3 ⟨d,0,none⟩ (vI c.1) (aI (k.cell 0 rfl))<|pN 2 [25,26] [(26,vB (c.1==3))]<|au (s:=26) (g:=(c.1==3)) kr (fun t=>?_) (fun t=>?_)
   ·replace b:=ap t b;refine pN 10 [4,27,28,29,30,31,32,33,34,35] [(4,vB true)]<|ab ?_;obtain rfl:=sj b;refine ac fun a hd hs ag=>?_;exact ⟨r,bK,k,hd,hs,aX ag⟩
   ·replace b:=aq t b;refine pN 1 [27] [(27,bp d)]<|br 3 ⟨d,0,none⟩ (vI c.1) (aI (k.cell 0 rfl))<|pN 3 [29,30,31] [(31,vB (c.1==6))]<|au (s:=31) (g:=(c.1==6)) kr (fun u=>?_) (fun u=>?_)
    ·replace b:=ap u b;refine pN 5 [4,32,33,34,35] [(4,vB true)]<|ab ?_;obtain rfl:=sj b;refine ac fun a hd hs ag=>?_;exact ⟨r,bK,k,hd,hs,aX ag⟩
    ·replace b:=aq u b;refine pN 1 [32] [(32,bp d)]<|br 3 ⟨d,0,none⟩ (vI c.1) (aI (k.cell 0 rfl))<|pN 3 [4,34,35] [(4,vB (c.1==11))]<|ab ?_;obtain rfl:=sj b;refine ac fun a hd hs ag=>?_;exact ⟨r,bK,k,hd,hs,aX ag⟩
  ·rintro a o ⟨f,b5,e,hd,hs,ag⟩;refine aM ?_ hd hs ag;refine aO<|af m ?_;clear m;intro al b m
   refine aS (J:=fun a Z=>Bl n Z∧Sz o Z∧Qa a 76 [(2,vB al)]) ?_ ?_
   ·refine pN 2 [36,37] [(37,vB j7)]<|au (s:=37) (g:=j7) kr (fun w=>?_) (fun w=>?_)
    ·replace b:=ap w b;refine pN 6 [38,39,40,41,42,43] [(42,vB true),(43,bp d)]<|br 3 ⟨d,0,none⟩ (vI c.1) (aI (e.cell 0 rfl))<|pN 2 [45,46] [(46,vB (c.1==10))]<|au (s:=46) (g:=(c.1==10)) kr (fun x=>?_) (fun x=>?_)
     ·replace b:=ap x b;refine pN 13 [47,48,49,50,51,52,53,54,55,56,57,58,59] [(57,vB true),(59,vB j)]<|au (s:=59) (g:=j) kr (fun y=>?_) (fun y=>?_)
      ·replace b:=ap y b;refine pN 7 [60,61,62,63,64,65,66] [(65,vB true),(66,bp d)]<|br 3 ⟨d,0,none⟩ (vI c.1) (aI (e.cell 0 rfl))<|pN 2 [68,69] [(69,vB (c.1==3))]<|au (s:=69) (g:=(c.1==3)) kr (fun z=>?_) (fun z=>?_)
       ·replace b:=ap z b;refine pN 7 [2,70,71,72,73,74,75] [(2,vB true)]<|ab ?_;obtain rfl:=sj b;refine ac fun a hd hs ag=>?_;exact ⟨f,bK,hd,hs,aX ag⟩
       ·replace b:=aq z b;refine pN 1 [70] [(70,.pointer (some ⟨d,5,none⟩))]<|br 22 ⟨d,5,none⟩ (vL ai c.2.2.2.2.2.1 ao) (aI (e.cell 5 rfl))<|pN 5 [2,72,73,74,75] [(2,vB ((lz c.2.2.2.2.2.1)==0))]<|af b ?_;clear b;intro bd ax b;refine co (s:=2) (v:=(vB ((lz c.2.2.2.2.2.1)==0))) (v':=(vB bd)) kr (congrArg (Value.bool) (sj ax))<|ab ?_;obtain rfl:=sj b;refine ac fun a hd hs ag=>?_;exact ⟨f,bK,hd,hs,aX ag⟩
      ·replace b:=aq y b;refine pN 1 [60] [(60,.pointer (some ⟨d,3,none⟩))]<|br 4 ⟨d,3,none⟩ (vB c.2.2.2.1) (aI (e.cell 3 rfl))<|pN 4 [62,63,64,65] [(65,vB (!c.2.2.2.1))]<|au (s:=65) (g:=(!c.2.2.2.1)) kr (fun A=>?_) (fun A=>?_)
       ·replace b:=ap A b;refine pN 1 [66] [(66,bp d)]<|br 3 ⟨d,0,none⟩ (vI c.1) (aI (e.cell 0 rfl))<|pN 2 [68,69] [(69,vB (c.1==3))]<|au (s:=69) (g:=(c.1==3)) kr (fun B=>?_) (fun B=>?_)
        ·replace b:=ap B b;refine pN 7 [2,70,71,72,73,74,75] [(2,vB true)]<|ab ?_;obtain rfl:=sj b;refine ac fun a hd hs ag=>?_;exact ⟨f,bK,hd,hs,aX ag⟩
        ·replace b:=aq B b;refine pN 1 [70] [(70,.pointer (some ⟨d,5,none⟩))]<|br 22 ⟨d,5,none⟩ (vL ai c.2.2.2.2.2.1 ao) (aI (e.cell 5 rfl))<|pN 5 [2,72,73,74,75] [(2,vB ((lz c.2.2.2.2.2.1)==0))]<|cj [(2,vB ((lz c.2.2.2.2.2.1)==0))]<|af b ?_;clear b;intro be a0 b;refine co (s:=2) (v:=(vB ((lz c.2.2.2.2.2.1)==0))) (v':=(vB be)) kr (congrArg (Value.bool) (sj a0))<|ab ?_;obtain rfl:=sj b;refine ac fun a hd hs ag=>?_;exact ⟨f,bK,hd,hs,aX ag⟩
       ·replace b:=aq A b;refine pN 11 [2,66,67,68,69,70,71,72,73,74,75] [(2,vB false)]<|ab ?_;obtain rfl:=sj b;refine ac fun a hd hs ag=>?_;exact ⟨f,bK,hd,hs,aX ag⟩
     ·replace b:=aq x b;refine pN 1 [47] [(47,.pointer (some ⟨d,2,none⟩))]<|br 3 ⟨d,2,none⟩ (vI c.2.2.1) (aI (e.cell 2 rfl))<|pN 2 [49,50] [(50,vB (c.2.2.1==0))]<|au (s:=50) (g:=(c.2.2.1==0)) kr (fun C=>?_) (fun C=>?_)
      ·replace b:=ap C b;refine pN 1 [51] [(51,.pointer (some ⟨d,4,none⟩))]<|br 4 ⟨d,4,none⟩ (vB c.2.2.2.2.1) (aI (e.cell 4 rfl))<|pN 5 [53,54,55,56,57] [(57,vB (!c.2.2.2.2.1))]<|au (s:=57) (g:=(!c.2.2.2.2.1)) kr (fun D=>?_) (fun D=>?_)
       ·replace b:=ap D b;refine pN 2 [58,59] [(59,vB j)]<|au (s:=59) (g:=j) kr (fun E=>?_) (fun E=>?_)
        ·replace b:=ap E b;refine pN 7 [60,61,62,63,64,65,66] [(65,vB true),(66,bp d)]<|br 3 ⟨d,0,none⟩ (vI c.1) (aI (e.cell 0 rfl))<|pN 2 [68,69] [(69,vB (c.1==3))]<|cj [(1,bp d),(65,vB true),(69,vB (c.1==3))]<|au (s:=69) (g:=(c.1==3)) kr (fun F=>?_) (fun F=>?_)
         ·replace b:=ap F b;refine pN 7 [2,70,71,72,73,74,75] [(2,vB true)]<|ab ?_;obtain rfl:=sj b;refine ac fun a hd hs ag=>?_;exact ⟨f,bK,hd,hs,aX ag⟩
         ·replace b:=aq F b;refine pN 1 [70] [(70,.pointer (some ⟨d,5,none⟩))]<|br 22 ⟨d,5,none⟩ (vL ai c.2.2.2.2.2.1 ao) (aI (e.cell 5 rfl))<|pN 5 [2,72,73,74,75] [(2,vB ((lz c.2.2.2.2.2.1)==0))]<|af b ?_;clear b;intro bl a1 b;refine co (s:=2) (v:=(vB ((lz c.2.2.2.2.2.1)==0))) (v':=(vB bl)) kr (congrArg (Value.bool) (sj a1))<|ab ?_;obtain rfl:=sj b;refine ac fun a hd hs ag=>?_;exact ⟨f,bK,hd,hs,aX ag⟩
        ·replace b:=aq E b;refine pN 1 [60] [(60,.pointer (some ⟨d,3,none⟩))]<|br 4 ⟨d,3,none⟩ (vB c.2.2.2.1) (aI (e.cell 3 rfl))<|pN 4 [62,63,64,65] [(65,vB (!c.2.2.2.1))]<|cj [(1,bp d),(65,vB (!c.2.2.2.1))]<|au (s:=65) (g:=(!c.2.2.2.1)) kr (fun G=>?_) (fun G=>?_)
         ·replace b:=ap G b;refine pN 1 [66] [(66,bp d)]<|br 3 ⟨d,0,none⟩ (vI c.1) (aI (e.cell 0 rfl))<|pN 2 [68,69] [(69,vB (c.1==3))]<|au (s:=69) (g:=(c.1==3)) kr (fun H=>?_) (fun H=>?_)
          ·replace b:=ap H b;refine pN 7 [2,70,71,72,73,74,75] [(2,vB true)]<|ab ?_;obtain rfl:=sj b;refine ac fun a hd hs ag=>?_;exact ⟨f,bK,hd,hs,aX ag⟩
          ·replace b:=aq H b;refine pN 1 [70] [(70,.pointer (some ⟨d,5,none⟩))]<|br 22 ⟨d,5,none⟩ (vL ai c.2.2.2.2.2.1 ao) (aI (e.cell 5 rfl))<|pN 5 [2,72,73,74,75] [(2,vB ((lz c.2.2.2.2.2.1)==0))]<|af b ?_;clear b;intro bn a2 b;refine co (s:=2) (v:=(vB ((lz c.2.2.2.2.2.1)==0))) (v':=(vB bn)) kr (congrArg (Value.bool) (sj a2))<|ab ?_;obtain rfl:=sj b;refine ac fun a hd hs ag=>?_;exact ⟨f,bK,hd,hs,aX ag⟩
         ·replace b:=aq G b;refine pN 11 [2,66,67,68,69,70,71,72,73,74,75] [(2,vB false)]<|ab ?_;obtain rfl:=sj b;refine ac fun a hd hs ag=>?_;exact ⟨f,bK,hd,hs,aX ag⟩
       ·replace b:=aq D b;refine pN 19 [2,58,59,60,61,62,63,64,65,66,67,68,69,70,71,72,73,74,75] [(2,vB false)]<|ab ?_;obtain rfl:=sj b;refine ac fun a hd hs ag=>?_;exact ⟨f,bK,hd,hs,aX ag⟩
      ·replace b:=aq C b;refine pN 26 [2,51,52,53,54,55,56,57,58,59,60,61,62,63,64,65,66,67,68,69,70,71,72,73,74,75] [(2,vB false)]<|ab ?_;obtain rfl:=sj b;refine ac fun a hd hs ag=>?_;exact ⟨f,bK,hd,hs,aX ag⟩
    ·replace b:=aq w b;refine pN 1 [38] [(38,.pointer (some ⟨d,1,none⟩))]<|br 3 ⟨d,1,none⟩ (vI c.2.1) (aI (e.cell 1 rfl))<|pN 3 [40,41,42] [(42,vB (c.2.1==0))]<|au (s:=42) (g:=(c.2.1==0)) kr (fun I=>?_) (fun I=>?_)
     ·replace b:=ap I b;refine pN 1 [43] [(43,bp d)]<|br 3 ⟨d,0,none⟩ (vI c.1) (aI (e.cell 0 rfl))<|pN 2 [45,46] [(46,vB (c.1==10))]<|au (s:=46) (g:=(c.1==10)) kr (fun K=>?_) (fun K=>?_)
      ·replace b:=ap K b;refine pN 13 [47,48,49,50,51,52,53,54,55,56,57,58,59] [(57,vB true),(59,vB j)]<|au (s:=59) (g:=j) kr (fun L=>?_) (fun L=>?_)
       ·replace b:=ap L b;refine pN 7 [60,61,62,63,64,65,66] [(65,vB true),(66,bp d)]<|br 3 ⟨d,0,none⟩ (vI c.1) (aI (e.cell 0 rfl))<|pN 2 [68,69] [(69,vB (c.1==3))]<|au (s:=69) (g:=(c.1==3)) kr (fun M=>?_) (fun M=>?_)
        ·replace b:=ap M b;refine pN 7 [2,70,71,72,73,74,75] [(2,vB true)]<|ab ?_;obtain rfl:=sj b;refine ac fun a hd hs ag=>?_;exact ⟨f,bK,hd,hs,aX ag⟩
        ·replace b:=aq M b;refine pN 1 [70] [(70,.pointer (some ⟨d,5,none⟩))]<|br 22 ⟨d,5,none⟩ (vL ai c.2.2.2.2.2.1 ao) (aI (e.cell 5 rfl))<|pN 5 [2,72,73,74,75] [(2,vB ((lz c.2.2.2.2.2.1)==0))]<|cj [(2,vB ((lz c.2.2.2.2.2.1)==0))]<|af b ?_;clear b;intro bs a3 b;refine co (s:=2) (v:=(vB ((lz c.2.2.2.2.2.1)==0))) (v':=(vB bs)) kr (congrArg (Value.bool) (sj a3))<|ab ?_;obtain rfl:=sj b;refine ac fun a hd hs ag=>?_;exact ⟨f,bK,hd,hs,aX ag⟩
       ·replace b:=aq L b;refine pN 1 [60] [(60,.pointer (some ⟨d,3,none⟩))]<|br 4 ⟨d,3,none⟩ (vB c.2.2.2.1) (aI (e.cell 3 rfl))<|pN 4 [62,63,64,65] [(65,vB (!c.2.2.2.1))]<|au (s:=65) (g:=(!c.2.2.2.1)) kr (fun N=>?_) (fun N=>?_)
        ·replace b:=ap N b;refine pN 1 [66] [(66,bp d)]<|br 3 ⟨d,0,none⟩ (vI c.1) (aI (e.cell 0 rfl))<|pN 2 [68,69] [(69,vB (c.1==3))]<|cj [(1,bp d),(65,vB true),(69,vB (c.1==3))]<|au (s:=69) (g:=(c.1==3)) kr (fun O=>?_) (fun O=>?_)
         ·replace b:=ap O b;refine pN 7 [2,70,71,72,73,74,75] [(2,vB true)]<|ab ?_;obtain rfl:=sj b;refine ac fun a hd hs ag=>?_;exact ⟨f,bK,hd,hs,aX ag⟩
         ·replace b:=aq O b;refine pN 1 [70] [(70,.pointer (some ⟨d,5,none⟩))]<|br 22 ⟨d,5,none⟩ (vL ai c.2.2.2.2.2.1 ao) (aI (e.cell 5 rfl))<|pN 5 [2,72,73,74,75] [(2,vB ((lz c.2.2.2.2.2.1)==0))]<|af b ?_;clear b;intro bA a4 b;refine co (s:=2) (v:=(vB ((lz c.2.2.2.2.2.1)==0))) (v':=(vB bA)) kr (congrArg (Value.bool) (sj a4))<|ab ?_;obtain rfl:=sj b;refine ac fun a hd hs ag=>?_;exact ⟨f,bK,hd,hs,aX ag⟩
        ·replace b:=aq N b;refine pN 11 [2,66,67,68,69,70,71,72,73,74,75] [(2,vB false)]<|ab ?_;obtain rfl:=sj b;refine ac fun a hd hs ag=>?_;exact ⟨f,bK,hd,hs,aX ag⟩
      ·replace b:=aq K b;refine pN 1 [47] [(47,.pointer (some ⟨d,2,none⟩))]<|br 3 ⟨d,2,none⟩ (vI c.2.2.1) (aI (e.cell 2 rfl))<|pN 2 [49,50] [(50,vB (c.2.2.1==0))]<|au (s:=50) (g:=(c.2.2.1==0)) kr (fun P=>?_) (fun P=>?_)
       ·replace b:=ap P b;refine pN 1 [51] [(51,.pointer (some ⟨d,4,none⟩))]<|br 4 ⟨d,4,none⟩ (vB c.2.2.2.2.1) (aI (e.cell 4 rfl))<|pN 5 [53,54,55,56,57] [(57,vB (!c.2.2.2.2.1))]<|au (s:=57) (g:=(!c.2.2.2.2.1)) kr (fun Q=>?_) (fun Q=>?_)
        ·replace b:=ap Q b;refine pN 2 [58,59] [(59,vB j)]<|cj [(1,bp d),(57,vB true),(59,vB j)]<|au (s:=59) (g:=j) kr (fun R=>?_) (fun R=>?_)
         ·replace b:=ap R b;refine pN 7 [60,61,62,63,64,65,66] [(65,vB true),(66,bp d)]<|br 3 ⟨d,0,none⟩ (vI c.1) (aI (e.cell 0 rfl))<|pN 2 [68,69] [(69,vB (c.1==3))]<|au (s:=69) (g:=(c.1==3)) kr (fun S=>?_) (fun S=>?_)
          ·replace b:=ap S b;refine pN 7 [2,70,71,72,73,74,75] [(2,vB true)]<|ab ?_;obtain rfl:=sj b;refine ac fun a hd hs ag=>?_;exact ⟨f,bK,hd,hs,aX ag⟩
          ·replace b:=aq S b;refine pN 1 [70] [(70,.pointer (some ⟨d,5,none⟩))]<|br 22 ⟨d,5,none⟩ (vL ai c.2.2.2.2.2.1 ao) (aI (e.cell 5 rfl))<|pN 5 [2,72,73,74,75] [(2,vB ((lz c.2.2.2.2.2.1)==0))]<|af b ?_;clear b;intro bE a5 b;refine co (s:=2) (v:=(vB ((lz c.2.2.2.2.2.1)==0))) (v':=(vB bE)) kr (congrArg (Value.bool) (sj a5))<|ab ?_;obtain rfl:=sj b;refine ac fun a hd hs ag=>?_;exact ⟨f,bK,hd,hs,aX ag⟩
         ·replace b:=aq R b;refine pN 1 [60] [(60,.pointer (some ⟨d,3,none⟩))]<|br 4 ⟨d,3,none⟩ (vB c.2.2.2.1) (aI (e.cell 3 rfl))<|pN 4 [62,63,64,65] [(65,vB (!c.2.2.2.1))]<|au (s:=65) (g:=(!c.2.2.2.1)) kr (fun T=>?_) (fun T=>?_)
          ·replace b:=ap T b;refine pN 1 [66] [(66,bp d)]<|br 3 ⟨d,0,none⟩ (vI c.1) (aI (e.cell 0 rfl))<|pN 2 [68,69] [(69,vB (c.1==3))]<|au (s:=69) (g:=(c.1==3)) kr (fun U=>?_) (fun U=>?_)
           ·replace b:=ap U b;refine pN 7 [2,70,71,72,73,74,75] [(2,vB true)]<|ab ?_;obtain rfl:=sj b;refine ac fun a hd hs ag=>?_;exact ⟨f,bK,hd,hs,aX ag⟩
           ·replace b:=aq U b;refine pN 1 [70] [(70,.pointer (some ⟨d,5,none⟩))]<|br 22 ⟨d,5,none⟩ (vL ai c.2.2.2.2.2.1 ao) (aI (e.cell 5 rfl))<|pN 5 [2,72,73,74,75] [(2,vB ((lz c.2.2.2.2.2.1)==0))]<|af b ?_;clear b;intro b0 a6 b;refine co (s:=2) (v:=(vB ((lz c.2.2.2.2.2.1)==0))) (v':=(vB b0)) kr (congrArg (Value.bool) (sj a6))<|ab ?_;obtain rfl:=sj b;refine ac fun a hd hs ag=>?_;exact ⟨f,bK,hd,hs,aX ag⟩
          ·replace b:=aq T b;refine pN 11 [2,66,67,68,69,70,71,72,73,74,75] [(2,vB false)]<|ab ?_;obtain rfl:=sj b;refine ac fun a hd hs ag=>?_;exact ⟨f,bK,hd,hs,aX ag⟩
        ·replace b:=aq Q b;refine pN 19 [2,58,59,60,61,62,63,64,65,66,67,68,69,70,71,72,73,74,75] [(2,vB false)]<|cj [(2,vB false)]<|ab ?_;obtain rfl:=sj b;refine ac fun a hd hs ag=>?_;exact ⟨f,bK,hd,hs,aX ag⟩
       ·replace b:=aq P b;refine pN 26 [2,51,52,53,54,55,56,57,58,59,60,61,62,63,64,65,66,67,68,69,70,71,72,73,74,75] [(2,vB false)]<|ab ?_;obtain rfl:=sj b;refine ac fun a hd hs ag=>?_;exact ⟨f,bK,hd,hs,aX ag⟩
     ·replace b:=aq I b;refine pN 34 [2,43,44,45,46,47,48,49,50,51,52,53,54,55,56,57,58,59,60,61,62,63,64,65,66,67,68,69,70,71,72,73,74,75] [(2,vB false)]<|ab ?_;obtain rfl:=sj b;refine ac fun a hd hs ag=>?_;exact ⟨f,bK,hd,hs,aX ag⟩
   ·rintro a Z ⟨a7,b6,hd,hs,ag⟩;refine aM ?_ hd hs ag;refine av ?_;obtain rfl:=sj m;refine aB (aw [vB al] rfl ⟨kr,trivial⟩ ?_);exact ⟨ae a7,rfl⟩

theorem utf8_ValidRune_ok (ar:Nat) (c:Int) (f:World) (p:Bool) (d:utf8_ValidRune ar c=some p):
    Cs 79 [vR c] f (G1 f [vB p]):=by
 have h:Bl f f:=Below.refl _ _;unfold utf8_ValidRune at d;refine aW Tryz.func79 rfl Tryz.ntmps79 kr ?_;refine cj [(0,vR c)]<|aO<|pN 1 [2] []<|cK<|aJ<|aO<|aS (J:=fun a q=>f=q∧Qa a 17 [(0,vR c),(3,vB ((decide (0≤c))&&(decide (c<55296))))]) ?_ ?_
 ·refine pN 3 [4,5,6] [(6,vB (decide (0≤c)))]<|au (s:=6) (g:=(decide (0≤c))) kr (fun i=>?_) (fun i=>?_)
  ·refine pN 4 [3,7,8,9] [(3,vB (decide (c<55296)))]<|ab<|bD [0,3] (σ':=[(0,vR c),(3,vB (decide (c<55296)))]) kr<|ac fun a hd hs ag=>⟨rfl,hd,hs,?_⟩;obtain ⟨n,o,_⟩:=ag;exact ⟨n,(by rw[i];exact o),trivial⟩
  ·refine pN 4 [3,7,8,9] [(3,vB false)]<|ab<|bD [0,3] (σ':=[(0,vR c),(3,vB false)]) kr<|ac fun a hd hs ag=>⟨rfl,hd,hs,?_⟩;obtain ⟨n,o,_⟩:=ag;exact ⟨n,(by rw[i];exact o),trivial⟩
 ·rintro a q ⟨e,hd,hs,ag⟩;subst e;refine aM ?_ hd hs ag;refine am (b:=((decide (0≤c))&&(decide (c<55296)))) kr (fun j=>?_) (fun j=>?_)
  ·replace d:=ap j d;refine aO<|pN 1 [2] [(2,vB true)]<|ab<|av ?_
   obtain rfl:=sj d;refine aB (aw [vB true] rfl ⟨kr,trivial⟩ ?_);exact ⟨ae h,rfl⟩
  ·replace d:=aq j d;refine aO<|aS (J:=fun a r=>f=r∧Qa a 17 [(10,vB ((decide (57343<c))&&(decide (c≤1114111))))]) ?_ ?_
   ·refine pN 3 [11,12,13] [(13,vB (decide (57343<c)))]<|au (s:=13) (g:=(decide (57343<c))) kr (fun k=>?_) (fun k=>?_)
    ·refine pN 4 [10,14,15,16] [(10,vB (decide (c≤1114111)))]<|ab<|bD [10] (σ':=[(10,vB (decide (c≤1114111)))]) kr<|ac fun a hd hs ag=>⟨rfl,hd,hs,?_⟩;obtain ⟨l,_⟩:=ag;exact ⟨(by rw[k];exact l),trivial⟩
    ·refine pN 4 [10,14,15,16] [(10,vB false)]<|ab<|bD [10] (σ':=[(10,vB false)]) kr<|ac fun a hd hs ag=>⟨rfl,hd,hs,?_⟩;obtain ⟨l,_⟩:=ag;exact ⟨(by rw[k];exact l),trivial⟩
   ·rintro a r ⟨e,hd,hs,ag⟩;subst e;refine aM ?_ hd hs ag;refine am (b:=((decide (57343<c))&&(decide (c≤1114111)))) kr (fun m=>?_) (fun m=>?_)
    ·replace d:=ap m d;refine aO<|pN 1 [2] [(2,vB true)]<|ab<|av ?_
     obtain rfl:=sj d;refine aB (aw [vB true] rfl ⟨kr,trivial⟩ ?_);exact ⟨ae h,rfl⟩
    ·replace d:=aq m d;refine aF<|bI<|aO<|pN 1 [2] [(2,vB false)]<|ab<|av ?_
     obtain rfl:=sj d;refine aB (aw [vB false] rfl ⟨kr,trivial⟩ ?_);exact ⟨ae h,rfl⟩

theorem regex_scalar_ok (ar:Nat) (b:Int) (d:World) (m:Bool) (e:regex_scalar ar b=some m):
    Cs 62 [vI b] d (G1 d [vB m]):=by
 have f:Bl d d:=Below.refl _ _;unfold regex_scalar at e;refine aW Tryz.func62 rfl Tryz.ntmps62 kr ?_;refine cj [(0,vI b)]<|aO<|pN 1 [2] []<|bR<|af e ?_;clear e;intro n c e
 refine aS (J:=fun a k=>Bl d k∧Sz d k∧Qa a 14 [(2,vB n)]) ?_ ?_
 ·refine pN 3 [3,4,5] [(5,vB (decide (b≥0)))]<|au (s:=5) (g:=(decide (b≥0))) kr (fun h=>?_) (fun h=>?_)
  ·replace c:=ap h c;refine pN 4 [6,7,8,9] [(9,vB (decide (b≤1114111)))]<|au (s:=9) (g:=(decide (b≤1114111))) kr (fun i=>?_) (fun i=>?_)
   ·replace c:=ap i c;refine pN 2 [10,11] [(11,vR (wR (b)))]<|af c ?_;clear c;intro o p c;refine ak kr rfl kr enters79 (utf8_ValidRune_ok ar (wR (b)) d o p) ?_;rintro r t ⟨j,rfl⟩;refine pN 2 [2,13] [(2,vB o)]<|ab ?_;obtain rfl:=sj c;refine ac fun a hd hs ag=>?_;exact ⟨(bg f j nb),j.size,hd,hs,aX ag⟩
   ·replace c:=aq i c;refine pN 5 [2,10,11,12,13] [(2,vB false)]<|ab ?_;obtain rfl:=sj c;refine ac fun a hd hs ag=>?_;exact ⟨f,bK,hd,hs,aX ag⟩
  ·replace c:=aq h c;refine pN 9 [2,6,7,8,9,10,11,12,13] [(2,vB false)]<|ab ?_;obtain rfl:=sj c;refine ac fun a hd hs ag=>?_;exact ⟨f,bK,hd,hs,aX ag⟩
 ·rintro a k ⟨l,q,hd,hs,ag⟩;refine aM ?_ hd hs ag;refine av ?_;obtain rfl:=sj e;refine aB (aw [vB n] rfl ⟨kr,trivial⟩ ?_);exact ⟨ae l,rfl⟩

theorem regex_ordered_ok (ar:Nat) (ai:bP) (ao:Nat) (c:List bx) (p:World) (X0:Nat→Prop) (z:Lw X0 p) (aV:Rd (bY (iE .i64) (iE .i64)) p X0 ai ao c) (r0:Bool) (u:regex_ordered ar c=some r0):
    Cs 63 [vL ai c ao] p (G1 p [vB r0]):=by
 have bn:Bl p p:=Below.refl _ _;unfold regex_ordered at u;refine aW Tryz.func63 rfl Tryz.ntmps63 kr ?_;refine cj [(0,vL ai c ao)]<|aO<|pN 1 [2] []<|cK<|aO<|pN 3 [5,6,7] [(5,vL ai c ao),(6,vI (lz c)),(7,vI 0)]<|ab<|af u ?_;clear u;intro j1 I u
 refine aE (J:=fun a w3=>∃ s2:Unit,j1= .inl s2∧Bl p w3∧Sz p w3∧Qa a 49 [(0,vL ai c ao)]) ?_ ?_
 ·refine aJ<|bX (A:=fun (l:Int) a U=>Bl p U∧Sz p U∧Qa a 49 [(0,vL ai c ao),(5,vL ai c ao),(6,vI (lz c)),(7,vI l)]) I ?_ ?_
  ·intro a hd hs ag;exact ⟨bn,bK,hd,hs,aX ag⟩
  ·rintro l r2 o ah a U ⟨j,al,hd,hs,ag⟩;refine aM ?_ hd hs ag;refine aO<|pN 1 [8] [(8,vB (decide (l<(lz c))))]<|cK<|am (b:=(decide (l<(lz c)))) kr (fun K=>?_) (fun K=>?_)
   ·replace o:=ap K o;refine aF<|aU<|aJ<|aO<|pN 1 [9] [(9,vI l)]<|af o ?_;clear o;intro q L o;refine dj .i64 2 (aV.below j z) L bm ?_;obtain ⟨_,⟨_,_,rfl,rfl,rfl⟩,a2⟩:=aV.cellsK L;refine laq 53 (bb ai ((l:Int).toNat*2)) (cm q) (aI (a2 U (fun k hk=>j.block k (z k hk)))) ?_;refine aP bp #[vI 0,vI 0] 53 kr kr ?_;intro f cs w a3 r b1;refine pN 1 [3] [(3,vI l)]<|aC 53 0 (.agg (cm q)) (cm q) a3 kr kr kr ?_;intro bE x a4 b2;refine cK<|af o ?_;clear o;intro an d o
    refine aE (J:=fun a M=>Bl p M∧Sz bE M∧Qa a 49 [(0,vL ai c ao),(5,vL ai c ao),(6,vI (lz c)),(7,vI l),(44,vB an)]) ?_ ?_
    ·refine cp kr ?_;intro N h;refine bu [0] (bA 33 [0]) 32 kr kr<|pN 1 [12] [(12,bp f)]<|ab<|aG<|bf (Cls N []) [1] [(1,some true)] (bA 33 [0,1]) 31 kr kr (aN _ _) ?_;have b3:=aN N [];have O:=a4.grown h nb;refine br 3 ⟨f,0,none⟩ (vI q.1) (cu fun w' hC'=>((hC'.box O bV).cell 0 rfl)) ?_;refine ab<|aG<|bf (fun _=>True) [2] [(2,some false)] (bA 33 [0,1,2]) 30 kr kr trivial ?_;refine af d ?_;clear d;intro P a5 d;refine clq enters62 (regex_scalar_ok ar q.1 N P a5) ?_;rintro cx t ⟨i,rfl⟩;refine ⟨(fun _=>trivial),?_⟩;refine ab<|aG<|bu [3,4,5] (bA 33 [0,1,2,3,4,5]) 27 kr kr<|pN 2 [15,16] [(16,vB (!P))]<|au (s:=16) (g:=(!P)) kr (fun B=>?_) (fun B=>?_)
     ·replace d:=ap B d;refine pN 1 [17] [(17,undef)]<|ab<|aG<|bf (Cls t []) [6] [(6,some true)] (bA 33 [0,1,2,3,4,5,6]) 26 kr kr (aN _ _) ?_;have b4:=aN t [];refine pN 1 [18] [(18,undef)]<|ab<|aG<|bf (fun _=>True) [7] [(7,some false)] (bA 33 [0,1,2,3,4,5,6,7]) 25 kr kr trivial ?_;refine gv_pureNC trivial 1 [19] [(19,undef)] kr<|cj [(0,vL ai c ao),(3,vI l),(4,bp f),(5,vL ai c ao),(6,vI (lz c)),(7,vI l),(16,vB true),(19,undef)]<|ab<|aG<|bu [8,9,10,11,13] (bA 33 [0,1,2,3,4,5,6,7,8,9,10,11,13]) 20 kr kr<|pN 5 [20,21,22,23,25] [(22,vB true),(23,undef),(25,undef)]<|ab<|aG<|bf (Cls t []) [12,14] [(12,some true),(14,some true)] (bA 33 [0,1,2,3,4,5,6,7,8,9,10,11,12,13,14]) 18 kr kr (aN _ _) ?_;have b5:=aN t [];refine pN 2 [24,26] [(24,undef),(26,undef)]<|ab<|aG<|bu [15,16,17,18,19,20,21,23,24,25,26,27] (bA 33 [0,1,2,3,4,5,6,7,8,9,10,11,12,13,14,15,16,17,18,19,20,21,23,24,25,26,27]) 6 kr kr<|pN 12 [27,28,29,30,31,32,33,35,36,37,38,39] [(29,vB true),(32,undef),(33,undef),(39,undef)]<|ab<|aG<|bf (Cls t []) [22,28,29] [(22,some true),(28,some true),(29,some true)] (bA 33 [0,1,2,3,4,5,6,7,8,9,10,11,12,13,14,15,16,17,18,19,20,21,22,23,24,25,26,27,28,29]) 3 kr kr (aN _ _) ?_;have b6:=aN t [];refine pN 3 [34,40,41] [(34,undef),(41,undef)]<|ab<|aG<|bu [30,31,32] (bA 33 [0,1,2,3,4,5,6,7,8,9,10,11,12,13,14,15,16,17,18,19,20,21,22,23,24,25,26,27,28,29,30,31,32]) 0 kr kr<|pN 3 [42,43,44] [(44,vB true)]<|ab<|aG<|bH kr ?_;obtain rfl:=sj d;refine ac fun a hd hs ag=>?_;have V:p.heap.size≤f:=cg r j.size;exact ⟨(bg (bg (bg j w nb) x (bc V)) (aj h i) nb),(nt h.size i.size),hd,hs,aX ag⟩
     ·replace d:=aq B d;refine pN 1 [17] [(17,.pointer (some ⟨f,1,none⟩))]<|ab<|aG<|bf (Cls t []) [6] [(6,some true)] (bA 33 [0,1,2,3,4,5,6]) 26 kr kr (aN _ _) ?_;have b7:=aN t [];have Q:=O.grown i nb;refine br 3 ⟨f,1,none⟩ (vI q.2) (cu fun w' hC'=>((hC'.box Q bV).cell 1 rfl)) ?_;refine ab<|aG<|bf (fun _=>True) [7] [(7,some false)] (bA 33 [0,1,2,3,4,5,6,7]) 25 kr kr trivial ?_;refine af d ?_;clear d;intro H a6 d;refine clq enters62 (regex_scalar_ok ar q.2 t H a6) ?_;rintro c0 n ⟨m,rfl⟩;refine ⟨(fun _=>trivial),?_⟩;refine ab<|aG<|bu [8,9,10,11,13] (bA 33 [0,1,2,3,4,5,6,7,8,9,10,11,13]) 20 kr kr<|pN 3 [20,21,22] [(22,vB (!H))]<|cj [(0,vL ai c ao),(3,vI l),(4,bp f),(5,vL ai c ao),(6,vI (lz c)),(7,vI l),(22,vB (!H))]<|au (s:=22) (g:=(!H)) kr (fun C=>?_) (fun C=>?_)
      ·replace d:=ap C d;refine pN 2 [23,25] [(23,undef),(25,undef)]<|ab<|aG<|bf (Cls n []) [12,14] [(12,some true),(14,some true)] (bA 33 [0,1,2,3,4,5,6,7,8,9,10,11,12,13,14]) 18 kr kr (aN _ _) ?_;have b8:=aN n [];refine pN 2 [24,26] [(24,undef),(26,undef)]<|ab<|aG<|bu [15,16,17,18,19,20,21,23,24,25,26,27] (bA 33 [0,1,2,3,4,5,6,7,8,9,10,11,12,13,14,15,16,17,18,19,20,21,23,24,25,26,27]) 6 kr kr<|pN 12 [27,28,29,30,31,32,33,35,36,37,38,39] [(29,vB true),(32,undef),(33,undef),(39,undef)]<|ab<|aG<|bf (Cls n []) [22,28,29] [(22,some true),(28,some true),(29,some true)] (bA 33 [0,1,2,3,4,5,6,7,8,9,10,11,12,13,14,15,16,17,18,19,20,21,22,23,24,25,26,27,28,29]) 3 kr kr (aN _ _) ?_;have b9:=aN n [];refine pN 3 [34,40,41] [(34,undef),(41,undef)]<|ab<|aG<|bu [30,31,32] (bA 33 [0,1,2,3,4,5,6,7,8,9,10,11,12,13,14,15,16,17,18,19,20,21,22,23,24,25,26,27,28,29,30,31,32]) 0 kr kr<|pN 3 [42,43,44] [(44,vB true)]<|ab<|aG<|bH kr ?_;obtain rfl:=sj d;refine ac fun a hd hs ag=>?_;have W:p.heap.size≤f:=cg r j.size;exact ⟨(bg (bg (bg j w nb) x (bc W)) (aj (aj h i) m) nb),(nt (nt h.size i.size) m.size),hd,hs,aX ag⟩
      ·replace d:=aq C d;refine pN 2 [23,25] [(23,bp f),(25,.pointer (some ⟨f,1,none⟩))]<|ab<|aG<|bf (Cls n []) [12,14] [(12,some true),(14,some true)] (bA 33 [0,1,2,3,4,5,6,7,8,9,10,11,12,13,14]) 18 kr kr (aN _ _) ?_;have ca:=aN n [];have D:=Q.grown m nb;refine br 3 ⟨f,0,none⟩ (vI q.1) (cu fun w' hC'=>((hC'.box D bV).cell 0 rfl)) ?_;refine br 3 ⟨f,1,none⟩ (vI q.2) (cu fun w' hC'=>((hC'.box D bV).cell 1 rfl)) ?_;refine ab<|aG<|bu [15,16,17,18,19,20,21,23,24,25,26,27] (bA 33 [0,1,2,3,4,5,6,7,8,9,10,11,12,13,14,15,16,17,18,19,20,21,23,24,25,26,27]) 6 kr kr<|pN 3 [27,28,29] [(29,vB (decide (q.1>q.2)))]<|au (s:=29) (g:=(decide (q.1>q.2))) kr (fun E=>?_) (fun E=>?_)
       ·replace d:=ap E d;refine pN 9 [30,31,32,33,35,36,37,38,39] [(32,undef),(33,undef),(39,undef)]<|ab<|aG<|bf (Cls n []) [22,28,29] [(22,some true),(28,some true),(29,some true)] (bA 33 [0,1,2,3,4,5,6,7,8,9,10,11,12,13,14,15,16,17,18,19,20,21,22,23,24,25,26,27,28,29]) 3 kr kr (aN _ _) ?_;have cb:=aN n [];refine pN 3 [34,40,41] [(34,undef),(41,undef)]<|ab<|aG<|bu [30,31,32] (bA 33 [0,1,2,3,4,5,6,7,8,9,10,11,12,13,14,15,16,17,18,19,20,21,22,23,24,25,26,27,28,29,30,31,32]) 0 kr kr<|pN 3 [42,43,44] [(44,vB true)]<|ab<|aG<|bH kr ?_;obtain rfl:=sj d;refine ac fun a hd hs ag=>?_;have X:p.heap.size≤f:=cg r j.size;exact ⟨(bg (bg (bg j w nb) x (bc X)) (aj (aj h i) m) nb),(nt (nt h.size i.size) m.size),hd,hs,aX ag⟩
       ·replace d:=aq E d;refine pN 3 [30,31,32] [(32,vB (decide (l>0)))]<|au (s:=32) (g:=(decide (l>0))) kr (fun F=>?_) (fun F=>?_)
        ·replace d:=ap F d;refine pN 4 [33,35,36,37] [(33,bp f),(35,vL ai c ao),(37,vI (wI (l-1)))]<|af d ?_;clear d;intro R S d;have Y:p.heap.size≤f:=cg r j.size;have y:=bg (bg (bg j w nb) x (bc Y)) (aj (aj h i) m) nb;refine dj .i64 2 (aV.below y z) S bm<|pN 1 [39] [(39,.pointer (some (Addr.add (bb ai (((wI (l-1)):Int).toNat*2)) 1)))]<|ab<|aG<|bf (Cls n []) [22,28,29] [(22,some true),(28,some true),(29,some true)] (bA 33 [0,1,2,3,4,5,6,7,8,9,10,11,12,13,14,15,16,17,18,19,20,21,22,23,24,25,26,27,28,29]) 3 kr kr (aN _ _) ?_;have cc:=aN n [];refine br 3 ⟨f,0,none⟩ (vI q.1) (cu fun w' hC'=>((hC'.box D bV).cell 0 rfl)) ?_;obtain ⟨_,⟨_,_,rfl,rfl,rfl⟩,a7⟩:=aV.cellsK S;refine br 3 (Addr.add (bb ai (((wI (l-1)):Int).toNat*2)) 1) (vI R.2) (cu fun w' hC'=>((a7 w' (fun k hk=>(hC'.2 k ((fun k (hk:X0 k)=>bj (z k hk) y.size) k hk) (fun hg=>cJ k hg hk)).trans (y.block k (z k hk)))) 1 _ rfl)) ?_;refine pN 1 [41] [(41,vI (wI (R.2+1)))]<|ab<|aG<|bu [30,31,32] (bA 33 [0,1,2,3,4,5,6,7,8,9,10,11,12,13,14,15,16,17,18,19,20,21,22,23,24,25,26,27,28,29,30,31,32]) 0 kr kr<|pN 3 [42,43,44] [(44,vB (decide (q.1≤(wI (R.2+1)))))]<|ab<|aG<|bH kr ?_;obtain rfl:=sj d;refine ac fun a hd hs ag=>?_;exact ⟨y,(nt (nt h.size i.size) m.size),hd,hs,aX ag⟩
        ·replace d:=aq F d;refine pN 6 [33,35,36,37,38,39] [(33,undef),(39,undef)]<|ab<|aG<|bf (Cls n []) [22,28,29] [(22,some true),(28,some true),(29,some true)] (bA 33 [0,1,2,3,4,5,6,7,8,9,10,11,12,13,14,15,16,17,18,19,20,21,22,23,24,25,26,27,28,29]) 3 kr kr (aN _ _) ?_;have ch:=aN n [];refine pN 3 [34,40,41] [(34,undef),(41,undef)]<|ab<|aG<|bu [30,31,32] (bA 33 [0,1,2,3,4,5,6,7,8,9,10,11,12,13,14,15,16,17,18,19,20,21,22,23,24,25,26,27,28,29,30,31,32]) 0 kr kr<|pN 3 [42,43,44] [(44,vB false)]<|ab<|aG<|bH kr ?_;obtain rfl:=sj d;refine ac fun a hd hs ag=>?_;have Z:p.heap.size≤f:=cg r j.size;exact ⟨(bg (bg (bg j w nb) x (bc Z)) (aj (aj h i) m) nb),(nt (nt h.size i.size) m.size),hd,hs,aX ag⟩
    ·rintro a M ⟨T,a8,hd,hs,ag⟩;refine aM ?_ hd hs ag;have a9:=(nt (nt (nt al w.size) x.size) a8);refine am (b:=an) kr (fun G=>?_) (fun G=>?_)
     ·replace o:=ap G o;refine aO<|pN 1 [2] [(2,vB false)]<|ab<|av ?_
      obtain rfl:=sj o;replace I:=congrArg some (ah _ rfl);obtain rfl:=sj I;replace u:=aZ u;obtain rfl:=sj u;refine aB (aw [vB false] rfl ⟨kr,trivial⟩ ?_);exact ⟨ae T,rfl⟩
     ·replace o:=aq G o;refine aF<|bI<|az<|pN 2 [7,45] [(7,vI (wI (l+1)))]<|ab ?_;obtain rfl:=sj o;refine ac fun a hd hs ag=>?_;exact ⟨(wI (l+1)),rfl,T,a9,hd,hs,aX ag⟩
   ·replace o:=aq K o;refine bO<|bW rfl ?_
    obtain rfl:=sj o;replace I:=congrArg some (ah _ rfl);obtain rfl:=sj I;refine ac fun a hd hs ag=>?_;exact ⟨(),rfl,j,al,hd,hs,aX ag⟩
 ·rintro a w3 ⟨s2,e,bd,ck,hd,hs,ag⟩;subst e;refine aM ?_ hd hs ag;replace u:=bS u;refine aO<|pN 4 [2,46,47,48] [(2,vB (decide ((lz c)>0)))]<|af u ?_;clear u;intro ax be u;refine co (s:=2) (v:=(vB (decide ((lz c)>0)))) (v':=(vB ax)) kr (congrArg (Value.bool) (sj be))<|ab<|av ?_
  obtain rfl:=sj u;refine aB (aw [vB ax] rfl ⟨kr,trivial⟩ ?_);exact ⟨ae bd,rfl⟩

theorem slices_Index_sint_int_ok (ar:Nat) (ai:bP) (ao:Nat) (c:List Int) (f:Int) (h:World) (v:Nat→Prop) (o:Lw v h) (aV:Rd (iE .i64) h v ai ao c) (w:Int) (i:slices_Index_sint_int ar c f=some w):
    Cs 78 [vL ai c ao,vI f] h (G1 h [vI w]):=by
 have x:Bl h h:=Below.refl _ _;unfold slices_Index_sint_int at i;refine aW Tryz.func78 rfl Tryz.ntmps78 kr ?_;refine cj [(0,vL ai c ao),(1,vI f)]<|aO<|pN 1 [4] []<|cK<|aO<|pN 3 [6,7,8] [(7,vI (lz c)),(8,vI 0)]<|ab<|af i ?_;clear i;intro z l i
 refine aE (J:=fun a r=>∃ y:Unit,z= .inl y∧Bl h r∧Sz h r∧Qa a 19 []) ?_ ?_
 ·refine aJ<|bX (A:=fun (g:Int) a s=>Bl h s∧Sz h s∧Qa a 19 [(0,vL ai c ao),(1,vI f),(7,vI (lz c)),(8,vI g)]) l ?_ ?_
  ·intro a hd hs ag;exact ⟨x,bK,hd,hs,aX ag⟩
  ·rintro g C d p a s ⟨j,q,hd,hs,ag⟩;refine aM ?_ hd hs ag;refine aO<|pN 1 [9] [(9,vB (decide (g<(lz c))))]<|cK<|am (b:=(decide (g<(lz c)))) kr (fun m=>?_) (fun m=>?_)
   ·replace d:=ap m d;refine aF<|aU<|aJ<|aO<|pN 2 [5,10] [(5,vI g)]<|bR<|pN 3 [11,12,13] [(11,vI f),(12,vL ai c ao),(13,vI g)]<|af d ?_;clear d;intro t n d;refine dj .i64 1 (aV.below j o) n cw<|br 3 (bb ai ((g:Int).toNat*1)) (vI t) (aI ((aV.below j o).cell n))<|pN 1 [16] [(16,vB (f==t))]<|ab<|am (b:=(f==t)) kr (fun k=>?_) (fun k=>?_)
    ·replace d:=ap k d;refine aO<|pN 2 [4,17] [(4,vI g)]<|ab<|av ?_
     obtain rfl:=sj d;replace l:=congrArg some (p _ rfl);obtain rfl:=sj l;replace i:=aZ i;obtain rfl:=sj i;refine aB (aw [vI g] rfl ⟨kr,trivial⟩ ?_);exact ⟨ae j,rfl⟩
    ·replace d:=aq k d;refine aF<|bI<|az<|pN 2 [8,18] [(8,vI (wI (g+1)))]<|ab ?_;obtain rfl:=sj d;refine ac fun a hd hs ag=>?_;exact ⟨(wI (g+1)),rfl,j,q,hd,hs,aX ag⟩
   ·replace d:=aq m d;refine bO<|bW rfl ?_
    obtain rfl:=sj d;replace l:=congrArg some (p _ rfl);obtain rfl:=sj l;refine ac fun a hd hs ag=>?_;exact ⟨(),rfl,j,q,hd,hs,aX ag⟩
 ·rintro a r ⟨y,e,u,B,hd,hs,ag⟩;subst e;refine aM ?_ hd hs ag;replace i:=bS i;refine aO<|pN 1 [4] [(4,vI (-1))]<|ab<|av ?_
  obtain rfl:=sj i;refine aB (aw [vI (-1)] rfl ⟨kr,trivial⟩ ?_);exact ⟨ae u,rfl⟩

theorem slices_Contains_sint_int_ok (ar:Nat) (ai:bP) (ao:Nat) (a:List Int) (b:Int) (c:World) (f:Nat→Prop) (g:Lw f c) (aV:Rd (iE .i64) c f ai ao a) (i:Bool) (d:slices_Contains_sint_int ar a b=some i):
    Cs 61 [vL ai a ao,vI b] c (G1 c [vB i]):=by
 have e:Bl c c:=Below.refl _ _;unfold slices_Contains_sint_int at d;refine aW Tryz.func61 rfl Tryz.ntmps61 kr ?_;refine cj [(0,vL ai a ao),(1,vI b)]<|aO<|pN 1 [4] []<|bR<|pN 2 [5,6] [(5,vL ai a ao),(6,vI b)]<|af d ?_;clear d;intro h j d;refine ak kr rfl kr enters78 (slices_Index_sint_int_ok ar ai ao a b c f (fun k (hk:f k)=>bj (g k hk) e.size) (aV.below e g) h j) ?_;rintro m n ⟨l,rfl⟩;refine pN 2 [4,8] [(4,vB (decide (h≥0)))]<|ab<|av ?_
 obtain rfl:=sj d;refine aB (aw [vB (decide (h≥0))] rfl ⟨kr,trivial⟩ ?_);exact ⟨ae (bg e l nb),rfl⟩

theorem regex_formed_1_1_ok (ar:Nat) (ai:bP) (ao:Nat) (c:bP) (d:Nat) (b:cn) (g:Nat) (aY:bP) (bt:Nat) (a:List Int) (e:World) (h:Nat→Prop) (j:Lw h e) (l:bG e g 55 #[vL aY a bt]) (aV:Rd (bY (iE .i64) (iE .i64)) e h ai ao b.2.2.2.2.2.1) (p:Rd pcE e h c d b.2.2.2.2.2.2) (cC:Rd (iE .i64) e h aY bt a) (q:Bool) (i:regex_formed_1_1 ar b a=some q):
    Cs 60 [.agg (bh b ai ao c d),bp g] e (G1 e [vB q]):=by
 have r:Bl e e:=Below.refl _ _;unfold regex_formed_1_1 at i;refine aW Tryz.func60 rfl Tryz.ntmps60 kr ?_;refine cj [(0,.agg (bh b ai ao c d)),(1,bp g)] ?_;have v:=l.lt;refine aO<|aP bp (bh b ai ao c d) 25 kr kr ?_
 intro s w m t x y;refine pN 1 [3] []<|bR<|br 55 ⟨g,0,none⟩ (vL aY a bt) (aI ((l.grown m nb).cell 0 rfl))<|pN 1 [5] [(5,bp s)]<|br 3 ⟨s,0,none⟩ (vI b.1) (aI (t.cell 0 rfl))<|af i ?_;clear i;intro n u i;have f:=bg r m nb;refine ak kr rfl kr enters61 (slices_Contains_sint_int_ok ar aY bt a b.1 w h (fun k (hk:h k)=>bj (j k hk) f.size) (cC.below f j) n u) ?_;rintro z A ⟨o,rfl⟩;refine pN 1 [3] [(3,vB n)]<|ab<|av ?_
 obtain rfl:=sj i;refine aB (aw [vB n] rfl ⟨kr,trivial⟩ ?_);exact ⟨ae (bg f o nb),rfl⟩

theorem api_Piece_1_1_1_ok (ar:Nat) (ai:bP) (ao:Nat) (l:List Pc) (d:Nat) (g:bP) (h:Nat) (j:List Int) (n:World) (w:Nat→Prop) (q:Lw w n) (u:bG n d 55 #[vL g j h]) (aV:Rd pcE n w ai ao l) (s:Rd (iE .i64) n w g h j) (Q:Int) (p:api_Piece_1_1_1 ar l j=some Q):
    Cs 77 [vL ai l ao,.func (.func 60) #[] #[bp d]] n (G1 n [vI Q]):=by
 have R:Bl n n:=Below.refl _ _;unfold api_Piece_1_1_1 at p;refine aW Tryz.func77 rfl Tryz.ntmps77 kr ?_;refine cj [(0,vL ai l ao),(1,.func (.func 60) #[] #[bp d])] ?_;have S:=u.lt;refine aO<|pN 1 [4] []<|cK<|aO<|pN 3 [6,7,8] [(7,vI (lz l)),(8,vI 0)]<|ab<|af p ?_;clear p;intro U x p
 refine aE (J:=fun a G=>∃ T:Unit,U= .inl T∧Bl n G∧Sz n G∧bG G d 55 #[vL g j h]∧Qa a 19 []) ?_ ?_
 ·refine aJ<|bX (A:=fun (o:Int) a v=>Bl n v∧Sz n v∧bG v d 55 #[vL g j h]∧Qa a 19 [(0,vL ai l ao),(1,.func (.func 60) #[] #[bp d]),(7,vI (lz l)),(8,vI o)]) x ?_ ?_
  ·intro a hd hs ag;exact ⟨R,bK,u,hd,hs,aX ag⟩
  ·rintro o Z i H a v ⟨m,I,y,hd,hs,ag⟩;refine aM ?_ hd hs ag;refine aO<|pN 1 [9] [(9,vB (decide (o<(lz l))))]<|cK<|am (b:=(decide (o<(lz l)))) kr (fun z=>?_) (fun z=>?_)
   ·replace i:=ap z i;refine aF<|aU<|aJ<|aO<|pN 2 [5,10] [(5,vI o)]<|bR<|pN 3 [11,12,13] [(11,.func (.func 60) #[] #[bp d]),(12,vL ai l ao),(13,vI o)] ?_
    refine af i ?_;clear i;intro c B i;refine dj .i64 7 (aV.below m q) B bq ?_;obtain ⟨_,⟨_,_,rfl,rfl,⟨_,_,rfl,rfl,⟨_,_,rfl,rfl,⟨_,_,rfl,rfl,⟨_,_,rfl,rfl,⟨_,_,rfl,⟨C,D,rfl,L⟩,⟨E,F,rfl,M⟩⟩⟩⟩⟩⟩⟩,N⟩:=cells_un (aV.cellsK B);refine laq 25 (bb ai ((o:Int).toNat*7)) #[vI (Pc.un c).1,vI (Pc.un c).2.1,vI (Pc.un c).2.2.1,vB (Pc.un c).2.2.2.1,vB (Pc.un c).2.2.2.2.1,.slice C (length (Pc.un c).2.2.2.2.2.1) D,.slice E (length (Pc.un c).2.2.2.2.2.2) F] (aI (N v (fun k hk=>m.block k (q k hk)))) ?_;refine af i ?_;clear i;intro K O i;refine gv_call (f:=60) (vs:=[.agg #[vI (Pc.un c).1,vI (Pc.un c).2.1,vI (Pc.un c).2.2.1,vB (Pc.un c).2.2.2.1,vB (Pc.un c).2.2.2.2.1,.slice C (length (Pc.un c).2.2.2.2.2.1) D,.slice E (length (Pc.un c).2.2.2.2.2.2) F]]) (cap:=[bp d]) _ cN rfl rfl rfl kr kr enters60 (regex_formed_1_1_ok ar C D E F ((Pc.un c).1,(Pc.un c).2.1,(Pc.un c).2.2.1,(Pc.un c).2.2.2.1,(Pc.un c).2.2.2.2.1,(Pc.un c).2.2.2.2.2.1,(Pc.un c).2.2.2.2.2.2) d g h j v w (fun k (hk:w k)=>bj (q k hk) m.size) y (L.below m q) (M.below m q) (s.below m q) K O) ?_;rintro X Y ⟨r,rfl⟩;refine ⟨nofun,?_⟩;refine ab<|am (b:=K) kr (fun t=>?_) (fun t=>?_)
    ·replace i:=ap t i;refine aO<|pN 2 [4,17] [(4,vI o)]<|ab<|av ?_
     obtain rfl:=sj i;replace x:=congrArg some (H _ rfl);obtain rfl:=sj x;replace p:=aZ p;obtain rfl:=sj p;refine aB (aw [vI o] rfl ⟨kr,trivial⟩ ?_);exact ⟨ae (bg m r nb),rfl⟩
    ·replace i:=aq t i;refine aF<|bI<|az<|pN 2 [8,18] [(8,vI (wI (o+1)))]<|ab ?_;obtain rfl:=sj i;refine ac fun a hd hs ag=>?_;exact ⟨(wI (o+1)),rfl,(bg m r nb),(nt I r.size),(y.grown r nb),hd,hs,aX ag⟩
   ·replace i:=aq z i;refine bO<|bW rfl ?_
    obtain rfl:=sj i;replace x:=congrArg some (H _ rfl);obtain rfl:=sj x;refine ac fun a hd hs ag=>?_;exact ⟨(),rfl,m,I,y,hd,hs,aX ag⟩
 ·rintro a G ⟨T,e,P,V,W,hd,hs,ag⟩;subst e;refine aM ?_ hd hs ag;replace p:=bS p;refine aO<|pN 1 [4] [(4,vI (-1))]<|ab<|av ?_
  obtain rfl:=sj p;refine aB (aw [vI (-1)] rfl ⟨kr,trivial⟩ ?_);exact ⟨ae P,rfl⟩

theorem api_Piece_1_1_ok (ar:Nat) (ai:bP) (ao:Nat) (e:List Pc) (a:Nat) (b:bP) (c:Nat) (d:List Int) (f:World) (j:Nat→Prop) (l:Lw j f) (h:bG f a 55 #[vL b d c]) (aV:Rd pcE f j ai ao e) (g:Rd (iE .i64) f j b c d) (o:Bool) (m:api_Piece_1_1 ar e d=some o):
    Cs 59 [vL ai e ao,.func (.func 60) #[] #[bp a]] f (G1 f [vB o]):=by
 have i:Bl f f:=Below.refl _ _;unfold api_Piece_1_1 at m;refine aW Tryz.func59 rfl Tryz.ntmps59 kr ?_;refine cj [(0,vL ai e ao),(1,.func (.func 60) #[] #[bp a])] ?_;have p:=h.lt;refine aO<|pN 1 [4] []<|bR<|pN 2 [5,6] [(5,vL ai e ao),(6,.func (.func 60) #[] #[bp a])] ?_
 refine af m ?_;clear m;intro n q m;refine ak kr rfl kr enters77 (api_Piece_1_1_1_ok ar ai ao e a b c d f j (fun k (hk:j k)=>bj (l k hk) i.size) h (aV.below i l) (g.below i l) n q) ?_;rintro s t ⟨r,rfl⟩;refine pN 2 [4,8] [(4,vB (decide (n≥0)))]<|ab<|av ?_
 obtain rfl:=sj m;refine aB (aw [vB (decide (n≥0))] rfl ⟨kr,trivial⟩ ?_);exact ⟨ae (bg i r nb),rfl⟩

theorem cU (ar:Nat) (ai:bP) (ao:Nat) (a:List Int) (g:Nat) (aY:bP) (bt:Nat) (c:bP) (d:Nat) (b:cn) (e:World) (h:Nat→Prop) (i:Lw h e) (m:bG e g 25 (bh b aY bt c d)) (aV:Rd (iE .i64) e h ai ao a) (cC:Rd (bY (iE .i64) (iE .i64)) e h aY bt b.2.2.2.2.2.1) (j:Rd pcE e h c d b.2.2.2.2.2.2) (q:Bool) (l:regex_formed_1 ar a b=some q):
    Cs 58 [vL ai a ao,bp g] e (G1 e [vB q]):=by
 have r:Bl e e:=Below.refl _ _;unfold regex_formed_1 at l;refine aW Tryz.func58 rfl Tryz.ntmps58 kr ?_;refine cj [(0,vL ai a ao),(1,bp g)] ?_;have v:=m.lt;refine aO<|aP bp #[vL ai a ao] 55 kr kr ?_
 intro s w n t x y;refine pN 1 [3] []<|bR<|pN 1 [4] [(4,.pointer (some ⟨g,6,none⟩))]<|br 23 ⟨g,6,none⟩ (vL c b.2.2.2.2.2.2 d) (aI ((m.grown n nb).cell 6 rfl))<|pN 1 [6] [(6,.func (.func 60) #[] #[bp s])] ?_;refine af l ?_;clear l;intro o u l;have f:=bg r n nb;refine ak kr rfl kr enters59 (api_Piece_1_1_ok ar c d b.2.2.2.2.2.2 s ai ao a w h (fun k (hk:h k)=>bj (i k hk) f.size) t (j.below f i) (aV.below f i) o u) ?_;rintro z A ⟨p,rfl⟩;refine pN 2 [3,8] [(3,vB (!o))]<|ab<|av ?_
 obtain rfl:=sj l;refine aB (aw [vB (!o)] rfl ⟨kr,trivial⟩ ?_);exact ⟨ae (bg f p nb),rfl⟩

theorem regex_formed_ok (ar:Nat) (ai:bP) (ao:Nat) (l:bP) (m:Nat) (d:cn) (p:World) (A:Nat→Prop) (q:Lw A p) (aV:Rd (bY (iE .i64) (iE .i64)) p A ai ao d.2.2.2.2.2.1) (B:Rd pcE p A l m d.2.2.2.2.2.2) (r0:Bool) (i:regex_formed ar d=some r0):
    Cs 40 [.agg (bh d ai ao l m)] p (G1 p [vB r0]):=by
 have u:Bl p p:=Below.refl _ _;unfold regex_formed at i;refine aW Tryz.func40 rfl Tryz.ntmps40 kr ?_;refine cj [(0,.agg (bh d ai ao l m))]<|aO<|aP bp (bh d ai ao l m) 25 kr kr ?_
 intro j w2 w x dB dO;refine pN 1 [2] []<|bR<|pN 1 [5] [(5,.pointer (some ⟨j,6,none⟩))]<|br 23 ⟨j,6,none⟩ (vL l d.2.2.2.2.2.2 m) (aI (x.cell 6 rfl))<|pN 2 [3,7] [(3,vI (lz d.2.2.2.2.2.2))]<|af i ?_;clear i;intro o du i;refine co (s:=3) (v:=(vI (lz d.2.2.2.2.2.2))) (v':=(vI o)) kr (congrArg (Value.int .i64) (sj du))<|bR<|pN 2 [4,8] [(4,.func (.func 58) #[] #[bp j])] ?_
 refine cK<|aO<|pN 1 [9] [(9,bp j)]<|br 3 ⟨j,0,none⟩ (vI d.1) (aI (x.cell 0 rfl))<|ab<|aJ<|aO<|pN 2 [11,12] [(11,vB (d.1==1))]<|ab<|am (b:=(d.1==1)) kr (fun a8=>?_) (fun a8=>?_)
 ·replace i:=ap a8 i;refine aO<|af i ?_;clear i;intro cx c i
  refine aS (J:=fun a a9=>Bl p a9∧Sz w2 a9∧Qa a 80 [(2,vB cx)]) ?_ ?_
  ·refine pN 3 [13,14,15] [(15,vB (o==0))]<|au (s:=15) (g:=(o==0)) kr (fun L=>?_) (fun L=>?_)
   ·replace c:=ap L c;refine pN 1 [16] [(16,.pointer (some ⟨j,1,none⟩))]<|br 3 ⟨j,1,none⟩ (vI d.2.1) (aI (x.cell 1 rfl))<|af c ?_;clear c;intro bd dg c;refine ak kr rfl kr enters62 (regex_scalar_ok ar d.2.1 w2 bd dg) ?_;rintro dP dQ ⟨be,rfl⟩;refine pN 2 [2,19] [(2,vB bd)]<|cj [(2,vB bd)]<|ab ?_;obtain rfl:=sj c;refine ac fun a hd hs ag=>?_;exact ⟨(bg u (aj w be) nb),be.size,hd,hs,aX ag⟩
   ·replace c:=aq L c;refine pN 5 [2,16,17,18,19] [(2,vB false)]<|ab ?_;obtain rfl:=sj c;refine ac fun a hd hs ag=>?_;exact ⟨(bg u w nb),bK,hd,hs,aX ag⟩
  ·rintro a a9 ⟨dk,dC,hd,hs,ag⟩;refine aM ?_ hd hs ag;refine av ?_;obtain rfl:=sj i;refine aB (aw [vB cx] rfl ⟨kr,trivial⟩ ?_);exact ⟨ae dk,rfl⟩
 ·replace i:=aq a8 i;refine aO<|pN 2 [20,21] [(20,vB (d.1==3))]<|ab<|am (b:=(d.1==3)) kr (fun M=>?_) (fun M=>?_)
  ·replace i:=ap M i;refine aO<|af i ?_;clear i;intro c0 c i
   refine aS (J:=fun a bl=>Bl p bl∧Sz w2 bl∧Qa a 80 [(2,vB c0)]) ?_ ?_
   ·refine pN 3 [22,23,24] [(24,vB (o==0))]<|au (s:=24) (g:=(o==0)) kr (fun N=>?_) (fun N=>?_)
    ·replace c:=ap N c;refine pN 1 [25] [(25,.pointer (some ⟨j,5,none⟩))]<|br 22 ⟨j,5,none⟩ (vL ai d.2.2.2.2.2.1 ao) (aI (x.cell 5 rfl))<|af c ?_;clear c;intro bn dl c;have O:=bg u w nb;refine ak kr rfl kr enters63 (regex_ordered_ok ar ai ao d.2.2.2.2.2.1 w2 A (fun k (hk:A k)=>bj (q k hk) O.size) (aV.below O q) bn dl) ?_;rintro dR dS ⟨bs,rfl⟩;refine pN 2 [2,28] [(2,vB bn)]<|cj [(2,vB bn)]<|ab ?_;obtain rfl:=sj c;refine ac fun a hd hs ag=>?_;exact ⟨(bg O bs nb),bs.size,hd,hs,aX ag⟩
    ·replace c:=aq N c;refine pN 5 [2,25,26,27,28] [(2,vB false)]<|ab ?_;obtain rfl:=sj c;refine ac fun a hd hs ag=>?_;exact ⟨(bg u w nb),bK,hd,hs,aX ag⟩
   ·rintro a bl ⟨dm,dD,hd,hs,ag⟩;refine aM ?_ hd hs ag;refine av ?_;obtain rfl:=sj i;refine aB (aw [vB c0] rfl ⟨kr,trivial⟩ ?_);exact ⟨ae dm,rfl⟩
  ·replace i:=aq M i;refine aU<|aO<|pN 2 [29,30] [(29,vB (d.1==2))]<|ab<|af i ?_;clear i;intro c1 c i
   refine aE (J:=fun a F=>Bl p F∧Sz w2 F∧bG F j 25 (bh d ai ao l m)∧Qa a 80 [(1,bp j),(3,vI o),(4,.func (.func 58) #[] #[bp j]),(10,vI d.1),(29,vB c1)]) ?_ ?_
   ·refine am (b:=(d.1==2)) kr (fun P=>?_) (fun P=>?_)
    ·replace c:=ap P c;refine aF ?_;obtain rfl:=sj c;refine ac fun a hd hs ag=>?_;exact ⟨(bg u w nb),bK,x,hd,hs,aX ag⟩
    ·replace c:=aq P c;refine aO<|pN 2 [29,31] [(29,vB (d.1==4))]<|ab<|am (b:=(d.1==4)) kr (fun Q=>?_) (fun Q=>?_)
     ·replace c:=ap Q c;refine aF ?_;obtain rfl:=sj c;refine ac fun a hd hs ag=>?_;exact ⟨(bg u w nb),bK,x,hd,hs,aX ag⟩
     ·replace c:=aq Q c;refine aO<|pN 2 [29,32] [(29,vB (d.1==5))]<|ab<|am (b:=(d.1==5)) kr (fun R=>?_) (fun R=>?_)
      ·replace c:=ap R c;refine aF ?_;obtain rfl:=sj c;refine ac fun a hd hs ag=>?_;exact ⟨(bg u w nb),bK,x,hd,hs,aX ag⟩
      ·replace c:=aq R c;refine az<|pN 2 [29,33] [(29,vB (d.1==6))]<|cj [(1,bp j),(3,vI o),(4,.func (.func 58) #[] #[bp j]),(10,vI d.1),(29,vB (d.1==6))] ?_;refine ab ?_;obtain rfl:=sj c;refine ac fun a hd hs ag=>?_;exact ⟨(bg u w nb),bK,x,hd,hs,aX ag⟩
   ·rintro a F ⟨t,dE,G,hd,hs,ag⟩;refine aM ?_ hd hs ag;refine am (b:=c1) kr (fun S=>?_) (fun S=>?_)
    ·replace i:=ap S i;refine aO<|pN 3 [2,34,35] [(2,vB (o==0))]<|ab<|av ?_
     obtain rfl:=sj i;refine aB (aw [vB (o==0)] rfl ⟨kr,trivial⟩ ?_);exact ⟨ae t,rfl⟩
    ·replace i:=aq S i;refine aO<|pN 2 [36,37] [(36,vB (d.1==12))]<|ab<|am (b:=(d.1==12)) kr (fun T=>?_) (fun T=>?_)
     ·replace i:=ap T i;refine aO<|af i ?_;clear i;intro c2 c i
      refine aS (J:=fun a bA=>Bl p bA∧Sz F bA∧Qa a 80 [(2,vB c2)]) ?_ ?_
      ·refine pN 3 [38,39,40] [(40,vB (o==0))]<|au (s:=40) (g:=(o==0)) kr (fun U=>?_) (fun U=>?_)
       ·replace c:=ap U c;refine pN 1 [41] [(41,.pointer (some ⟨j,1,none⟩))]<|br 3 ⟨j,1,none⟩ (vI d.2.1) (aI (G.cell 1 rfl))<|pN 3 [43,44,45] [(45,vB (decide (d.2.1≥1)))]<|au (s:=45) (g:=(decide (d.2.1≥1))) kr (fun V=>?_) (fun V=>?_)
        ·replace c:=ap V c;refine pN 1 [46] [(46,.pointer (some ⟨j,1,none⟩))]<|br 3 ⟨j,1,none⟩ (vI d.2.1) (aI (G.cell 1 rfl))<|pN 3 [2,48,49] [(2,vB (decide (d.2.1≤9)))]<|ab ?_;obtain rfl:=sj c;refine ac fun a hd hs ag=>?_;exact ⟨t,bK,hd,hs,aX ag⟩
        ·replace c:=aq V c;refine pN 5 [2,46,47,48,49] [(2,vB false)]<|ab ?_;obtain rfl:=sj c;refine ac fun a hd hs ag=>?_;exact ⟨t,bK,hd,hs,aX ag⟩
       ·replace c:=aq U c;refine pN 10 [2,41,42,43,44,45,46,47,48,49] [(2,vB false)]<|ab ?_;obtain rfl:=sj c;refine ac fun a hd hs ag=>?_;exact ⟨t,bK,hd,hs,aX ag⟩
      ·rintro a bA ⟨dn,dF,hd,hs,ag⟩;refine aM ?_ hd hs ag;refine av ?_;obtain rfl:=sj i;refine aB (aw [vB c2] rfl ⟨kr,trivial⟩ ?_);exact ⟨ae dn,rfl⟩
     ·replace i:=aq T i;refine aU<|aO<|pN 2 [50,51] [(50,vB (d.1==7))]<|ab<|af i ?_;clear i;intro c3 c i
      refine aE (J:=fun a C=>Bl p C∧Sz F C∧bG C j 25 (bh d ai ao l m)∧Qa a 80 [(3,vI o),(4,.func (.func 58) #[] #[bp j]),(10,vI d.1),(50,vB c3)]) ?_ ?_
      ·refine am (b:=(d.1==7)) kr (fun W=>?_) (fun W=>?_)
       ·replace c:=ap W c;refine aF ?_;obtain rfl:=sj c;refine ac fun a hd hs ag=>?_;exact ⟨t,bK,G,hd,hs,aX ag⟩
       ·replace c:=aq W c;refine az<|pN 2 [50,52] [(50,vB (d.1==11))]<|ab ?_;obtain rfl:=sj c;refine ac fun a hd hs ag=>?_;exact ⟨t,bK,G,hd,hs,aX ag⟩
      ·rintro a C ⟨n,dG,X,hd,hs,ag⟩;refine aM ?_ hd hs ag;refine am (b:=c3) kr (fun Z=>?_) (fun Z=>?_)
       ·replace i:=ap Z i;refine aO<|pN 3 [2,53,54] [(2,vB (o==1))]<|ab<|av ?_
        obtain rfl:=sj i;refine aB (aw [vB (o==1)] rfl ⟨kr,trivial⟩ ?_);exact ⟨ae n,rfl⟩
       ·replace i:=aq Z i;refine aO<|pN 2 [55,56] [(55,vB (d.1==8))]<|ab<|am (b:=(d.1==8)) kr (fun ah=>?_) (fun ah=>?_)
        ·replace i:=ap ah i;refine aO<|af i ?_;clear i;intro c4 c i
         refine aS (J:=fun a bE=>Bl p bE∧Sz C bE∧Qa a 80 [(2,vB c4)]) ?_ ?_
         ·refine pN 3 [57,58,59] [(59,vB (o !=1))]<|au (s:=59) (g:=(o !=1)) kr (fun al=>?_) (fun al=>?_)
          ·replace c:=ap al c;refine pN 1 [60] [(60,.func (.func 58) #[] #[bp j])] ?_;refine aP (fun b=>.slice (ro b) 2 2) #[vI 8,vI 9] 3 kr kr ?_;intro D c5 an dp ca dH;have b0:aD (iE .i64) 3 c5 (fun _=>False) (ro D) 2 ([8,9]:List Int):=bM dp ⟨[vI 8],[vI 9],rfl,rfl,⟨[vI 9],[],rfl,rfl,rfl⟩⟩ (show 2≤maxLen by decide) (fun h=>h);have dI:Lo p (ro D):=loo ca n.size;refine af c ?_;clear c;intro c6 dq c;have H:=bg n an nb;refine gv_call (f:=58) (vs:=[vL (ro D) ([8,9]:List Int) 2]) (cap:=[bp j]) _ cN rfl rfl rfl kr kr enters58 (cU ar (ro D) 2 ([8,9]:List Int) j ai ao l m d c5 (fun k=>(fun k=>aH (ro D)=some k) k∨A k) (fun k hk=>(hk).elim (fun h=>(fun k (hk:aH (ro D)=some k)=>b0.lt k hk) k h) (fun h=>(fun k (hk:A k)=>bj (q k hk) H.size) k h)) (X.grown an nb) ((b0.rd (Y:=fun k=>aH (ro D)=some k) (fun _ h=>h.elim) (fun g e=>e)).wide (fun k hk=>(.inl hk))) ((aV.below H q).wide (fun k hk=>(.inr hk))) ((B.below H q).wide (fun k hk=>(.inr hk))) c6 dq) ?_;rintro dT dU ⟨b2,rfl⟩;refine ⟨nofun,?_⟩;refine pN 2 [2,63] [(2,vB c6)]<|ab ?_;obtain rfl:=sj c;refine ac fun a hd hs ag=>?_;exact ⟨(bg H b2 nb),(nt an.size b2.size),hd,hs,aX ag⟩
          ·replace c:=aq al c;refine pN 5 [2,60,61,62,63] [(2,vB false)]<|ab ?_;obtain rfl:=sj c;refine ac fun a hd hs ag=>?_;exact ⟨n,bK,hd,hs,aX ag⟩
         ·rintro a bE ⟨dr,dJ,hd,hs,ag⟩;refine aM ?_ hd hs ag;refine av ?_;obtain rfl:=sj i;refine aB (aw [vB c4] rfl ⟨kr,trivial⟩ ?_);exact ⟨ae dr,rfl⟩
        ·replace i:=aq ah i;refine aO<|pN 2 [64,65] [(64,vB (d.1==9))]<|ab<|am (b:=(d.1==9)) kr (fun ax=>?_) (fun ax=>?_)
         ·replace i:=ap ax i;refine aO<|af i ?_;clear i;intro c7 c i
          refine aS (J:=fun a b3=>Bl p b3∧Sz C b3∧Qa a 80 [(2,vB c7)]) ?_ ?_
          ·refine pN 3 [66,67,68] [(68,vB (decide (o≥2)))]<|au (s:=68) (g:=(decide (o≥2))) kr (fun a0=>?_) (fun a0=>?_)
           ·replace c:=ap a0 c;refine pN 1 [69] [(69,.func (.func 58) #[] #[bp j])] ?_;refine aP (fun b=>.slice (ro b) 1 1) #[vI 9] 3 kr kr ?_;intro E c8 a1 ds b4 dv;have a3:aD (iE .i64) 3 c8 (fun _=>False) (ro E) 1 ([9]:List Int):=bM ds ⟨[vI 9],[],rfl,rfl,rfl⟩ (show 1≤maxLen by decide) (fun h=>h);have dw:Lo p (ro E):=loo b4 n.size;refine af c ?_;clear c;intro b5 cb c;have y:=bg n a1 nb;refine gv_call (f:=58) (vs:=[vL (ro E) ([9]:List Int) 1]) (cap:=[bp j]) _ cN rfl rfl rfl kr kr enters58 (cU ar (ro E) 1 ([9]:List Int) j ai ao l m d c8 (fun k=>(fun k=>aH (ro E)=some k) k∨A k) (fun k hk=>(hk).elim (fun h=>(fun k (hk:aH (ro E)=some k)=>a3.lt k hk) k h) (fun h=>(fun k (hk:A k)=>bj (q k hk) y.size) k h)) (X.grown a1 nb) ((a3.rd (Y:=fun k=>aH (ro E)=some k) (fun _ h=>h.elim) (fun g e=>e)).wide (fun k hk=>(.inl hk))) ((aV.below y q).wide (fun k hk=>(.inr hk))) ((B.below y q).wide (fun k hk=>(.inr hk))) b5 cb) ?_;rintro dK dL ⟨a4,rfl⟩;refine ⟨nofun,?_⟩;refine pN 2 [2,72] [(2,vB b5)]<|ab ?_;obtain rfl:=sj c;refine ac fun a hd hs ag=>?_;exact ⟨(bg y a4 nb),(nt a1.size a4.size),hd,hs,aX ag⟩
           ·replace c:=aq a0 c;refine pN 5 [2,69,70,71,72] [(2,vB false)]<|ab ?_;obtain rfl:=sj c;refine ac fun a hd hs ag=>?_;exact ⟨n,bK,hd,hs,aX ag⟩
          ·rintro a b3 ⟨cc,dx,hd,hs,ag⟩;refine aM ?_ hd hs ag;refine av ?_;obtain rfl:=sj i;refine aB (aw [vB c7] rfl ⟨kr,trivial⟩ ?_);exact ⟨ae cc,rfl⟩
         ·replace i:=aq ax i;refine aF<|bI<|aO<|af i ?_;clear i;intro b6 c i
          refine aS (J:=fun a a2=>Bl p a2∧Sz C a2∧Qa a 80 [(2,vB b6)]) ?_ ?_
          ·refine pN 3 [73,74,75] [(75,vB (o==1))]<|au (s:=75) (g:=(o==1)) kr (fun I=>?_) (fun I=>?_)
           ·replace c:=ap I c;refine pN 1 [76] [(76,.func (.func 58) #[] #[bp j])] ?_;refine aP (fun b=>.slice (ro b) 7 7) #[vI 8,vI 9,vI 10,vI 4,vI 5,vI 6,vI 11] 3 kr kr ?_;intro r b7 K ch b8 dy;have a5:aD (iE .i64) 3 b7 (fun _=>False) (ro r) 7 ([8,9,10,4,5,6,11]:List Int):=bM ch ⟨[vI 8],[vI 9,vI 10,vI 4,vI 5,vI 6,vI 11],rfl,rfl,⟨[vI 9],[vI 10,vI 4,vI 5,vI 6,vI 11],rfl,rfl,⟨[vI 10],[vI 4,vI 5,vI 6,vI 11],rfl,rfl,⟨[vI 4],[vI 5,vI 6,vI 11],rfl,rfl,⟨[vI 5],[vI 6,vI 11],rfl,rfl,⟨[vI 6],[vI 11],rfl,rfl,⟨[vI 11],[],rfl,rfl,rfl⟩⟩⟩⟩⟩⟩⟩ (show 7≤maxLen by decide) (fun h=>h);have dz:Lo p (ro r):=loo b8 n.size;refine af c ?_;clear c;intro b9 ck c;have z:=bg n K nb;refine gv_call (f:=58) (vs:=[vL (ro r) ([8,9,10,4,5,6,11]:List Int) 7]) (cap:=[bp j]) _ cN rfl rfl rfl kr kr enters58 (cU ar (ro r) 7 ([8,9,10,4,5,6,11]:List Int) j ai ao l m d b7 (fun k=>(fun k=>aH (ro r)=some k) k∨A k) (fun k hk=>(hk).elim (fun h=>(fun k (hk:aH (ro r)=some k)=>a5.lt k hk) k h) (fun h=>(fun k (hk:A k)=>bj (q k hk) z.size) k h)) (X.grown K nb) ((a5.rd (Y:=fun k=>aH (ro r)=some k) (fun _ h=>h.elim) (fun g e=>e)).wide (fun k hk=>(.inl hk))) ((aV.below z q).wide (fun k hk=>(.inr hk))) ((B.below z q).wide (fun k hk=>(.inr hk))) b9 ck) ?_;rintro dM dN ⟨a6,rfl⟩;refine ⟨nofun,?_⟩;refine pN 2 [2,79] [(2,vB b9)]<|ab ?_;obtain rfl:=sj c;refine ac fun a hd hs ag=>?_;exact ⟨(bg z a6 nb),(nt K.size a6.size),hd,hs,aX ag⟩
           ·replace c:=aq I c;refine pN 5 [2,76,77,78,79] [(2,vB false)]<|ab ?_;obtain rfl:=sj c;refine ac fun a hd hs ag=>?_;exact ⟨n,bK,hd,hs,aX ag⟩
          ·rintro a a2 ⟨cs,dA,hd,hs,ag⟩;refine aM ?_ hd hs ag;refine av ?_;obtain rfl:=sj i;refine aB (aw [vB b6] rfl ⟨kr,trivial⟩ ?_);exact ⟨ae cs,rfl⟩

abbrev gC21 (ar:Nat):Prop:=∀ (a:Nat) (f:bx) (aY:bP) (bt:Nat) (b:bP) (c:Nat) (d:cn) (e:World) (g:Nat→Prop) (j:∀ k,g k→k<e.heap.size∧k≠a) (l:bG e a 44 (cm f)) (cC:Rd (bY (iE .i64) (iE .i64)) e g aY bt d.2.2.2.2.2.1) (i:Rd pcE e g b c d.2.2.2.2.2.2) (h:Int × bx),regex_survey_look ar f d=some h→Calls aA 21 ([bp a,.agg (bh d aY bt b c)]:List Value).toArray e (Ret fun v w'=>e.grownBy w' (some a)∧v=tup [vI h.1]∧bG w' a 44 (cm h.2))
set_option maxHeartbeats 4000000 in
set_option maxRecDepth 100000 in
theorem regex_survey_look_step (ar:Nat) (r:gC21 ar) (f:Nat) (i:bx) (aY:bP) (bt:Nat) (m:bP) (n:Nat) (c:cn) (w:World) (X0:Nat→Prop) (u:∀ k,X0 k→k<w.heap.size∧k≠f) (c3:bG w f 44 (cm i)) (cC:Rd (bY (iE .i64) (iE .i64)) w X0 aY bt c.2.2.2.2.2.1) (C:Rd pcE w X0 m n c.2.2.2.2.2.2) (r0:Int × bx) (l:regex_survey_look (ar+1) i c=some r0):
    Cs 21 [bp f,.agg (bh c aY bt m n)] w (Ret fun v w'=>w.grownBy w' (some f)∧v=tup [vI r0.1]∧bG w' f 44 (cm r0.2)):=by
 have dp:w.grownBy w (some f):=ci _ _;rw[regex_survey_look.eq_2]at l;refine aW Tryz.func21 rfl Tryz.ntmps21 kr ?_;refine cj [(0,bp f),(1,.agg (bh c aY bt m n))] ?_;have eg:=c3.lt;refine aO<|aP bp (bh c aY bt m n) 25 kr kr ?_
 intro j w2 c4 d5 dq eu;refine pN 1 [4] []<|cK<|aO<|pN 3 [8,9,10] [(8,bp f),(10,bp f)] ?_
 have dP:=c3.grown c4 nb;refine br 3 ⟨f,0,none⟩ (vI i.1) (aI (dP.cell 0 rfl))<|pN 3 [12,13,14] [(12,vI (wI (i.1+1))),(14,bp f)]<|aC 3 0 (vI (wI (i.1+1))) #[vI (wI (i.1+1)),vI i.2] dP kr kr kr ?_;intro w8 c5 W ei;refine bR<|pN 3 [15,16,17] [(17,bp f)]<|br 3 ⟨f,0,none⟩ (vI (wI (i.1+1))) (aI (W.cell 0 rfl))<|pN 1 [19] [(19,vB (decide ((wI (i.1+1))>60)))]<|ab<|am (b:=(decide ((wI (i.1+1))>60))) kr (fun bn=>?_) (fun bn=>?_)
 ·replace l:=ap bn l;refine aO<|pN 1 [4] [(4,vI 2)]<|ab<|av ?_
  obtain rfl:=sj l;refine aB (aw [vI 2] rfl ⟨kr,trivial⟩ ?_);exact ⟨(aa (aa dp c4 nb) c5 ay),rfl,W⟩
 ·replace l:=aq bn l;refine aF<|aU<|aJ<|aO<|af l ?_;clear l;intro dQ d l
  refine aS (J:=fun a K=>w.grownBy K (some f)∧Sz w8 K∧bG K f 44 #[vI (wI (i.1+1)),vI i.2]∧bG K j 25 (bh c aY bt m n)∧Qa a 129 [(0,bp f),(3,bp j),(20,vB dQ)]) ?_ ?_
  ·refine pN 1 [21] [(21,bp j)] ?_;have dY:¬ (· =j) f:=fun hx=>nl ((aR dq) _ hx) ((bC c3) _ rfl);have X:=d5.grown c5 (ad dY);refine br 3 ⟨j,0,none⟩ (vI c.1) (aI (X.cell 0 rfl))<|pN 2 [23,24] [(24,vB (decide (c.1<1)))]<|au (s:=24) (g:=(decide (c.1<1))) kr (fun bs=>?_) (fun bs=>?_)
   ·replace d:=ap bs d;refine pN 5 [20,25,26,27,28] [(20,vB true)]<|ab ?_;obtain rfl:=sj d;refine ac fun a hd hs ag=>?_;exact ⟨(aa (aa dp c4 nb) c5 ay),bK,W,X,hd,hs,aX ag⟩
   ·replace d:=aq bs d;refine pN 1 [25] [(25,bp j)]<|br 3 ⟨j,0,none⟩ (vI c.1) (aI (X.cell 0 rfl))<|pN 3 [20,27,28] [(20,vB (decide (c.1≥13)))]<|cj [(0,bp f),(3,bp j),(20,vB (decide (c.1≥13)))]<|ab ?_;obtain rfl:=sj d;refine ac fun a hd hs ag=>?_;exact ⟨(aa (aa dp c4 nb) c5 ay),bK,W,X,hd,hs,aX ag⟩
  ·rintro a K ⟨F,ej,bE,b0,hd,hs,ag⟩;refine aM ?_ hd hs ag;refine am (b:=dQ) kr (fun b2=>?_) (fun b2=>?_)
   ·replace l:=ap b2 l;refine aO<|pN 1 [4] [(4,vI 5)]<|ab<|av ?_
    obtain rfl:=sj l;refine aB (aw [vI 5] rfl ⟨kr,trivial⟩ ?_);exact ⟨F,rfl,bE⟩
   ·replace l:=aq b2 l;refine aO<|af l ?_;clear l;intro dR d l
    refine aS (J:=fun a T=>w.grownBy T (some f)∧Sz K T∧bG T f 44 #[vI (wI (i.1+1)),vI i.2]∧bG T j 25 (bh c aY bt m n)∧Qa a 129 [(0,bp f),(3,bp j),(29,vB dR)]) ?_ ?_
    ·refine di 25 j (bh c aY bt m n) (aI b0)<|af d ?_;clear d;intro dr dZ d;refine ak kr rfl kr enters39 (regex_flat_ok ar aY bt m n c K X0 (fun k (hk:X0 k)=>bj (u k hk).1 F.size) (rg cC F u) (rg C F u) dr dZ) ?_;rintro ev d6 ⟨x,rfl⟩;refine pN 2 [32,33] [(33,vB (!dr))]<|au (s:=33) (g:=(!dr)) kr (fun b3=>?_) (fun b3=>?_)
     ·replace d:=ap b3 d;refine pN 5 [29,34,35,36,37] [(29,vB true)]<|ab ?_;obtain rfl:=sj d;refine ac fun a hd hs ag=>?_;exact ⟨(aa F x nb),x.size,(bE.grown x nb),(b0.grown x nb),hd,hs,aX ag⟩
     ·replace d:=aq b3 d;have ds:=b0.grown x nb;refine di 25 j (bh c aY bt m n) (aI ds)<|af d ?_;clear d;intro dS d0 d;have Y:=aa F x nb;refine ak kr rfl kr enters40 (regex_formed_ok ar aY bt m n c d6 X0 (fun k (hk:X0 k)=>bj (u k hk).1 Y.size) (rg cC Y u) (rg C Y u) dS d0) ?_;rintro ew ex ⟨Z,rfl⟩;refine pN 3 [29,36,37] [(29,vB (!dS))]<|ab ?_;obtain rfl:=sj d;refine ac fun a hd hs ag=>?_;exact ⟨(aa Y Z nb),(nt x.size Z.size),(bE.grown (aj x Z) nb),(ds.grown Z nb),hd,hs,aX ag⟩
    ·rintro a T ⟨y,ek,z,o,hd,hs,ag⟩;refine aM ?_ hd hs ag;refine am (b:=dR) kr (fun b4=>?_) (fun b4=>?_)
     ·replace l:=ap b4 l;refine aO<|pN 1 [4] [(4,vI 6)]<|ab<|av ?_
      obtain rfl:=sj l;refine aB (aw [vI 6] rfl ⟨kr,trivial⟩ ?_);exact ⟨y,rfl,z⟩
     ·replace l:=aq b4 l;refine aO<|af l ?_;clear l;intro dT d l
      refine aS (J:=fun a U=>w.grownBy U (some f)∧Sz T U∧bG U f 44 #[vI (wI (i.1+1)),vI i.2]∧bG U j 25 (bh c aY bt m n)∧Qa a 129 [(0,bp f),(3,bp j),(38,vB dT)]) ?_ ?_
      ·refine pN 1 [39] [(39,bp j)]<|br 3 ⟨j,0,none⟩ (vI c.1) (aI (o.cell 0 rfl))<|pN 2 [41,42] [(42,vB (c.1==10))]<|au (s:=42) (g:=(c.1==10)) kr (fun b5=>?_) (fun b5=>?_)
       ·replace d:=ap b5 d;refine pN 1 [43] [(43,.pointer (some ⟨j,1,none⟩))]<|br 3 ⟨j,1,none⟩ (vI c.2.1) (aI (o.cell 1 rfl))<|pN 2 [45,46] [(46,vB (decide (c.2.1<0)))]<|au (s:=46) (g:=(decide (c.2.1<0))) kr (fun b6=>?_) (fun b6=>?_)
        ·replace d:=ap b6 d;refine pN 28 [38,47,48,49,50,51,52,53,54,55,56,57,58,59,60,61,62,63,64,65,66,67,68,69,70,71,72,73] [(38,vB true)]<|ab ?_;obtain rfl:=sj d;refine ac fun a hd hs ag=>?_;exact ⟨y,bK,z,o,hd,hs,aX ag⟩
        ·replace d:=aq b6 d;refine pN 1 [47] [(47,.pointer (some ⟨j,1,none⟩))]<|br 3 ⟨j,1,none⟩ (vI c.2.1) (aI (o.cell 1 rfl))<|pN 3 [49,50,51] [(51,vB (decide (c.2.1>99)))]<|au (s:=51) (g:=(decide (c.2.1>99))) kr (fun b7=>?_) (fun b7=>?_)
         ·replace d:=ap b7 d;refine pN 23 [38,52,53,54,55,56,57,58,59,60,61,62,63,64,65,66,67,68,69,70,71,72,73] [(38,vB true)]<|ab ?_;obtain rfl:=sj d;refine ac fun a hd hs ag=>?_;exact ⟨y,bK,z,o,hd,hs,aX ag⟩
         ·replace d:=aq b7 d;refine pN 1 [52] [(52,.pointer (some ⟨j,2,none⟩))]<|br 3 ⟨j,2,none⟩ (vI c.2.2.1) (aI (o.cell 2 rfl))<|pN 3 [54,55,56] [(56,vB (decide (c.2.2.1<(-1))))]<|au (s:=56) (g:=(decide (c.2.2.1<(-1)))) kr (fun b8=>?_) (fun b8=>?_)
          ·replace d:=ap b8 d;refine pN 18 [38,57,58,59,60,61,62,63,64,65,66,67,68,69,70,71,72,73] [(38,vB true)]<|ab ?_;obtain rfl:=sj d;refine ac fun a hd hs ag=>?_;exact ⟨y,bK,z,o,hd,hs,aX ag⟩
          ·replace d:=aq b8 d;refine pN 1 [57] [(57,.pointer (some ⟨j,2,none⟩))]<|br 3 ⟨j,2,none⟩ (vI c.2.2.1) (aI (o.cell 2 rfl))<|pN 3 [59,60,61] [(61,vB (decide (c.2.2.1>99)))]<|cj [(0,bp f),(3,bp j),(42,vB true),(61,vB (decide (c.2.2.1>99)))]<|au (s:=61) (g:=(decide (c.2.2.1>99))) kr (fun b9=>?_) (fun b9=>?_)
           ·replace d:=ap b9 d;refine pN 13 [38,62,63,64,65,66,67,68,69,70,71,72,73] [(38,vB true)]<|ab ?_;obtain rfl:=sj d;refine ac fun a hd hs ag=>?_;exact ⟨y,bK,z,o,hd,hs,aX ag⟩
           ·replace d:=aq b9 d;refine pN 1 [62] [(62,.pointer (some ⟨j,2,none⟩))]<|br 3 ⟨j,2,none⟩ (vI c.2.2.1) (aI (o.cell 2 rfl))<|pN 2 [64,65] [(65,vB (decide (c.2.2.1≥0)))]<|au (s:=65) (g:=(decide (c.2.2.1≥0))) kr (fun ca=>?_) (fun ca=>?_)
            ·replace d:=ap ca d;refine pN 1 [66] [(66,.pointer (some ⟨j,2,none⟩))]<|br 3 ⟨j,2,none⟩ (vI c.2.2.1) (aI (o.cell 2 rfl))<|pN 1 [68] [(68,.pointer (some ⟨j,1,none⟩))]<|br 3 ⟨j,1,none⟩ (vI c.2.1) (aI (o.cell 1 rfl))<|pN 5 [38,70,71,72,73] [(38,vB (decide (c.2.2.1<c.2.1)))]<|ab ?_;obtain rfl:=sj d;refine ac fun a hd hs ag=>?_;exact ⟨y,bK,z,o,hd,hs,aX ag⟩
            ·replace d:=aq ca d;refine pN 9 [38,66,67,68,69,70,71,72,73] [(38,vB false)]<|ab ?_;obtain rfl:=sj d;refine ac fun a hd hs ag=>?_;exact ⟨y,bK,z,o,hd,hs,aX ag⟩
       ·replace d:=aq b5 d;refine pN 32 [38,43,44,45,46,47,48,49,50,51,52,53,54,55,56,57,58,59,60,61,62,63,64,65,66,67,68,69,70,71,72,73] [(38,vB false)]<|ab ?_;obtain rfl:=sj d;refine ac fun a hd hs ag=>?_;exact ⟨y,bK,z,o,hd,hs,aX ag⟩
      ·rintro a U ⟨cb,el,cc,ah,hd,hs,ag⟩;refine aM ?_ hd hs ag;refine am (b:=dT) kr (fun ch=>?_) (fun ch=>?_)
       ·replace l:=ap ch l;refine aO<|pN 1 [4] [(4,vI 4)]<|ab<|av ?_
        obtain rfl:=sj l;refine aB (aw [vI 4] rfl ⟨kr,trivial⟩ ?_);exact ⟨cb,rfl,cc⟩
       ·replace l:=aq ch l;refine aO<|af l ?_;clear l;intro dU d l
        refine aS (J:=fun a L=>w.grownBy L (some f)∧Sz U L∧bG L f 44 #[vI (wI (i.1+1)),vI i.2]∧bG L j 25 (bh c aY bt m n)∧Qa a 129 [(0,bp f),(3,bp j),(74,vB dU)]) ?_ ?_
        ·refine pN 1 [75] [(75,bp j)]<|br 3 ⟨j,0,none⟩ (vI c.1) (aI (ah.cell 0 rfl))<|pN 2 [77,78] [(78,vB (c.1==7))]<|au (s:=78) (g:=(c.1==7)) kr (fun ck=>?_) (fun ck=>?_)
         ·replace d:=ap ck d;refine pN 1 [79] [(79,.pointer (some ⟨j,1,none⟩))]<|br 3 ⟨j,1,none⟩ (vI c.2.1) (aI (ah.cell 1 rfl))<|pN 3 [74,81,82] [(74,vB (c.2.1 !=0))]<|ab ?_;obtain rfl:=sj d;refine ac fun a hd hs ag=>?_;exact ⟨cb,bK,cc,ah,hd,hs,aX ag⟩
         ·replace d:=aq ck d;refine pN 5 [74,79,80,81,82] [(74,vB false)]<|ab ?_;obtain rfl:=sj d;refine ac fun a hd hs ag=>?_;exact ⟨cb,bK,cc,ah,hd,hs,aX ag⟩
        ·rintro a L ⟨al,em,an,dt,hd,hs,ag⟩;refine aM ?_ hd hs ag;refine af l ?_;clear l;intro d7 d l;refine aE (J:=fun a M=>∃ du:bx,d7= .inl du∧w.grownBy M (some f)∧Sz L M∧bG M f 44 (cm du)∧bG M j 25 (bh c aY bt m n)∧Qa a 129 [(0,bp f),(3,bp j)]) ?_ ?_
         ·refine am (b:=dU) kr (fun cs=>?_) (fun cs=>?_)
          ·replace d:=ap cs d;refine aO<|pN 3 [83,84,85] [(83,bp f),(85,.pointer (some ⟨f,1,none⟩))]<|br 3 ⟨f,1,none⟩ (vI i.2) (aI (an.cell 1 rfl))<|pN 3 [87,88,89] [(87,vI (wI (i.2+1))),(89,.pointer (some ⟨f,1,none⟩))]<|aC 3 1 (vI (wI (i.2+1))) #[vI (wI (i.1+1)),vI (wI (i.2+1))] an kr kr kr ?_;intro d8 ax d1 en;refine cK<|af d ?_;clear d;intro dV p d
           refine aE (J:=fun a bg=>w.grownBy bg (some f)∧Sz d8 bg∧bG bg f 44 #[vI (wI (i.1+1)),vI (wI (i.2+1))]∧bG bg j 25 (bh c aY bt m n)∧Qa a 129 [(0,bp f),(3,bp j),(101,vB dV)]) ?_ ?_
           ·refine cp kr ?_;intro V G;refine bu [0,2,3,4] (bA 12 [0,2,3,4]) 8 kr kr<|pN 4 [90,92,93,94] [(90,.pointer (some ⟨j,1,none⟩)),(94,.pointer (some ⟨f,1,none⟩))]<|ab<|aG<|bf (Cls V []) [1,5] [(1,some true),(5,some true)] (bA 12 [0,1,2,3,4,5]) 6 kr kr (aN _ _) ?_;have eo:=aN V [];have d2:¬ (· =j) f:=fun hx=>nl ((aR dq) _ hx) ((bC c3) _ rfl);have a0:=(dt.grown ax (ad d2)).grown G nb;refine br 3 ⟨j,1,none⟩ (vI c.2.1) (cu fun w' hC'=>((hC'.box a0 bV).cell 1 rfl)) ?_;have cx:=d1.grown G nb;refine br 3 ⟨f,1,none⟩ (vI (wI (i.2+1))) (cu fun w' hC'=>((hC'.box cx bV).cell 1 rfl)) ?_;refine ab<|aG<|bu [6,7,8] (bA 12 [0,1,2,3,4,5,6,7,8]) 3 kr kr<|pN 2 [96,97] [(97,vB (c.2.1 !=(wI (i.2+1))))]<|au (s:=97) (g:=(c.2.1 !=(wI (i.2+1)))) kr (fun c0=>?_) (fun c0=>?_)
            ·replace p:=ap c0 p;refine pN 1 [98] [(98,undef)]<|ab<|aG<|bf (Cls V []) [9] [(9,some true)] (bA 12 [0,1,2,3,4,5,6,7,8,9]) 2 kr kr (aN _ _) ?_;have ep:=aN V [];refine pN 1 [99] [(99,undef)]<|ab<|aG<|bu [10,11] (bA 12 [0,1,2,3,4,5,6,7,8,9,10,11]) 0 kr kr<|pN 2 [100,101] [(101,vB true)]<|ab<|aG<|bH kr ?_;obtain rfl:=sj p;refine ac fun a hd hs ag=>?_;exact ⟨(aa (aa al ax ay) G nb),G.size,cx,a0,hd,hs,aX ag⟩
            ·replace p:=aq c0 p;refine pN 1 [98] [(98,.pointer (some ⟨j,1,none⟩))]<|ab<|aG<|bf (Cls V []) [9] [(9,some true)] (bA 12 [0,1,2,3,4,5,6,7,8,9]) 2 kr kr (aN _ _) ?_;have eq:=aN V [];refine br 3 ⟨j,1,none⟩ (vI c.2.1) (cu fun w' hC'=>((hC'.box a0 bV).cell 1 rfl)) ?_;refine ab<|aG<|bu [10,11] (bA 12 [0,1,2,3,4,5,6,7,8,9,10,11]) 0 kr kr<|pN 2 [100,101] [(101,vB (decide (c.2.1>9)))]<|ab<|aG<|bH kr ?_;obtain rfl:=sj p;refine ac fun a hd hs ag=>?_;exact ⟨(aa (aa al ax ay) G nb),G.size,cx,a0,hd,hs,aX ag⟩
           ·rintro a bg ⟨c6,dx,c7,dy,hd,hs,ag⟩;refine aM ?_ hd hs ag;have dz:=(nt ax.size dx);refine am (b:=dV) kr (fun a1=>?_) (fun a1=>?_)
            ·replace d:=ap a1 d;refine aO<|pN 1 [4] [(4,vI 11)]<|ab<|av ?_
             obtain rfl:=sj d;replace l:=aZ l;obtain rfl:=sj l;refine aB (aw [vI 11] rfl ⟨kr,trivial⟩ ?_);exact ⟨c6,rfl,c7⟩
            ·replace d:=aq a1 d;refine aF ?_;obtain rfl:=sj d;refine ac fun a hd hs ag=>?_;exact ⟨((wI (i.1+1)),wI (i.2+1)),rfl,c6,dz,c7,dy,hd,hs,aX ag⟩
          ·replace d:=aq cs d;refine aU<|af d ?_;clear d;intro dv p d
           refine aE (J:=fun a N=>w.grownBy N (some f)∧Sz L N∧bG N f 44 #[vI (wI (i.1+1)),vI i.2]∧bG N j 25 (bh c aY bt m n)∧Qa a 129 [(0,bp f),(3,bp j),(102,vB dv)]) ?_ ?_
           ·refine cp kr ?_;intro H t;refine bu [0] (bA 13 [0]) 12 kr kr<|pN 1 [103] [(103,bp j)]<|ab<|aG<|bf (Cls H []) [1] [(1,some true)] (bA 13 [0,1]) 11 kr kr (aN _ _) ?_;have d9:=aN H [];have I:=dt.grown t nb;refine br 3 ⟨j,0,none⟩ (vI c.1) (cu fun w' hC'=>((hC'.box I bV).cell 0 rfl)) ?_;refine ab<|aG<|bu [2,3,4,6,7,8] (bA 13 [0,1,2,3,4,6,7,8]) 5 kr kr<|pN 2 [105,106] [(106,vB (c.1==12))]<|au (s:=106) (g:=(c.1==12)) kr (fun a2=>?_) (fun a2=>?_)
            ·replace p:=ap a2 p;refine pN 4 [107,109,110,111] [(107,.pointer (some ⟨j,1,none⟩)),(111,.pointer (some ⟨f,1,none⟩))]<|ab<|aG<|bf (Cls H []) [5,9] [(5,some true),(9,some true)] (bA 13 [0,1,2,3,4,5,6,7,8,9]) 3 kr kr (aN _ _) ?_;have ea:=aN H [];refine br 3 ⟨j,1,none⟩ (vI c.2.1) (cu fun w' hC'=>((hC'.box I bV).cell 1 rfl)) ?_;have c8:=an.grown t nb;refine br 3 ⟨f,1,none⟩ (vI i.2) (cu fun w' hC'=>((hC'.box c8 bV).cell 1 rfl)) ?_;refine ab<|aG<|bu [10,11,12] (bA 13 [0,1,2,3,4,5,6,7,8,9,10,11,12]) 0 kr kr<|pN 3 [102,113,114] [(102,vB (decide (c.2.1>i.2)))]<|ab<|aG<|bH kr ?_;obtain rfl:=sj p;refine ac fun a hd hs ag=>?_;exact ⟨(aa al t nb),t.size,c8,I,hd,hs,aX ag⟩
            ·replace p:=aq a2 p;refine pN 4 [107,109,110,111] [(107,undef),(111,undef)]<|ab<|aG<|bf (Cls H []) [5,9] [(5,some true),(9,some true)] (bA 13 [0,1,2,3,4,5,6,7,8,9]) 3 kr kr (aN _ _) ?_;have eb:=aN H [];refine pN 2 [108,112] [(108,undef),(112,undef)]<|ab<|aG<|bu [10,11,12] (bA 13 [0,1,2,3,4,5,6,7,8,9,10,11,12]) 0 kr kr<|pN 3 [102,113,114] [(102,vB false)]<|ab<|aG<|bH kr ?_;obtain rfl:=sj p;refine ac fun a hd hs ag=>?_;exact ⟨(aa al t nb),t.size,(an.grown t nb),I,hd,hs,aX ag⟩
           ·rintro a N ⟨dg,dA,dk,dB,hd,hs,ag⟩;refine aM ?_ hd hs ag;refine am (b:=dv) kr (fun a3=>?_) (fun a3=>?_)
            ·replace d:=ap a3 d;refine aO<|pN 1 [4] [(4,vI 12)]<|ab<|av ?_
             obtain rfl:=sj d;replace l:=aZ l;obtain rfl:=sj l;refine aB (aw [vI 12] rfl ⟨kr,trivial⟩ ?_);exact ⟨dg,rfl,dk⟩
            ·replace d:=aq a3 d;refine aF ?_;obtain rfl:=sj d;refine ac fun a hd hs ag=>?_;exact ⟨((wI (i.1+1)),i.2),rfl,dg,dA,dk,dB,hd,hs,aX ag⟩
         ·rintro a M ⟨du,e,dC,ec,dD,dE,hd,hs,ag⟩;subst e;refine aM ?_ hd hs ag;replace l:=bS l;refine bI<|aU<|aO<|pN 1 [115] [(115,.pointer (some ⟨j,6,none⟩))]<|br 23 ⟨j,6,none⟩ (vL m c.2.2.2.2.2.2 n) (aI (dE.cell 6 rfl))<|pN 2 [117,118] [(117,vI (lz c.2.2.2.2.2.2)),(118,vI 0)]<|ab<|af l ?_;clear l;intro d3 d l
          refine aE (J:=fun a a4=>∃ c1:bx,d3= .inl c1∧w.grownBy a4 (some f)∧Sz M a4∧bG a4 f 44 (cm c1)∧Qa a 129 []) ?_ ?_
          ·refine aJ<|bX (A:=fun (q:Int × bx) a O=>w.grownBy O (some f)∧Sz M O∧bG O f 44 (cm q.2)∧Qa a 129 [(0,bp f),(116,vL m c.2.2.2.2.2.2 n),(117,vI (lz c.2.2.2.2.2.2)),(118,vI q.1)]) d ?_ ?_
           ·intro a hd hs ag;exact ⟨dC,bK,dD,hd,hs,aX ag⟩
           ·rintro q r2 p dW a O ⟨D,dl,a5,hd,hs,ag⟩;refine aM ?_ hd hs ag;refine aO<|pN 1 [119] [(119,vB (decide (q.1<(lz c.2.2.2.2.2.2))))]<|cK<|am (b:=(decide (q.1<(lz c.2.2.2.2.2.2)))) kr (fun a6=>?_) (fun a6=>?_)
            ·replace p:=ap a6 p;refine aF<|aU<|aJ<|aO<|af p ?_;clear p;intro h dm p
             refine dj .i64 7 (rg C D u) dm bq ?_;obtain ⟨_,⟨_,_,rfl,rfl,⟨_,_,rfl,rfl,⟨_,_,rfl,rfl,⟨_,_,rfl,rfl,⟨_,_,rfl,rfl,⟨_,_,rfl,⟨P,Q,rfl,dF⟩,⟨R,S,rfl,dG⟩⟩⟩⟩⟩⟩⟩,dH⟩:=cells_un (C.cellsK dm);refine laq 25 (bb m ((q.1:Int).toNat*7)) #[vI (Pc.un h).1,vI (Pc.un h).2.1,vI (Pc.un h).2.2.1,vB (Pc.un h).2.2.2.1,vB (Pc.un h).2.2.2.2.1,.slice P (length (Pc.un h).2.2.2.2.2.1) Q,.slice R (length (Pc.un h).2.2.2.2.2.2) S] (aI (dH O (fun k hk=>D.block k (u k hk).1 (fun e=>(u k hk).2 (sj e))))) ?_;refine aP bp cH 25 kr kr ?_;intro c2 er a7 dI bl ed;have dJ:=(nt dl a7.size);refine aC 25 0 (.agg #[vI (Pc.un h).1,vI (Pc.un h).2.1,vI (Pc.un h).2.2.1,vB (Pc.un h).2.2.2.1,vB (Pc.un h).2.2.2.2.1,.slice P (length (Pc.un h).2.2.2.2.2.1) Q,.slice R (length (Pc.un h).2.2.2.2.2.2) S]) #[vI (Pc.un h).1,vI (Pc.un h).2.1,vI (Pc.un h).2.2.1,vB (Pc.un h).2.2.2.1,vB (Pc.un h).2.2.2.2.1,.slice P (length (Pc.un h).2.2.2.2.2.1) Q,.slice R (length (Pc.un h).2.2.2.2.2.2) S] dI kr kr kr ?_;intro d4 a8 dK ee;refine bR<|pN 1 [122] [(122,bp f)]<|di 25 c2 #[vI (Pc.un h).1,vI (Pc.un h).2.1,vI (Pc.un h).2.2.1,vB (Pc.un h).2.2.2.1,vB (Pc.un h).2.2.2.2.1,.slice P (length (Pc.un h).2.2.2.2.2.1) Q,.slice R (length (Pc.un h).2.2.2.2.2.2) S] (aI dK)<|af p ?_;clear p;intro B dL p;have dw:w.heap.size≤c2:=cg bl D.size;have E:=aa (aa D a7 nb) a8 (cf dw);have dM:¬ (· =f) c2:=fun hx=>nl ((aR bl) _ rfl) ((bC a5) _ hx);refine ak kr rfl kr enters21 (r f q.2 P Q R S ((Pc.un h).1,(Pc.un h).2.1,(Pc.un h).2.2.1,(Pc.un h).2.2.2.1,(Pc.un h).2.2.2.2.1,(Pc.un h).2.2.2.2.2.1,(Pc.un h).2.2.2.2.2.2) d4 X0 (jg u E) ((a5.grown a7 nb).grown a8 (ad dM)) (rg dF E u) (rg dG E u) B dL) ?_;rintro es et ⟨a9,rfl,dn⟩;refine pN 1 [7] [(7,vI B.1)]<|bR<|pN 2 [125,126] [(126,vB (B.1 !=0))]<|ab<|am (b:=(B.1 !=0)) kr (fun bd=>?_) (fun bd=>?_)
             ·replace p:=ap bd p;refine aO<|pN 2 [4,127] [(4,vI B.1)]<|ab<|av ?_
              obtain rfl:=sj p;replace d:=congrArg some (dW _ rfl);obtain rfl:=sj d;replace l:=aZ l;obtain rfl:=sj l;refine aB (aw [vI B.1] rfl ⟨kr,trivial⟩ ?_);exact ⟨(aa E a9 ay),rfl,dn⟩
             ·replace p:=aq bd p;refine aF<|bI<|az<|pN 2 [118,128] [(118,vI (wI (q.1+1)))]<|ab ?_;obtain rfl:=sj p;refine ac fun a hd hs ag=>?_;exact ⟨((wI (q.1+1)),B.2),rfl,(aa E a9 ay),(nt (nt dJ a8.size) a9.size),dn,hd,hs,aX ag⟩
            ·replace p:=aq a6 p;refine bO<|bW rfl ?_
             obtain rfl:=sj p;replace d:=congrArg some (dW _ rfl);obtain rfl:=sj d;refine ac fun a hd hs ag=>?_;exact ⟨q.2,rfl,D,dl,a5,hd,hs,aX ag⟩
          ·rintro a a4 ⟨c1,e,dN,ef,dO,hd,hs,ag⟩;subst e;refine aM ?_ hd hs ag;replace l:=bS l;refine aO<|pN 1 [4] [(4,vI 0)]<|ab<|av ?_
           obtain rfl:=sj l;refine aB (aw [vI 0] rfl ⟨kr,trivial⟩ ?_);exact ⟨dN,rfl,dO⟩
theorem grp_regex_survey_look_ok:∀ (ar:Nat),gC21 ar:=by
  intro ar
  induction ar with
  | zero=>unfold gC21;intros;rename_i a;rw[regex_survey_look.eq_1]at a;cases a
  | succ ar ih=>exact regex_survey_look_step ar ih

theorem regex_survey_look_ok (ar:Nat):
    gC21 ar:=
  grp_regex_survey_look_ok ar

theorem cI (ar:Nat) (b:Int) (a:Int) (c:World) (h:bx) (i:regex_at ar b a=some h):
    Cs 22 [vI b,vI a] c (G1 c [.agg (cm h)]):=by
 have e:Bl c c:=Below.refl _ _;unfold regex_at at i;refine aW Tryz.func22 rfl Tryz.ntmps22 kr ?_;refine cj [(0,vI b),(1,vI a)]<|aO<|aP bp #[vI 0,vI 0] 27 kr kr ?_
 intro f q j k g p;refine bR<|pN 3 [5,6,7] [(7,.agg #[vI b,vI a])]<|aC 27 0 (.agg #[vI b,vI a]) #[vI b,vI a] k kr kr kr ?_;intro n l m o;refine ab<|av ?_
 obtain rfl:=sj i;refine aB (aw [.agg #[vI b,vI a]] rfl ⟨⟨⟨f,0,none⟩,kr,run_loadVar_row n f _ 27 _ _ _ m aT rfl kr⟩,trivial⟩ ?_);have d:c.heap.size≤f:=cg g e.size;exact ⟨ae (bg (bg e j nb) l (bc d)),rfl⟩

theorem stringslite_IndexByte_ok (ar:Nat) (a:ByteArray) (b:Int) (c:World) (d:Int) (e:stringslite_IndexByte ar a b=some d):
    Cs 73 [vS a,vU b] c (G1 c [vI d]):=by
 have g:Bl c c:=Below.refl _ _;unfold stringslite_IndexByte at e;refine aW Tryz.func73 rfl Tryz.ntmps73 kr ?_;refine cj [(0,vS a),(1,vU b)]<|aO<|pN 1 [4] []<|bR<|pN 2 [5,6] [(5,vS a),(6,vU b)]<|gv_nat (f:=87) (vs:=[vS a,vU b]) (vI (nIdxB (bytesOf a) b)) [] nofun rfl rfl rfl kr rfl kr kr native87 (fun w' _=>nat_idxS _ _ w') rfl ?_;refine pN 1 [4] [(4,vI (nIdxB (bytesOf a) b))]<|ab<|av ?_
 obtain rfl:=sj e;refine aB (aw [vI (nIdxB (bytesOf a) b)] rfl ⟨kr,trivial⟩ ?_);exact ⟨ae g,rfl⟩

theorem strings_IndexByte_ok (ar:Nat) (a:ByteArray) (b:Int) (c:World) (f:Int) (d:strings_IndexByte ar a b=some f):
    Cs 53 [vS a,vU b] c (G1 c [vI f]):=by
 have g:Bl c c:=Below.refl _ _;unfold strings_IndexByte at d;refine aW Tryz.func53 rfl Tryz.ntmps53 kr ?_;refine cj [(0,vS a),(1,vU b)]<|aO<|pN 1 [4] []<|bR<|pN 2 [5,6] [(5,vS a),(6,vU b)]<|af d ?_;clear d;intro e h d;refine ak kr rfl kr enters73 (stringslite_IndexByte_ok ar a b c e h) ?_;rintro j k ⟨i,rfl⟩;refine pN 1 [4] [(4,vI e)]<|ab<|av ?_
 obtain rfl:=sj d;refine aB (aw [vI e] rfl ⟨kr,trivial⟩ ?_);exact ⟨ae (bg g i nb),rfl⟩

theorem regex_spell_ok (ar:Nat) (c:Int) (e:ByteArray) (h:World) (t:ByteArray) (d:regex_spell ar c e=some t):
    Cs 31 [vI c,vS e] h (G1 h [vS t]):=by
 have j:Bl h h:=Below.refl _ _;unfold regex_spell at d;refine aW Tryz.func31 rfl Tryz.ntmps31 kr ?_;refine cj [(0,vI c),(1,vS e)]<|aO<|pN 1 [4] []<|cK<|aJ<|aO<|pN 3 [5,6,7] [(5,vB (c==10))]<|ab<|am (b:=(c==10)) kr (fun k=>?_) (fun k=>?_)
 ·replace d:=ap k d;refine aO<|pN 1 [4] [(4,vS (ba [92,110]))]<|ab<|av ?_
  obtain rfl:=sj d;refine aB (aw [vS (ba [92,110])] rfl ⟨kr,trivial⟩ ?_);exact ⟨ae j,rfl⟩
 ·replace d:=aq k d;refine aO<|pN 3 [8,9,10] [(8,vB (c==9))]<|ab<|am (b:=(c==9)) kr (fun l=>?_) (fun l=>?_)
  ·replace d:=ap l d;refine aO<|pN 1 [4] [(4,vS (ba [92,116]))]<|ab<|av ?_
   obtain rfl:=sj d;refine aB (aw [vS (ba [92,116])] rfl ⟨kr,trivial⟩ ?_);exact ⟨ae j,rfl⟩
  ·replace d:=aq l d;refine aO<|af d ?_;clear d;intro u f d
   refine aS (J:=fun a q=>Bl h q∧Sz h q∧Qa a 28 [(0,vI c),(11,vB u)]) ?_ ?_
   ·refine pN 3 [12,13,14] [(14,vB (decide (c<128)))]<|au (s:=14) (g:=(decide (c<128))) kr (fun m=>?_) (fun m=>?_)
    ·replace f:=ap m f;refine pN 3 [15,16,17] [(15,vS e),(17,vU (wB (c)))]<|af f ?_;clear f;intro v w f;refine ak kr rfl kr enters53 (strings_IndexByte_ok ar e (wB (c)) h v w) ?_;rintro z A ⟨o,rfl⟩;refine pN 3 [11,19,20] [(11,vB (decide (v≥0)))]<|ab ?_;obtain rfl:=sj f;refine ac fun a hd hs ag=>?_;exact ⟨(bg j o nb),o.size,hd,hs,aX ag⟩
    ·replace f:=aq m f;refine pN 7 [11,15,16,17,18,19,20] [(11,vB false)]<|ab ?_;obtain rfl:=sj f;refine ac fun a hd hs ag=>?_;exact ⟨j,bK,hd,hs,aX ag⟩
   ·rintro a q ⟨n,y,hd,hs,ag⟩;refine aM ?_ hd hs ag;refine am (b:=u) kr (fun i=>?_) (fun i=>?_)
    ·replace d:=ap i d;refine aO<|pN 2 [21,22] [(22,vR (wR (c)))]<|gv_i2s (src:=21) (dst:=9) (kk:=.i32) (x:=(wR (c))) [] nofun rfl rfl rfl kr kr kr bL rfl ?_;refine af d ?_;clear d;intro p r d;refine dd 9 r<|pN 1 [4] [(4,vS p)]<|ab<|av ?_
     obtain rfl:=sj d;refine aB (aw [vS p] rfl ⟨kr,trivial⟩ ?_);exact ⟨ae n,rfl⟩
    ·replace d:=aq i d;refine aF<|bI<|aO<|pN 2 [25,26] [(26,vR (wR (c)))]<|gv_i2s (src:=21) (dst:=9) (kk:=.i32) (x:=(wR (c))) [] nofun rfl rfl rfl kr kr kr bL rfl ?_;refine pN 1 [4] [(4,vS (Utf8.encode (wR (c))))]<|ab<|av ?_
     obtain rfl:=sj d;refine aB (aw [vS (Utf8.encode (wR (c)))] rfl ⟨kr,trivial⟩ ?_);exact ⟨ae n,rfl⟩

theorem regex_class_ok (ar:Nat) (ai:bP) (ao:Nat) (j:bP) (l:Nat) (c:cn) (m:World) (T:Nat→Prop) (M:Lw T m) (aV:Rd (bY (iE .i64) (iE .i64)) m T ai ao c.2.2.2.2.2.1) (a5:Rd pcE m T j l c.2.2.2.2.2.2) (r0:ByteArray) (o:regex_class ar c=some r0):
    Cs 32 [.agg (bh c ai ao j l)] m (G1 m [vS r0]):=by
 have N:Bl m m:=Below.refl _ _;unfold regex_class at o;refine aW Tryz.func32 rfl Tryz.ntmps32 kr ?_;refine cj [(0,.agg (bh c ai ao j l))]<|aO<|aP bp (bh c ai ao j l) 25 kr kr ?_
 intro x w2 O z bs b4;refine pN 1 [2] []<|bR<|pN 1 [3] [(3,vS (ba [91]))]<|cK<|aO<|pN 1 [6] [(6,.pointer (some ⟨x,3,none⟩))]<|br 4 ⟨x,3,none⟩ (vB c.2.2.2.1) (aI (z.cell 3 rfl))<|ab<|af o ?_;clear o;intro j7 n o
 refine aE (J:=fun a y=>Bl m y∧Sz w2 y∧bG y x 25 (bh c ai ao j l)∧Qa a 36 [(1,bp x),(3,vS j7)]) ?_ ?_
 ·refine am (b:=c.2.2.2.1) kr (fun B=>?_) (fun B=>?_)
  ·replace n:=ap B n;refine az<|pN 1 [8] [(8,vS (ba [91]))]<|af n ?_;clear n;intro a7 U n;refine dd 9 U<|pN 1 [3] [(3,vS a7)]<|ab ?_;obtain rfl:=sj n;refine ac fun a hd hs ag=>?_;exact ⟨(bg N O nb),bK,z,hd,hs,aX ag⟩
  ·replace n:=aq B n;refine aF ?_;obtain rfl:=sj n;refine ac fun a hd hs ag=>?_;exact ⟨(bg N O nb),bK,z,hd,hs,aX ag⟩
 ·rintro a y ⟨V,bE,W,hd,hs,ag⟩;refine aM ?_ hd hs ag;refine aU<|aO<|pN 1 [10] [(10,.pointer (some ⟨x,5,none⟩))]<|br 22 ⟨x,5,none⟩ (vL ai c.2.2.2.2.2.1 ao) (aI (W.cell 5 rfl))<|pN 2 [12,13] [(12,vI (lz c.2.2.2.2.2.1)),(13,vI 0)]<|ab<|af o ?_;clear o;intro P n o
  refine aE (J:=fun a C=>Bl m C∧Sz y C∧Qa a 36 [(3,vS P)]) ?_ ?_
  ·refine aJ<|bX (A:=fun (f:ByteArray × Int) a v=>Bl m v∧Sz y v∧Qa a 36 [(3,vS f.1),(11,vL ai c.2.2.2.2.2.1 ao),(12,vI (lz c.2.2.2.2.2.1)),(13,vI f.2)]) n ?_ ?_
   ·intro a hd hs ag;exact ⟨V,bK,hd,hs,aX ag⟩
   ·rintro f r2 e a8 a v ⟨h,D,hd,hs,ag⟩;refine aM ?_ hd hs ag;refine aO<|pN 1 [14] [(14,vB (decide (f.2<(lz c.2.2.2.2.2.1))))]<|cK<|am (b:=(decide (f.2<(lz c.2.2.2.2.2.1)))) kr (fun q=>?_) (fun q=>?_)
    ·replace e:=ap q e;refine aF<|aU<|aJ<|aO<|af e ?_;clear e;intro d E e
     refine dj .i64 2 (aV.below h M) E bm ?_;obtain ⟨_,⟨_,_,rfl,rfl,rfl⟩,X⟩:=aV.cellsK E;refine laq 53 (bb ai ((f.2:Int).toNat*2)) (cm d) (aI (X v (fun k hk=>h.block k (M k hk)))) ?_;refine aP bp #[vI 0,vI 0] 53 kr kr ?_;intro g b5 r Y w b0;refine aC 53 0 (.agg (cm d)) (cm d) Y kr kr kr ?_;intro a9 s F b2;refine bR<|pN 2 [17,18] [(17,vS f.1),(18,bp g)]<|br 3 ⟨g,0,none⟩ (vI d.1) (aI (F.cell 0 rfl))<|af e ?_;clear e;intro bd Z e;refine ak kr rfl kr enters31 (regex_spell_ok ar d.1 (ba [92,93,94,45,91]) a9 bd Z) ?_;rintro b6 Q ⟨p,rfl⟩;refine af e ?_;clear e;intro G ah e;refine dd 9 ah<|pN 1 [3] [(3,vS G)]<|bR<|pN 1 [22] [(22,.pointer (some ⟨g,1,none⟩))] ?_
     have t:=F.grown p nb;refine br 3 ⟨g,1,none⟩ (vI d.2) (aI (t.cell 1 rfl))<|pN 1 [24] [(24,bp g)]<|br 3 ⟨g,0,none⟩ (vI d.1) (aI (t.cell 0 rfl))<|pN 1 [26] [(26,vB (decide (d.2>d.1)))]<|cj [(3,vS G),(5,bp g),(11,vL ai c.2.2.2.2.2.1 ao),(12,vI (lz c.2.2.2.2.2.1)),(13,vI f.2),(26,vB (decide (d.2>d.1)))]<|ab<|af e ?_;clear e;intro R i e
     refine aE (J:=fun a H=>Bl m H∧Sz Q H∧Qa a 36 [(3,vS R),(11,vL ai c.2.2.2.2.2.1 ao),(12,vI (lz c.2.2.2.2.2.1)),(13,vI f.2)]) ?_ ?_
     ·refine am (b:=(decide (d.2>d.1))) kr (fun u=>?_) (fun u=>?_)
      ·replace i:=ap u i;refine az<|pN 2 [27,28] [(27,vS G),(28,.pointer (some ⟨g,1,none⟩))]<|br 3 ⟨g,1,none⟩ (vI d.2) (aI (t.cell 1 rfl))<|af i ?_;clear i;intro be al i;refine ak kr rfl kr enters31 (regex_spell_ok ar d.2 (ba [92,93,94,45,91]) Q be al) ?_;rintro b7 b8 ⟨I,rfl⟩;refine af i ?_;clear i;intro b9 an i;refine dd 9 an<|af i ?_;clear i;intro bl ax i;refine dd 9 ax<|pN 1 [3] [(3,vS bl)]<|ab ?_;obtain rfl:=sj i;refine ac fun a hd hs ag=>?_;have K:m.heap.size≤g:=cg w h.size;exact ⟨(bg (bg (bg h r nb) s (bc K)) (aj p I) nb),I.size,hd,hs,aX ag⟩
      ·replace i:=aq u i;refine aF ?_;obtain rfl:=sj i;refine ac fun a hd hs ag=>?_;have L:m.heap.size≤g:=cg w h.size;exact ⟨(bg (bg (bg h r nb) s (bc L)) p nb),bK,hd,hs,aX ag⟩
     ·rintro a H ⟨a0,a1,hd,hs,ag⟩;refine aM ?_ hd hs ag;have a2:=(nt (nt (nt (nt D r.size) s.size) p.size) a1);refine bI<|az<|pN 2 [13,33] [(13,vI (wI (f.2+1)))]<|ab ?_;obtain rfl:=sj e;refine ac fun a hd hs ag=>?_;exact ⟨(R,wI (f.2+1)),rfl,a0,a2,hd,hs,aX ag⟩
    ·replace e:=aq q e;refine bO<|bW rfl ?_
     obtain rfl:=sj e;replace n:=congrArg some (a8 _ rfl);obtain rfl:=sj n;refine ac fun a hd hs ag=>?_;exact ⟨h,D,hd,hs,aX ag⟩
  ·rintro a C ⟨a3,b3,hd,hs,ag⟩;refine aM ?_ hd hs ag;refine aO<|pN 1 [34] [(34,vS P)]<|af o ?_;clear o;intro S a4 o;refine dd 9 a4<|pN 1 [2] [(2,vS S)]<|ab<|av ?_
   obtain rfl:=sj o;refine aB (aw [vS S] rfl ⟨kr,trivial⟩ ?_);exact ⟨ae a3,rfl⟩

theorem regex_pick_ok (ar:Nat) (c:Bool) (d:ByteArray) (a:ByteArray) (g:World) (i:ByteArray) (e:regex_pick ar c d a=some i):
    Cs 33 [vB c,vS d,vS a] g (G1 g [vS i]):=by
 have h:Bl g g:=Below.refl _ _;unfold regex_pick at e;refine aW Tryz.func33 rfl Tryz.ntmps33 kr ?_;refine cj [(0,vB c),(1,vS d),(2,vS a)]<|aO<|pN 1 [6] []<|cK<|aO<|pN 1 [7] [(7,vB c)]<|ab<|am (b:=c) kr (fun f=>?_) (fun f=>?_)
 ·replace e:=ap f e;refine aO<|pN 2 [6,8] [(6,vS a)]<|ab<|av ?_
  obtain rfl:=sj e;refine aB (aw [vS a] rfl ⟨kr,trivial⟩ ?_);exact ⟨ae h,rfl⟩
 ·replace e:=aq f e;refine aF<|aO<|pN 2 [6,9] [(6,vS d)]<|ab<|av ?_
  obtain rfl:=sj e;refine aB (aw [vS d] rfl ⟨kr,trivial⟩ ?_);exact ⟨ae h,rfl⟩

theorem regex_times_ok (ar:Nat) (ai:bP) (ao:Nat) (f:bP) (h:Nat) (d:cn) (l:World) (u:Nat→Prop) (N:Lw u l) (aV:Rd (bY (iE .i64) (iE .i64)) l u ai ao d.2.2.2.2.2.1) (a9:Rd pcE l u f h d.2.2.2.2.2.2) (T:Rd (tabE 3 pow10C) l u (ro 3) 1 [vW 1]) (r0:ByteArray) (j:regex_times ar d=some r0):
    Cs 35 [.agg (bh d ai ao f h)] l (G1 l [vS r0]):=by
 have be:Bl l l:=Below.refl _ _;unfold regex_times at j;refine aW Tryz.func35 rfl Tryz.ntmps35 kr ?_;refine cj [(0,.agg (bh d ai ao f h))]<|aO<|aP bp (bh d ai ao f h) 25 kr kr ?_
 intro e w2 bl U b5 b9;refine pN 1 [2] []<|bR<|pN 1 [3] []<|cK<|aO<|pN 1 [5] [(5,.pointer (some ⟨e,1,none⟩))]<|br 3 ⟨e,1,none⟩ (vI d.2.1) (aI (U.cell 1 rfl))<|af j ?_;clear j;intro v bn j;have O:=bg be bl nb;refine ak kr rfl kr enters36 (strconv_Itoa_ok ar d.2.1 w2 u (fun k (hk:u k)=>bj (N k hk) O.size) (T.below O N) v bn) ?_;rintro ca bs ⟨z,rfl⟩;refine pN 1 [4] [(4,vS v)]<|ab<|aJ<|aO<|af j ?_;clear j;intro V c j
 refine aS (J:=fun a q=>Bl l q∧Sz bs q∧bG q e 25 (bh d ai ao f h)∧Qa a 64 [(1,bp e),(4,vS v),(16,vB V)]) ?_ ?_
 ·refine pN 1 [17] [(17,.pointer (some ⟨e,2,none⟩))] ?_;have r:=U.grown z nb;refine br 3 ⟨e,2,none⟩ (vI d.2.2.1) (aI (r.cell 2 rfl))<|pN 2 [19,20] [(20,vB (d.2.2.1==(-1)))]<|au (s:=20) (g:=(d.2.2.1==(-1))) kr (fun A=>?_) (fun A=>?_)
  ·replace c:=ap A c;refine pN 1 [21] [(21,.pointer (some ⟨e,1,none⟩))]<|br 3 ⟨e,1,none⟩ (vI d.2.1) (aI (r.cell 1 rfl))<|pN 3 [16,23,24] [(16,vB (d.2.1==0))]<|ab ?_;obtain rfl:=sj c;refine ac fun a hd hs ag=>?_;exact ⟨(bg O z nb),bK,r,hd,hs,aX ag⟩
  ·replace c:=aq A c;refine pN 5 [16,21,22,23,24] [(16,vB false)]<|ab ?_;obtain rfl:=sj c;refine ac fun a hd hs ag=>?_;exact ⟨(bg O z nb),bK,r,hd,hs,aX ag⟩
 ·rintro a q ⟨B,b6,o,hd,hs,ag⟩;refine aM ?_ hd hs ag;refine af j ?_;clear j;intro W c j;refine aE (J:=fun a w=>Bl l w∧Sz q w∧bG w e 25 (bh d ai ao f h)∧Qa a 64 [(1,bp e),(3,vS W)]) ?_ ?_
  ·refine am (b:=V) kr (fun C=>?_) (fun C=>?_)
   ·replace c:=ap C c;refine az<|pN 1 [3] [(3,vS (ba [42]))]<|ab ?_;obtain rfl:=sj c;refine ac fun a hd hs ag=>?_;exact ⟨B,bK,o,hd,hs,aX ag⟩
   ·replace c:=aq C c;refine aO<|af c ?_;clear c;intro X m c
    refine aS (J:=fun a x=>Bl l x∧Sz q x∧bG x e 25 (bh d ai ao f h)∧Qa a 64 [(1,bp e),(4,vS v),(25,vB X)]) ?_ ?_
    ·refine pN 1 [26] [(26,.pointer (some ⟨e,2,none⟩))]<|br 3 ⟨e,2,none⟩ (vI d.2.2.1) (aI (o.cell 2 rfl))<|pN 2 [28,29] [(29,vB (d.2.2.1==(-1)))]<|au (s:=29) (g:=(d.2.2.1==(-1))) kr (fun D=>?_) (fun D=>?_)
     ·replace m:=ap D m;refine pN 1 [30] [(30,.pointer (some ⟨e,1,none⟩))]<|br 3 ⟨e,1,none⟩ (vI d.2.1) (aI (o.cell 1 rfl))<|pN 3 [25,32,33] [(25,vB (d.2.1==1))]<|ab ?_;obtain rfl:=sj m;refine ac fun a hd hs ag=>?_;exact ⟨B,bK,o,hd,hs,aX ag⟩
     ·replace m:=aq D m;refine pN 5 [25,30,31,32,33] [(25,vB false)]<|ab ?_;obtain rfl:=sj m;refine ac fun a hd hs ag=>?_;exact ⟨B,bK,o,hd,hs,aX ag⟩
    ·rintro a x ⟨E,P,p,hd,hs,ag⟩;refine aM ?_ hd hs ag;refine am (b:=X) kr (fun F=>?_) (fun F=>?_)
     ·replace c:=ap F c;refine az<|pN 1 [3] [(3,vS (ba [43]))]<|ab ?_;obtain rfl:=sj c;refine ac fun a hd hs ag=>?_;exact ⟨E,P,p,hd,hs,aX ag⟩
     ·replace c:=aq F c;refine aO<|af c ?_;clear c;intro Y m c
      refine aS (J:=fun a y=>Bl l y∧Sz x y∧bG y e 25 (bh d ai ao f h)∧Qa a 64 [(1,bp e),(4,vS v),(34,vB Y)]) ?_ ?_
      ·refine pN 1 [35] [(35,.pointer (some ⟨e,1,none⟩))]<|br 3 ⟨e,1,none⟩ (vI d.2.1) (aI (p.cell 1 rfl))<|pN 2 [37,38] [(38,vB (d.2.1==0))]<|au (s:=38) (g:=(d.2.1==0)) kr (fun G=>?_) (fun G=>?_)
       ·replace m:=ap G m;refine pN 1 [39] [(39,.pointer (some ⟨e,2,none⟩))]<|br 3 ⟨e,2,none⟩ (vI d.2.2.1) (aI (p.cell 2 rfl))<|pN 3 [34,41,42] [(34,vB (d.2.2.1==1))]<|ab ?_;obtain rfl:=sj m;refine ac fun a hd hs ag=>?_;exact ⟨E,bK,p,hd,hs,aX ag⟩
       ·replace m:=aq G m;refine pN 5 [34,39,40,41,42] [(34,vB false)]<|ab ?_;obtain rfl:=sj m;refine ac fun a hd hs ag=>?_;exact ⟨E,bK,p,hd,hs,aX ag⟩
      ·rintro a y ⟨n,ah,i,hd,hs,ag⟩;refine aM ?_ hd hs ag;have t:=(nt P ah);refine am (b:=Y) kr (fun H=>?_) (fun H=>?_)
       ·replace c:=ap H c;refine az<|pN 1 [3] [(3,vS (ba [63]))]<|ab ?_;obtain rfl:=sj c;refine ac fun a hd hs ag=>?_;exact ⟨n,t,i,hd,hs,aX ag⟩
       ·replace c:=aq H c;refine aO<|pN 1 [44] [(44,.pointer (some ⟨e,2,none⟩))]<|br 3 ⟨e,2,none⟩ (vI d.2.2.1) (aI (i.cell 2 rfl))<|pN 2 [43,46] [(43,vB (d.2.2.1==(-1)))]<|ab<|am (b:=(d.2.2.1==(-1))) kr (fun I=>?_) (fun I=>?_)
        ·replace c:=ap I c;refine az<|pN 1 [47] [(47,vS v)]<|af c ?_;clear c;intro cb al c;refine dd 9 al<|af c ?_;clear c;intro bA an c;refine dd 9 an<|pN 1 [3] [(3,vS bA)]<|ab ?_;obtain rfl:=sj c;refine ac fun a hd hs ag=>?_;exact ⟨n,t,i,hd,hs,aX ag⟩
        ·replace c:=aq I c;refine aO<|pN 1 [51] [(51,.pointer (some ⟨e,2,none⟩))]<|br 3 ⟨e,2,none⟩ (vI d.2.2.1) (aI (i.cell 2 rfl))<|pN 1 [53] [(53,.pointer (some ⟨e,1,none⟩))]<|br 3 ⟨e,1,none⟩ (vI d.2.1) (aI (i.cell 1 rfl))<|pN 2 [50,55] [(50,vB (d.2.2.1==d.2.1))]<|ab<|am (b:=(d.2.2.1==d.2.1)) kr (fun K=>?_) (fun K=>?_)
         ·replace c:=ap K c;refine az<|pN 1 [56] [(56,vS v)]<|af c ?_;clear c;intro cc ax c;refine dd 9 ax<|af c ?_;clear c;intro bE a0 c;refine dd 9 a0<|pN 1 [3] [(3,vS bE)]<|ab ?_;obtain rfl:=sj c;refine ac fun a hd hs ag=>?_;exact ⟨n,t,i,hd,hs,aX ag⟩
         ·replace c:=aq K c;refine az<|pN 1 [8] [(8,vS v)]<|af c ?_;clear c;intro ch a1 c;refine dd 9 a1<|af c ?_;clear c;intro b0 a2 c;refine dd 9 a2<|pN 1 [11] [(11,.pointer (some ⟨e,2,none⟩))]<|br 3 ⟨e,2,none⟩ (vI d.2.2.1) (aI (i.cell 2 rfl))<|af c ?_;clear c;intro Z a3 c;refine ak kr rfl kr enters36 (strconv_Itoa_ok ar d.2.2.1 y u (fun k (hk:u k)=>bj (N k hk) n.size) (T.below n N) Z a3) ?_;rintro ck cs ⟨L,rfl⟩;refine cj [(1,bp e),(10,vS b0),(13,vS Z)]<|af c ?_;clear c;intro cx a4 c;refine dd 9 a4<|af c ?_;clear c;intro b2 a5 c;refine dd 9 a5<|pN 1 [3] [(3,vS b2)]<|ab ?_;obtain rfl:=sj c;refine ac fun a hd hs ag=>?_;exact ⟨(bg n L nb),(nt t L.size),(i.grown L nb),hd,hs,aX ag⟩
  ·rintro a w ⟨Q,b7,a6,hd,hs,ag⟩;refine aM ?_ hd hs ag;refine bI<|aU<|aO<|pN 1 [59] [(59,.pointer (some ⟨e,4,none⟩))]<|br 4 ⟨e,4,none⟩ (vB d.2.2.2.2.1) (aI (a6.cell 4 rfl))<|ab<|af j ?_;clear j;intro R c j
   refine aE (J:=fun a S=>Bl l S∧Sz w S∧Qa a 64 [(3,vS R)]) ?_ ?_
   ·refine am (b:=d.2.2.2.2.1) kr (fun M=>?_) (fun M=>?_)
    ·replace c:=ap M c;refine az<|pN 1 [61] [(61,vS W)]<|af c ?_;clear c;intro b3 a7 c;refine dd 9 a7<|pN 1 [3] [(3,vS b3)]<|ab ?_;obtain rfl:=sj c;refine ac fun a hd hs ag=>?_;exact ⟨Q,bK,hd,hs,aX ag⟩
    ·replace c:=aq M c;refine aF ?_;obtain rfl:=sj c;refine ac fun a hd hs ag=>?_;exact ⟨Q,bK,hd,hs,aX ag⟩
   ·rintro a S ⟨a8,b8,hd,hs,ag⟩;refine aM ?_ hd hs ag;refine aO<|pN 2 [2,63] [(2,vS R)]<|ab<|av ?_
    obtain rfl:=sj j;refine aB (aw [vS R] rfl ⟨kr,trivial⟩ ?_);exact ⟨ae a8,rfl⟩

abbrev gC16 (ar:Nat):Prop:=∀ (ai:bP) (ao:Nat) (a:bP) (b:Nat) (c:cn) (d:World) (e:Nat→Prop) (h:Lw e d) (aV:Rd (bY (iE .i64) (iE .i64)) d e ai ao c.2.2.2.2.2.1) (f:Rd pcE d e a b c.2.2.2.2.2.2) (i:Rd (tabE 3 pow10C) d e (ro 3) 1 [vW 1]) (g:ByteArray),regex_text ar c=some g→Calls aA 16 ([.agg (bh c ai ao a b)]:List Value).toArray d (Ret fun v w'=>d.grownBy w' none∧v=tup [vS g])
set_option maxHeartbeats 4000000 in
set_option maxRecDepth 100000 in
theorem regex_text_step (ar:Nat) (E:gC16 ar) (ai:bP) (ao:Nat) (l:bP) (m:Nat) (d:cn) (u:World) (F:Nat→Prop) (p:Lw F u) (aV:Rd (bY (iE .i64) (iE .i64)) u F ai ao d.2.2.2.2.2.1) (y:Rd pcE u F l m d.2.2.2.2.2.2) (c8:Rd (tabE 3 pow10C) u F (ro 3) 1 [vW 1]) (r0:ByteArray) (c:regex_text (ar+1) d=some r0):
    Cs 16 [.agg (bh d ai ao l m)] u (G1 u [vS r0]):=by
 have ek:Bl u u:=Below.refl _ _;rw[regex_text.eq_2]at c;refine aW Tryz.func16 rfl Tryz.ntmps16 kr ?_;refine cj [(0,.agg (bh d ai ao l m))]<|aO<|aP bp (bh d ai ao l m) 25 kr kr ?_
 intro n w2 el dV ep eW;refine pN 1 [2] []<|bR<|pN 1 [3] [(3,vL none ([]:List ByteArray) 0)]<|cK<|aO<|pN 1 [6] [(6,.pointer (some ⟨n,6,none⟩))]<|br 23 ⟨n,6,none⟩ (vL l d.2.2.2.2.2.2 m) (aI (dV.cell 6 rfl))<|pN 2 [8,9] [(8,vI (lz d.2.2.2.2.2.2)),(9,vI 0)]<|ab<|af c ?_;clear c;intro P h1 c
 refine aE (J:=fun a H=>∃ (o:bP) (z:Nat),Bl u H∧Sz w2 H∧aD sE 9 H (fun _=>False) o z P∧(Lo u o)∧(∀ g,aH o=some g→¬ (· =n) g)∧¬ (fun k=>aH o=some k) n∧bG H n 25 (bh d ai ao l m)∧Qa a 82 [(1,bp n),(3,vL o P z)]) ?_ ?_
 ·refine aJ<|bX (A:=fun (I:(List ByteArray) × Int) a Q=>∃ (o:bP) (z:Nat),Bl u Q∧Sz w2 Q∧aD sE 9 Q (fun _=>False) o z I.1∧(Lo u o)∧(∀ g,aH o=some g→¬ (· =n) g)∧¬ (fun k=>aH o=some k) n∧bG Q n 25 (bh d ai ao l m)∧Qa a 82 [(1,bp n),(3,vL o I.1 z),(7,vL l d.2.2.2.2.2.2 m),(8,vI (lz d.2.2.2.2.2.2)),(9,vI I.2)]) h1 ?_ ?_
  ·intro a hd hs ag;exact ⟨none,0,(bg ek el nb),bK,aD.nil sE 9 w2 (fun _=>False),(fun _ h=>by cases h),(fun _ h=>by cases h),(fun h=>by cases h),dV,hd,hs,aX ag⟩
  ·rintro I r2 v em a Q ⟨q,dg,K,dk,L,b0,b2,dl,b3,hd,hs,ag⟩;refine aM ?_ hd hs ag;refine aO<|pN 1 [10] [(10,vB (decide (I.2<(lz d.2.2.2.2.2.2))))]<|cK<|am (b:=(decide (I.2<(lz d.2.2.2.2.2.2)))) kr (fun b4=>?_) (fun b4=>?_)
   ·replace v:=ap b4 v;refine aF<|aU<|aJ<|aO<|af v ?_;clear v;intro f dm v
    refine dj .i64 7 (y.below K p) dm bq ?_;obtain ⟨_,⟨_,_,rfl,rfl,⟨_,_,rfl,rfl,⟨_,_,rfl,rfl,⟨_,_,rfl,rfl,⟨_,_,rfl,rfl,⟨_,_,rfl,⟨be,bl,rfl,dZ⟩,⟨bn,bs,rfl,d0⟩⟩⟩⟩⟩⟩⟩,d1⟩:=cells_un (y.cellsK dm);refine laq 25 (bb l ((I.2:Int).toNat*7)) #[vI (Pc.un f).1,vI (Pc.un f).2.1,vI (Pc.un f).2.2.1,vB (Pc.un f).2.2.2.1,vB (Pc.un f).2.2.2.2.1,.slice be (length (Pc.un f).2.2.2.2.2.1) bl,.slice bn (length (Pc.un f).2.2.2.2.2.2) bs] (aI (d1 Q (fun k hk=>K.block k (p k hk)))) ?_;refine aP bp cH 25 kr kr ?_;intro R eX M d2 G eq;refine aC 25 0 (.agg #[vI (Pc.un f).1,vI (Pc.un f).2.1,vI (Pc.un f).2.2.1,vB (Pc.un f).2.2.2.1,vB (Pc.un f).2.2.2.2.1,.slice be (length (Pc.un f).2.2.2.2.2.1) bl,.slice bn (length (Pc.un f).2.2.2.2.2.2) bs]) #[vI (Pc.un f).1,vI (Pc.un f).2.1,vI (Pc.un f).2.2.1,vB (Pc.un f).2.2.2.1,vB (Pc.un f).2.2.2.2.1,.slice be (length (Pc.un f).2.2.2.2.2.1) bl,.slice bn (length (Pc.un f).2.2.2.2.2.2) bs] d2 kr kr kr ?_;intro en N dn er;refine ab<|az<|pN 1 [13] [(13,vL q I.1 dg)]<|di 25 R #[vI (Pc.un f).1,vI (Pc.un f).2.1,vI (Pc.un f).2.2.1,vB (Pc.un f).2.2.2.1,vB (Pc.un f).2.2.2.2.1,.slice be (length (Pc.un f).2.2.2.2.2.1) bl,.slice bn (length (Pc.un f).2.2.2.2.2.2) bs] (aI dn)<|af v ?_;clear v;intro bE d3 v;have dz:u.heap.size≤R:=cg G K.size;have O:=bg (bg K M nb) N (bc dz);refine ak kr rfl kr enters16 (E be bl bn bs ((Pc.un f).1,(Pc.un f).2.1,(Pc.un f).2.2.1,(Pc.un f).2.2.2.1,(Pc.un f).2.2.2.2.1,(Pc.un f).2.2.2.2.2.1,(Pc.un f).2.2.2.2.2.2) en F (fun k (hk:F k)=>bj (p k hk) O.size) (dZ.below O p) (d0.below O p) (c8.below O p) bE d3) ?_;rintro eY eZ ⟨S,rfl⟩;refine aP (fun b=>.slice (ro b) 1 1) #[vS bE] 9 kr kr ?_;intro s eo b5 d4 T es;have b6:aD sE 9 eo (fun _=>False) (ro s) 1 ([bE]:List ByteArray):=bM d4 ⟨[vS bE],[],rfl,rfl,rfl⟩ (show 1≤maxLen by decide) (fun h=>h);have dp:=bg O S nb;have et:Lo u (ro s):=loo T dp.size;refine af v ?_;clear v;intro dq d5 v;have b7:¬ (fun k=>aH q=some k) R:=fun hx=>nl ((aR G) _ rfl) ((fun k (hk:aH q=some k)=>L.lt k hk) _ hx);have b8:=(aj S b5);refine cv sE (t:=61) (ty:=61) (e:=9) (a:=q) (ax:=(ro s)) (cap:=dg) (cx:=1) (xs:=I.1) (ys:=([bE]:List ByteArray)) dq (X:=(fun _=>False)) (Y:=(fun k=>aH (ro s)=some k)) cN rfl rfl kr kr cT info9 (((L.grown M (fun _ h=>h.elim) nb).grown N (fun _ h=>h.elim) (de (ad b7))).grown b8 (fun _ h=>h.elim) nb) (b6.rd (Y:=fun k=>aH (ro s)=some k) (fun _ h=>h.elim) (fun g e=>e)) d5 (.inr fun _ _ _ _ _ h=>h) (fun _ h=>h.elim) ?_;intro B dW e0 b9 d6 w;refine ⟨nofun,?_⟩;have dr:=bg dp b5 nb;have d7:Lo u B:=cG w b0 dr.size;have ca:=((b3.grown M nb).grown N (ad (ng (bj ((bC b3) _ rfl) ((aR G) _ rfl))))).grown b8 nb;have d8:∀ g,aH B=some g→¬ (· =n) g:=bU w b2 (bC ca);have d9:¬ (fun k=>aH B=some k) n:=fun h=>cl w (fun h=>(dl) h) (ca.lt) h;have ea:∀ g,aH q=some g→¬ (· =R) g:=fun g e hx=>nl ((aR G) _ hx) ((fun k (hk:aH q=some k)=>L.lt k hk) g e);have ds:=dn.grown b8 nb;have eu:∀ g,aH B=some g→¬ (· =R) g:=bU w ea (bC ds);have ev:¬ (fun k=>aH B=some k) R:=fun h=>cl w (fun h=>(b7) h) (ds.lt) h;have dt:=((L.grown M (fun _ h=>h.elim) nb).grown N (fun _ h=>h.elim) (de (ad b7))).grown S (fun _ h=>h.elim) nb;have eb:Ap q (ro s):=fun g e hx=>nl ((bN T) _ hx) ((fun k (hk:aH q=some k)=>dt.lt k hk) g e);have ew:Ap B (ro s):=bU w eb (fun k (hk:aH (ro s)=some k)=>b6.lt k hk);have ec:Ap (ro s) q:=fun g e hx=>nl ((bN T) g e) ((fun k (hk:aH q=some k)=>dt.lt k hk) _ hx);have ex:Ap (ro s) B:=fun g e h=>cl w (fun h=>((ec) g e) h) (b6.lt g e) h;refine pN 1 [3] [(3,vL B dq dW)]<|ab<|bI<|az<|pN 2 [9,18] [(9,vI (wI (I.2+1)))]<|ab ?_;obtain rfl:=sj v;refine ac fun a hd hs ag=>?_;exact ⟨(dq,wI (I.2+1)),rfl,B,dW,(bg dr b9 b0),(nt (nt (nt (nt (nt dk M.size) N.size) S.size) b5.size) b9.size),d6,d7,d8,d9,(ca.grown b9 b2),hd,hs,aX ag⟩
   ·replace v:=aq b4 v;refine bO<|bW rfl ?_
    obtain rfl:=sj v;replace h1:=congrArg some (em _ rfl);obtain rfl:=sj h1;refine ac fun a hd hs ag=>?_;exact ⟨q,dg,K,dk,L,b0,b2,dl,b3,hd,hs,aX ag⟩
 ·rintro a H ⟨i,D,j,ey,x,ez,eA,eB,r,hd,hs,ag⟩;refine aM ?_ hd hs ag;refine aU<|aO<|pN 1 [19] [(19,bp n)]<|br 3 ⟨n,0,none⟩ (vI d.1) (aI (r.cell 0 rfl))<|ab<|aJ<|aO<|pN 2 [21,22] [(21,vB (d.1==1))]<|ab<|am (b:=(d.1==1)) kr (fun U=>?_) (fun U=>?_)
  ·replace c:=ap U c;refine aO<|pN 1 [23] [(23,.pointer (some ⟨n,1,none⟩))]<|br 3 ⟨n,1,none⟩ (vI d.2.1) (aI (r.cell 1 rfl))<|af c ?_;clear c;intro cb dA c;refine ak kr rfl kr enters31 (regex_spell_ok ar d.2.1 (ba [92,46,94,36,42,43,63,40,41,91,93,123,125,124]) H cb dA) ?_;rintro eC eD ⟨dB,rfl⟩;refine pN 1 [2] [(2,vS cb)]<|ab<|av ?_
   obtain rfl:=sj c;refine aB (aw [vS cb] rfl ⟨kr,trivial⟩ ?_);exact ⟨ae (bg j dB nb),rfl⟩
  ·replace c:=aq U c;refine aO<|pN 2 [26,27] [(26,vB (d.1==2))]<|ab<|am (b:=(d.1==2)) kr (fun V=>?_) (fun V=>?_)
   ·replace c:=ap V c;refine aO<|pN 1 [2] [(2,vS (ba [46]))]<|ab<|av ?_
    obtain rfl:=sj c;refine aB (aw [vS (ba [46])] rfl ⟨kr,trivial⟩ ?_);exact ⟨ae j,rfl⟩
   ·replace c:=aq V c;refine aO<|pN 2 [28,29] [(28,vB (d.1==3))]<|ab<|am (b:=(d.1==3)) kr (fun W=>?_) (fun W=>?_)
    ·replace c:=ap W c;refine aO<|di 25 n (bh d ai ao l m) (aI r)<|af c ?_;clear c;intro cc dC c;refine ak kr rfl kr enters32 (regex_class_ok ar ai ao l m d H F (fun k (hk:F k)=>bj (p k hk) j.size) (aV.below j p) (y.below j p) cc dC) ?_;rintro eE eF ⟨dD,rfl⟩;refine pN 1 [2] [(2,vS cc)]<|ab<|av ?_
     obtain rfl:=sj c;refine aB (aw [vS cc] rfl ⟨kr,trivial⟩ ?_);exact ⟨ae (bg j dD nb),rfl⟩
    ·replace c:=aq W c;refine aO<|pN 2 [32,33] [(32,vB (d.1==4))]<|ab<|am (b:=(d.1==4)) kr (fun Z=>?_) (fun Z=>?_)
     ·replace c:=ap Z c;refine aO<|pN 1 [2] [(2,vS (ba [94]))]<|ab<|av ?_
      obtain rfl:=sj c;refine aB (aw [vS (ba [94])] rfl ⟨kr,trivial⟩ ?_);exact ⟨ae j,rfl⟩
     ·replace c:=aq Z c;refine aO<|pN 2 [34,35] [(34,vB (d.1==5))]<|ab<|am (b:=(d.1==5)) kr (fun ah=>?_) (fun ah=>?_)
      ·replace c:=ap ah c;refine aO<|pN 1 [2] [(2,vS (ba [36]))]<|ab<|av ?_
       obtain rfl:=sj c;refine aB (aw [vS (ba [36])] rfl ⟨kr,trivial⟩ ?_);exact ⟨ae j,rfl⟩
      ·replace c:=aq ah c;refine aO<|pN 2 [36,37] [(36,vB (d.1==6))]<|ab<|am (b:=(d.1==6)) kr (fun al=>?_) (fun al=>?_)
       ·replace c:=ap al c;refine aO<|pN 1 [38] [(38,.pointer (some ⟨n,3,none⟩))]<|br 4 ⟨n,3,none⟩ (vB d.2.2.2.1) (aI (r.cell 3 rfl))<|af c ?_;clear c;intro ch dE c;refine ak kr rfl kr enters33 (regex_pick_ok ar d.2.2.2.1 (ba [92,98]) (ba [92,66]) H ch dE) ?_;rintro eG eH ⟨dF,rfl⟩;refine pN 1 [2] [(2,vS ch)]<|ab<|av ?_
        obtain rfl:=sj c;refine aB (aw [vS ch] rfl ⟨kr,trivial⟩ ?_);exact ⟨ae (bg j dF nb),rfl⟩
       ·replace c:=aq al c;refine aO<|pN 2 [41,42] [(41,vB (d.1==7))]<|ab<|am (b:=(d.1==7)) kr (fun an=>?_) (fun an=>?_)
        ·replace c:=ap an c;refine aU<|cp kr ?_
         intro ck a0;refine bu [0,4,5] (bA 10 [0,4,5]) 7 kr kr<|pN 2 [43,47] [(43,.pointer (some ⟨n,1,none⟩)),(47,vL i P D)]<|af c ?_;clear c;intro du c2 c;have a1:=x.grown a0 (fun _ h=>h.elim) nb;refine dj .i64 1 (a1.rd (Y:=fun k=>aH i=some k) (fun _ h=>h.elim) (fun g e=>e)) c2 cT ?_;refine ab<|aG<|bf (Cls ck []) [1,2,3,6] [(1,some true),(2,some true),(6,some true),(3,some false)] (bA 10 [0,1,2,3,4,5,6]) 3 kr kr (aN _ _)<|br 3 ⟨n,1,none⟩ (vI d.2.1) (cu fun w' hC'=>((hC'.box (r.grown a0 nb) bV).cell 1 rfl)) ?_;refine pN 1 [45] [(45,vB (d.2.1==0))]<|br 9 (bb i ((0:Int).toNat*1)) (vS du) (cu fun w' hC'=>((hC'.rd (a1.rd (Y:=fun k=>aH i=some k) (fun _ h=>h.elim) (fun g e=>e)) (fun k (hk:aH i=some k)=>a1.lt k hk) cJ).cell c2)) ?_;refine cj [(45,vB (d.2.1==0)),(49,vS du)]<|af c ?_;clear c;intro ed dG c;refine clq enters33 (regex_pick_ok ar (d.2.1==0) (ba [40]) (ba [40,63,58]) ck ed dG) ?_;rintro eI eJ ⟨c3,rfl⟩;refine ⟨(fun _=>(aN ck []).grown c3 nb),?_⟩;refine ab<|aG<|bu [7,8,9] (bA 10 [0,1,2,3,4,5,6,7,8,9]) 0 kr kr<|af c ?_;clear c;intro eK dH c;refine dd 9 dH<|af c ?_;clear c;intro dv dI c;refine dd 9 dI<|pN 1 [2] [(2,vS dv)]<|ab<|aG<|bH kr<|av ?_;obtain rfl:=sj c;refine aB (aw [vS dv] rfl ⟨kr,trivial⟩ ?_);exact ⟨ae (bg j (aj a0 c3) nb),rfl⟩
        ·replace c:=aq an c;refine aO<|pN 2 [52,53] [(52,vB (d.1==8))]<|ab<|am (b:=(d.1==8)) kr (fun a2=>?_) (fun a2=>?_)
         ·replace c:=ap a2 c;refine aO<|pN 1 [54] [(54,vL i P D)]<|af c ?_;clear c;intro cs dJ c;refine ak kr rfl kr enters34 (strings_Join_ok ar i D P (ba []) H (fun k=>aH i=some k) (fun k (hk:aH i=some k)=>x.lt k hk) (x.rd (Y:=fun k=>aH i=some k) (fun _ h=>h.elim) (fun g e=>e)) cs dJ) ?_;rintro eL eM ⟨dK,rfl⟩;refine pN 1 [2] [(2,vS cs)]<|ab<|av ?_
          obtain rfl:=sj c;refine aB (aw [vS cs] rfl ⟨kr,trivial⟩ ?_);exact ⟨ae (bg j dK nb),rfl⟩
         ·replace c:=aq a2 c;refine aO<|pN 2 [56,57] [(56,vB (d.1==9))]<|ab<|am (b:=(d.1==9)) kr (fun a3=>?_) (fun a3=>?_)
          ·replace c:=ap a3 c;refine aO<|pN 1 [58] [(58,vL i P D)]<|af c ?_;clear c;intro a4 dL c;refine ak kr rfl kr enters34 (strings_Join_ok ar i D P (ba [124]) H (fun k=>aH i=some k) (fun k (hk:aH i=some k)=>x.lt k hk) (x.rd (Y:=fun k=>aH i=some k) (fun _ h=>h.elim) (fun g e=>e)) a4 dL) ?_;rintro eN eO ⟨dM,rfl⟩;refine pN 1 [2] [(2,vS a4)]<|cj [(2,vS a4)]<|ab<|av ?_
           obtain rfl:=sj c;refine aB (aw [vS a4] rfl ⟨kr,trivial⟩ ?_);exact ⟨ae (bg j dM nb),rfl⟩
          ·replace c:=aq a3 c;refine aO<|pN 2 [60,61] [(60,vB (d.1==10))]<|ab<|am (b:=(d.1==10)) kr (fun a5=>?_) (fun a5=>?_)
           ·replace c:=ap a5 c;refine aU<|cp kr ?_
            intro c0 a6;refine bu [0,1] (bA 7 [0,1]) 5 kr kr<|pN 1 [62] [(62,vL i P D)]<|af c ?_;clear c;intro ee c4 c;have a7:=x.grown a6 (fun _ h=>h.elim) nb;refine dj .i64 1 (a7.rd (Y:=fun k=>aH i=some k) (fun _ h=>h.elim) (fun g e=>e)) c4 cT ?_;refine ab<|aG<|bf (Cls c0 []) [2,3,4] [(2,some true),(3,some true),(4,some false)] (bA 7 [0,1,2,3,4]) 2 kr kr (aN _ _)<|cj [(1,bp n),(63,.pointer (some (bb i ((0:Int).toNat*1))))]<|br 9 (bb i ((0:Int).toNat*1)) (vS ee) (cu fun w' hC'=>((hC'.rd (a7.rd (Y:=fun k=>aH i=some k) (fun _ h=>h.elim) (fun g e=>e)) (fun k (hk:aH i=some k)=>a7.lt k hk) cJ).cell c4)) ?_;refine di 25 n (bh d ai ao l m) (cu fun w' hC'=>(hC'.box (r.grown a6 nb) bV)) ?_;refine af c ?_;clear c;intro ef dN c;have C:=bg j a6 nb;refine clq enters35 (regex_times_ok ar ai ao l m d c0 F (fun k (hk:F k)=>bj (p k hk) C.size) (aV.below C p) (y.below C p) (c8.below C p) ef dN) ?_;rintro eP eQ ⟨c5,rfl⟩;refine ⟨(fun _=>(aN c0 []).grown c5 nb),?_⟩;refine ab<|aG<|bu [5,6] (bA 7 [0,1,2,3,4,5,6]) 0 kr kr<|af c ?_;clear c;intro dw dO c;refine dd 9 dO<|pN 1 [2] [(2,vS dw)]<|ab<|aG<|bH kr<|av ?_;obtain rfl:=sj c;refine aB (aw [vS dw] rfl ⟨kr,trivial⟩ ?_);exact ⟨ae (bg C c5 nb),rfl⟩
           ·replace c:=aq a5 c;refine aO<|pN 2 [68,69] [(68,vB (d.1==11))]<|ab<|am (b:=(d.1==11)) kr (fun a8=>?_) (fun a8=>?_)
            ·replace c:=ap a8 c;refine aU<|cp kr ?_
             intro c1 a9;refine bu [0,3,4] (bA 9 [0,3,4]) 6 kr kr<|pN 2 [70,73] [(70,.pointer (some ⟨n,3,none⟩)),(73,vL i P D)]<|cj [(70,.pointer (some ⟨n,3,none⟩)),(73,vL i P D)]<|af c ?_;clear c;intro eg c6 c;have bd:=x.grown a9 (fun _ h=>h.elim) nb;refine dj .i64 1 (bd.rd (Y:=fun k=>aH i=some k) (fun _ h=>h.elim) (fun g e=>e)) c6 cT ?_;refine ab<|aG<|bf (Cls c1 []) [1,2,5] [(1,some true),(5,some true),(2,some false)] (bA 9 [0,1,2,3,4,5]) 3 kr kr (aN _ _)<|br 4 ⟨n,3,none⟩ (vB d.2.2.2.1) (cu fun w' hC'=>((hC'.box (r.grown a9 nb) bV).cell 3 rfl)) ?_;refine br 9 (bb i ((0:Int).toNat*1)) (vS eg) (cu fun w' hC'=>((hC'.rd (bd.rd (Y:=fun k=>aH i=some k) (fun _ h=>h.elim) (fun g e=>e)) (fun k (hk:aH i=some k)=>bd.lt k hk) cJ).cell c6)) ?_;refine af c ?_;clear c;intro eh dP c;refine clq enters33 (regex_pick_ok ar d.2.2.2.1 (ba [40,63,61]) (ba [40,63,33]) c1 eh dP) ?_;rintro eR eS ⟨c7,rfl⟩;refine ⟨(fun _=>(aN c1 []).grown c7 nb),?_⟩;refine ab<|aG<|bu [6,7,8] (bA 9 [0,1,2,3,4,5,6,7,8]) 0 kr kr<|af c ?_;clear c;intro eT dQ c;refine dd 9 dQ<|af c ?_;clear c;intro dx dR c;refine dd 9 dR<|pN 1 [2] [(2,vS dx)]<|ab<|aG<|bH kr<|av ?_;obtain rfl:=sj c;refine aB (aw [vS dx] rfl ⟨kr,trivial⟩ ?_);exact ⟨ae (bg j (aj a9 c7) nb),rfl⟩
            ·replace c:=aq a8 c;refine aF<|bI<|aO<|pN 1 [78] [(78,.pointer (some ⟨n,1,none⟩))]<|cj [(78,.pointer (some ⟨n,1,none⟩))]<|br 3 ⟨n,1,none⟩ (vI d.2.1) (aI (r.cell 1 rfl))<|af c ?_;clear c;intro ei dS c;refine ak kr rfl kr enters36 (strconv_Itoa_ok ar d.2.1 H F (fun k (hk:F k)=>bj (p k hk) j.size) (c8.below j p) ei dS) ?_;rintro eU eV ⟨dT,rfl⟩;refine af c ?_;clear c;intro dy dU c;refine dd 9 dU<|pN 1 [2] [(2,vS dy)]<|ab<|av ?_
             obtain rfl:=sj c;refine aB (aw [vS dy] rfl ⟨kr,trivial⟩ ?_);exact ⟨ae (bg j dT nb),rfl⟩
theorem grp_regex_text_ok:∀ (ar:Nat),gC16 ar:=by
  intro ar
  induction ar with
  | zero=>unfold gC16;intros;rename_i a;rw[regex_text.eq_1]at a;cases a
  | succ ar ih=>exact regex_text_step ar ih

theorem regex_text_ok (ar:Nat):
    gC16 ar:=
  grp_regex_text_ok ar

theorem regex_Check_ok (ar:Nat) (ai:bP) (ao:Nat) (c:bP) (d:Nat) (f:cn) (l:World) (p:Nat→Prop) (j:Lw p l) (aV:Rd (bY (iE .i64) (iE .i64)) l p ai ao f.2.2.2.2.2.1) (u:Rd pcE l p c d f.2.2.2.2.2.2) (an:Rd (tabE 3 pow10C) l p (ro 3) 1 [vW 1]) (r0:bx) (a:regex_Check ar f=some r0):
    Cs 10 [.agg (bh f ai ao c d)] l (G1 l [.agg (cm r0)]):=by
 have v:Bl l l:=Below.refl _ _;unfold regex_Check at a;refine aW Tryz.func10 rfl Tryz.ntmps10 kr ?_;refine cj [(0,.agg (bh f ai ao c d))]<|aO<|aP bp (bh f ai ao c d) 25 kr kr ?_
 intro b1 w2 w M a6 bl;refine aP bp #[vI 0,vI 0] 27 kr kr ?_;intro q w8 N n m a7;refine bR<|aP bp #[vI 0,vI 0] 44 kr kr ?_
 intro x a1 r P s a8;refine cK<|aU<|az ?_
 have E:=(aj N r);have F:=M.grown E nb;refine di 25 b1 (bh f ai ao c d) (aI F)<|af a ?_;clear a;intro g Q a;have o:=bg v (aj w E) nb;have t:l.heap.size≤x:=cg s (bg v (aj w N) nb).size;refine ak kr rfl kr enters21 (regex_survey_look_ok ar x (0,0) ai ao c d f a1 p (fun k hk=>⟨(fun k (hk:p k)=>bj (j k hk) o.size) k hk,fun e=>(fun (hx:p x)=>nl t (j _ hx)) (e ▸ hk)⟩) P (aV.below o j) (u.below o j) g Q) ?_;rintro bn O ⟨h,rfl,R⟩;refine pN 1 [4] [(4,vI g.1)]<|bR<|pN 2 [7,8] [(8,vB (g.1 !=0))]<|ab<|am (b:=(g.1 !=0)) kr (fun y=>?_) (fun y=>?_)
 ·replace a:=ap y a;refine aO<|pN 2 [9,10] [(9,vI g.1),(10,bp x)]<|br 3 ⟨x,0,none⟩ (vI g.2.1) (aI (R.cell 0 rfl))<|pN 1 [12] [(12,vI (wI (g.2.1-1)))]<|af a ?_;clear a;intro C S a;refine ak kr rfl kr db (cI ar g.1 (wI (g.2.1-1)) O C S) ?_;rintro bs bA ⟨G,rfl⟩;refine aC 27 0 (.agg (cm C)) (cm C) (((n.grown r nb).grown h (ad (ng (bj ((bC n) _ rfl) ((aR s) _ rfl))))).grown G nb) kr kr kr ?_;intro a2 T U a9;refine ab<|av ?_
  obtain rfl:=sj a;refine aB (aw [.agg (cm C)] rfl ⟨⟨⟨q,0,none⟩,kr,run_loadVar_row a2 q _ 27 _ _ _ U aT rfl kr⟩,trivial⟩ ?_);have J:l.heap.size≤q:=cg m (bg v w nb).size;exact ⟨ae (bg (bg (bg o h (bc t)) G nb) T (bc J)),rfl⟩
 ·replace a:=aq y a;refine aF<|aU<|aU<|az ?_
  have z:=bj ((bC n) _ rfl) ((aR s) _ rfl);refine di 25 b1 (bh f ai ao c d) (aI (F.grown h (ad (ng (ltt (bj ((bC M) _ rfl) ((aR m) _ rfl)) z)))))<|af a ?_;clear a;intro H V a;have i:=bg o h (bc t);refine ak kr rfl kr enters16 (regex_text_ok ar ai ao c d f O p (fun k (hk:p k)=>bj (j k hk) i.size) (aV.below i j) (u.below i j) (an.below i j) H V) ?_;rintro bE a3 ⟨A,rfl⟩;refine pN 2 [16,17] [(17,vB (decide ((bz H)>200)))]<|ab<|am (b:=(decide ((bz H)>200))) kr (fun B=>?_) (fun B=>?_)
  ·replace a:=ap B a;refine aO<|af a ?_;clear a;intro D W a
   refine ak kr rfl kr db (cI ar 3 (-1) a3 D W) ?_;rintro b0 b2 ⟨X,rfl⟩;have I:=(aj A X);refine aC 27 0 (.agg (cm D)) (cm D) (((n.grown r nb).grown h (ad (ng z))).grown I nb) kr kr kr ?_;intro a4 Y Z bd;refine ab<|av ?_
   obtain rfl:=sj a;refine aB (aw [.agg (cm D)] rfl ⟨⟨⟨q,0,none⟩,kr,run_loadVar_row a4 q _ 27 _ _ _ Z aT rfl kr⟩,trivial⟩ ?_);have K:l.heap.size≤q:=cg m (bg v w nb).size;exact ⟨ae (bg (bg i I nb) Y (bc K)),rfl⟩
  ·replace a:=aq B a;refine aF<|aO<|pN 1 [19] [(19,.agg #[vI 0,vI 0])]<|aC 27 0 (.agg #[vI 0,vI 0]) #[vI 0,vI 0] (((n.grown r nb).grown h (ad (ng z))).grown A nb) kr kr kr ?_;intro a5 ah al be;refine ab<|av ?_
   obtain rfl:=sj a;refine aB (aw [.agg #[vI 0,vI 0]] rfl ⟨⟨⟨q,0,none⟩,kr,run_loadVar_row a5 q _ 27 _ _ _ al aT rfl kr⟩,trivial⟩ ?_);have L:l.heap.size≤q:=cg m (bg v w nb).size;exact ⟨ae (bg (bg i A nb) ah (bc L)),rfl⟩

theorem regex_Print_ok (ar:Nat) (ai:bP) (ao:Nat) (a:bP) (c:Nat) (f:cn) (j:World) (p:Nat→Prop) (i:Lw p j) (aV:Rd (bY (iE .i64) (iE .i64)) j p ai ao f.2.2.2.2.2.1) (q:Rd pcE j p a c f.2.2.2.2.2.2) (O:Rd (tabE 3 pow10C) j p (ro 3) 1 [vW 1]) (S:ByteArray × bx) (g:regex_Print ar f=some S):
    Cs 6 [.agg (bh f ai ao a c)] j (G1 j [vS S.1,.agg (cm S.2)]):=by
 have A:Bl j j:=Below.refl _ _;unfold regex_Print at g;refine aW Tryz.func6 rfl Tryz.ntmps6 kr ?_;refine cj [(0,.agg (bh f ai ao a c))]<|aO<|aP bp (bh f ai ao a c) 25 kr kr ?_
 intro b1 w2 B P a0 a8;refine pN 1 [2] []<|aP bp #[vI 0,vI 0] 27 kr kr ?_;intro s w8 Q w o a2;refine cK<|aU<|az ?_
 have C:=P.grown Q nb;refine di 25 b1 (bh f ai ao a c) (aI C)<|af g ?_;clear g;intro d T g;have e:=bg A (aj B Q) nb;refine ak kr rfl kr enters10 (regex_Check_ok ar ai ao a c f w8 p (fun k (hk:p k)=>bj (i k hk) e.size) (aV.below e i) (q.below e i) (O.below e i) d T) ?_;rintro a9 bd ⟨h,rfl⟩;refine aP bp #[vI 0,vI 0] 27 kr kr ?_;intro r be x U l a3;refine aC 27 0 (.agg (cm d)) (cm d) U kr kr kr ?_;intro al m D a4;refine bR<|pN 1 [7] [(7,bp r)]<|br 3 ⟨r,0,none⟩ (vI d.1) (aI (D.cell 0 rfl))<|pN 1 [9] [(9,vB (d.1 !=0))]<|ab<|am (b:=(d.1 !=0)) kr (fun y=>?_) (fun y=>?_)
 ·replace g:=ap y g;refine aU<|cp kr ?_
  intro R z;refine bu [1] (bA 3 [1]) 2 kr kr<|pN 1 [2] [(2,vS (ba []))]<|ab<|aG<|bf (Cls R []) [0] [(0,some true)] (bA 3 [0,1]) 1 kr kr (aN _ _) ?_;have a5:=aN R [];refine di 27 r (cm d) (cu fun w' hC'=>(hC'.box (D.grown z nb) bV)) ?_;refine ab<|aG<|bf (fun _=>True) [2] [(2,some false)] (bA 3 [0,1,2]) 0 kr kr trivial ?_;have E:=(aj h x);refine gv_store (t:=27) (b:=s) (off:=0) (v:=(.agg #[.int .i64 d.1,.int .i64 d.2])) (t':=27) (cs:=#[.int .i64 0,.int .i64 0]) #[.int .i64 d.1,.int .i64 d.2] cN rfl rfl kr kr kr (by intro u hu;simp[Value.cells]at hu;rcases hu with rfl | rfl<;>rfl) (show 0+2≤2 by decide) (by rfl) (((w.grown E nb).grown m (ad (ng (bj ((bC (w.grown h nb)) _ rfl) ((aR l) _ rfl))))).grown z nb) ?_;intro an V W a6;refine ⟨(fun _=>trivial),?_⟩;refine ab<|aG<|bH kr<|av ?_;obtain rfl:=sj g;refine aB (aw [vS (ba []),.agg (cm d)] rfl ⟨kr,⟨⟨s,0,none⟩,kr,run_loadVar_row an s _ 27 _ _ _ W aT rfl kr⟩,trivial⟩ ?_);have K:j.heap.size≤r:=cg l (bg e h nb).size;have L:j.heap.size≤s:=cg o (bg A B nb).size;exact ⟨ae (bg (bg (bg (bg e E nb) m (bc K)) z nb) V (bc L)),rfl⟩
 ·replace g:=aq y g;refine aF<|aU<|az ?_
  have F:=(aj h x);have G:=w.grown h nb;have H:=bj ((bC G) _ rfl) ((aR l) _ rfl);refine di 25 b1 (bh f ai ao a c) (aI ((C.grown F nb).grown m (ad (ng (ltt (bj ((bC P) _ rfl) ((aR o) _ rfl)) H)))))<|af g ?_;clear g;intro I X g;have M:j.heap.size≤r:=cg l (bg e h nb).size;have n:=bg (bg e F nb) m (bc M);refine ak kr rfl kr enters16 (regex_text_ok ar ai ao a c f al p (fun k (hk:p k)=>bj (i k hk) n.size) (aV.below n i) (q.below n i) (O.below n i) I X) ?_;rintro bl bn ⟨J,rfl⟩;refine pN 2 [2,13] [(2,vS I),(13,.agg #[vI 0,vI 0])]<|aC 27 0 (.agg #[vI 0,vI 0]) #[vI 0,vI 0] (((G.grown x nb).grown m (ad (ng H))).grown J nb) kr kr kr ?_;intro ax Y Z a7;refine ab<|av ?_
  obtain rfl:=sj g;refine aB (aw [vS I,.agg #[vI 0,vI 0]] rfl ⟨kr,⟨⟨s,0,none⟩,kr,run_loadVar_row ax s _ 27 _ _ _ Z aT rfl kr⟩,trivial⟩ ?_);have N:j.heap.size≤s:=cg o (bg A B nb).size;exact ⟨ae (bg (bg n J nb) Y (bc N)),rfl⟩

abbrev gC17 (ar:Nat):Prop:=∀ (ai:bP) (ao:Nat) (a:bP) (b:Nat) (c:cn) (d:World) (e:Nat→Prop) (h:Lw e d) (aV:Rd (bY (iE .i64) (iE .i64)) d e ai ao c.2.2.2.2.2.1) (f:Rd pcE d e a b c.2.2.2.2.2.2) (g:Int),regex_groups ar c=some g→Calls aA 17 ([.agg (bh c ai ao a b)]:List Value).toArray d (Ret fun v w'=>d.grownBy w' none∧v=tup [vI g])
set_option maxHeartbeats 4000000 in
set_option maxRecDepth 100000 in
theorem regex_groups_step (ar:Nat) (h:gC17 ar) (ai:bP) (ao:Nat) (e:bP) (f:Nat) (d:cn) (j:World) (B:Nat→Prop) (o:Lw B j) (aV:Rd (bY (iE .i64) (iE .i64)) j B ai ao d.2.2.2.2.2.1) (p:Rd pcE j B e f d.2.2.2.2.2.2) (r0:Int) (q:regex_groups (ar+1) d=some r0):
    Cs 17 [.agg (bh d ai ao e f)] j (G1 j [vI r0]):=by
 have O:Bl j j:=Below.refl _ _;rw[regex_groups.eq_2]at q;refine aW Tryz.func17 rfl Tryz.ntmps17 kr ?_;refine cj [(0,.agg (bh d ai ao e f))]<|aO<|aP bp (bh d ai ao e f) 25 kr kr ?_
 intro r w2 P x a0 a6;refine pN 1 [2] []<|bR<|pN 1 [3] [(3,vI 0)]<|cK<|aO<|pN 1 [6] [(6,bp r)]<|br 3 ⟨r,0,none⟩ (vI d.1) (aI (x.cell 0 rfl))<|pN 1 [8] [(8,vB (d.1==7))]<|ab<|af q ?_;clear q;intro j7 m q
 refine aE (J:=fun a z=>Bl j z∧Sz w2 z∧bG z r 25 (bh d ai ao e f)∧Qa a 25 [(1,bp r),(3,vI j7)]) ?_ ?_
 ·refine am (b:=(d.1==7)) kr (fun C=>?_) (fun C=>?_)
  ·replace m:=ap C m;refine az<|pN 1 [9] [(9,.pointer (some ⟨r,1,none⟩))]<|br 3 ⟨r,1,none⟩ (vI d.2.1) (aI (x.cell 1 rfl))<|pN 2 [3,11] [(3,vI (if 1<d.2.1 then 1 else d.2.1))]<|ab ?_;obtain rfl:=sj m;refine ac fun a hd hs ag=>?_;exact ⟨(bg O P nb),bK,x,hd,hs,aX ag⟩
  ·replace m:=aq C m;refine aF ?_;obtain rfl:=sj m;refine ac fun a hd hs ag=>?_;exact ⟨(bg O P nb),bK,x,hd,hs,aX ag⟩
 ·rintro a z ⟨R,a2,S,hd,hs,ag⟩;refine aM ?_ hd hs ag;refine aU<|aO<|pN 1 [12] [(12,.pointer (some ⟨r,6,none⟩))]<|br 23 ⟨r,6,none⟩ (vL e d.2.2.2.2.2.2 f) (aI (S.cell 6 rfl))<|pN 2 [14,15] [(14,vI (lz d.2.2.2.2.2.2)),(15,vI 0)]<|ab<|af q ?_;clear q;intro D m q
  refine aE (J:=fun a E=>Bl j E∧Sz z E∧Qa a 25 [(3,vI D)]) ?_ ?_
  ·refine aJ<|bX (A:=fun (g:bx) a y=>Bl j y∧Sz z y∧Qa a 25 [(3,vI g.1),(13,vL e d.2.2.2.2.2.2 f),(14,vI (lz d.2.2.2.2.2.2)),(15,vI g.2)]) m ?_ ?_
   ·intro a hd hs ag;exact ⟨R,bK,hd,hs,aX ag⟩
   ·rintro g r2 i al a y ⟨l,F,hd,hs,ag⟩;refine aM ?_ hd hs ag;refine aO<|pN 1 [16] [(16,vB (decide (g.2<(lz d.2.2.2.2.2.2))))]<|cK<|am (b:=(decide (g.2<(lz d.2.2.2.2.2.2)))) kr (fun w=>?_) (fun w=>?_)
    ·replace i:=ap w i;refine aF<|aU<|aJ<|aO<|af i ?_;clear i;intro c G i
     refine dj .i64 7 (p.below l o) G bq ?_;obtain ⟨_,⟨_,_,rfl,rfl,⟨_,_,rfl,rfl,⟨_,_,rfl,rfl,⟨_,_,rfl,rfl,⟨_,_,rfl,rfl,⟨_,_,rfl,⟨s,t,rfl,T⟩,⟨u,v,rfl,U⟩⟩⟩⟩⟩⟩⟩,V⟩:=cells_un (p.cellsK G);refine laq 25 (bb e ((g.2:Int).toNat*7)) #[vI (Pc.un c).1,vI (Pc.un c).2.1,vI (Pc.un c).2.2.1,vB (Pc.un c).2.2.2.1,vB (Pc.un c).2.2.2.2.1,.slice s (length (Pc.un c).2.2.2.2.2.1) t,.slice u (length (Pc.un c).2.2.2.2.2.2) v] (aI (V y (fun k hk=>l.block k (o k hk)))) ?_;refine aP bp cH 25 kr kr ?_;intro Q a7 H W M a3;refine aC 25 0 (.agg #[vI (Pc.un c).1,vI (Pc.un c).2.1,vI (Pc.un c).2.2.1,vB (Pc.un c).2.2.2.1,vB (Pc.un c).2.2.2.2.1,.slice s (length (Pc.un c).2.2.2.2.2.1) t,.slice u (length (Pc.un c).2.2.2.2.2.2) v]) #[vI (Pc.un c).1,vI (Pc.un c).2.1,vI (Pc.un c).2.2.1,vB (Pc.un c).2.2.2.1,vB (Pc.un c).2.2.2.2.1,.slice s (length (Pc.un c).2.2.2.2.2.1) t,.slice u (length (Pc.un c).2.2.2.2.2.2) v] W kr kr kr ?_;intro an I X a4;refine ab<|az<|pN 1 [19] [(19,vI g.1)]<|di 25 Q #[vI (Pc.un c).1,vI (Pc.un c).2.1,vI (Pc.un c).2.2.1,vB (Pc.un c).2.2.2.1,vB (Pc.un c).2.2.2.2.1,.slice s (length (Pc.un c).2.2.2.2.2.1) t,.slice u (length (Pc.un c).2.2.2.2.2.2) v] (aI X)<|af i ?_;clear i;intro K Y i;have N:j.heap.size≤Q:=cg M l.size;have n:=bg (bg l H nb) I (bc N);refine ak kr rfl kr enters17 (h s t u v ((Pc.un c).1,(Pc.un c).2.1,(Pc.un c).2.2.1,(Pc.un c).2.2.2.1,(Pc.un c).2.2.2.2.1,(Pc.un c).2.2.2.2.2.1,(Pc.un c).2.2.2.2.2.2) an B (fun k (hk:B k)=>bj (o k hk) n.size) (T.below n o) (U.below n o) K Y) ?_;rintro a8 a9 ⟨L,rfl⟩;refine pN 2 [3,22] [(3,vI (wI (g.1+K)))]<|ab<|bI<|az<|pN 2 [15,23] [(15,vI (wI (g.2+1)))]<|ab ?_;obtain rfl:=sj i;refine ac fun a hd hs ag=>?_;exact ⟨((wI (g.1+K)),wI (g.2+1)),rfl,(bg n L nb),(nt (nt (nt F H.size) I.size) L.size),hd,hs,aX ag⟩
    ·replace i:=aq w i;refine bO<|bW rfl ?_
     obtain rfl:=sj i;replace m:=congrArg some (al _ rfl);obtain rfl:=sj m;refine ac fun a hd hs ag=>?_;exact ⟨l,F,hd,hs,aX ag⟩
  ·rintro a E ⟨Z,a5,hd,hs,ag⟩;refine aM ?_ hd hs ag;refine aO<|pN 2 [2,24] [(2,vI D)]<|ab<|av ?_
   obtain rfl:=sj q;refine aB (aw [vI D] rfl ⟨kr,trivial⟩ ?_);exact ⟨ae Z,rfl⟩
theorem grp_regex_groups_ok:∀ (ar:Nat),gC17 ar:=by
  intro ar
  induction ar with
  | zero=>unfold gC17;intros;rename_i a;rw[regex_groups.eq_1]at a;cases a
  | succ ar ih=>exact regex_groups_step ar ih

theorem regex_groups_ok (ar:Nat):
    gC17 ar:=
  grp_regex_groups_ok ar

theorem regex_Groups_ok (ar:Nat) (ai:bP) (ao:Nat) (a:bP) (c:Nat) (f:cn) (i:World) (p:Nat→Prop) (l:Lw p i) (aV:Rd (bY (iE .i64) (iE .i64)) i p ai ao f.2.2.2.2.2.1) (q:Rd pcE i p a c f.2.2.2.2.2.2) (Z:Rd (tabE 3 pow10C) i p (ro 3) 1 [vW 1]) (R:Int × bx) (g:regex_Groups ar f=some R):
    Cs 7 [.agg (bh f ai ao a c)] i (G1 i [vI R.1,.agg (cm R.2)]):=by
 have A:Bl i i:=Below.refl _ _;unfold regex_Groups at g;refine aW Tryz.func7 rfl Tryz.ntmps7 kr ?_;refine cj [(0,.agg (bh f ai ao a c))]<|aO<|aP bp (bh f ai ao a c) 25 kr kr ?_
 intro b1 w2 B O a0 a8;refine pN 1 [2] []<|aP bp #[vI 0,vI 0] 27 kr kr ?_;intro s w8 P w n a2;refine cK<|aU<|az ?_
 have C:=O.grown P nb;refine di 25 b1 (bh f ai ao a c) (aI C)<|af g ?_;clear g;intro d S g;have e:=bg A (aj B P) nb;refine ak kr rfl kr enters10 (regex_Check_ok ar ai ao a c f w8 p (fun k (hk:p k)=>bj (l k hk) e.size) (aV.below e l) (q.below e l) (Z.below e l) d S) ?_;rintro a9 bd ⟨h,rfl⟩;refine aP bp #[vI 0,vI 0] 27 kr kr ?_;intro r be x T j a3;refine aC 27 0 (.agg (cm d)) (cm d) T kr kr kr ?_;intro al m D a4;refine bR<|pN 1 [7] [(7,bp r)]<|br 3 ⟨r,0,none⟩ (vI d.1) (aI (D.cell 0 rfl))<|pN 1 [9] [(9,vB (d.1 !=0))]<|ab<|am (b:=(d.1 !=0)) kr (fun y=>?_) (fun y=>?_)
 ·replace g:=ap y g;refine aU<|cp kr ?_
  intro Q z;refine bu [1] (bA 3 [1]) 2 kr kr<|pN 1 [2] [(2,vI 0)]<|ab<|aG<|bf (Cls Q []) [0] [(0,some true)] (bA 3 [0,1]) 1 kr kr (aN _ _) ?_;have a5:=aN Q [];refine di 27 r (cm d) (cu fun w' hC'=>(hC'.box (D.grown z nb) bV)) ?_;refine ab<|aG<|bf (fun _=>True) [2] [(2,some false)] (bA 3 [0,1,2]) 0 kr kr trivial ?_;have E:=(aj h x);refine gv_store (t:=27) (b:=s) (off:=0) (v:=(.agg #[.int .i64 d.1,.int .i64 d.2])) (t':=27) (cs:=#[.int .i64 0,.int .i64 0]) #[.int .i64 d.1,.int .i64 d.2] cN rfl rfl kr kr kr (by intro u hu;simp[Value.cells]at hu;rcases hu with rfl | rfl<;>rfl) (show 0+2≤2 by decide) (by rfl) (((w.grown E nb).grown m (ad (ng (bj ((bC (w.grown h nb)) _ rfl) ((aR j) _ rfl))))).grown z nb) ?_;intro an U V a6;refine ⟨(fun _=>trivial),?_⟩;refine ab<|aG<|bH kr<|av ?_;obtain rfl:=sj g;refine aB (aw [vI 0,.agg (cm d)] rfl ⟨kr,⟨⟨s,0,none⟩,kr,run_loadVar_row an s _ 27 _ _ _ V aT rfl kr⟩,trivial⟩ ?_);have K:i.heap.size≤r:=cg j (bg e h nb).size;have L:i.heap.size≤s:=cg n (bg A B nb).size;exact ⟨ae (bg (bg (bg (bg e E nb) m (bc K)) z nb) U (bc L)),rfl⟩
 ·replace g:=aq y g;refine aF<|aU<|az ?_
  have F:=(aj h x);have G:=w.grown h nb;have H:=bj ((bC G) _ rfl) ((aR j) _ rfl);refine di 25 b1 (bh f ai ao a c) (aI ((C.grown F nb).grown m (ad (ng (ltt (bj ((bC O) _ rfl) ((aR n) _ rfl)) H)))))<|af g ?_;clear g;intro I W g;have M:i.heap.size≤r:=cg j (bg e h nb).size;have o:=bg (bg e F nb) m (bc M);refine ak kr rfl kr enters17 (regex_groups_ok ar ai ao a c f al p (fun k (hk:p k)=>bj (l k hk) o.size) (aV.below o l) (q.below o l) I W) ?_;rintro bl bn ⟨J,rfl⟩;refine pN 2 [2,13] [(2,vI I),(13,.agg #[vI 0,vI 0])]<|aC 27 0 (.agg #[vI 0,vI 0]) #[vI 0,vI 0] (((G.grown x nb).grown m (ad (ng H))).grown J nb) kr kr kr ?_;intro ax X Y a7;refine ab<|av ?_
  obtain rfl:=sj g;refine aB (aw [vI I,.agg #[vI 0,vI 0]] rfl ⟨kr,⟨⟨s,0,none⟩,kr,run_loadVar_row ax s _ 27 _ _ _ Y aT rfl kr⟩,trivial⟩ ?_);have N:i.heap.size≤s:=cg n (bg A B nb).size;exact ⟨ae (bg (bg o J nb) X (bc N)),rfl⟩

abbrev gC18 (ar:Nat):Prop:=∀ (ai:bP) (ao:Nat) (c:bP) (d:Nat) (e:cn) (aY:bP) (bt:Nat) (a:List Pc) (b:World) (h:Nat→Prop) (l:∀ k,h k→k<b.heap.size∧aH aY≠some k) (cC:aD pcE 25 b h aY bt a) (aV:Rd (bY (iE .i64) (iE .i64)) b h ai ao e.2.2.2.2.2.1) (j:Rd pcE b h c d e.2.2.2.2.2.2) (i:List Pc),ref4_preorder ar e a=some i→Calls aA 18 ([.agg (bh e ai ao c d),vL aY a bt]:List Value).toArray b (Ret fun v w'=>b.grownBy w' (aH aY)∧∃ (bB:bP) (bF:Nat),∃ (f:Nat→Prop),v=tup [vL bB i bF]∧aD pcE 25 w' f bB bF i∧(∀ g,aH bB=some g→aH aY=some g∨b.heap.size≤g)∧(Sxb f w' h b))
set_option maxHeartbeats 4000000 in
set_option maxRecDepth 100000 in
theorem ref4_preorder_step (ar:Nat) (z:gC18 ar) (ai:bP) (ao:Nat) (f:bP) (j:Nat) (d:cn) (aY:bP) (bt:Nat) (l:List Pc) (p:World) (i:Nat→Prop) (c:∀ k,i k→k<p.heap.size∧aH aY≠some k) (cC:aD pcE 25 p i aY bt l) (aV:Rd (bY (iE .i64) (iE .i64)) p i ai ao d.2.2.2.2.2.1) (G:Rd pcE p i f j d.2.2.2.2.2.2) (r0:List Pc) (E:ref4_preorder (ar+1) d l=some r0):
    Cs 18 [.agg (bh d ai ao f j),vL aY l bt] p (Ret fun v w'=>p.grownBy w' (aH aY)∧∃ (bB:bP) (bF:Nat),∃ (be:Nat→Prop),v=tup [vL bB r0 bF]∧aD pcE 25 w' be bB bF r0∧(∀ g,aH bB=some g→aH aY=some g∨p.heap.size≤g)∧(Sxb be w' i p)):=by
 have b0:p.grownBy p (aH aY):=ci _ _;rw[ref4_preorder.eq_2]at E;refine aW Tryz.func18 rfl Tryz.ntmps18 kr ?_;refine cj [(0,.agg (bh d ai ao f j)),(1,vL aY l bt)]<|aO<|aP bp (bh d ai ao f j) 25 kr kr ?_
 intro r w2 N bg ah d5;refine pN 1 [4] []<|cK<|aO<|pN 3 [6,7,8] [(8,vB (decide ((lz l)>60)))]<|ab<|am (b:=(decide ((lz l)>60))) kr (fun b2=>?_) (fun b2=>?_)
 ·replace E:=ap b2 E;refine aO<|pN 2 [4,9] [(4,vL aY l bt)]<|ab<|av ?_
  obtain rfl:=sj E;refine aB (aw [vL aY l bt] rfl ⟨kr,trivial⟩ ?_);exact ⟨(ce b0 N nb),aY,bt,i,rfl,(cC.grown N (fun k hk=>(c k hk).1) nb),(fun g e=>Or.inl e),(fun k hk=>⟨(bk (fun k hk=>(c k hk).1) N.size) k hk,(fun k hk=>Or.inl hk) k hk⟩)⟩
 ·replace E:=aq b2 E;refine aF<|aO<|pN 1 [10] [(10,vL aY l bt)]<|di 25 r (bh d ai ao f j) (aI bg)<|aP (fun b=>.slice (ro b) 1 1) (bh d ai ao f j) 25 kr kr ?_;intro n bl H dB y d1;obtain ⟨o,e⟩:∃ X:Nat→Prop,X=(fun k=>i k):=⟨_,rfl⟩;have al:=ce b0 N nb;have b3:∀ k,o k→k<w2.heap.size:=fun k h=>by rw[e]at h;exact (fun k (hk:i k)=>bj (c k hk).1 al.size) k h
  have b4:∀ k,o k→k<bl.heap.size:=fun k h=>bj (b3 k h) H.size;have dC:∀ k,o k→i k∨p.heap.size≤k:=fun k h=>by rw[e]at h;exact (fun k (hk:i k)=>Or.inl hk) k h
  have P:=ce al H nb;have an:aD pcE 25 bl o (ro n) 1 ([Pc.of d]:List Pc):=bM dB (by rw[e];exact ⟨[vI d.1,vI d.2.1,vI d.2.2.1,vB d.2.2.2.1,vB d.2.2.2.2.1,vL ai d.2.2.2.2.2.1 ao,vL f d.2.2.2.2.2.2 j],[],rfl,pc_mk7 ((aV.grown P (fun k hk=>(c k hk).1) (fun g e hk=>(c g hk).2 e)).wide (fun _ h=>h)) ((G.grown P (fun k hk=>(c k hk).1) (fun g e hk=>(c g hk).2 e)).wide (fun _ h=>h)),rfl⟩) (show 1≤maxLen by decide) (fun h=>noteq y (b3 _ h));have b5:∀ k,o k→(fun k=>i k) k:=fun k h=>by rw[e]at h;exact h
  clear e;have dD:Lo p (ro n):=loo y al.size;have a0:=cC.grown N (fun k hk=>(c k hk).1) nb;have Q:=bk (fun k hk=>(c k hk).1) N.size;have d2:∀ g,aH (ro n)=some g→¬ (fun k=>aH aY=some k∨i k) g:=fun g e hx=>nl (bN y g e) ((fun k (hk:aH aY=some k∨i k)=>hk.elim (fun h=>a0.lt k h) (fun h=>Q k h)) _ hx);have b6:∀ g,aH aY=some g→¬ (fun k=>aH (ro n)=some k∨o k) g:=fun g e h=>h.elim (fun h=>nl (bN y _ h) ((fun k (hk:aH aY=some k∨i k)=>hk.elim (fun h=>a0.lt k h) (fun h=>Q k h)) g (.inl e))) (fun h=>((fun g (e:aH aY=some g) (hx:i g)=>((fun g e=>Or.inl e) g e).elim (fun h=>(c _ hx).2 h) (fun h=>nl h (c _ hx).1))) g e (b5 _ h));have d3:∀ g,aH (ro n)=some g→¬ (· =r) g:=fun g e hx=>nl (bN y g e) ((bC bg) _ hx);have bn:p.heap.size≤r:=cg ah b0.size;have dE:¬ (fun k=>aH (ro n)=some k∨o k) r:=fun h=>h.elim (fun h=>nl (bN y _ h) ((bC bg) _ rfl)) (fun h=>((fun (hx:i r)=>nl bn (c _ hx).1)) (b5 _ h));refine af E ?_;clear E;intro dt dF E;obtain ⟨C,e⟩:∃ X:Nat→Prop,X=fun k=>i k∨(fun k=>aH (ro n)=some k∨o k) k:=⟨_,rfl⟩;have b7:∀ k,C k→k<bl.heap.size:=fun k hk=>by rw[e]at hk;exact hk.elim (fun h=>(bk Q H.size) k h) (fun h=>(fun k (hk:aH (ro n)=some k∨o k)=>hk.elim (fun h=>an.lt k h) (fun h=>b4 k h)) k h)
  have dG:∀ k,C k→i k∨p.heap.size≤k:=fun k hk=>by rw[e]at hk;exact hk.elim (fun h=>(fun k hk=>Or.inl hk) k h) (fun h=>(fun k (hk:aH (ro n)=some k∨o k)=>hk.elim (fun h=>Or.inr (dD k h)) (fun h=>dC k h)) k h)
  have b8:=a0.grown H Q nb;have dH:aD pcE 25 bl C aY bt l:=(b8).wide (fun k hk=>by rw[e];exact .inl hk) (fun g e1 hk=>by rw[e]at hk;exact hk.elim (fun h=>(b8).out g e1 h) (fun h=>b6 g e1 h));have dI:∀ k,(fun k=>aH (ro n)=some k∨o k) k→C k:=fun k hk=>by rw[e];exact .inr hk
  have dJ:∀ k,C k→i k∨(fun k=>aH (ro n)=some k∨o k) k:=fun k hk=>by rw[e]at hk;exact hk
  clear e;refine cv pcE (t:=23) (ty:=23) (e:=25) (a:=aY) (ax:=(ro n)) (cap:=bt) (cx:=1) (xs:=l) (ys:=([Pc.of d]:List Pc)) dt (X:=C) (Y:=(fun k=>aH (ro n)=some k∨o k)) cN rfl rfl kr kr bq info25 dH (an.rd (Y:=fun k=>aH (ro n)=some k∨o k) (fun _ h=>.inr h) (fun g e=>.inl e)) dF (.inl dI) b7 ?_;intro O du b9 a1 dK R;refine ⟨nofun,?_⟩;have dL:∀ g,aH O=some g→aH aY=some g∨p.heap.size≤g:=blkw_tr (blkw_of R) (fun g e=>Or.inl e) P.size;have dM:∀ k,C k→k<b9.heap.size:=fun k hk=>bj (b7 k hk) a1.size;have ca:∀ g,aH aY=some g→¬ (· =r) g:=fun g e hx=>nl ((aR ah) _ hx) ((fun k (hk:aH aY=some k∨i k)=>hk.elim (fun h=>cC.lt k h) (fun h=>(fun k hk=>(c k hk).1) k h)) g (.inl e));have a2:=bg.grown H nb;have dN:∀ g,aH O=some g→¬ (· =r) g:=bU R ca (bC a2);have cb:¬ (fun k=>aH aY=some k∨i k) r:=fun hx=>nl ((aR ah) _ rfl) ((fun k (hk:aH aY=some k∨i k)=>hk.elim (fun h=>cC.lt k h) (fun h=>(fun k hk=>(c k hk).1) k h)) _ hx);have dO:¬ (fun k=>aH O=some k∨C k) r:=fun h=>h.elim (fun h=>cl R (fun h=>(cb) (.inl h)) (a2.lt) h) (fun h=>(dJ _ h).elim (fun h=>(cb) (.inr h)) (fun h=>(dE) h));have d4:∀ g,aH O=some g→¬ (fun k=>aH (ro n)=some k∨o k) g:=bU R b6 (fun k (hk:aH (ro n)=some k∨o k)=>hk.elim (fun h=>an.lt k h) (fun h=>b4 k h));refine pN 1 [1] [(1,vL O dt du)]<|cK<|aO<|pN 1 [5] [(5,vI 0)]<|ab<|af E ?_;clear E;intro bs h1 E
  refine aE (J:=fun a W=>∃ (q:bP) (D:Nat),∃ (u:Nat→Prop),p.grownBy W (aH aY)∧Sz b9 W∧aD pcE 25 W u q D bs∧(∀ g,aH q=some g→aH aY=some g∨p.heap.size≤g)∧(∀ k,u k→k<W.heap.size)∧(∀ k,u k→i k∨p.heap.size≤k)∧Qa a 34 [(1,vL q bs D)]) ?_ ?_
  ·refine aJ<|bX (A:=fun (m:(List Pc) × Int) a I=>∃ (q:bP) (D:Nat),∃ (u:Nat→Prop),p.grownBy I (aH aY)∧Sz b9 I∧aD pcE 25 I u q D m.1∧(∀ g,aH q=some g→aH aY=some g∨p.heap.size≤g)∧(∀ k,u k→k<I.heap.size)∧(∀ k,u k→i k∨p.heap.size≤k)∧(∀ g,aH q=some g→¬ (· =r) g)∧¬ (fun k=>aH q=some k∨u k) r∧bG I r 25 (bh d ai ao f j)∧Qa a 34 [(1,vL q m.1 D),(2,bp r),(5,vI m.2)]) h1 ?_ ?_
   ·intro a hd hs ag;exact ⟨O,du,C,(ce P a1 (fun g e=>Or.inl e)),bK,dK,dL,dM,dG,dN,dO,(a2.grown a1 ca),hd,hs,aX ag⟩
   ·rintro m r2 B dX a I ⟨K,Z,bA,cc,dQ,ch,S,ck,cs,c0,c1,a3,hd,hs,ag⟩;refine aM ?_ hd hs ag;refine aU<|aO<|af B ?_;clear B;intro dv h3 B
    refine aS (J:=fun a F=>p.grownBy F (aH aY)∧Sz I F∧bG F r 25 (bh d ai ao f j)∧aD pcE 25 F bA K Z m.1∧Qa a 34 [(1,vL K m.1 Z),(2,bp r),(5,vI m.2),(23,vB dv)]) ?_ ?_
    ·refine pN 2 [14,15] [(14,vI m.2),(15,.pointer (some ⟨r,6,none⟩))]<|br 23 ⟨r,6,none⟩ (vL f d.2.2.2.2.2.2 j) (aI (a3.cell 6 rfl))<|pN 3 [17,18,19] [(19,vB (decide (m.2<(lz d.2.2.2.2.2.2))))]<|au (s:=19) (g:=(decide (m.2<(lz d.2.2.2.2.2.2)))) kr (fun a4=>?_) (fun a4=>?_)
     ·replace h3:=ap a4 h3;refine pN 4 [20,21,22,23] [(23,vB (decide ((lz m.1)≤60)))]<|ab ?_;obtain rfl:=sj h3;refine ac fun a hd hs ag=>?_;exact ⟨cc,bK,a3,ch,hd,hs,aX ag⟩
     ·replace h3:=aq a4 h3;refine pN 4 [20,21,22,23] [(23,vB false)]<|ab ?_;obtain rfl:=sj h3;refine ac fun a hd hs ag=>?_;exact ⟨cc,bK,a3,ch,hd,hs,aX ag⟩
    ·rintro a F ⟨x,a5,L,a6,hd,hs,ag⟩;refine aM ?_ hd hs ag;have c2:=(nt dQ a5);refine am (b:=dv) kr (fun a7=>?_) (fun a7=>?_)
     ·replace B:=ap a7 B;refine aF<|aU<|aJ<|az<|pN 1 [26] [(26,.pointer (some ⟨r,6,none⟩))]<|br 23 ⟨r,6,none⟩ (vL f d.2.2.2.2.2.2 j) (aI (L.cell 6 rfl))<|pN 1 [28] [(28,vI m.2)]<|af B ?_;clear B;intro w c3 B;refine dj .i64 7 (G.grown x (fun k hk=>(c k hk).1) (fun g e hk=>(c g hk).2 e)) c3 bq ?_;obtain ⟨_,⟨_,_,rfl,rfl,⟨_,_,rfl,rfl,⟨_,_,rfl,rfl,⟨_,_,rfl,rfl,⟨_,_,rfl,rfl,⟨_,_,rfl,⟨dw,dx,rfl,dR⟩,⟨dy,dz,rfl,dS⟩⟩⟩⟩⟩⟩⟩,dT⟩:=cells_un (G.cellsK c3);refine laq 25 (bb f ((m.2:Int).toNat*7)) #[vI (Pc.un w).1,vI (Pc.un w).2.1,vI (Pc.un w).2.2.1,vB (Pc.un w).2.2.2.1,vB (Pc.un w).2.2.2.2.1,.slice dw (length (Pc.un w).2.2.2.2.2.1) dx,.slice dy (length (Pc.un w).2.2.2.2.2.2) dz] (aI (dT F (fun k hk=>x.block k (c k hk).1 (fun e=>(c k hk).2 e.symm)))) ?_;refine pN 1 [31] [(31,vL K m.1 Z)] ?_;have c4:∀ k,((fun k=>i k∨bA k)) k→k<F.heap.size∧aH K≠some k:=(fun k hk=>⟨(hk).elim (fun h=>(fun k (hk:i k)=>bj (c k hk).1 x.size) k h) (fun h=>(fun k hk=>bj (ck k hk) a5) k h),fun e=>(hk).elim (fun h=>((fun g (e:aH K=some g) (hx:i g)=>(S g e).elim (fun h=>(c _ hx).2 h) (fun h=>nl h (c _ hx).1)) k e h)) (fun h=>((a6.out) k e h))⟩);refine af B ?_;clear B;intro c5 dU B;refine ak kr rfl kr enters18 (z dw dx dy dz ((Pc.un w).1,(Pc.un w).2.1,(Pc.un w).2.2.1,(Pc.un w).2.2.2.1,(Pc.un w).2.2.2.2.1,(Pc.un w).2.2.2.2.2.1,(Pc.un w).2.2.2.2.2.2) K Z m.1 F (fun k=>i k∨bA k) c4 (aD.wide a6 (fun k hk=>(.inr hk)) (fun g e hk=>(c4 g hk).2 e)) ((dR.grown x (fun k hk=>(c k hk).1) (fun g e hk=>(c g hk).2 e)).wide (fun k hk=>(.inl hk))) ((dS.grown x (fun k hk=>(c k hk).1) (fun g e hk=>(c g hk).2 e)).wide (fun k hk=>(.inl hk))) c5 dU) ?_;rintro d6 dY ⟨a8,M,c6,T,rfl,c7,U,V⟩;have c8:∀ g,aH M=some g→aH aY=some g∨p.heap.size≤g:=blkw_tr U S x.size;have dg:∀ k,T k→k<dY.heap.size:=fun k hk=>(V k hk).1;have dk:∀ k,T k→i k∨p.heap.size≤k:=fun k hk=>(V k hk).2.elim (fun h=>(h).elim (fun h=>(fun k (hk:i k)=>Or.inl hk) k h) (fun h=>cs k h)) (fun h=>.inr (Nat.le_trans x.size h));refine pN 1 [1] [(1,vL M c5 c6)]<|ab<|bI<|az<|pN 3 [5,24,25] [(5,vI (wI (m.2+1)))]<|ab ?_;obtain rfl:=sj B;refine ac fun a hd hs ag=>?_;have dl:∀ g,aH M=some g→¬ (· =r) g:=blkw_neX U c0 (bC L);have dm:¬ (fun k=>aH M=some k∨T k) r:=fun h=>h.elim (fun h=>blkw_rev U (fun h=>(c1) (.inl h)) (L.lt) h) (fun h=>(V _ h).2.elim (fun h=>(h).elim (fun h=>((fun (hx:i r)=>nl bn (c _ hx).1)) h) (fun h=>((fun h=>c1 (.inr h))) h)) (fun h=>nl h (L.lt)));exact ⟨(c5,wI (m.2+1)),rfl,M,c6,T,(ce x a8 S),(nt c2 a8.size),c7,c8,dg,dk,dl,dm,(L.grown a8 c0),hd,hs,aX ag⟩
     ·replace B:=aq a7 B;refine bO<|bW rfl ?_
      obtain rfl:=sj B;replace h1:=congrArg some (dX _ rfl);obtain rfl:=sj h1;refine ac fun a hd hs ag=>?_;exact ⟨K,Z,bA,x,c2,a6,S,(fun k hk=>bj (ck k hk) a5),cs,hd,hs,aX ag⟩
  ·rintro a W ⟨a9,bd,dV,dn,dZ,dp,dq,dr,ds,hd,hs,ag⟩;refine aM ?_ hd hs ag;refine aO<|pN 2 [4,33] [(4,vL a9 bs bd)]<|ab<|av ?_
   obtain rfl:=sj E;refine aB (aw [vL a9 bs bd] rfl ⟨kr,trivial⟩ ?_);exact ⟨dn,a9,bd,dV,rfl,dp,dq,dc dr ds⟩
theorem grp_ref4_preorder_ok:∀ (ar:Nat),gC18 ar:=by
  intro ar
  induction ar with
  | zero=>unfold gC18;intros;rename_i a;rw[ref4_preorder.eq_1]at a;cases a
  | succ ar ih=>exact ref4_preorder_step ar ih

theorem ref4_preorder_ok (ar:Nat):
    gC18 ar:=
  grp_ref4_preorder_ok ar

theorem cQ (ar:Nat) (b:Int) (a:Int) (c:World) (h:bx) (i:ref4_At ar b a=some h):
    Cs 19 [vI b,vI a] c (G1 c [.agg (cm h)]):=by
 have e:Bl c c:=Below.refl _ _;unfold ref4_At at i;refine aW Tryz.func19 rfl Tryz.ntmps19 kr ?_;refine cj [(0,vI b),(1,vI a)]<|aO<|aP bp #[vI 0,vI 0] 27 kr kr ?_
 intro f q j k g p;refine bR<|pN 3 [5,6,7] [(7,.agg #[vI b,vI a])]<|aC 27 0 (.agg #[vI b,vI a]) #[vI b,vI a] k kr kr kr ?_;intro n l m o;refine ab<|av ?_
 obtain rfl:=sj i;refine aB (aw [.agg #[vI b,vI a]] rfl ⟨⟨⟨f,0,none⟩,kr,run_loadVar_row n f _ 27 _ _ _ m aT rfl kr⟩,trivial⟩ ?_);have d:c.heap.size≤f:=cg g e.size;exact ⟨ae (bg (bg e j nb) l (bc d)),rfl⟩

theorem ref4_Scalar_ok (ar:Nat) (b:Int) (h:World) (k:Bool) (l:ref4_Scalar ar b=some k):
    Cs 37 [vI b] h (G1 h [vB k]):=by
 have m:Bl h h:=Below.refl _ _;unfold ref4_Scalar at l;refine aW Tryz.func37 rfl Tryz.ntmps37 kr ?_;refine cj [(0,vI b)]<|aO<|pN 1 [2] []<|bR<|aS (J:=fun a n=>h=n∧Qa a 17 [(2,vB (if (decide (b≥0)) then ((decide (b<55296))||((decide (b>57343))&&(decide (b≤1114111)))) else ((decide (b>57343))&&(decide (b≤1114111)))))]) ?_ ?_
 ·refine pN 3 [3,4,5] [(5,vB (decide (b≥0)))]<|au (s:=5) (g:=(decide (b≥0))) kr (fun c=>?_) (fun c=>?_)
  ·refine pN 4 [6,7,8,9] [(9,vB (decide (b<55296)))]<|au (s:=9) (g:=(decide (b<55296))) kr (fun f=>?_) (fun f=>?_)
   ·refine pN 8 [2,10,11,12,13,14,15,16] [(2,vB true)]<|ab<|bD [2] (σ':=[(2,vB true)]) kr<|ac fun a hd hs ag=>⟨rfl,hd,hs,?_⟩;obtain ⟨d,_⟩:=ag;exact ⟨(by rw[c,f];exact d),trivial⟩
   ·refine pN 3 [10,11,12] [(12,vB (decide (b>57343)))]<|au (s:=12) (g:=(decide (b>57343))) kr (fun i=>?_) (fun i=>?_)
    ·refine pN 5 [2,13,14,15,16] [(2,vB (decide (b≤1114111)))]<|ab<|bD [2] (σ':=[(2,vB (decide (b≤1114111)))]) kr<|ac fun a hd hs ag=>⟨rfl,hd,hs,?_⟩;obtain ⟨d,_⟩:=ag;exact ⟨(by rw[c,f,i];exact d),trivial⟩
    ·refine pN 5 [2,13,14,15,16] [(2,vB false)]<|ab<|bD [2] (σ':=[(2,vB false)]) kr<|ac fun a hd hs ag=>⟨rfl,hd,hs,?_⟩;obtain ⟨d,_⟩:=ag;exact ⟨(by rw[c,f,i];exact d),trivial⟩
  ·refine pN 7 [6,7,8,9,10,11,12] [(9,vB false),(12,vB (decide (b>57343)))]<|au (s:=12) (g:=(decide (b>57343))) kr (fun j=>?_) (fun j=>?_)
   ·refine pN 5 [2,13,14,15,16] [(2,vB (decide (b≤1114111)))]<|ab<|bD [2] (σ':=[(2,vB (decide (b≤1114111)))]) kr<|ac fun a hd hs ag=>⟨rfl,hd,hs,?_⟩;obtain ⟨d,_⟩:=ag;exact ⟨(by rw[c,j];exact d),trivial⟩
   ·refine pN 5 [2,13,14,15,16] [(2,vB false)]<|ab<|bD [2] (σ':=[(2,vB false)]) kr<|ac fun a hd hs ag=>⟨rfl,hd,hs,?_⟩;obtain ⟨d,_⟩:=ag;exact ⟨(by rw[c,j];exact d),trivial⟩
 ·rintro a n ⟨e,hd,hs,ag⟩;subst e;refine aM ?_ hd hs ag;refine av ?_;obtain rfl:=sj l;refine aB (aw [vB (if (decide (b≥0)) then ((decide (b<55296))||((decide (b>57343))&&(decide (b≤1114111)))) else ((decide (b>57343))&&(decide (b≤1114111))))] rfl ⟨kr,trivial⟩ ?_);exact ⟨ae m,rfl⟩

theorem cP (ar:Nat) (ai:bP) (ao:Nat) (g:List Pc) (aY:bP) (bt:Nat) (c:List Int) (i:World) (q:Nat→Prop) (n:Lw q i) (aV:Rd pcE i q ai ao g) (cC:Rd (iE .i64) i q aY bt c) (S:Bool) (m:ref4_kindsAmong ar g c=some S):
    Cs 38 [vL ai g ao,vL aY c bt] i (G1 i [vB S]):=by
 have T:Bl i i:=Below.refl _ _;unfold ref4_kindsAmong at m;refine aW Tryz.func38 rfl Tryz.ntmps38 kr ?_;refine cj [(0,vL ai g ao),(1,vL aY c bt)]<|aO<|pN 1 [4] []<|cK<|aO<|pN 1 [5] [(5,vI 0)]<|ab<|af m ?_;clear m;intro V r m
 refine aE (J:=fun a M=>∃ U:Unit,V= .inl U∧Bl i M∧Sz i M∧Qa a 29 []) ?_ ?_
 ·refine aJ<|bX (A:=fun (l:Int) a s=>Bl i s∧Sz i s∧Qa a 29 [(0,vL ai g ao),(1,vL aY c bt),(5,vI l)]) r ?_ ?_
  ·intro a hd hs ag;exact ⟨T,bK,hd,hs,aX ag⟩
  ·rintro l r2 h F a s ⟨G,H,hd,hs,ag⟩;refine aM ?_ hd hs ag;refine aU<|aO<|pN 4 [7,8,9,10] [(10,vB (decide (l<(lz g))))]<|ab<|am (b:=(decide (l<(lz g)))) kr (fun t=>?_) (fun t=>?_)
   ·replace h:=ap t h;refine aF<|aU<|aJ<|aO<|pN 1 [6] [(6,vI 0)]<|ab<|af h ?_;clear h;intro W u h
    refine aE (J:=fun a v=>∃ I:Unit,W= .inl I∧Bl i v∧Sz s v∧Qa a 29 [(0,vL ai g ao),(1,vL aY c bt),(5,vI l)]) ?_ ?_
    ·refine aJ<|bX (A:=fun (j:Int) a w=>Bl i w∧Sz s w∧Qa a 29 [(0,vL ai g ao),(1,vL aY c bt),(5,vI l),(6,vI j)]) u ?_ ?_
     ·intro a hd hs ag;exact ⟨G,bK,hd,hs,aX ag⟩
     ·rintro j r4 d K a w ⟨x,y,hd,hs,ag⟩;refine aM ?_ hd hs ag;refine aU<|aO<|pN 4 [13,14,15,16] [(16,vB (decide (j<(lz c))))]<|ab<|am (b:=(decide (j<(lz c)))) kr (fun o=>?_) (fun o=>?_)
      ·replace d:=ap o d;refine aF<|aU<|aJ<|aU<|cp kr ?_
       intro L z;refine bu [0,1,2,3,5,6,7] (bA 10 [0,1,2,3,5,6,7]) 3 kr kr<|pN 2 [19,20] [(19,vL ai g ao),(20,vI l)]<|af d ?_;clear d;intro B C d;have f:=bg x z nb;refine dj .i64 7 (aV.below f n) C bq<|pN 3 [22,24,25] [(22,.pointer (some (bb ai ((l:Int).toNat*7)))),(24,vL aY c bt),(25,vI j)]<|af d ?_;clear d;intro D E d;refine dj .i64 1 (cC.below f n) E cw<|ab<|aG<|bf (Cls L []) [4,8] [(4,some true),(8,some true)] (bA 10 [0,1,2,3,4,5,6,7,8]) 1 kr kr (aN _ _) ?_;have X:=aN L [];obtain ⟨_,⟨_,_,rfl,rfl,⟨_,_,rfl,rfl,⟨_,_,rfl,rfl,⟨_,_,rfl,rfl,⟨_,_,rfl,rfl,⟨_,_,rfl,⟨al,an,rfl,Y⟩,⟨ax,a0,rfl,Z⟩⟩⟩⟩⟩⟩⟩,N⟩:=cells_un (aV.cellsK C);refine br 3 (bb ai ((l:Int).toNat*7)) (vI (Pc.un B).1) (cu fun w' hC'=>((N w' (fun k hk=>(hC'.2 k ((fun k (hk:q k)=>bj (n k hk) f.size) k hk) (fun hg=>cJ k hg hk)).trans (f.block k (n k hk)))).zero rfl)) ?_;refine br 3 (bb aY ((j:Int).toNat*1)) (vI D) (cu fun w' hC'=>((hC'.rd (cC.below f n) (fun k (hk:q k)=>bj (n k hk) f.size) cJ).cell E)) ?_;refine ab<|aG<|bu [9] (bA 10 [0,1,2,3,4,5,6,7,8,9]) 0 kr kr<|pN 1 [28] [(28,vB ((Pc.un B).1==D))]<|ab<|aG<|bH kr<|am (b:=((Pc.un B).1==D)) kr (fun p=>?_) (fun p=>?_)
       ·replace d:=ap p d;refine aO<|pN 1 [4] [(4,vB true)]<|ab<|av ?_
        obtain rfl:=sj d;replace u:=congrArg some (K _ rfl);obtain rfl:=sj u;replace h:=aZ h;obtain rfl:=sj h;replace r:=congrArg some (F _ rfl);obtain rfl:=sj r;replace m:=aZ m;obtain rfl:=sj m;refine aB (aw [vB true] rfl ⟨kr,trivial⟩ ?_);exact ⟨ae f,rfl⟩
       ·replace d:=aq p d;refine aF<|bI<|az<|pN 3 [6,17,18] [(6,vI (wI (j+1)))]<|ab ?_;obtain rfl:=sj d;refine ac fun a hd hs ag=>?_;exact ⟨(wI (j+1)),rfl,f,(nt y z.size),hd,hs,aX ag⟩
      ·replace d:=aq o d;refine bO<|bW rfl ?_
       obtain rfl:=sj d;replace u:=congrArg some (K _ rfl);obtain rfl:=sj u;refine ac fun a hd hs ag=>?_;exact ⟨(),rfl,x,y,hd,hs,aX ag⟩
    ·rintro a v ⟨I,e,O,P,hd,hs,ag⟩;subst e;refine aM ?_ hd hs ag;replace h:=bS h;have Q:=(nt H P);refine bI<|az<|pN 3 [5,11,12] [(5,vI (wI (l+1)))]<|ab ?_;obtain rfl:=sj h;refine ac fun a hd hs ag=>?_;exact ⟨(wI (l+1)),rfl,O,Q,hd,hs,aX ag⟩
   ·replace h:=aq t h;refine bO<|bW rfl ?_
    obtain rfl:=sj h;replace r:=congrArg some (F _ rfl);obtain rfl:=sj r;refine ac fun a hd hs ag=>?_;exact ⟨(),rfl,G,H,hd,hs,aX ag⟩
 ·rintro a M ⟨U,e,R,ah,hd,hs,ag⟩;subst e;refine aM ?_ hd hs ag;replace m:=bS m;refine aO<|pN 1 [4] [(4,vB false)]<|ab<|av ?_
  obtain rfl:=sj m;refine aB (aw [vB false] rfl ⟨kr,trivial⟩ ?_);exact ⟨ae R,rfl⟩

theorem ref4_shaped_ok (ar:Nat) (ai:bP) (ao:Nat) (m:bP) (n:Nat) (c:cn) (w:World) (X0:Nat→Prop) (N:Lw X0 w) (aV:Rd (bY (iE .i64) (iE .i64)) w X0 ai ao c.2.2.2.2.2.1) (cc:Rd pcE w X0 m n c.2.2.2.2.2.2) (r0:Bool) (h0:ref4_shaped ar c=some r0):
    Cs 20 [.agg (bh c ai ao m n)] w (G1 w [vB r0]):=by
 have E:Bl w w:=Below.refl _ _;unfold ref4_shaped at h0;refine aW Tryz.func20 rfl Tryz.ntmps20 kr ?_;refine cj [(0,.agg (bh c ai ao m n))]<|aO<|aP bp (bh c ai ao m n) 25 kr kr ?_
 intro f w2 C dZ fR fM;refine pN 1 [2] []<|bR<|pN 1 [9] [(9,bp f)]<|br 3 ⟨f,0,none⟩ (vI c.1) (aI (dZ.cell 0 rfl))<|pN 1 [11] [(11,.agg #[vI c.1,vI 0,vI 0,vB false,vB false,vL none ([]:List bx) 0,vL none ([]:List Pc) 0])]<|aP bp cH 25 kr kr ?_;intro i w8 bs d0 o eu;refine aC 25 0 (.agg #[vI c.1,vI 0,vI 0,vB false,vB false,vL none ([]:List bx) 0,vL none ([]:List Pc) 0]) #[vI c.1,vI 0,vI 0,vB false,vB false,vL none ([]:List bx) 0,vL none ([]:List Pc) 0] d0 kr kr kr ?_;intro fN Z a7 ev;refine bR<|pN 1 [12] [(12,.pointer (some ⟨f,6,none⟩))] ?_
 have p:=bj ((bC dZ) _ rfl) ((aR o) _ rfl);have T:=(dZ.grown bs nb).grown Z (ad (ng p));refine br 23 ⟨f,6,none⟩ (vL m c.2.2.2.2.2.2 n) (aI (T.cell 6 rfl))<|pN 2 [4,14] [(4,vI (lz c.2.2.2.2.2.2))]<|af h0 ?_;clear h0;intro F d1 h0;refine co (s:=4) (v:=(vI (lz c.2.2.2.2.2.2))) (v':=(vI F)) kr (congrArg (Value.int .i64) (sj d1))<|bR<|pN 1 [5] [(5,vB false)]<|cK<|aO<|pN 1 [15] [(15,bp f)]<|br 3 ⟨f,0,none⟩ (vI c.1) (aI (T.cell 0 rfl))<|ab<|aJ<|aO<|pN 2 [17,18] [(17,vB (c.1==1))]<|cj [(1,bp f),(3,bp i),(4,vI F),(5,vB false),(16,vI c.1),(17,vB (c.1==1))]<|ab<|af h0 ?_;clear h0;intro G d h0
 refine aE (J:=fun a a0=>∃ (x:bP) (c5:Nat),∃ (y:bP) (c6:Nat),∃ (L:Nat→Prop),Bl w a0∧Sz fN a0∧aD (bY (iE .i64) (iE .i64)) 53 a0 (fun _=>False) x c5 G.2.2.2.2.2.2.1∧(Lo w x)∧aD pcE 25 a0 L y c6 G.2.2.2.2.2.2.2∧(Lo w y)∧(∀ k,L k→k<a0.heap.size)∧(∀ k,L k→X0 k∨w.heap.size≤k)∧(∀ g,aH x=some g→¬ (fun k=>aH y=some k∨L k) g)∧(∀ g,aH x=some g→¬ (· =f) g)∧(∀ g,aH x=some g→¬ (· =i) g)∧¬ (fun k=>aH x=some k) f∧¬ (fun k=>aH x=some k) i∧(Ap y x)∧(∀ g,aH y=some g→¬ (· =f) g)∧(∀ g,aH y=some g→¬ (· =i) g)∧¬ (fun k=>aH y=some k∨L k) f∧¬ (fun k=>aH y=some k∨L k) i∧bG a0 f 25 (bh c ai ao m n)∧bG a0 i 25 (bh G.2 x c5 y c6)∧Qa a 217 [(1,bp f),(3,bp i),(5,vB G.1)]) ?_ ?_
 ·refine am (b:=(c.1==1)) kr (fun c7=>?_) (fun c7=>?_)
  ·replace d:=ap c7 d;refine aO<|pN 1 [19] [(19,.pointer (some ⟨f,1,none⟩))]<|br 3 ⟨f,1,none⟩ (vI c.2.1) (aI (T.cell 1 rfl))<|pN 1 [21] [(21,.pointer (some ⟨i,1,none⟩))]<|aC 3 1 (vI c.2.1) #[vI c.1,vI c.2.1,vI 0,vB false,vB false,vL none ([]:List bx) 0,vL none ([]:List Pc) 0] a7 kr kr kr ?_;intro ew a8 ex gj;refine ab<|az<|pN 3 [22,23,24] [(24,vB (F==0))]<|au (s:=24) (g:=(F==0)) kr (fun d2=>?_) (fun d2=>?_)
   ·replace d:=ap d2 d;refine pN 1 [25] [(25,.pointer (some ⟨f,1,none⟩))] ?_;have ey:=T.grown a8 (ad (ng p));refine br 3 ⟨f,1,none⟩ (vI c.2.1) (aI (ey.cell 1 rfl))<|af d ?_;clear d;intro fO fS d;refine ak kr rfl kr enters37 (ref4_Scalar_ok ar c.2.1 ew fO fS) ?_;rintro gw fP ⟨c8,rfl⟩;refine pN 2 [5,28] [(5,vB fO)]<|ab ?_;obtain rfl:=sj d;refine ac fun a hd hs ag=>?_;have eb:w.heap.size≤i:=cg o (bg E C nb).size;exact ⟨none,0,none,0,(fun _=>False),(bg (bg (bg (bg E (aj C bs) nb) Z (bc eb)) a8 (bc eb)) c8 nb),(nt a8.size c8.size),aD.nil (bY (iE .i64) (iE .i64)) 53 fP (fun _=>False),(fun _ h=>by cases h),aD.nil pcE 25 fP (fun _=>False),(fun _ h=>by cases h),(fun _ h=>h.elim),(fun _ h=>h.elim),(fun _ h=>by cases h),(fun _ h=>by cases h),(fun _ h=>by cases h),(fun h=>by cases h),(fun h=>by cases h),(fun _ h=>by cases h),(fun _ h=>by cases h),(fun _ h=>by cases h),(fun h=>h.elim nofun (fun e=>e)),(fun h=>h.elim nofun (fun e=>e)),(ey.grown c8 nb),(ex.grown c8 nb),hd,hs,aX ag⟩
   ·replace d:=aq d2 d;refine pN 5 [5,25,26,27,28] [(5,vB false)]<|ab ?_;obtain rfl:=sj d;refine ac fun a hd hs ag=>?_;have ec:w.heap.size≤i:=cg o (bg E C nb).size;exact ⟨none,0,none,0,(fun _=>False),(bg (bg (bg E (aj C bs) nb) Z (bc ec)) a8 (bc ec)),a8.size,aD.nil (bY (iE .i64) (iE .i64)) 53 ew (fun _=>False),(fun _ h=>by cases h),aD.nil pcE 25 ew (fun _=>False),(fun _ h=>by cases h),(fun _ h=>h.elim),(fun _ h=>h.elim),(fun _ h=>by cases h),(fun _ h=>by cases h),(fun _ h=>by cases h),(fun h=>by cases h),(fun h=>by cases h),(fun _ h=>by cases h),(fun _ h=>by cases h),(fun _ h=>by cases h),(fun h=>h.elim nofun (fun e=>e)),(fun h=>h.elim nofun (fun e=>e)),(T.grown a8 (ad (ng p))),ex,hd,hs,aX ag⟩
  ·replace d:=aq c7 d;refine aU<|aO<|pN 2 [29,30] [(29,vB (c.1==2))]<|ab<|af d ?_;clear d;intro fQ K d
   refine aE (J:=fun a U=>Bl w U∧Sz fN U∧bG U f 25 (bh c ai ao m n)∧bG U i 25 #[vI c.1,vI 0,vI 0,vB false,vB false,vL none ([]:List bx) 0,vL none ([]:List Pc) 0]∧Qa a 217 [(1,bp f),(3,bp i),(4,vI F),(5,vB false),(16,vI c.1),(29,vB fQ)]) ?_ ?_
   ·refine am (b:=(c.1==2)) kr (fun d3=>?_) (fun d3=>?_)
    ·replace K:=ap d3 K;refine aF ?_;obtain rfl:=sj K;refine ac fun a hd hs ag=>?_;have e0:w.heap.size≤i:=cg o (bg E C nb).size;exact ⟨(bg (bg E (aj C bs) nb) Z (bc e0)),bK,T,a7,hd,hs,aX ag⟩
    ·replace K:=aq d3 K;refine aO<|pN 2 [29,31] [(29,vB (c.1==4))]<|ab<|am (b:=(c.1==4)) kr (fun d4=>?_) (fun d4=>?_)
     ·replace K:=ap d4 K;refine aF ?_;obtain rfl:=sj K;refine ac fun a hd hs ag=>?_;have e1:w.heap.size≤i:=cg o (bg E C nb).size;exact ⟨(bg (bg E (aj C bs) nb) Z (bc e1)),bK,T,a7,hd,hs,aX ag⟩
     ·replace K:=aq d4 K;refine az<|pN 2 [29,32] [(29,vB (c.1==5))]<|ab ?_;obtain rfl:=sj K;refine ac fun a hd hs ag=>?_;have e2:w.heap.size≤i:=cg o (bg E C nb).size;exact ⟨(bg (bg E (aj C bs) nb) Z (bc e2)),bK,T,a7,hd,hs,aX ag⟩
   ·rintro a U ⟨q,B,l,H,hd,hs,ag⟩;refine aM ?_ hd hs ag;clear hd hs ag;clear c7 d1 T ev a7 Z eu d0 bs fM dZ;refine am (b:=fQ) kr (fun ck=>?_) (fun ck=>?_)
    ·replace d:=ap ck d;refine az<|pN 3 [5,33,34] [(5,vB (F==0))]<|ab ?_;obtain rfl:=sj d;refine ac fun a hd hs ag=>?_;exact ⟨none,0,none,0,(fun _=>False),q,B,aD.nil (bY (iE .i64) (iE .i64)) 53 U (fun _=>False),(fun _ h=>by cases h),aD.nil pcE 25 U (fun _=>False),(fun _ h=>by cases h),(fun _ h=>h.elim),(fun _ h=>h.elim),(fun _ h=>by cases h),(fun _ h=>by cases h),(fun _ h=>by cases h),(fun h=>by cases h),(fun h=>by cases h),(fun _ h=>by cases h),(fun _ h=>by cases h),(fun _ h=>by cases h),(fun h=>h.elim nofun (fun e=>e)),(fun h=>h.elim nofun (fun e=>e)),l,H,hd,hs,aX ag⟩
    ·replace d:=aq ck d;refine aO<|pN 2 [35,36] [(35,vB (c.1==3))]<|ab<|am (b:=(c.1==3)) kr (fun cx=>?_) (fun cx=>?_)
     ·replace d:=ap cx d;refine aO<|pN 1 [37] [(37,.pointer (some ⟨f,3,none⟩))]<|br 4 ⟨f,3,none⟩ (vB c.2.2.2.1) (aI (l.cell 3 rfl))<|pN 1 [39] [(39,.pointer (some ⟨i,3,none⟩))]<|aC 4 3 (vB c.2.2.2.1) #[vI c.1,vI 0,vI 0,vB c.2.2.2.1,vB false,vL none ([]:List bx) 0,vL none ([]:List Pc) 0] H kr kr kr ?_;intro f1 a9 d5 fT;refine bR<|af d ?_;clear d;intro f2 K d
      refine aS (J:=fun a c0=>Bl w c0∧Sz f1 c0∧bG c0 f 25 (bh c ai ao m n)∧bG c0 i 25 #[vI c.1,vI 0,vI 0,vB c.2.2.2.1,vB false,vL none ([]:List bx) 0,vL none ([]:List Pc) 0]∧Qa a 217 [(1,bp f),(3,bp i),(5,vB f2)]) ?_ ?_
      ·refine pN 3 [40,41,42] [(42,vB (F==0))]<|au (s:=42) (g:=(F==0)) kr (fun d6=>?_) (fun d6=>?_)
       ·replace K:=ap d6 K;refine pN 1 [43] [(43,.pointer (some ⟨f,5,none⟩))] ?_;have ez:=l.grown a9 (ad (ng p));refine br 22 ⟨f,5,none⟩ (vL ai c.2.2.2.2.2.1 ao) (aI (ez.cell 5 rfl))<|pN 4 [5,45,46,47] [(5,vB (decide ((lz c.2.2.2.2.2.1)>0)))]<|af K ?_;clear K;intro f3 fU K;refine co (s:=5) (v:=(vB (decide ((lz c.2.2.2.2.2.1)>0)))) (v':=(vB f3)) kr (congrArg (Value.bool) (sj fU))<|ab ?_;obtain rfl:=sj K;refine ac fun a hd hs ag=>?_;have e3:w.heap.size≤i:=cg o (bg E C nb).size;exact ⟨(bg q a9 (bc e3)),bK,ez,d5,hd,hs,aX ag⟩
       ·replace K:=aq d6 K;refine pN 6 [5,43,44,45,46,47] [(5,vB false)]<|ab ?_;obtain rfl:=sj K;refine ac fun a hd hs ag=>?_;have e4:w.heap.size≤i:=cg o (bg E C nb).size;exact ⟨(bg q a9 (bc e4)),bK,(l.grown a9 (ad (ng p))),d5,hd,hs,aX ag⟩
      ·rintro a c0 ⟨dg,eA,dk,dl,hd,hs,ag⟩;refine aM ?_ hd hs ag;clear hd hs ag;have ed:=(nt (nt B a9.size) eA);clear eA fT d5 a9 cx ck H l B q;refine aO<|pN 1 [6] [(6,vI 0)]<|ab<|af d ?_;clear d;intro fV K d
       refine aE (J:=fun a al=>Bl w al∧Sz c0 al∧bG al f 25 (bh c ai ao m n)∧bG al i 25 #[vI c.1,vI 0,vI 0,vB c.2.2.2.1,vB false,vL none ([]:List bx) 0,vL none ([]:List Pc) 0]∧Qa a 217 [(1,bp f),(3,bp i),(5,vB fV)]) ?_ ?_
       ·refine aJ<|bX (A:=fun (j:Bool × Int) a c1=>Bl w c1∧Sz c0 c1∧bG c1 f 25 (bh c ai ao m n)∧bG c1 i 25 #[vI c.1,vI 0,vI 0,vB c.2.2.2.1,vB false,vL none ([]:List bx) 0,vL none ([]:List Pc) 0]∧Qa a 217 [(1,bp f),(3,bp i),(5,vB j.1),(6,vI j.2)]) K ?_ ?_
        ·intro a hd hs ag;exact ⟨dg,bK,dk,dl,hd,hs,aX ag⟩
        ·rintro j r3 h3 f4 a c1 ⟨b0,a1,a2,V,hd,hs,ag⟩;refine aM ?_ hd hs ag;clear hd hs ag;refine aU<|aO<|pN 2 [48,49] [(48,vI j.2),(49,.pointer (some ⟨f,5,none⟩))]<|br 22 ⟨f,5,none⟩ (vL ai c.2.2.2.2.2.1 ao) (aI (a2.cell 5 rfl))<|pN 2 [51,52] [(52,vB (decide (j.2<(lz c.2.2.2.2.2.1))))]<|ab<|am (b:=(decide (j.2<(lz c.2.2.2.2.2.1)))) kr (fun a3=>?_) (fun a3=>?_)
         ·replace h3:=ap a3 h3;refine aF<|aU<|aJ<|aU<|cp kr ?_
          intro dm I;refine bu [0,2,6,8] (bA 14 [0,2,6,8]) 10 kr kr<|pN 4 [55,57,61,63] [(55,.pointer (some ⟨f,5,none⟩)),(57,vI j.2),(61,.pointer (some ⟨f,5,none⟩)),(63,vI j.2)]<|ab<|aG<|bf (Cls dm []) [1,3,4,5,7,9,10,11,12] [(1,some true),(3,some true),(4,some true),(5,some true),(7,some true),(9,some true),(10,some true),(11,some true),(12,some true)] (bA 14 [0,1,2,3,4,5,6,7,8,9,10,11,12]) 1 kr kr (aN _ _) ?_;have ee:=aN dm [];have O:=a2.grown I nb;refine br 22 ⟨f,5,none⟩ (vL ai c.2.2.2.2.2.1 ao) (cu fun w' hC'=>((hC'.box O bV).cell 5 rfl)) ?_;refine af h3 ?_;clear h3;intro M b2 h3;have z:=bg b0 I nb;refine dj .i64 2 (aV.below z N) b2 bm<|pN 1 [59] [(59,.pointer (some (bb ai ((j.2:Int).toNat*2))))] ?_;obtain ⟨_,⟨_,_,rfl,rfl,rfl⟩,dn⟩:=aV.cellsK b2;refine br 3 (bb ai ((j.2:Int).toNat*2)) (vI M.1) (cu fun w' hC'=>((dn w' (fun k hk=>(hC'.2 k ((fun k (hk:X0 k)=>bj (N k hk) z.size) k hk) (fun hg=>cJ k hg hk)).trans (z.block k (N k hk)))).zero rfl)) ?_;refine br 22 ⟨f,5,none⟩ (vL ai c.2.2.2.2.2.1 ao) (cu fun w' hC'=>((hC'.box O bV).cell 5 rfl)) ?_;refine af h3 ?_;clear h3;intro ax b3 h3;refine dj .i64 2 (aV.below z N) b3 bm<|pN 1 [65] [(65,.pointer (some (Addr.add (bb ai ((j.2:Int).toNat*2)) 1)))] ?_;obtain ⟨_,⟨_,_,rfl,rfl,rfl⟩,dp⟩:=aV.cellsK b3;refine br 3 (Addr.add (bb ai ((j.2:Int).toNat*2)) 1) (vI ax.2) (cu fun w' hC'=>((dp w' (fun k hk=>(hC'.2 k ((fun k (hk:X0 k)=>bj (N k hk) z.size) k hk) (fun hg=>cJ k hg hk)).trans (z.block k (N k hk)))) 1 _ rfl)) ?_;refine pN 1 [7] [(7,vI M.1)]<|ab<|aG<|bu [13] (bA 14 [0,1,2,3,4,5,6,7,8,9,10,11,12,13]) 0 kr kr<|pN 1 [8] [(8,vI ax.2)]<|cj [(1,bp f),(3,bp i),(5,vB j.1),(6,vI j.2),(7,vI M.1),(8,vI ax.2)]<|ab<|aG<|bH kr<|az<|af h3 ?_;clear h3;intro eB r h3
          refine aS (J:=fun a c2=>Bl w c2∧Sz dm c2∧bG c2 f 25 (bh c ai ao m n)∧bG c2 i 25 #[vI c.1,vI 0,vI 0,vB c.2.2.2.1,vB false,vL none ([]:List bx) 0,vL none ([]:List Pc) 0]∧Qa a 217 [(1,bp f),(3,bp i),(5,vB eB),(6,vI j.2)]) ?_ ?_
          ·refine pN 2 [67,68] [(68,vB j.1)]<|au (s:=68) (g:=j.1) kr (fun b4=>?_) (fun b4=>?_)
           ·replace r:=ap b4 r;refine pN 1 [69] [(69,vI M.1)]<|af r ?_;clear r;intro d7 ef r;refine ak kr rfl kr enters37 (ref4_Scalar_ok ar M.1 dm d7 ef) ?_;rintro gk fW ⟨D,rfl⟩;have f5:=(nt a1 I.size);clear ef b4 dp b3 dn b2 ee a3 a2 a1 b0 dl dk dg;refine pN 2 [71,72] [(72,vB d7)]<|au (s:=72) (g:=d7) kr (fun dq=>?_) (fun dq=>?_)
            ·replace r:=ap dq r;refine pN 1 [73] [(73,vI ax.2)]<|af r ?_;clear r;intro d8 e5 r;refine ak kr rfl kr enters37 (ref4_Scalar_ok ar ax.2 fW d8 e5) ?_;rintro gl fX ⟨P,rfl⟩;refine pN 2 [75,76] [(76,vB d8)]<|au (s:=76) (g:=d8) kr (fun dr=>?_) (fun dr=>?_)
             ·replace r:=ap dr r;refine pN 5 [77,78,79,80,81] [(81,vB (decide (M.1≤ax.2)))]<|au (s:=81) (g:=(decide (M.1≤ax.2))) kr (fun ds=>?_) (fun ds=>?_)
              ·replace r:=ap ds r;refine pN 3 [82,83,84] [(84,vB (j.2==0))]<|au (s:=84) (g:=(j.2==0)) kr (fun dt=>?_) (fun dt=>?_)
               ·replace r:=ap dt r;refine pN 13 [5,85,86,87,88,89,90,91,92,93,94,95,96] [(5,vB true)]<|ab ?_;obtain rfl:=sj r;refine ac fun a hd hs ag=>?_;have du:=(aj D P);exact ⟨(bg z du nb),(nt D.size P.size),(O.grown du nb),(V.grown (aj I du) nb),hd,hs,aX ag⟩
               ·replace r:=aq dt r;refine pN 2 [85,86] [(85,vI M.1),(86,.pointer (some ⟨f,5,none⟩))] ?_;have dv:=(aj D P);have eg:=O.grown dv nb;refine br 22 ⟨f,5,none⟩ (vL ai c.2.2.2.2.2.1 ao) (aI (eg.cell 5 rfl))<|pN 2 [88,89] [(89,vI (wI (j.2-1)))]<|af r ?_;clear r;intro d9 eh r;have dw:=bg z dv nb;refine dj .i64 2 (aV.below dw N) eh bm<|pN 1 [91] [(91,.pointer (some (Addr.add (bb ai (((wI (j.2-1)):Int).toNat*2)) 1)))]<|cj [(1,bp f),(3,bp i),(6,vI j.2),(81,vB true),(84,vB false),(85,vI M.1),(91,.pointer (some (Addr.add (bb ai (((wI (j.2-1)):Int).toNat*2)) 1)))] ?_;obtain ⟨_,⟨_,_,rfl,rfl,rfl⟩,e6⟩:=aV.cellsK eh;refine br 3 (Addr.add (bb ai (((wI (j.2-1)):Int).toNat*2)) 1) (vI d9.2) (aI ((e6 fX (fun k hk=>dw.block k (N k hk))) 1 _ rfl)) ?_;refine pN 5 [5,93,94,95,96] [(5,vB (decide ((wI (M.1-d9.2))≥2)))]<|af r ?_;clear r;intro fY e7 r;refine co (s:=5) (v:=(vB (decide ((wI (M.1-d9.2))≥2)))) (v':=(vB fY)) kr (congrArg (Value.bool) (sj e7))<|ab ?_;obtain rfl:=sj r;refine ac fun a hd hs ag=>?_;exact ⟨dw,(nt D.size P.size),eg,(V.grown (aj I dv) nb),hd,hs,aX ag⟩
              ·replace r:=aq ds r;refine pN 16 [5,82,83,84,85,86,87,88,89,90,91,92,93,94,95,96] [(5,vB false)]<|ab ?_;obtain rfl:=sj r;refine ac fun a hd hs ag=>?_;have dx:=(aj D P);exact ⟨(bg z dx nb),(nt D.size P.size),(O.grown dx nb),(V.grown (aj I dx) nb),hd,hs,aX ag⟩
             ·replace r:=aq dr r;refine pN 21 [5,77,78,79,80,81,82,83,84,85,86,87,88,89,90,91,92,93,94,95,96] [(5,vB false)]<|ab ?_;obtain rfl:=sj r;refine ac fun a hd hs ag=>?_;have dy:=(aj D P);exact ⟨(bg z dy nb),(nt D.size P.size),(O.grown dy nb),(V.grown (aj I dy) nb),hd,hs,aX ag⟩
            ·replace r:=aq dq r;refine pN 25 [5,73,74,75,76,77,78,79,80,81,82,83,84,85,86,87,88,89,90,91,92,93,94,95,96] [(5,vB false)]<|ab ?_;obtain rfl:=sj r;refine ac fun a hd hs ag=>?_;exact ⟨(bg z D nb),D.size,(O.grown D nb),(V.grown (aj I D) nb),hd,hs,aX ag⟩
           ·replace r:=aq b4 r;refine pN 29 [5,69,70,71,72,73,74,75,76,77,78,79,80,81,82,83,84,85,86,87,88,89,90,91,92,93,94,95,96] [(5,vB false)]<|ab ?_;obtain rfl:=sj r;refine ac fun a hd hs ag=>?_;exact ⟨z,bK,O,(V.grown I nb),hd,hs,aX ag⟩
          ·rintro a c2 ⟨e8,e9,fa,fb,hd,hs,ag⟩;refine aM ?_ hd hs ag;clear hd hs ag;have fc:=(nt a1 I.size);clear dp b3 dn z b2 ee a3 a2 a1 b0 dl dk dg;refine bI<|az<|pN 3 [6,53,54] [(6,vI (wI (j.2+1)))]<|ab ?_;obtain rfl:=sj h3;refine ac fun a hd hs ag=>?_;exact ⟨(eB,wI (j.2+1)),rfl,e8,(nt fc e9),fa,fb,hd,hs,aX ag⟩
         ·replace h3:=aq a3 h3;refine bO<|bW rfl ?_
          obtain rfl:=sj h3;replace K:=congrArg some (f4 _ rfl);obtain rfl:=sj K;refine ac fun a hd hs ag=>?_;exact ⟨b0,a1,a2,V,hd,hs,aX ag⟩
       ·rintro a al ⟨fd,ei,fe,ff,hd,hs,ag⟩;refine aM ?_ hd hs ag;clear hd hs ag;have fg:=(nt ed ei);clear ei ed dl dk dg;obtain rfl:=sj d;refine ac fun a hd hs ag=>?_;exact ⟨none,0,none,0,(fun _=>False),fd,fg,aD.nil (bY (iE .i64) (iE .i64)) 53 al (fun _=>False),(fun _ h=>by cases h),aD.nil pcE 25 al (fun _=>False),(fun _ h=>by cases h),(fun _ h=>h.elim),(fun _ h=>h.elim),(fun _ h=>by cases h),(fun _ h=>by cases h),(fun _ h=>by cases h),(fun h=>by cases h),(fun h=>by cases h),(fun _ h=>by cases h),(fun _ h=>by cases h),(fun _ h=>by cases h),(fun h=>h.elim nofun (fun e=>e)),(fun h=>h.elim nofun (fun e=>e)),fe,ff,hd,hs,aX ag⟩
     ·replace d:=aq cx d;refine aO<|pN 2 [97,98] [(97,vB (c.1==6))]<|ab<|am (b:=(c.1==6)) kr (fun b5=>?_) (fun b5=>?_)
      ·replace d:=ap b5 d;refine aO<|pN 1 [99] [(99,.pointer (some ⟨f,3,none⟩))]<|br 4 ⟨f,3,none⟩ (vB c.2.2.2.1) (aI (l.cell 3 rfl))<|pN 1 [101] [(101,.pointer (some ⟨i,3,none⟩))]<|aC 4 3 (vB c.2.2.2.1) #[vI c.1,vI 0,vI 0,vB c.2.2.2.1,vB false,vL none ([]:List bx) 0,vL none ([]:List Pc) 0] H kr kr kr ?_;intro eC dz fh f6;refine ab<|az<|pN 3 [5,102,103] [(5,vB (F==0))]<|ab ?_;obtain rfl:=sj d;refine ac fun a hd hs ag=>?_;have eD:w.heap.size≤i:=cg o (bg E C nb).size;exact ⟨none,0,none,0,(fun _=>False),(bg q dz (bc eD)),(nt B dz.size),aD.nil (bY (iE .i64) (iE .i64)) 53 eC (fun _=>False),(fun _ h=>by cases h),aD.nil pcE 25 eC (fun _=>False),(fun _ h=>by cases h),(fun _ h=>h.elim),(fun _ h=>h.elim),(fun _ h=>by cases h),(fun _ h=>by cases h),(fun _ h=>by cases h),(fun h=>by cases h),(fun h=>by cases h),(fun _ h=>by cases h),(fun _ h=>by cases h),(fun _ h=>by cases h),(fun h=>h.elim nofun (fun e=>e)),(fun h=>h.elim nofun (fun e=>e)),(l.grown dz (ad (ng p))),fh,hd,hs,aX ag⟩
      ·replace d:=aq b5 d;refine aO<|pN 2 [104,105] [(104,vB (c.1==7))]<|ab<|am (b:=(c.1==7)) kr (fun b6=>?_) (fun b6=>?_)
       ·replace d:=ap b6 d;refine aO<|pN 1 [106] [(106,.pointer (some ⟨f,1,none⟩))]<|br 3 ⟨f,1,none⟩ (vI c.2.1) (aI (l.cell 1 rfl))<|pN 1 [108] [(108,.pointer (some ⟨i,1,none⟩))]<|aC 3 1 (vI c.2.1) #[vI c.1,vI c.2.1,vI 0,vB false,vB false,vL none ([]:List bx) 0,vL none ([]:List Pc) 0] H kr kr kr ?_;intro eE dA fi f7;refine ab<|az<|pN 3 [5,109,110] [(5,vB (F==1))]<|ab ?_;obtain rfl:=sj d;refine ac fun a hd hs ag=>?_;have eF:w.heap.size≤i:=cg o (bg E C nb).size;exact ⟨none,0,none,0,(fun _=>False),(bg q dA (bc eF)),(nt B dA.size),aD.nil (bY (iE .i64) (iE .i64)) 53 eE (fun _=>False),(fun _ h=>by cases h),aD.nil pcE 25 eE (fun _=>False),(fun _ h=>by cases h),(fun _ h=>h.elim),(fun _ h=>h.elim),(fun _ h=>by cases h),(fun _ h=>by cases h),(fun _ h=>by cases h),(fun h=>by cases h),(fun h=>by cases h),(fun _ h=>by cases h),(fun _ h=>by cases h),(fun _ h=>by cases h),(fun h=>h.elim nofun (fun e=>e)),(fun h=>h.elim nofun (fun e=>e)),(l.grown dA (ad (ng p))),fi,hd,hs,aX ag⟩
       ·replace d:=aq b6 d;refine aO<|pN 2 [111,112] [(111,vB (c.1==8))]<|ab<|am (b:=(c.1==8)) kr (fun b8=>?_) (fun b8=>?_)
        ·replace d:=ap b8 d;refine az<|pN 3 [113,114,115] [(115,vB (F !=1))]<|au (s:=115) (g:=(F !=1)) kr (fun dB=>?_) (fun dB=>?_)
         ·replace d:=ap dB d;refine pN 1 [116] [(116,.pointer (some ⟨f,6,none⟩))]<|br 23 ⟨f,6,none⟩ (vL m c.2.2.2.2.2.2 n) (aI (l.cell 6 rfl))<|aP (fun b=>.slice (ro b) 2 2) #[vI 8,vI 9] 3 kr kr ?_;intro bd eG dC fj eH f8;have ej:aD (iE .i64) 3 eG (fun _=>False) (ro bd) 2 ([8,9]:List Int):=bM fj ⟨[vI 8],[vI 9],rfl,rfl,⟨[vI 9],[],rfl,rfl,rfl⟩⟩ (show 2≤maxLen by decide) (fun h=>h);have f9:Lo w (ro bd):=loo eH q.size;refine af d ?_;clear d;intro eI fk d;have dD:=bg q dC nb;refine ak kr rfl kr enters38 (cP ar m n c.2.2.2.2.2.2 (ro bd) 2 ([8,9]:List Int) eG (fun k=>X0 k∨(fun k=>aH (ro bd)=some k) k) (fun k hk=>(hk).elim (fun h=>(fun k (hk:X0 k)=>bj (N k hk) dD.size) k h) (fun h=>(fun k (hk:aH (ro bd)=some k)=>ej.lt k hk) k h)) ((cc.below dD N).wide (fun k hk=>(.inl hk))) ((ej.rd (Y:=fun k=>aH (ro bd)=some k) (fun _ h=>h.elim) (fun g e=>e)).wide (fun k hk=>(.inr hk))) eI fk) ?_;rintro gm eJ ⟨dE,rfl⟩;refine pN 3 [5,120,121] [(5,vB (!eI))]<|ab ?_;obtain rfl:=sj d;refine ac fun a hd hs ag=>?_;have ek:=(aj dC dE);exact ⟨none,0,none,0,(fun _=>False),(bg dD dE nb),(nt (nt B dC.size) dE.size),aD.nil (bY (iE .i64) (iE .i64)) 53 eJ (fun _=>False),(fun _ h=>by cases h),aD.nil pcE 25 eJ (fun _=>False),(fun _ h=>by cases h),(fun _ h=>h.elim),(fun _ h=>h.elim),(fun _ h=>by cases h),(fun _ h=>by cases h),(fun _ h=>by cases h),(fun h=>by cases h),(fun h=>by cases h),(fun _ h=>by cases h),(fun _ h=>by cases h),(fun _ h=>by cases h),(fun h=>h.elim nofun (fun e=>e)),(fun h=>h.elim nofun (fun e=>e)),(l.grown ek nb),(H.grown ek nb),hd,hs,aX ag⟩
         ·replace d:=aq dB d;refine pN 7 [5,116,117,118,119,120,121] [(5,vB false)]<|ab ?_;obtain rfl:=sj d;refine ac fun a hd hs ag=>?_;exact ⟨none,0,none,0,(fun _=>False),q,B,aD.nil (bY (iE .i64) (iE .i64)) 53 U (fun _=>False),(fun _ h=>by cases h),aD.nil pcE 25 U (fun _=>False),(fun _ h=>by cases h),(fun _ h=>h.elim),(fun _ h=>h.elim),(fun _ h=>by cases h),(fun _ h=>by cases h),(fun _ h=>by cases h),(fun h=>by cases h),(fun h=>by cases h),(fun _ h=>by cases h),(fun _ h=>by cases h),(fun _ h=>by cases h),(fun h=>h.elim nofun (fun e=>e)),(fun h=>h.elim nofun (fun e=>e)),l,H,hd,hs,aX ag⟩
        ·replace d:=aq b8 d;refine aO<|pN 2 [122,123] [(122,vB (c.1==9))]<|ab<|am (b:=(c.1==9)) kr (fun b9=>?_) (fun b9=>?_)
         ·replace d:=ap b9 d;refine az<|pN 3 [124,125,126] [(126,vB (decide (F>1)))]<|au (s:=126) (g:=(decide (F>1))) kr (fun dF=>?_) (fun dF=>?_)
          ·replace d:=ap dF d;refine pN 1 [127] [(127,.pointer (some ⟨f,6,none⟩))]<|br 23 ⟨f,6,none⟩ (vL m c.2.2.2.2.2.2 n) (aI (l.cell 6 rfl))<|aP (fun b=>.slice (ro b) 1 1) #[vI 9] 3 kr kr ?_;intro be eK dG fl eL ga;have el:aD (iE .i64) 3 eK (fun _=>False) (ro be) 1 ([9]:List Int):=bM fl ⟨[vI 9],[],rfl,rfl,rfl⟩ (show 1≤maxLen by decide) (fun h=>h);have gb:Lo w (ro be):=loo eL q.size;refine af d ?_;clear d;intro eM fm d;have dH:=bg q dG nb;refine ak kr rfl kr enters38 (cP ar m n c.2.2.2.2.2.2 (ro be) 1 ([9]:List Int) eK (fun k=>X0 k∨(fun k=>aH (ro be)=some k) k) (fun k hk=>(hk).elim (fun h=>(fun k (hk:X0 k)=>bj (N k hk) dH.size) k h) (fun h=>(fun k (hk:aH (ro be)=some k)=>el.lt k hk) k h)) ((cc.below dH N).wide (fun k hk=>(.inl hk))) ((el.rd (Y:=fun k=>aH (ro be)=some k) (fun _ h=>h.elim) (fun g e=>e)).wide (fun k hk=>(.inr hk))) eM fm) ?_;rintro gn eN ⟨dI,rfl⟩;refine pN 3 [5,131,132] [(5,vB (!eM))]<|ab ?_;obtain rfl:=sj d;refine ac fun a hd hs ag=>?_;have em:=(aj dG dI);exact ⟨none,0,none,0,(fun _=>False),(bg dH dI nb),(nt (nt B dG.size) dI.size),aD.nil (bY (iE .i64) (iE .i64)) 53 eN (fun _=>False),(fun _ h=>by cases h),aD.nil pcE 25 eN (fun _=>False),(fun _ h=>by cases h),(fun _ h=>h.elim),(fun _ h=>h.elim),(fun _ h=>by cases h),(fun _ h=>by cases h),(fun _ h=>by cases h),(fun h=>by cases h),(fun h=>by cases h),(fun _ h=>by cases h),(fun _ h=>by cases h),(fun _ h=>by cases h),(fun h=>h.elim nofun (fun e=>e)),(fun h=>h.elim nofun (fun e=>e)),(l.grown em nb),(H.grown em nb),hd,hs,aX ag⟩
          ·replace d:=aq dF d;refine pN 7 [5,127,128,129,130,131,132] [(5,vB false)]<|ab ?_;obtain rfl:=sj d;refine ac fun a hd hs ag=>?_;exact ⟨none,0,none,0,(fun _=>False),q,B,aD.nil (bY (iE .i64) (iE .i64)) 53 U (fun _=>False),(fun _ h=>by cases h),aD.nil pcE 25 U (fun _=>False),(fun _ h=>by cases h),(fun _ h=>h.elim),(fun _ h=>h.elim),(fun _ h=>by cases h),(fun _ h=>by cases h),(fun _ h=>by cases h),(fun h=>by cases h),(fun h=>by cases h),(fun _ h=>by cases h),(fun _ h=>by cases h),(fun _ h=>by cases h),(fun h=>h.elim nofun (fun e=>e)),(fun h=>h.elim nofun (fun e=>e)),l,H,hd,hs,aX ag⟩
         ·replace d:=aq b9 d;refine aO<|pN 2 [133,134] [(133,vB (c.1==10))]<|ab<|am (b:=(c.1==10)) kr (fun ca=>?_) (fun ca=>?_)
          ·replace d:=ap ca d;refine aU<|cp kr ?_
           intro eO a4;refine bu [0,2,4] (bA 12 [0,2,4]) 9 kr kr ?_;have en:=(nt B a4.size);clear ca b9 b8 b6 b5 cx ck B;refine pN 3 [135,137,139] [(135,.pointer (some ⟨f,1,none⟩)),(137,.pointer (some ⟨f,2,none⟩)),(139,.pointer (some ⟨f,4,none⟩))]<|ab<|aG<|bf (Cls eO [i]) [1,3,5,6,7,8,9] [(1,some true),(3,some true),(5,some true),(6,some true),(7,some false),(8,some true),(9,some false)] (bA 12 [0,1,2,3,4,5,6,7,8,9]) 2 kr kr (aN _ _) ?_;have eo:=aN eO [i];have a5:=l.grown a4 nb;refine br 3 ⟨f,1,none⟩ (.int .i64 c.2.1) (cu fun w' hC'=>((hC'.box a5 (nm_cons (Nat.ne_of_lt p) bV)).cell 1 rfl)) ?_;refine br 3 ⟨f,2,none⟩ (.int .i64 c.2.2.1) (cu fun w' hC'=>((hC'.box a5 (nm_cons (Nat.ne_of_lt p) bV)).cell 2 rfl)) ?_;refine br 4 ⟨f,4,none⟩ (.bool c.2.2.2.2.1) (cu fun w' hC'=>((hC'.box a5 (nm_cons (Nat.ne_of_lt p) bV)).cell 4 rfl)) ?_;refine pN 1 [141] [(141,.pointer (some ⟨i,1,none⟩))]<|gv_store (t:=3) (b:=i) (off:=1) (v:=(.int .i64 c.2.1)) (t':=25) (cs:=#[.int .i64 c.1,.int .i64 0,.int .i64 0,.bool false,.bool false,.slice none (length ([]:List bx)) 0,.slice none (length ([]:List Pc)) 0]) #[.int .i64 c.1,.int .i64 c.2.1,.int .i64 0,.bool false,.bool false,.slice none (length ([]:List bx)) 0,.slice none (length ([]:List Pc)) 0] cN rfl rfl kr kr kr (by intro u hu;simp[Value.cells]at hu;subst hu;rfl) (show 1+1≤7 by decide) (by rfl) (H.grown a4 nb) ?_;intro go Q fn gc;refine ⟨(fun _=>eo.grown Q (rowm (List.Mem.head _))),?_⟩;refine pN 1 [142] [(142,.pointer (some ⟨i,2,none⟩))]<|gv_store (t:=3) (b:=i) (off:=2) (v:=(.int .i64 c.2.2.1)) (t':=25) (cs:=#[.int .i64 c.1,.int .i64 c.2.1,.int .i64 0,.bool false,.bool false,.slice none (length ([]:List bx)) 0,.slice none (length ([]:List Pc)) 0]) #[.int .i64 c.1,.int .i64 c.2.1,.int .i64 c.2.2.1,.bool false,.bool false,.slice none (length ([]:List bx)) 0,.slice none (length ([]:List Pc)) 0] cN rfl rfl kr kr kr (by intro u hu;simp[Value.cells]at hu;subst hu;rfl) (show 2+1≤7 by decide) (by rfl) fn ?_;intro gp W fo gd;refine ⟨(fun _=>(eo.grown Q (rowm (List.Mem.head _))).grown W (rowm (List.Mem.head _))),?_⟩;refine ab<|aG<|bu [10] (bA 12 [0,1,2,3,4,5,6,7,8,9,10]) 1 kr kr<|pN 1 [143] [(143,.pointer (some ⟨i,4,none⟩))]<|cj [(1,bp f),(3,bp i),(4,vI F),(140,vB c.2.2.2.2.1),(143,.pointer (some ⟨i,4,none⟩))]<|ab<|aG<|bf (fun _=>True) [11] [(11,some false)] (bA 12 [0,1,2,3,4,5,6,7,8,9,10,11]) 0 kr kr trivial ?_;refine gv_store (t:=4) (b:=i) (off:=4) (v:=(.bool c.2.2.2.2.1)) (t':=25) (cs:=#[.int .i64 c.1,.int .i64 c.2.1,.int .i64 c.2.2.1,.bool false,.bool false,.slice none (length ([]:List bx)) 0,.slice none (length ([]:List Pc)) 0]) #[.int .i64 c.1,.int .i64 c.2.1,.int .i64 c.2.2.1,.bool false,.bool c.2.2.2.2.1,.slice none (length ([]:List bx)) 0,.slice none (length ([]:List Pc)) 0] cN rfl rfl kr kr kr (by intro u hu;simp[Value.cells]at hu;subst hu;rfl) (show 4+1≤7 by decide) (by rfl) fo ?_;intro eP ah ep ge;refine ⟨(fun _=>trivial),?_⟩;refine ab<|aG<|bH kr<|az<|pN 3 [144,145,146] [(146,vB (F==1))]<|au (s:=146) (g:=(F==1)) kr (fun dJ=>?_) (fun dJ=>?_)
           ·replace d:=ap dJ d;refine pN 1 [147] [(147,.pointer (some ⟨f,6,none⟩))] ?_;have eq:=((a5.grown Q (ad (ng p))).grown W (ad (ng p))).grown ah (ad (ng p));refine br 23 ⟨f,6,none⟩ (vL m c.2.2.2.2.2.2 n) (aI (eq.cell 6 rfl))<|aP (fun b=>.slice (ro b) 7 7) #[vI 8,vI 9,vI 10,vI 4,vI 5,vI 6,vI 11] 3 kr kr ?_;intro bl eQ dK fp eR gf;have er:aD (iE .i64) 3 eQ (fun _=>False) (ro bl) 7 ([8,9,10,4,5,6,11]:List Int):=bM fp ⟨[vI 8],[vI 9,vI 10,vI 4,vI 5,vI 6,vI 11],rfl,rfl,⟨[vI 9],[vI 10,vI 4,vI 5,vI 6,vI 11],rfl,rfl,⟨[vI 10],[vI 4,vI 5,vI 6,vI 11],rfl,rfl,⟨[vI 4],[vI 5,vI 6,vI 11],rfl,rfl,⟨[vI 5],[vI 6,vI 11],rfl,rfl,⟨[vI 6],[vI 11],rfl,rfl,⟨[vI 11],[],rfl,rfl,rfl⟩⟩⟩⟩⟩⟩⟩ (show 7≤maxLen by decide) (fun h=>h);have c3:w.heap.size≤i:=cg o (bg E C nb).size;have es:=bg (bg (bg (bg q a4 nb) Q (bc c3)) W (bc c3)) ah (bc c3);have gg:Lo w (ro bl):=loo eR es.size;refine af d ?_;clear d;intro eS fq d;have dL:=bg es dK nb;refine ak kr rfl kr enters38 (cP ar m n c.2.2.2.2.2.2 (ro bl) 7 ([8,9,10,4,5,6,11]:List Int) eQ (fun k=>X0 k∨(fun k=>aH (ro bl)=some k) k) (fun k hk=>(hk).elim (fun h=>(fun k (hk:X0 k)=>bj (N k hk) dL.size) k h) (fun h=>(fun k (hk:aH (ro bl)=some k)=>er.lt k hk) k h)) ((cc.below dL N).wide (fun k hk=>(.inl hk))) ((er.rd (Y:=fun k=>aH (ro bl)=some k) (fun _ h=>h.elim) (fun g e=>e)).wide (fun k hk=>(.inr hk))) eS fq) ?_;rintro gq eT ⟨dM,rfl⟩;refine pN 3 [5,151,152] [(5,vB (!eS))]<|ab ?_;obtain rfl:=sj d;refine ac fun a hd hs ag=>?_;have et:=(aj dK dM);exact ⟨none,0,none,0,(fun _=>False),(bg dL dM nb),(nt (nt (nt (nt (nt en Q.size) W.size) ah.size) dK.size) dM.size),aD.nil (bY (iE .i64) (iE .i64)) 53 eT (fun _=>False),(fun _ h=>by cases h),aD.nil pcE 25 eT (fun _=>False),(fun _ h=>by cases h),(fun _ h=>h.elim),(fun _ h=>h.elim),(fun _ h=>by cases h),(fun _ h=>by cases h),(fun _ h=>by cases h),(fun h=>by cases h),(fun h=>by cases h),(fun _ h=>by cases h),(fun _ h=>by cases h),(fun _ h=>by cases h),(fun h=>h.elim nofun (fun e=>e)),(fun h=>h.elim nofun (fun e=>e)),(eq.grown et nb),(ep.grown et nb),hd,hs,aX ag⟩
           ·replace d:=aq dJ d;refine pN 7 [5,147,148,149,150,151,152] [(5,vB false)]<|ab ?_;obtain rfl:=sj d;refine ac fun a hd hs ag=>?_;have c4:w.heap.size≤i:=cg o (bg E C nb).size;exact ⟨none,0,none,0,(fun _=>False),(bg (bg (bg (bg q a4 nb) Q (bc c4)) W (bc c4)) ah (bc c4)),(nt (nt (nt en Q.size) W.size) ah.size),aD.nil (bY (iE .i64) (iE .i64)) 53 eP (fun _=>False),(fun _ h=>by cases h),aD.nil pcE 25 eP (fun _=>False),(fun _ h=>by cases h),(fun _ h=>h.elim),(fun _ h=>h.elim),(fun _ h=>by cases h),(fun _ h=>by cases h),(fun _ h=>by cases h),(fun h=>by cases h),(fun h=>by cases h),(fun _ h=>by cases h),(fun _ h=>by cases h),(fun _ h=>by cases h),(fun h=>h.elim nofun (fun e=>e)),(fun h=>h.elim nofun (fun e=>e)),(((a5.grown Q (ad (ng p))).grown W (ad (ng p))).grown ah (ad (ng p))),ep,hd,hs,aX ag⟩
          ·replace d:=aq ca d;refine aO<|pN 2 [153,154] [(153,vB (c.1==11))]<|ab<|am (b:=(c.1==11)) kr (fun dN=>?_) (fun dN=>?_)
           ·replace d:=ap dN d;refine aO<|pN 1 [155] [(155,.pointer (some ⟨f,3,none⟩))]<|br 4 ⟨f,3,none⟩ (vB c.2.2.2.1) (aI (l.cell 3 rfl))<|pN 1 [157] [(157,.pointer (some ⟨i,3,none⟩))]<|aC 4 3 (vB c.2.2.2.1) #[vI c.1,vI 0,vI 0,vB c.2.2.2.1,vB false,vL none ([]:List bx) 0,vL none ([]:List Pc) 0] H kr kr kr ?_;intro eU dO fr gh;refine ab<|az<|pN 3 [5,158,159] [(5,vB (F==1))]<|ab ?_;obtain rfl:=sj d;refine ac fun a hd hs ag=>?_;have eV:w.heap.size≤i:=cg o (bg E C nb).size;exact ⟨none,0,none,0,(fun _=>False),(bg q dO (bc eV)),(nt B dO.size),aD.nil (bY (iE .i64) (iE .i64)) 53 eU (fun _=>False),(fun _ h=>by cases h),aD.nil pcE 25 eU (fun _=>False),(fun _ h=>by cases h),(fun _ h=>h.elim),(fun _ h=>h.elim),(fun _ h=>by cases h),(fun _ h=>by cases h),(fun _ h=>by cases h),(fun h=>by cases h),(fun h=>by cases h),(fun _ h=>by cases h),(fun _ h=>by cases h),(fun _ h=>by cases h),(fun h=>h.elim nofun (fun e=>e)),(fun h=>h.elim nofun (fun e=>e)),(l.grown dO (ad (ng p))),fr,hd,hs,aX ag⟩
           ·replace d:=aq dN d;refine aO<|pN 2 [160,161] [(160,vB (c.1==12))]<|ab<|am (b:=(c.1==12)) kr (fun dP=>?_) (fun dP=>?_)
            ·replace d:=ap dP d;refine aO<|pN 1 [162] [(162,.pointer (some ⟨f,1,none⟩))]<|br 3 ⟨f,1,none⟩ (vI c.2.1) (aI (l.cell 1 rfl))<|pN 1 [164] [(164,.pointer (some ⟨i,1,none⟩))]<|aC 3 1 (vI c.2.1) #[vI c.1,vI c.2.1,vI 0,vB false,vB false,vL none ([]:List bx) 0,vL none ([]:List Pc) 0] H kr kr kr ?_;intro bn R dQ gi;refine ab<|az<|pN 3 [165,166,167] [(167,vB (F==0))]<|au (s:=167) (g:=(F==0)) kr (fun dR=>?_) (fun dR=>?_)
             ·replace d:=ap dR d;refine pN 1 [168] [(168,.pointer (some ⟨f,1,none⟩))]<|cj [(1,bp f),(3,bp i),(167,vB true),(168,.pointer (some ⟨f,1,none⟩))] ?_;have cb:=l.grown R (ad (ng p));refine br 3 ⟨f,1,none⟩ (vI c.2.1) (aI (cb.cell 1 rfl))<|pN 3 [170,171,172] [(172,vB (decide (c.2.1≥1)))]<|au (s:=172) (g:=(decide (c.2.1≥1))) kr (fun dS=>?_) (fun dS=>?_)
              ·replace d:=ap dS d;refine pN 1 [173] [(173,.pointer (some ⟨f,1,none⟩))]<|br 3 ⟨f,1,none⟩ (vI c.2.1) (aI (cb.cell 1 rfl))<|pN 3 [5,175,176] [(5,vB (decide (c.2.1≤9)))]<|ab ?_;obtain rfl:=sj d;refine ac fun a hd hs ag=>?_;have eW:w.heap.size≤i:=cg o (bg E C nb).size;exact ⟨none,0,none,0,(fun _=>False),(bg q R (bc eW)),(nt B R.size),aD.nil (bY (iE .i64) (iE .i64)) 53 bn (fun _=>False),(fun _ h=>by cases h),aD.nil pcE 25 bn (fun _=>False),(fun _ h=>by cases h),(fun _ h=>h.elim),(fun _ h=>h.elim),(fun _ h=>by cases h),(fun _ h=>by cases h),(fun _ h=>by cases h),(fun h=>by cases h),(fun h=>by cases h),(fun _ h=>by cases h),(fun _ h=>by cases h),(fun _ h=>by cases h),(fun h=>h.elim nofun (fun e=>e)),(fun h=>h.elim nofun (fun e=>e)),cb,dQ,hd,hs,aX ag⟩
              ·replace d:=aq dS d;refine pN 5 [5,173,174,175,176] [(5,vB false)]<|ab ?_;obtain rfl:=sj d;refine ac fun a hd hs ag=>?_;have eX:w.heap.size≤i:=cg o (bg E C nb).size;exact ⟨none,0,none,0,(fun _=>False),(bg q R (bc eX)),(nt B R.size),aD.nil (bY (iE .i64) (iE .i64)) 53 bn (fun _=>False),(fun _ h=>by cases h),aD.nil pcE 25 bn (fun _=>False),(fun _ h=>by cases h),(fun _ h=>h.elim),(fun _ h=>h.elim),(fun _ h=>by cases h),(fun _ h=>by cases h),(fun _ h=>by cases h),(fun h=>by cases h),(fun h=>by cases h),(fun _ h=>by cases h),(fun _ h=>by cases h),(fun _ h=>by cases h),(fun h=>h.elim nofun (fun e=>e)),(fun h=>h.elim nofun (fun e=>e)),cb,dQ,hd,hs,aX ag⟩
             ·replace d:=aq dR d;refine pN 10 [5,168,169,170,171,172,173,174,175,176] [(5,vB false)]<|cj [(1,bp f),(3,bp i),(5,vB false)]<|ab ?_;obtain rfl:=sj d;refine ac fun a hd hs ag=>?_;have eY:w.heap.size≤i:=cg o (bg E C nb).size;exact ⟨none,0,none,0,(fun _=>False),(bg q R (bc eY)),(nt B R.size),aD.nil (bY (iE .i64) (iE .i64)) 53 bn (fun _=>False),(fun _ h=>by cases h),aD.nil pcE 25 bn (fun _=>False),(fun _ h=>by cases h),(fun _ h=>h.elim),(fun _ h=>h.elim),(fun _ h=>by cases h),(fun _ h=>by cases h),(fun _ h=>by cases h),(fun h=>by cases h),(fun h=>by cases h),(fun _ h=>by cases h),(fun _ h=>by cases h),(fun _ h=>by cases h),(fun h=>h.elim nofun (fun e=>e)),(fun h=>h.elim nofun (fun e=>e)),(l.grown R (ad (ng p))),dQ,hd,hs,aX ag⟩
            ·replace d:=aq dP d;refine aF ?_;obtain rfl:=sj d;refine ac fun a hd hs ag=>?_;exact ⟨none,0,none,0,(fun _=>False),q,B,aD.nil (bY (iE .i64) (iE .i64)) 53 U (fun _=>False),(fun _ h=>by cases h),aD.nil pcE 25 U (fun _=>False),(fun _ h=>by cases h),(fun _ h=>h.elim),(fun _ h=>h.elim),(fun _ h=>by cases h),(fun _ h=>by cases h),(fun _ h=>by cases h),(fun h=>by cases h),(fun h=>by cases h),(fun _ h=>by cases h),(fun _ h=>by cases h),(fun _ h=>by cases h),(fun h=>h.elim nofun (fun e=>e)),(fun h=>h.elim nofun (fun e=>e)),l,H,hd,hs,aX ag⟩
 ·rintro a a0 ⟨gr,gs,gt,gu,gv,S,fs,ft,fu,fv,fw,fx,fy,fz,fA,fB,fC,fD,fE,fF,fG,fH,fI,X,a6,hd,hs,ag⟩;refine aM ?_ hd hs ag;clear hd hs ag;clear fs d1 T ev a7 Z eu d0 bs fM dZ;refine bI<|aO<|af h0 ?_;clear h0;intro eZ d h0
  refine aS (J:=fun a ea=>Bl w ea∧Sz a0 ea∧Qa a 217 [(2,vB eZ)]) ?_ ?_
  ·refine pN 2 [177,178] [(178,vB G.1)]<|au (s:=178) (g:=G.1) kr (fun dT=>?_) (fun dT=>?_)
   ·replace d:=ap dT d;refine pN 1 [179] [(179,.pointer (some ⟨f,1,none⟩))]<|br 3 ⟨f,1,none⟩ (vI c.2.1) (aI (X.cell 1 rfl))<|pN 1 [181] [(181,.pointer (some ⟨i,1,none⟩))]<|br 3 ⟨i,1,none⟩ (vI G.2.2.1) (aI (a6.cell 1 rfl))<|pN 3 [183,184,185] [(185,vB (c.2.1==G.2.2.1))]<|au (s:=185) (g:=(c.2.1==G.2.2.1)) kr (fun dU=>?_) (fun dU=>?_)
    ·replace d:=ap dU d;refine pN 1 [186] [(186,.pointer (some ⟨f,2,none⟩))]<|br 3 ⟨f,2,none⟩ (vI c.2.2.1) (aI (X.cell 2 rfl))<|pN 1 [188] [(188,.pointer (some ⟨i,2,none⟩))]<|br 3 ⟨i,2,none⟩ (vI G.2.2.2.1) (aI (a6.cell 2 rfl))<|pN 3 [190,191,192] [(192,vB (c.2.2.1==G.2.2.2.1))]<|au (s:=192) (g:=(c.2.2.1==G.2.2.2.1)) kr (fun dV=>?_) (fun dV=>?_)
     ·replace d:=ap dV d;refine pN 1 [193] [(193,.pointer (some ⟨f,3,none⟩))]<|br 4 ⟨f,3,none⟩ (vB c.2.2.2.1) (aI (X.cell 3 rfl))<|pN 1 [195] [(195,.pointer (some ⟨i,3,none⟩))]<|cj [(1,bp f),(3,bp i),(192,vB true),(194,vB c.2.2.2.1),(195,.pointer (some ⟨i,3,none⟩))]<|br 4 ⟨i,3,none⟩ (vB G.2.2.2.2.1) (aI (a6.cell 3 rfl))<|pN 3 [197,198,199] [(199,vB (c.2.2.2.1==G.2.2.2.2.1))]<|au (s:=199) (g:=(c.2.2.2.1==G.2.2.2.2.1)) kr (fun dW=>?_) (fun dW=>?_)
      ·replace d:=ap dW d;refine pN 1 [200] [(200,.pointer (some ⟨f,4,none⟩))]<|br 4 ⟨f,4,none⟩ (vB c.2.2.2.2.1) (aI (X.cell 4 rfl))<|pN 1 [202] [(202,.pointer (some ⟨i,4,none⟩))]<|br 4 ⟨i,4,none⟩ (vB G.2.2.2.2.2.1) (aI (a6.cell 4 rfl))<|pN 3 [204,205,206] [(206,vB (c.2.2.2.2.1==G.2.2.2.2.2.1))]<|au (s:=206) (g:=(c.2.2.2.2.1==G.2.2.2.2.2.1)) kr (fun dX=>?_) (fun dX=>?_)
       ·replace d:=ap dX d;refine pN 1 [207] [(207,bp f)]<|br 3 ⟨f,0,none⟩ (vI c.1) (aI (X.cell 0 rfl))<|pN 2 [209,210] [(210,vB (c.1==3))]<|au (s:=210) (g:=(c.1==3)) kr (fun dY=>?_) (fun dY=>?_)
        ·replace d:=ap dY d;refine pN 7 [2,211,212,213,214,215,216] [(2,vB true)]<|ab ?_;obtain rfl:=sj d;refine ac fun a hd hs ag=>?_;exact ⟨S,bK,hd,hs,aX ag⟩
        ·replace d:=aq dY d;refine pN 1 [211] [(211,.pointer (some ⟨f,5,none⟩))]<|br 22 ⟨f,5,none⟩ (vL ai c.2.2.2.2.2.1 ao) (aI (X.cell 5 rfl))<|pN 5 [2,213,214,215,216] [(2,vB ((lz c.2.2.2.2.2.1)==0))]<|af d ?_;clear d;intro fZ fJ d;refine co (s:=2) (v:=(vB ((lz c.2.2.2.2.2.1)==0))) (v':=(vB fZ)) kr (congrArg (Value.bool) (sj fJ))<|ab ?_;obtain rfl:=sj d;refine ac fun a hd hs ag=>?_;exact ⟨S,bK,hd,hs,aX ag⟩
       ·replace d:=aq dX d;refine pN 11 [2,207,208,209,210,211,212,213,214,215,216] [(2,vB false)]<|ab ?_;obtain rfl:=sj d;refine ac fun a hd hs ag=>?_;exact ⟨S,bK,hd,hs,aX ag⟩
      ·replace d:=aq dW d;refine pN 18 [2,200,201,202,203,204,205,206,207,208,209,210,211,212,213,214,215,216] [(2,vB false)]<|ab ?_;obtain rfl:=sj d;refine ac fun a hd hs ag=>?_;exact ⟨S,bK,hd,hs,aX ag⟩
     ·replace d:=aq dV d;refine pN 25 [2,193,194,195,196,197,198,199,200,201,202,203,204,205,206,207,208,209,210,211,212,213,214,215,216] [(2,vB false)]<|ab ?_;obtain rfl:=sj d;refine ac fun a hd hs ag=>?_;exact ⟨S,bK,hd,hs,aX ag⟩
    ·replace d:=aq dU d;refine pN 32 [2,186,187,188,189,190,191,192,193,194,195,196,197,198,199,200,201,202,203,204,205,206,207,208,209,210,211,212,213,214,215,216] [(2,vB false)]<|ab ?_;obtain rfl:=sj d;refine ac fun a hd hs ag=>?_;exact ⟨S,bK,hd,hs,aX ag⟩
   ·replace d:=aq dT d;refine pN 39 [2,179,180,181,182,183,184,185,186,187,188,189,190,191,192,193,194,195,196,197,198,199,200,201,202,203,204,205,206,207,208,209,210,211,212,213,214,215,216] [(2,vB false)]<|ab ?_;obtain rfl:=sj d;refine ac fun a hd hs ag=>?_;exact ⟨S,bK,hd,hs,aX ag⟩
  ·rintro a ea ⟨fK,fL,hd,hs,ag⟩;refine aM ?_ hd hs ag;clear hd hs ag;clear fL a6 X fI fH fG fF fE fD fC fB fA fz fy fx fw fv fu ft S p o fR C;refine av ?_;obtain rfl:=sj h0;refine aB (aw [vB eZ] rfl ⟨kr,trivial⟩ ?_);exact ⟨ae fK,rfl⟩

theorem ref4_oneOf_ok (ar:Nat) (g:Int) (c:ByteArray) (h:World) (t:Bool) (f:ref4_oneOf ar g c=some t):
    Cs 45 [vU g,vS c] h (G1 h [vB t]):=by
 have u:Bl h h:=Below.refl _ _;unfold ref4_oneOf at f;refine aW Tryz.func45 rfl Tryz.ntmps45 kr ?_;refine cj [(0,vU g),(1,vS c)]<|aO<|pN 1 [4] []<|cK<|aO<|pN 1 [5] [(5,vI 0)]<|ab<|af f ?_;clear f;intro x k f
 refine aE (J:=fun a p=>∃ v:Unit,x= .inl v∧Bl h p∧Sz h p∧Qa a 17 []) ?_ ?_
 ·refine aJ<|bX (A:=fun (i:Int) a q=>Bl h q∧Sz h q∧Qa a 17 [(0,vU g),(1,vS c),(5,vI i)]) k ?_ ?_
  ·intro a hd hs ag;exact ⟨u,bK,hd,hs,aX ag⟩
  ·rintro i z d n a q ⟨l,o,hd,hs,ag⟩;refine aM ?_ hd hs ag;refine aU<|aO<|pN 4 [6,7,8,9] [(9,vB (decide (i<(bz c))))]<|ab<|am (b:=(decide (i<(bz c)))) kr (fun m=>?_) (fun m=>?_)
   ·replace d:=ap m d;refine aF<|aU<|aJ<|aO<|pN 2 [12,13] [(12,vS c),(13,vI i)]<|af d ?_;clear d;intro w r d;refine siq .i64 r bL<|pN 2 [15,16] [(16,vB (w==g))]<|ab<|am (b:=(w==g)) kr (fun j=>?_) (fun j=>?_)
    ·replace d:=ap j d;refine aO<|pN 1 [4] [(4,vB true)]<|ab<|av ?_
     obtain rfl:=sj d;replace k:=congrArg some (n _ rfl);obtain rfl:=sj k;replace f:=aZ f;obtain rfl:=sj f;refine aB (aw [vB true] rfl ⟨kr,trivial⟩ ?_);exact ⟨ae l,rfl⟩
    ·replace d:=aq j d;refine aF<|bI<|az<|pN 3 [5,10,11] [(5,vI (wI (i+1)))]<|ab ?_;obtain rfl:=sj d;refine ac fun a hd hs ag=>?_;exact ⟨(wI (i+1)),rfl,l,o,hd,hs,aX ag⟩
   ·replace d:=aq m d;refine bO<|bW rfl ?_
    obtain rfl:=sj d;replace k:=congrArg some (n _ rfl);obtain rfl:=sj k;refine ac fun a hd hs ag=>?_;exact ⟨(),rfl,l,o,hd,hs,aX ag⟩
 ·rintro a p ⟨v,e,s,y,hd,hs,ag⟩;subst e;refine aM ?_ hd hs ag;replace f:=bS f;refine aO<|pN 1 [4] [(4,vB false)]<|ab<|av ?_
  obtain rfl:=sj f;refine aB (aw [vB false] rfl ⟨kr,trivial⟩ ?_);exact ⟨ae s,rfl⟩

end Go.Proofs.YtjhfmibjphdanaaGreatDoor
