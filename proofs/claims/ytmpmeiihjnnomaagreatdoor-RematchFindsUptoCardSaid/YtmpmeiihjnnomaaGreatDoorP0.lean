import Derived.Test.YtmpmeiihjnnomaaGreatDoorRows
import Derived.Test.YtmpmeiihjnnomaaGreatDoorGh
import Derived.Test.YtmpmeiihjnnomaaGreatDoorD
import Derived.Test.YtmpmeiihjnnomaaGreatDoorGpc
import Derived.Test.YtmpmeiihjnnomaaGreatDoorGal
import Derived.Test.YtmpmeiihjnnomaaGreatDoorGso
import Derived.Test.YtmpmeiihjnnomaaGreatDoorGcp
import Derived.Test.YtmpmeiihjnnomaaGreatDoorGrs
import Derived.Test.YtmpmeiihjnnomaaGreatDoorRc
import Derived.Test.YtmpmeiihjnnomaaGreatDoorRd
import Derived.Test.YtmpmeiihjnnomaaGreatDoorRs
import Derived.Test.YtmpmeiihjnnomaaGreatDoorRm
import Derived.Test.YtmpmeiihjnnomaaGreatDoorSr
import Derived.Test.YtmpmeiihjnnomaaGreatDoorVs
import Derived.Test.YtmpmeiihjnnomaaGreatDoorSt
set_option linter.all false
set_option maxHeartbeats 4000000
set_option maxRecDepth 100000
/- Own work, printed by a program of mine: the walk of each function: a call returns what the plain function says. -/
namespace Go.Proofs.YtmpmeiihjnnomaaGreatDoor
open Go.Gv Go.Gv.D Go.RowKit
open Go.Gv renaming gv_nil→aa,grown_trans→ab,gv_goal→ac,grown_of_below→ae,bindE→ag,grown_step→ai,rowne→aj,gv_cret→am,gv_done→ao,gv_call0→aq,gv_goA→au,gv_ret→av,Own→aw,gv_region→az,gv_skip→aA,elemAddr→aB,Cls.refl→aC,gv_new0→aD,gv_cut_code→aF,gv_store0→aG,gv_seq→aH,gv_block→aI,calls_run→aK,gv_stage→aL,gv_in→aM,gv_cut_ops→aN,blk→aP,gv_pre→aR,rowlo→aS,gv_stageE→aX,ltx→aY,nm_nil→ba,Box→bb,gv_sub→bf,rowpp→bj,cont_inr→bk,gv_split→bm,strOf→bu,lowb→bv,gv_blk→bx,inw0→bB,inw1→bC,gv_drawA→bD,gv_cexit→bG,Box.ownE→bJ,gv_name→bK,gv_exit→bQ,gv_loop→bR,nmx_nil→bT,rdnn→bU,blk_neX→bW,lob→bY,cont_inl→bZ,lowo→b8,ltb→cd,gv_append→ci,blk_rev→cj,utf8First→cp,grown_refl→cu,blk_step→cA,Rd.nil→cD,gv_call→cH,rowppr→cI,utf8Acc→cN,gv_store→cX,Cls→cY,gv_pureNC→dc,gv_new→dd,pow10C→dl,gv_cond→dw,noteq→dC,tup→dF,Ret→dH,loo→dJ
open Go.Proofs.Tryz renaming prog→ar,underlying31→aO,underlying23→aT,underlying22→aV,underlying9→bt,underlying27→bV,underlying25→b9,underlying54→de,underlying3→dm
open List (length)
abbrev bh:=Option Addr
theorem co {p : Prop} (h : p := by decide) : p := h
abbrev wI (x:Int):Int:=IntKind.i64.wrap x
abbrev wU (x:Int):Int:=IntKind.u64.wrap x
abbrev wT (x:Int):Int:=IntKind.u32.wrap x
abbrev wB (x:Int):Int:=IntKind.u8.wrap x
abbrev wR (x:Int):Int:=IntKind.i32.wrap x
abbrev vI (x:Int):Value:=.int .i64 x
abbrev vW (x:Int):Value:=.int .u64 x
abbrev vT (x:Int):Value:=.int .u32 x
abbrev vU (x:Int):Value:=.int .u8 x
abbrev vR (x:Int):Value:=.int .i32 x
abbrev vB (x:Bool):Value:=.bool x
abbrev vS (x:ByteArray):Value:=.string x
abbrev vL {α:Type} (a:bh) (x:List α) (c:Nat):Value:=.slice a x.length c
abbrev ro (b:Nat):bh:=some ⟨b,0,none⟩
abbrev lz {α:Type} (x:List α):Int:=((x.length:Nat):Int)
abbrev bz (x:ByteArray):Int:=((x.size:Nat):Int)
abbrev Ap (a b:bh):Prop:=∀ g,aP a=some g→¬ (fun k=>aP b=some k) g
abbrev Lo (w:World) (a:bh):Prop:=∀ g,aP a=some g→w.heap.size≤g
abbrev Bl (w w':World):Prop:=Below w.heap.size w w'
abbrev Sz (w w':World):Prop:=w.heap.size≤w'.heap.size
abbrev Qa (a:Act) (n:Nat) (σ:List (Nat × Value)):Prop:=a.defers=[]∧a.tmps.size=n∧Ok σ a.tmps
abbrev bi (x:Int × Int × Int × Bool × Bool × (List (Int × Int)) × (List Pc)) (a0:bh) (c0:Nat) (a1:bh) (c1:Nat):Array Value:= #[vI x.1,vI x.2.1,vI x.2.2.1,vB x.2.2.2.1,vB x.2.2.2.2.1,vL a0 x.2.2.2.2.2.1 c0,vL a1 x.2.2.2.2.2.2 c1]
abbrev cO (x:ByteArray × Int × Int × Bool × Bool):Array Value:= #[vS x.1,vI x.2.1,vI x.2.2.1,vB x.2.2.2.1,vB x.2.2.2.2]
abbrev bS (x:Int × Int):Array Value:= #[vI x.1,vI x.2]
abbrev S102 (x:ByteArray × Int):Array Value:= #[vS x.1,vI x.2]
abbrev S153 (x:Bool × (List Int)) (a0:bh) (c0:Nat):Array Value:= #[vB x.1,vL a0 x.2 c0]
theorem xq {X c:Nat→Prop} {a:World} {b:Nat} (hs:∀ k,X k→c k∨a.heap.size≤k) (d:∀ k,c k→k<a.heap.size∧k≠b) (hp:b<a.heap.size):¬ X b:=fun h=>(hs _ h).elim (fun h=>(d _ h).2 rfl) (fun h=>Nat.not_lt_of_le h hp)
theorem rg {α:Type} {E:Enc α} {w w':World} {X:Nat→Prop} {a:bh} {cap b:Nat} {xs:List α} (h:Rd E w X a cap xs) (g:w.grownBy w' (some b)) (c:∀ k,X k→k<w.heap.size∧k≠b):Rd E w' X a cap xs:=h.grown g (fun k hk=>(c k hk).1) (fun g e hk=>by cases e;exact (c _ hk).2 rfl)
theorem jg {a:Nat→Prop} {c w:World} {b:Nat} {r:Option Nat} (d:∀ k,a k→k<c.heap.size∧k≠b) (g:c.grownBy w r):∀ k,a k→k<w.heap.size∧k≠b:=fun k hk=>⟨Nat.lt_of_lt_of_le (d k hk).1 g.size,(d k hk).2⟩
abbrev Sxb (X:Nat→Prop) (w':World) (a:Nat→Prop) (b:World):Prop:=∀ k,X k→k<w'.heap.size∧(a k∨b.heap.size≤k)
theorem sxq {X a:Nat→Prop} {w' b:World} (c:∀ k,X k→k<w'.heap.size) (d:∀ k,X k→a k∨b.heap.size≤k):Sxb X w' a b:=fun k hk=>⟨c k hk,d k hk⟩
abbrev b6:Type:=(List Int) × (List (Int × Int)) × Int
abbrev cr:Type:=Int × Int × Int × Bool × Bool × (List (Int × Int)) × (List Pc)
abbrev aW:Type:=Int × Int
abbrev di:Type:=ByteArray × Int × Int × Bool × Bool
abbrev cM:Type:=(Bool × b6) ⊕ Unit
abbrev dK:Type:=(List Int) × Int × Bool × Bool
abbrev dI:Array Value:= #[vI 0,vI 0,vI 0,vB false,vB false,vL none ([]:List (Int × Int)) 0,vL none ([]:List Pc) 0]
abbrev zQ1:Array Value:= #[vL none ([]:List (Int × Int)) 0]
theorem npb {p:Nat} {a:bh} (h:aP a≠some p):∀ g,aP a=some g→¬ (g=p):=fun g e e'=>h (e.trans (congrArg some e'))
theorem nrb {b p:Nat} {a:bh} (h:¬ (b=p∨aP a=some b)):∀ g,aP a=some g→¬ (g=b):=fun g e e'=>h (Or.inr (e' ▸ e))
theorem jsr {X S:Nat→Prop} {n m:Nat} (h:∀ k,X k→k<n∧¬ S k) (z:n≤m):∀ k,X k→k<m∧¬ S k:=fun k hk=>⟨Nat.lt_of_lt_of_le (h k hk).1 z,(h k hk).2⟩
theorem ct {α:Type} {E:Enc α} {w w':World} {X T:Nat→Prop} {a:bh} {cap:Nat} {xs:List α} (h:Rd E w X a cap xs) (hg:GF w w' T) (b:∀ k,X k→k<w.heap.size∧¬ T k):Rd E w' X a cap xs:=h.gf hg (fun k hk=>(b k hk).1) (fun k hk=>(b k hk).2)
theorem cU {a b c:World} {S:Nat→Prop} (h:GF a b S) (h':GF b c S):GF a c S:=gf_stepF h h' (fun _ h=>.inl h)
theorem dG {b p:Nat} {r:bh} (a:¬ (p=b)) (c:∀ g,aP r=some g→¬ (g=b)):¬ (b=p∨aP r=some b):=fun h=>h.elim (fun e=>a e.symm) (fun e=>c _ e rfl)
theorem nto {T:Nat→Prop} {b:Nat} (h:¬ T b):∀ x,x=b→¬ T x:=fun _ e=>e ▸ h
theorem ntp {b p:Nat} {r:bh} (a:¬ (p=b)) (c:∀ g,aP r=some g→¬ (g=b)):∀ x,x=b→¬ (x=p∨aP r=some x):=fun x e h=>h.elim (fun e'=>a (e'.symm.trans e)) (fun e'=>c _ e' e)
theorem dj {X:Nat→Prop} {Q:Nat→Prop} {n m:Nat} (h:∀ k,X k→k<n∧Q k) (z:n≤m):∀ k,X k→k<m:=fun k hk=>Nat.lt_of_lt_of_le (h k hk).1 z
theorem fe {Q:Nat→Prop}:∀ k,(fun _:Nat=>False) k→Q k:=fun _ h=>h.elim
abbrev pt (b j:Nat):Value:=.pointer (some ⟨b,j,none⟩)
abbrev bM:Enc (Int × Int):=prE (iE .i64) (iE .i64)
abbrev dk (x:PcT) (a:bh) (c:Nat) (b:bh) (d:Nat):Array Value:= #[.int .i64 x.1,.int .i64 x.2.1,.int .i64 x.2.2.1,.bool x.2.2.2.1,.bool x.2.2.2.2.1,.slice a x.2.2.2.2.2.1.length c,.slice b x.2.2.2.2.2.2.length d]
theorem dv {b n:Nat} {a:bh} (hb:b=n) (ho:∀ g,aP a=some g→g<n):∀ g,aP a=some g→¬ (· =b) g:=fun g e hx=>Nat.not_lt_of_le (bv hb _ hx) (ho g e)
theorem cL {w:World} {b p:Nat} {t:TypeId} {cs:Array Value} (hb:b=w.heap.size) (hp:bb w p t cs):¬ (· =b) p:=fun hx=>Nat.not_lt_of_le (bv hb _ hx) (cd hp _ rfl)
theorem dq {b n:Nat} {a:bh} (hb:b=n) (ho:∀ g,aP a=some g→g<n):¬ (fun k=>aP a=some k) b:=fun hx=>Nat.not_lt_of_le (bv hb _ rfl) (ho _ hx)
theorem apD {w:World} {b p:Nat} {t:TypeId} {cs:Array Value} (hb:b=w.heap.size) (hp:bb w p t cs):∀ g,aP (some ⟨b,0,none⟩)=some g→¬ (· =p) g:=fun g e hx=>Nat.not_lt_of_le (b8 hb g e) (cd hp _ hx)
theorem apF {X:Nat→Prop} {b n:Nat} (hb:b=n) (hx:∀ k,X k→k<n):¬ X b:=fun h=>Nat.not_lt_of_le (bv hb _ rfl) (hx _ h)
theorem apH {w:World} {b p:Nat} {t:TypeId} {cs:Array Value} (hb:b=w.heap.size) (hp:bb w p t cs):¬ (· =p) b:=fun hx=>Nat.not_lt_of_le (bv hb _ rfl) (cd hp _ hx)
theorem apI {w:World} {p:Nat} {a:bh} {t:TypeId} {cs:Array Value} (hl:∀ k,aP a=some k→w.heap.size≤k) (hp:bb w p t cs):¬ (fun k=>aP a=some k) p:=fun hx=>Nat.not_lt_of_le (hl _ hx) (cd hp _ rfl)
theorem apG {w:World} {b p:Nat} {t:TypeId} {cs:Array Value} {X:Nat→Prop} (hb:b=w.heap.size) (hp:bb w p t cs) (hx:¬ X p):¬ (fun k=>aP (some ⟨b,0,none⟩)=some k∨X k) p:=fun h=>h.elim (fun h=>Nat.not_lt_of_le (b8 hb _ h) (cd hp _ rfl)) hx
theorem apE {X a Q:Nat→Prop} {b n:Nat} (h:∀ k,X k→Q k∧(a k∨n≤k)) (c:¬ a b) (hb:b<n):¬ X b:=fun hx=>(h _ hx).2.elim c (fun h=>Nat.not_lt_of_le h hb)
theorem xlo {a Q:Nat→Prop} {b n:Nat} (hl:n≤b) (h:∀ k,a k→k<n∧Q k):¬ a b:=fun hx=>Nat.not_lt_of_le hl (h _ hx).1
abbrev dD (b:Nat) (a:bh) (c:Nat) (tx:List Int) (a':bh) (c':Nat) (w:World) (r:(Bool × b6) ⊕ Unit):Ending→World→Prop:=RetP (fun (r0:Bool × b6) v w'=>GF w w' (SrS b a')∧v=dF [.bool r0.1]∧bb w' b 129 #[.slice a tx.length c,.slice a' r0.2.2.1.length c',.int .i64 r0.2.2.2]∧aw bM 37 w' (fun _=>False) a' c' r0.2.2.1) (fun _:Unit=>Value.iface 125 (.agg #[])) (fun w'=>GF w w' (SrS b a')) r
def qB (n:Nat) (all:Array Oper) (σ:List (Nat × Value)) (o:Oper):Bool:=match o.dst with
  | some d=>Nat.blt d n&&((match guardB all σ o with | some true=>true | _=>false)&&(noSel o.op&&known σ o.op.operands.toList))
  | none=>false
theorem qB_spec {n:Nat} {all:Array Oper} {σ:List (Nat × Value)} {o:Oper} (h:qB n all σ o=true):∃ d,o.dst=some d∧Nat.blt d n=true∧guardB all σ o=some true∧(noSel o.op&&known σ o.op.operands.toList)=true:=by
  unfold qB at h
  cases hd:o.dst with
  | none=>rw[hd]at h;cases h
  | some d=>
    rw[hd]at h
    simp only[Bool.and_eq_true]at h
    refine ⟨d,rfl,h.1,?_,by simp only[Bool.and_eq_true];exact h.2.2⟩
    cases hg:guardB all σ o with
    | none=>rw[hg]at h;cases h.2.1
    | some b=>cases b with
      | true=>rfl
      | false=>rw[hg]at h;cases h.2.1
section
variable {P:Program} {R:RR} {n:Nat} {k:List It} {σ:List (Nat × Value)} {w:World} {all:Array Oper} {C:World→Prop} {o:Oper} {m:Mk} {rest:List (Oper × Mk)}
theorem ce (t:TypeId) (A:Addr) (v:Value) (hc:∀ w',Inw m C w w'→w'.cell? A=some v) (h:Run P R n (.ops all C rest::k) .normal (putO σ o.dst v) w) (hm:m=some false→C w:=by nofun) (hq:qB n all σ o=true:=by kernel_rfl) (hop:execOp (evr σ) o=(do pure (.value (← Instr.loadAt t (.pointer (some A))))):=by kernel_rfl) (ht:aggB P t=some false:=by kernel_rfl):Run P R n (.ops all C ((o,m)::rest)::k) .normal σ w:=by
  obtain ⟨d,a,b,c,e⟩:=qB_spec hq
  rw[a]at h
  exact gv_load v [] hm a b c e hop ht hc rfl h
theorem laq (t:TypeId) (A:Addr) (cs:Array Value) (hc:∀ w',Inw m C w w'→cellsAt w' A cs.toList) (h:Run P R n (.ops all C rest::k) .normal (putO σ o.dst (.agg cs)) w) (hm:m=some false→C w:=by nofun) (hq:qB n all σ o=true:=by kernel_rfl) (hop:execOp (evr σ) o=(do pure (.value (← Instr.loadAt t (.pointer (some A))))):=by kernel_rfl) (ht:aggB P t=some true:=by kernel_rfl) (hsz:(P.info? t).map (·.size)=some cs.size:=by kernel_rfl):Run P R n (.ops all C ((o,m)::rest)::k) .normal σ w:=by
  obtain ⟨d,a,b,c,e⟩:=qB_spec hq
  rw[a]at h
  exact gv_loadAgg cs [] hm a b c e hop ht hsz hc rfl h
theorem cJ (t:TypeId) (b:Nat) (cs:Array Value) (hc:∀ w',Inw m C w w'→w'.heap[b]? =some (.cells cs t (0,0))) (h:Run P R n (.ops all C rest::k) .normal (putO σ o.dst (.agg cs)) w) (hm:m=some false→C w:=by nofun) (hq:qB n all σ o=true:=by kernel_rfl) (hop:execOp (evr σ) o=(do pure (.value (← Instr.loadAt t (.pointer (some ⟨b,0,none⟩))))):=by kernel_rfl) (ht:aggB P t=some true:=by kernel_rfl) (hsz:(P.info? t).map (·.size)=some cs.size:=by kernel_rfl):Run P R n (.ops all C ((o,m)::rest)::k) .normal σ w:=by
  obtain ⟨d,a,c,e,f⟩:=qB_spec hq
  rw[a]at h
  exact gv_loadBox cs [] hm a c e f hop ht hsz hc rfl h
theorem cP {α:Type} {E:Enc α} {X:Nat→Prop} {c:World} {t e:TypeId} {a:bh} {cap:Nat} {xs:List α} {x:α} {i:Int} (kk:IntKind) (sz:Nat) (hR:Rd E c X a cap xs) (hx:idx xs i=some x) (ht:P.underlying t=some (.slice e)) (h:Run P R n (.ops all C rest::k) .normal (putO σ o.dst (.pointer (some (aB a (i.toNat*sz))))) w) (hm:m=some false→C w:=by nofun) (hq:qB n all σ o=true:=by kernel_rfl) (hop:execOp (evr σ) o=(do pure (.value (← Instr.indexAt t (.slice a xs.length cap) (.int kk i)))):=by kernel_rfl) (hsz:(P.info? e).map (·.size)=some sz:=by kernel_rfl):Run P R n (.ops all C ((o,m)::rest)::k) .normal σ w:=by
  obtain ⟨d,b,f,g,j⟩:=qB_spec hq
  rw[b]at h
  exact gv_idxaddr [] hm b f g j hop ht hsz (hR.has hx) (idx_spec hx).1 (idx_spec hx).2.1 rfl h
theorem siq {t:TypeId} {s:ByteArray} {i c:Int} (kk:IntKind) (hx:sidx s i=some c) (ht:P.underlying t=some .string) (h:Run P R n (.ops all C rest::k) .normal (putO σ o.dst (.int .u8 c)) w) (hm:m=some false→C w:=by nofun) (hq:qB n all σ o=true:=by kernel_rfl) (hop:execOp (evr σ) o=(do pure (.value (← Instr.index t (.string s) (.int kk i)))):=by kernel_rfl):Run P R n (.ops all C ((o,m)::rest)::k) .normal σ w:=by
  obtain ⟨d,a,b,e,f⟩:=qB_spec hq
  rw[a]at h
  exact gv_sindex c [] hm a b e f hop ht hx rfl h
theorem dz {s u r:ByteArray} (t:TypeId) (hr:cat s u=some r) (h:Run P R n (.ops all C rest::k) .normal (putO σ o.dst (.string r)) w) (hm:m=some false→C w:=by nofun) (hq:qB n all σ o=true:=by kernel_rfl) (hop:execOp (evr σ) o=(do pure (.value (← binOp .add t (.string s) (.string u)))):=by kernel_rfl):Run P R n (.ops all C ((o,m)::rest)::k) .normal σ w:=by
  obtain ⟨d,a,b,c,e⟩:=qB_spec hq
  rw[a]at h
  exact gv_cat r [] hm a b c e hop hr rfl h
theorem aJ {id:Nat} {l:List Oper} {y:Code} (h:Run P R n (.ops l.toArray (fun _=>True) (mk0 l):: .code y::k) .normal σ w) (hr:R.r=none:=by rfl):Run P R n (.code (.seq (.region id l.toArray false) y)::k) .normal σ w:=aH (az h hr)
theorem cn {x y:Code} (h:Run P R n (.code x:: .code y::k) .normal σ w):Run P R n (.ops all C []:: .code (.seq x y)::k) .normal σ w:=aa (aH h)
theorem bI {id:Nat} {l:List Oper} {y:Code} (h:Run P R n (.ops l.toArray (fun _=>True) (mk0 l):: .code y::k) .normal σ w) (hr:R.r=none:=by rfl):Run P R n (.ops all C []:: .code (.seq (.region id l.toArray false) y)::k) .normal σ w:=aa (aH (az h hr))
theorem clq {x:Operand} {xs:Array Operand} {tys:Array TypeId} {f:FuncId} {vs:List Value} {S:Value→World→Prop} (hf:Go.Gv.Enters P f) (hc:Calls P f vs.toArray w (dH S)) (h:∀ v w',S v w'→(m=some false→C w')∧Run P R n (.ops all C rest::k) .normal (putO σ o.dst v) w') (hm:m≠some true:=by decide) (hdn:dstOk n o.dst=true:=by kernel_rfl) (hg:guardB all σ o=some true:=by kernel_rfl) (ho:o.op= .call { callee:=.value x,args:=xs,argTypes:=tys}:=by rfl) (hx:ev σ x=some (.func (.func f) #[] ([]:List Value).toArray):=by kernel_rfl) (hxs:evs σ xs.toList=some vs:=by kernel_rfl):Run P R n (.ops all C ((o,m)::rest)::k) .normal σ w:=
  cH (cap:=[]) S hm hdn hg ho hx hxs hf (by rw[List.append_nil];exact hc) h
end
abbrev Lw (X:Nat→Prop) (w:World):Prop:=∀ k,X k→k<w.heap.size
abbrev Cs (f:Nat) (l:List Value) (w:World) (R:Ending→World→Prop):Prop:=Calls ar f l.toArray w R
abbrev G1 (w:World) (r:List Value):Ending→World→Prop:=dH fun v w'=>w.grownBy w' none∧v=dF r
theorem nl {a b:Nat} (h:a≤b):¬ b<a:=Nat.not_lt_of_le h
theorem sj {α:Type _} {a b:α} (h:some a=some b):a=b:=Option.some.inj h
theorem ng {a b:Nat} (h:b<a):a≠b:=Nat.ne_of_gt h
theorem cg {a b c:Nat} (h:a<b) (h':b≤c):a<c:=Nat.lt_of_lt_of_le h h'
theorem cC {a b c:Nat} (h:a<b) (h':b<c):a<c:=Nat.lt_trans h h'
section
variable {P:Program} {R:RR} {n:Nat} {k:List It} {σ σ':List (Nat × Value)} {w:World} {all:Array Oper} {C:World→Prop}
theorem pN (c:Nat) (ds:List Nat) (news:List (Nat × Value)) {l:List (Oper × Mk)} (h:Run P R n (.ops all C (drops c l)::k) .normal (nw news ds σ) w) (hp:(match stepsP false P n all c l σ with | some σ1=>picks ((nw news ds σ).map (·.1)) σ1 | none=>none)=some (nw news ds σ):=by kernel_rfl):Run P R n (.ops all C l::k) .normal σ w:=gv_pureN c ds news hp h
theorem okp (ss:List Nat) {t:Array Value} (h:Ok σ t) (hp:picks ss σ=some σ':=by kernel_rfl):Ok σ' t:=ok_pick ss h hp
theorem aU {σ':List (Nat × Value)} {t:Array Value} (h:Ok σ t) (hp:picks (σ'.map (·.1)) σ=some σ':=by kernel_rfl):Ok σ' t:=ok_pick _ h hp
theorem vLc {α:Type} {x y:List α} {a:bh} {c:Nat} (h:x.length=y.length):vL a x c=vL a y c:=by unfold vL;rw[h]
theorem bP (σ':List (Nat × Value)) {e:Exit} (h:Run P R n k e σ' w) (hp:picks (σ'.map (·.1)) σ=some σ':=by kernel_rfl):Run P R n k e σ w:=bf _ hp h
theorem bL {a:Nat}:a≤a:=Nat.le_refl a
theorem kr {p:Prop} (h:p:=by kernel_rfl):p:=h
end
open List (length)
section
variable {P:Program} {R:RR} {n:Nat} {k:List It} {σ:List (Nat × Value)} {w:World}
theorem bw {α:Type} {c:Operand} {b:Bool} {x y:Code} {p q r:α} (h:(if b=true then p else q)=r) (ht:b=true→p=r→Run P R n (.code x::k) .normal σ w) (hf:b=false→q=r→Run P R n (.code y::k) .normal σ w) (hc:ev σ c=some (.bool b):=by kernel_rfl):Run P R n (.code (.cond c x y)::k) .normal σ w:=dw hc (fun e=>ht e (ite_t e h)) (fun e=>hf e (ite_f e h))
theorem cf {α:Type} (s:Nat) {g:Bool} {e:Exit} {p q r:α} (h:(if g=true then p else q)=r) (ht:g=true→p=r→Run P R n k e (put σ s (.bool true)) w) (hf:g=false→q=r→Run P R n k e (put σ s (.bool false)) w) (hl:Go.Gv.look σ s=some (.bool g):=by kernel_rfl):Run P R n k e σ w:=bm hl (fun e=>ht e (ite_t e h)) (fun e=>hf e (ite_f e h))
end
section
variable {P:Program} {R:RR} {n:Nat} {k:List It} {σ σ':List (Nat × Value)} {w:World} {all:Array Oper} {C:World→Prop}
theorem pL (ds:List Nat) (d:Nat) (v:Value) {l:List (Oper × Mk)} (h:Run P R n (.ops all C (drops ds.length l)::k) .normal (nw [(d,v)] ds σ) w) (hp:(match stepsP false P n all ds.length l σ with | some σ1=>picks ((nw [(d,v)] ds σ).map (·.1)) σ1 | none=>none)=some (nw [(d,v)] ds σ):=by kernel_rfl):Run P R n (.ops all C l::k) .normal σ w:=gv_pureN ds.length ds [(d,v)] hp h
theorem p1 (d:Nat) (v:Value) {l:List (Oper × Mk)} (h:Run P R n (.ops all C (drops 1 l)::k) .normal (nw [(d,v)] [d] σ) w) (hp:(match stepsP false P n all 1 l σ with | some σ1=>picks ((nw [(d,v)] [d] σ).map (·.1)) σ1 | none=>none)=some (nw [(d,v)] [d] σ):=by kernel_rfl):Run P R n (.ops all C l::k) .normal σ w:=gv_pureN 1 [d] [(d,v)] hp h
theorem br (t:TypeId) {b:Nat} {ty:TypeId} {cs:Array Value} {v:Value} {o:Oper} {rest:List (Oper × Mk)} (hb:bb w b ty cs) (j:Nat) (hv:cs[j]? =some v) (h:Run P R n (.ops all C rest::k) .normal (putO σ o.dst v) w) (hq:qB n all σ o=true:=by kernel_rfl) (hop:execOp (evr σ) o=(do pure (.value (← Instr.loadAt t (.pointer (some ⟨b,j,none⟩))))):=by kernel_rfl) (ht:aggB P t=some false:=by kernel_rfl):Run P R n (.ops all C ((o,none)::rest)::k) .normal σ w:=ce t ⟨b,j,none⟩ v (bB (hb.cell j hv)) h nofun hq hop ht
end
theorem cB {P : Program} {f : FuncId} {fn : Func} (h : P.funcs[f]? = some fn) (a : (fn.name == "runtime.NumGoroutine") = false := by kernel_rfl) (b : fn.body.isNone = false := by kernel_rfl) : Go.Gv.Enters P f := ⟨fn, h, a, b⟩
theorem enters9:Go.Gv.Enters ar 9:=cB Tryz.func9
theorem enters10:Go.Gv.Enters ar 10:=cB Tryz.func10
theorem enters11:Go.Gv.Enters ar 11:=cB Tryz.func11
theorem enters12:Go.Gv.Enters ar 12:=cB Tryz.func12
theorem enters13:Go.Gv.Enters ar 13:=cB Tryz.func13
theorem enters14:Go.Gv.Enters ar 14:=cB Tryz.func14
theorem cT:Go.Gv.Enters ar 15:=cB Tryz.func15
theorem enters16:Go.Gv.Enters ar 16:=cB Tryz.func16
theorem enters17:Go.Gv.Enters ar 17:=cB Tryz.func17
theorem enters18:Go.Gv.Enters ar 18:=cB Tryz.func18
theorem du:Go.Gv.Enters ar 19:=cB Tryz.func19
theorem enters20:Go.Gv.Enters ar 20:=cB Tryz.func20
theorem enters22:Go.Gv.Enters ar 22:=cB Tryz.func22
theorem enters25:Go.Gv.Enters ar 25:=cB Tryz.func25
theorem enters30:Go.Gv.Enters ar 30:=cB Tryz.func30
theorem enters31:Go.Gv.Enters ar 31:=cB Tryz.func31
theorem enters32:Go.Gv.Enters ar 32:=cB Tryz.func32
theorem enters33:Go.Gv.Enters ar 33:=cB Tryz.func33
theorem enters34:Go.Gv.Enters ar 34:=cB Tryz.func34
theorem enters35:Go.Gv.Enters ar 35:=cB Tryz.func35
theorem enters36:Go.Gv.Enters ar 36:=cB Tryz.func36
theorem dE:Go.Gv.Enters ar 37:=cB Tryz.func37
theorem enters38:Go.Gv.Enters ar 38:=cB Tryz.func38
theorem enters39:Go.Gv.Enters ar 39:=cB Tryz.func39
theorem enters40:Go.Gv.Enters ar 40:=cB Tryz.func40
theorem enters41:Go.Gv.Enters ar 41:=cB Tryz.func41
theorem enters42:Go.Gv.Enters ar 42:=cB Tryz.func42
theorem enters43:Go.Gv.Enters ar 43:=cB Tryz.func43
theorem enters44:Go.Gv.Enters ar 44:=cB Tryz.func44
theorem enters45:Go.Gv.Enters ar 45:=cB Tryz.func45
theorem enters46:Go.Gv.Enters ar 46:=cB Tryz.func46
theorem enters47:Go.Gv.Enters ar 47:=cB Tryz.func47
theorem enters52:Go.Gv.Enters ar 52:=cB Tryz.func52
theorem enters54:Go.Gv.Enters ar 54:=cB Tryz.func54
theorem enters56:Go.Gv.Enters ar 56:=cB Tryz.func56
theorem enters58:Go.Gv.Enters ar 58:=cB Tryz.func58
theorem enters59:Go.Gv.Enters ar 59:=cB Tryz.func59
theorem enters60:Go.Gv.Enters ar 60:=cB Tryz.func60
theorem enters61:Go.Gv.Enters ar 61:=cB Tryz.func61
theorem enters62:Go.Gv.Enters ar 62:=cB Tryz.func62
theorem enters63:Go.Gv.Enters ar 63:=cB Tryz.func63
theorem enters64:Go.Gv.Enters ar 64:=cB Tryz.func64
theorem enters66:Go.Gv.Enters ar 66:=cB Tryz.func66
theorem enters67:Go.Gv.Enters ar 67:=cB Tryz.func67
theorem dt:Go.Gv.Enters ar 68:=cB Tryz.func68
theorem enters69:Go.Gv.Enters ar 69:=cB Tryz.func69
theorem enters70:Go.Gv.Enters ar 70:=cB Tryz.func70
theorem enters71:Go.Gv.Enters ar 71:=cB Tryz.func71
theorem enters72:Go.Gv.Enters ar 72:=cB Tryz.func72
theorem enters73:Go.Gv.Enters ar 73:=cB Tryz.func73
theorem enters74:Go.Gv.Enters ar 74:=cB Tryz.func74
theorem enters83:Go.Gv.Enters ar 83:=cB Tryz.func83
theorem cl:Go.Gv.Enters ar 84:=cB Tryz.func84
theorem enters85:Go.Gv.Enters ar 85:=cB Tryz.func85
theorem enters86:Go.Gv.Enters ar 86:=cB Tryz.func86
theorem enters87:Go.Gv.Enters ar 87:=cB Tryz.func87
theorem enters88:Go.Gv.Enters ar 88:=cB Tryz.func88
theorem enters89:Go.Gv.Enters ar 89:=cB Tryz.func89
theorem enters90:Go.Gv.Enters ar 90:=cB Tryz.func90
theorem enters91:Go.Gv.Enters ar 91:=cB Tryz.func91
theorem enters92:Go.Gv.Enters ar 92:=cB Tryz.func92
theorem enters93:Go.Gv.Enters ar 93:=cB Tryz.func93
theorem enters94:Go.Gv.Enters ar 94:=cB Tryz.func94
theorem enters95:Go.Gv.Enters ar 95:=cB Tryz.func95
theorem cG:Go.Gv.Enters ar 96:=cB Tryz.func96
theorem enters97:Go.Gv.Enters ar 97:=cB Tryz.func97
theorem enters98:Go.Gv.Enters ar 98:=cB Tryz.func98
theorem enters101:Go.Gv.Enters ar 101:=cB Tryz.func101
theorem enters106:Go.Gv.Enters ar 106:=cB Tryz.func106
theorem enters107:Go.Gv.Enters ar 107:=cB Tryz.func107
theorem enters108:Go.Gv.Enters ar 108:=cB Tryz.func108
theorem enters109:Go.Gv.Enters ar 109:=cB Tryz.func109
theorem enters112:Go.Gv.Enters ar 112:=cB Tryz.func112
theorem enters113:Go.Gv.Enters ar 113:=cB Tryz.func113
theorem enters114:Go.Gv.Enters ar 114:=cB Tryz.func114
theorem enters115:Go.Gv.Enters ar 115:=cB Tryz.func115
theorem enters116:Go.Gv.Enters ar 116:=cB Tryz.func116
theorem enters117:Go.Gv.Enters ar 117:=cB Tryz.func117
theorem enters118:Go.Gv.Enters ar 118:=cB Tryz.func118
theorem enters119:Go.Gv.Enters ar 119:=cB Tryz.func119
theorem enters120:Go.Gv.Enters ar 120:=cB Tryz.func120
theorem enters121:Go.Gv.Enters ar 121:=cB Tryz.func121
theorem dB:Go.Gv.Enters ar 122:=cB Tryz.func122
theorem enters123:Go.Gv.Enters ar 123:=cB Tryz.func123
theorem enters124:Go.Gv.Enters ar 124:=cB Tryz.func124
theorem enters127:Go.Gv.Enters ar 127:=cB Tryz.func127
theorem enters128:Go.Gv.Enters ar 128:=cB Tryz.func128
theorem enters129:Go.Gv.Enters ar 129:=cB Tryz.func129
theorem enters132:Go.Gv.Enters ar 132:=cB Tryz.func132
theorem enters133:Go.Gv.Enters ar 133:=cB Tryz.func133
theorem enters134:Go.Gv.Enters ar 134:=cB Tryz.func134
theorem enters135:Go.Gv.Enters ar 135:=cB Tryz.func135
theorem enters136:Go.Gv.Enters ar 136:=cB Tryz.func136
theorem enters137:Go.Gv.Enters ar 137:=cB Tryz.func137
theorem enters138:Go.Gv.Enters ar 138:=cB Tryz.func138
theorem enters139:Go.Gv.Enters ar 139:=cB Tryz.func139
theorem enters140:Go.Gv.Enters ar 140:=cB Tryz.func140
theorem enters141:Go.Gv.Enters ar 141:=cB Tryz.func141
theorem enters142:Go.Gv.Enters ar 142:=cB Tryz.func142
theorem enters143:Go.Gv.Enters ar 143:=cB Tryz.func143
theorem enters144:Go.Gv.Enters ar 144:=cB Tryz.func144
theorem dA:Go.Gv.Enters ar 145:=cB Tryz.func145
theorem enters146:Go.Gv.Enters ar 146:=cB Tryz.func146
theorem enters147:Go.Gv.Enters ar 147:=cB Tryz.func147
theorem enters148:Go.Gv.Enters ar 148:=cB Tryz.func148
theorem enters149:Go.Gv.Enters ar 149:=cB Tryz.func149
theorem enters150:Go.Gv.Enters ar 150:=cB Tryz.func150
theorem enters153:Go.Gv.Enters ar 153:=cB Tryz.func153
theorem enters155:Go.Gv.Enters ar 155:=cB Tryz.func155
theorem enters161:Go.Gv.Enters ar 161:=cB Tryz.func161
theorem enters162:Go.Gv.Enters ar 162:=cB Tryz.func162
theorem enters163:Go.Gv.Enters ar 163:=cB Tryz.func163
theorem enters168:Go.Gv.Enters ar 168:=cB Tryz.func168
theorem native125:Go.Gv.Native ar 125 Extern.BytealgIndexByte.indexByte:=⟨Tryz.f125,Tryz.func125,by kernel_rfl,by kernel_rfl,by kernel_rfl,by kernel_rfl⟩
theorem info3:InfoOk ar 3 1:=infoOk (z:=(.int .i64 0)) (bytes:=8) (by kernel_rfl) (by kernel_rfl) (by kernel_rfl) (by kernel_rfl)
theorem info4:InfoOk ar 4 1:=infoOk (z:=(.bool false)) (bytes:=1) (by kernel_rfl) (by kernel_rfl) (by kernel_rfl) (by kernel_rfl)
theorem info5:InfoOk ar 5 1:=infoOk (z:=(.int .u8 0)) (bytes:=1) (by kernel_rfl) (by kernel_rfl) (by kernel_rfl) (by kernel_rfl)
theorem info9:InfoOk ar 9 1:=infoOk (z:=(.string ⟨#[]⟩)) (bytes:=16) (by kernel_rfl) (by kernel_rfl) (by kernel_rfl) (by kernel_rfl)
theorem info25:InfoOk ar 25 7:=infoOk (z:=(.agg #[.int .i64 0,(.int .i64 0),(.int .i64 0),(.bool false),(.bool false),(.slice none 0 0),(.slice none 0 0)])) (bytes:=80) (by kernel_rfl) (by kernel_rfl) (by kernel_rfl) (by kernel_rfl)
theorem info34:InfoOk ar 34 1:=infoOk (z:=(.agg #[.slice none 0 0])) (bytes:=24) (by kernel_rfl) (by kernel_rfl) (by kernel_rfl) (by kernel_rfl)
theorem info37:InfoOk ar 37 2:=infoOk (z:=(.agg #[.int .i64 0,(.int .i64 0)])) (bytes:=16) (by kernel_rfl) (by kernel_rfl) (by kernel_rfl) (by kernel_rfl)
theorem info103:InfoOk ar 103 2:=infoOk (z:=(.agg #[.string ⟨#[]⟩,(.int .i64 0)])) (bytes:=24) (by kernel_rfl) (by kernel_rfl) (by kernel_rfl) (by kernel_rfl)
theorem eqs31eql (a:Int) (b:Int) (c:Int) (d:Int) (x y:Operand) (w:World):(do eqGuard .eql 31 x y (.agg #[.int .i64 a,.int .i64 b]) (.agg #[.int .i64 c,.int .i64 d]);binOp .eql 31 (.agg #[.int .i64 a,.int .i64 b]) (.agg #[.int .i64 c,.int .i64 d]):Sem Value).run ar w= .ok (.bool ((a==c)&&(b==d))) w:=by
  have e:ar.eqGuardType ar.depth 31=false:=by kernel_rfl
  have f:ar.stoodInHeld 31=false:=by kernel_rfl
  have g:ar.underlying 31=some (.struct (ar.fieldsOf 31)):=by kernel_rfl
  have h:=aO
  rw[Sem.run_bind,run_eqGuard_agg w .eql 31 x y _ _ e,Result.andThen_ok,run_eql_struct,run_equalIn_struct w 9999 31 _ _ g f]
  by_cases g0:a=c<;>by_cases g1:b=d<;>simp[Program.fieldsOf,h,Op.eqFields,part,isAgg,run_underlying dm,run_equalIn_int _ _ _ _ _ _ _ dm,g0,g1]
theorem eqs37neq (a:Int) (b:Int) (c:Int) (d:Int) (x y:Operand) (w:World):(do eqGuard .neq 37 x y (.agg #[.int .i64 a,.int .i64 b]) (.agg #[.int .i64 c,.int .i64 d]);binOp .neq 37 (.agg #[.int .i64 a,.int .i64 b]) (.agg #[.int .i64 c,.int .i64 d]):Sem Value).run ar w= .ok (.bool (!((a==c)&&(b==d)))) w:=by
  have e:ar.eqGuardType ar.depth 37=false:=by kernel_rfl
  obtain ⟨i,hi⟩:∃ i,ar.info? 3=some i:=Option.isSome_iff_exists.1 (by kernel_rfl)
  have hc:ar.cellsOf 3=1:=by kernel_rfl
  rw[Sem.run_bind,run_eqGuard_agg w .neq 37 x y _ _ e,Result.andThen_ok,run_neq_struct,run_equalIn_array w 9999 _ _ Tryz.underlying37 hi,hc]
  by_cases g0:a=c<;>by_cases g1:b=d<;>simp[List.range,List.range.loop,Op.eqItems,part,isAgg,run_underlying dm,run_equalIn_int _ _ _ _ _ _ _ dm,g0,g1]

theorem stringslite_IndexByte_ok (ak:Nat) (a:ByteArray) (b:Int) (c:World) (d:Int) (e:stringslite_IndexByte ak a b=some d):
    Cs 101 [vS a,vU b] c (G1 c [vI d]):=by
 have g:Bl c c:=Below.refl _ _;unfold stringslite_IndexByte at e;refine aK Tryz.func101 rfl Tryz.ntmps101 kr ?_;refine bP [(0,vS a),(1,vU b)]<|aJ<|pN 1 [4] []<|bI<|pN 2 [5,6] [(5,vS a),(6,vU b)]<|gv_nat (f:=125) (vs:=[vS a,vU b]) (vI (nIdxB (bytesOf a) b)) [] nofun rfl rfl rfl kr rfl kr kr native125 (fun w' _=>nat_idxS _ _ w') rfl ?_;refine p1 4 (vI (nIdxB (bytesOf a) b))<|aa<|am ?_
 obtain rfl:=sj e;refine av (ao [vI (nIdxB (bytesOf a) b)] rfl ⟨kr,trivial⟩ ?_);exact ⟨ae g,rfl⟩

theorem strings_IndexByte_ok (ak:Nat) (a:ByteArray) (b:Int) (c:World) (f:Int) (d:strings_IndexByte ak a b=some f):
    Cs 109 [vS a,vU b] c (G1 c [vI f]):=by
 have g:Bl c c:=Below.refl _ _;unfold strings_IndexByte at d;refine aK Tryz.func109 rfl Tryz.ntmps109 kr ?_;refine bP [(0,vS a),(1,vU b)]<|aJ<|pN 1 [4] []<|bI<|pN 2 [5,6] [(5,vS a),(6,vU b)]<|ag d ?_;intro e h d;refine aq kr rfl kr enters101 (stringslite_IndexByte_ok ak a b c e h) ?_;rintro j k ⟨i,rfl⟩;refine p1 4 (vI e)<|aa<|am ?_
 obtain rfl:=sj d;refine av (ao [vI e] rfl ⟨kr,trivial⟩ ?_);exact ⟨ae (bg g i nb),rfl⟩

theorem cV (ak:Nat) (c:Nat) (g:di) (b:ByteArray) (e:World) (f:bb e c 117 (cO g)) (m:Bool) (i:regex_parser_ahead ak g b=some m):
    Cs 106 [bp c,vS b] e (G1 e [vB m]):=by
 have k:Bl e e:=Below.refl _ _;unfold regex_parser_ahead at i;refine aK Tryz.func106 rfl Tryz.ntmps106 kr ?_;refine bP [(0,bp c),(1,vS b)] ?_;have s:=f.lt;refine aJ<|pN 1 [4] []<|bI<|ag i ?_;intro n d i
 refine aN (J:=fun a j=>Bl e j∧Sz e j∧bb j c 117 (cO g)∧Qa a 20 [(4,vB n)]) ?_ ?_
 ·refine pL [5,6,7] 7 (bp c)<|br 9 f 0 rfl<|pL [9,10] 10 (vB (!(g.1.toList==(bu []).toList)))<|cf 10 d (fun o d=>?_) (fun o d=>?_)
  ·refine pN 4 [11,12,13,14] [(11,vS b),(14,bp c)]<|br 9 f 0 rfl<|ag d ?_;intro t p d;refine siq .i64 p bt<|ag d ?_;intro q r d;refine aq kr rfl kr enters109 (strings_IndexByte_ok ak b t e q r) ?_;rintro w x ⟨h,rfl⟩;refine pL [4,18,19] 4 (vB (decide (q≥0)))<|aa ?_;obtain rfl:=sj d;refine ac fun a hd hs al=>?_;exact ⟨(bg k h nb),h.size,(f.grown h nb),hd,hs,aU al⟩
  ·refine pL [4,11,12,13,14,15,16,17,18,19] 4 (vB false)<|aa ?_;obtain rfl:=sj d;exact ac fun a hd hs al=>⟨k,bL,f,hd,hs,aU al⟩
 ·rintro a j ⟨l,u,v,hd,hs,al⟩;refine aM ?_ hd hs al;refine am ?_;obtain rfl:=sj i;refine av (ao [vB n] rfl ⟨kr,trivial⟩ ?_);exact ⟨ae l,rfl⟩

theorem stringslite_HasPrefix_ok (ak:Nat) (c:ByteArray) (b:ByteArray) (e:World) (i:Bool) (f:stringslite_HasPrefix ak c b=some i):
    Cs 155 [vS c,vS b] e (G1 e [vB i]):=by
 have g:Bl e e:=Below.refl _ _;unfold stringslite_HasPrefix at f;refine aK Tryz.func155 rfl Tryz.ntmps155 kr ?_;refine bP [(0,vS c),(1,vS b)]<|aJ<|pN 1 [4] []<|bI<|ag f ?_;intro j d f
 refine aN (J:=fun a h=>Bl e h∧Sz e h∧Qa a 18 [(4,vB j)]) ?_ ?_
 ·refine pL [5,6,7,8,9,10] 10 (vB (decide ((bz c)≥(bz b))))<|cf 10 d (fun k d=>?_) (fun k d=>?_)
  ·refine pN 3 [11,12,13] [(11,vS c),(13,vI (bz b))]<|ag d ?_;intro l m d;refine gv_ssub (t:=9) (s:=c) (lo:=none) (hi:=(some (vI (bz b)))) 0 (bz b) l [] nofun rfl rfl rfl kr kr bt (.inl ⟨rfl,rfl⟩) (.inr ⟨_,rfl⟩) m rfl ?_;refine pL [4,15,16,17] 4 (vB (l.toList==b.toList))<|aa ?_;obtain rfl:=sj d;exact ac fun a hd hs al=>⟨g,bL,hd,hs,aU al⟩
  ·refine pL [4,11,12,13,14,15,16,17] 4 (vB false)<|aa ?_;obtain rfl:=sj d;exact ac fun a hd hs al=>⟨g,bL,hd,hs,aU al⟩
 ·rintro a h ⟨n,o,hd,hs,al⟩;refine aM ?_ hd hs al;refine am ?_;obtain rfl:=sj f;refine av (ao [vB j] rfl ⟨kr,trivial⟩ ?_);exact ⟨ae n,rfl⟩

theorem stringslite_CutPrefix_ok (ak:Nat) (b:ByteArray) (a:ByteArray) (d:World) (g:ByteArray × Bool) (c:stringslite_CutPrefix ak b a=some g):
    Cs 129 [vS b,vS a] d (G1 d [vS g.1,vB g.2]):=by
 have e:Bl d d:=Below.refl _ _;unfold stringslite_CutPrefix at c;refine aK Tryz.func129 rfl Tryz.ntmps129 kr ?_;refine bP [(0,vS b),(1,vS a)]<|aJ<|pN 2 [4,5] []<|cn<|aJ<|pN 2 [6,7] [(6,vS b),(7,vS a)]<|ag c ?_;intro i j c;refine aq kr rfl kr enters155 (stringslite_HasPrefix_ok ak b a d i j) ?_;rintro m n ⟨f,rfl⟩;refine p1 9 (vB (!i))<|aa<|bw c (fun k c=>?_) (fun k c=>?_)
 ·refine aJ<|pN 3 [4,5,10] [(4,vS b),(5,vB false)]<|aa<|am ?_
  obtain rfl:=sj c;refine av (ao [vS b,vB false] rfl ⟨kr,kr,trivial⟩ ?_);exact ⟨ae (bg e f nb),rfl⟩
 ·refine aA<|aJ<|pN 3 [11,12,13] [(11,vS b),(13,vI (bz a))]<|ag c ?_;intro h l c;refine gv_ssub (t:=9) (s:=b) (lo:=(some (vI (bz a)))) (hi:=none) (bz a) (bz b) h [] nofun rfl rfl rfl kr kr bt (.inr ⟨_,rfl⟩) (.inl ⟨rfl,rfl⟩) l rfl ?_;refine pN 2 [4,5] [(4,vS h),(5,vB true)]<|aa<|am ?_
  obtain rfl:=sj c;refine av (ao [vS h,vB true] rfl ⟨kr,kr,trivial⟩ ?_);exact ⟨ae (bg e f nb),rfl⟩

theorem strings_CutPrefix_ok (ak:Nat) (b:ByteArray) (a:ByteArray) (c:World) (f:ByteArray × Bool) (e:strings_CutPrefix ak b a=some f):
    Cs 108 [vS b,vS a] c (G1 c [vS f.1,vB f.2]):=by
 have g:Bl c c:=Below.refl _ _;unfold strings_CutPrefix at e;refine aK Tryz.func108 rfl Tryz.ntmps108 kr ?_;refine bP [(0,vS b),(1,vS a)]<|aJ<|pN 2 [4,5] []<|bI<|pN 2 [6,7] [(6,vS b),(7,vS a)]<|ag e ?_;intro d h e;refine aq kr rfl kr enters129 (stringslite_CutPrefix_ok ak b a c d h) ?_;rintro j k ⟨i,rfl⟩;refine pN 4 [4,5,9,10] [(4,vS d.1),(5,vB d.2)]<|aa<|am ?_
 obtain rfl:=sj e;refine av (ao [vS d.1,vB d.2] rfl ⟨kr,kr,trivial⟩ ?_);exact ⟨ae (bg g i nb),rfl⟩

theorem aZ (ak:Nat) (a:Nat) (b:di) (c:ByteArray) (e:World) (f:bb e a 117 (cO b)) (i:Bool × di) (g:regex_parser_eat ak b c=some i):
    Cs 84 [bp a,vS c] e (dH fun v w'=>e.grownBy w' (some a)∧v=dF [vB i.1]∧bb w' a 117 (cO i.2)):=by
 have j:e.grownBy e (some a):=cu _ _;unfold regex_parser_eat at g;refine aK Tryz.func84 rfl Tryz.ntmps84 kr ?_;refine bP [(0,bp a),(1,vS c)] ?_;have n:=f.lt;refine aJ<|pN 1 [4] []<|bI<|pL [8,9,10] 10 (bp a)<|br 9 f 0 rfl<|p1 12 (vS c)<|ag g ?_;intro d k g;refine aq kr rfl kr enters108 (strings_CutPrefix_ok ak b.1 c e d k) ?_;rintro p q ⟨h,rfl⟩;refine pN 5 [5,6,7,14,15] [(5,vS d.1),(6,vB d.2)]<|bI<|pN 4 [16,17,18,19] [(17,vS d.1),(19,bp a)]<|aG 9 0 (vS d.1) #[vS d.1,vI b.2.1,vI b.2.2.1,vB b.2.2.2.1,vB b.2.2.2.2] (f.grown h nb) kr kr kr ?_;intro r l m o;refine bI<|pL [4,20] 4 (vB d.2)<|aa<|am ?_
 obtain rfl:=sj g;refine av (ao [vB d.2] rfl ⟨kr,trivial⟩ ?_);exact ⟨(ai (ai j h nb) l bj),rfl,m⟩

theorem cq (ak:Nat) (c:Nat) (e:di) (ap:bh) (aE:Nat) (a:bh) (b:Nat) (d:cr) (f:World) (h:Nat→Prop) (l:∀ k,h k→k<f.heap.size∧k≠c) (m:bb f c 117 (cO e)) (aQ:Rd bM f h ap aE d.2.2.2.2.2.1) (r:Rd pcE f h a b d.2.2.2.2.2.2) (s:cr × di) (H:regex_parser_made ak e d=some s):
    Cs 85 [bp c,.agg (bi d ap aE a b)] f (dH fun v w'=>f.grownBy w' (some c)∧∃ (bc:bh) (bq:Nat),∃ (n:Nat→Prop),∃ (o:bh) (p:Nat),∃ (q:Nat→Prop),v=dF [.agg (bi s.1 bc bq o p)]∧Rd bM w' n bc bq s.1.2.2.2.2.2.1∧(Sxb n w' h f)∧Rd pcE w' q o p s.1.2.2.2.2.2.2∧(Sxb q w' h f)∧bb w' c 117 (cO s.2)):=by
 have A:f.grownBy f (some c):=cu _ _;unfold regex_parser_made at H;refine aK Tryz.func85 rfl Tryz.ntmps85 kr ?_;refine bP [(0,bp c),(1,.agg (bi d ap aE a b))] ?_;have K:=m.lt;refine aJ<|aD bp (bi d ap aE a b) 25 kr kr ?_
 intro L R t I C P;refine aD bp dI 25 kr kr ?_;intro D S B E i M;refine bI<|pN 3 [5,6,7] [(5,bp c),(7,pt c 1)] ?_
 have u:=(ab t B);have w:=m.grown u nb;refine br 3 w 1 rfl<|pN 3 [9,10,11] [(9,vI (wI (e.2.1+1))),(11,pt c 1)]<|aG 3 1 (vI (wI (e.2.1+1))) #[vS e.1,vI (wI (e.2.1+1)),vI e.2.2.1,vB e.2.2.2.1,vB e.2.2.2.2] w kr kr kr ?_;intro Q j F N;refine bI<|cJ 25 L (bi d ap aE a b) (bB ((I.grown B nb).grown j (aj (cL C m)))) ?_;have x:=m.grown t nb;refine aG 25 0 (.agg (bi d ap aE a b)) (bi d ap aE a b) (E.grown j (aj (cL i x))) kr kr kr ?_;intro J y G O;refine aa<|am ?_
 obtain rfl:=sj H;refine av (ao [.agg (bi d ap aE a b)] rfl ⟨⟨⟨D,0,none⟩,kr,run_loadVar_row J D _ 25 _ _ _ G b9 rfl kr⟩,trivial⟩ ?_);have z:f.heap.size≤D:=bY i (ai A t nb).size;have g:=ai (ai (ai A u nb) j bj) y (cI z);exact ⟨g,ap,aE,h,a,b,h,rfl,rg aQ g l,(fun k hk=>⟨(dj l g.size) k hk,(fun k (hk:h k)=>Or.inl hk) k hk⟩),rg r g l,(fun k hk=>⟨(dj l g.size) k hk,(fun k (hk:h k)=>Or.inl hk) k hk⟩),(F.grown y (aj (apH i x)))⟩

theorem regex_parser_bounds_ok (ak:Nat) (b:Nat) (d:di) (c:World) (j:bb c b 117 (cO d)) (e:Int × Int × Bool × di) (a:regex_parser_bounds ak d=some e):
    Cs 128 [bp b] c (dH fun v w'=>c.grownBy w' (some b)∧v=dF [vI e.1,vI e.2.1,vB e.2.2.1]∧bb w' b 117 (cO e.2.2.2)):=by
 have k:c.grownBy c (some b):=cu _ _;unfold regex_parser_bounds at a;refine aK Tryz.func128 rfl Tryz.ntmps128 kr ?_;refine bP [(0,bp b)] ?_;have E:=j.lt;refine aJ<|pN 3 [2,3,4] []<|cn<|aI<|aJ<|p1 6 (bp b)<|ag a ?_;intro n y a;refine aq kr rfl kr cl (aZ ak b d (bu [42]) c j n y) ?_;rintro K F ⟨l,rfl,z⟩;refine p1 5 (vB n.1)<|aa<|bw a (fun A a=>?_) (fun A a=>?_)
 ·cases a
 ·refine aJ<|p1 9 (bp b)<|ag a ?_;intro o B a;refine aq kr rfl kr cl (aZ ak b n.2 (bu [43]) F z o B) ?_;rintro G C ⟨f,rfl,p⟩;refine p1 8 (vB o.1)<|aa<|bw a (fun q a=>?_) (fun q a=>?_)
  ·cases a
  ·refine aJ<|p1 12 (bp b)<|ag a ?_;intro g r a;refine aq kr rfl kr cl (aZ ak b o.2 (bu [63]) C p g r) ?_;rintro H D ⟨h,rfl,i⟩;refine p1 11 (vB g.1)<|aa<|bw a (fun s a=>?_) (fun s a=>?_)
   ·refine aJ<|pN 3 [2,3,4] [(2,vI 0),(3,vI 1),(4,vB true)]<|aa<|am ?_
    obtain rfl:=sj a;refine av (ao [vI 0,vI 1,vB true] rfl ⟨kr,kr,kr,trivial⟩ ?_);exact ⟨(ai (ai (ai k l bj) f bj) h bj),rfl,i⟩
   ·refine aJ<|p1 15 (bp b)<|ag a ?_;intro m t a;refine aq kr rfl kr cl (aZ ak b g.2 (bu [123]) D i m t) ?_;rintro I J ⟨u,rfl,w⟩;refine pL [14,17] 14 (vB (!m.1))<|aa<|bw a (fun x a=>?_) (fun x a=>?_)
    ·refine aJ<|pN 3 [2,3,4] [(2,vI 0),(3,vI 0),(4,vB false)]<|bP [(2,vI 0),(3,vI 0),(4,vB false)]<|aa<|am ?_
     obtain rfl:=sj a;refine av (ao [vI 0,vI 0,vB false] rfl ⟨kr,kr,kr,trivial⟩ ?_);exact ⟨(ai (ai (ai (ai k l bj) f bj) h bj) u bj),rfl,w⟩
    ·cases a

theorem regex_parser_next_ok (ak:Nat) (a:Nat) (b:di) (d:World) (i:Nat→Prop) (g:∀ k,i k→k<d.heap.size∧k≠a) (h:bb d a 117 (cO b)) (q:Rd bE d i (ro 0) 256 cp) (r:Rd (prE (iE .u8) (iE .u8)) d i (ro 1) 16 cN) (m:Int × di) (c:regex_parser_next ak b=some m):
    Cs 153 [bp a] d (dH fun v w'=>d.grownBy w' (some a)∧v=dF [vI m.1]∧bb w' a 117 (cO m.2)):=by
 have f:d.grownBy d (some a):=cu _ _;unfold regex_parser_next at c;refine aK Tryz.func153 rfl Tryz.ntmps153 kr ?_;refine bP [(0,bp a)] ?_;have y:=h.lt;refine aJ<|pN 1 [2] []<|bI<|pL [6,7,8] 8 (bp a)<|br 9 h 0 rfl<|ag c ?_;intro e u c;refine aq kr rfl kr enters168 (utf8_DecodeRuneInString_ok ak b.1 d i (dj g f.size) (rg q f g) (rg r f g) e u) ?_;rintro B C ⟨j,rfl⟩;refine pN 5 [3,4,5,11,12] [(3,vR e.1),(4,vI e.2)]<|cn<|aJ<|pL [13,14] 14 (vB (e.2==0))<|aa<|bw c (fun w c=>?_) (fun w c=>?_)
 ·cases c
 ·refine aA<|aJ<|pN 4 [17,18,19,20] [(17,bp a),(20,bp a)] ?_
  have l:=h.grown j nb;refine br 9 l 0 rfl<|p1 22 (vI e.2)<|ag c ?_;intro n x c;refine gv_ssub (t:=9) (s:=b.1) (lo:=(some (vI e.2))) (hi:=none) e.2 (bz b.1) n [] nofun rfl rfl rfl kr kr bt (.inr ⟨_,rfl⟩) (.inl ⟨rfl,rfl⟩) x rfl ?_;refine pL [24,25] 25 (bp a)<|aG 9 0 (vS n) #[vS n,vI b.2.1,vI b.2.2.1,vB b.2.2.2.1,vB b.2.2.2.2] l kr kr kr ?_;intro A o p z;refine bI<|pL [2,26,27] 2 (vI (wI (e.1)))<|aa<|am ?_
  obtain rfl:=sj c;refine av (ao [vI (wI (e.1))] rfl ⟨kr,trivial⟩ ?_);exact ⟨(ai (ai f j nb) o bj),rfl,p⟩

abbrev gC56 (ak:Nat):Prop:=∀ (a:Nat) (i:di) (b:World) (g:Nat→Prop) (j:∀ k,g k→k<b.heap.size∧k≠a) (l:bb b a 117 (cO i)) (m:Rd bE b g (ro 0) 256 cp) (n:Rd (prE (iE .u8) (iE .u8)) b g (ro 1) 16 cN) (h:cr × di),regex_parser_alternatives ak i=some h→Calls ar 56 ([bp a]:List Value).toArray b (dH fun v w'=>b.grownBy w' (some a)∧∃ (bc:bh) (bq:Nat),∃ (c:Nat→Prop),∃ (d:bh) (e:Nat),∃ (f:Nat→Prop),v=dF [.agg (bi h.1 bc bq d e)]∧Rd bM w' c bc bq h.1.2.2.2.2.2.1∧(Sxb c w' g b)∧Rd pcE w' f d e h.1.2.2.2.2.2.2∧(Sxb f w' g b)∧bb w' a 117 (cO h.2))
abbrev gC83 (ak:Nat):Prop:=∀ (a:Nat) (i:di) (b:World) (g:Nat→Prop) (j:∀ k,g k→k<b.heap.size∧k≠a) (l:bb b a 117 (cO i)) (m:Rd bE b g (ro 0) 256 cp) (n:Rd (prE (iE .u8) (iE .u8)) b g (ro 1) 16 cN) (h:cr × di),regex_parser_sequence ak i=some h→Calls ar 83 ([bp a]:List Value).toArray b (dH fun v w'=>b.grownBy w' (some a)∧∃ (bc:bh) (bq:Nat),∃ (c:Nat→Prop),∃ (d:bh) (e:Nat),∃ (f:Nat→Prop),v=dF [.agg (bi h.1 bc bq d e)]∧Rd bM w' c bc bq h.1.2.2.2.2.2.1∧(Sxb c w' g b)∧Rd pcE w' f d e h.1.2.2.2.2.2.2∧(Sxb f w' g b)∧bb w' a 117 (cO h.2))
abbrev gC107 (ak:Nat):Prop:=∀ (a:Nat) (i:di) (b:World) (g:Nat→Prop) (j:∀ k,g k→k<b.heap.size∧k≠a) (l:bb b a 117 (cO i)) (m:Rd bE b g (ro 0) 256 cp) (n:Rd (prE (iE .u8) (iE .u8)) b g (ro 1) 16 cN) (h:cr × di),regex_parser_repeated ak i=some h→Calls ar 107 ([bp a]:List Value).toArray b (dH fun v w'=>b.grownBy w' (some a)∧∃ (bc:bh) (bq:Nat),∃ (c:Nat→Prop),∃ (d:bh) (e:Nat),∃ (f:Nat→Prop),v=dF [.agg (bi h.1 bc bq d e)]∧Rd bM w' c bc bq h.1.2.2.2.2.2.1∧(Sxb c w' g b)∧Rd pcE w' f d e h.1.2.2.2.2.2.2∧(Sxb f w' g b)∧bb w' a 117 (cO h.2))
abbrev gC127 (ak:Nat):Prop:=∀ (a:Nat) (i:di) (b:World) (g:Nat→Prop) (j:∀ k,g k→k<b.heap.size∧k≠a) (l:bb b a 117 (cO i)) (m:Rd bE b g (ro 0) 256 cp) (n:Rd (prE (iE .u8) (iE .u8)) b g (ro 1) 16 cN) (h:cr × di),regex_parser_atom ak i=some h→Calls ar 127 ([bp a]:List Value).toArray b (dH fun v w'=>b.grownBy w' (some a)∧∃ (bc:bh) (bq:Nat),∃ (c:Nat→Prop),∃ (d:bh) (e:Nat),∃ (f:Nat→Prop),v=dF [.agg (bi h.1 bc bq d e)]∧Rd bM w' c bc bq h.1.2.2.2.2.2.1∧(Sxb c w' g b)∧Rd pcE w' f d e h.1.2.2.2.2.2.2∧(Sxb f w' g b)∧bb w' a 117 (cO h.2))
abbrev gC150 (ak:Nat):Prop:=∀ (b:Nat) (m:di) (ap:bh) (aE:Nat) (d:bh) (e:Nat) (f:cr) (a:World) (c:Nat→Prop) (o:∀ k,c k→k<a.heap.size∧k≠b) (p:bb a b 117 (cO m)) (aQ:Rd bM a c ap aE f.2.2.2.2.2.1) (n:Rd pcE a c d e f.2.2.2.2.2.2) (q:Rd bE a c (ro 0) 256 cp) (r:Rd (prE (iE .u8) (iE .u8)) a c (ro 1) 16 cN) (l:cr × di),regex_parser_inside ak m f=some l→Calls ar 150 ([bp b,.agg (bi f ap aE d e)]:List Value).toArray a (dH fun v w'=>a.grownBy w' (some b)∧∃ (bc:bh) (bq:Nat),∃ (g:Nat→Prop),∃ (h:bh) (i:Nat),∃ (j:Nat→Prop),v=dF [.agg (bi l.1 bc bq h i)]∧Rd bM w' g bc bq l.1.2.2.2.2.2.1∧(Sxb g w' c a)∧Rd pcE w' j h i l.1.2.2.2.2.2.2∧(Sxb j w' c a)∧bb w' b 117 (cO l.2))
set_option maxHeartbeats 4000000 in
set_option maxRecDepth 100000 in
theorem regex_parser_alternatives_step (ak:Nat) (R:gC56 ak) (c:gC83 ak) (a6:gC107 ak) (b4:gC127 ak) (bE:gC150 ak):gC56 (ak+1):=by
 intro l fx v y f dL e2 e3 r0 M;have e4:v.grownBy v (some l):=cu _ _;rw[regex_parser_alternatives.eq_2]at M;refine aK Tryz.func56 rfl Tryz.ntmps56 kr ?_;refine bP [(0,bp l)] ?_;have w:=dL.lt;refine aJ<|aD bp dI 25 kr kr ?_
 intro z w2 e5 em b5 fX;refine bI<|p1 4 (bp l)<|ag M ?_;intro r7 fy M;have b0:=ai e4 e5 nb;refine aq kr rfl kr enters83 (c l fx w2 y (jg f b0) (dL.grown e5 nb) (rg e2 b0 f) (rg e3 b0 f) r7 fy) ?_;rintro fY en ⟨eo,e6,e7,dM,e8,e9,dN,rfl,fg,dO,fh,dP,dQ⟩;have dR:∀ k,dM k→k<en.heap.size:=fun k hk=>(dO k hk).1;have ep:∀ k,dM k→y k∨v.heap.size≤k:=fun k hk=>(dO k hk).2.elim (fun h=>(fun k (hk:y k)=>Or.inl hk) k h) (fun h=>.inr (Nat.le_trans b0.size h));have dS:∀ k,dN k→k<en.heap.size:=fun k hk=>(dP k hk).1;have eq:∀ k,dN k→y k∨v.heap.size≤k:=fun k hk=>(dP k hk).2.elim (fun h=>(fun k (hk:y k)=>Or.inl hk) k h) (fun h=>.inr (Nat.le_trans b0.size h));refine aD (fun b=>.slice (ro b) 1 1) (bi r7.1 e6 e7 e8 e9) 25 kr kr ?_;intro b2 d1 S fi u fR;obtain ⟨b3,e⟩:∃ X:Nat→Prop,X=(fun k=>dM k∨dN k):=⟨_,rfl⟩;have er:∀ k,b3 k→k<en.heap.size:=fun k h=>by rw[e]at h;exact (h).elim (fun h=>dR k h) (fun h=>dS k h)
 have fj:∀ k,b3 k→k<d1.heap.size:=fun k h=>cg (er k h) S.size;have fk:∀ k,b3 k→y k∨v.heap.size≤k:=fun k h=>by rw[e]at h;exact (h).elim (fun h=>ep k h) (fun h=>eq k h)
 have fl:aw pcE 25 d1 b3 (ro b2) 1 ([Pc.of r7.1]:List Pc):=bJ fi (by rw[e];exact ⟨[vI r7.1.1,vI r7.1.2.1,vI r7.1.2.2.1,vB r7.1.2.2.2.1,vB r7.1.2.2.2.2.1,vL e6 r7.1.2.2.2.2.2.1 e7,vL e8 r7.1.2.2.2.2.2.2 e9],[],rfl,pc_mk7 ((fg.grown S dR nb).wide (fun _ h=>(.inl h))) ((fh.grown S dS nb).wide (fun _ h=>(.inr h))),rfl⟩) (show 1≤maxLen by decide) (fun h=>dC u (er _ h));have es:∀ k,b3 k→(fun k=>dM k∨dN k) k:=fun k h=>by rw[e]at h;exact h
 clear e;have et:=ai b0 eo bj;have fm:Lo v (ro b2):=dJ u et.size;have fS:=apD u dQ;have fT:=apG (p:=l) u dQ (fun h=>(es _ h).elim (xq ep f w) (xq eq f w));have T:=cL b5 dL;have dT:=em.grown eo (aj T);have F:v.heap.size≤z:=bY b5 e4.size;have fU:∀ g,aP (ro b2)=some g→¬ dM g:=fun g e hx=>nl (b8 u g e) (dR _ hx);have fV:∀ g,aP (ro b2)=some g→¬ dN g:=fun g e hx=>nl (b8 u g e) (dS _ hx);refine p1 3 (vL (ro b2) ([Pc.of r7.1]:List Pc) 1)<|cn<|ag M ?_;intro W h1 M
 refine aF (J:=fun a K=>∃ (m:bh) (N:Nat),∃ (r:Nat→Prop),v.grownBy K (some l)∧Sz d1 K∧aw pcE 25 K r m N W.1∧(Lo v m)∧(∀ k,r k→k<K.heap.size)∧(∀ k,r k→y k∨v.heap.size≤k)∧(∀ g,aP m=some g→¬ (· =z) g)∧¬ (fun k=>aP m=some k∨r k) z∧bb K l 117 (cO W.2)∧bb K z 25 dI∧Qa a 24 [(0,bp l),(2,bp z),(3,vL m W.1 N)]) ?_ ?_
 ·refine aI<|bR (A:=fun (Z:(List Pc) × di) a ah=>∃ (m:bh) (N:Nat),∃ (r:Nat→Prop),v.grownBy ah (some l)∧Sz d1 ah∧aw pcE 25 ah r m N Z.1∧(Lo v m)∧(∀ k,r k→k<ah.heap.size)∧(∀ k,r k→y k∨v.heap.size≤k)∧(∀ g,aP m=some g→¬ (· =z) g)∧¬ (fun k=>aP m=some k∨r k) z∧bb ah l 117 (cO Z.2)∧bb ah z 25 dI∧Qa a 24 [(0,bp l),(2,bp z),(3,vL m Z.1 N)]) h1 ?_ ?_
  ·intro a hd hs al;exact ⟨(ro b2),1,b3,(ai et S nb),bL,fl,fm,fj,fk,(apD u dT),(apG (p:=z) u dT (fun h=>(es _ h).elim (apE dO (xlo F f) em.lt) (apE dP (xlo F f) em.lt))),(dQ.grown S nb),(dT.grown S nb),hd,hs,aU al⟩
  ·rintro Z r2 h2 fz a ah ⟨o,d2,L,eu,ev,dU,x,a9,U,dV,dW,fo,dX,hd,hs,al⟩;refine aM ?_ hd hs al;refine aH<|aJ<|p1 7 (bp l)<|ag h2 ?_;intro fa fp h2;refine aq kr rfl kr cl (aZ ak l Z.2 (bu [124]) ah fo fa fp) ?_;rintro fZ fA ⟨q,rfl,ew⟩;refine aa<|bw h2 (fun fq h2=>?_) (fun fq h2=>?_)
   ·refine aA<|aI<|az<|pN 2 [9,10] [(9,vL o Z.1 d2),(10,bp l)]<|ag h2 ?_;intro D fr h2;have V:=ai eu q bj;refine aq kr rfl kr enters83 (c l fa.2 fA y (jg f V) ew (rg e2 V f) (rg e3 V f) D fr) ?_;rintro f0 ex ⟨bd,fb,fc,be,fd,ff,bg,rfl,fs,b7,ft,ca,dY⟩;have an:∀ k,be k→k<ex.heap.size:=fun k hk=>(b7 k hk).1;have d3:∀ k,be k→y k∨v.heap.size≤k:=fun k hk=>(b7 k hk).2.elim (fun h=>(fun k (hk:y k)=>Or.inl hk) k h) (fun h=>.inr (Nat.le_trans V.size h));have a0:∀ k,bg k→k<ex.heap.size:=fun k hk=>(ca k hk).1;have d4:∀ k,bg k→y k∨v.heap.size≤k:=fun k hk=>(ca k hk).2.elim (fun h=>(fun k (hk:y k)=>Or.inl hk) k h) (fun h=>.inr (Nat.le_trans V.size h));refine aD (fun b=>.slice (ro b) 1 1) (bi D.1 fb fc fd ff) 25 kr kr ?_;intro d cb n eA i fC;obtain ⟨j,e⟩:∃ X:Nat→Prop,X=(fun k=>be k∨bg k):=⟨_,rfl⟩;have d5:∀ k,j k→k<ex.heap.size:=fun k h=>by rw[e]at h;exact (h).elim (fun h=>an k h) (fun h=>a0 k h)
    have d6:∀ k,j k→k<cb.heap.size:=fun k h=>cg (d5 k h) n.size;have eB:∀ k,j k→y k∨v.heap.size≤k:=fun k h=>by rw[e]at h;exact (h).elim (fun h=>d3 k h) (fun h=>d4 k h)
    have cc:aw pcE 25 cb j (ro d) 1 ([Pc.of D.1]:List Pc):=bJ eA (by rw[e];exact ⟨[vI D.1.1,vI D.1.2.1,vI D.1.2.2.1,vB D.1.2.2.2.1,vB D.1.2.2.2.2.1,vL fb D.1.2.2.2.2.2.1 fc,vL fd D.1.2.2.2.2.2.2 ff],[],rfl,pc_mk7 ((fs.grown n an nb).wide (fun _ h=>(.inl h))) ((ft.grown n a0 nb).wide (fun _ h=>(.inr h))),rfl⟩) (show 1≤maxLen by decide) (fun h=>dC i (d5 _ h));have ch:∀ k,j k→(fun k=>be k∨bg k) k:=fun k h=>by rw[e]at h;exact h
    clear e;have d7:=ai V bd bj;have eC:Lo v (ro d):=dJ i d7.size;have d8:=aY a9 q.size;have ck:=(dU.grown q a9 (rdnx (aj (xq (fun k (hk:aP o=some k∨L k)=>hk.elim (fun h=>Or.inr (x k h)) (fun h=>U k h)) f w)))).grown bd d8 (rdnx (aj (xq (fun k (hk:aP o=some k∨L k)=>hk.elim (fun h=>Or.inr (x k h)) (fun h=>U k h)) f w)));have a1:=aY d8 bd.size;have fD:∀ g,aP (ro d)=some g→¬ (fun k=>aP o=some k∨L k) g:=fun g e hx=>nl (b8 i g e) ((fun k (hk:aP o=some k∨L k)=>hk.elim (fun h=>ck.lt k h) (fun h=>a1 k h)) _ hx);have d9:=dU.grown q a9 (rdnx (aj (xq (fun k (hk:aP o=some k∨L k)=>hk.elim (fun h=>Or.inr (x k h)) (fun h=>U k h)) f w)));have ea:∀ g,aP o=some g→¬ be g:=fun g e h=>((b7 _ h).2.elim (fun h=>((fun g (e:aP o=some g) (hx:y g)=>nl (x g e) (f _ hx).1)) g e h) (fun h=>nl h (d9.lt g e)));have eb:∀ g,aP o=some g→¬ bg g:=fun g e h=>((ca _ h).2.elim (fun h=>((fun g (e:aP o=some g) (hx:y g)=>nl (x g e) (f _ hx).1)) g e h) (fun h=>nl h (d9.lt g e)));have ec:∀ g,aP o=some g→¬ (fun k=>aP (ro d)=some k∨j k) g:=fun g e h=>h.elim (fun h=>nl (b8 i _ h) ((fun k (hk:aP o=some k∨L k)=>hk.elim (fun h=>ck.lt k h) (fun h=>a1 k h)) g (.inl e))) (fun h=>((ch _ h)).elim (fun h=>(ea) g e h) (fun h=>(eb) g e h));have fE:=apD i dY;have fF:=apG (p:=l) i dY (fun h=>(ch _ h).elim (xq d3 f w) (xq d4 f w));have cs:=(dX.grown q (aj T)).grown bd (aj T);have fG:=apD i cs;have ed:=dX.grown q (aj T);have fH:∀ g,aP (ro d)=some g→¬ be g:=fun g e hx=>nl (b8 i g e) (an _ hx);have fI:∀ g,aP (ro d)=some g→¬ bg g:=fun g e hx=>nl (b8 i g e) (a0 _ hx);refine ag h2 ?_;intro dZ eD h2;obtain ⟨B,e⟩:∃ X:Nat→Prop,X=fun k=>L k∨(fun k=>aP (ro d)=some k∨j k) k:=⟨_,rfl⟩;have ee:∀ k,B k→k<cb.heap.size:=fun k hk=>by rw[e]at hk;exact hk.elim (fun h=>(aY a1 n.size) k h) (fun h=>(fun k (hk:aP (ro d)=some k∨j k)=>hk.elim (fun h=>cc.lt k h) (fun h=>d6 k h)) k h)
    have eE:∀ k,B k→y k∨v.heap.size≤k:=fun k hk=>by rw[e]at hk;exact hk.elim (fun h=>U k h) (fun h=>(fun k (hk:aP (ro d)=some k∨j k)=>hk.elim (fun h=>Or.inr (eC k h)) (fun h=>eB k h)) k h)
    have ef:=ck.grown n a1 nb;have eF:aw pcE 25 cb B o d2 Z.1:=(ef).wide (fun k hk=>by rw[e];exact .inl hk) (fun g e1 hk=>by rw[e]at hk;exact hk.elim (fun h=>(ef).out g e1 h) (fun h=>ec g e1 h));have eG:∀ k,(fun k=>aP (ro d)=some k∨j k) k→B k:=fun k hk=>by rw[e];exact .inr hk
    have eH:∀ k,B k→L k∨(fun k=>aP (ro d)=some k∨j k) k:=fun k hk=>by rw[e]at hk;exact hk
    clear e;refine ci pcE (t:=23) (ty:=23) (e:=25) (a:=o) (ax:=(ro d)) (cap:=d2) (cx:=1) (xs:=Z.1) (ys:=([Pc.of D.1]:List Pc)) dZ (X:=B) (Y:=(fun k=>aP (ro d)=some k∨j k)) co rfl rfl kr kr aT info25 eF (cc.rd (Y:=fun k=>aP (ro d)=some k∨j k) (fun _ h=>.inr h) (fun g e=>.inl e)) eD (.inl eG) ee ?_;intro E ey fu O eI G;refine ⟨nofun,?_⟩;have eg:=ai d7 n nb;have eJ:Lo v E:=cA G x eg.size;have eK:∀ k,B k→k<fu.heap.size:=fun k hk=>cg (ee k hk) O.size;have cv:=cs.grown n nb;have eL:∀ g,aP E=some g→¬ (· =z) g:=bW G dV (cd cv);have eM:¬ (fun k=>aP E=some k∨B k) z:=fun h=>h.elim (fun h=>cj G (fun h=>(dW) (.inl h)) (cv.lt) h) (fun h=>(eH _ h).elim (fun h=>(dW) (.inr h)) (fun h=>((apG (p:=z) i cs (fun h=>(ch _ h).elim (apE b7 (xlo F f) ed.lt) (apE ca (xlo F f) ed.lt)))) h));have fJ:∀ g,aP E=some g→¬ be g:=bW G ea (aY an n.size);have fK:∀ g,aP E=some g→¬ bg g:=bW G eb (aY a0 n.size);have fL:∀ g,aP E=some g→¬ (fun k=>aP (ro d)=some k∨j k) g:=bW G ec (fun k (hk:aP (ro d)=some k∨j k)=>hk.elim (fun h=>cc.lt k h) (fun h=>d6 k h));refine p1 3 (vL E dZ ey)<|aa<|bx ?_
    obtain rfl:=sj h2;refine ac fun a hd hs al=>?_;exact ⟨(dZ,D.2),rfl,E,ey,B,(ai eg O (fun g e=>.inr (x g e))),(nt (nt (nt (nt ev q.size) bd.size) n.size) O.size),eI,eJ,eK,eE,eL,eM,((dY.grown n nb).grown O (fun g (e:aP o=some g) (h:g=l)=>negt w (x g e) h)),(cv.grown O dV),hd,hs,aU al⟩
   ·refine bG<|bQ rfl ?_
    obtain rfl:=sj h2;replace h1:=congrArg some (fz _ rfl);obtain rfl:=sj h1;refine ac fun a hd hs al=>?_;exact ⟨o,d2,L,(ai eu q bj),(nt ev q.size),(dU.grown q a9 (rdnx (aj (xq (fun k (hk:aP o=some k∨L k)=>hk.elim (fun h=>Or.inr (x k h)) (fun h=>U k h)) f w)))),x,(aY a9 q.size),U,dV,dW,ew,(dX.grown q (aj T)),hd,hs,aU al⟩
 ·rintro a K ⟨s,d0,C,a2,fM,a3,cw,P,Q,fN,a4,eh,a5,hd,hs,al⟩;refine aM ?_ hd hs al;refine aH<|aJ<|pL [14,15,16] 16 (vB ((lz W.1)==1))<|aa<|bw M (fun eN M=>?_) (fun eN M=>?_)
  ·refine aJ<|p1 17 (vL s W.1 d0)<|ag M ?_;intro c0 ei M;refine cP .i64 7 (a3.rd (Y:=fun k=>aP s=some k∨C k) (fun _ h=>.inr h) (fun g e=>.inl e)) ei aT ?_;obtain ⟨_,⟨_,_,rfl,rfl,⟨_,_,rfl,rfl,⟨_,_,rfl,rfl,⟨_,_,rfl,rfl,⟨_,_,rfl,rfl,⟨_,_,rfl,⟨bl,bn,rfl,eO⟩,⟨bs,bA,rfl,eP⟩⟩⟩⟩⟩⟩⟩,eQ⟩:=cells_un (a3.cellsK ei);refine laq 25 (aB s ((0:Int).toNat*7)) (dk (Pc.un c0) bl bn bs bA) (bB (eQ K (fun _ _=>rfl))) ?_;refine aG 25 0 (.agg (dk (Pc.un c0) bl bn bs bA)) (dk (Pc.un c0) bl bn bs bA) a5 kr kr kr ?_;intro fv H eR fO;refine aa<|am ?_
   obtain rfl:=sj M;refine av (ao [.agg (dk (Pc.un c0) bl bn bs bA)] rfl ⟨⟨⟨z,0,none⟩,kr,run_loadVar_row fv z _ 25 _ _ _ eR b9 rfl kr⟩,trivial⟩ ?_);exact ⟨(ai a2 H (cI F)),bl,bn,C,bs,bA,C,rfl,(eO.grown H P (aj (fun h=>a4 (.inr h)))),sxq (aY P H.size) Q,(eP.grown H P (aj (fun h=>a4 (.inr h)))),sxq (aY P H.size) Q,(eh.grown H (aj (apH b5 dL)))⟩
  ·refine aA<|aJ<|pN 3 [20,21,22] [(20,bp l),(22,.agg #[vI 9,vI 0,vI 0,vB false,vB false,vL none ([]:List aW) 0,vL s W.1 d0])]<|ag M ?_;intro c1 eS M;refine aq kr rfl kr enters85 (cq ak l W.2 none 0 s d0 (9,0,0,false,false,([]:List aW),W.1) K (fun k=>(fun _=>False) k∨(fun k=>aP s=some k∨C k) k) (fun k hk=>⟨(hk).elim (fun h=>h.elim) (fun h=>(fun k (hk:aP s=some k∨C k)=>hk.elim (fun h=>a3.lt k h) (fun h=>P k h)) k h),fun e=>(hk).elim (fun h=>((h:False).elim)) (fun h=>(xq (fun k (hk:aP s=some k∨C k)=>hk.elim (fun h=>Or.inr (cw k h)) (fun h=>Q k h)) f w) (e ▸ h))⟩) eh ((cD bM K (fun _=>False) none 0).wide (fun k hk=>(.inl hk))) ((a3.rd (Y:=fun k=>aP s=some k∨C k) (fun _ h=>.inr h) (fun g e=>.inl e)).wide (fun k hk=>(.inr hk))) c1 eS) ?_;rintro fW ez ⟨ej,c2,c3,c4,c5,c7,c8,rfl,eT,c9,eU,ds,eV⟩;have ek:∀ k,c4 k→k<ez.heap.size:=fun k hk=>(c9 k hk).1;have eW:∀ k,c4 k→y k∨v.heap.size≤k:=fun k hk=>(c9 k hk).2.elim (fun h=>(h).elim (fun h=>h.elim) (fun h=>(fun k (hk:aP s=some k∨C k)=>hk.elim (fun h=>Or.inr (cw k h)) (fun h=>Q k h)) k h)) (fun h=>.inr (Nat.le_trans a2.size h));have el:∀ k,c8 k→k<ez.heap.size:=fun k hk=>(ds k hk).1;have eX:∀ k,c8 k→y k∨v.heap.size≤k:=fun k hk=>(ds k hk).2.elim (fun h=>(h).elim (fun h=>h.elim) (fun h=>(fun k (hk:aP s=some k∨C k)=>hk.elim (fun h=>Or.inr (cw k h)) (fun h=>Q k h)) k h)) (fun h=>.inr (Nat.le_trans a2.size h));refine aG 25 0 (.agg (bi c1.1 c2 c3 c5 c7)) (bi c1.1 c2 c3 c5 c7) (a5.grown ej (aj T)) kr kr kr ?_;intro fw I eY fP;refine aa<|am ?_
   obtain rfl:=sj M;refine av (ao [.agg (bi c1.1 c2 c3 c5 c7)] rfl ⟨⟨⟨z,0,none⟩,kr,run_loadVar_row fw z _ 25 _ _ _ eY b9 rfl kr⟩,trivial⟩ ?_);have eZ:¬ c4 z:=fun h=>((c9 _ h).2.elim (fun h=>(h).elim (fun h=>by cases h) (fun h=>(a4) h)) (fun h=>nl h (a5.lt)));have e0:¬ c8 z:=fun h=>((ds _ h).2.elim (fun h=>(h).elim (fun h=>by cases h) (fun h=>(a4) h)) (fun h=>nl h (a5.lt)));exact ⟨(ai (ai a2 ej bj) I (cI F)),c2,c3,c4,c5,c7,c8,rfl,(eT.grown I ek (aj eZ)),sxq (aY ek I.size) eW,(eU.grown I el (aj e0)),sxq (aY el I.size) eX,(eV.grown I (aj (apH b5 dL)))⟩
set_option maxHeartbeats 4000000 in
set_option maxRecDepth 100000 in
theorem regex_parser_sequence_step (ak:Nat) (O:gC56 ak) (V:gC83 ak) (n:gC107 ak) (bg:gC127 ak) (a8:gC150 ak) (c:Nat) (eO:di) (f:World) (y:Nat→Prop) (z:∀ k,y k→k<f.heap.size∧k≠c) (bd:bb f c 117 (cO eO)) (fb:Rd bE f y (ro 0) 256 cp) (fc:Rd (prE (iE .u8) (iE .u8)) f y (ro 1) 16 cN) (r0:cr × di) (Q:regex_parser_sequence (ak+1) eO=some r0):
    Cs 83 [bp c] f (dH fun v w'=>f.grownBy w' (some c)∧∃ (bc:bh) (bq:Nat),∃ (dQ:Nat→Prop),∃ (dR:bh) (dS:Nat),∃ (dT:Nat→Prop),v=dF [.agg (bi r0.1 bc bq dR dS)]∧Rd bM w' dQ bc bq r0.1.2.2.2.2.2.1∧(Sxb dQ w' y f)∧Rd pcE w' dT dR dS r0.1.2.2.2.2.2.2∧(Sxb dT w' y f)∧bb w' c 117 (cO r0.2)):=by
 have dU:f.grownBy f (some c):=cu _ _;rw[regex_parser_sequence.eq_2]at Q;refine aK Tryz.func83 rfl Tryz.ntmps83 kr ?_;refine bP [(0,bp c)] ?_;have W:=bd.lt;refine aJ<|aD bp dI 25 kr kr ?_
 intro s w2 eP fd F fw;refine bI<|p1 3 (vL none ([]:List Pc) 0)<|cn<|ag Q ?_;intro j7 h1 Q
 refine aF (J:=fun a w8=>∃ (d:bh) (I:Nat),∃ (m:Nat→Prop),f.grownBy w8 (some c)∧Sz w2 w8∧aw pcE 25 w8 m d I j7.1∧(Lo f d)∧(∀ k,m k→k<w8.heap.size)∧(∀ k,m k→y k∨f.heap.size≤k)∧(∀ g,aP d=some g→¬ (· =s) g)∧¬ (fun k=>aP d=some k∨m k) s∧bb w8 c 117 (cO j7.2)∧bb w8 s 25 dI∧Qa a 29 [(0,bp c),(2,bp s),(3,vL d j7.1 I)]) ?_ ?_
 ·refine aI<|bR (A:=fun (Z:(List Pc) × di) a K=>∃ (d:bh) (I:Nat),∃ (m:Nat→Prop),f.grownBy K (some c)∧Sz w2 K∧aw pcE 25 K m d I Z.1∧(Lo f d)∧(∀ k,m k→k<K.heap.size)∧(∀ k,m k→y k∨f.heap.size≤k)∧(∀ g,aP d=some g→¬ (· =s) g)∧¬ (fun k=>aP d=some k∨m k) s∧bb K c 117 (cO Z.2)∧bb K s 25 dI∧Qa a 29 [(0,bp c),(2,bp s),(3,vL d Z.1 I)]) h1 ?_ ?_
  ·intro a hd hs al;exact ⟨none,0,(fun _=>False),(ai dU eP nb),bL,aw.nil pcE 25 w2 (fun _=>False),nofun,fe,fe,nofun,(fun h=>h.elim nofun (fun e=>e)),(bd.grown eP nb),fd,hd,hs,aU al⟩
  ·rintro Z r2 h2 ff a K ⟨j,be,P,d6,eX,d7,G,bl,c5,c7,c8,bn,d8,hd,hs,al⟩;refine aM ?_ hd hs al;refine aH<|aJ<|ag h2 ?_;intro d9 h3 h2
   refine aN (J:=fun a an=>f.grownBy an (some c)∧Sz K an∧bb an c 117 (cO d9.2)∧bb an s 25 dI∧aw pcE 25 an P j be Z.1∧Qa a 29 [(0,bp c),(2,bp s),(3,vL j Z.1 be),(13,vB d9.1)]) ?_ ?_
   ·refine pL [4,5,6] 6 (bp c)<|br 9 bn 0 rfl<|pL [8,9] 9 (vB (!(Z.2.1.toList==(bu []).toList)))<|cf 9 h3 (fun eY h3=>?_) (fun eY h3=>?_)
    ·refine p1 10 (bp c)<|ag h3 ?_;intro eQ eZ h3;refine aq kr rfl kr enters106 (cV ak c Z.2 (bu [124,41]) K bn eQ eZ) ?_;rintro fx fy ⟨a0,rfl⟩;refine pL [12,13] 13 (vB (!eQ))<|aa ?_;obtain rfl:=sj h3;refine ac fun a hd hs al=>?_;exact ⟨(ai d6 a0 nb),a0.size,(bn.grown a0 nb),(d8.grown a0 nb),(d7.grown a0 bl nb),hd,hs,aU al⟩
    ·refine pL [10,11,12,13] 13 (vB false)<|aa ?_;obtain rfl:=sj h3;exact ac fun a hd hs al=>⟨d6,bL,bn,d8,d7,hd,hs,aU al⟩
   ·rintro a an ⟨H,bs,ea,bA,b0,hd,hs,al⟩;refine aM ?_ hd hs al;have eb:=(nt eX bs);refine bw h2 (fun e0 h2=>?_) (fun e0 h2=>?_)
    ·refine aA<|aI<|az<|pN 2 [14,15] [(14,vL j Z.1 be),(15,bp c)]<|ag h2 ?_;intro x e2 h2;refine aq kr rfl kr enters107 (n c d9.2 an y (jg z H) ea (rg fb H z) (rg fc H z) x e2) ?_;rintro fz ec ⟨a1,eR,eS,a2,eT,eU,a3,rfl,e3,b2,e4,b3,ds⟩;have b4:∀ k,a2 k→k<ec.heap.size:=fun k hk=>(b2 k hk).1;have ed:∀ k,a2 k→y k∨f.heap.size≤k:=fun k hk=>(b2 k hk).2.elim (fun h=>(fun k (hk:y k)=>Or.inl hk) k h) (fun h=>.inr (Nat.le_trans H.size h));have b5:∀ k,a3 k→k<ec.heap.size:=fun k hk=>(b3 k hk).1;have ee:∀ k,a3 k→y k∨f.heap.size≤k:=fun k hk=>(b3 k hk).2.elim (fun h=>(fun k (hk:y k)=>Or.inl hk) k h) (fun h=>.inr (Nat.le_trans H.size h));refine aD (fun b=>.slice (ro b) 1 1) (bi x.1 eR eS eT eU) 25 kr kr ?_;intro l dV o e5 i fo;obtain ⟨q,e⟩:∃ X:Nat→Prop,X=(fun k=>a2 k∨a3 k):=⟨_,rfl⟩;have ef:∀ k,q k→k<ec.heap.size:=fun k h=>by rw[e]at h;exact (h).elim (fun h=>b4 k h) (fun h=>b5 k h)
     have eg:∀ k,q k→k<dV.heap.size:=fun k h=>cg (ef k h) o.size;have e6:∀ k,q k→y k∨f.heap.size≤k:=fun k h=>by rw[e]at h;exact (h).elim (fun h=>ed k h) (fun h=>ee k h)
     have dL:aw pcE 25 dV q (ro l) 1 ([Pc.of x.1]:List Pc):=bJ e5 (by rw[e];exact ⟨[vI x.1.1,vI x.1.2.1,vI x.1.2.2.1,vB x.1.2.2.2.1,vB x.1.2.2.2.2.1,vL eR x.1.2.2.2.2.2.1 eS,vL eT x.1.2.2.2.2.2.2 eU],[],rfl,pc_mk7 ((e3.grown o b4 nb).wide (fun _ h=>(.inl h))) ((e4.grown o b5 nb).wide (fun _ h=>(.inr h))),rfl⟩) (show 1≤maxLen by decide) (fun h=>dC i (ef _ h));have dM:∀ k,q k→(fun k=>a2 k∨a3 k) k:=fun k h=>by rw[e]at h;exact h
     clear e;have eh:=ai H a1 bj;have e7:Lo f (ro l):=dJ i eh.size;have fp:=apD i ds;have fq:=apG (p:=c) i ds (fun h=>(dM _ h).elim (xq ed z W) (xq ee z W));have dN:=bA.grown a1 (aj (cL F bd));have fr:=apD i dN;have dW:f.heap.size≤s:=bY F dU.size;have dO:=b0.grown a1 (aY bl bs) (rdnx (aj (xq (fun k (hk:aP j=some k∨P k)=>hk.elim (fun h=>Or.inr (G k h)) (fun h=>c5 k h)) z W)));have b7:=aY (aY bl bs) a1.size;have fs:∀ g,aP (ro l)=some g→¬ (fun k=>aP j=some k∨P k) g:=fun g e hx=>nl (b8 i g e) ((fun k (hk:aP j=some k∨P k)=>hk.elim (fun h=>dO.lt k h) (fun h=>b7 k h)) _ hx);have ei:∀ g,aP j=some g→¬ a2 g:=fun g e h=>((b2 _ h).2.elim (fun h=>((fun g (e:aP j=some g) (hx:y g)=>nl (G g e) (z _ hx).1)) g e h) (fun h=>nl h (b0.lt g e)));have ej:∀ g,aP j=some g→¬ a3 g:=fun g e h=>((b3 _ h).2.elim (fun h=>((fun g (e:aP j=some g) (hx:y g)=>nl (G g e) (z _ hx).1)) g e h) (fun h=>nl h (b0.lt g e)));have ek:∀ g,aP j=some g→¬ (fun k=>aP (ro l)=some k∨q k) g:=fun g e h=>h.elim (fun h=>nl (b8 i _ h) ((fun k (hk:aP j=some k∨P k)=>hk.elim (fun h=>dO.lt k h) (fun h=>b7 k h)) g (.inl e))) (fun h=>((dM _ h)).elim (fun h=>(ei) g e h) (fun h=>(ej) g e h));have ft:∀ g,aP (ro l)=some g→¬ a2 g:=fun g e hx=>nl (b8 i g e) (b4 _ hx);have fu:∀ g,aP (ro l)=some g→¬ a3 g:=fun g e hx=>nl (b8 i g e) (b5 _ hx);refine ag h2 ?_;intro el eq h2;obtain ⟨u,e⟩:∃ X:Nat→Prop,X=fun k=>P k∨(fun k=>aP (ro l)=some k∨q k) k:=⟨_,rfl⟩;have dX:∀ k,u k→k<dV.heap.size:=fun k hk=>by rw[e]at hk;exact hk.elim (fun h=>(aY b7 o.size) k h) (fun h=>(fun k (hk:aP (ro l)=some k∨q k)=>hk.elim (fun h=>dL.lt k h) (fun h=>eg k h)) k h)
     have er:∀ k,u k→y k∨f.heap.size≤k:=fun k hk=>by rw[e]at hk;exact hk.elim (fun h=>c5 k h) (fun h=>(fun k (hk:aP (ro l)=some k∨q k)=>hk.elim (fun h=>Or.inr (e7 k h)) (fun h=>e6 k h)) k h)
     have dY:=dO.grown o b7 nb;have es:aw pcE 25 dV u j be Z.1:=(dY).wide (fun k hk=>by rw[e];exact .inl hk) (fun g e1 hk=>by rw[e]at hk;exact hk.elim (fun h=>(dY).out g e1 h) (fun h=>ek g e1 h));have et:∀ k,(fun k=>aP (ro l)=some k∨q k) k→u k:=fun k hk=>by rw[e];exact .inr hk
     have eu:∀ k,u k→P k∨(fun k=>aP (ro l)=some k∨q k) k:=fun k hk=>by rw[e]at hk;exact hk
     clear e;refine ci pcE (t:=23) (ty:=23) (e:=25) (a:=j) (ax:=(ro l)) (cap:=be) (cx:=1) (xs:=Z.1) (ys:=([Pc.of x.1]:List Pc)) el (X:=u) (Y:=(fun k=>aP (ro l)=some k∨q k)) co rfl rfl kr kr aT info25 es (dL.rd (Y:=fun k=>aP (ro l)=some k∨q k) (fun _ h=>.inr h) (fun g e=>.inl e)) eq (.inl et) dX ?_;intro B em e8 L ev C;refine ⟨nofun,?_⟩;have dZ:=ai eh o nb;have ew:Lo f B:=cA C G dZ.size;have ex:∀ k,u k→k<e8.heap.size:=fun k hk=>cg (dX k hk) L.size;have ca:=dN.grown o nb;have ey:∀ g,aP B=some g→¬ (· =s) g:=bW C c7 (cd ca);have ez:¬ (fun k=>aP B=some k∨u k) s:=fun h=>h.elim (fun h=>cj C (fun h=>(c8) (.inl h)) (ca.lt) h) (fun h=>(eu _ h).elim (fun h=>(c8) (.inr h)) (fun h=>((apG (p:=s) i dN (fun h=>(dM _ h).elim (apE b2 (xlo dW z) bA.lt) (apE b3 (xlo dW z) bA.lt)))) h));have fh:∀ g,aP B=some g→¬ a2 g:=bW C ei (aY b4 o.size);have fi:∀ g,aP B=some g→¬ a3 g:=bW C ej (aY b5 o.size);have fj:∀ g,aP B=some g→¬ (fun k=>aP (ro l)=some k∨q k) g:=bW C ek (fun k (hk:aP (ro l)=some k∨q k)=>hk.elim (fun h=>dL.lt k h) (fun h=>eg k h));refine p1 3 (vL B el em)<|aa<|bx ?_
     obtain rfl:=sj h2;refine ac fun a hd hs al=>?_;exact ⟨(el,x.2),rfl,B,em,u,(ai dZ L (fun g e=>.inr (G g e))),(nt (nt (nt eb a1.size) o.size) L.size),ev,ew,ex,er,ey,ez,((ds.grown o nb).grown L (fun g (e:aP j=some g) (h:g=c)=>negt W (G g e) h)),(ca.grown L c7),hd,hs,aU al⟩
    ·refine bG<|bQ rfl ?_
     obtain rfl:=sj h2;replace h1:=congrArg some (ff _ rfl);obtain rfl:=sj h1;refine ac fun a hd hs al=>?_;exact ⟨j,be,P,H,eb,b0,G,aY bl bs,c5,c7,c8,ea,bA,hd,hs,aU al⟩
 ·rintro a w8 ⟨r,dP,w,R,fk,S,cb,M,N,fl,T,d0,U,hd,hs,al⟩;refine aM ?_ hd hs al;refine aH<|aJ<|pL [19,20,21] 21 (vB ((lz j7.1)==1))<|aa<|bw Q (fun eA Q=>?_) (fun eA Q=>?_)
  ·refine aJ<|p1 22 (vL r j7.1 dP)<|ag Q ?_;intro cc d1 Q;refine cP .i64 7 (S.rd (Y:=fun k=>aP r=some k∨w k) (fun _ h=>.inr h) (fun g e=>.inl e)) d1 aT ?_;obtain ⟨_,⟨_,_,rfl,rfl,⟨_,_,rfl,rfl,⟨_,_,rfl,rfl,⟨_,_,rfl,rfl,⟨_,_,rfl,rfl,⟨_,_,rfl,⟨a4,a5,rfl,eB⟩,⟨a6,a7,rfl,eC⟩⟩⟩⟩⟩⟩⟩,eD⟩:=cells_un (S.cellsK d1);refine laq 25 (aB r ((0:Int).toNat*7)) (dk (Pc.un cc) a4 a5 a6 a7) (bB (eD w8 (fun _ _=>rfl))) ?_;refine aG 25 0 (.agg (dk (Pc.un cc) a4 a5 a6 a7)) (dk (Pc.un cc) a4 a5 a6 a7) U kr kr kr ?_;intro e9 D eE fm;refine aa<|am ?_
   obtain rfl:=sj Q;refine av (ao [.agg (dk (Pc.un cc) a4 a5 a6 a7)] rfl ⟨⟨⟨s,0,none⟩,kr,run_loadVar_row e9 s _ 25 _ _ _ eE b9 rfl kr⟩,trivial⟩ ?_);have en:f.heap.size≤s:=bY F dU.size;exact ⟨(ai R D (cI en)),a4,a5,w,a6,a7,w,rfl,(eB.grown D M (aj (fun h=>T (.inr h)))),sxq (aY M D.size) N,(eC.grown D M (aj (fun h=>T (.inr h)))),sxq (aY M D.size) N,(d0.grown D (aj (apH F bd)))⟩
  ·refine aA<|aJ<|pN 3 [25,26,27] [(25,bp c),(27,.agg #[vI 8,vI 0,vI 0,vB false,vB false,vL none ([]:List aW) 0,vL r j7.1 dP])]<|ag Q ?_;intro ch eF Q;refine aq kr rfl kr enters85 (cq ak c j7.2 none 0 r dP (8,0,0,false,false,([]:List aW),j7.1) w8 (fun k=>(fun _=>False) k∨(fun k=>aP r=some k∨w k) k) (fun k hk=>⟨(hk).elim (fun h=>h.elim) (fun h=>(fun k (hk:aP r=some k∨w k)=>hk.elim (fun h=>S.lt k h) (fun h=>M k h)) k h),fun e=>(hk).elim (fun h=>((h:False).elim)) (fun h=>(xq (fun k (hk:aP r=some k∨w k)=>hk.elim (fun h=>Or.inr (cb k h)) (fun h=>N k h)) z W) (e ▸ h))⟩) d0 ((cD bM w8 (fun _=>False) none 0).wide (fun k hk=>(.inl hk))) ((S.rd (Y:=fun k=>aP r=some k∨w k) (fun _ h=>.inr h) (fun g e=>.inl e)).wide (fun k hk=>(.inr hk))) ch eF) ?_;rintro fv eo ⟨d2,ck,cs,cv,cw,c0,c1,rfl,eG,c2,eH,c3,eI⟩;have d3:∀ k,cv k→k<eo.heap.size:=fun k hk=>(c2 k hk).1;have eJ:∀ k,cv k→y k∨f.heap.size≤k:=fun k hk=>(c2 k hk).2.elim (fun h=>(h).elim (fun h=>h.elim) (fun h=>(fun k (hk:aP r=some k∨w k)=>hk.elim (fun h=>Or.inr (cb k h)) (fun h=>N k h)) k h)) (fun h=>.inr (Nat.le_trans R.size h));have d4:∀ k,c1 k→k<eo.heap.size:=fun k hk=>(c3 k hk).1;have eK:∀ k,c1 k→y k∨f.heap.size≤k:=fun k hk=>(c3 k hk).2.elim (fun h=>(h).elim (fun h=>h.elim) (fun h=>(fun k (hk:aP r=some k∨w k)=>hk.elim (fun h=>Or.inr (cb k h)) (fun h=>N k h)) k h)) (fun h=>.inr (Nat.le_trans R.size h));refine aG 25 0 (.agg (bi ch.1 ck cs cw c0)) (bi ch.1 ck cs cw c0) (U.grown d2 (aj (cL F bd))) kr kr kr ?_;intro fa E eL fn;refine aa<|am ?_
   obtain rfl:=sj Q;refine av (ao [.agg (bi ch.1 ck cs cw c0)] rfl ⟨⟨⟨s,0,none⟩,kr,run_loadVar_row fa s _ 25 _ _ _ eL b9 rfl kr⟩,trivial⟩ ?_);have ep:f.heap.size≤s:=bY F dU.size;have eM:¬ cv s:=fun h=>((c2 _ h).2.elim (fun h=>(h).elim (fun h=>by cases h) (fun h=>(T) h)) (fun h=>nl h (U.lt)));have eN:¬ c1 s:=fun h=>((c3 _ h).2.elim (fun h=>(h).elim (fun h=>by cases h) (fun h=>(T) h)) (fun h=>nl h (U.lt)));exact ⟨(ai (ai R d2 bj) E (cI ep)),ck,cs,cv,cw,c0,c1,rfl,(eG.grown E d3 (aj eM)),sxq (aY d3 E.size) eJ,(eH.grown E d4 (aj eN)),sxq (aY d4 E.size) eK,(eI.grown E (aj (apH F bd)))⟩
set_option maxHeartbeats 4000000 in
set_option maxRecDepth 100000 in
theorem regex_parser_repeated_step (ak:Nat) (em:gC56 ak) (eR:gC83 ak) (eS:gC107 ak) (c8:gC127 ak) (e2:gC150 ak) (c:Nat) (hX:di) (r:World) (X0:Nat→Prop) (s:∀ k,X0 k→k<r.heap.size∧k≠c) (bd:bb r c 117 (cO hX)) (ln:Rd bE r X0 (ro 0) 256 cp) (lo:Rd (prE (iE .u8) (iE .u8)) r X0 (ro 1) 16 cN) (r0:cr × di) (W:regex_parser_repeated (ak+1) hX=some r0):
    Cs 107 [bp c] r (dH fun v w'=>r.grownBy w' (some c)∧∃ (bc:bh) (bq:Nat),∃ (fX:Nat→Prop),∃ (fY:bh) (fZ:Nat),∃ (f0:Nat→Prop),v=dF [.agg (bi r0.1 bc bq fY fZ)]∧Rd bM w' fX bc bq r0.1.2.2.2.2.2.1∧(Sxb fX w' X0 r)∧Rd pcE w' f0 fY fZ r0.1.2.2.2.2.2.2∧(Sxb f0 w' X0 r)∧bb w' c 117 (cO r0.2)):=by
 have eT:r.grownBy r (some c):=cu _ _;rw[regex_parser_repeated.eq_2]at W;refine aK Tryz.func107 rfl Tryz.ntmps107 kr ?_;refine bP [(0,bp c)] ?_;have w:=bd.lt;refine aJ<|aD bp dI 25 kr kr ?_
 intro q w2 hZ L M lp;refine bI<|p1 8 (bp c)<|ag W ?_;intro m ld W;have Z:=ai eT hZ nb;refine aq kr rfl kr enters127 (c8 c hX w2 X0 (jg s Z) (bd.grown hZ nb) (rg ln Z s) (rg lo Z s) m ld) ?_;rintro mq le ⟨x,C,D,P,E,F,Q,rfl,c9,dV,ds,dW,eU⟩;have A:∀ k,P k→k<le.heap.size:=fun k hk=>(dV k hk).1;have H:∀ k,P k→X0 k∨r.heap.size≤k:=fun k hk=>(dV k hk).2.elim (fun h=>(fun k (hk:X0 k)=>Or.inl hk) k h) (fun h=>.inr (Nat.le_trans Z.size h));have B:∀ k,Q k→k<le.heap.size:=fun k hk=>(dW k hk).1;have I:∀ k,Q k→X0 k∨r.heap.size≤k:=fun k hk=>(dW k hk).2.elim (fun h=>(fun k (hk:X0 k)=>Or.inl hk) k h) (fun h=>.inr (Nat.le_trans Z.size h));refine aD bp dI 25 kr kr ?_;intro ah mr f h2 n lf;refine aG 25 0 (.agg (bi m.1 C D E F)) (bi m.1 C D E F) h2 kr kr kr ?_;intro lq i fT lg;refine bI<|p1 11 (bp c)<|ag W ?_;intro j h3 W;refine aq kr rfl kr enters128 (regex_parser_bounds_ok ak c m.2 lq ((eU.grown f nb).grown i (aj (apH n eU))) j h3) ?_;rintro ms lr ⟨d,rfl,bl⟩;refine pN 7 [4,5,6,10,13,14,15] [(4,vI j.1),(5,vI j.2.1),(6,vB j.2.2.1)]<|cn<|aJ<|pL [16,17] 17 (vB (!j.2.2.1))<|aa<|bw W (fun h4 W=>?_) (fun h4 W=>?_)
 ·refine aJ<|cJ 25 ah (bi m.1 C D E F) (bB (fT.grown d (aj (cL n eU)))) ?_;have fU:=cL M bd;refine aG 25 0 (.agg (bi m.1 C D E F)) (bi m.1 C D E F) ((((L.grown x (aj fU)).grown f nb).grown i (aj (ng (cg ((cd (L.grown x (aj fU))) _ rfl) ((bv n) _ rfl))))).grown d (aj fU)) kr kr kr ?_;intro ls en lh l4;refine aa<|am ?_
  obtain rfl:=sj W;refine av (ao [.agg (bi m.1 C D E F)] rfl ⟨⟨⟨q,0,none⟩,kr,run_loadVar_row ls q _ 25 _ _ _ lh b9 rfl kr⟩,trivial⟩ ?_);have iT:r.heap.size≤ah:=bY n (ai Z x bj).size;have e3:r.heap.size≤q:=bY M eT.size;have h5:=aY A f.size;have h6:=aY h5 i.size;have h7:=aY h6 d.size;have h8:=aY B f.size;have h9:=aY h8 i.size;have ia:=aY h9 d.size;exact ⟨(ai (ai (ai (ai (ai Z x bj) f nb) i (cI iT)) d bj) en (cI e3)),C,D,P,E,F,Q,rfl,((((c9.grown f A nb).grown i h5 (aj (apF n A))).grown d h6 (aj (xq H s w))).grown en h7 (aj (apE dV (xlo e3 s) L.lt))),sxq (aY h7 en.size) H,((((ds.grown f B nb).grown i h8 (aj (apF n B))).grown d h9 (aj (xq I s w))).grown en ia (aj (apE dW (xlo e3 s) L.lt))),sxq (aY ia en.size) I,(bl.grown en (aj (apH M bd)))⟩
 ·refine aA<|aH<|aJ<|p1 19 (bp ah) ?_
  have eo:=cL n eU;have ck:=fT.grown d (aj eo);refine br 3 ck 0 rfl<|aa<|aI<|aH<|aJ<|pL [21,22] 21 (vB (m.1.1==4))<|aa<|bw W (fun ib W=>?_) (fun ib W=>?_)
  ·cases W
  ·refine aJ<|pL [21,23] 21 (vB (m.1.1==5))<|aa<|bw W (fun ic W=>?_) (fun ic W=>?_)
   ·cases W
   ·refine aJ<|pL [21,24] 21 (vB (m.1.1==6))<|bP [(0,bp c),(2,bp q),(3,bp ah),(4,vI j.1),(5,vI j.2.1),(20,vI m.1.1),(21,vB (m.1.1==6))]<|aa<|bw W (fun id W=>?_) (fun id W=>?_)
    ·cases W
    ·refine az<|pL [21,25] 21 (vB (m.1.1==11))<|aa<|dw (b:=(m.1.1==11)) kr (fun e4=>?_) (fun e4=>?_)
     ·replace W:=ite_t e4 W;cases W
     ·replace W:=ite_f e4 W;refine aA<|bx<|aH<|ag W ?_;intro ec h1 W
      refine aF (J:=fun a dX=>∃ (ev:bh) (ew:Nat),∃ (a5:Nat→Prop),∃ (ex:bh) (ey:Nat),∃ (a6:Nat→Prop),∃ (b0:Nat),r.grownBy dX (some c)∧Sz lr dX∧Rd bM dX a5 ev ew ec.2.2.2.2.2.2.1∧(∀ k,a5 k→k<dX.heap.size)∧(∀ k,a5 k→X0 k∨r.heap.size≤k)∧Rd pcE dX a6 ex ey ec.2.2.2.2.2.2.2∧(∀ k,a6 k→k<dX.heap.size)∧(∀ k,a6 k→X0 k∨r.heap.size≤k)∧¬ a5 q∧¬ a5 b0∧¬ a6 q∧¬ a6 b0∧¬ (· =q) b0∧bb dX c 117 (cO ec.1)∧bb dX q 25 dI∧bb dX b0 25 (bi ec.2 ev ew ex ey)∧r.heap.size≤b0∧Qa a 42 [(0,bp c),(2,bp q),(7,bp b0)]) ?_ ?_
      ·refine bD kr ?_;intro dU l;refine ag h1 ?_;intro z ep h1;refine ag h1 ?_;intro K f1 h1;refine gv_shareA (fun σ cv=>∃ (an:Nat),∃ (dL:bh),∃ (dM:Nat),∃ (ea:Nat→Prop),∃ (dN:bh),∃ (dO:Nat),∃ (eb:Nat→Prop),σ=[(0,bp c),(2,bp q),(7,bp an),(36,.agg (bi K.1 dL dM dN dO))]∧r.grownBy cv (some c)∧Sz dU cv∧bb cv c 117 (cO K.2)∧bb cv q 25 dI∧bb cv an 25 dI∧r.heap.size≤an∧Rd bM cv ea dL dM K.1.2.2.2.2.2.1∧(∀ k,ea k→k<cv.heap.size)∧(∀ k,ea k→X0 k∨r.heap.size≤k)∧Rd pcE cv eb dN dO K.1.2.2.2.2.2.2∧(∀ k,eb k→k<cv.heap.size)∧(∀ k,eb k→X0 k∨r.heap.size≤k)∧(¬ (· =an) c)∧(¬ ea q)∧(¬ eb q)∧(¬ (· =an) q)∧(¬ (· =c) an)∧(¬ (· =q) an)∧(¬ ea an)∧(¬ eb an)) (bA 11 [0,1,2,3,4,5,6,7,8,9]) 1 ?_ fun ig=>?_
       ·rintro σ cv ⟨an,dL,dM,ea,dN,dO,eb,rfl,iU,iV,iW,iX,iY,fI,iZ,f2,i0,i1,f3,i2,lv,i3,i4,lw,i5,f4,f5,f6⟩;refine gv_alt [(10,bA 11 [0,1,2,3,4,5,6,7,8,9,10])] 0 kr kr ⟨?_,trivial⟩;refine cX (t:=25) (b:=an) (off:=0) (v:=(.agg #[.int .i64 K.1.1,.int .i64 K.1.2.1,.int .i64 K.1.2.2.1,.bool K.1.2.2.2.1,.bool K.1.2.2.2.2.1,.slice dL (length K.1.2.2.2.2.2.1) dM,.slice dN (length K.1.2.2.2.2.2.2) dO])) (t':=25) (cs:=#[.int .i64 0,.int .i64 0,.int .i64 0,.bool false,.bool false,.slice none (length ([]:List aW)) 0,.slice none (length ([]:List Pc)) 0]) #[.int .i64 K.1.1,.int .i64 K.1.2.1,.int .i64 K.1.2.2.1,.bool K.1.2.2.2.1,.bool K.1.2.2.2.2.1,.slice dL (length K.1.2.2.2.2.2.1) dM,.slice dN (length K.1.2.2.2.2.2.2) dO] co rfl rfl kr kr kr (by intro u hu;simp[Value.cells]at hu;rcases hu with rfl | rfl | rfl | rfl | rfl | rfl | rfl<;>rfl) (show 0+7≤7 by decide) (by rfl) iY ?_;intro l5 b2 i6 lx;refine ⟨(fun _=>trivial),?_⟩;refine aa<|au<|aX kr ?_;obtain rfl:=sj h1;refine ac fun a hd hs al=>?_;exact ⟨dL,dM,ea,dN,dO,eb,an,(ai iU b2 (cI fI)),(nt (nt l.size iV) b2.size),(iZ.grown b2 f2 (aj f5)),(aY f2 b2.size),i0,(i1.grown b2 f3 (aj f6)),(aY f3 b2.size),i2,i3,f5,i4,f6,f4,(iW.grown b2 (aj i5)),(iX.grown b2 (aj f4)),i6,fI,hd,hs,aU al⟩
       refine gv_shareA (fun σ cw=>∃ (N:Nat),∃ (o:Nat),∃ (a8:Nat→Prop),σ=[(0,bp c),(2,bp q),(7,bp N),(28,bp c),(35,.agg #[vI 10,vI j.1,vI j.2.1,vB false,vB z.1,vL none ([]:List aW) 0,vL (ro o) ([Pc.of m.1]:List Pc) 1])]∧r.grownBy cw (some c)∧Sz dU cw∧bb cw c 117 (cO z.2)∧bb cw q 25 dI∧bb cw N 25 dI∧r.heap.size≤N∧aw pcE 25 cw a8 (ro o) 1 ([Pc.of m.1]:List Pc)∧(∀ k,a8 k→k<cw.heap.size)∧(Lo r (ro o))∧(∀ k,a8 k→X0 k∨r.heap.size≤k)∧(¬ (fun k=>aP (ro o)=some k∨a8 k) c)∧(¬ (· =N) c)∧(¬ (fun k=>aP (ro o)=some k∨a8 k) q)∧(¬ (· =N) q)∧(∀ g,aP (ro o)=some g→¬ (· =c) g)∧(∀ g,aP (ro o)=some g→¬ (· =q) g)∧(∀ g,aP (ro o)=some g→¬ (· =N) g)∧(¬ (· =c) N)∧(¬ (· =q) N)∧(¬ (fun k=>aP (ro o)=some k∨a8 k) N)) (bA 11 [0,1,2,3,4,5,6,7,9]) 2 ?_ fun ih=>?_
       ·rintro σ cw ⟨N,o,a8,rfl,e5,i7,i8,e6,e7,ii,f7,i9,fJ,f8,ja,f9,ga,jb,ly,lA,lB,jc,jd,gb⟩;refine gv_alt [(8,bA 11 [0,1,2,3,4,5,6,7,8,9])] 1 kr kr ⟨?_,trivial⟩;refine clq enters85 (cq ak c z.2 none 0 (ro o) 1 (10,j.1,j.2.1,false,z.1,([]:List aW),([Pc.of m.1]:List Pc)) cw (fun k=>(fun _=>False) k∨(fun k=>aP (ro o)=some k∨a8 k) k) (fun k hk=>⟨(hk).elim (fun h=>h.elim) (fun h=>(fun k (hk:aP (ro o)=some k∨a8 k)=>hk.elim (fun h=>f7.lt k h) (fun h=>i9 k h)) k h),fun e=>(hk).elim (fun h=>((h:False).elim)) (fun h=>ja (e ▸ h))⟩) i8 ((cD bM cw (fun _=>False) none 0).wide (fun k hk=>(.inl hk))) ((f7.rd (Y:=fun k=>aP (ro o)=some k∨a8 k) (fun _ h=>.inr h) (fun g e=>.inl e)).wide (fun k hk=>(.inr hk))) K f1) ?_;rintro l6 ij ⟨ez,ik,il,eV,im,io,eW,rfl,je,eA,jf,eB,jh⟩;refine ⟨(fun _=>trivial),?_⟩;have ji:∀ k,eV k→k<ij.heap.size:=fun k hk=>(eA k hk).1;have jj:∀ k,eV k→X0 k∨r.heap.size≤k:=fun k hk=>(eA k hk).2.elim (fun h=>(h).elim (fun h=>h.elim) (fun h=>(fun k (hk:aP (ro o)=some k∨a8 k)=>hk.elim (fun h=>Or.inr (fJ k h)) (fun h=>f8 k h)) k h)) (fun h=>.inr (Nat.le_trans e5.size h));have jk:∀ k,eW k→k<ij.heap.size:=fun k hk=>(eB k hk).1;have jl:∀ k,eW k→X0 k∨r.heap.size≤k:=fun k hk=>(eB k hk).2.elim (fun h=>(h).elim (fun h=>h.elim) (fun h=>(fun k (hk:aP (ro o)=some k∨a8 k)=>hk.elim (fun h=>Or.inr (fJ k h)) (fun h=>f8 k h)) k h)) (fun h=>.inr (Nat.le_trans e5.size h));refine aa<|bf [0,2,7,36] (σ':=[(0,bp c),(2,bp q),(7,bp N),(36,.agg (bi K.1 ik il im io))]) kr<|au ?_;have jm:¬ eV q:=fun h=>((eA _ h).2.elim (fun h=>(h).elim (fun h=>by cases h) (fun h=>(ga) h)) (fun h=>nl h (e6.lt)));have jn:¬ eW q:=fun h=>((eB _ h).2.elim (fun h=>(h).elim (fun h=>by cases h) (fun h=>(ga) h)) (fun h=>nl h (e6.lt)));have jo:¬ eV N:=fun h=>((eA _ h).2.elim (fun h=>(h).elim (fun h=>by cases h) (fun h=>(gb) h)) (fun h=>nl h (e7.lt)));have jp:¬ eW N:=fun h=>((eB _ h).2.elim (fun h=>(h).elim (fun h=>by cases h) (fun h=>(gb) h)) (fun h=>nl h (e7.lt)));exact ig _ _ ⟨N,ik,il,eV,im,io,eW,rfl,(ai e5 ez bj),(nt i7 ez.size),jh,(e6.grown ez (aj (cL M bd))),(e7.grown ez (aj f9)),ii,je,ji,jj,jf,jk,jl,f9,jm,jn,jb,jc,jd,jo,jp⟩
       refine gv_shareA (fun σ dP=>∃ (o:Nat),∃ (a2:Nat→Prop),σ=[(0,bp c),(2,bp q),(28,bp c),(29,vI j.1),(30,vI j.2.1),(32,vB z.1),(34,vL (ro o) ([Pc.of m.1]:List Pc) 1)]∧r.grownBy dP (some c)∧Sz dU dP∧bb dP c 117 (cO z.2)∧bb dP q 25 dI∧aw pcE 25 dP a2 (ro o) 1 ([Pc.of m.1]:List Pc)∧(∀ k,a2 k→k<dP.heap.size)∧(Lo r (ro o))∧(∀ k,a2 k→X0 k∨r.heap.size≤k)∧(¬ (fun k=>aP (ro o)=some k∨a2 k) c)∧(¬ (fun k=>aP (ro o)=some k∨a2 k) q)∧(∀ g,aP (ro o)=some g→¬ (· =c) g)∧(∀ g,aP (ro o)=some g→¬ (· =q) g)) (bA 11 [0,1,2,3,4,5,6]) 4 ?_ fun ip=>?_
       ·rintro σ dP ⟨o,a2,rfl,d1,gc,eC,d2,ed,ee,eX,e8,gd,e9,jq,jr⟩;refine aR [7] (bA 11 [0,1,2,3,4,5,6,7]) 3 kr kr<|p1 35 (.agg #[vI 10,vI j.1,vI j.2.1,vB false,vB z.1,vL none ([]:List aW) 0,vL (ro o) ([Pc.of m.1]:List Pc) 1])<|aa<|au<|gv_alt [(8,bA 11 [0,1,2,3,4,5,6,7,8]),(9,bA 11 [0,1,2,3,4,5,6,7,9])] 2 kr kr ⟨?_,?_,trivial⟩
        ·refine clq enters85 (cq ak c z.2 none 0 (ro o) 1 (10,j.1,j.2.1,false,z.1,([]:List aW),([Pc.of m.1]:List Pc)) dP (fun k=>(fun _=>False) k∨(fun k=>aP (ro o)=some k∨a2 k) k) (fun k hk=>⟨(hk).elim (fun h=>h.elim) (fun h=>(fun k (hk:aP (ro o)=some k∨a2 k)=>hk.elim (fun h=>ed.lt k h) (fun h=>ee k h)) k h),fun e=>(hk).elim (fun h=>((h:False).elim)) (fun h=>gd (e ▸ h))⟩) eC ((cD bM dP (fun _=>False) none 0).wide (fun k hk=>(.inl hk))) ((ed.rd (Y:=fun k=>aP (ro o)=some k∨a2 k) (fun _ h=>.inr h) (fun g e=>.inl e)).wide (fun k hk=>(.inr hk))) K f1) ?_;rintro l7 iq ⟨ef,dL,dM,fa,dN,dO,fb,rfl,js,fc,jt,fd,ff⟩;refine ⟨(fun _=>trivial),?_⟩;have fg:∀ k,fa k→k<iq.heap.size:=fun k hk=>(fc k hk).1;have ju:∀ k,fa k→X0 k∨r.heap.size≤k:=fun k hk=>(fc k hk).2.elim (fun h=>(h).elim (fun h=>h.elim) (fun h=>(fun k (hk:aP (ro o)=some k∨a2 k)=>hk.elim (fun h=>Or.inr (eX k h)) (fun h=>e8 k h)) k h)) (fun h=>.inr (Nat.le_trans d1.size h));have fh:∀ k,fb k→k<iq.heap.size:=fun k hk=>(fd k hk).1;have jv:∀ k,fb k→X0 k∨r.heap.size≤k:=fun k hk=>(fd k hk).2.elim (fun h=>(h).elim (fun h=>h.elim) (fun h=>(fun k (hk:aP (ro o)=some k∨a2 k)=>hk.elim (fun h=>Or.inr (eX k h)) (fun h=>e8 k h)) k h)) (fun h=>.inr (Nat.le_trans d1.size h));refine aa<|au<|gv_alt [(9,bA 11 [0,1,2,3,4,5,6,7,8,9])] 1 kr kr ⟨?_,trivial⟩;refine dd bp dI 25 co rfl rfl kr kr ?_;intro an l8 b3 jw c1 lC;refine ⟨(fun _=>trivial),?_⟩;refine aa<|bf [0,2,7,36] (σ':=[(0,bp c),(2,bp q),(7,bp an),(36,.agg (bi K.1 dL dM dN dO))]) kr<|au ?_;have ge:=cL M bd;have ir:r.heap.size≤an:=bY c1 (ai d1 ef bj).size;have jx:¬ fa q:=fun h=>((fc _ h).2.elim (fun h=>(h).elim (fun h=>by cases h) (fun h=>(e9) h)) (fun h=>nl h (d2.lt)));have jy:¬ fb q:=fun h=>((fd _ h).2.elim (fun h=>(h).elim (fun h=>by cases h) (fun h=>(e9) h)) (fun h=>nl h (d2.lt)));have gf:=cg ((cd (d2.grown ef (aj ge))) _ rfl) ((bv c1) _ rfl);exact ig _ _ ⟨an,dL,dM,fa,dN,dO,fb,rfl,(ai (ai d1 ef bj) b3 nb),(nt (nt gc ef.size) b3.size),(ff.grown b3 nb),((d2.grown ef (aj ge)).grown b3 nb),jw,ir,(js.grown b3 fg nb),(aY fg b3.size),ju,(jt.grown b3 fh nb),(aY fh b3.size),jv,(cL c1 ff),jx,jy,Nat.ne_of_lt gf,(apH c1 ff),ng gf,(apF c1 fg),(apF c1 fh)⟩
        ·refine dd bp dI 25 co rfl rfl kr kr ?_;intro N l9 d3 jz c2 lD;refine ⟨(fun _=>trivial),?_⟩;refine aa<|bf [0,2,7,28,35] (σ':=[(0,bp c),(2,bp q),(7,bp N),(28,bp c),(35,.agg #[vI 10,vI j.1,vI j.2.1,vB false,vB z.1,vL none ([]:List aW) 0,vL (ro o) ([Pc.of m.1]:List Pc) 1])]) kr<|au ?_;have it:r.heap.size≤N:=bY c2 d1.size;have gg:=cg ((cd d2) _ rfl) ((bv c2) _ rfl);have jA:∀ g,aP (ro o)=some g→¬ (· =N) g:=fun g e hx=>nl ((bv c2) _ hx) ((fun k (hk:aP (ro o)=some k∨a2 k)=>hk.elim (fun h=>ed.lt k h) (fun h=>ee k h)) g (.inl e));have jB:¬ (fun k=>aP (ro o)=some k∨a2 k) N:=fun hx=>nl ((bv c2) _ rfl) ((fun k (hk:aP (ro o)=some k∨a2 k)=>hk.elim (fun h=>ed.lt k h) (fun h=>ee k h)) _ hx);exact ih _ _ ⟨N,o,a2,rfl,(ai d1 d3 nb),(nt gc d3.size),(eC.grown d3 nb),(d2.grown d3 nb),jz,it,(ed.grown d3 ee nb),(aY ee d3.size),eX,e8,gd,(cL c2 eC),e9,Nat.ne_of_lt gg,jq,jr,jA,(apH c2 eC),ng gg,jB⟩
       refine gv_shareA (fun σ dY=>∃ (y:Nat),∃ (O:Nat),∃ (dZ:Nat→Prop),σ=[(0,bp c),(2,bp q),(7,bp y),(28,bp c),(29,vI j.1),(30,vI j.2.1),(32,vB z.1),(34,vL (ro O) ([Pc.of m.1]:List Pc) 1)]∧r.grownBy dY (some c)∧Sz dU dY∧bb dY c 117 (cO z.2)∧bb dY q 25 dI∧bb dY y 25 dI∧r.heap.size≤y∧aw pcE 25 dY dZ (ro O) 1 ([Pc.of m.1]:List Pc)∧(∀ k,dZ k→k<dY.heap.size)∧(Lo r (ro O))∧(∀ k,dZ k→X0 k∨r.heap.size≤k)∧(¬ (· =y) c)∧(¬ (fun k=>aP (ro O)=some k∨dZ k) c)∧(¬ (· =y) q)∧(¬ (fun k=>aP (ro O)=some k∨dZ k) q)∧(¬ (· =c) y)∧(¬ (· =q) y)∧(¬ (fun k=>aP (ro O)=some k∨dZ k) y)∧(∀ g,aP (ro O)=some g→¬ (· =c) g)∧(∀ g,aP (ro O)=some g→¬ (· =q) g)∧(∀ g,aP (ro O)=some g→¬ (· =y) g)) (bA 11 [0,1,2,3,4,5,6,9]) 3 ?_ fun iu=>?_
       ·rintro σ dY ⟨y,O,dZ,rfl,jC,jD,jE,jF,jG,iv,jH,jI,iw,jJ,jK,jL,jM,jN,jO,jP,jQ,jR,jS,jT⟩;refine aR [7] (bA 11 [0,1,2,3,4,5,6,7,9]) 2 kr kr<|p1 35 (.agg #[vI 10,vI j.1,vI j.2.1,vB false,vB z.1,vL none ([]:List aW) 0,vL (ro O) ([Pc.of m.1]:List Pc) 1])<|aa<|bf [0,2,7,28,35] (σ':=[(0,bp c),(2,bp q),(7,bp y),(28,bp c),(35,.agg #[vI 10,vI j.1,vI j.2.1,vB false,vB z.1,vL none ([]:List aW) 0,vL (ro O) ([Pc.of m.1]:List Pc) 1])]) kr<|au ?_;exact ih _ _ ⟨y,O,dZ,rfl,jC,jD,jE,jF,jG,iv,jH,jI,iw,jJ,jL,jK,jN,jM,jR,jS,jT,jO,jP,jQ⟩
       refine gv_shareA (fun σ bn=>∃ (y:Nat),σ=[(0,bp c),(2,bp q),(7,bp y),(28,bp c),(29,vI j.1),(30,vI j.2.1),(32,vB z.1),(33,.agg (bi m.1 C D E F))]∧r.grownBy bn (some c)∧Sz dU bn∧bb bn c 117 (cO z.2)∧bb bn q 25 dI∧Rd bM bn P C D m.1.2.2.2.2.2.1∧(∀ k,P k→k<bn.heap.size)∧Rd pcE bn Q E F m.1.2.2.2.2.2.2∧(∀ k,Q k→k<bn.heap.size)∧bb bn y 25 dI∧r.heap.size≤y∧(¬ (· =y) c)∧(¬ (· =y) q)∧(¬ (· =c) y)∧(¬ (· =q) y)∧(¬ P y)∧(¬ Q y)) (bA 11 [0,1,2,3,4,5,9]) 4 ?_ fun fV=>?_
       ·rintro σ bn ⟨y,rfl,gh,jU,fi,fj,jV,fk,jW,fl,fm,ix,jX,jY,jZ,j0,j1,j2⟩;refine gv_alt [(6,bA 11 [0,1,2,3,4,5,6,9])] 3 kr kr ⟨?_,trivial⟩;refine dd (fun b=>.slice (ro b) 1 1) (bi m.1 C D E F) 25 co rfl rfl kr kr ?_;intro O iy b4 j3 ax lE;refine ⟨(fun _=>trivial),?_⟩;obtain ⟨eq,e⟩:∃ X:Nat→Prop,X=(fun k=>P k∨Q k):=⟨_,rfl⟩;have gi:∀ k,eq k→k<bn.heap.size:=fun k h=>by rw[e]at h;exact (h).elim (fun h=>fk k h) (fun h=>fl k h)
        have j4:∀ k,eq k→k<iy.heap.size:=fun k h=>cg (gi k h) b4.size;have j5:∀ k,eq k→X0 k∨r.heap.size≤k:=fun k h=>by rw[e]at h;exact (h).elim (fun h=>H k h) (fun h=>I k h)
        have j6:aw pcE 25 iy eq (ro O) 1 ([Pc.of m.1]:List Pc):=bJ j3 (by rw[e];exact ⟨[vI m.1.1,vI m.1.2.1,vI m.1.2.2.1,vB m.1.2.2.2.1,vB m.1.2.2.2.2.1,vL C m.1.2.2.2.2.2.1 D,vL E m.1.2.2.2.2.2.2 F],[],rfl,pc_mk7 ((jV.grown b4 fk nb).wide (fun _ h=>(.inl h))) ((jW.grown b4 fl nb).wide (fun _ h=>(.inr h))),rfl⟩) (show 1≤maxLen by decide) (fun h=>dC ax (gi _ h));have fn:∀ k,eq k→(fun k=>P k∨Q k) k:=fun k h=>by rw[e]at h;exact h
        clear e;have j7:Lo r (ro O):=dJ ax gh.size;have fK:r.heap.size≤q:=bY M eT.size;have lF:∀ g,aP (ro O)=some g→¬ P g:=fun g e hx=>nl (b8 ax g e) (fk _ hx);have lG:∀ g,aP (ro O)=some g→¬ Q g:=fun g e hx=>nl (b8 ax g e) (fl _ hx);refine aa<|bf [0,2,7,28,29,30,32,34] (σ':=[(0,bp c),(2,bp q),(7,bp y),(28,bp c),(29,vI j.1),(30,vI j.2.1),(32,vB z.1),(34,vL (ro O) ([Pc.of m.1]:List Pc) 1)]) kr<|au ?_;exact iu _ _ ⟨y,O,eq,rfl,(ai gh b4 nb),(nt jU b4.size),(fi.grown b4 nb),(fj.grown b4 nb),(fm.grown b4 nb),ix,j6,j4,j7,j5,jX,(apG (p:=c) ax fi (fun h=>(fn _ h).elim (xq H s w) (xq I s w))),jY,(apG (p:=q) ax fj (fun h=>(fn _ h).elim (apE dV (xlo fK s) L.lt) (apE dW (xlo fK s) L.lt))),jZ,j0,(apG (p:=y) ax fm (fun h=>(fn _ h).elim j1 j2)),(apD ax fi),(apD ax fj),(apD ax fm)⟩
       refine gv_shareA (fun σ cx=>σ=[(0,bp c),(2,bp q),(28,bp c),(29,vI j.1),(30,vI j.2.1),(32,vB z.1),(33,.agg (bi m.1 C D E F))]∧r.grownBy cx (some c)∧Sz dU cx∧bb cx c 117 (cO z.2)∧bb cx q 25 dI∧Rd bM cx P C D m.1.2.2.2.2.2.1∧(∀ k,P k→k<cx.heap.size)∧Rd pcE cx Q E F m.1.2.2.2.2.2.2∧(∀ k,Q k→k<cx.heap.size)) (bA 11 [0,1,2,3,4,5]) 5 ?_ fun iz=>?_
       ·rintro σ cx ⟨rfl,eD,gj,d4,eg,gk,d5,gl,d6⟩;refine gv_alt [(6,bA 11 [0,1,2,3,4,5,6]),(9,bA 11 [0,1,2,3,4,5,9])] 4 kr kr ⟨?_,?_,trivial⟩
        ·refine dd (fun b=>.slice (ro b) 1 1) (bi m.1 C D E F) 25 co rfl rfl kr kr ?_;intro o iA dQ j8 a7 lH;refine ⟨(fun _=>trivial),?_⟩;obtain ⟨er,e⟩:∃ X:Nat→Prop,X=(fun k=>P k∨Q k):=⟨_,rfl⟩;have gm:∀ k,er k→k<cx.heap.size:=fun k h=>by rw[e]at h;exact (h).elim (fun h=>d5 k h) (fun h=>d6 k h)
         have j9:∀ k,er k→k<iA.heap.size:=fun k h=>cg (gm k h) dQ.size;have ka:∀ k,er k→X0 k∨r.heap.size≤k:=fun k h=>by rw[e]at h;exact (h).elim (fun h=>H k h) (fun h=>I k h)
         have kb:aw pcE 25 iA er (ro o) 1 ([Pc.of m.1]:List Pc):=bJ j8 (by rw[e];exact ⟨[vI m.1.1,vI m.1.2.1,vI m.1.2.2.1,vB m.1.2.2.2.1,vB m.1.2.2.2.2.1,vL C m.1.2.2.2.2.2.1 D,vL E m.1.2.2.2.2.2.2 F],[],rfl,pc_mk7 ((gk.grown dQ d5 nb).wide (fun _ h=>(.inl h))) ((gl.grown dQ d6 nb).wide (fun _ h=>(.inr h))),rfl⟩) (show 1≤maxLen by decide) (fun h=>dC a7 (gm _ h));have gn:∀ k,er k→(fun k=>P k∨Q k) k:=fun k h=>by rw[e]at h;exact h
         clear e;have kc:Lo r (ro o):=dJ a7 eD.size;have fL:r.heap.size≤q:=bY M eT.size;have lI:∀ g,aP (ro o)=some g→¬ P g:=fun g e hx=>nl (b8 a7 g e) (d5 _ hx);have lJ:∀ g,aP (ro o)=some g→¬ Q g:=fun g e hx=>nl (b8 a7 g e) (d6 _ hx);refine aa<|bf [0,2,28,29,30,32,34] (σ':=[(0,bp c),(2,bp q),(28,bp c),(29,vI j.1),(30,vI j.2.1),(32,vB z.1),(34,vL (ro o) ([Pc.of m.1]:List Pc) 1)]) kr<|au ?_;exact ip _ _ ⟨o,er,rfl,(ai eD dQ nb),(nt gj dQ.size),(d4.grown dQ nb),(eg.grown dQ nb),kb,j9,kc,ka,(apG (p:=c) a7 d4 (fun h=>(gn _ h).elim (xq H s w) (xq I s w))),(apG (p:=q) a7 eg (fun h=>(gn _ h).elim (apE dV (xlo fL s) L.lt) (apE dW (xlo fL s) L.lt))),(apD a7 d4),(apD a7 eg)⟩
        ·refine dd bp dI 25 co rfl rfl kr kr ?_;intro y ma b5 kd c3 lK;refine ⟨(fun _=>trivial),?_⟩;refine aa<|bf [0,2,7,28,29,30,32,33] (σ':=[(0,bp c),(2,bp q),(7,bp y),(28,bp c),(29,vI j.1),(30,vI j.2.1),(32,vB z.1),(33,.agg (bi m.1 C D E F))]) kr<|au ?_;have iB:r.heap.size≤y:=bY c3 eD.size;have go:=cg ((cd eg) _ rfl) ((bv c3) _ rfl);exact fV _ _ ⟨y,rfl,(ai eD b5 nb),(nt gj b5.size),(d4.grown b5 nb),(eg.grown b5 nb),(gk.grown b5 d5 nb),(aY d5 b5.size),(gl.grown b5 d6 nb),(aY d6 b5.size),kd,iB,(cL c3 d4),Nat.ne_of_lt go,(apH c3 d4),ng go,(apF c3 d5),(apF c3 d6)⟩
       refine gv_shareA (fun σ bs=>∃ (T:Nat),σ=[(0,bp c),(2,bp q),(3,bp ah),(7,bp T),(28,bp c),(29,vI j.1),(30,vI j.2.1),(32,vB z.1)]∧r.grownBy bs (some c)∧Sz dU bs∧bb bs c 117 (cO z.2)∧bb bs q 25 dI∧Rd bM bs P C D m.1.2.2.2.2.2.1∧(∀ k,P k→k<bs.heap.size)∧Rd pcE bs Q E F m.1.2.2.2.2.2.2∧(∀ k,Q k→k<bs.heap.size)∧bb bs ah 25 (bi m.1 C D E F)∧bb bs T 25 dI∧r.heap.size≤T∧(¬ (· =T) c)∧(¬ (· =T) q)∧(¬ (· =T) ah)∧(¬ (· =c) T)∧(¬ (· =q) T)∧(¬ P T)∧(¬ Q T)∧(¬ (· =ah) T)) (bA 11 [0,1,2,3,4,9]) 5 ?_ fun iC=>?_
       ·rintro σ bs ⟨T,rfl,ke,kf,kg,kh,ki,kj,kk,kl,km,kn,iD,ko,kp,lL,kq,ks,kt,ku,lM⟩;refine gv_alt [(5,bA 11 [0,1,2,3,4,5,9])] 4 kr kr ⟨?_,trivial⟩;refine gv_loadBox (t:=25) (b:=ah) (t':=25) (fr:=(0,0)) (bi m.1 C D E F) [] (fun _=>trivial) rfl rfl rfl kr kr kr kr (inwF km) rfl ?_;refine aa<|bf [0,2,7,28,29,30,32,33] (σ':=[(0,bp c),(2,bp q),(7,bp T),(28,bp c),(29,vI j.1),(30,vI j.2.1),(32,vB z.1),(33,.agg (bi m.1 C D E F))]) kr<|au ?_;exact fV _ _ ⟨T,rfl,ke,kf,kg,kh,ki,kj,kk,kl,kn,iD,ko,kp,kq,ks,kt,ku⟩
       refine gv_shareA (fun σ dR=>∃ (U:Nat),∃ (G:Nat),∃ (d0:Nat→Prop),σ=[(0,bp c),(2,bp q),(7,bp U),(28,bp c),(29,vI j.1),(30,vI j.2.1),(31,bp c),(34,vL (ro G) ([Pc.of m.1]:List Pc) 1)]∧r.grownBy dR (some c)∧Sz dU dR∧bb dR c 117 (cO j.2.2.2)∧bb dR q 25 dI∧bb dR U 25 dI∧r.heap.size≤U∧aw pcE 25 dR d0 (ro G) 1 ([Pc.of m.1]:List Pc)∧(∀ k,d0 k→k<dR.heap.size)∧(Lo r (ro G))∧(∀ k,d0 k→X0 k∨r.heap.size≤k)∧(¬ (fun k=>aP (ro G)=some k∨d0 k) c)∧(¬ (· =U) c)∧(¬ (fun k=>aP (ro G)=some k∨d0 k) q)∧(¬ (· =U) q)∧(∀ g,aP (ro G)=some g→¬ (· =c) g)∧(∀ g,aP (ro G)=some g→¬ (· =q) g)∧(∀ g,aP (ro G)=some g→¬ (· =U) g)∧(¬ (· =c) U)∧(¬ (· =q) U)∧(¬ (fun k=>aP (ro G)=some k∨d0 k) U)) (bA 11 [0,1,2,3,5,6,9]) 4 ?_ fun iF=>?_
       ·rintro σ dR ⟨U,G,d0,rfl,kv,kw,kx,ky,kz,iG,kA,gp,iH,kB,gq,gr,kC,kD,kE,kF,kG,kH,kI,kJ⟩;refine gv_alt [(4,bA 11 [0,1,2,3,4,5,6,9])] 3 kr kr ⟨?_,trivial⟩;refine clq cl (aZ ak c j.2.2.2 (bu [63]) dR kx z ep) ?_;rintro mb mc ⟨d7,rfl,kK⟩;refine ⟨(fun _=>trivial),?_⟩;refine aa<|bf [0,2,7,28,29,30,32,34] (σ':=[(0,bp c),(2,bp q),(7,bp U),(28,bp c),(29,vI j.1),(30,vI j.2.1),(32,vB z.1),(34,vL (ro G) ([Pc.of m.1]:List Pc) 1)]) kr<|au ?_;exact iu _ _ ⟨U,G,d0,rfl,(ai kv d7 bj),(nt kw d7.size),kK,(ky.grown d7 (aj (cL M bd))),(kz.grown d7 (aj gr)),iG,(kA.grown d7 gp (rdnx (aj gq))),(aY gp d7.size),iH,kB,gr,gq,kD,kC,kH,kI,kJ,kE,kF,kG⟩
       refine gv_shareA (fun σ a9=>∃ (R:Nat),σ=[(0,bp c),(2,bp q),(7,bp R),(28,bp c),(29,vI j.1),(30,vI j.2.1),(31,bp c),(33,.agg (bi m.1 C D E F))]∧r.grownBy a9 (some c)∧Sz dU a9∧bb a9 c 117 (cO j.2.2.2)∧bb a9 q 25 dI∧Rd bM a9 P C D m.1.2.2.2.2.2.1∧(∀ k,P k→k<a9.heap.size)∧Rd pcE a9 Q E F m.1.2.2.2.2.2.2∧(∀ k,Q k→k<a9.heap.size)∧bb a9 R 25 dI∧r.heap.size≤R∧(¬ (· =R) c)∧(¬ (· =R) q)∧(¬ (· =c) R)∧(¬ (· =q) R)∧(¬ P R)∧(¬ Q R)) (bA 11 [0,1,2,3,5,9]) 5 ?_ fun iI=>?_
       ·rintro σ a9 ⟨R,rfl,fo,gs,eE,eF,gt,eh,gu,ei,eG,fM,fp,gv,gw,gx,gy,gz⟩;refine gv_alt [(4,bA 11 [0,1,2,3,4,5,9]),(6,bA 11 [0,1,2,3,5,6,9])] 4 kr kr ⟨?_,?_,trivial⟩
        ·refine clq cl (aZ ak c j.2.2.2 (bu [63]) a9 eE z ep) ?_;rintro md me ⟨b7,rfl,kL⟩;refine ⟨(fun _=>trivial),?_⟩;refine aa<|bf [0,2,7,28,29,30,32,33] (σ':=[(0,bp c),(2,bp q),(7,bp R),(28,bp c),(29,vI j.1),(30,vI j.2.1),(32,vB z.1),(33,.agg (bi m.1 C D E F))]) kr<|au ?_;exact fV _ _ ⟨R,rfl,(ai fo b7 bj),(nt gs b7.size),kL,(eF.grown b7 (aj (cL M bd))),(gt.grown b7 eh (aj (xq H s w))),(aY eh b7.size),(gu.grown b7 ei (aj (xq I s w))),(aY ei b7.size),(eG.grown b7 (aj fp)),fM,fp,gv,gw,gx,gy,gz⟩
        ·refine dd (fun b=>.slice (ro b) 1 1) (bi m.1 C D E F) 25 co rfl rfl kr kr ?_;intro es iJ ca kM a0 lN;refine ⟨(fun _=>trivial),?_⟩;obtain ⟨et,e⟩:∃ X:Nat→Prop,X=(fun k=>P k∨Q k):=⟨_,rfl⟩;have gA:∀ k,et k→k<a9.heap.size:=fun k h=>by rw[e]at h;exact (h).elim (fun h=>eh k h) (fun h=>ei k h)
         have kN:∀ k,et k→k<iJ.heap.size:=fun k h=>cg (gA k h) ca.size;have kO:∀ k,et k→X0 k∨r.heap.size≤k:=fun k h=>by rw[e]at h;exact (h).elim (fun h=>H k h) (fun h=>I k h)
         have kP:aw pcE 25 iJ et (ro es) 1 ([Pc.of m.1]:List Pc):=bJ kM (by rw[e];exact ⟨[vI m.1.1,vI m.1.2.1,vI m.1.2.2.1,vB m.1.2.2.2.1,vB m.1.2.2.2.2.1,vL C m.1.2.2.2.2.2.1 D,vL E m.1.2.2.2.2.2.2 F],[],rfl,pc_mk7 ((gt.grown ca eh nb).wide (fun _ h=>(.inl h))) ((gu.grown ca ei nb).wide (fun _ h=>(.inr h))),rfl⟩) (show 1≤maxLen by decide) (fun h=>dC a0 (gA _ h));have fq:∀ k,et k→(fun k=>P k∨Q k) k:=fun k h=>by rw[e]at h;exact h
         clear e;have kQ:Lo r (ro es):=dJ a0 fo.size;have fN:r.heap.size≤q:=bY M eT.size;have lO:∀ g,aP (ro es)=some g→¬ P g:=fun g e hx=>nl (b8 a0 g e) (eh _ hx);have lP:∀ g,aP (ro es)=some g→¬ Q g:=fun g e hx=>nl (b8 a0 g e) (ei _ hx);refine aa<|bf [0,2,7,28,29,30,31,34] (σ':=[(0,bp c),(2,bp q),(7,bp R),(28,bp c),(29,vI j.1),(30,vI j.2.1),(31,bp c),(34,vL (ro es) ([Pc.of m.1]:List Pc) 1)]) kr<|au ?_;exact iF _ _ ⟨R,es,et,rfl,(ai fo ca nb),(nt gs ca.size),(eE.grown ca nb),(eF.grown ca nb),(eG.grown ca nb),fM,kP,kN,kQ,kO,(apG (p:=c) a0 eE (fun h=>(fq _ h).elim (xq H s w) (xq I s w))),fp,(apG (p:=q) a0 eF (fun h=>(fq _ h).elim (apE dV (xlo fN s) L.lt) (apE dW (xlo fN s) L.lt))),gv,(apD a0 eE),(apD a0 eF),(apD a0 eG),gw,gx,(apG (p:=R) a0 eG (fun h=>(fq _ h).elim gy gz))⟩
       refine aR [0,1,2,3] (bA 11 [0,1,2,3]) 7 kr kr<|pN 4 [28,29,30,31] [(28,bp c),(29,vI j.1),(30,vI j.2.1),(31,bp c)]<|aa<|au<|gv_alt [(4,bA 11 [0,1,2,3,4]),(5,bA 11 [0,1,2,3,5]),(9,bA 11 [0,1,2,3,9])] 6 kr kr ⟨?_,?_,?_,trivial⟩
       ·refine clq cl (aZ ak c j.2.2.2 (bu [63]) dU (bl.grown l nb) z ep) ?_;rintro mt mu ⟨V,rfl,fs⟩;refine ⟨(fun _=>trivial),?_⟩;refine aa<|au<|gv_alt [(5,bA 11 [0,1,2,3,4,5]),(9,bA 11 [0,1,2,3,4,9])] 5 kr kr ⟨?_,?_,trivial⟩
        ·refine gv_loadBox (t:=25) (b:=ah) (t':=25) (fr:=(0,0)) (bi m.1 C D E F) [] (fun _=>trivial) rfl rfl rfl kr kr kr kr (inwF ((ck.grown l nb).grown V (aj eo))) rfl ?_;refine aa<|bf [0,2,28,29,30,32,33] (σ':=[(0,bp c),(2,bp q),(28,bp c),(29,vI j.1),(30,vI j.2.1),(32,vB z.1),(33,.agg (bi m.1 C D E F))]) kr<|au ?_;have iK:r.heap.size≤ah:=bY n (ai Z x bj).size;have eH:=cL M bd;have gB:=aY A f.size;have gC:=aY gB i.size;have gD:=aY gC d.size;have gE:=aY gD l.size;have gF:=aY B f.size;have gG:=aY gF i.size;have gH:=aY gG d.size;have gI:=aY gH l.size;exact iz _ _ ⟨rfl,(ai (ai (ai (ai (ai (ai Z x bj) f nb) i (cI iK)) d bj) l nb) V bj),V.size,fs,((((((L.grown x (aj eH)).grown f nb).grown i (aj (ng (cg ((cd (L.grown x (aj eH))) _ rfl) ((bv n) _ rfl))))).grown d (aj eH)).grown l nb).grown V (aj eH)),(((((c9.grown f A nb).grown i gB (aj (apF n A))).grown d gC (aj (xq H s w))).grown l gD nb).grown V gE (aj (xq H s w))),(aY gE V.size),(((((ds.grown f B nb).grown i gF (aj (apF n B))).grown d gG (aj (xq I s w))).grown l gH nb).grown V gI (aj (xq I s w))),(aY gI V.size)⟩
        ·refine dd bp dI 25 co rfl rfl kr kr ?_;intro T mf be kR c4 lQ;refine ⟨(fun _=>trivial),?_⟩;refine aa<|bf [0,2,3,7,28,29,30,32] (σ':=[(0,bp c),(2,bp q),(3,bp ah),(7,bp T),(28,bp c),(29,vI j.1),(30,vI j.2.1),(32,vB z.1)]) kr<|au ?_;have gJ:=ai Z x bj;have fO:r.heap.size≤ah:=bY n gJ.size;have eI:=cL M bd;have gK:=cg ((cd (L.grown x (aj eI))) _ rfl) ((bv n) _ rfl);have gL:=aY A f.size;have gM:=aY gL i.size;have gN:=aY gM d.size;have gO:=aY gN l.size;have ft:=aY gO V.size;have gP:=aY B f.size;have gQ:=aY gP i.size;have gR:=aY gQ d.size;have gS:=aY gR l.size;have fu:=aY gS V.size;have iL:r.heap.size≤T:=bY c4 (ai (ai (ai (ai (ai gJ f nb) i (cI fO)) d bj) l nb) V bj).size;have fv:=cg ((cd ((ck.grown l nb).grown V (aj eo))) _ rfl) ((bv c4) _ rfl);have gT:=cC gK fv;exact iC _ _ ⟨T,rfl,(ai (ai (ai (ai (ai (ai (ai Z x bj) f nb) i (cI fO)) d bj) l nb) V bj) be nb),(nt V.size be.size),(fs.grown be nb),(((((((L.grown x (aj eI)).grown f nb).grown i (aj (ng gK))).grown d (aj eI)).grown l nb).grown V (aj eI)).grown be nb),((((((c9.grown f A nb).grown i gL (aj (apF n A))).grown d gM (aj (xq H s w))).grown l gN nb).grown V gO (aj (xq H s w))).grown be ft nb),(aY ft be.size),((((((ds.grown f B nb).grown i gP (aj (apF n B))).grown d gQ (aj (xq I s w))).grown l gR nb).grown V gS (aj (xq I s w))).grown be fu nb),(aY fu be.size),(((ck.grown l nb).grown V (aj eo)).grown be nb),kR,iL,(cL c4 fs),Nat.ne_of_lt gT,Nat.ne_of_lt fv,(apH c4 fs),ng gT,(apF c4 ft),(apF c4 fu),ng fv⟩
       ·have ej:=ck.grown l nb;refine gv_loadBox (t:=25) (b:=ah) (t':=25) (fr:=(0,0)) (bi m.1 C D E F) [] (fun _=>trivial) rfl rfl rfl kr kr kr kr (inwF ej) rfl ?_;refine aa<|au<|gv_alt [(4,bA 11 [0,1,2,3,4,5]),(6,bA 11 [0,1,2,3,5,6]),(9,bA 11 [0,1,2,3,5,9])] 5 kr kr ⟨?_,?_,?_,trivial⟩
        ·refine clq cl (aZ ak c j.2.2.2 (bu [63]) dU (bl.grown l nb) z ep) ?_;rintro mg mh ⟨dS,rfl,kS⟩;refine ⟨(fun _=>trivial),?_⟩;refine aa<|bf [0,2,28,29,30,32,33] (σ':=[(0,bp c),(2,bp q),(28,bp c),(29,vI j.1),(30,vI j.2.1),(32,vB z.1),(33,.agg (bi m.1 C D E F))]) kr<|au ?_;have iM:r.heap.size≤ah:=bY n (ai Z x bj).size;have eJ:=cL M bd;have gU:=aY A f.size;have gV:=aY gU i.size;have gW:=aY gV d.size;have gX:=aY gW l.size;have gY:=aY B f.size;have gZ:=aY gY i.size;have g0:=aY gZ d.size;have g1:=aY g0 l.size;exact iz _ _ ⟨rfl,(ai (ai (ai (ai (ai (ai Z x bj) f nb) i (cI iM)) d bj) l nb) dS bj),dS.size,kS,((((((L.grown x (aj eJ)).grown f nb).grown i (aj (ng (cg ((cd (L.grown x (aj eJ))) _ rfl) ((bv n) _ rfl))))).grown d (aj eJ)).grown l nb).grown dS (aj eJ)),(((((c9.grown f A nb).grown i gU (aj (apF n A))).grown d gV (aj (xq H s w))).grown l gW nb).grown dS gX (aj (xq H s w))),(aY gX dS.size),(((((ds.grown f B nb).grown i gY (aj (apF n B))).grown d gZ (aj (xq I s w))).grown l g0 nb).grown dS g1 (aj (xq I s w))),(aY g1 dS.size)⟩
        ·refine dd (fun b=>.slice (ro b) 1 1) (bi m.1 C D E F) 25 co rfl rfl kr kr ?_;intro G fW a3 kT a1 lR;refine ⟨(fun _=>trivial),?_⟩;obtain ⟨c0,e⟩:∃ X:Nat→Prop,X=(fun k=>P k∨Q k):=⟨_,rfl⟩;have g2:=aY (aY (aY (aY A f.size) i.size) d.size) l.size;have g3:=aY (aY (aY (aY B f.size) i.size) d.size) l.size;have g4:∀ k,c0 k→k<dU.heap.size:=fun k h=>by rw[e]at h;exact (h).elim (fun h=>g2 k h) (fun h=>g3 k h)
         have d8:∀ k,c0 k→k<fW.heap.size:=fun k h=>cg (g4 k h) a3.size;have g5:∀ k,c0 k→X0 k∨r.heap.size≤k:=fun k h=>by rw[e]at h;exact (h).elim (fun h=>H k h) (fun h=>I k h)
         have g6:=apF n A;have g7:=aY A f.size;have g8:=aY g7 i.size;have g9:=(ab l a3);have ha:=apF n B;have hb:=aY B f.size;have hc:=aY hb i.size;have eK:aw pcE 25 fW c0 (ro G) 1 ([Pc.of m.1]:List Pc):=bJ kT (by rw[e];exact ⟨[vI m.1.1,vI m.1.2.1,vI m.1.2.2.1,vB m.1.2.2.2.1,vB m.1.2.2.2.2.1,vL C m.1.2.2.2.2.2.1 D,vL E m.1.2.2.2.2.2.2 F],[],rfl,pc_mk7 (((((c9.grown f A nb).grown i g7 (aj g6)).grown d g8 (aj (xq H s w))).grown g9 (aY g8 d.size) nb).wide (fun _ h=>(.inl h))) (((((ds.grown f B nb).grown i hb (aj ha)).grown d hc (aj (xq I s w))).grown g9 (aY hc d.size) nb).wide (fun _ h=>(.inr h))),rfl⟩) (show 1≤maxLen by decide) (fun h=>dC a1 (g4 _ h));have fw:∀ k,c0 k→(fun k=>P k∨Q k) k:=fun k h=>by rw[e]at h;exact h
         clear e;have iN:r.heap.size≤ah:=bY n (ai Z x bj).size;have eL:=ai (ai (ai (ai (ai Z x bj) f nb) i (cI iN)) d bj) l nb;have he:Lo r (ro G):=dJ a1 eL.size;have ek:=bl.grown l nb;have hf:=apD a1 ek;have fx:=apG (p:=c) a1 ek (fun h=>(fw _ h).elim (xq H s w) (xq I s w));have eM:=cL M bd;have hg:=cg ((cd (L.grown x (aj eM))) _ rfl) ((bv n) _ rfl);have eN:=((((L.grown x (aj eM)).grown f nb).grown i (aj (ng hg))).grown d (aj eM)).grown l nb;have hh:=apD a1 eN;have fP:r.heap.size≤q:=bY M eT.size;have hi:=apG (p:=q) a1 eN (fun h=>(fw _ h).elim (apE dV (xlo fP s) L.lt) (apE dW (xlo fP s) L.lt));have lS:∀ g,aP (ro G)=some g→¬ P g:=fun g e hx=>nl (b8 a1 g e) (g2 _ hx);have lT:∀ g,aP (ro G)=some g→¬ Q g:=fun g e hx=>nl (b8 a1 g e) (g3 _ hx);have lU:=apD a1 ej;have lV:=apG (p:=ah) a1 ej (fun h=>(fw _ h).elim g6 ha);refine aa<|au<|gv_alt [(4,bA 11 [0,1,2,3,4,5,6]),(9,bA 11 [0,1,2,3,5,6,9])] 4 kr kr ⟨?_,?_,trivial⟩
         ·refine clq cl (aZ ak c j.2.2.2 (bu [63]) fW (ek.grown a3 nb) z ep) ?_;rintro mi mj ⟨el,rfl,kU⟩;refine ⟨(fun _=>trivial),?_⟩;refine aa<|bf [0,2,28,29,30,32,34] (σ':=[(0,bp c),(2,bp q),(28,bp c),(29,vI j.1),(30,vI j.2.1),(32,vB z.1),(34,vL (ro G) ([Pc.of m.1]:List Pc) 1)]) kr<|au ?_;exact ip _ _ ⟨G,c0,rfl,(ai (ai eL a3 nb) el bj),(nt a3.size el.size),kU,((eN.grown a3 nb).grown el (aj eM)),(eK.grown el d8 (rdnx (aj fx))),(aY d8 el.size),he,g5,fx,hi,hf,hh⟩
         ·refine dd bp dI 25 co rfl rfl kr kr ?_;intro U mk eO kV c5 lW;refine ⟨(fun _=>trivial),?_⟩;refine aa<|bf [0,2,7,28,29,30,31,34] (σ':=[(0,bp c),(2,bp q),(7,bp U),(28,bp c),(29,vI j.1),(30,vI j.2.1),(31,bp c),(34,vL (ro G) ([Pc.of m.1]:List Pc) 1)]) kr<|au ?_;have fy:=(ab a3 eO);have iO:r.heap.size≤U:=bY c5 (ai eL a3 nb).size;have hj:=ek.grown a3 nb;have hl:=cC hg (cg ((cd (ej.grown a3 nb)) _ rfl) ((bv c5) _ rfl));have kW:∀ g,aP (ro G)=some g→¬ (· =U) g:=fun g e hx=>nl ((bv c5) _ hx) ((fun k (hk:aP (ro G)=some k∨c0 k)=>hk.elim (fun h=>eK.lt k h) (fun h=>d8 k h)) g (.inl e));have kX:¬ (fun k=>aP (ro G)=some k∨c0 k) U:=fun hx=>nl ((bv c5) _ rfl) ((fun k (hk:aP (ro G)=some k∨c0 k)=>hk.elim (fun h=>eK.lt k h) (fun h=>d8 k h)) _ hx);exact iF _ _ ⟨U,G,c0,rfl,(ai eL fy nb),(nt a3.size eO.size),(ek.grown fy nb),(eN.grown fy nb),kV,iO,(eK.grown eO d8 nb),(aY d8 eO.size),he,g5,fx,(cL c5 hj),hi,Nat.ne_of_lt hl,hf,hh,kW,(apH c5 hj),ng hl,kX⟩
        ·refine dd bp dI 25 co rfl rfl kr kr ?_;intro R ml hm kY c7 lX;refine ⟨(fun _=>trivial),?_⟩;refine aa<|bf [0,2,7,28,29,30,31,33] (σ':=[(0,bp c),(2,bp q),(7,bp R),(28,bp c),(29,vI j.1),(30,vI j.2.1),(31,bp c),(33,.agg (bi m.1 C D E F))]) kr<|au ?_;have hn:=ai Z x bj;have fQ:r.heap.size≤ah:=bY n hn.size;have dT:=(ab l hm);have fz:=cL M bd;have ho:=cg ((cd (L.grown x (aj fz))) _ rfl) ((bv n) _ rfl);have hp:=aY A f.size;have hq:=aY hp i.size;have fA:=aY hq d.size;have hr:=aY B f.size;have ht:=aY hr i.size;have fB:=aY ht d.size;have iP:r.heap.size≤R:=bY c7 (ai (ai (ai (ai hn f nb) i (cI fQ)) d bj) l nb).size;have hv:=bl.grown l nb;have hw:=cC ho (cg ((cd ej) _ rfl) ((bv c7) _ rfl));exact iI _ _ ⟨R,rfl,(ai (ai (ai (ai (ai Z x bj) f nb) i (cI fQ)) d bj) dT nb),hm.size,(bl.grown dT nb),(((((L.grown x (aj fz)).grown f nb).grown i (aj (ng ho))).grown d (aj fz)).grown dT nb),((((c9.grown f A nb).grown i hp (aj (apF n A))).grown d hq (aj (xq H s w))).grown dT fA nb),(aY fA dT.size),((((ds.grown f B nb).grown i hr (aj (apF n B))).grown d ht (aj (xq I s w))).grown dT fB nb),(aY fB dT.size),kY,iP,(cL c7 hv),Nat.ne_of_lt hw,(apH c7 hv),ng hw,(apF c7 (aY fA l.size)),(apF c7 (aY fB l.size))⟩
       ·refine dd bp dI 25 co rfl rfl kr kr ?_;intro eu li eP hy S lY;refine ⟨(fun _=>trivial),?_⟩;refine aa<|au<|gv_alt [(4,bA 11 [0,1,2,3,4,9]),(5,bA 11 [0,1,2,3,5,9])] 5 kr kr ⟨?_,?_,trivial⟩
        ·have cb:=(ab l eP);refine clq cl (aZ ak c j.2.2.2 (bu [63]) li (bl.grown cb nb) z ep) ?_;rintro mm mn ⟨bg,rfl,kZ⟩;refine ⟨(fun _=>trivial),?_⟩;refine aa<|bf [0,2,3,7,28,29,30,32] (σ':=[(0,bp c),(2,bp q),(3,bp ah),(7,bp eu),(28,bp c),(29,vI j.1),(30,vI j.2.1),(32,vB z.1)]) kr<|au ?_;have hz:=ai Z x bj;have fR:r.heap.size≤ah:=bY n hz.size;have eQ:=cL M bd;have hA:=cg ((cd (L.grown x (aj eQ))) _ rfl) ((bv n) _ rfl);have hB:=aY A f.size;have hC:=aY hB i.size;have fC:=aY hC d.size;have hD:=aY fC cb.size;have hE:=aY B f.size;have hF:=aY hE i.size;have fD:=aY hF d.size;have hG:=aY fD cb.size;have hH:=bl.grown l nb;have hI:=cL S hH;have iQ:r.heap.size≤eu:=bY S (ai (ai (ai (ai hz f nb) i (cI fR)) d bj) l nb).size;have fE:=cg ((cd (ck.grown l nb)) _ rfl) ((bv S) _ rfl);have hJ:=cC hA fE;exact iC _ _ ⟨eu,rfl,(ai (ai (ai (ai (ai (ai Z x bj) f nb) i (cI fR)) d bj) cb nb) bg bj),(nt eP.size bg.size),kZ,((((((L.grown x (aj eQ)).grown f nb).grown i (aj (ng hA))).grown d (aj eQ)).grown cb nb).grown bg (aj eQ)),(((((c9.grown f A nb).grown i hB (aj (apF n A))).grown d hC (aj (xq H s w))).grown cb fC nb).grown bg hD (aj (xq H s w))),(aY hD bg.size),(((((ds.grown f B nb).grown i hE (aj (apF n B))).grown d hF (aj (xq I s w))).grown cb fD nb).grown bg hG (aj (xq I s w))),(aY hG bg.size),((ck.grown cb nb).grown bg (aj eo)),(hy.grown bg (aj hI)),iQ,hI,Nat.ne_of_lt hJ,Nat.ne_of_lt fE,(apH S hH),ng hJ,(apF S (aY fC l.size)),(apF S (aY fD l.size)),ng fE⟩
        ·have cc:=(ab l eP);refine gv_loadBox (t:=25) (b:=ah) (t':=25) (fr:=(0,0)) (bi m.1 C D E F) [] (fun _=>trivial) rfl rfl rfl kr kr kr kr (inwF (ck.grown cc nb)) rfl ?_;refine aa<|bf [0,2,7,28,29,30,31,33] (σ':=[(0,bp c),(2,bp q),(7,bp eu),(28,bp c),(29,vI j.1),(30,vI j.2.1),(31,bp c),(33,.agg (bi m.1 C D E F))]) kr<|au ?_;have hK:=ai Z x bj;have fS:r.heap.size≤ah:=bY n hK.size;have fF:=cL M bd;have hL:=cg ((cd (L.grown x (aj fF))) _ rfl) ((bv n) _ rfl);have hM:=aY A f.size;have hN:=aY hM i.size;have fG:=aY hN d.size;have hO:=aY B f.size;have hP:=aY hO i.size;have fH:=aY hP d.size;have iR:r.heap.size≤eu:=bY S (ai (ai (ai (ai hK f nb) i (cI fS)) d bj) l nb).size;have hQ:=bl.grown l nb;have hR:=cC hL (cg ((cd (ck.grown l nb)) _ rfl) ((bv S) _ rfl));exact iI _ _ ⟨eu,rfl,(ai (ai (ai (ai (ai Z x bj) f nb) i (cI fS)) d bj) cc nb),eP.size,(bl.grown cc nb),(((((L.grown x (aj fF)).grown f nb).grown i (aj (ng hL))).grown d (aj fF)).grown cc nb),((((c9.grown f A nb).grown i hM (aj (apF n A))).grown d hN (aj (xq H s w))).grown cc fG nb),(aY fG cc.size),((((ds.grown f B nb).grown i hO (aj (apF n B))).grown d hP (aj (xq I s w))).grown cc fH nb),(aY fH cc.size),hy,iR,(cL S hQ),Nat.ne_of_lt hR,(apH S hQ),ng hR,(apF S (aY fG l.size)),(apF S (aY fH l.size))⟩
      ·rintro a dX ⟨eY,eZ,lj,e0,e1,lk,b0,k0,k1,k2,hS,k3,k4,hT,k5,k6,lZ,k7,l0,l1,hU,k8,k9,lu,hd,hs,al⟩;refine aM ?_ hd hs al;clear k1 e4 id ic ib ck eo h4 bl d h3 lg fT i lf n h2 f I B H A eU dW ds dV c9 x Z ld lp L hZ;refine aH<|aJ<|p1 37 (bp c)<|ag W ?_;intro ll la W;refine aq kr rfl kr enters106 (cV ak c ec.1 (bu [42,43,63,123]) dX hU ll la) ?_;rintro mo mp ⟨ch,rfl⟩;refine aa<|bw W (fun lb W=>?_) (fun lb W=>?_)
       ·cases W
       ·refine aA<|aJ<|cJ 25 b0 (bi ec.2 eY eZ e0 e1) (bB (k9.grown ch nb))<|aG 25 0 (.agg (bi ec.2 eY eZ e0 e1)) (bi ec.2 eY eZ e0 e1) (k8.grown ch nb) kr kr kr ?_;intro lm d9 lc l2;refine aa<|am ?_
        obtain rfl:=sj W;refine av (ao [.agg (bi ec.2 eY eZ e0 e1)] rfl ⟨⟨⟨q,0,none⟩,kr,run_loadVar_row lm q _ 25 _ _ _ lc b9 rfl kr⟩,trivial⟩ ?_);have iS:r.heap.size≤q:=bY M eT.size;have hV:=aY hS ch.size;have hW:=aY hT ch.size;exact ⟨(ai (ai k0 ch nb) d9 (cI iS)),eY,eZ,lj,e0,e1,lk,rfl,((k2.grown ch hS nb).grown d9 hV (aj k6)),sxq (aY hV d9.size) k3,((k4.grown ch hT nb).grown d9 hW (aj k7)),sxq (aY hW d9.size) k5,((hU.grown ch nb).grown d9 (aj (apH M bd)))⟩
set_option maxHeartbeats 4000000 in
set_option maxRecDepth 100000 in
theorem regex_parser_atom_step (ak:Nat) (o:gC56 ak) (A:gC83 ak) (B:gC107 ak) (D:gC127 ak) (g:gC150 ak) (b:Nat) (b3:di) (j:World) (l:Nat→Prop) (m:∀ k,l k→k<j.heap.size∧k≠b) (C:bb j b 117 (cO b3)) (d3:Rd bE j l (ro 0) 256 cp) (d4:Rd (prE (iE .u8) (iE .u8)) j l (ro 1) 16 cN) (r0:cr × di) (a:regex_parser_atom (ak+1) b3=some r0):
    Cs 127 [bp b] j (dH fun v w'=>j.grownBy w' (some b)∧∃ (bc:bh) (bq:Nat),∃ (a1:Nat→Prop),∃ (a2:bh) (a3:Nat),∃ (a4:Nat→Prop),v=dF [.agg (bi r0.1 bc bq a2 a3)]∧Rd bM w' a1 bc bq r0.1.2.2.2.2.2.1∧(Sxb a1 w' l j)∧Rd pcE w' a4 a2 a3 r0.1.2.2.2.2.2.2∧(Sxb a4 w' l j)∧bb w' b 117 (cO r0.2)):=by
 have a5:j.grownBy j (some b):=cu _ _;rw[regex_parser_atom.eq_2]at a;refine aK Tryz.func127 rfl Tryz.ntmps127 kr ?_;refine bP [(0,bp b)] ?_;have eL:=C.lt;refine aJ<|aD bp dI 25 kr kr ?_
 intro n w2 b5 a6 p eW;refine cn<|aI<|aJ<|p1 4 (bp b)<|ag a ?_;intro r7 eC a;refine aq kr rfl kr cl (aZ ak b b3 (bu [40,63,58]) w2 (C.grown b5 nb) r7 eC) ?_;rintro eX eD ⟨q,rfl,d7⟩;refine p1 3 (vB r7.1)<|aa<|bw a (fun d8 a=>?_) (fun d8 a=>?_)
 ·cases a
 ·refine aJ<|p1 10 (bp b)<|ag a ?_;intro b7 d9 a;refine aq kr rfl kr cl (aZ ak b r7.2 (bu [40,63,61]) eD d7 b7 d9) ?_;rintro eY eE ⟨r,rfl,ea⟩;refine p1 9 (vB b7.1)<|aa<|bw a (fun eb a=>?_) (fun eb a=>?_)
  ·cases a
  ·refine aJ<|p1 16 (bp b)<|ag a ?_;intro ca ec a;refine aq kr rfl kr cl (aZ ak b b7.2 (bu [40,63,33]) eE ea ca ec) ?_;rintro eZ eF ⟨s,rfl,ed⟩;refine p1 15 (vB ca.1)<|aa<|bw a (fun ee a=>?_) (fun ee a=>?_)
   ·cases a
   ·refine aJ<|p1 22 (bp b)<|ag a ?_;intro cb ef a;refine aq kr rfl kr cl (aZ ak b ca.2 (bu [40,63]) eF ed cb ef) ?_;rintro e0 eG ⟨t,rfl,eg⟩;refine p1 21 (vB cb.1)<|aa<|bw a (fun eh a=>?_) (fun eh a=>?_)
    ·cases a
    ·refine aJ<|p1 27 (bp b)<|bP [(0,bp b),(2,bp n),(27,bp b)]<|ag a ?_;intro f ei a;refine aq kr rfl kr cl (aZ ak b cb.2 (bu [40]) eG eg f ei) ?_;rintro e1 eH ⟨u,rfl,X⟩;refine p1 26 (vB f.1)<|aa<|bw a (fun ej a=>?_) (fun ej a=>?_)
     ·refine aJ<|pN 3 [29,30,31] [(29,bp b),(31,pt b 2)]<|br 3 X 2 rfl<|pN 3 [33,34,35] [(33,vI (wI (f.2.2.2.1+1))),(35,pt b 2)]<|aG 3 2 (vI (wI (f.2.2.2.1+1))) #[vS f.2.1,vI f.2.2.1,vI (wI (f.2.2.2.1+1)),vB f.2.2.2.2.1,vB f.2.2.2.2.2] X kr kr kr ?_;intro cc Y ch eN;refine bI<|pN 4 [36,37,38,39] [(36,bp b),(39,pt b 2)]<|br 3 ch 2 rfl<|p1 41 (.agg #[vI 7,vI (wI (f.2.2.2.1+1)),vI 0,vB false,vB false,vL none ([]:List aW) 0,vL none ([]:List Pc) 0])<|ag a ?_;intro a7 ek a;have w:=ai (ai (ai (ai (ai (ai (ai a5 b5 nb) q bj) r bj) s bj) t bj) u bj) Y bj;refine aq kr rfl kr enters150 (g b (f.2.1,f.2.2.1,wI (f.2.2.2.1+1),f.2.2.2.2.1,f.2.2.2.2.2) none 0 none 0 (7,wI (f.2.2.2.1+1),0,false,false,([]:List aW),([]:List Pc)) cc (fun k=>(fun _=>False) k∨l k) (fun k hk=>⟨(hk).elim (fun h=>h.elim) (fun h=>(dj m w.size) k h),fun e=>(hk).elim (fun h=>((h:False).elim)) (fun h=>(fun (hx:l b)=>(m _ hx).2 rfl) (e ▸ h))⟩) ch ((cD bM cc (fun _=>False) none 0).wide (fun k hk=>(.inl hk))) ((cD pcE cc (fun _=>False) none 0).wide (fun k hk=>(.inl hk))) ((rg d3 w m).wide (fun k hk=>(.inr hk))) ((rg d4 w m).wide (fun k hk=>(.inr hk))) a7 ek) ?_;rintro e2 d5 ⟨ck,a8,a9,bd,be,bg,bl,rfl,el,Z,em,ah,en⟩;have cs:∀ k,bd k→k<d5.heap.size:=fun k hk=>(Z k hk).1;have eo:∀ k,bd k→l k∨j.heap.size≤k:=fun k hk=>(Z k hk).2.elim (fun h=>(h).elim (fun h=>h.elim) (fun h=>(fun k (hk:l k)=>Or.inl hk) k h)) (fun h=>.inr (Nat.le_trans w.size h));have cv:∀ k,bl k→k<d5.heap.size:=fun k hk=>(ah k hk).1;have ep:∀ k,bl k→l k∨j.heap.size≤k:=fun k hk=>(ah k hk).2.elim (fun h=>(h).elim (fun h=>h.elim) (fun h=>(fun k (hk:l k)=>Or.inl hk) k h)) (fun h=>.inr (Nat.le_trans w.size h));have d:=cL p C;refine aG 25 0 (.agg (bi a7.1 a8 a9 be bg)) (bi a7.1 a8 a9 be bg) (((((((a6.grown q (aj d)).grown r (aj d)).grown s (aj d)).grown t (aj d)).grown u (aj d)).grown Y (aj d)).grown ck (aj d)) kr kr kr ?_;intro eI x eq eO;refine aa<|am ?_
      obtain rfl:=sj a;refine av (ao [.agg (bi a7.1 a8 a9 be bg)] rfl ⟨⟨⟨n,0,none⟩,kr,run_loadVar_row eI n _ 25 _ _ _ eq b9 rfl kr⟩,trivial⟩ ?_);have E:j.heap.size≤n:=bY p a5.size;have cw:=(((((a6.grown q (aj d)).grown r (aj d)).grown s (aj d)).grown t (aj d)).grown u (aj d)).grown Y (aj d);have er:¬ bd n:=fun h=>((Z _ h).2.elim (fun h=>(h).elim (fun h=>by cases h) (fun h=>((fun (hx:l n)=>nl E (m _ hx).1)) h)) (fun h=>nl h (cw.lt)));have es:¬ bl n:=fun h=>((ah _ h).2.elim (fun h=>(h).elim (fun h=>by cases h) (fun h=>((fun (hx:l n)=>nl E (m _ hx).1)) h)) (fun h=>nl h (cw.lt)));exact ⟨(ai (ai w ck bj) x (cI E)),a8,a9,bd,be,bg,bl,rfl,(el.grown x cs (aj er)),sxq (aY cs x.size) eo,(em.grown x cv (aj es)),sxq (aY cv x.size) ep,(en.grown x (aj (apH p C)))⟩
     ·refine aJ<|p1 44 (bp b)<|ag a ?_;intro cx et a;refine aq kr rfl kr cl (aZ ak b f.2 (bu [91]) eH X cx et) ?_;rintro e3 eJ ⟨an,rfl,eu⟩;refine p1 43 (vB cx.1)<|aa<|bw a (fun ev a=>?_) (fun ev a=>?_)
      ·cases a
      ·refine aJ<|p1 49 (bp b)<|ag a ?_;intro c0 c4 a;refine aq kr rfl kr cl (aZ ak b cx.2 (bu [92]) eJ eu c0 c4) ?_;rintro eP ew ⟨F,rfl,c5⟩;refine p1 48 (vB c0.1)<|aa<|bw a (fun c7 a=>?_) (fun c7 a=>?_)
       ·cases a
       ·refine aJ<|p1 54 (bp b)<|ag a ?_;intro ax c8 a;refine aq kr rfl kr cl (aZ ak b c0.2 (bu [46]) ew c5 ax c8) ?_;rintro eQ ex ⟨G,rfl,c9⟩;refine p1 53 (vB ax.1)<|aa<|bw a (fun ds a=>?_) (fun ds a=>?_)
        ·cases a
        ·refine aJ<|p1 60 (bp b)<|ag a ?_;intro H dL a;refine aq kr rfl kr cl (aZ ak b ax.2 (bu [94]) ex c9 H dL) ?_;rintro eR ey ⟨I,rfl,dM⟩;refine p1 59 (vB H.1)<|bP [(0,bp b),(2,bp n),(59,vB H.1)]<|aa<|bw a (fun dN a=>?_) (fun dN a=>?_)
         ·cases a
         ·refine aJ<|p1 66 (bp b)<|ag a ?_;intro J dO a;refine aq kr rfl kr cl (aZ ak b H.2 (bu [36]) ey dM J dO) ?_;rintro eS ez ⟨K,rfl,bn⟩;refine p1 65 (vB J.1)<|aa<|bw a (fun dP a=>?_) (fun dP a=>?_)
          ·cases a
          ·refine aJ<|p1 72 (bp b)<|ag a ?_;intro c1 dQ a;refine aq kr rfl kr enters106 (cV ak b J.2 (bu [42,43,63,123,125,93]) ez bn c1 dQ) ?_;rintro eT eA ⟨y,rfl⟩;refine p1 71 (vB c1)<|aa<|bw a (fun dR a=>?_) (fun dR a=>?_)
           ·cases a
           ·refine aA<|bx<|aJ<|pN 2 [76,77] [(76,bp b),(77,bp b)]<|ag a ?_;intro L dS a;have z:=ai (ai (ai (ai (ai (ai (ai (ai (ai (ai (ai (ai a5 b5 nb) q bj) r bj) s bj) t bj) u bj) an bj) F bj) G bj) I bj) K bj) y nb;refine aq kr rfl kr enters153 (regex_parser_next_ok ak b J.2 eA l (jg m z) (bn.grown y nb) (rg d3 z m) (rg d4 z m) L dS) ?_;rintro eU a0 ⟨M,rfl,dT⟩;refine p1 79 (.agg #[vI 1,vI L.1,vI 0,vB false,vB false,vL none ([]:List aW) 0,vL none ([]:List Pc) 0])<|ag a ?_;intro N dU a;refine aq kr rfl kr enters85 (cq ak b L.2 none 0 none 0 (1,L.1,0,false,false,([]:List aW),([]:List Pc)) a0 (fun _=>False) (fun k hk=>⟨hk.elim,fun e=>((hk:False).elim)⟩) dT (cD bM a0 (fun _=>False) none 0) (cD pcE a0 (fun _=>False) none 0) N dU) ?_;rintro eV c2 ⟨bs,O,P,Q,R,S,T,rfl,dV,U,dW,V,dX⟩;have bA:∀ k,Q k→k<c2.heap.size:=fun k hk=>(U k hk).1;have W:=ai z M bj;have dY:∀ k,Q k→l k∨j.heap.size≤k:=fun k hk=>(U k hk).2.elim (fun h=>h.elim) (fun h=>.inr (Nat.le_trans W.size h));have b0:∀ k,T k→k<c2.heap.size:=fun k hk=>(V k hk).1;have dZ:∀ k,T k→l k∨j.heap.size≤k:=fun k hk=>(V k hk).2.elim (fun h=>h.elim) (fun h=>.inr (Nat.le_trans W.size h));have c:=cL p C;refine aG 25 0 (.agg (bi N.1 O P R S)) (bi N.1 O P R S) (((((((((((((a6.grown q (aj c)).grown r (aj c)).grown s (aj c)).grown t (aj c)).grown u (aj c)).grown an (aj c)).grown F (aj c)).grown G (aj c)).grown I (aj c)).grown K (aj c)).grown y nb).grown M (aj c)).grown bs (aj c)) kr kr kr ?_;intro eB i d0 eK;refine aa<|am ?_
            obtain rfl:=sj a;refine av (ao [.agg (bi N.1 O P R S)] rfl ⟨⟨⟨n,0,none⟩,kr,run_loadVar_row eB n _ 25 _ _ _ d0 b9 rfl kr⟩,trivial⟩ ?_);have c3:j.heap.size≤n:=bY p a5.size;have b2:=(((((((((((a6.grown q (aj c)).grown r (aj c)).grown s (aj c)).grown t (aj c)).grown u (aj c)).grown an (aj c)).grown F (aj c)).grown G (aj c)).grown I (aj c)).grown K (aj c)).grown y nb).grown M (aj c);have d1:¬ Q n:=fun h=>((U _ h).2.elim (fun h=>by cases h) (fun h=>nl h (b2.lt)));have d2:¬ T n:=fun h=>((V _ h).2.elim (fun h=>by cases h) (fun h=>nl h (b2.lt)));exact ⟨(ai (ai W bs bj) i (cI c3)),O,P,Q,R,S,T,rfl,(dV.grown i bA (aj d1)),sxq (aY bA i.size) dY,(dW.grown i b0 (aj d2)),sxq (aY b0 i.size) dZ,(dX.grown i (aj (apH p C)))⟩
set_option maxHeartbeats 4000000 in
set_option maxRecDepth 100000 in
theorem regex_parser_inside_step (ak:Nat) (c:gC56 ak) (B:gC83 ak) (C:gC107 ak) (F:gC127 ak) (E:gC150 ak) (f:Nat) (bs:di) (ap:bh) (aE:Nat) (y:bh) (z:Nat) (a:cr) (m:World) (l:Nat→Prop) (j:∀ k,l k→k<m.heap.size∧k≠f) (T:bb m f 117 (cO bs)) (aQ:Rd bM m l ap aE a.2.2.2.2.2.1) (d8:Rd pcE m l y z a.2.2.2.2.2.2) (d9:Rd bE m l (ro 0) 256 cp) (ea:Rd (prE (iE .u8) (iE .u8)) m l (ro 1) 16 cN) (r0:cr × di) (t:regex_parser_inside (ak+1) bs a=some r0):
    Cs 150 [bp f,.agg (bi a ap aE y z)] m (dH fun v w'=>m.grownBy w' (some f)∧∃ (bc:bh) (bq:Nat),∃ (a5:Nat→Prop),∃ (a6:bh) (a7:Nat),∃ (a8:Nat→Prop),v=dF [.agg (bi r0.1 bc bq a6 a7)]∧Rd bM w' a5 bc bq r0.1.2.2.2.2.2.1∧(Sxb a5 w' l m)∧Rd pcE w' a8 a6 a7 r0.1.2.2.2.2.2.2∧(Sxb a8 w' l m)∧bb w' f 117 (cO r0.2)):=by
 have b0:m.grownBy m (some f):=cu _ _;rw[regex_parser_inside.eq_2]at t;refine aK Tryz.func150 rfl Tryz.ntmps150 kr ?_;refine bP [(0,bp f),(1,.agg (bi a ap aE y z))] ?_;have b2:=T.lt;refine aJ<|aD bp (bi a ap aE y z) 25 kr kr ?_
 intro b1 w2 b3 b4 Z en;refine aD bp dI 25 kr kr ?_;intro U w8 b5 ah A ef;refine bI<|p1 5 (bp f)<|ag t ?_;intro i dY t;have ca:=(ab b3 b5);have u:=ai b0 ca nb;refine aq kr rfl kr enters56 (c f bs w8 l (jg j u) (T.grown ca nb) (rg d9 u j) (rg ea u j) i dY) ?_;rintro eo cb ⟨an,dS,dT,V,dU,dV,W,rfl,dZ,G,d0,H,ax⟩;have a0:∀ k,V k→k<cb.heap.size:=fun k hk=>(G k hk).1;have cc:∀ k,V k→l k∨m.heap.size≤k:=fun k hk=>(G k hk).2.elim (fun h=>(fun k (hk:l k)=>Or.inl hk) k h) (fun h=>.inr (Nat.le_trans u.size h));have a1:∀ k,W k→k<cb.heap.size:=fun k hk=>(H k hk).1;have ch:∀ k,W k→l k∨m.heap.size≤k:=fun k hk=>(H k hk).2.elim (fun h=>(fun k (hk:l k)=>Or.inl hk) k h) (fun h=>.inr (Nat.le_trans u.size h));refine aD (fun b=>.slice (ro b) 1 1) (bi i.1 dS dT dU dV) 25 kr kr ?_;intro n dW o d1 d eg;obtain ⟨r,e⟩:∃ X:Nat→Prop,X=(fun k=>V k∨W k):=⟨_,rfl⟩;have ck:∀ k,r k→k<cb.heap.size:=fun k h=>by rw[e]at h;exact (h).elim (fun h=>a0 k h) (fun h=>a1 k h)
 have cs:∀ k,r k→k<dW.heap.size:=fun k h=>cg (ck k h) o.size;have cv:∀ k,r k→l k∨m.heap.size≤k:=fun k h=>by rw[e]at h;exact (h).elim (fun h=>cc k h) (fun h=>ch k h)
 have d2:aw pcE 25 dW r (ro n) 1 ([Pc.of i.1]:List Pc):=bJ d1 (by rw[e];exact ⟨[vI i.1.1,vI i.1.2.1,vI i.1.2.2.1,vB i.1.2.2.2.1,vB i.1.2.2.2.2.1,vL dS i.1.2.2.2.2.2.1 dT,vL dU i.1.2.2.2.2.2.2 dV],[],rfl,pc_mk7 ((dZ.grown o a0 nb).wide (fun _ h=>(.inl h))) ((d0.grown o a1 nb).wide (fun _ h=>(.inr h))),rfl⟩) (show 1≤maxLen by decide) (fun h=>dC d (ck _ h));have a2:∀ k,r k→(fun k=>V k∨W k) k:=fun k h=>by rw[e]at h;exact h
 clear e;have cw:=ai u an bj;have cx:Lo m (ro n):=dJ d cw.size;have eh:=apD d ax;have c0:=apG (p:=f) d ax (fun h=>(a2 _ h).elim (xq cc j b2) (xq ch j b2));have c1:=cL Z T;have a3:=(b4.grown b5 nb).grown an (aj c1);have ei:=apD d a3;have I:m.heap.size≤b1:=bY Z b0.size;have c2:=b4.grown b5 nb;have c3:=T.grown b3 nb;have J:=cL A c3;have K:=ah.grown an (aj J);have ej:=apD d K;have s:m.heap.size≤U:=bY A (ai b0 b3 nb).size;have c4:=apG (p:=U) d K (fun h=>(a2 _ h).elim (apE G (xlo s j) ah.lt) (apE H (xlo s j) ah.lt));have ek:∀ g,aP (ro n)=some g→¬ V g:=fun g e hx=>nl (b8 d g e) (a0 _ hx);have el:∀ g,aP (ro n)=some g→¬ W g:=fun g e hx=>nl (b8 d g e) (a1 _ hx);refine p1 8 (pt b1 6)<|aG 23 6 (vL (ro n) ([Pc.of i.1]:List Pc) 1) #[vI a.1,vI a.2.1,vI a.2.2.1,vB a.2.2.2.1,vB a.2.2.2.2.1,vL ap a.2.2.2.2.2.1 aE,vL (ro n) ([Pc.of i.1]:List Pc) 1] (a3.grown o nb) kr kr kr ?_;intro eb w d3 em;refine cn<|aJ<|p1 9 (bp f)<|ag t ?_;intro a9 d4 t;refine aq kr rfl kr cl (aZ ak f i.2 (bu [41]) eb ((ax.grown o nb).grown w (aj (apH Z T))) a9 d4) ?_;rintro ep ec ⟨x,rfl,d5⟩;refine p1 11 (vB (!a9.1))<|aa<|dw (b:=(!a9.1)) kr (fun a4=>?_) (fun a4=>?_)
 ·replace t:=ite_t a4 t;cases t
 ·replace t:=ite_f a4 t;refine aA<|aJ<|p1 14 (bp f)<|cJ 25 b1 #[vI a.1,vI a.2.1,vI a.2.2.1,vB a.2.2.2.1,vB a.2.2.2.2.1,vL ap a.2.2.2.2.2.1 aE,vL (ro n) ([Pc.of i.1]:List Pc) 1] (bB (d3.grown x (aj c1)))<|ag t ?_;intro bd d6 t;have D:=ai (ai (ai cw o nb) w (cI I)) x bj;have c5:=aY cs w.size;have c7:=(d2.grown w cs (rdnx (aj (apG (p:=b1) d a3 (fun h=>(a2 _ h).elim (apE G (xlo I j) c2.lt) (apE H (xlo I j) c2.lt)))))).grown x c5 (rdnx (aj c0));refine aq kr rfl kr enters85 (cq ak f a9.2 ap aE (ro n) 1 (a.1,a.2.1,a.2.2.1,a.2.2.2.1,a.2.2.2.2.1,a.2.2.2.2.2.1,([Pc.of i.1]:List Pc)) ec (fun k=>l k∨(fun k=>aP (ro n)=some k∨r k) k) (fun k hk=>⟨(hk).elim (fun h=>(dj j D.size) k h) (fun h=>(fun k (hk:aP (ro n)=some k∨r k)=>hk.elim (fun h=>c7.lt k h) (fun h=>(aY c5 x.size) k h)) k h),fun e=>(hk).elim (fun h=>(fun (hx:l f)=>(j _ hx).2 rfl) (e ▸ h)) (fun h=>c0 (e ▸ h))⟩) d5 ((rg aQ D j).wide (fun k hk=>(.inl hk))) ((c7.rd (Y:=fun k=>aP (ro n)=some k∨r k) (fun _ h=>.inr h) (fun g e=>.inl e)).wide (fun k hk=>(.inr hk))) bd d6) ?_;rintro eq dX ⟨c8,L,M,N,O,P,Q,rfl,ds,R,dL,S,dM⟩;have be:∀ k,N k→k<dX.heap.size:=fun k hk=>(R k hk).1;have dN:∀ k,N k→l k∨m.heap.size≤k:=fun k hk=>(R k hk).2.elim (fun h=>(h).elim (fun h=>(fun k (hk:l k)=>Or.inl hk) k h) (fun h=>(fun k (hk:aP (ro n)=some k∨r k)=>hk.elim (fun h=>Or.inr (cx k h)) (fun h=>cv k h)) k h)) (fun h=>.inr (Nat.le_trans D.size h));have bg:∀ k,Q k→k<dX.heap.size:=fun k hk=>(S k hk).1;have dO:∀ k,Q k→l k∨m.heap.size≤k:=fun k hk=>(S k hk).2.elim (fun h=>(h).elim (fun h=>(fun k (hk:l k)=>Or.inl hk) k h) (fun h=>(fun k (hk:aP (ro n)=some k∨r k)=>hk.elim (fun h=>Or.inr (cx k h)) (fun h=>cv k h)) k h)) (fun h=>.inr (Nat.le_trans D.size h));have bl:=cg ((cd b4) _ rfl) ((bv A) _ rfl);refine aG 25 0 (.agg (bi bd.1 L M O P)) (bi bd.1 L M O P) ((((K.grown o nb).grown w (aj (Nat.ne_of_lt bl))).grown x (aj J)).grown c8 (aj J)) kr kr kr ?_;intro d7 q dP ed;refine aa<|am ?_
  obtain rfl:=sj t;refine av (ao [.agg (bi bd.1 L M O P)] rfl ⟨⟨⟨U,0,none⟩,kr,run_loadVar_row d7 U _ 25 _ _ _ dP b9 rfl kr⟩,trivial⟩ ?_);have bn:=((K.grown o nb).grown w (aj (Nat.ne_of_lt bl))).grown x (aj J);have dQ:¬ N U:=fun h=>((R _ h).2.elim (fun h=>(h).elim (fun h=>((fun (hx:l U)=>nl s (j _ hx).1)) h) (fun h=>(c4) h)) (fun h=>nl h (bn.lt)));have dR:¬ Q U:=fun h=>((S _ h).2.elim (fun h=>(h).elim (fun h=>((fun (hx:l U)=>nl s (j _ hx).1)) h) (fun h=>(c4) h)) (fun h=>nl h (bn.lt)));exact ⟨(ai (ai D c8 bj) q (cI s)),L,M,N,O,P,Q,rfl,(ds.grown q be (aj dQ)),sxq (aY be q.size) dN,(dL.grown q bg (aj dR)),sxq (aY bg q.size) dO,(dM.grown q (aj (apH A c3)))⟩
theorem grp_regex_parser_alternatives_ok:∀ (ak:Nat),gC56 ak∧gC83 ak∧gC107 ak∧gC127 ak∧gC150 ak:=by
  intro ak
  induction ak with
  | zero=>refine ⟨?_,?_,?_,?_,?_⟩<;>first | (unfold gC56;intros;rename_i a;rw[regex_parser_alternatives.eq_1]at a;cases a) | (unfold gC83;intros;rename_i a;rw[regex_parser_sequence.eq_1]at a;cases a) | (unfold gC107;intros;rename_i a;rw[regex_parser_repeated.eq_1]at a;cases a) | (unfold gC127;intros;rename_i a;rw[regex_parser_atom.eq_1]at a;cases a) | (unfold gC150;intros;rename_i a;rw[regex_parser_inside.eq_1]at a;cases a)
  | succ ak ih=>obtain ⟨i0,i1,i2,i3,i4⟩:=ih;exact ⟨regex_parser_alternatives_step ak i0 i1 i2 i3 i4,regex_parser_sequence_step ak i0 i1 i2 i3 i4,regex_parser_repeated_step ak i0 i1 i2 i3 i4,regex_parser_atom_step ak i0 i1 i2 i3 i4,regex_parser_inside_step ak i0 i1 i2 i3 i4⟩

theorem regex_parser_alternatives_ok (ak:Nat):
    gC56 ak:=
  (grp_regex_parser_alternatives_ok ak).1

theorem regex_spell_ok (ak:Nat) (b:Int) (d:ByteArray) (e:World) (n:ByteArray) (c:regex_spell ak b d=some n):
    Cs 86 [vI b,vS d] e (G1 e [vS n]):=by
 have g:Bl e e:=Below.refl _ _;unfold regex_spell at c;refine aK Tryz.func86 rfl Tryz.ntmps86 kr ?_;refine bP [(0,vI b),(1,vS d)]<|aJ<|pN 1 [4] []<|cn<|aI<|aJ<|pL [5,6,7] 5 (vB (b==10))<|aa<|bw c (fun o c=>?_) (fun o c=>?_)
 ·refine aJ<|p1 4 (vS (bu [92,110]))<|aa<|am ?_
  obtain rfl:=sj c;refine av (ao [vS (bu [92,110])] rfl ⟨kr,trivial⟩ ?_);exact ⟨ae g,rfl⟩
 ·refine aJ<|pL [8,9,10] 8 (vB (b==9))<|aa<|bw c (fun p c=>?_) (fun p c=>?_)
  ·refine aJ<|p1 4 (vS (bu [92,116]))<|aa<|am ?_
   obtain rfl:=sj c;refine av (ao [vS (bu [92,116])] rfl ⟨kr,trivial⟩ ?_);exact ⟨ae g,rfl⟩
  ·refine aJ<|ag c ?_;intro t f c
   refine aN (J:=fun a k=>Bl e k∧Sz e k∧Qa a 28 [(0,vI b),(11,vB t)]) ?_ ?_
   ·refine pL [12,13,14] 14 (vB (decide (b<128)))<|cf 14 f (fun q f=>?_) (fun q f=>?_)
    ·refine pN 3 [15,16,17] [(15,vS d),(17,vU (wB (b)))]<|ag f ?_;intro r s f;refine aq kr rfl kr enters109 (strings_IndexByte_ok ak d (wB (b)) e r s) ?_;rintro v w ⟨i,rfl⟩;refine pL [11,19,20] 11 (vB (decide (r≥0)))<|aa ?_;obtain rfl:=sj f;refine ac fun a hd hs al=>?_;exact ⟨(bg g i nb),i.size,hd,hs,aU al⟩
    ·refine pL [11,15,16,17,18,19,20] 11 (vB false)<|aa ?_;obtain rfl:=sj f;exact ac fun a hd hs al=>⟨g,bL,hd,hs,aU al⟩
   ·rintro a k ⟨h,u,hd,hs,al⟩;refine aM ?_ hd hs al;refine bw c (fun l c=>?_) (fun l c=>?_)
    ·refine aJ<|pL [21,22] 22 (vR (wR (b)))<|gv_i2s (src:=21) (dst:=9) (kk:=.i32) (x:=(wR (b))) [] nofun rfl rfl rfl kr kr kr bt rfl ?_;refine ag c ?_;intro j m c;refine dz 9 m<|p1 4 (vS j)<|aa<|am ?_
     obtain rfl:=sj c;refine av (ao [vS j] rfl ⟨kr,trivial⟩ ?_);exact ⟨ae h,rfl⟩
    ·refine aA<|bx<|aJ<|pL [25,26] 26 (vR (wR (b)))<|gv_i2s (src:=21) (dst:=9) (kk:=.i32) (x:=(wR (b))) [] nofun rfl rfl rfl kr kr kr bt rfl ?_;refine p1 4 (vS (Utf8.encode (wR (b))))<|aa<|am ?_
     obtain rfl:=sj c;refine av (ao [vS (Utf8.encode (wR (b)))] rfl ⟨kr,trivial⟩ ?_);exact ⟨ae h,rfl⟩

theorem regex_class_ok (ak:Nat) (ad:bh) (af:Nat) (e:bh) (f:Nat) (b:cr) (h:World) (P:Nat→Prop) (H:Lw P h) (ay:Rd bM h P ad af b.2.2.2.2.2.1) (a4:Rd pcE h P e f b.2.2.2.2.2.2) (r0:ByteArray) (o:regex_class ak b=some r0):
    Cs 87 [.agg (bi b ad af e f)] h (G1 h [vS r0]):=by
 have I:Bl h h:=Below.refl _ _;unfold regex_class at o;refine aK Tryz.func87 rfl Tryz.ntmps87 kr ?_;refine bP [(0,.agg (bi b ad af e f))]<|aJ<|aD bp (bi b ad af e f) 25 kr kr ?_
 intro E w2 K v bs b4;refine pN 1 [2] []<|bI<|p1 3 (vS (bu [91]))<|cn<|aJ<|p1 6 (pt E 3)<|br 4 v 3 rfl<|aa<|ag o ?_;intro j7 j o
 refine aF (J:=fun a u=>Bl h u∧Sz w2 u∧bb u E 25 (bi b ad af e f)∧Qa a 36 [(1,bp E),(3,vS j7)]) ?_ ?_
 ·refine bw j (fun a6 j=>?_) (fun a6 j=>?_)
  ·refine az<|p1 8 (vS (bu [91]))<|ag j ?_;intro a7 Q j;refine dz 9 Q<|p1 3 (vS a7)<|aa ?_;obtain rfl:=sj j;refine ac fun a hd hs al=>?_;exact ⟨(bg I K nb),bL,v,hd,hs,aU al⟩
  ·refine aA ?_;obtain rfl:=sj j;refine ac fun a hd hs al=>?_;exact ⟨(bg I K nb),bL,v,hd,hs,aU al⟩
 ·rintro a u ⟨R,bE,S,hd,hs,al⟩;refine aM ?_ hd hs al;refine aH<|aJ<|p1 10 (pt E 5)<|br 22 S 5 rfl<|pN 2 [12,13] [(12,vI (lz b.2.2.2.2.2.1)),(13,vI 0)]<|aa<|ag o ?_;intro L j o
  refine aF (J:=fun a w=>Bl h w∧Sz u w∧Qa a 36 [(3,vS L)]) ?_ ?_
  ·refine aI<|bR (A:=fun (c:ByteArray × Int) a s=>Bl h s∧Sz u s∧Qa a 36 [(3,vS c.1),(11,vL ad b.2.2.2.2.2.1 af),(12,vI (lz b.2.2.2.2.2.1)),(13,vI c.2)]) j ?_ ?_
   ·intro a hd hs al;exact ⟨R,bL,hd,hs,aU al⟩
   ·rintro c r2 i a8 a s ⟨d,x,hd,hs,al⟩;refine aM ?_ hd hs al;refine aJ<|p1 14 (vB (decide (c.2<(lz b.2.2.2.2.2.1))))<|cn<|bw i (fun T i=>?_) (fun T i=>?_)
    ·refine aA<|aH<|aI<|aJ<|ag i ?_;intro g y i
     refine cP .i64 2 (ay.below d H) y aV ?_;obtain ⟨_,⟨_,_,rfl,rfl,rfl⟩,U⟩:=ay.cellsK y;refine laq 37 (aB ad ((c.2:Int).toNat*2)) (bS g) (bB (U s (fun k hk=>d.block k (H k hk)))) ?_;refine aD bp #[vI 0,vI 0] 37 kr kr ?_;intro l b5 p V t b0;refine aG 37 0 (.agg (bS g)) (bS g) V kr kr kr ?_;intro a9 q z b2;refine bI<|pN 2 [17,18] [(17,vS c.1),(18,bp l)]<|br 3 z 0 rfl<|ag i ?_;intro bd W i;refine aq kr rfl kr enters86 (regex_spell_ok ak g.1 (bu [92,93,94,45,91]) a9 bd W) ?_;rintro b7 M ⟨n,rfl⟩;refine ag i ?_;intro B X i;refine dz 9 X<|p1 3 (vS B)<|bI<|p1 22 (pt l 1) ?_
     have r:=z.grown n nb;refine br 3 r 1 rfl<|p1 24 (bp l)<|br 3 r 0 rfl<|p1 26 (vB (decide (g.2>g.1)))<|bP [(3,vS B),(5,bp l),(11,vL ad b.2.2.2.2.2.1 af),(12,vI (lz b.2.2.2.2.2.1)),(13,vI c.2),(26,vB (decide (g.2>g.1)))]<|aa<|ag i ?_;intro N m i
     refine aF (J:=fun a C=>Bl h C∧Sz M C∧Qa a 36 [(3,vS N),(11,vL ad b.2.2.2.2.2.1 af),(12,vI (lz b.2.2.2.2.2.1)),(13,vI c.2)]) ?_ ?_
     ·refine bw m (fun Y m=>?_) (fun Y m=>?_)
      ·refine az<|pN 2 [27,28] [(27,vS B),(28,pt l 1)]<|br 3 r 1 rfl<|ag m ?_;intro be Z m;refine aq kr rfl kr enters86 (regex_spell_ok ak g.2 (bu [92,93,94,45,91]) M be Z) ?_;rintro ca cb ⟨D,rfl⟩;refine ag m ?_;intro cc ah m;refine dz 9 ah<|ag m ?_;intro bl an m;refine dz 9 an<|p1 3 (vS bl)<|aa ?_;obtain rfl:=sj m;refine ac fun a hd hs al=>?_;have F:h.heap.size≤l:=bY t d.size;exact ⟨(bg (bg (bg d p nb) q (aS F)) (ab n D) nb),D.size,hd,hs,aU al⟩
      ·refine aA ?_;obtain rfl:=sj m;refine ac fun a hd hs al=>?_;have G:h.heap.size≤l:=bY t d.size;exact ⟨(bg (bg (bg d p nb) q (aS G)) n nb),bL,hd,hs,aU al⟩
     ·rintro a C ⟨ax,a0,hd,hs,al⟩;refine aM ?_ hd hs al;have a1:=(nt (nt (nt (nt x p.size) q.size) n.size) a0);refine bx<|az<|pL [13,33] 13 (vI (wI (c.2+1)))<|aa ?_;obtain rfl:=sj i;refine ac fun a hd hs al=>?_;exact ⟨(N,wI (c.2+1)),rfl,ax,a1,hd,hs,aU al⟩
    ·refine bG<|bQ rfl ?_
     obtain rfl:=sj i;replace j:=congrArg some (a8 _ rfl);obtain rfl:=sj j;refine ac fun a hd hs al=>?_;exact ⟨d,x,hd,hs,aU al⟩
  ·rintro a w ⟨a2,b3,hd,hs,al⟩;refine aM ?_ hd hs al;refine aJ<|p1 34 (vS L)<|ag o ?_;intro O a3 o;refine dz 9 a3<|p1 2 (vS O)<|aa<|am ?_
   obtain rfl:=sj o;refine av (ao [vS O] rfl ⟨kr,trivial⟩ ?_);exact ⟨ae a2,rfl⟩

theorem regex_pick_ok (ak:Nat) (c:Bool) (b:ByteArray) (a:ByteArray) (e:World) (g:ByteArray) (d:regex_pick ak c b a=some g):
    Cs 88 [vB c,vS b,vS a] e (G1 e [vS g]):=by
 have f:Bl e e:=Below.refl _ _;unfold regex_pick at d;refine aK Tryz.func88 rfl Tryz.ntmps88 kr ?_;refine bP [(0,vB c),(1,vS b),(2,vS a)]<|aJ<|pN 1 [6] []<|cn<|aJ<|p1 7 (vB c)<|aa<|bw d (fun h d=>?_) (fun h d=>?_)
 ·refine aJ<|pL [6,8] 6 (vS a)<|aa<|am ?_
  obtain rfl:=sj d;refine av (ao [vS a] rfl ⟨kr,trivial⟩ ?_);exact ⟨ae f,rfl⟩
 ·refine aA<|aJ<|pL [6,9] 6 (vS b)<|aa<|am ?_
  obtain rfl:=sj d;refine av (ao [vS b] rfl ⟨kr,trivial⟩ ?_);exact ⟨ae f,rfl⟩

theorem regex_times_ok (ak:Nat) (ad:bh) (af:Nat) (d:bh) (e:Nat) (c:cr) (h:World) (A:Nat→Prop) (y:Lw A h) (ay:Rd bM h A ad af c.2.2.2.2.2.1) (a3:Rd pcE h A d e c.2.2.2.2.2.2) (F:Rd (tabE 3 dl) h A (ro 3) 1 [vW 1]) (r0:ByteArray) (m:regex_times ak c=some r0):
    Cs 90 [.agg (bi c ad af d e)] h (G1 h [vS r0]):=by
 have a5:Bl h h:=Below.refl _ _;unfold regex_times at m;refine aK Tryz.func90 rfl Tryz.ntmps90 kr ?_;refine bP [(0,.agg (bi c ad af d e))]<|aJ<|aD bp (bi c ad af d e) 25 kr kr ?_
 intro f w2 a6 G b2 b7;refine pN 1 [2] []<|bI<|pN 1 [3] []<|cn<|aJ<|p1 5 (pt f 1)<|br 3 G 1 rfl<|ag m ?_;intro q a7 m;have z:=bg a5 a6 nb;refine aq kr rfl kr enters91 (strconv_Itoa_ok ak c.2.1 w2 A (aY y z.size) (F.below z y) q a7) ?_;rintro ca a8 ⟨u,rfl⟩;refine p1 4 (vS q)<|aa<|aI<|aJ<|ag m ?_;intro a9 b m
 refine aN (J:=fun a n=>Bl h n∧Sz a8 n∧bb n f 25 (bi c ad af d e)∧Qa a 64 [(1,bp f),(4,vS q),(16,vB a9)]) ?_ ?_
 ·refine p1 17 (pt f 2) ?_;have o:=G.grown u nb;refine br 3 o 2 rfl<|pL [19,20] 20 (vB (c.2.2.1==(-1)))<|cf 20 b (fun K b=>?_) (fun K b=>?_)
  ·refine p1 21 (pt f 1)<|br 3 o 1 rfl<|pL [16,23,24] 16 (vB (c.2.1==0))<|aa ?_;obtain rfl:=sj b;refine ac fun a hd hs al=>?_;exact ⟨(bg z u nb),bL,o,hd,hs,aU al⟩
  ·refine pL [16,21,22,23,24] 16 (vB false)<|aa ?_;obtain rfl:=sj b;refine ac fun a hd hs al=>?_;exact ⟨(bg z u nb),bL,o,hd,hs,aU al⟩
 ·rintro a n ⟨v,b3,j,hd,hs,al⟩;refine aM ?_ hd hs al;refine ag m ?_;intro H b m;refine aF (J:=fun a r=>Bl h r∧Sz n r∧bb r f 25 (bi c ad af d e)∧Qa a 64 [(1,bp f),(3,vS H)]) ?_ ?_
  ·refine bw b (fun L b=>?_) (fun L b=>?_)
   ·refine az<|p1 3 (vS (bu [42]))<|aa ?_;obtain rfl:=sj b;exact ac fun a hd hs al=>⟨v,bL,j,hd,hs,aU al⟩
   ·refine aJ<|ag b ?_;intro bd k b
    refine aN (J:=fun a s=>Bl h s∧Sz n s∧bb s f 25 (bi c ad af d e)∧Qa a 64 [(1,bp f),(4,vS q),(25,vB bd)]) ?_ ?_
    ·refine p1 26 (pt f 2)<|br 3 j 2 rfl<|pL [28,29] 29 (vB (c.2.2.1==(-1)))<|cf 29 k (fun M k=>?_) (fun M k=>?_)
     ·refine p1 30 (pt f 1)<|br 3 j 1 rfl<|pL [25,32,33] 25 (vB (c.2.1==1))<|aa ?_;obtain rfl:=sj k;exact ac fun a hd hs al=>⟨v,bL,j,hd,hs,aU al⟩
     ·refine pL [25,30,31,32,33] 25 (vB false)<|aa ?_;obtain rfl:=sj k;exact ac fun a hd hs al=>⟨v,bL,j,hd,hs,aU al⟩
    ·rintro a s ⟨w,B,l,hd,hs,al⟩;refine aM ?_ hd hs al;refine bw b (fun N b=>?_) (fun N b=>?_)
     ·refine az<|p1 3 (vS (bu [43]))<|aa ?_;obtain rfl:=sj b;refine ac fun a hd hs al=>?_;exact ⟨w,B,l,hd,hs,aU al⟩
     ·refine aJ<|ag b ?_;intro be k b
      refine aN (J:=fun a t=>Bl h t∧Sz s t∧bb t f 25 (bi c ad af d e)∧Qa a 64 [(1,bp f),(4,vS q),(34,vB be)]) ?_ ?_
      ·refine p1 35 (pt f 1)<|br 3 l 1 rfl<|pL [37,38] 38 (vB (c.2.1==0))<|cf 38 k (fun O k=>?_) (fun O k=>?_)
       ·refine p1 39 (pt f 2)<|br 3 l 2 rfl<|pL [34,41,42] 34 (vB (c.2.2.1==1))<|aa ?_;obtain rfl:=sj k;exact ac fun a hd hs al=>⟨w,bL,l,hd,hs,aU al⟩
       ·refine pL [34,39,40,41,42] 34 (vB false)<|aa ?_;obtain rfl:=sj k;exact ac fun a hd hs al=>⟨w,bL,l,hd,hs,aU al⟩
      ·rintro a t ⟨i,P,g,hd,hs,al⟩;refine aM ?_ hd hs al;have p:=(nt B P);refine bw b (fun Q b=>?_) (fun Q b=>?_)
       ·refine az<|p1 3 (vS (bu [63]))<|aa ?_;obtain rfl:=sj b;refine ac fun a hd hs al=>?_;exact ⟨i,p,g,hd,hs,aU al⟩
       ·refine aJ<|p1 44 (pt f 2)<|br 3 g 2 rfl<|pL [43,46] 43 (vB (c.2.2.1==(-1)))<|aa<|bw b (fun R b=>?_) (fun R b=>?_)
        ·refine az<|p1 47 (vS q)<|ag b ?_;intro cb S b;refine dz 9 S<|ag b ?_;intro bl T b;refine dz 9 T<|p1 3 (vS bl)<|aa ?_;obtain rfl:=sj b;refine ac fun a hd hs al=>?_;exact ⟨i,p,g,hd,hs,aU al⟩
        ·refine aJ<|p1 51 (pt f 2)<|br 3 g 2 rfl<|p1 53 (pt f 1)<|br 3 g 1 rfl<|pL [50,55] 50 (vB (c.2.2.1==c.2.1))<|aa<|bw b (fun U b=>?_) (fun U b=>?_)
         ·refine az<|p1 56 (vS q)<|ag b ?_;intro cc V b;refine dz 9 V<|ag b ?_;intro bn W b;refine dz 9 W<|p1 3 (vS bn)<|aa ?_;obtain rfl:=sj b;refine ac fun a hd hs al=>?_;exact ⟨i,p,g,hd,hs,aU al⟩
         ·refine az<|p1 8 (vS q)<|ag b ?_;intro ch X b;refine dz 9 X<|ag b ?_;intro bs Y b;refine dz 9 Y<|p1 11 (pt f 2)<|br 3 g 2 rfl<|ag b ?_;intro I Z b;refine aq kr rfl kr enters91 (strconv_Itoa_ok ak c.2.2.1 t A (aY y i.size) (F.below i y) I Z) ?_;rintro ck cs ⟨x,rfl⟩;refine bP [(1,bp f),(10,vS bs),(13,vS I)]<|ag b ?_;intro cv ah b;refine dz 9 ah<|ag b ?_;intro bA an b;refine dz 9 an<|p1 3 (vS bA)<|aa ?_;obtain rfl:=sj b;refine ac fun a hd hs al=>?_;exact ⟨(bg i x nb),(nt p x.size),(g.grown x nb),hd,hs,aU al⟩
  ·rintro a r ⟨C,b4,ax,hd,hs,al⟩;refine aM ?_ hd hs al;refine bx<|aH<|aJ<|p1 59 (pt f 4)<|br 4 ax 4 rfl<|aa<|ag m ?_;intro D b m
   refine aF (J:=fun a E=>Bl h E∧Sz r E∧Qa a 64 [(3,vS D)]) ?_ ?_
   ·refine bw b (fun a0 b=>?_) (fun a0 b=>?_)
    ·refine az<|p1 61 (vS H)<|ag b ?_;intro bE a1 b;refine dz 9 a1<|p1 3 (vS bE)<|aa ?_;obtain rfl:=sj b;exact ac fun a hd hs al=>⟨C,bL,hd,hs,aU al⟩
    ·refine aA ?_;obtain rfl:=sj b;exact ac fun a hd hs al=>⟨C,bL,hd,hs,aU al⟩
   ·rintro a E ⟨a2,b5,hd,hs,al⟩;refine aM ?_ hd hs al;refine aJ<|pL [2,63] 2 (vS D)<|aa<|am ?_
    obtain rfl:=sj m;refine av (ao [vS D] rfl ⟨kr,trivial⟩ ?_);exact ⟨ae a2,rfl⟩

abbrev gC58 (ak:Nat):Prop:=∀ (ad:bh) (af:Nat) (a:bh) (b:Nat) (c:cr) (d:World) (e:Nat→Prop) (h:Lw e d) (ay:Rd bM d e ad af c.2.2.2.2.2.1) (f:Rd pcE d e a b c.2.2.2.2.2.2) (i:Rd (tabE 3 dl) d e (ro 3) 1 [vW 1]) (g:ByteArray),regex_text ak c=some g→Calls ar 58 ([.agg (bi c ad af a b)]:List Value).toArray d (dH fun v w'=>d.grownBy w' none∧v=dF [vS g])
set_option maxHeartbeats 4000000 in
set_option maxRecDepth 100000 in
theorem regex_text_step (ak:Nat) (z:gC58 ak):gC58 (ak+1):=by
 intro ad af j l d N X0 n ay u cs r0 c;have eK:Bl N N:=Below.refl _ _;rw[regex_text.eq_2]at c;refine aK Tryz.func58 rfl Tryz.ntmps58 kr ?_;refine bP [(0,.agg (bi d ad af j l))]<|aJ<|aD bp (bi d ad af j l) 25 kr kr ?_
 intro m w2 eL em eP fn;refine pN 1 [2] []<|bI<|p1 3 (vL none ([]:List ByteArray) 0)<|cn<|aJ<|p1 6 (pt m 6)<|br 23 em 6 rfl<|pN 2 [8,9] [(8,vI (lz d.2.2.2.2.2.2)),(9,vI 0)]<|aa<|ag c ?_;intro K h1 c
 refine aF (J:=fun a C=>∃ (i:bh) (v:Nat),Bl N C∧Sz w2 C∧aw sE 9 C (fun _=>False) i v K∧(Lo N i)∧(∀ g,aP i=some g→¬ (· =m) g)∧¬ (fun k=>aP i=some k) m∧bb C m 25 (bi d ad af j l)∧Qa a 82 [(1,bp m),(3,vL i K v)]) ?_ ?_
 ·refine aI<|bR (A:=fun (L:(List ByteArray) × Int) a M=>∃ (i:bh) (v:Nat),Bl N M∧Sz w2 M∧aw sE 9 M (fun _=>False) i v L.1∧(Lo N i)∧(∀ g,aP i=some g→¬ (· =m) g)∧¬ (fun k=>aP i=some k) m∧bb M m 25 (bi d ad af j l)∧Qa a 82 [(1,bp m),(3,vL i L.1 v),(7,vL j d.2.2.2.2.2.2 l),(8,vI (lz d.2.2.2.2.2.2)),(9,vI L.2)]) h1 ?_ ?_
  ·intro a hd hs al;exact ⟨none,0,(bg eK eL nb),bL,aw.nil sE 9 w2 (fun _=>False),nofun,nofun,nofun,em,hd,hs,aU al⟩
  ·rintro L r2 D eM a M ⟨Z,cv,E,cw,F,a4,a5,c0,a6,hd,hs,al⟩;refine aM ?_ hd hs al;refine aJ<|p1 10 (vB (decide (L.2<(lz d.2.2.2.2.2.2))))<|cn<|bw D (fun eq D=>?_) (fun eq D=>?_)
   ·refine aA<|aH<|aI<|aJ<|ag D ?_;intro ah c1 D
    refine cP .i64 7 (u.below E n) c1 aT ?_;obtain ⟨_,⟨_,_,rfl,rfl,⟨_,_,rfl,rfl,⟨_,_,rfl,rfl,⟨_,_,rfl,rfl,⟨_,_,rfl,rfl,⟨_,_,rfl,⟨an,a0,rfl,er⟩,⟨a1,a2,rfl,es⟩⟩⟩⟩⟩⟩⟩,et⟩:=cells_un (u.cellsK c1);refine laq 25 (aB j ((L.2:Int).toNat*7)) (dk (Pc.un ah) an a0 a1 a2) (bB (et M (fun k hk=>E.block k (n k hk)))) ?_;refine aD bp dI 25 kr kr ?_;intro b5 fo G eu B eQ;refine aG 25 0 (.agg (dk (Pc.un ah) an a0 a1 a2)) (dk (Pc.un ah) an a0 a1 a2) eu kr kr kr ?_;intro eN H c2 eR;refine aa<|az<|p1 13 (vL Z L.1 cv)<|cJ 25 b5 (dk (Pc.un ah) an a0 a1 a2) (bB c2)<|ag D ?_;intro a3 ev D;have dP:N.heap.size≤b5:=bY B E.size;have I:=bg (bg E G nb) H (aS dP);refine aq kr rfl kr enters58 (z an a0 a1 a2 (Pc.un ah) eN X0 (aY n I.size) (er.below I n) (es.below I n) (cs.below I n) a3 ev) ?_;rintro fp fq ⟨O,rfl⟩;refine aD (fun b=>.slice (ro b) 1 1) #[vS a3] 9 kr kr ?_;intro q eO a7 ew P eS;have a8:aw sE 9 eO (fun _=>False) (ro q) 1 ([a3]:List ByteArray):=bJ ew ⟨[vS a3],[],rfl,rfl,rfl⟩ (show 1≤maxLen by decide) (fun h=>h);have c3:=bg I O nb;have eT:Lo N (ro q):=dJ P c3.size;refine ag D ?_;intro c4 ex D;have a9:=dq B F.lt;have bd:=(ab O a7);refine ci sE (t:=54) (ty:=54) (e:=9) (a:=Z) (ax:=(ro q)) (cap:=cv) (cx:=1) (xs:=L.1) (ys:=([a3]:List ByteArray)) c4 (X:=(fun _=>False)) (Y:=(fun k=>aP (ro q)=some k)) co rfl rfl kr kr de info9 (((F.grown G fe nb).grown H fe (bU (aj a9))).grown bd fe nb) (a8.rd (Y:=fun k=>aP (ro q)=some k) fe (fun g e=>e)) ex (.inr fun _ _ _ _ _ h=>h) fe ?_;intro w en fr be ey r;refine ⟨nofun,?_⟩;have c5:=bg c3 a7 nb;have ez:Lo N w:=cA r a4 c5.size;have bl:=((a6.grown G nb).grown H (aj (ng (cg ((cd a6) _ rfl) ((bv B) _ rfl))))).grown bd nb;have eA:∀ g,aP w=some g→¬ (· =m) g:=bW r a5 (cd bl);have eB:¬ (fun k=>aP w=some k) m:=fun h=>cj r (fun h=>(c0) h) (bl.lt) h;have c7:=c2.grown bd nb;have eU:∀ g,aP w=some g→¬ (· =b5) g:=bW r (dv B F.lt) (cd c7);have eV:¬ (fun k=>aP w=some k) b5:=fun h=>cj r (fun h=>(a9) h) (c7.lt) h;have c8:=((F.grown G fe nb).grown H fe (bU (aj a9))).grown O fe nb;have eC:Ap Z (ro q):=fun g e hx=>nl ((b8 P) _ hx) (c8.lt g e);have eW:Ap w (ro q):=bW r eC (fun k (hk:aP (ro q)=some k)=>a8.lt k hk);have eD:Ap (ro q) Z:=fun g e hx=>nl ((b8 P) g e) (c8.lt _ hx);have eX:Ap (ro q) w:=fun g e h=>cj r (fun h=>((eD) g e) h) (a8.lt g e) h;refine p1 3 (vL w c4 en)<|aa<|bx<|az<|pL [9,18] 9 (vI (wI (L.2+1)))<|aa ?_;obtain rfl:=sj D;refine ac fun a hd hs al=>?_;exact ⟨(c4,wI (L.2+1)),rfl,w,en,(bg c5 be a4),(nt (nt (nt (nt (nt cw G.size) H.size) O.size) a7.size) be.size),ey,ez,eA,eB,(bl.grown be a5),hd,hs,aU al⟩
   ·refine bG<|bQ rfl ?_
    obtain rfl:=sj D;replace h1:=congrArg some (eM _ rfl);obtain rfl:=sj h1;refine ac fun a hd hs al=>?_;exact ⟨Z,cv,E,cw,F,a4,a5,c0,a6,hd,hs,aU al⟩
 ·rintro a C ⟨o,y,f,eY,s,eZ,e0,e1,p,hd,hs,al⟩;refine aM ?_ hd hs al;refine aH<|aJ<|p1 19 (bp m)<|br 3 p 0 rfl<|aa<|aI<|aJ<|pL [21,22] 21 (vB (d.1==1))<|aa<|bw c (fun dQ c=>?_) (fun dQ c=>?_)
  ·refine aJ<|p1 23 (pt m 1)<|br 3 p 1 rfl<|ag c ?_;intro bn dR c;refine aq kr rfl kr enters86 (regex_spell_ok ak d.2.1 (bu [92,46,94,36,42,43,63,40,41,91,93,123,125,124]) C bn dR) ?_;rintro e2 e3 ⟨dS,rfl⟩;refine p1 2 (vS bn)<|aa<|am ?_
   obtain rfl:=sj c;refine av (ao [vS bn] rfl ⟨kr,trivial⟩ ?_);exact ⟨ae (bg f dS nb),rfl⟩
  ·refine aJ<|pL [26,27] 26 (vB (d.1==2))<|aa<|bw c (fun dT c=>?_) (fun dT c=>?_)
   ·refine aJ<|p1 2 (vS (bu [46]))<|aa<|am ?_
    obtain rfl:=sj c;refine av (ao [vS (bu [46])] rfl ⟨kr,trivial⟩ ?_);exact ⟨ae f,rfl⟩
   ·refine aJ<|pL [28,29] 28 (vB (d.1==3))<|aa<|bw c (fun dU c=>?_) (fun dU c=>?_)
    ·refine aJ<|cJ 25 m (bi d ad af j l) (bB p)<|ag c ?_;intro bs dV c;refine aq kr rfl kr enters87 (regex_class_ok ak ad af j l d C X0 (aY n f.size) (ay.below f n) (u.below f n) bs dV) ?_;rintro e4 e5 ⟨dW,rfl⟩;refine p1 2 (vS bs)<|aa<|am ?_
     obtain rfl:=sj c;refine av (ao [vS bs] rfl ⟨kr,trivial⟩ ?_);exact ⟨ae (bg f dW nb),rfl⟩
    ·refine aJ<|pL [32,33] 32 (vB (d.1==4))<|aa<|bw c (fun dX c=>?_) (fun dX c=>?_)
     ·refine aJ<|p1 2 (vS (bu [94]))<|aa<|am ?_
      obtain rfl:=sj c;refine av (ao [vS (bu [94])] rfl ⟨kr,trivial⟩ ?_);exact ⟨ae f,rfl⟩
     ·refine aJ<|pL [34,35] 34 (vB (d.1==5))<|aa<|bw c (fun dY c=>?_) (fun dY c=>?_)
      ·refine aJ<|p1 2 (vS (bu [36]))<|aa<|am ?_
       obtain rfl:=sj c;refine av (ao [vS (bu [36])] rfl ⟨kr,trivial⟩ ?_);exact ⟨ae f,rfl⟩
      ·refine aJ<|pL [36,37] 36 (vB (d.1==6))<|aa<|bw c (fun dZ c=>?_) (fun dZ c=>?_)
       ·refine aJ<|p1 38 (pt m 3)<|br 4 p 3 rfl<|ag c ?_;intro bE d0 c;refine aq kr rfl kr enters88 (regex_pick_ok ak d.2.2.2.1 (bu [92,98]) (bu [92,66]) C bE d0) ?_;rintro e6 e7 ⟨d1,rfl⟩;refine p1 2 (vS bE)<|aa<|am ?_
        obtain rfl:=sj c;refine av (ao [vS bE] rfl ⟨kr,trivial⟩ ?_);exact ⟨ae (bg f d1 nb),rfl⟩
       ·refine aJ<|pL [41,42] 41 (vB (d.1==7))<|aa<|bw c (fun d2 c=>?_) (fun d2 c=>?_)
        ·refine aH<|bD kr ?_
         intro b0 Q;refine aR [0,4,5] (bA 10 [0,4,5]) 7 kr kr<|pN 2 [43,47] [(43,pt m 1),(47,vL o K y)]<|ag c ?_;intro c9 b7 c;have R:=s.grown Q fe nb;refine cP .i64 1 R.rdF b7 de<|aa<|au<|aL (cY b0 []) [1,2,3,6] [(1,some true),(2,some true),(6,some true),(3,some false)] (bA 10 [0,1,2,3,4,5,6]) 3 kr kr (aC _ _)<|ce 3 ⟨m,1,none⟩ (vI d.2.1) (bC fun w' hC'=>((hC'.box (p.grown Q nb) ba).cell 1 rfl)) ?_;refine p1 45 (vB (d.2.1==0))<|ce 9 (aB o ((0:Int).toNat*1)) (vS c9) (bC fun w' hC'=>((hC'.rd R.rdF R.lt bT).cell b7)) ?_;refine bP [(45,vB (d.2.1==0)),(49,vS c9)]<|ag c ?_;intro eE d3 c;refine clq enters88 (regex_pick_ok ak (d.2.1==0) (bu [40]) (bu [40,63,58]) b0 eE d3) ?_;rintro e8 e9 ⟨ca,rfl⟩;refine ⟨(fun _=>(aC b0 []).grown ca nb),?_⟩;refine aa<|au<|aR [7,8,9] (bA 10 [0,1,2,3,4,5,6,7,8,9]) 0 kr kr<|ag c ?_;intro fa d4 c;refine dz 9 d4<|ag c ?_;intro ds d5 c;refine dz 9 d5<|p1 2 (vS ds)<|aa<|au<|aX kr<|am ?_;obtain rfl:=sj c;refine av (ao [vS ds] rfl ⟨kr,trivial⟩ ?_);exact ⟨ae (bg f (ab Q ca) nb),rfl⟩
        ·refine aJ<|pL [52,53] 52 (vB (d.1==8))<|aa<|bw c (fun d6 c=>?_) (fun d6 c=>?_)
         ·refine aJ<|p1 54 (vL o K y)<|ag c ?_;intro b2 d7 c;refine aq kr rfl kr enters89 (strings_Join_ok ak o y K (bu []) C (fun k=>aP o=some k) s.lt s.rdF b2 d7) ?_;rintro fb fc ⟨d8,rfl⟩;refine p1 2 (vS b2)<|aa<|am ?_
          obtain rfl:=sj c;refine av (ao [vS b2] rfl ⟨kr,trivial⟩ ?_);exact ⟨ae (bg f d8 nb),rfl⟩
         ·refine aJ<|pL [56,57] 56 (vB (d.1==9))<|aa<|bw c (fun d9 c=>?_) (fun d9 c=>?_)
          ·refine aJ<|p1 58 (vL o K y)<|ag c ?_;intro S ea c;refine aq kr rfl kr enters89 (strings_Join_ok ak o y K (bu [124]) C (fun k=>aP o=some k) s.lt s.rdF S ea) ?_;rintro fd ff ⟨eb,rfl⟩;refine p1 2 (vS S)<|bP [(2,vS S)]<|aa<|am ?_
           obtain rfl:=sj c;refine av (ao [vS S] rfl ⟨kr,trivial⟩ ?_);exact ⟨ae (bg f eb nb),rfl⟩
          ·refine aJ<|pL [60,61] 60 (vB (d.1==10))<|aa<|bw c (fun ec c=>?_) (fun ec c=>?_)
           ·refine aH<|bD kr ?_
            intro b3 T;refine aR [0,1] (bA 7 [0,1]) 5 kr kr<|p1 62 (vL o K y)<|ag c ?_;intro eF cb c;have U:=s.grown T fe nb;refine cP .i64 1 U.rdF cb de<|aa<|au<|aL (cY b3 []) [2,3,4] [(2,some true),(3,some true),(4,some false)] (bA 7 [0,1,2,3,4]) 2 kr kr (aC _ _)<|bP [(1,bp m),(63,.pointer (some (aB o ((0:Int).toNat*1))))]<|ce 9 (aB o ((0:Int).toNat*1)) (vS eF) (bC fun w' hC'=>((hC'.rd U.rdF U.lt bT).cell cb)) ?_;refine cJ 25 m (bi d ad af j l) (bC fun w' hC'=>(hC'.box (p.grown T nb) ba)) ?_;refine ag c ?_;intro eG ed c;have x:=bg f T nb;refine clq enters90 (regex_times_ok ak ad af j l d b3 X0 (aY n x.size) (ay.below x n) (u.below x n) (cs.below x n) eG ed) ?_;rintro fg fh ⟨cc,rfl⟩;refine ⟨(fun _=>(aC b3 []).grown cc nb),?_⟩;refine aa<|au<|aR [5,6] (bA 7 [0,1,2,3,4,5,6]) 0 kr kr<|ag c ?_;intro dL ee c;refine dz 9 ee<|p1 2 (vS dL)<|aa<|au<|aX kr<|am ?_;obtain rfl:=sj c;refine av (ao [vS dL] rfl ⟨kr,trivial⟩ ?_);exact ⟨ae (bg x cc nb),rfl⟩
           ·refine aJ<|pL [68,69] 68 (vB (d.1==11))<|aa<|bw c (fun ef c=>?_) (fun ef c=>?_)
            ·refine aH<|bD kr ?_
             intro b4 V;refine aR [0,3,4] (bA 9 [0,3,4]) 6 kr kr<|pN 2 [70,73] [(70,pt m 3),(73,vL o K y)]<|bP [(70,pt m 3),(73,vL o K y)]<|ag c ?_;intro eH ch c;have W:=s.grown V fe nb;refine cP .i64 1 W.rdF ch de<|aa<|au<|aL (cY b4 []) [1,2,5] [(1,some true),(5,some true),(2,some false)] (bA 9 [0,1,2,3,4,5]) 3 kr kr (aC _ _)<|ce 4 ⟨m,3,none⟩ (vB d.2.2.2.1) (bC fun w' hC'=>((hC'.box (p.grown V nb) ba).cell 3 rfl)) ?_;refine ce 9 (aB o ((0:Int).toNat*1)) (vS eH) (bC fun w' hC'=>((hC'.rd W.rdF W.lt bT).cell ch)) ?_;refine ag c ?_;intro eI eg c;refine clq enters88 (regex_pick_ok ak d.2.2.2.1 (bu [40,63,61]) (bu [40,63,33]) b4 eI eg) ?_;rintro fi fj ⟨ck,rfl⟩;refine ⟨(fun _=>(aC b4 []).grown ck nb),?_⟩;refine aa<|au<|aR [6,7,8] (bA 9 [0,1,2,3,4,5,6,7,8]) 0 kr kr<|ag c ?_;intro fk eh c;refine dz 9 eh<|ag c ?_;intro dM ei c;refine dz 9 ei<|p1 2 (vS dM)<|aa<|au<|aX kr<|am ?_;obtain rfl:=sj c;refine av (ao [vS dM] rfl ⟨kr,trivial⟩ ?_);exact ⟨ae (bg f (ab V ck) nb),rfl⟩
            ·refine aA<|bx<|aJ<|p1 78 (pt m 1)<|bP [(78,pt m 1)]<|br 3 p 1 rfl<|ag c ?_;intro eJ ej c;refine aq kr rfl kr enters91 (strconv_Itoa_ok ak d.2.1 C X0 (aY n f.size) (cs.below f n) eJ ej) ?_;rintro fl fm ⟨ek,rfl⟩;refine ag c ?_;intro dN el c;refine dz 9 el<|p1 2 (vS dN)<|aa<|am ?_
             obtain rfl:=sj c;refine av (ao [vS dN] rfl ⟨kr,trivial⟩ ?_);exact ⟨ae (bg f ek nb),rfl⟩
theorem grp_regex_text_ok:∀ (ak:Nat),gC58 ak:=by
  intro ak
  induction ak with
  | zero=>unfold gC58;intros;rename_i a;rw[regex_text.eq_1]at a;cases a
  | succ ak ih=>exact regex_text_step ak ih

theorem regex_text_ok (ak:Nat):
    gC58 ak:=
  grp_regex_text_ok ak

theorem regex_Parse_ok (ak:Nat) (w:ByteArray) (n:World) (j:Nat→Prop) (f:Lw j n) (c5:Rd bE n j (ro 0) 256 cp) (c7:Rd (prE (iE .u8) (iE .u8)) n j (ro 1) 16 cN) (d8:Rd (tabE 3 dl) n j (ro 3) 1 [vW 1]) (r0:cr × aW) (b:regex_Parse ak w=some r0):
    Cs 30 [vS w] n (dH fun v w'=>n.grownBy w' none∧∃ (bc:bh) (bq:Nat),∃ (ax:Nat→Prop),∃ (a0:bh) (a1:Nat),∃ (a2:Nat→Prop),v=dF [.agg (bi r0.1 bc bq a0 a1),.agg (bS r0.2)]∧Rd bM w' ax bc bq r0.1.2.2.2.2.2.1∧(Sxb ax w' j n)∧Rd pcE w' a2 a0 a1 r0.1.2.2.2.2.2.2∧(Sxb a2 w' j n)):=by
 have T:Bl n n:=Below.refl _ _;unfold regex_Parse at b;refine calls_runM Tryz.func30 rfl Tryz.ntmps30 kr ?_;refine bP [(0,vS w)]<|aJ<|aD bp dI 25 kr kr ?_
 intro g w2 c8 U V em;refine aD bp #[vI 0,vI 0] 31 kr kr ?_;intro B w8 bn dL a3 eg;refine cn<|aI<|aJ<|pL [5,6,7,8] 5 (vB (decide ((bz w)>200)))<|ag b ?_;intro d9 dM b;refine bK (s:=5) (v:=(vB (decide ((bz w)>200)))) (v':=(vB d9)) kr (congrArg (Value.bool) (sj dM))<|aa<|bw b (fun dN b=>?_) (fun dN b=>?_)
 ·cases b
 ·refine aJ<|p1 12 (vS w)<|ag b ?_;intro c9 dO b;have G:=bg T (ab c8 bn) nb;refine aq kr rfl kr enters41 (utf8_ValidString_ok ak w w8 j (aY f G.size) (c5.below G f) (c7.below G f) c9 dO) ?_;rintro en eo ⟨N,rfl⟩;refine pL [11,14] 11 (vB (!c9))<|aa<|bw b (fun dP b=>?_) (fun dP b=>?_)
  ·cases b
  ·refine aA<|bx<|aJ<|p1 17 (.func (.func 55) #[] #[bp g,bp B]) ?_
   refine gv_defer (d:=⟨.fn (.func 55) #[bp g,bp B],#[]⟩) rfl kr kr kr ?_;refine bI<|pL [18,19] 19 (.agg #[vS w,vI 0,vI 0,vB false,vB false])<|aD bp #[vS w,vI 0,vI 0,vB false,vB false] 117 kr kr ?_;intro l ea H dQ a4 eh;refine p1 4 (bp l)<|bI<|p1 21 (bp l)<|ag b ?_;intro c dR b;have bs:=(ab N H);have x:=bg G bs nb;have O:n.heap.size≤l:=bY a4 (bg G N nb).size;refine aq kr rfl kr enters56 (regex_parser_alternatives_ok ak l (w,0,0,false,false) ea j (fun k hk=>⟨(aY f x.size) k hk,fun e=>(fun (hx:j l)=>nl O (f _ hx)) (e ▸ hk)⟩) dQ (c5.below x f) (c7.below x f) c dR) ?_;rintro ep ds ⟨I,o,p,y,q,r,z,rfl,bA,C,b0,D,dS⟩;have W:∀ k,y k→k<ds.heap.size:=fun k hk=>(C k hk).1;have dT:∀ k,y k→j k∨n.heap.size≤k:=fun k hk=>(C k hk).2.elim (fun h=>(fun k (hk:j k)=>Or.inl hk) k h) (fun h=>.inr (Nat.le_trans x.size h));have X:∀ k,z k→k<ds.heap.size:=fun k hk=>(D k hk).1;have dU:∀ k,z k→j k∨n.heap.size≤k:=fun k hk=>(D k hk).2.elim (fun h=>(fun k (hk:j k)=>Or.inl hk) k h) (fun h=>.inr (Nat.le_trans x.size h));have Y:=(ab bn bs);have K:=cg ((cd U) _ rfl) ((bv a3) _ rfl);have P:=dL.grown N nb;have Z:=cg ((cd P) _ rfl) ((bv a4) _ rfl);have b2:=cC K Z;refine aG 25 0 (.agg (bi c.1 o p q r)) (bi c.1 o p q r) ((U.grown Y nb).grown I (aj (ng b2))) kr kr kr ?_;intro eb i b3 ei;refine cn<|aI<|aJ<|pL [24,25,26] 26 (bp l)<|bP [(2,bp g),(3,bp B),(4,bp l),(26,bp l)] ?_;have E:=dS.grown i (aj (Nat.ne_of_lt b2));refine br 9 E 0 rfl<|pL [23,28] 23 (vB (!(c.2.1.toList==(bu []).toList)))<|aa<|bw b (fun dV b=>?_) (fun dV b=>?_)
   ·cases b
   ·refine aJ<|pL [32,33,34] 34 (pt l 3)<|br 4 E 3 rfl<|p1 31 (vB c.2.2.2.2.1)<|aa<|bw b (fun dW b=>?_) (fun dW b=>?_)
    ·cases b
    ·refine aJ<|ag b ?_;intro ec h1 b
     refine aN (J:=fun a A=>Bl n A∧Sz eb A∧bb A g 25 (bi c.1 o p q r)∧bb A B 31 #[vI 0,vI 0]∧bb A l 117 (cO c.2)∧Rd bM A y o p c.1.2.2.2.2.2.1∧Rd pcE A z q r c.1.2.2.2.2.2.2∧a.defers=[{ target:=.fn (.func 55) #[bp g,bp B],args:=#[]}]∧a.tmps.size=69∧Ok [(2,bp g),(3,bp B),(4,bp l),(38,vB ec)] a.tmps) ?_ ?_
     ·refine pL [39,40,41] 41 (pt l 1)<|br 3 E 1 rfl<|pL [43,44] 44 (vB (decide (c.2.2.1>60)))<|cf 44 h1 (fun dX h1=>?_) (fun dX h1=>?_)
      ·refine pL [38,45,46,47,48,49,50] 38 (vB true)<|aa ?_;obtain rfl:=sj h1;refine ac fun a hd hs al=>?_;have Q:n.heap.size≤g:=bY V T.size;have b5:=U.grown Y nb;have dY:¬ y g:=fun h=>((C _ h).2.elim (fun h=>((fun (hx:j g)=>nl Q (f _ hx))) h) (fun h=>nl h (b5.lt)));have dZ:¬ z g:=fun h=>((D _ h).2.elim (fun h=>((fun (hx:j g)=>nl Q (f _ hx))) h) (fun h=>nl h (b5.lt)));exact ⟨(bg (bg x I (aS O)) i (aS Q)),bL,b3,(((P.grown H nb).grown I (aj (ng Z))).grown i (aj (Nat.ne_of_lt K))),E,(bA.grown i W (aj dY)),(b0.grown i X (aj dZ)),hd,hs,aU al⟩
      ·refine pL [45,46,47] 47 (pt l 2)<|br 3 E 2 rfl<|pL [38,49,50] 38 (vB (decide (c.2.2.2.1>9)))<|aa ?_;obtain rfl:=sj h1;refine ac fun a hd hs al=>?_;have R:n.heap.size≤g:=bY V T.size;have ca:=U.grown Y nb;have d0:¬ y g:=fun h=>((C _ h).2.elim (fun h=>((fun (hx:j g)=>nl R (f _ hx))) h) (fun h=>nl h (ca.lt)));have d1:¬ z g:=fun h=>((D _ h).2.elim (fun h=>((fun (hx:j g)=>nl R (f _ hx))) h) (fun h=>nl h (ca.lt)));exact ⟨(bg (bg x I (aS O)) i (aS R)),bL,b3,(((P.grown H nb).grown I (aj (ng Z))).grown i (aj (Nat.ne_of_lt K))),E,(bA.grown i W (aj d0)),(b0.grown i X (aj d1)),hd,hs,aU al⟩
     ·rintro a A ⟨ah,F,cb,d2,d3,cc,ch,hd,hs,al⟩;refine aM ?_ hd hs al;refine bw b (fun d4 b=>?_) (fun d4 b=>?_)
      ·cases b
      ·refine aJ<|pL [54,55,56] 56 (pt l 4)<|br 4 d3 4 rfl<|p1 53 (vB c.2.2.2.2.2)<|aa<|bw b (fun d5 b=>?_) (fun d5 b=>?_)
       ·cases b
       ·refine aJ<|cJ 25 g (bi c.1 o p q r) (bB cb)<|ag b ?_;intro ck d6 b;have an:=aY W i.size;have S:=aY X i.size;refine aq kr rfl kr enters58 (regex_text_ok ak o p q r c.1 A (fun k=>y k∨z k∨j k) (fun k hk=>(hk).elim (fun h=>(aY an F) k h) (fun h=>(h).elim (fun h=>(aY S F) k h) (fun h=>(aY f ah.size) k h))) (cc.wide (fun k hk=>(.inl hk))) (ch.wide (fun k hk=>(.inr (.inl hk)))) ((d8.below ah f).wide (fun k hk=>(.inr (.inr hk)))) ck d6) ?_;rintro ej ek ⟨m,rfl⟩;refine pL [60,63,64] 60 (vB (decide ((bz ck)>200)))<|ag b ?_;intro d7 cv b;refine bK (s:=60) (v:=(vB (decide ((bz ck)>200)))) (v':=(vB d7)) kr (congrArg (Value.bool) (sj cv))<|aa<|bw b (fun cw b=>?_) (fun cw b=>?_)
        ·cases b
        ·refine aA<|bx<|aH<|az ?_
         have a5:=cb.grown m nb;refine cJ 25 g (bi c.1 o p q r) (bB a5)<|p1 68 (.agg #[vI 0,vI 0])<|aG 25 0 (.agg (bi c.1 o p q r)) (bi c.1 o p q r) a5 kr kr kr ?_;intro el t cx ed;refine aG 31 0 (.agg #[vI 0,vI 0]) #[vI 0,vI 0] ((d2.grown m nb).grown t (aj (Nat.ne_of_lt K))) kr kr kr ?_;intro cs u c0 ee;refine aa<|am ?_
         obtain rfl:=sj b;refine av (gv_left (invoke55 _) (inert55 _ _)<|gv_doneM [.agg (bi c.1 o p q r),.agg #[vI 0,vI 0]] rfl ⟨⟨⟨g,0,none⟩,kr,run_loadVar_row cs g _ 25 _ _ _ (cx.grown u (aj (ng K))) b9 rfl kr⟩,⟨⟨B,0,none⟩,kr,run_loadVar_row cs B _ 31 _ _ _ c0 aO rfl kr⟩,trivial⟩ ?_);have L:n.heap.size≤g:=bY V T.size;have M:n.heap.size≤B:=bY a3 (bg T c8 nb).size;have a6:=U.grown (ab (ab bn N) H) nb;have c1:¬ y g:=fun h=>((C _ h).2.elim (fun h=>((fun (hx:j g)=>nl L (f _ hx))) h) (fun h=>nl h (a6.lt)));have a7:=aY (aY an F) m.size;have a8:=P.grown H nb;have c2:¬ y B:=fun h=>((C _ h).2.elim (fun h=>((fun (hx:j B)=>nl M (f _ hx))) h) (fun h=>nl h (a8.lt)));have a9:=aY a7 t.size;have c3:¬ z g:=fun h=>((D _ h).2.elim (fun h=>((fun (hx:j g)=>nl L (f _ hx))) h) (fun h=>nl h (a6.lt)));have bd:=aY (aY S F) m.size;have c4:¬ z B:=fun h=>((D _ h).2.elim (fun h=>((fun (hx:j B)=>nl M (f _ hx))) h) (fun h=>nl h (a8.lt)));have be:=aY bd t.size;exact ⟨ae (bg (bg (bg ah m nb) t (aS L)) u (aS M)),o,p,y,q,r,z,rfl,(((cc.grown m (aY an F) nb).grown t a7 (aj c1)).grown u a9 (aj c2)),sxq (aY a9 u.size) dT,(((ch.grown m (aY S F) nb).grown t bd (aj c3)).grown u be (aj c4)),sxq (aY be u.size) dU⟩

theorem regex_flat_ok (ak:Nat) (ad:bh) (af:Nat) (g:bh) (h:Nat) (c:cr) (k:World) (w:Nat→Prop) (ca:Lw w k) (ay:Rd bM k w ad af c.2.2.2.2.2.1) (a7:Rd pcE k w g h c.2.2.2.2.2.2) (r0:Bool) (m:regex_flat ak c=some r0):
    Cs 114 [.agg (bi c ad af g h)] k (G1 k [vB r0]):=by
 have p:Bl k k:=Below.refl _ _;unfold regex_flat at m;refine aK Tryz.func114 rfl Tryz.ntmps114 kr ?_;refine bP [(0,.agg (bi c ad af g h))]<|aJ<|aD bp (bi c ad af g h) 25 kr kr ?_
 intro f w2 q j b3 cb;refine pN 1 [2] []<|bI<|ag m ?_;intro x b m
 refine aN (J:=fun a r=>Bl k r∧Sz w2 r∧bb r f 25 (bi c ad af g h)∧Qa a 76 [(1,bp f),(3,vB x)]) ?_ ?_
 ·refine p1 5 (bp f)<|br 3 j 0 rfl<|pL [7,8] 8 (vB (c.1==1))<|cf 8 b (fun a9 b=>?_) (fun a9 b=>?_)
  ·refine pL [3,9,10,11,12,13,14,15,16,17,18,19,20,21,22] 3 (vB true)<|aa ?_;obtain rfl:=sj b;refine ac fun a hd hs al=>?_;exact ⟨(bg p q nb),bL,j,hd,hs,aU al⟩
  ·refine p1 9 (bp f)<|br 3 j 0 rfl<|pL [11,12,13] 13 (vB (c.1==7))<|cf 13 b (fun y b=>?_) (fun y b=>?_)
   ·refine pL [3,14,15,16,17,18,19,20,21,22] 3 (vB true)<|aa ?_;obtain rfl:=sj b;refine ac fun a hd hs al=>?_;exact ⟨(bg p q nb),bL,j,hd,hs,aU al⟩
   ·refine p1 14 (bp f)<|br 3 j 0 rfl<|pL [16,17,18] 18 (vB (c.1==10))<|cf 18 b (fun z b=>?_) (fun z b=>?_)
    ·refine pL [3,19,20,21,22] 3 (vB true)<|aa ?_;obtain rfl:=sj b;refine ac fun a hd hs al=>?_;exact ⟨(bg p q nb),bL,j,hd,hs,aU al⟩
    ·refine p1 19 (bp f)<|br 3 j 0 rfl<|pL [3,21,22] 3 (vB (c.1==12))<|bP [(1,bp f),(3,vB (c.1==12))]<|aa ?_;obtain rfl:=sj b;refine ac fun a hd hs al=>?_;exact ⟨(bg p q nb),bL,j,hd,hs,aU al⟩
 ·rintro a r ⟨o,b4,i,hd,hs,al⟩;refine aM ?_ hd hs al;refine aJ<|ag m ?_;intro l b m
  refine aN (J:=fun a n=>Bl k n∧Sz r n∧bb n f 25 (bi c ad af g h)∧Qa a 76 [(1,bp f),(3,vB x),(4,vB l)]) ?_ ?_
  ·refine p1 23 (bp f)<|br 3 i 0 rfl<|pL [25,26] 26 (vB (c.1==3))<|cf 26 b (fun A b=>?_) (fun A b=>?_)
   ·refine pL [4,27,28,29,30,31,32,33,34,35] 4 (vB true)<|aa ?_;obtain rfl:=sj b;exact ac fun a hd hs al=>⟨o,bL,i,hd,hs,aU al⟩
   ·refine p1 27 (bp f)<|br 3 i 0 rfl<|pL [29,30,31] 31 (vB (c.1==6))<|cf 31 b (fun B b=>?_) (fun B b=>?_)
    ·refine pL [4,32,33,34,35] 4 (vB true)<|aa ?_;obtain rfl:=sj b;exact ac fun a hd hs al=>⟨o,bL,i,hd,hs,aU al⟩
    ·refine p1 32 (bp f)<|br 3 i 0 rfl<|pL [4,34,35] 4 (vB (c.1==11))<|aa ?_;obtain rfl:=sj b;exact ac fun a hd hs al=>⟨o,bL,i,hd,hs,aU al⟩
  ·rintro a n ⟨e,b5,d,hd,hs,al⟩;refine aM ?_ hd hs al;refine aJ<|ag m ?_;intro u b m
   refine aN (J:=fun a t=>Bl k t∧Sz n t∧Qa a 76 [(2,vB u)]) ?_ ?_
   ·refine pL [36,37] 37 (vB x)<|cf 37 b (fun C b=>?_) (fun C b=>?_)
    ·refine pN 6 [38,39,40,41,42,43] [(42,vB true),(43,bp f)]<|br 3 d 0 rfl<|pL [45,46] 46 (vB (c.1==10))<|cf 46 b (fun D b=>?_) (fun D b=>?_)
     ·refine pN 13 [47,48,49,50,51,52,53,54,55,56,57,58,59] [(57,vB true),(59,vB l)]<|cf 59 b (fun E b=>?_) (fun E b=>?_)
      ·refine pN 7 [60,61,62,63,64,65,66] [(65,vB true),(66,bp f)]<|br 3 d 0 rfl<|pL [68,69] 69 (vB (c.1==3))<|cf 69 b (fun F b=>?_) (fun F b=>?_)
       ·refine pL [2,70,71,72,73,74,75] 2 (vB true)<|aa ?_;obtain rfl:=sj b;exact ac fun a hd hs al=>⟨e,bL,hd,hs,aU al⟩
       ·refine p1 70 (pt f 5)<|br 22 d 5 rfl<|pL [2,72,73,74,75] 2 (vB ((lz c.2.2.2.2.2.1)==0))<|ag b ?_;intro bd G b;refine bK (s:=2) (v:=(vB ((lz c.2.2.2.2.2.1)==0))) (v':=(vB bd)) kr (congrArg (Value.bool) (sj G))<|aa ?_;obtain rfl:=sj b;exact ac fun a hd hs al=>⟨e,bL,hd,hs,aU al⟩
      ·refine p1 60 (pt f 3)<|br 4 d 3 rfl<|pL [62,63,64,65] 65 (vB (!c.2.2.2.1))<|cf 65 b (fun H b=>?_) (fun H b=>?_)
       ·refine p1 66 (bp f)<|br 3 d 0 rfl<|pL [68,69] 69 (vB (c.1==3))<|cf 69 b (fun I b=>?_) (fun I b=>?_)
        ·refine pL [2,70,71,72,73,74,75] 2 (vB true)<|aa ?_;obtain rfl:=sj b;exact ac fun a hd hs al=>⟨e,bL,hd,hs,aU al⟩
        ·refine p1 70 (pt f 5)<|br 22 d 5 rfl<|pL [2,72,73,74,75] 2 (vB ((lz c.2.2.2.2.2.1)==0))<|bP [(2,vB ((lz c.2.2.2.2.2.1)==0))]<|ag b ?_;intro be K b;refine bK (s:=2) (v:=(vB ((lz c.2.2.2.2.2.1)==0))) (v':=(vB be)) kr (congrArg (Value.bool) (sj K))<|aa ?_;obtain rfl:=sj b;exact ac fun a hd hs al=>⟨e,bL,hd,hs,aU al⟩
       ·refine pL [2,66,67,68,69,70,71,72,73,74,75] 2 (vB false)<|aa ?_;obtain rfl:=sj b;exact ac fun a hd hs al=>⟨e,bL,hd,hs,aU al⟩
     ·refine p1 47 (pt f 2)<|br 3 d 2 rfl<|pL [49,50] 50 (vB (c.2.2.1==0))<|cf 50 b (fun L b=>?_) (fun L b=>?_)
      ·refine p1 51 (pt f 4)<|br 4 d 4 rfl<|pL [53,54,55,56,57] 57 (vB (!c.2.2.2.2.1))<|cf 57 b (fun M b=>?_) (fun M b=>?_)
       ·refine pL [58,59] 59 (vB l)<|cf 59 b (fun N b=>?_) (fun N b=>?_)
        ·refine pN 7 [60,61,62,63,64,65,66] [(65,vB true),(66,bp f)]<|br 3 d 0 rfl<|pL [68,69] 69 (vB (c.1==3))<|bP [(1,bp f),(65,vB true),(69,vB (c.1==3))]<|cf 69 b (fun O b=>?_) (fun O b=>?_)
         ·refine pL [2,70,71,72,73,74,75] 2 (vB true)<|aa ?_;obtain rfl:=sj b;exact ac fun a hd hs al=>⟨e,bL,hd,hs,aU al⟩
         ·refine p1 70 (pt f 5)<|br 22 d 5 rfl<|pL [2,72,73,74,75] 2 (vB ((lz c.2.2.2.2.2.1)==0))<|ag b ?_;intro bl P b;refine bK (s:=2) (v:=(vB ((lz c.2.2.2.2.2.1)==0))) (v':=(vB bl)) kr (congrArg (Value.bool) (sj P))<|aa ?_;obtain rfl:=sj b;exact ac fun a hd hs al=>⟨e,bL,hd,hs,aU al⟩
        ·refine p1 60 (pt f 3)<|br 4 d 3 rfl<|pL [62,63,64,65] 65 (vB (!c.2.2.2.1))<|bP [(1,bp f),(65,vB (!c.2.2.2.1))]<|cf 65 b (fun Q b=>?_) (fun Q b=>?_)
         ·refine p1 66 (bp f)<|br 3 d 0 rfl<|pL [68,69] 69 (vB (c.1==3))<|cf 69 b (fun R b=>?_) (fun R b=>?_)
          ·refine pL [2,70,71,72,73,74,75] 2 (vB true)<|aa ?_;obtain rfl:=sj b;exact ac fun a hd hs al=>⟨e,bL,hd,hs,aU al⟩
          ·refine p1 70 (pt f 5)<|br 22 d 5 rfl<|pL [2,72,73,74,75] 2 (vB ((lz c.2.2.2.2.2.1)==0))<|ag b ?_;intro bn S b;refine bK (s:=2) (v:=(vB ((lz c.2.2.2.2.2.1)==0))) (v':=(vB bn)) kr (congrArg (Value.bool) (sj S))<|aa ?_;obtain rfl:=sj b;exact ac fun a hd hs al=>⟨e,bL,hd,hs,aU al⟩
         ·refine pL [2,66,67,68,69,70,71,72,73,74,75] 2 (vB false)<|aa ?_;obtain rfl:=sj b;exact ac fun a hd hs al=>⟨e,bL,hd,hs,aU al⟩
       ·refine pL [2,58,59,60,61,62,63,64,65,66,67,68,69,70,71,72,73,74,75] 2 (vB false)<|aa ?_;obtain rfl:=sj b;exact ac fun a hd hs al=>⟨e,bL,hd,hs,aU al⟩
      ·refine pL [2,51,52,53,54,55,56,57,58,59,60,61,62,63,64,65,66,67,68,69,70,71,72,73,74,75] 2 (vB false)<|aa ?_;obtain rfl:=sj b;exact ac fun a hd hs al=>⟨e,bL,hd,hs,aU al⟩
    ·refine p1 38 (pt f 1)<|br 3 d 1 rfl<|pL [40,41,42] 42 (vB (c.2.1==0))<|cf 42 b (fun T b=>?_) (fun T b=>?_)
     ·refine p1 43 (bp f)<|br 3 d 0 rfl<|pL [45,46] 46 (vB (c.1==10))<|cf 46 b (fun U b=>?_) (fun U b=>?_)
      ·refine pN 13 [47,48,49,50,51,52,53,54,55,56,57,58,59] [(57,vB true),(59,vB l)]<|cf 59 b (fun V b=>?_) (fun V b=>?_)
       ·refine pN 7 [60,61,62,63,64,65,66] [(65,vB true),(66,bp f)]<|br 3 d 0 rfl<|pL [68,69] 69 (vB (c.1==3))<|cf 69 b (fun W b=>?_) (fun W b=>?_)
        ·refine pL [2,70,71,72,73,74,75] 2 (vB true)<|aa ?_;obtain rfl:=sj b;exact ac fun a hd hs al=>⟨e,bL,hd,hs,aU al⟩
        ·refine p1 70 (pt f 5)<|br 22 d 5 rfl<|pL [2,72,73,74,75] 2 (vB ((lz c.2.2.2.2.2.1)==0))<|bP [(2,vB ((lz c.2.2.2.2.2.1)==0))]<|ag b ?_;intro bs X b;refine bK (s:=2) (v:=(vB ((lz c.2.2.2.2.2.1)==0))) (v':=(vB bs)) kr (congrArg (Value.bool) (sj X))<|aa ?_;obtain rfl:=sj b;exact ac fun a hd hs al=>⟨e,bL,hd,hs,aU al⟩
       ·refine p1 60 (pt f 3)<|br 4 d 3 rfl<|pL [62,63,64,65] 65 (vB (!c.2.2.2.1))<|cf 65 b (fun Y b=>?_) (fun Y b=>?_)
        ·refine p1 66 (bp f)<|br 3 d 0 rfl<|pL [68,69] 69 (vB (c.1==3))<|bP [(1,bp f),(65,vB true),(69,vB (c.1==3))]<|cf 69 b (fun Z b=>?_) (fun Z b=>?_)
         ·refine pL [2,70,71,72,73,74,75] 2 (vB true)<|aa ?_;obtain rfl:=sj b;exact ac fun a hd hs al=>⟨e,bL,hd,hs,aU al⟩
         ·refine p1 70 (pt f 5)<|br 22 d 5 rfl<|pL [2,72,73,74,75] 2 (vB ((lz c.2.2.2.2.2.1)==0))<|ag b ?_;intro bA ah b;refine bK (s:=2) (v:=(vB ((lz c.2.2.2.2.2.1)==0))) (v':=(vB bA)) kr (congrArg (Value.bool) (sj ah))<|aa ?_;obtain rfl:=sj b;exact ac fun a hd hs al=>⟨e,bL,hd,hs,aU al⟩
        ·refine pL [2,66,67,68,69,70,71,72,73,74,75] 2 (vB false)<|aa ?_;obtain rfl:=sj b;exact ac fun a hd hs al=>⟨e,bL,hd,hs,aU al⟩
      ·refine p1 47 (pt f 2)<|br 3 d 2 rfl<|pL [49,50] 50 (vB (c.2.2.1==0))<|cf 50 b (fun an b=>?_) (fun an b=>?_)
       ·refine p1 51 (pt f 4)<|br 4 d 4 rfl<|pL [53,54,55,56,57] 57 (vB (!c.2.2.2.2.1))<|cf 57 b (fun ax b=>?_) (fun ax b=>?_)
        ·refine pL [58,59] 59 (vB l)<|bP [(1,bp f),(57,vB true),(59,vB l)]<|cf 59 b (fun a0 b=>?_) (fun a0 b=>?_)
         ·refine pN 7 [60,61,62,63,64,65,66] [(65,vB true),(66,bp f)]<|br 3 d 0 rfl<|pL [68,69] 69 (vB (c.1==3))<|cf 69 b (fun a1 b=>?_) (fun a1 b=>?_)
          ·refine pL [2,70,71,72,73,74,75] 2 (vB true)<|aa ?_;obtain rfl:=sj b;exact ac fun a hd hs al=>⟨e,bL,hd,hs,aU al⟩
          ·refine p1 70 (pt f 5)<|br 22 d 5 rfl<|pL [2,72,73,74,75] 2 (vB ((lz c.2.2.2.2.2.1)==0))<|ag b ?_;intro bE a2 b;refine bK (s:=2) (v:=(vB ((lz c.2.2.2.2.2.1)==0))) (v':=(vB bE)) kr (congrArg (Value.bool) (sj a2))<|aa ?_;obtain rfl:=sj b;exact ac fun a hd hs al=>⟨e,bL,hd,hs,aU al⟩
         ·refine p1 60 (pt f 3)<|br 4 d 3 rfl<|pL [62,63,64,65] 65 (vB (!c.2.2.2.1))<|cf 65 b (fun a3 b=>?_) (fun a3 b=>?_)
          ·refine p1 66 (bp f)<|br 3 d 0 rfl<|pL [68,69] 69 (vB (c.1==3))<|cf 69 b (fun a4 b=>?_) (fun a4 b=>?_)
           ·refine pL [2,70,71,72,73,74,75] 2 (vB true)<|aa ?_;obtain rfl:=sj b;exact ac fun a hd hs al=>⟨e,bL,hd,hs,aU al⟩
           ·refine p1 70 (pt f 5)<|br 22 d 5 rfl<|pL [2,72,73,74,75] 2 (vB ((lz c.2.2.2.2.2.1)==0))<|ag b ?_;intro b0 a5 b;refine bK (s:=2) (v:=(vB ((lz c.2.2.2.2.2.1)==0))) (v':=(vB b0)) kr (congrArg (Value.bool) (sj a5))<|aa ?_;obtain rfl:=sj b;exact ac fun a hd hs al=>⟨e,bL,hd,hs,aU al⟩
          ·refine pL [2,66,67,68,69,70,71,72,73,74,75] 2 (vB false)<|aa ?_;obtain rfl:=sj b;exact ac fun a hd hs al=>⟨e,bL,hd,hs,aU al⟩
        ·refine pL [2,58,59,60,61,62,63,64,65,66,67,68,69,70,71,72,73,74,75] 2 (vB false)<|bP [(2,vB false)]<|aa ?_;obtain rfl:=sj b;exact ac fun a hd hs al=>⟨e,bL,hd,hs,aU al⟩
       ·refine pL [2,51,52,53,54,55,56,57,58,59,60,61,62,63,64,65,66,67,68,69,70,71,72,73,74,75] 2 (vB false)<|aa ?_;obtain rfl:=sj b;exact ac fun a hd hs al=>⟨e,bL,hd,hs,aU al⟩
     ·refine pL [2,43,44,45,46,47,48,49,50,51,52,53,54,55,56,57,58,59,60,61,62,63,64,65,66,67,68,69,70,71,72,73,74,75] 2 (vB false)<|aa ?_;obtain rfl:=sj b;exact ac fun a hd hs al=>⟨e,bL,hd,hs,aU al⟩
   ·rintro a t ⟨a6,b7,hd,hs,al⟩;refine aM ?_ hd hs al;refine am ?_;obtain rfl:=sj m;refine av (ao [vB u] rfl ⟨kr,trivial⟩ ?_);exact ⟨ae a6,rfl⟩

theorem utf8_ValidRune_ok (ak:Nat) (b:Int) (d:World) (m:Bool) (c:utf8_ValidRune ak b=some m):
    Cs 162 [vR b] d (G1 d [vB m]):=by
 have f:Bl d d:=Below.refl _ _;unfold utf8_ValidRune at c;refine aK Tryz.func162 rfl Tryz.ntmps162 kr ?_;refine bP [(0,vR b)]<|aJ<|pN 1 [2] []<|cn<|aI<|aJ<|aN (J:=fun a n=>d=n∧Qa a 17 [(0,vR b),(3,vB ((decide (0≤b))&&(decide (b<55296))))]) ?_ ?_
 ·refine pL [4,5,6] 6 (vB (decide (0≤b)))<|bm (s:=6) (g:=(decide (0≤b))) kr (fun h=>?_) (fun h=>?_)
  ·refine pL [3,7,8,9] 3 (vB (decide (b<55296)))<|aa<|bf [0,3] (σ':=[(0,vR b),(3,vB (decide (b<55296)))]) kr<|ac fun a hd hs al=>⟨rfl,hd,hs,?_⟩;obtain ⟨k,l,_⟩:=al;exact ⟨k,(by rw[h];exact l),trivial⟩
  ·refine pL [3,7,8,9] 3 (vB false)<|aa<|bf [0,3] (σ':=[(0,vR b),(3,vB false)]) kr<|ac fun a hd hs al=>⟨rfl,hd,hs,?_⟩;obtain ⟨k,l,_⟩:=al;exact ⟨k,(by rw[h];exact l),trivial⟩
 ·rintro a n ⟨e,hd,hs,al⟩;subst e;refine aM ?_ hd hs al;refine bw c (fun o c=>?_) (fun o c=>?_)
  ·refine aJ<|p1 2 (vB true)<|aa<|am ?_
   obtain rfl:=sj c;refine av (ao [vB true] rfl ⟨kr,trivial⟩ ?_);exact ⟨ae f,rfl⟩
  ·refine aJ<|aN (J:=fun a p=>d=p∧Qa a 17 [(10,vB ((decide (57343<b))&&(decide (b≤1114111))))]) ?_ ?_
   ·refine pL [11,12,13] 13 (vB (decide (57343<b)))<|bm (s:=13) (g:=(decide (57343<b))) kr (fun i=>?_) (fun i=>?_)
    ·refine pL [10,14,15,16] 10 (vB (decide (b≤1114111)))<|aa<|bf [10] (σ':=[(10,vB (decide (b≤1114111)))]) kr<|ac fun a hd hs al=>⟨rfl,hd,hs,?_⟩;obtain ⟨j,_⟩:=al;exact ⟨(by rw[i];exact j),trivial⟩
    ·refine pL [10,14,15,16] 10 (vB false)<|aa<|bf [10] (σ':=[(10,vB false)]) kr<|ac fun a hd hs al=>⟨rfl,hd,hs,?_⟩;obtain ⟨j,_⟩:=al;exact ⟨(by rw[i];exact j),trivial⟩
   ·rintro a p ⟨e,hd,hs,al⟩;subst e;refine aM ?_ hd hs al;refine bw c (fun q c=>?_) (fun q c=>?_)
    ·refine aJ<|p1 2 (vB true)<|aa<|am ?_
     obtain rfl:=sj c;refine av (ao [vB true] rfl ⟨kr,trivial⟩ ?_);exact ⟨ae f,rfl⟩
    ·refine aA<|bx<|aJ<|p1 2 (vB false)<|aa<|am ?_
     obtain rfl:=sj c;refine av (ao [vB false] rfl ⟨kr,trivial⟩ ?_);exact ⟨ae f,rfl⟩

theorem regex_scalar_ok (ak:Nat) (b:Int) (d:World) (j:Bool) (f:regex_scalar ak b=some j):
    Cs 137 [vI b] d (G1 d [vB j]):=by
 have e:Bl d d:=Below.refl _ _;unfold regex_scalar at f;refine aK Tryz.func137 rfl Tryz.ntmps137 kr ?_;refine bP [(0,vI b)]<|aJ<|pN 1 [2] []<|bI<|ag f ?_;intro k c f
 refine aN (J:=fun a h=>Bl d h∧Sz d h∧Qa a 14 [(2,vB k)]) ?_ ?_
 ·refine pL [3,4,5] 5 (vB (decide (b≥0)))<|cf 5 c (fun l c=>?_) (fun l c=>?_)
  ·refine pL [6,7,8,9] 9 (vB (decide (b≤1114111)))<|cf 9 c (fun m c=>?_) (fun m c=>?_)
   ·refine pL [10,11] 11 (vR (wR (b)))<|ag c ?_;intro n o c;refine aq kr rfl kr enters162 (utf8_ValidRune_ok ak (wR (b)) d n o) ?_;rintro q r ⟨g,rfl⟩;refine pL [2,13] 2 (vB n)<|aa ?_;obtain rfl:=sj c;refine ac fun a hd hs al=>?_;exact ⟨(bg e g nb),g.size,hd,hs,aU al⟩
   ·refine pL [2,10,11,12,13] 2 (vB false)<|aa ?_;obtain rfl:=sj c;exact ac fun a hd hs al=>⟨e,bL,hd,hs,aU al⟩
  ·refine pL [2,6,7,8,9,10,11,12,13] 2 (vB false)<|aa ?_;obtain rfl:=sj c;exact ac fun a hd hs al=>⟨e,bL,hd,hs,aU al⟩
 ·rintro a h ⟨i,p,hd,hs,al⟩;refine aM ?_ hd hs al;refine am ?_;obtain rfl:=sj f;refine av (ao [vB k] rfl ⟨kr,trivial⟩ ?_);exact ⟨ae i,rfl⟩

theorem regex_ordered_ok (ak:Nat) (ad:bh) (af:Nat) (b:List aW) (m:World) (X0:Nat→Prop) (x:Lw X0 m) (ay:Rd bM m X0 ad af b) (r0:Bool) (u:regex_ordered ak b=some r0):
    Cs 138 [vL ad b af] m (G1 m [vB r0]):=by
 have bd:Bl m m:=Below.refl _ _;unfold regex_ordered at u;refine aK Tryz.func138 rfl Tryz.ntmps138 kr ?_;refine bP [(0,vL ad b af)]<|aJ<|pN 1 [2] []<|cn<|aJ<|pN 3 [5,6,7] [(5,vL ad b af),(6,vI (lz b)),(7,vI 0)]<|aa<|ag u ?_;intro j1 z u
 refine aF (J:=fun a V=>∃ s2:Unit,j1= .inl s2∧Bl m V∧Sz m V∧Qa a 49 [(0,vL ad b af)]) ?_ ?_
 ·refine aI<|bR (A:=fun (l:Int) a L=>Bl m L∧Sz m L∧Qa a 49 [(0,vL ad b af),(5,vL ad b af),(6,vI (lz b)),(7,vI l)]) z ?_ ?_
  ·intro a hd hs al;exact ⟨bd,bL,hd,hs,aU al⟩
  ·rintro l r2 p R a L ⟨h,S,hd,hs,al⟩;refine aM ?_ hd hs al;refine aJ<|p1 8 (vB (decide (l<(lz b))))<|cn<|bw p (fun bl p=>?_) (fun bl p=>?_)
   ·refine aA<|aH<|aI<|aJ<|p1 9 (vI l)<|ag p ?_;intro q B p;refine cP .i64 2 (ay.below h x) B aV ?_;obtain ⟨_,⟨_,_,rfl,rfl,rfl⟩,W⟩:=ay.cellsK B;refine laq 37 (aB ad ((l:Int).toNat*2)) (bS q) (bB (W L (fun k hk=>h.block k (x k hk)))) ?_;refine aD bp #[vI 0,vI 0] 37 kr kr ?_;intro c cw r X n b0;refine p1 3 (vI l)<|aG 37 0 (.agg (bS q)) (bS q) X kr kr kr ?_;intro bn t Y b1;refine cn<|ag p ?_;intro bs d p
    refine aF (J:=fun a C=>Bl m C∧Sz bn C∧Qa a 49 [(0,vL ad b af),(5,vL ad b af),(6,vI (lz b)),(7,vI l),(44,vB bs)]) ?_ ?_
    ·refine bD kr ?_;intro D f;refine aR [0] (bA 33 [0]) 32 kr kr<|p1 12 (bp c)<|aa<|au<|aL (cY D []) [1] [(1,some true)] (bA 33 [0,1]) 31 kr kr (aC _ _) ?_;have b2:=aC D [];have E:=Y.grown f nb;refine ce 3 ⟨c,0,none⟩ (vI q.1) (bC fun w' hC'=>((hC'.box E ba).cell 0 rfl)) ?_;refine aa<|au<|aL (fun _=>True) [2] [(2,some false)] (bA 33 [0,1,2]) 30 kr kr trivial ?_;refine ag d ?_;intro T Z d;refine clq enters137 (regex_scalar_ok ak q.1 D T Z) ?_;rintro cx o ⟨g,rfl⟩;refine ⟨(fun _=>trivial),?_⟩;refine aa<|au<|aR [3,4,5] (bA 33 [0,1,2,3,4,5]) 27 kr kr<|pL [15,16] 16 (vB (!T))<|cf 16 d (fun ah d=>?_) (fun ah d=>?_)
     ·refine p1 17 undef<|aa<|au<|aL (cY o []) [6] [(6,some true)] (bA 33 [0,1,2,3,4,5,6]) 26 kr kr (aC _ _) ?_;have b3:=aC o [];refine p1 18 undef<|aa<|au<|aL (fun _=>True) [7] [(7,some false)] (bA 33 [0,1,2,3,4,5,6,7]) 25 kr kr trivial ?_;refine dc trivial 1 [19] [(19,undef)] kr<|bP [(0,vL ad b af),(3,vI l),(4,bp c),(5,vL ad b af),(6,vI (lz b)),(7,vI l),(16,vB true),(19,undef)]<|aa<|au<|aR [8,9,10,11,13] (bA 33 [0,1,2,3,4,5,6,7,8,9,10,11,13]) 20 kr kr<|pN 5 [20,21,22,23,25] [(22,vB true),(23,undef),(25,undef)]<|aa<|au<|aL (cY o []) [12,14] [(12,some true),(14,some true)] (bA 33 [0,1,2,3,4,5,6,7,8,9,10,11,12,13,14]) 18 kr kr (aC _ _) ?_;have b4:=aC o [];refine pN 2 [24,26] [(24,undef),(26,undef)]<|aa<|au<|aR [15,16,17,18,19,20,21,23,24,25,26,27] (bA 33 [0,1,2,3,4,5,6,7,8,9,10,11,12,13,14,15,16,17,18,19,20,21,23,24,25,26,27]) 6 kr kr<|pN 12 [27,28,29,30,31,32,33,35,36,37,38,39] [(29,vB true),(32,undef),(33,undef),(39,undef)]<|aa<|au<|aL (cY o []) [22,28,29] [(22,some true),(28,some true),(29,some true)] (bA 33 [0,1,2,3,4,5,6,7,8,9,10,11,12,13,14,15,16,17,18,19,20,21,22,23,24,25,26,27,28,29]) 3 kr kr (aC _ _) ?_;have b5:=aC o [];refine pN 3 [34,40,41] [(34,undef),(41,undef)]<|aa<|au<|aR [30,31,32] (bA 33 [0,1,2,3,4,5,6,7,8,9,10,11,12,13,14,15,16,17,18,19,20,21,22,23,24,25,26,27,28,29,30,31,32]) 0 kr kr<|pL [42,43,44] 44 (vB true)<|aa<|au<|aX kr ?_;obtain rfl:=sj d;refine ac fun a hd hs al=>?_;have M:m.heap.size≤c:=bY n h.size;exact ⟨(bg (bg (bg h r nb) t (aS M)) (ab f g) nb),(nt f.size g.size),hd,hs,aU al⟩
     ·refine p1 17 (pt c 1)<|aa<|au<|aL (cY o []) [6] [(6,some true)] (bA 33 [0,1,2,3,4,5,6]) 26 kr kr (aC _ _) ?_;have b7:=aC o [];have F:=E.grown g nb;refine ce 3 ⟨c,1,none⟩ (vI q.2) (bC fun w' hC'=>((hC'.box F ba).cell 1 rfl)) ?_;refine aa<|au<|aL (fun _=>True) [7] [(7,some false)] (bA 33 [0,1,2,3,4,5,6,7]) 25 kr kr trivial ?_;refine ag d ?_;intro G an d;refine clq enters137 (regex_scalar_ok ak q.2 o G an) ?_;rintro c0 j ⟨i,rfl⟩;refine ⟨(fun _=>trivial),?_⟩;refine aa<|au<|aR [8,9,10,11,13] (bA 33 [0,1,2,3,4,5,6,7,8,9,10,11,13]) 20 kr kr<|pL [20,21,22] 22 (vB (!G))<|bP [(0,vL ad b af),(3,vI l),(4,bp c),(5,vL ad b af),(6,vI (lz b)),(7,vI l),(22,vB (!G))]<|cf 22 d (fun ax d=>?_) (fun ax d=>?_)
      ·refine pN 2 [23,25] [(23,undef),(25,undef)]<|aa<|au<|aL (cY j []) [12,14] [(12,some true),(14,some true)] (bA 33 [0,1,2,3,4,5,6,7,8,9,10,11,12,13,14]) 18 kr kr (aC _ _) ?_;have ca:=aC j [];refine pN 2 [24,26] [(24,undef),(26,undef)]<|aa<|au<|aR [15,16,17,18,19,20,21,23,24,25,26,27] (bA 33 [0,1,2,3,4,5,6,7,8,9,10,11,12,13,14,15,16,17,18,19,20,21,23,24,25,26,27]) 6 kr kr<|pN 12 [27,28,29,30,31,32,33,35,36,37,38,39] [(29,vB true),(32,undef),(33,undef),(39,undef)]<|aa<|au<|aL (cY j []) [22,28,29] [(22,some true),(28,some true),(29,some true)] (bA 33 [0,1,2,3,4,5,6,7,8,9,10,11,12,13,14,15,16,17,18,19,20,21,22,23,24,25,26,27,28,29]) 3 kr kr (aC _ _) ?_;have cb:=aC j [];refine pN 3 [34,40,41] [(34,undef),(41,undef)]<|aa<|au<|aR [30,31,32] (bA 33 [0,1,2,3,4,5,6,7,8,9,10,11,12,13,14,15,16,17,18,19,20,21,22,23,24,25,26,27,28,29,30,31,32]) 0 kr kr<|pL [42,43,44] 44 (vB true)<|aa<|au<|aX kr ?_;obtain rfl:=sj d;refine ac fun a hd hs al=>?_;have N:m.heap.size≤c:=bY n h.size;exact ⟨(bg (bg (bg h r nb) t (aS N)) (ab (ab f g) i) nb),(nt (nt f.size g.size) i.size),hd,hs,aU al⟩
      ·refine pN 2 [23,25] [(23,bp c),(25,pt c 1)]<|aa<|au<|aL (cY j []) [12,14] [(12,some true),(14,some true)] (bA 33 [0,1,2,3,4,5,6,7,8,9,10,11,12,13,14]) 18 kr kr (aC _ _) ?_;have cc:=aC j [];have y:=F.grown i nb;refine ce 3 ⟨c,0,none⟩ (vI q.1) (bC fun w' hC'=>((hC'.box y ba).cell 0 rfl)) ?_;refine ce 3 ⟨c,1,none⟩ (vI q.2) (bC fun w' hC'=>((hC'.box y ba).cell 1 rfl)) ?_;refine aa<|au<|aR [15,16,17,18,19,20,21,23,24,25,26,27] (bA 33 [0,1,2,3,4,5,6,7,8,9,10,11,12,13,14,15,16,17,18,19,20,21,23,24,25,26,27]) 6 kr kr<|pL [27,28,29] 29 (vB (decide (q.1>q.2)))<|cf 29 d (fun a0 d=>?_) (fun a0 d=>?_)
       ·refine pN 9 [30,31,32,33,35,36,37,38,39] [(32,undef),(33,undef),(39,undef)]<|aa<|au<|aL (cY j []) [22,28,29] [(22,some true),(28,some true),(29,some true)] (bA 33 [0,1,2,3,4,5,6,7,8,9,10,11,12,13,14,15,16,17,18,19,20,21,22,23,24,25,26,27,28,29]) 3 kr kr (aC _ _) ?_;have ch:=aC j [];refine pN 3 [34,40,41] [(34,undef),(41,undef)]<|aa<|au<|aR [30,31,32] (bA 33 [0,1,2,3,4,5,6,7,8,9,10,11,12,13,14,15,16,17,18,19,20,21,22,23,24,25,26,27,28,29,30,31,32]) 0 kr kr<|pL [42,43,44] 44 (vB true)<|aa<|au<|aX kr ?_;obtain rfl:=sj d;refine ac fun a hd hs al=>?_;have O:m.heap.size≤c:=bY n h.size;exact ⟨(bg (bg (bg h r nb) t (aS O)) (ab (ab f g) i) nb),(nt (nt f.size g.size) i.size),hd,hs,aU al⟩
       ·refine pL [30,31,32] 32 (vB (decide (l>0)))<|cf 32 d (fun a1 d=>?_) (fun a1 d=>?_)
        ·refine pN 4 [33,35,36,37] [(33,bp c),(35,vL ad b af),(37,vI (wI (l-1)))]<|ag d ?_;intro H I d;have P:m.heap.size≤c:=bY n h.size;have w:=bg (bg (bg h r nb) t (aS P)) (ab (ab f g) i) nb;refine cP .i64 2 (ay.below w x) I aV<|p1 39 (.pointer (some (Addr.add (aB ad (((wI (l-1)):Int).toNat*2)) 1)))<|aa<|au<|aL (cY j []) [22,28,29] [(22,some true),(28,some true),(29,some true)] (bA 33 [0,1,2,3,4,5,6,7,8,9,10,11,12,13,14,15,16,17,18,19,20,21,22,23,24,25,26,27,28,29]) 3 kr kr (aC _ _) ?_;have ck:=aC j [];refine ce 3 ⟨c,0,none⟩ (vI q.1) (bC fun w' hC'=>((hC'.box y ba).cell 0 rfl)) ?_;obtain ⟨_,⟨_,_,rfl,rfl,rfl⟩,a2⟩:=ay.cellsK I;refine ce 3 (Addr.add (aB ad (((wI (l-1)):Int).toNat*2)) 1) (vI H.2) (bC fun w' hC'=>((a2 w' (fun k hk=>(hC'.2 k ((aY x w.size) k hk) (fun hg=>bT k hg hk)).trans (w.block k (x k hk)))) 1 _ rfl)) ?_;refine p1 41 (vI (wI (H.2+1)))<|aa<|au<|aR [30,31,32] (bA 33 [0,1,2,3,4,5,6,7,8,9,10,11,12,13,14,15,16,17,18,19,20,21,22,23,24,25,26,27,28,29,30,31,32]) 0 kr kr<|pL [42,43,44] 44 (vB (decide (q.1≤(wI (H.2+1)))))<|aa<|au<|aX kr ?_;obtain rfl:=sj d;refine ac fun a hd hs al=>?_;exact ⟨w,(nt (nt f.size g.size) i.size),hd,hs,aU al⟩
        ·refine pN 6 [33,35,36,37,38,39] [(33,undef),(39,undef)]<|aa<|au<|aL (cY j []) [22,28,29] [(22,some true),(28,some true),(29,some true)] (bA 33 [0,1,2,3,4,5,6,7,8,9,10,11,12,13,14,15,16,17,18,19,20,21,22,23,24,25,26,27,28,29]) 3 kr kr (aC _ _) ?_;have cs:=aC j [];refine pN 3 [34,40,41] [(34,undef),(41,undef)]<|aa<|au<|aR [30,31,32] (bA 33 [0,1,2,3,4,5,6,7,8,9,10,11,12,13,14,15,16,17,18,19,20,21,22,23,24,25,26,27,28,29,30,31,32]) 0 kr kr<|pL [42,43,44] 44 (vB false)<|aa<|au<|aX kr ?_;obtain rfl:=sj d;refine ac fun a hd hs al=>?_;have Q:m.heap.size≤c:=bY n h.size;exact ⟨(bg (bg (bg h r nb) t (aS Q)) (ab (ab f g) i) nb),(nt (nt f.size g.size) i.size),hd,hs,aU al⟩
    ·rintro a C ⟨K,a3,hd,hs,al⟩;refine aM ?_ hd hs al;have a4:=(nt (nt (nt S r.size) t.size) a3);refine bw p (fun a5 p=>?_) (fun a5 p=>?_)
     ·refine aJ<|p1 2 (vB false)<|aa<|am ?_
      obtain rfl:=sj p;replace z:=congrArg some (R _ rfl);obtain rfl:=sj z;replace u:=bk u;obtain rfl:=sj u;refine av (ao [vB false] rfl ⟨kr,trivial⟩ ?_);exact ⟨ae K,rfl⟩
     ·refine aA<|bx<|az<|pL [7,45] 7 (vI (wI (l+1)))<|aa ?_;obtain rfl:=sj p;refine ac fun a hd hs al=>?_;exact ⟨(wI (l+1)),rfl,K,a4,hd,hs,aU al⟩
   ·refine bG<|bQ rfl ?_
    obtain rfl:=sj p;replace z:=congrArg some (R _ rfl);obtain rfl:=sj z;refine ac fun a hd hs al=>?_;exact ⟨(),rfl,h,S,hd,hs,aU al⟩
 ·rintro a V ⟨s2,e,a6,cv,hd,hs,al⟩;subst e;refine aM ?_ hd hs al;replace u:=bZ u;refine aJ<|pL [2,46,47,48] 2 (vB (decide ((lz b)>0)))<|ag u ?_;intro U a7 u;refine bK (s:=2) (v:=(vB (decide ((lz b)>0)))) (v':=(vB U)) kr (congrArg (Value.bool) (sj a7))<|aa<|am ?_
  obtain rfl:=sj u;refine av (ao [vB U] rfl ⟨kr,trivial⟩ ?_);exact ⟨ae a6,rfl⟩

theorem slices_Index_sint_int_ok (ak:Nat) (ad:bh) (af:Nat) (b:List Int) (g:Int) (d:World) (s:Nat→Prop) (l:Lw s d) (ay:Rd (iE .i64) d s ad af b) (t:Int) (h:slices_Index_sint_int ak b g=some t):
    Cs 161 [vL ad b af,vI g] d (G1 d [vI t]):=by
 have u:Bl d d:=Below.refl _ _;unfold slices_Index_sint_int at h;refine aK Tryz.func161 rfl Tryz.ntmps161 kr ?_;refine bP [(0,vL ad b af),(1,vI g)]<|aJ<|pN 1 [4] []<|cn<|aJ<|pN 3 [6,7,8] [(7,vI (lz b)),(8,vI 0)]<|aa<|ag h ?_;intro y j h
 refine aF (J:=fun a o=>∃ v:Unit,y= .inl v∧Bl d o∧Sz d o∧Qa a 19 []) ?_ ?_
 ·refine aI<|bR (A:=fun (f:Int) a p=>Bl d p∧Sz d p∧Qa a 19 [(0,vL ad b af),(1,vI g),(7,vI (lz b)),(8,vI f)]) j ?_ ?_
  ·intro a hd hs al;exact ⟨u,bL,hd,hs,aU al⟩
  ·rintro f B c m a p ⟨i,n,hd,hs,al⟩;refine aM ?_ hd hs al;refine aJ<|p1 9 (vB (decide (f<(lz b))))<|cn<|bw c (fun w c=>?_) (fun w c=>?_)
   ·refine aA<|aH<|aI<|aJ<|pL [5,10] 5 (vI f)<|bI<|pN 3 [11,12,13] [(11,vI g),(12,vL ad b af),(13,vI f)]<|ag c ?_;intro x k c;refine cP .i64 1 (ay.below i l) k bV<|ce 3 (aB ad ((f:Int).toNat*1)) (vI x) (bB ((ay.below i l).cell k))<|p1 16 (vB (g==x))<|aa<|bw c (fun q c=>?_) (fun q c=>?_)
    ·refine aJ<|pL [4,17] 4 (vI f)<|aa<|am ?_
     obtain rfl:=sj c;replace j:=congrArg some (m _ rfl);obtain rfl:=sj j;replace h:=bk h;obtain rfl:=sj h;refine av (ao [vI f] rfl ⟨kr,trivial⟩ ?_);exact ⟨ae i,rfl⟩
    ·refine aA<|bx<|az<|pL [8,18] 8 (vI (wI (f+1)))<|aa ?_;obtain rfl:=sj c;refine ac fun a hd hs al=>?_;exact ⟨(wI (f+1)),rfl,i,n,hd,hs,aU al⟩
   ·refine bG<|bQ rfl ?_
    obtain rfl:=sj c;replace j:=congrArg some (m _ rfl);obtain rfl:=sj j;refine ac fun a hd hs al=>?_;exact ⟨(),rfl,i,n,hd,hs,aU al⟩
 ·rintro a o ⟨v,e,r,z,hd,hs,al⟩;subst e;refine aM ?_ hd hs al;replace h:=bZ h;refine aJ<|p1 4 (vI (-1))<|aa<|am ?_
  obtain rfl:=sj h;refine av (ao [vI (-1)] rfl ⟨kr,trivial⟩ ?_);exact ⟨ae r,rfl⟩

theorem slices_Contains_sint_int_ok (ak:Nat) (ad:bh) (af:Nat) (a:List Int) (b:Int) (c:World) (g:Nat→Prop) (f:Lw g c) (ay:Rd (iE .i64) c g ad af a) (i:Bool) (e:slices_Contains_sint_int ak a b=some i):
    Cs 136 [vL ad a af,vI b] c (G1 c [vB i]):=by
 have d:Bl c c:=Below.refl _ _;unfold slices_Contains_sint_int at e;refine aK Tryz.func136 rfl Tryz.ntmps136 kr ?_;refine bP [(0,vL ad a af),(1,vI b)]<|aJ<|pN 1 [4] []<|bI<|pN 2 [5,6] [(5,vL ad a af),(6,vI b)]<|ag e ?_;intro h j e;refine aq kr rfl kr enters161 (slices_Index_sint_int_ok ak ad af a b c g (aY f d.size) (ay.below d f) h j) ?_;rintro l m ⟨k,rfl⟩;refine pL [4,8] 4 (vB (decide (h≥0)))<|aa<|am ?_
 obtain rfl:=sj e;refine av (ao [vB (decide (h≥0))] rfl ⟨kr,trivial⟩ ?_);exact ⟨ae (bg d k nb),rfl⟩

theorem regex_formed_1_1_ok (ak:Nat) (ad:bh) (af:Nat) (b:bh) (c:Nat) (d:cr) (g:Nat) (ap:bh) (aE:Nat) (a:List Int) (e:World) (h:Nat→Prop) (j:Lw h e) (k:bb e g 27 #[vL ap a aE]) (ay:Rd bM e h ad af d.2.2.2.2.2.1) (o:Rd pcE e h b c d.2.2.2.2.2.2) (aQ:Rd (iE .i64) e h ap aE a) (p:Bool) (i:regex_formed_1_1 ak d a=some p):
    Cs 135 [.agg (bi d ad af b c),bp g] e (G1 e [vB p]):=by
 have q:Bl e e:=Below.refl _ _;unfold regex_formed_1_1 at i;refine aK Tryz.func135 rfl Tryz.ntmps135 kr ?_;refine bP [(0,.agg (bi d ad af b c)),(1,bp g)] ?_;have t:=k.lt;refine aJ<|aD bp (bi d ad af b c) 25 kr kr ?_
 intro u v l r w x;refine pN 1 [3] []<|bI<|br 27 (k.grown l nb) 0 rfl<|p1 5 (bp u)<|br 3 r 0 rfl<|ag i ?_;intro m s i;have f:=bg q l nb;refine aq kr rfl kr enters136 (slices_Contains_sint_int_ok ak ap aE a d.1 v h (aY j f.size) (aQ.below f j) m s) ?_;rintro y z ⟨n,rfl⟩;refine p1 3 (vB m)<|aa<|am ?_
 obtain rfl:=sj i;refine av (ao [vB m] rfl ⟨kr,trivial⟩ ?_);exact ⟨ae (bg f n nb),rfl⟩

theorem api_Piece_1_1_3_ok (ak:Nat) (ad:bh) (af:Nat) (h:List Pc) (b:Nat) (c:bh) (d:Nat) (g:List Int) (l:World) (C:Nat→Prop) (n:Lw C l) (r:bb l b 27 #[vL c g d]) (ay:Rd pcE l C ad af h) (q:Rd (iE .i64) l C c d g) (N:Int) (o:api_Piece_1_1_3 ak h g=some N):
    Cs 144 [vL ad h af,.func (.func 135) #[] #[bp b]] l (G1 l [vI N]):=by
 have O:Bl l l:=Below.refl _ _;unfold api_Piece_1_1_3 at o;refine aK Tryz.func144 rfl Tryz.ntmps144 kr ?_;refine bP [(0,vL ad h af),(1,.func (.func 135) #[] #[bp b])] ?_;have P:=r.lt;refine aJ<|pN 1 [4] []<|cn<|aJ<|pN 3 [6,7,8] [(7,vI (lz h)),(8,vI 0)]<|aa<|ag o ?_;intro T t o
 refine aF (J:=fun a D=>∃ Q:Unit,T= .inl Q∧Bl l D∧Sz l D∧bb D b 27 #[vL c g d]∧Qa a 19 []) ?_ ?_
 ·refine aI<|bR (A:=fun (m:Int) a s=>Bl l s∧Sz l s∧bb s b 27 #[vL c g d]∧Qa a 19 [(0,vL ad h af),(1,.func (.func 135) #[] #[bp b]),(7,vI (lz h)),(8,vI m)]) t ?_ ?_
  ·intro a hd hs al;exact ⟨O,bL,r,hd,hs,aU al⟩
  ·rintro m Y j E a s ⟨i,F,u,hd,hs,al⟩;refine aM ?_ hd hs al;refine aJ<|p1 9 (vB (decide (m<(lz h))))<|cn<|bw j (fun R j=>?_) (fun R j=>?_)
   ·refine aA<|aH<|aI<|aJ<|pL [5,10] 5 (vI m)<|bI<|pN 3 [11,12,13] [(11,.func (.func 135) #[] #[bp b]),(12,vL ad h af),(13,vI m)] ?_
    refine ag j ?_;intro v w j;refine cP .i64 7 (ay.below i n) w aT ?_;obtain ⟨_,⟨_,_,rfl,rfl,⟨_,_,rfl,rfl,⟨_,_,rfl,rfl,⟨_,_,rfl,rfl,⟨_,_,rfl,rfl,⟨_,_,rfl,⟨x,y,rfl,G⟩,⟨z,B,rfl,H⟩⟩⟩⟩⟩⟩⟩,I⟩:=cells_un (ay.cellsK w);refine laq 25 (aB ad ((m:Int).toNat*7)) (dk (Pc.un v) x y z B) (bB (I s (fun k hk=>i.block k (n k hk)))) ?_;refine ag j ?_;intro S K j;refine cH (f:=135) (vs:=[.agg (dk (Pc.un v) x y z B)]) (cap:=[bp b]) _ co rfl rfl rfl kr kr enters135 (regex_formed_1_1_ok ak x y z B (Pc.un v) b c d g s C (aY n i.size) u (G.below i n) (H.below i n) (q.below i n) S K) ?_;rintro W X ⟨p,rfl⟩;refine ⟨nofun,?_⟩;refine aa<|bw j (fun L j=>?_) (fun L j=>?_)
    ·refine aJ<|pL [4,17] 4 (vI m)<|aa<|am ?_
     obtain rfl:=sj j;replace t:=congrArg some (E _ rfl);obtain rfl:=sj t;replace o:=bk o;obtain rfl:=sj o;refine av (ao [vI m] rfl ⟨kr,trivial⟩ ?_);exact ⟨ae (bg i p nb),rfl⟩
    ·refine aA<|bx<|az<|pL [8,18] 8 (vI (wI (m+1)))<|aa ?_;obtain rfl:=sj j;refine ac fun a hd hs al=>?_;exact ⟨(wI (m+1)),rfl,(bg i p nb),(nt F p.size),(u.grown p nb),hd,hs,aU al⟩
   ·refine bG<|bQ rfl ?_
    obtain rfl:=sj j;replace t:=congrArg some (E _ rfl);obtain rfl:=sj t;refine ac fun a hd hs al=>?_;exact ⟨(),rfl,i,F,u,hd,hs,aU al⟩
 ·rintro a D ⟨Q,e,M,U,V,hd,hs,al⟩;subst e;refine aM ?_ hd hs al;replace o:=bZ o;refine aJ<|p1 4 (vI (-1))<|aa<|am ?_
  obtain rfl:=sj o;refine av (ao [vI (-1)] rfl ⟨kr,trivial⟩ ?_);exact ⟨ae M,rfl⟩

theorem api_Piece_1_1_ok (ak:Nat) (ad:bh) (af:Nat) (e:List Pc) (a:Nat) (b:bh) (c:Nat) (d:List Int) (f:World) (k:Nat→Prop) (j:Lw k f) (h:bb f a 27 #[vL b d c]) (ay:Rd pcE f k ad af e) (g:Rd (iE .i64) f k b c d) (n:Bool) (l:api_Piece_1_1 ak e d=some n):
    Cs 120 [vL ad e af,.func (.func 135) #[] #[bp a]] f (G1 f [vB n]):=by
 have i:Bl f f:=Below.refl _ _;unfold api_Piece_1_1 at l;refine aK Tryz.func120 rfl Tryz.ntmps120 kr ?_;refine bP [(0,vL ad e af),(1,.func (.func 135) #[] #[bp a])] ?_;have o:=h.lt;refine aJ<|pN 1 [4] []<|bI<|pN 2 [5,6] [(5,vL ad e af),(6,.func (.func 135) #[] #[bp a])] ?_
 refine ag l ?_;intro m p l;refine aq kr rfl kr enters144 (api_Piece_1_1_3_ok ak ad af e a b c d f k (aY j i.size) h (ay.below i j) (g.below i j) m p) ?_;rintro r s ⟨q,rfl⟩;refine pL [4,8] 4 (vB (decide (m≥0)))<|aa<|am ?_
 obtain rfl:=sj l;refine av (ao [vB (decide (m≥0))] rfl ⟨kr,trivial⟩ ?_);exact ⟨ae (bg i q nb),rfl⟩

theorem dh (ak:Nat) (ad:bh) (af:Nat) (a:List Int) (g:Nat) (ap:bh) (aE:Nat) (c:bh) (d:Nat) (b:cr) (e:World) (h:Nat→Prop) (i:Lw h e) (l:bb e g 25 (bi b ap aE c d)) (ay:Rd (iE .i64) e h ad af a) (aQ:Rd bM e h ap aE b.2.2.2.2.2.1) (j:Rd pcE e h c d b.2.2.2.2.2.2) (p:Bool) (k:regex_formed_1 ak a b=some p):
    Cs 134 [vL ad a af,bp g] e (G1 e [vB p]):=by
 have q:Bl e e:=Below.refl _ _;unfold regex_formed_1 at k;refine aK Tryz.func134 rfl Tryz.ntmps134 kr ?_;refine bP [(0,vL ad a af),(1,bp g)] ?_;have u:=l.lt;refine aJ<|aD bp #[vL ad a af] 27 kr kr ?_
 intro r v m s w x;refine pN 1 [3] []<|bI<|p1 4 (pt g 6)<|br 23 (l.grown m nb) 6 rfl<|p1 6 (.func (.func 135) #[] #[bp r]) ?_;refine ag k ?_;intro n t k;have f:=bg q m nb;refine aq kr rfl kr enters120 (api_Piece_1_1_ok ak c d b.2.2.2.2.2.2 r ad af a v h (aY i f.size) s (j.below f i) (ay.below f i) n t) ?_;rintro y z ⟨o,rfl⟩;refine pL [3,8] 3 (vB (!n))<|aa<|am ?_
 obtain rfl:=sj k;refine av (ao [vB (!n)] rfl ⟨kr,trivial⟩ ?_);exact ⟨ae (bg f o nb),rfl⟩

end Go.Proofs.YtmpmeiihjnnomaaGreatDoor
