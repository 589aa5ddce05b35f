import Derived.Test.YtmpmeiihjnnomaaGreatDoorRows
import Derived.Test.YtmpmeiihjnnomaaGreatDoorGh
import Derived.Test.YtmpmeiihjnnomaaGreatDoorD
import Derived.Test.YtmpmeiihjnnomaaGreatDoorGpc
import Derived.Test.YtmpmeiihjnnomaaGreatDoorGal
import Derived.Test.YtmpmeiihjnnomaaGreatDoorGso
import Derived.Test.YtmpmeiihjnnomaaGreatDoorGcp
import Derived.Test.YtmpmeiihjnnomaaGreatDoorGrs
import Derived.Test.YtmpmeiihjnnomaaGreatDoorRc
import Derived.Test.YtmpmeiihjnnomaaGreatDoorRd
import Derived.Test.YtmpmeiihjnnomaaGreatDoorRs
import Derived.Test.YtmpmeiihjnnomaaGreatDoorSi
import Derived.Test.YtmpmeiihjnnomaaGreatDoorRm
import Derived.Test.YtmpmeiihjnnomaaGreatDoorSr
import Derived.Test.YtmpmeiihjnnomaaGreatDoorVs
import Derived.Test.YtmpmeiihjnnomaaGreatDoorSt
set_option linter.all false
set_option maxHeartbeats 4000000
set_option maxRecDepth 100000
/- Own work, printed by a program of mine: the walk of each function: a call returns what the plain function says. -/
namespace Go.Proofs.YtmpmeiihjnnomaaGreatDoor
open Go.Gv Go.Gv.D Go.RowKit
open Go.Gv renaming gv_nil→aa,grown_trans→ab,gv_goal→ac,grown_of_below→ad,bindE→af,rowne→ai,grown_step→aj,gv_cret→am,gv_done→ao,gv_call0→aq,Own→ar,gv_ret→au,gv_region→av,gv_goA→aw,gv_skip→az,gv_new0→aA,gv_store0→aB,gv_cut_code→aC,Cls.refl→aD,gv_block→aF,calls_run→aH,gv_seq→aJ,blk→aK,gv_in→aM,gv_stage→aN,gv_cut_ops→aO,elemAddr→aP,rowlo→aQ,ltx→aR,gv_pre→aV,gv_stageE→aX,nm_nil→aY,Box→ba,strOf→bb,gv_sub→bc,lowb→bi,gv_split→bo,cont_inr→br,gv_blk→bt,rowpp→bv,gv_cexit→bB,Box.ownE→bI,inw1→bJ,blk_neX→bK,gv_drawA→bL,gv_exit→bN,gv_loop→bO,lob→bT,inw0→bU,cont_inl→bW,rdnn→bY,utf8First→bZ,lowo→b8,gv_name→b9,blk_rev→cd,ltb→ci,gv_append→cj,nmx_nil→ct,utf8Acc→cy,blk_step→cA,gv_call→cD,rowppr→cE,grown_refl→cJ,gv_store→cV,rdnx→cW,Cls→dc,gv_pureNC→de,pow10C→df,gv_new→dl,gv_cond→dm
open Go.Proofs.Tryz renaming prog→ap,underlying31→aE,underlying22→aS,underlying9→aW,underlying23→aZ,underlying25→bX,underlying27→cf,underlying54→cR,underlying3→dg
open List (length)
abbrev bm:=Option Addr
theorem cq {p : Prop} (h : p := by decide) : p := h
abbrev wI (x:Int):Int:=IntKind.i64.wrap x
abbrev wU (x:Int):Int:=IntKind.u64.wrap x
abbrev wT (x:Int):Int:=IntKind.u32.wrap x
abbrev wB (x:Int):Int:=IntKind.u8.wrap x
abbrev wR (x:Int):Int:=IntKind.i32.wrap x
abbrev vI (x:Int):Value:=.int .i64 x
abbrev vW (x:Int):Value:=.int .u64 x
abbrev vT (x:Int):Value:=.int .u32 x
abbrev vU (x:Int):Value:=.int .u8 x
abbrev vR (x:Int):Value:=.int .i32 x
abbrev vB (x:Bool):Value:=.bool x
abbrev vS (x:ByteArray):Value:=.string x
abbrev vL {α:Type} (a:bm) (x:List α) (c:Nat):Value:=.slice a x.length c
abbrev ro (b:Nat):bm:=some ⟨b,0,none⟩
abbrev lz {α:Type} (x:List α):Int:=((x.length:Nat):Int)
abbrev bz (x:ByteArray):Int:=((x.size:Nat):Int)
abbrev Ap (a b:bm):Prop:=∀ g,aK a=some g→¬ (fun k=>aK b=some k) g
abbrev Lo (w:World) (a:bm):Prop:=∀ g,aK a=some g→w.heap.size≤g
abbrev Bl (w w':World):Prop:=Below w.heap.size w w'
abbrev Sz (w w':World):Prop:=w.heap.size≤w'.heap.size
abbrev Qa (a:Act) (n:Nat) (σ:List (Nat × Value)):Prop:=a.defers=[]∧a.tmps.size=n∧Ok σ a.tmps
abbrev bj (x:Int × Int × Int × Bool × Bool × (List (Int × Int)) × (List Pc)) (a0:bm) (c0:Nat) (a1:bm) (c1:Nat):Array Value:= #[vI x.1,vI x.2.1,vI x.2.2.1,vB x.2.2.2.1,vB x.2.2.2.2.1,vL a0 x.2.2.2.2.2.1 c0,vL a1 x.2.2.2.2.2.2 c1]
abbrev cI (x:ByteArray × Int × Int × Bool × Bool):Array Value:= #[vS x.1,vI x.2.1,vI x.2.2.1,vB x.2.2.2.1,vB x.2.2.2.2]
abbrev bP (x:Int × Int):Array Value:= #[vI x.1,vI x.2]
abbrev S102 (x:ByteArray × Int):Array Value:= #[vS x.1,vI x.2]
abbrev S153 (x:Bool × (List Int)) (a0:bm) (c0:Nat):Array Value:= #[vB x.1,vL a0 x.2 c0]
theorem xq {X c:Nat→Prop} {a:World} {b:Nat} (hs:∀ k,X k→c k∨a.heap.size≤k) (d:∀ k,c k→k<a.heap.size∧k≠b) (hp:b<a.heap.size):¬ X b:=fun h=>(hs _ h).elim (fun h=>(d _ h).2 rfl) (fun h=>Nat.not_lt_of_le h hp)
theorem rg {α:Type} {E:Enc α} {w w':World} {X:Nat→Prop} {a:bm} {cap b:Nat} {xs:List α} (h:Rd E w X a cap xs) (g:w.grownBy w' (some b)) (c:∀ k,X k→k<w.heap.size∧k≠b):Rd E w' X a cap xs:=h.grown g (fun k hk=>(c k hk).1) (fun g e hk=>by cases e;exact (c _ hk).2 rfl)
theorem jg {a:Nat→Prop} {c w:World} {b:Nat} {r:Option Nat} (d:∀ k,a k→k<c.heap.size∧k≠b) (g:c.grownBy w r):∀ k,a k→k<w.heap.size∧k≠b:=fun k hk=>⟨Nat.lt_of_lt_of_le (d k hk).1 g.size,(d k hk).2⟩
abbrev Sxb (X:Nat→Prop) (w':World) (a:Nat→Prop) (b:World):Prop:=∀ k,X k→k<w'.heap.size∧(a k∨b.heap.size≤k)
theorem sxq {X a:Nat→Prop} {w' b:World} (c:∀ k,X k→k<w'.heap.size) (d:∀ k,X k→a k∨b.heap.size≤k):Sxb X w' a b:=fun k hk=>⟨c k hk,d k hk⟩
abbrev bV:Type:=(List Int) × (List (Int × Int)) × Int
abbrev cB:Type:=Int × Int × Int × Bool × Bool × (List (Int × Int)) × (List Pc)
abbrev c6:Type:=ByteArray × Int × Int × Bool × Bool
abbrev cG:Type:=(Bool × bV) ⊕ Unit
abbrev bC:Type:=Int × Int
abbrev dx:Array Value:= #[vI 0,vI 0,vI 0,vB false,vB false,vL none ([]:List (Int × Int)) 0,vL none ([]:List Pc) 0]
abbrev zQ1:Array Value:= #[vL none ([]:List (Int × Int)) 0]
theorem npb {p:Nat} {a:bm} (h:aK a≠some p):∀ g,aK a=some g→¬ (g=p):=fun g e e'=>h (e.trans (congrArg some e'))
theorem nrb {b p:Nat} {a:bm} (h:¬ (b=p∨aK a=some b)):∀ g,aK a=some g→¬ (g=b):=fun g e e'=>h (Or.inr (e' ▸ e))
theorem jsr {X S:Nat→Prop} {n m:Nat} (h:∀ k,X k→k<n∧¬ S k) (z:n≤m):∀ k,X k→k<m∧¬ S k:=fun k hk=>⟨Nat.lt_of_lt_of_le (h k hk).1 z,(h k hk).2⟩
theorem cp {α:Type} {E:Enc α} {w w':World} {X T:Nat→Prop} {a:bm} {cap:Nat} {xs:List α} (h:Rd E w X a cap xs) (hg:GF w w' T) (b:∀ k,X k→k<w.heap.size∧¬ T k):Rd E w' X a cap xs:=h.gf hg (fun k hk=>(b k hk).1) (fun k hk=>(b k hk).2)
theorem cO {a b c:World} {S:Nat→Prop} (h:GF a b S) (h':GF b c S):GF a c S:=gf_stepF h h' (fun _ h=>.inl h)
theorem dw {b p:Nat} {r:bm} (a:¬ (p=b)) (c:∀ g,aK r=some g→¬ (g=b)):¬ (b=p∨aK r=some b):=fun h=>h.elim (fun e=>a e.symm) (fun e=>c _ e rfl)
theorem nto {T:Nat→Prop} {b:Nat} (h:¬ T b):∀ x,x=b→¬ T x:=fun _ e=>e ▸ h
theorem ntp {b p:Nat} {r:bm} (a:¬ (p=b)) (c:∀ g,aK r=some g→¬ (g=b)):∀ x,x=b→¬ (x=p∨aK r=some x):=fun x e h=>h.elim (fun e'=>a (e'.symm.trans e)) (fun e'=>c _ e' e)
theorem lz1 {X:Nat→Prop} {Q:Nat→Prop} {n m:Nat} (h:∀ k,X k→k<n∧Q k) (z:n≤m):∀ k,X k→k<m:=fun k hk=>Nat.lt_of_lt_of_le (h k hk).1 z
theorem fe {Q:Nat→Prop}:∀ k,(fun _:Nat=>False) k→Q k:=fun _ h=>h.elim
abbrev pt (b j:Nat):Value:=.pointer (some ⟨b,j,none⟩)
abbrev bS:Enc (Int × Int):=prE (iE .i64) (iE .i64)
abbrev du (x:PcT) (a:bm) (c:Nat) (b:bm) (d:Nat):Array Value:= #[.int .i64 x.1,.int .i64 x.2.1,.int .i64 x.2.2.1,.bool x.2.2.2.1,.bool x.2.2.2.2.1,.slice a x.2.2.2.2.2.1.length c,.slice b x.2.2.2.2.2.2.length d]
theorem dk {b n:Nat} {a:bm} (hb:b=n) (ho:∀ g,aK a=some g→g<n):∀ g,aK a=some g→¬ (· =b) g:=fun g e hx=>Nat.not_lt_of_le (bi hb _ hx) (ho g e)
theorem cK {w:World} {b p:Nat} {t:TypeId} {cs:Array Value} (hb:b=w.heap.size) (hp:ba w p t cs):¬ (· =b) p:=fun hx=>Nat.not_lt_of_le (bi hb _ hx) (ci hp _ rfl)
theorem dy {b n:Nat} {a:bm} (hb:b=n) (ho:∀ g,aK a=some g→g<n):¬ (fun k=>aK a=some k) b:=fun hx=>Nat.not_lt_of_le (bi hb _ rfl) (ho _ hx)
theorem apD {w:World} {b p:Nat} {t:TypeId} {cs:Array Value} (hb:b=w.heap.size) (hp:ba w p t cs):∀ g,aK (some ⟨b,0,none⟩)=some g→¬ (· =p) g:=fun g e hx=>Nat.not_lt_of_le (b8 hb g e) (ci hp _ hx)
theorem apF {X:Nat→Prop} {b n:Nat} (hb:b=n) (hx:∀ k,X k→k<n):¬ X b:=fun h=>Nat.not_lt_of_le (bi hb _ rfl) (hx _ h)
theorem apH {w:World} {b p:Nat} {t:TypeId} {cs:Array Value} (hb:b=w.heap.size) (hp:ba w p t cs):¬ (· =p) b:=fun hx=>Nat.not_lt_of_le (bi hb _ rfl) (ci hp _ hx)
theorem apI {w:World} {p:Nat} {a:bm} {t:TypeId} {cs:Array Value} (hl:∀ k,aK a=some k→w.heap.size≤k) (hp:ba w p t cs):¬ (fun k=>aK a=some k) p:=fun hx=>Nat.not_lt_of_le (hl _ hx) (ci hp _ rfl)
theorem apG {w:World} {b p:Nat} {t:TypeId} {cs:Array Value} {X:Nat→Prop} (hb:b=w.heap.size) (hp:ba w p t cs) (hx:¬ X p):¬ (fun k=>aK (some ⟨b,0,none⟩)=some k∨X k) p:=fun h=>h.elim (fun h=>Nat.not_lt_of_le (b8 hb _ h) (ci hp _ rfl)) hx
theorem apE {X a Q:Nat→Prop} {b n:Nat} (h:∀ k,X k→Q k∧(a k∨n≤k)) (c:¬ a b) (hb:b<n):¬ X b:=fun hx=>(h _ hx).2.elim c (fun h=>Nat.not_lt_of_le h hb)
theorem xlo {a Q:Nat→Prop} {b n:Nat} (hl:n≤b) (h:∀ k,a k→k<n∧Q k):¬ a b:=fun hx=>Nat.not_lt_of_le hl (h _ hx).1
abbrev dv (b:Nat) (a:bm) (c:Nat) (tx:List Int) (a':bm) (c':Nat) (w:World) (r:(Bool × bV) ⊕ Unit):Ending→World→Prop:=RetP (fun (r0:Bool × bV) v w'=>GF w w' (SrS b a')∧v=tup [.bool r0.1]∧ba w' b 129 #[.slice a tx.length c,.slice a' r0.2.2.1.length c',.int .i64 r0.2.2.2]∧ar bS 37 w' (fun _=>False) a' c' r0.2.2.1) (fun _:Unit=>Value.iface 125 (.agg #[])) (fun w'=>GF w w' (SrS b a')) r
def qB (n:Nat) (all:Array Oper) (σ:List (Nat × Value)) (o:Oper):Bool:=match o.dst with
  | some d=>Nat.blt d n&&((match guardB all σ o with | some true=>true | _=>false)&&(noSel o.op&&known σ o.op.operands.toList))
  | none=>false
theorem qB_spec {n:Nat} {all:Array Oper} {σ:List (Nat × Value)} {o:Oper} (h:qB n all σ o=true):∃ d,o.dst=some d∧Nat.blt d n=true∧guardB all σ o=some true∧(noSel o.op&&known σ o.op.operands.toList)=true:=by
  unfold qB at h
  cases hd:o.dst with
  | none=>rw[hd]at h;cases h
  | some d=>
    rw[hd]at h
    simp only[Bool.and_eq_true]at h
    refine ⟨d,rfl,h.1,?_,by simp only[Bool.and_eq_true];exact h.2.2⟩
    cases hg:guardB all σ o with
    | none=>rw[hg]at h;cases h.2.1
    | some b=>cases b with
      | true=>rfl
      | false=>rw[hg]at h;cases h.2.1
section
variable {P:Program} {R:RR} {n:Nat} {k:List It} {σ:List (Nat × Value)} {w:World} {all:Array Oper} {C:World→Prop} {o:Oper} {m:Mk} {rest:List (Oper × Mk)}
theorem cu (t:TypeId) (A:Addr) (v:Value) (hc:∀ w',Inw m C w w'→w'.cell? A=some v) (h:Run P R n (.ops all C rest::k) .normal (putO σ o.dst v) w) (hm:m=some false→C w:=by nofun) (hq:qB n all σ o=true:=by kernel_rfl) (hop:execOp (evr σ) o=(do pure (.value (← Instr.loadAt t (.pointer (some A))))):=by kernel_rfl) (ht:aggB P t=some false:=by kernel_rfl):Run P R n (.ops all C ((o,m)::rest)::k) .normal σ w:=by
  obtain ⟨d,a,b,c,e⟩:=qB_spec hq
  rw[a]at h
  exact gv_load v [] hm a b c e hop ht hc rfl h
theorem laq (t:TypeId) (A:Addr) (cs:Array Value) (hc:∀ w',Inw m C w w'→cellsAt w' A cs.toList) (h:Run P R n (.ops all C rest::k) .normal (putO σ o.dst (.agg cs)) w) (hm:m=some false→C w:=by nofun) (hq:qB n all σ o=true:=by kernel_rfl) (hop:execOp (evr σ) o=(do pure (.value (← Instr.loadAt t (.pointer (some A))))):=by kernel_rfl) (ht:aggB P t=some true:=by kernel_rfl) (hsz:(P.info? t).map (·.size)=some cs.size:=by kernel_rfl):Run P R n (.ops all C ((o,m)::rest)::k) .normal σ w:=by
  obtain ⟨d,a,b,c,e⟩:=qB_spec hq
  rw[a]at h
  exact gv_loadAgg cs [] hm a b c e hop ht hsz hc rfl h
theorem dd (t:TypeId) (b:Nat) (cs:Array Value) (hc:∀ w',Inw m C w w'→w'.heap[b]? =some (.cells cs t (0,0))) (h:Run P R n (.ops all C rest::k) .normal (putO σ o.dst (.agg cs)) w) (hm:m=some false→C w:=by nofun) (hq:qB n all σ o=true:=by kernel_rfl) (hop:execOp (evr σ) o=(do pure (.value (← Instr.loadAt t (.pointer (some ⟨b,0,none⟩))))):=by kernel_rfl) (ht:aggB P t=some true:=by kernel_rfl) (hsz:(P.info? t).map (·.size)=some cs.size:=by kernel_rfl):Run P R n (.ops all C ((o,m)::rest)::k) .normal σ w:=by
  obtain ⟨d,a,c,e,f⟩:=qB_spec hq
  rw[a]at h
  exact gv_loadBox cs [] hm a c e f hop ht hsz hc rfl h
theorem cX {α:Type} {E:Enc α} {X:Nat→Prop} {c:World} {t e:TypeId} {a:bm} {cap:Nat} {xs:List α} {x:α} {i:Int} (kk:IntKind) (sz:Nat) (hR:Rd E c X a cap xs) (hx:idx xs i=some x) (ht:P.underlying t=some (.slice e)) (h:Run P R n (.ops all C rest::k) .normal (putO σ o.dst (.pointer (some (aP a (i.toNat*sz))))) w) (hm:m=some false→C w:=by nofun) (hq:qB n all σ o=true:=by kernel_rfl) (hop:execOp (evr σ) o=(do pure (.value (← Instr.indexAt t (.slice a xs.length cap) (.int kk i)))):=by kernel_rfl) (hsz:(P.info? e).map (·.size)=some sz:=by kernel_rfl):Run P R n (.ops all C ((o,m)::rest)::k) .normal σ w:=by
  obtain ⟨d,b,f,g,j⟩:=qB_spec hq
  rw[b]at h
  exact gv_idxaddr [] hm b f g j hop ht hsz (hR.has hx) (idx_spec hx).1 (idx_spec hx).2.1 rfl h
theorem siq {t:TypeId} {s:ByteArray} {i c:Int} (kk:IntKind) (hx:sidx s i=some c) (ht:P.underlying t=some .string) (h:Run P R n (.ops all C rest::k) .normal (putO σ o.dst (.int .u8 c)) w) (hm:m=some false→C w:=by nofun) (hq:qB n all σ o=true:=by kernel_rfl) (hop:execOp (evr σ) o=(do pure (.value (← Instr.index t (.string s) (.int kk i)))):=by kernel_rfl):Run P R n (.ops all C ((o,m)::rest)::k) .normal σ w:=by
  obtain ⟨d,a,b,e,f⟩:=qB_spec hq
  rw[a]at h
  exact gv_sindex c [] hm a b e f hop ht hx rfl h
theorem dq {s u r:ByteArray} (t:TypeId) (hr:cat s u=some r) (h:Run P R n (.ops all C rest::k) .normal (putO σ o.dst (.string r)) w) (hm:m=some false→C w:=by nofun) (hq:qB n all σ o=true:=by kernel_rfl) (hop:execOp (evr σ) o=(do pure (.value (← binOp .add t (.string s) (.string u)))):=by kernel_rfl):Run P R n (.ops all C ((o,m)::rest)::k) .normal σ w:=by
  obtain ⟨d,a,b,c,e⟩:=qB_spec hq
  rw[a]at h
  exact gv_cat r [] hm a b c e hop hr rfl h
theorem aI {id:Nat} {l:List Oper} {y:Code} (h:Run P R n (.ops l.toArray (fun _=>True) (mk0 l):: .code y::k) .normal σ w) (hr:R.r=none:=by rfl):Run P R n (.code (.seq (.region id l.toArray false) y)::k) .normal σ w:=aJ (av h hr)
theorem co {x y:Code} (h:Run P R n (.code x:: .code y::k) .normal σ w):Run P R n (.ops all C []:: .code (.seq x y)::k) .normal σ w:=aa (aJ h)
theorem bF {id:Nat} {l:List Oper} {y:Code} (h:Run P R n (.ops l.toArray (fun _=>True) (mk0 l):: .code y::k) .normal σ w) (hr:R.r=none:=by rfl):Run P R n (.ops all C []:: .code (.seq (.region id l.toArray false) y)::k) .normal σ w:=aa (aJ (av h hr))
theorem clq {x:Operand} {xs:Array Operand} {tys:Array TypeId} {f:FuncId} {vs:List Value} {S:Value→World→Prop} (hf:Go.Gv.Enters P f) (hc:Calls P f vs.toArray w (Ret S)) (h:∀ v w',S v w'→(m=some false→C w')∧Run P R n (.ops all C rest::k) .normal (putO σ o.dst v) w') (hm:m≠some true:=by decide) (hdn:dstOk n o.dst=true:=by kernel_rfl) (hg:guardB all σ o=some true:=by kernel_rfl) (ho:o.op= .call { callee:=.value x,args:=xs,argTypes:=tys}:=by rfl) (hx:ev σ x=some (.func (.func f) #[] ([]:List Value).toArray):=by kernel_rfl) (hxs:evs σ xs.toList=some vs:=by kernel_rfl):Run P R n (.ops all C ((o,m)::rest)::k) .normal σ w:=
  cD (cap:=[]) S hm hdn hg ho hx hxs hf (by rw[List.append_nil];exact hc) h
end
abbrev Lw (X:Nat→Prop) (w:World):Prop:=∀ k,X k→k<w.heap.size
abbrev Cs (f:Nat) (l:List Value) (w:World) (R:Ending→World→Prop):Prop:=Calls ap f l.toArray w R
abbrev G1 (w:World) (r:List Value):Ending→World→Prop:=Ret fun v w'=>w.grownBy w' none∧v=tup r
theorem nl {a b:Nat} (h:a≤b):¬ b<a:=Nat.not_lt_of_le h
theorem sj {α:Type _} {a b:α} (h:some a=some b):a=b:=Option.some.inj h
theorem ng {a b:Nat} (h:b<a):a≠b:=Nat.ne_of_gt h
theorem cl {a b c:Nat} (h:a<b) (h':b≤c):a<c:=Nat.lt_of_lt_of_le h h'
theorem cS {a b c:Nat} (h:a<b) (h':b<c):a<c:=Nat.lt_trans h h'
section
variable {P:Program} {R:RR} {n:Nat} {k:List It} {σ σ':List (Nat × Value)} {w:World} {all:Array Oper} {C:World→Prop}
theorem pN (c:Nat) (ds:List Nat) (news:List (Nat × Value)) {l:List (Oper × Mk)} (h:Run P R n (.ops all C (drops c l)::k) .normal (nw news ds σ) w) (hp:(match stepsP false P n all c l σ with | some σ1=>picks ((nw news ds σ).map (·.1)) σ1 | none=>none)=some (nw news ds σ):=by kernel_rfl):Run P R n (.ops all C l::k) .normal σ w:=gv_pureN c ds news hp h
theorem okp (ss:List Nat) {t:Array Value} (h:Ok σ t) (hp:picks ss σ=some σ':=by kernel_rfl):Ok σ' t:=ok_pick ss h hp
theorem aU {σ':List (Nat × Value)} {t:Array Value} (h:Ok σ t) (hp:picks (σ'.map (·.1)) σ=some σ':=by kernel_rfl):Ok σ' t:=ok_pick _ h hp
theorem vLc {α:Type} {x y:List α} {a:bm} {c:Nat} (h:x.length=y.length):vL a x c=vL a y c:=by unfold vL;rw[h]
theorem bQ (σ':List (Nat × Value)) {e:Exit} (h:Run P R n k e σ' w) (hp:picks (σ'.map (·.1)) σ=some σ':=by kernel_rfl):Run P R n k e σ w:=bc _ hp h
theorem bM {a:Nat}:a≤a:=Nat.le_refl a
theorem kr {p:Prop} (h:p:=by kernel_rfl):p:=h
end
open List (length)
section
variable {P:Program} {R:RR} {n:Nat} {k:List It} {σ:List (Nat × Value)} {w:World}
theorem bw {α:Type} {c:Operand} {b:Bool} {x y:Code} {p q r:α} (h:(if b=true then p else q)=r) (ht:b=true→p=r→Run P R n (.code x::k) .normal σ w) (hf:b=false→q=r→Run P R n (.code y::k) .normal σ w) (hc:ev σ c=some (.bool b):=by kernel_rfl):Run P R n (.code (.cond c x y)::k) .normal σ w:=dm hc (fun e=>ht e (ite_t e h)) (fun e=>hf e (ite_f e h))
theorem cm {α:Type} (s:Nat) {g:Bool} {e:Exit} {p q r:α} (h:(if g=true then p else q)=r) (ht:g=true→p=r→Run P R n k e (put σ s (.bool true)) w) (hf:g=false→q=r→Run P R n k e (put σ s (.bool false)) w) (hl:Go.Gv.look σ s=some (.bool g):=by kernel_rfl):Run P R n k e σ w:=bo hl (fun e=>ht e (ite_t e h)) (fun e=>hf e (ite_f e h))
end
section
variable {P:Program} {R:RR} {n:Nat} {k:List It} {σ σ':List (Nat × Value)} {w:World} {all:Array Oper} {C:World→Prop}
theorem pL (ds:List Nat) (d:Nat) (v:Value) {l:List (Oper × Mk)} (h:Run P R n (.ops all C (drops ds.length l)::k) .normal (nw [(d,v)] ds σ) w) (hp:(match stepsP false P n all ds.length l σ with | some σ1=>picks ((nw [(d,v)] ds σ).map (·.1)) σ1 | none=>none)=some (nw [(d,v)] ds σ):=by kernel_rfl):Run P R n (.ops all C l::k) .normal σ w:=gv_pureN ds.length ds [(d,v)] hp h
theorem p1 (d:Nat) (v:Value) {l:List (Oper × Mk)} (h:Run P R n (.ops all C (drops 1 l)::k) .normal (nw [(d,v)] [d] σ) w) (hp:(match stepsP false P n all 1 l σ with | some σ1=>picks ((nw [(d,v)] [d] σ).map (·.1)) σ1 | none=>none)=some (nw [(d,v)] [d] σ):=by kernel_rfl):Run P R n (.ops all C l::k) .normal σ w:=gv_pureN 1 [d] [(d,v)] hp h
theorem bk (t:TypeId) {b:Nat} {ty:TypeId} {cs:Array Value} {v:Value} {o:Oper} {rest:List (Oper × Mk)} (hb:ba w b ty cs) (j:Nat) (hv:cs[j]? =some v) (h:Run P R n (.ops all C rest::k) .normal (putO σ o.dst v) w) (hq:qB n all σ o=true:=by kernel_rfl) (hop:execOp (evr σ) o=(do pure (.value (← Instr.loadAt t (.pointer (some ⟨b,j,none⟩))))):=by kernel_rfl) (ht:aggB P t=some false:=by kernel_rfl):Run P R n (.ops all C ((o,none)::rest)::k) .normal σ w:=cu t ⟨b,j,none⟩ v (bU (hb.cell j hv)) h nofun hq hop ht
end
theorem cz {P : Program} {f : FuncId} {fn : Func} (h : P.funcs[f]? = some fn) (a : (fn.name == "runtime.NumGoroutine") = false := by kernel_rfl) (b : fn.body.isNone = false := by kernel_rfl) : Go.Gv.Enters P f := ⟨fn, h, a, b⟩
theorem enters9:Go.Gv.Enters ap 9:=cz Tryz.func9
theorem enters10:Go.Gv.Enters ap 10:=cz Tryz.func10
theorem enters11:Go.Gv.Enters ap 11:=cz Tryz.func11
theorem enters13:Go.Gv.Enters ap 13:=cz Tryz.func13
theorem cZ:Go.Gv.Enters ap 15:=cz Tryz.func15
theorem enters17:Go.Gv.Enters ap 17:=cz Tryz.func17
theorem enters18:Go.Gv.Enters ap 18:=cz Tryz.func18
theorem enters21:Go.Gv.Enters ap 21:=cz Tryz.func21
theorem enters22:Go.Gv.Enters ap 22:=cz Tryz.func22
theorem enters25:Go.Gv.Enters ap 25:=cz Tryz.func25
theorem enters28:Go.Gv.Enters ap 28:=cz Tryz.func28
theorem enters29:Go.Gv.Enters ap 29:=cz Tryz.func29
theorem enters30:Go.Gv.Enters ap 30:=cz Tryz.func30
theorem enters31:Go.Gv.Enters ap 31:=cz Tryz.func31
theorem enters32:Go.Gv.Enters ap 32:=cz Tryz.func32
theorem enters33:Go.Gv.Enters ap 33:=cz Tryz.func33
theorem enters34:Go.Gv.Enters ap 34:=cz Tryz.func34
theorem enters35:Go.Gv.Enters ap 35:=cz Tryz.func35
theorem enters36:Go.Gv.Enters ap 36:=cz Tryz.func36
theorem enters38:Go.Gv.Enters ap 38:=cz Tryz.func38
theorem enters39:Go.Gv.Enters ap 39:=cz Tryz.func39
theorem enters40:Go.Gv.Enters ap 40:=cz Tryz.func40
theorem enters41:Go.Gv.Enters ap 41:=cz Tryz.func41
theorem enters42:Go.Gv.Enters ap 42:=cz Tryz.func42
theorem enters43:Go.Gv.Enters ap 43:=cz Tryz.func43
theorem enters44:Go.Gv.Enters ap 44:=cz Tryz.func44
theorem enters45:Go.Gv.Enters ap 45:=cz Tryz.func45
theorem enters46:Go.Gv.Enters ap 46:=cz Tryz.func46
theorem enters47:Go.Gv.Enters ap 47:=cz Tryz.func47
theorem enters48:Go.Gv.Enters ap 48:=cz Tryz.func48
theorem enters49:Go.Gv.Enters ap 49:=cz Tryz.func49
theorem enters50:Go.Gv.Enters ap 50:=cz Tryz.func50
theorem enters52:Go.Gv.Enters ap 52:=cz Tryz.func52
theorem enters53:Go.Gv.Enters ap 53:=cz Tryz.func53
theorem enters54:Go.Gv.Enters ap 54:=cz Tryz.func54
theorem enters56:Go.Gv.Enters ap 56:=cz Tryz.func56
theorem enters58:Go.Gv.Enters ap 58:=cz Tryz.func58
theorem enters59:Go.Gv.Enters ap 59:=cz Tryz.func59
theorem enters60:Go.Gv.Enters ap 60:=cz Tryz.func60
theorem enters61:Go.Gv.Enters ap 61:=cz Tryz.func61
theorem enters62:Go.Gv.Enters ap 62:=cz Tryz.func62
theorem enters63:Go.Gv.Enters ap 63:=cz Tryz.func63
theorem enters64:Go.Gv.Enters ap 64:=cz Tryz.func64
theorem enters66:Go.Gv.Enters ap 66:=cz Tryz.func66
theorem enters73:Go.Gv.Enters ap 73:=cz Tryz.func73
theorem enters74:Go.Gv.Enters ap 74:=cz Tryz.func74
theorem enters77:Go.Gv.Enters ap 77:=cz Tryz.func77
theorem enters78:Go.Gv.Enters ap 78:=cz Tryz.func78
theorem enters83:Go.Gv.Enters ap 83:=cz Tryz.func83
theorem ce:Go.Gv.Enters ap 84:=cz Tryz.func84
theorem enters85:Go.Gv.Enters ap 85:=cz Tryz.func85
theorem enters86:Go.Gv.Enters ap 86:=cz Tryz.func86
theorem enters87:Go.Gv.Enters ap 87:=cz Tryz.func87
theorem enters88:Go.Gv.Enters ap 88:=cz Tryz.func88
theorem enters89:Go.Gv.Enters ap 89:=cz Tryz.func89
theorem enters90:Go.Gv.Enters ap 90:=cz Tryz.func90
theorem enters91:Go.Gv.Enters ap 91:=cz Tryz.func91
theorem enters92:Go.Gv.Enters ap 92:=cz Tryz.func92
theorem enters93:Go.Gv.Enters ap 93:=cz Tryz.func93
theorem enters94:Go.Gv.Enters ap 94:=cz Tryz.func94
theorem enters95:Go.Gv.Enters ap 95:=cz Tryz.func95
theorem cC:Go.Gv.Enters ap 96:=cz Tryz.func96
theorem enters97:Go.Gv.Enters ap 97:=cz Tryz.func97
theorem enters101:Go.Gv.Enters ap 101:=cz Tryz.func101
theorem enters106:Go.Gv.Enters ap 106:=cz Tryz.func106
theorem enters107:Go.Gv.Enters ap 107:=cz Tryz.func107
theorem enters108:Go.Gv.Enters ap 108:=cz Tryz.func108
theorem enters109:Go.Gv.Enters ap 109:=cz Tryz.func109
theorem enters112:Go.Gv.Enters ap 112:=cz Tryz.func112
theorem enters113:Go.Gv.Enters ap 113:=cz Tryz.func113
theorem enters114:Go.Gv.Enters ap 114:=cz Tryz.func114
theorem enters115:Go.Gv.Enters ap 115:=cz Tryz.func115
theorem enters116:Go.Gv.Enters ap 116:=cz Tryz.func116
theorem enters117:Go.Gv.Enters ap 117:=cz Tryz.func117
theorem enters118:Go.Gv.Enters ap 118:=cz Tryz.func118
theorem enters119:Go.Gv.Enters ap 119:=cz Tryz.func119
theorem enters120:Go.Gv.Enters ap 120:=cz Tryz.func120
theorem enters121:Go.Gv.Enters ap 121:=cz Tryz.func121
theorem dt:Go.Gv.Enters ap 122:=cz Tryz.func122
theorem enters123:Go.Gv.Enters ap 123:=cz Tryz.func123
theorem enters124:Go.Gv.Enters ap 124:=cz Tryz.func124
theorem enters127:Go.Gv.Enters ap 127:=cz Tryz.func127
theorem enters128:Go.Gv.Enters ap 128:=cz Tryz.func128
theorem enters129:Go.Gv.Enters ap 129:=cz Tryz.func129
theorem enters132:Go.Gv.Enters ap 132:=cz Tryz.func132
theorem enters133:Go.Gv.Enters ap 133:=cz Tryz.func133
theorem enters134:Go.Gv.Enters ap 134:=cz Tryz.func134
theorem enters135:Go.Gv.Enters ap 135:=cz Tryz.func135
theorem enters136:Go.Gv.Enters ap 136:=cz Tryz.func136
theorem enters137:Go.Gv.Enters ap 137:=cz Tryz.func137
theorem enters138:Go.Gv.Enters ap 138:=cz Tryz.func138
theorem enters139:Go.Gv.Enters ap 139:=cz Tryz.func139
theorem enters140:Go.Gv.Enters ap 140:=cz Tryz.func140
theorem enters141:Go.Gv.Enters ap 141:=cz Tryz.func141
theorem enters142:Go.Gv.Enters ap 142:=cz Tryz.func142
theorem enters143:Go.Gv.Enters ap 143:=cz Tryz.func143
theorem enters144:Go.Gv.Enters ap 144:=cz Tryz.func144
theorem dr:Go.Gv.Enters ap 145:=cz Tryz.func145
theorem enters146:Go.Gv.Enters ap 146:=cz Tryz.func146
theorem enters147:Go.Gv.Enters ap 147:=cz Tryz.func147
theorem enters148:Go.Gv.Enters ap 148:=cz Tryz.func148
theorem enters149:Go.Gv.Enters ap 149:=cz Tryz.func149
theorem enters150:Go.Gv.Enters ap 150:=cz Tryz.func150
theorem enters153:Go.Gv.Enters ap 153:=cz Tryz.func153
theorem enters155:Go.Gv.Enters ap 155:=cz Tryz.func155
theorem enters161:Go.Gv.Enters ap 161:=cz Tryz.func161
theorem enters162:Go.Gv.Enters ap 162:=cz Tryz.func162
theorem enters163:Go.Gv.Enters ap 163:=cz Tryz.func163
theorem enters168:Go.Gv.Enters ap 168:=cz Tryz.func168
theorem native125:Go.Gv.Native ap 125 Extern.BytealgIndexByte.indexByte:=⟨Tryz.f125,Tryz.func125,by kernel_rfl,by kernel_rfl,by kernel_rfl,by kernel_rfl⟩
theorem info3:InfoOk ap 3 1:=infoOk (z:=(.int .i64 0)) (bytes:=8) (by kernel_rfl) (by kernel_rfl) (by kernel_rfl) (by kernel_rfl)
theorem info4:InfoOk ap 4 1:=infoOk (z:=(.bool false)) (bytes:=1) (by kernel_rfl) (by kernel_rfl) (by kernel_rfl) (by kernel_rfl)
theorem info5:InfoOk ap 5 1:=infoOk (z:=(.int .u8 0)) (bytes:=1) (by kernel_rfl) (by kernel_rfl) (by kernel_rfl) (by kernel_rfl)
theorem info9:InfoOk ap 9 1:=infoOk (z:=(.string ⟨#[]⟩)) (bytes:=16) (by kernel_rfl) (by kernel_rfl) (by kernel_rfl) (by kernel_rfl)
theorem info25:InfoOk ap 25 7:=infoOk (z:=(.agg #[.int .i64 0,(.int .i64 0),(.int .i64 0),(.bool false),(.bool false),(.slice none 0 0),(.slice none 0 0)])) (bytes:=80) (by kernel_rfl) (by kernel_rfl) (by kernel_rfl) (by kernel_rfl)
theorem info34:InfoOk ap 34 1:=infoOk (z:=(.agg #[.slice none 0 0])) (bytes:=24) (by kernel_rfl) (by kernel_rfl) (by kernel_rfl) (by kernel_rfl)
theorem info37:InfoOk ap 37 2:=infoOk (z:=(.agg #[.int .i64 0,(.int .i64 0)])) (bytes:=16) (by kernel_rfl) (by kernel_rfl) (by kernel_rfl) (by kernel_rfl)
theorem info103:InfoOk ap 103 2:=infoOk (z:=(.agg #[.string ⟨#[]⟩,(.int .i64 0)])) (bytes:=24) (by kernel_rfl) (by kernel_rfl) (by kernel_rfl) (by kernel_rfl)
theorem eqs31eql (a:Int) (b:Int) (c:Int) (d:Int) (x y:Operand) (w:World):(do eqGuard .eql 31 x y (.agg #[.int .i64 a,.int .i64 b]) (.agg #[.int .i64 c,.int .i64 d]);binOp .eql 31 (.agg #[.int .i64 a,.int .i64 b]) (.agg #[.int .i64 c,.int .i64 d]):Sem Value).run ap w= .ok (.bool ((a==c)&&(b==d))) w:=by
  have e:ap.eqGuardType ap.depth 31=false:=by kernel_rfl
  have f:ap.stoodInHeld 31=false:=by kernel_rfl
  have g:ap.underlying 31=some (.struct (ap.fieldsOf 31)):=by kernel_rfl
  have h:=aE
  rw[Sem.run_bind,run_eqGuard_agg w .eql 31 x y _ _ e,Result.andThen_ok,run_eql_struct,run_equalIn_struct w 9999 31 _ _ g f]
  by_cases g0:a=c<;>by_cases g1:b=d<;>simp[Program.fieldsOf,h,Op.eqFields,part,isAgg,run_underlying dg,run_equalIn_int _ _ _ _ _ _ _ dg,g0,g1]
theorem eqs37neq (a:Int) (b:Int) (c:Int) (d:Int) (x y:Operand) (w:World):(do eqGuard .neq 37 x y (.agg #[.int .i64 a,.int .i64 b]) (.agg #[.int .i64 c,.int .i64 d]);binOp .neq 37 (.agg #[.int .i64 a,.int .i64 b]) (.agg #[.int .i64 c,.int .i64 d]):Sem Value).run ap w= .ok (.bool (!((a==c)&&(b==d)))) w:=by
  have e:ap.eqGuardType ap.depth 37=false:=by kernel_rfl
  obtain ⟨i,hi⟩:∃ i,ap.info? 3=some i:=Option.isSome_iff_exists.1 (by kernel_rfl)
  have hc:ap.cellsOf 3=1:=by kernel_rfl
  rw[Sem.run_bind,run_eqGuard_agg w .neq 37 x y _ _ e,Result.andThen_ok,run_neq_struct,run_equalIn_array w 9999 _ _ Tryz.underlying37 hi,hc]
  by_cases g0:a=c<;>by_cases g1:b=d<;>simp[List.range,List.range.loop,Op.eqItems,part,isAgg,run_underlying dg,run_equalIn_int _ _ _ _ _ _ _ dg,g0,g1]

theorem stringslite_IndexByte_ok (ak:Nat) (a:ByteArray) (b:Int) (c:World) (d:Int) (e:stringslite_IndexByte ak a b=some d):
    Cs 101 [vS a,vU b] c (G1 c [vI d]):=by
 have g:Bl c c:=Below.refl _ _;unfold stringslite_IndexByte at e;refine aH Tryz.func101 rfl Tryz.ntmps101 kr ?_;refine bQ [(0,vS a),(1,vU b)]<|aI<|pN 1 [4] []<|bF<|pN 2 [5,6] [(5,vS a),(6,vU b)]<|gv_nat (f:=125) (vs:=[vS a,vU b]) (vI (nIdxB (bytesOf a) b)) [] nofun rfl rfl rfl kr rfl kr kr native125 (fun w' _=>nat_idxS _ _ w') rfl ?_;refine p1 4 (vI (nIdxB (bytesOf a) b))<|aa<|am ?_
 obtain rfl:=sj e;refine au (ao [vI (nIdxB (bytesOf a) b)] rfl ⟨kr,trivial⟩ ?_);exact ⟨ad g,rfl⟩

theorem strings_IndexByte_ok (ak:Nat) (a:ByteArray) (b:Int) (c:World) (f:Int) (d:strings_IndexByte ak a b=some f):
    Cs 109 [vS a,vU b] c (G1 c [vI f]):=by
 have g:Bl c c:=Below.refl _ _;unfold strings_IndexByte at d;refine aH Tryz.func109 rfl Tryz.ntmps109 kr ?_;refine bQ [(0,vS a),(1,vU b)]<|aI<|pN 1 [4] []<|bF<|pN 2 [5,6] [(5,vS a),(6,vU b)]<|af d ?_;intro e h d;refine aq kr rfl kr enters101 (stringslite_IndexByte_ok ak a b c e h) ?_;rintro j k ⟨i,rfl⟩;refine p1 4 (vI e)<|aa<|am ?_
 obtain rfl:=sj d;refine au (ao [vI e] rfl ⟨kr,trivial⟩ ?_);exact ⟨ad (bg g i nb),rfl⟩

theorem cP (ak:Nat) (c:Nat) (g:c6) (b:ByteArray) (e:World) (f:ba e c 117 (cI g)) (m:Bool) (i:regex_parser_ahead ak g b=some m):
    Cs 106 [bp c,vS b] e (G1 e [vB m]):=by
 have k:Bl e e:=Below.refl _ _;unfold regex_parser_ahead at i;refine aH Tryz.func106 rfl Tryz.ntmps106 kr ?_;refine bQ [(0,bp c),(1,vS b)] ?_;have s:=f.lt;refine aI<|pN 1 [4] []<|bF<|af i ?_;intro n d i
 refine aO (J:=fun a j=>Bl e j∧Sz e j∧ba j c 117 (cI g)∧Qa a 20 [(4,vB n)]) ?_ ?_
 ·refine pL [5,6,7] 7 (bp c)<|bk 9 f 0 rfl<|pL [9,10] 10 (vB (!(g.1.toList==(bb []).toList)))<|cm 10 d (fun o d=>?_) (fun o d=>?_)
  ·refine pN 4 [11,12,13,14] [(11,vS b),(14,bp c)]<|bk 9 f 0 rfl<|af d ?_;intro t p d;refine siq .i64 p aW<|af d ?_;intro q r d;refine aq kr rfl kr enters109 (strings_IndexByte_ok ak b t e q r) ?_;rintro w x ⟨h,rfl⟩;refine pL [4,18,19] 4 (vB (decide (q≥0)))<|aa ?_;obtain rfl:=sj d;refine ac fun a hd hs al=>?_;exact ⟨(bg k h nb),h.size,(f.grown h nb),hd,hs,aU al⟩
  ·refine pL [4,11,12,13,14,15,16,17,18,19] 4 (vB false)<|aa ?_;obtain rfl:=sj d;exact ac fun a hd hs al=>⟨k,bM,f,hd,hs,aU al⟩
 ·rintro a j ⟨l,u,v,hd,hs,al⟩;refine aM ?_ hd hs al;refine am ?_;obtain rfl:=sj i;refine au (ao [vB n] rfl ⟨kr,trivial⟩ ?_);exact ⟨ad l,rfl⟩

theorem stringslite_HasPrefix_ok (ak:Nat) (c:ByteArray) (b:ByteArray) (e:World) (i:Bool) (f:stringslite_HasPrefix ak c b=some i):
    Cs 155 [vS c,vS b] e (G1 e [vB i]):=by
 have g:Bl e e:=Below.refl _ _;unfold stringslite_HasPrefix at f;refine aH Tryz.func155 rfl Tryz.ntmps155 kr ?_;refine bQ [(0,vS c),(1,vS b)]<|aI<|pN 1 [4] []<|bF<|af f ?_;intro j d f
 refine aO (J:=fun a h=>Bl e h∧Sz e h∧Qa a 18 [(4,vB j)]) ?_ ?_
 ·refine pL [5,6,7,8,9,10] 10 (vB (decide ((bz c)≥(bz b))))<|cm 10 d (fun k d=>?_) (fun k d=>?_)
  ·refine pN 3 [11,12,13] [(11,vS c),(13,vI (bz b))]<|af d ?_;intro l m d;refine gv_ssub (t:=9) (s:=c) (lo:=none) (hi:=(some (vI (bz b)))) 0 (bz b) l [] nofun rfl rfl rfl kr kr aW (.inl ⟨rfl,rfl⟩) (.inr ⟨_,rfl⟩) m rfl ?_;refine pL [4,15,16,17] 4 (vB (l.toList==b.toList))<|aa ?_;obtain rfl:=sj d;exact ac fun a hd hs al=>⟨g,bM,hd,hs,aU al⟩
  ·refine pL [4,11,12,13,14,15,16,17] 4 (vB false)<|aa ?_;obtain rfl:=sj d;exact ac fun a hd hs al=>⟨g,bM,hd,hs,aU al⟩
 ·rintro a h ⟨n,o,hd,hs,al⟩;refine aM ?_ hd hs al;refine am ?_;obtain rfl:=sj f;refine au (ao [vB j] rfl ⟨kr,trivial⟩ ?_);exact ⟨ad n,rfl⟩

theorem stringslite_CutPrefix_ok (ak:Nat) (b:ByteArray) (a:ByteArray) (d:World) (g:ByteArray × Bool) (c:stringslite_CutPrefix ak b a=some g):
    Cs 129 [vS b,vS a] d (G1 d [vS g.1,vB g.2]):=by
 have e:Bl d d:=Below.refl _ _;unfold stringslite_CutPrefix at c;refine aH Tryz.func129 rfl Tryz.ntmps129 kr ?_;refine bQ [(0,vS b),(1,vS a)]<|aI<|pN 2 [4,5] []<|co<|aI<|pN 2 [6,7] [(6,vS b),(7,vS a)]<|af c ?_;intro i j c;refine aq kr rfl kr enters155 (stringslite_HasPrefix_ok ak b a d i j) ?_;rintro m n ⟨f,rfl⟩;refine p1 9 (vB (!i))<|aa<|bw c (fun k c=>?_) (fun k c=>?_)
 ·refine aI<|pN 3 [4,5,10] [(4,vS b),(5,vB false)]<|aa<|am ?_
  obtain rfl:=sj c;refine au (ao [vS b,vB false] rfl ⟨kr,kr,trivial⟩ ?_);exact ⟨ad (bg e f nb),rfl⟩
 ·refine az<|aI<|pN 3 [11,12,13] [(11,vS b),(13,vI (bz a))]<|af c ?_;intro h l c;refine gv_ssub (t:=9) (s:=b) (lo:=(some (vI (bz a)))) (hi:=none) (bz a) (bz b) h [] nofun rfl rfl rfl kr kr aW (.inr ⟨_,rfl⟩) (.inl ⟨rfl,rfl⟩) l rfl ?_;refine pN 2 [4,5] [(4,vS h),(5,vB true)]<|aa<|am ?_
  obtain rfl:=sj c;refine au (ao [vS h,vB true] rfl ⟨kr,kr,trivial⟩ ?_);exact ⟨ad (bg e f nb),rfl⟩

theorem strings_CutPrefix_ok (ak:Nat) (b:ByteArray) (a:ByteArray) (c:World) (f:ByteArray × Bool) (e:strings_CutPrefix ak b a=some f):
    Cs 108 [vS b,vS a] c (G1 c [vS f.1,vB f.2]):=by
 have g:Bl c c:=Below.refl _ _;unfold strings_CutPrefix at e;refine aH Tryz.func108 rfl Tryz.ntmps108 kr ?_;refine bQ [(0,vS b),(1,vS a)]<|aI<|pN 2 [4,5] []<|bF<|pN 2 [6,7] [(6,vS b),(7,vS a)]<|af e ?_;intro d h e;refine aq kr rfl kr enters129 (stringslite_CutPrefix_ok ak b a c d h) ?_;rintro j k ⟨i,rfl⟩;refine pN 4 [4,5,9,10] [(4,vS d.1),(5,vB d.2)]<|aa<|am ?_
 obtain rfl:=sj e;refine au (ao [vS d.1,vB d.2] rfl ⟨kr,kr,trivial⟩ ?_);exact ⟨ad (bg g i nb),rfl⟩

theorem aT (ak:Nat) (a:Nat) (b:c6) (c:ByteArray) (e:World) (f:ba e a 117 (cI b)) (i:Bool × c6) (g:regex_parser_eat ak b c=some i):
    Cs 84 [bp a,vS c] e (Ret fun v w'=>e.grownBy w' (some a)∧v=tup [vB i.1]∧ba w' a 117 (cI i.2)):=by
 have j:e.grownBy e (some a):=cJ _ _;unfold regex_parser_eat at g;refine aH Tryz.func84 rfl Tryz.ntmps84 kr ?_;refine bQ [(0,bp a),(1,vS c)] ?_;have n:=f.lt;refine aI<|pN 1 [4] []<|bF<|pL [8,9,10] 10 (bp a)<|bk 9 f 0 rfl<|p1 12 (vS c)<|af g ?_;intro d k g;refine aq kr rfl kr enters108 (strings_CutPrefix_ok ak b.1 c e d k) ?_;rintro p q ⟨h,rfl⟩;refine pN 5 [5,6,7,14,15] [(5,vS d.1),(6,vB d.2)]<|bF<|pN 4 [16,17,18,19] [(17,vS d.1),(19,bp a)]<|aB 9 0 (vS d.1) #[vS d.1,vI b.2.1,vI b.2.2.1,vB b.2.2.2.1,vB b.2.2.2.2] (f.grown h nb) kr kr kr ?_;intro r l m o;refine bF<|pL [4,20] 4 (vB d.2)<|aa<|am ?_
 obtain rfl:=sj g;refine au (ao [vB d.2] rfl ⟨kr,trivial⟩ ?_);exact ⟨(aj (aj j h nb) l bv),rfl,m⟩

theorem cn (ak:Nat) (c:Nat) (e:c6) (aG:bm) (aL:Nat) (a:bm) (b:Nat) (d:cB) (f:World) (h:Nat→Prop) (l:∀ k,h k→k<f.heap.size∧k≠c) (m:ba f c 117 (cI e)) (bx:Rd bS f h aG aL d.2.2.2.2.2.1) (r:Rd pcE f h a b d.2.2.2.2.2.2) (s:cB × c6) (H:regex_parser_made ak e d=some s):
    Cs 85 [bp c,.agg (bj d aG aL a b)] f (Ret fun v w'=>f.grownBy w' (some c)∧∃ (bq:bm) (bD:Nat),∃ (n:Nat→Prop),∃ (o:bm) (p:Nat),∃ (q:Nat→Prop),v=tup [.agg (bj s.1 bq bD o p)]∧Rd bS w' n bq bD s.1.2.2.2.2.2.1∧(Sxb n w' h f)∧Rd pcE w' q o p s.1.2.2.2.2.2.2∧(Sxb q w' h f)∧ba w' c 117 (cI s.2)):=by
 have A:f.grownBy f (some c):=cJ _ _;unfold regex_parser_made at H;refine aH Tryz.func85 rfl Tryz.ntmps85 kr ?_;refine bQ [(0,bp c),(1,.agg (bj d aG aL a b))] ?_;have K:=m.lt;refine aI<|aA bp (bj d aG aL a b) 25 kr kr ?_
 intro L R t I C P;refine aA bp dx 25 kr kr ?_;intro D S B E i M;refine bF<|pN 3 [5,6,7] [(5,bp c),(7,pt c 1)] ?_
 have u:=(ab t B);have w:=m.grown u nb;refine bk 3 w 1 rfl<|pN 3 [9,10,11] [(9,vI (wI (e.2.1+1))),(11,pt c 1)]<|aB 3 1 (vI (wI (e.2.1+1))) #[vS e.1,vI (wI (e.2.1+1)),vI e.2.2.1,vB e.2.2.2.1,vB e.2.2.2.2] w kr kr kr ?_;intro Q j F N;refine bF<|dd 25 L (bj d aG aL a b) (bU ((I.grown B nb).grown j (ai (cK C m)))) ?_;have x:=m.grown t nb;refine aB 25 0 (.agg (bj d aG aL a b)) (bj d aG aL a b) (E.grown j (ai (cK i x))) kr kr kr ?_;intro J y G O;refine aa<|am ?_
 obtain rfl:=sj H;refine au (ao [.agg (bj d aG aL a b)] rfl ⟨⟨⟨D,0,none⟩,kr,run_loadVar_row J D _ 25 _ _ _ G bX rfl kr⟩,trivial⟩ ?_);have z:f.heap.size≤D:=bT i (aj A t nb).size;have g:=aj (aj (aj A u nb) j bv) y (cE z);exact ⟨g,aG,aL,h,a,b,h,rfl,rg bx g l,(fun k hk=>⟨(lz1 l g.size) k hk,(fun k (hk:h k)=>Or.inl hk) k hk⟩),rg r g l,(fun k hk=>⟨(lz1 l g.size) k hk,(fun k (hk:h k)=>Or.inl hk) k hk⟩),(F.grown y (ai (apH i x)))⟩

theorem regex_parser_bounds_ok (ak:Nat) (b:Nat) (d:c6) (c:World) (j:ba c b 117 (cI d)) (e:Int × Int × Bool × c6) (a:regex_parser_bounds ak d=some e):
    Cs 128 [bp b] c (Ret fun v w'=>c.grownBy w' (some b)∧v=tup [vI e.1,vI e.2.1,vB e.2.2.1]∧ba w' b 117 (cI e.2.2.2)):=by
 have k:c.grownBy c (some b):=cJ _ _;unfold regex_parser_bounds at a;refine aH Tryz.func128 rfl Tryz.ntmps128 kr ?_;refine bQ [(0,bp b)] ?_;have E:=j.lt;refine aI<|pN 3 [2,3,4] []<|co<|aF<|aI<|p1 6 (bp b)<|af a ?_;intro n y a;refine aq kr rfl kr ce (aT ak b d (bb [42]) c j n y) ?_;rintro K F ⟨l,rfl,z⟩;refine p1 5 (vB n.1)<|aa<|bw a (fun A a=>?_) (fun A a=>?_)
 ·cases a
 ·refine aI<|p1 9 (bp b)<|af a ?_;intro o B a;refine aq kr rfl kr ce (aT ak b n.2 (bb [43]) F z o B) ?_;rintro G C ⟨f,rfl,p⟩;refine p1 8 (vB o.1)<|aa<|bw a (fun q a=>?_) (fun q a=>?_)
  ·cases a
  ·refine aI<|p1 12 (bp b)<|af a ?_;intro g r a;refine aq kr rfl kr ce (aT ak b o.2 (bb [63]) C p g r) ?_;rintro H D ⟨h,rfl,i⟩;refine p1 11 (vB g.1)<|aa<|bw a (fun s a=>?_) (fun s a=>?_)
   ·refine aI<|pN 3 [2,3,4] [(2,vI 0),(3,vI 1),(4,vB true)]<|aa<|am ?_
    obtain rfl:=sj a;refine au (ao [vI 0,vI 1,vB true] rfl ⟨kr,kr,kr,trivial⟩ ?_);exact ⟨(aj (aj (aj k l bv) f bv) h bv),rfl,i⟩
   ·refine aI<|p1 15 (bp b)<|af a ?_;intro m t a;refine aq kr rfl kr ce (aT ak b g.2 (bb [123]) D i m t) ?_;rintro I J ⟨u,rfl,w⟩;refine pL [14,17] 14 (vB (!m.1))<|aa<|bw a (fun x a=>?_) (fun x a=>?_)
    ·refine aI<|pN 3 [2,3,4] [(2,vI 0),(3,vI 0),(4,vB false)]<|bQ [(2,vI 0),(3,vI 0),(4,vB false)]<|aa<|am ?_
     obtain rfl:=sj a;refine au (ao [vI 0,vI 0,vB false] rfl ⟨kr,kr,kr,trivial⟩ ?_);exact ⟨(aj (aj (aj (aj k l bv) f bv) h bv) u bv),rfl,w⟩
    ·cases a

theorem regex_parser_next_ok (ak:Nat) (a:Nat) (b:c6) (d:World) (i:Nat→Prop) (g:∀ k,i k→k<d.heap.size∧k≠a) (h:ba d a 117 (cI b)) (q:Rd bE d i (ro 0) 256 bZ) (r:Rd (prE (iE .u8) (iE .u8)) d i (ro 1) 16 cy) (m:Int × c6) (c:regex_parser_next ak b=some m):
    Cs 153 [bp a] d (Ret fun v w'=>d.grownBy w' (some a)∧v=tup [vI m.1]∧ba w' a 117 (cI m.2)):=by
 have f:d.grownBy d (some a):=cJ _ _;unfold regex_parser_next at c;refine aH Tryz.func153 rfl Tryz.ntmps153 kr ?_;refine bQ [(0,bp a)] ?_;have y:=h.lt;refine aI<|pN 1 [2] []<|bF<|pL [6,7,8] 8 (bp a)<|bk 9 h 0 rfl<|af c ?_;intro e u c;refine aq kr rfl kr enters168 (utf8_DecodeRuneInString_ok ak b.1 d i (lz1 g f.size) (rg q f g) (rg r f g) e u) ?_;rintro B C ⟨j,rfl⟩;refine pN 5 [3,4,5,11,12] [(3,vR e.1),(4,vI e.2)]<|co<|aI<|pL [13,14] 14 (vB (e.2==0))<|aa<|bw c (fun w c=>?_) (fun w c=>?_)
 ·cases c
 ·refine az<|aI<|pN 4 [17,18,19,20] [(17,bp a),(20,bp a)] ?_
  have l:=h.grown j nb;refine bk 9 l 0 rfl<|p1 22 (vI e.2)<|af c ?_;intro n x c;refine gv_ssub (t:=9) (s:=b.1) (lo:=(some (vI e.2))) (hi:=none) e.2 (bz b.1) n [] nofun rfl rfl rfl kr kr aW (.inr ⟨_,rfl⟩) (.inl ⟨rfl,rfl⟩) x rfl ?_;refine pL [24,25] 25 (bp a)<|aB 9 0 (vS n) #[vS n,vI b.2.1,vI b.2.2.1,vB b.2.2.2.1,vB b.2.2.2.2] l kr kr kr ?_;intro A o p z;refine bF<|pL [2,26,27] 2 (vI (wI (e.1)))<|aa<|am ?_
  obtain rfl:=sj c;refine au (ao [vI (wI (e.1))] rfl ⟨kr,trivial⟩ ?_);exact ⟨(aj (aj f j nb) o bv),rfl,p⟩

abbrev gC56 (ak:Nat):Prop:=∀ (a:Nat) (i:c6) (b:World) (g:Nat→Prop) (j:∀ k,g k→k<b.heap.size∧k≠a) (l:ba b a 117 (cI i)) (m:Rd bE b g (ro 0) 256 bZ) (n:Rd (prE (iE .u8) (iE .u8)) b g (ro 1) 16 cy) (h:cB × c6),regex_parser_alternatives ak i=some h→Calls ap 56 ([bp a]:List Value).toArray b (Ret fun v w'=>b.grownBy w' (some a)∧∃ (bq:bm) (bD:Nat),∃ (c:Nat→Prop),∃ (d:bm) (e:Nat),∃ (f:Nat→Prop),v=tup [.agg (bj h.1 bq bD d e)]∧Rd bS w' c bq bD h.1.2.2.2.2.2.1∧(Sxb c w' g b)∧Rd pcE w' f d e h.1.2.2.2.2.2.2∧(Sxb f w' g b)∧ba w' a 117 (cI h.2))
abbrev gC83 (ak:Nat):Prop:=∀ (a:Nat) (i:c6) (b:World) (g:Nat→Prop) (j:∀ k,g k→k<b.heap.size∧k≠a) (l:ba b a 117 (cI i)) (m:Rd bE b g (ro 0) 256 bZ) (n:Rd (prE (iE .u8) (iE .u8)) b g (ro 1) 16 cy) (h:cB × c6),regex_parser_sequence ak i=some h→Calls ap 83 ([bp a]:List Value).toArray b (Ret fun v w'=>b.grownBy w' (some a)∧∃ (bq:bm) (bD:Nat),∃ (c:Nat→Prop),∃ (d:bm) (e:Nat),∃ (f:Nat→Prop),v=tup [.agg (bj h.1 bq bD d e)]∧Rd bS w' c bq bD h.1.2.2.2.2.2.1∧(Sxb c w' g b)∧Rd pcE w' f d e h.1.2.2.2.2.2.2∧(Sxb f w' g b)∧ba w' a 117 (cI h.2))
abbrev gC107 (ak:Nat):Prop:=∀ (a:Nat) (i:c6) (b:World) (g:Nat→Prop) (j:∀ k,g k→k<b.heap.size∧k≠a) (l:ba b a 117 (cI i)) (m:Rd bE b g (ro 0) 256 bZ) (n:Rd (prE (iE .u8) (iE .u8)) b g (ro 1) 16 cy) (h:cB × c6),regex_parser_repeated ak i=some h→Calls ap 107 ([bp a]:List Value).toArray b (Ret fun v w'=>b.grownBy w' (some a)∧∃ (bq:bm) (bD:Nat),∃ (c:Nat→Prop),∃ (d:bm) (e:Nat),∃ (f:Nat→Prop),v=tup [.agg (bj h.1 bq bD d e)]∧Rd bS w' c bq bD h.1.2.2.2.2.2.1∧(Sxb c w' g b)∧Rd pcE w' f d e h.1.2.2.2.2.2.2∧(Sxb f w' g b)∧ba w' a 117 (cI h.2))
abbrev gC127 (ak:Nat):Prop:=∀ (a:Nat) (i:c6) (b:World) (g:Nat→Prop) (j:∀ k,g k→k<b.heap.size∧k≠a) (l:ba b a 117 (cI i)) (m:Rd bE b g (ro 0) 256 bZ) (n:Rd (prE (iE .u8) (iE .u8)) b g (ro 1) 16 cy) (h:cB × c6),regex_parser_atom ak i=some h→Calls ap 127 ([bp a]:List Value).toArray b (Ret fun v w'=>b.grownBy w' (some a)∧∃ (bq:bm) (bD:Nat),∃ (c:Nat→Prop),∃ (d:bm) (e:Nat),∃ (f:Nat→Prop),v=tup [.agg (bj h.1 bq bD d e)]∧Rd bS w' c bq bD h.1.2.2.2.2.2.1∧(Sxb c w' g b)∧Rd pcE w' f d e h.1.2.2.2.2.2.2∧(Sxb f w' g b)∧ba w' a 117 (cI h.2))
abbrev gC150 (ak:Nat):Prop:=∀ (b:Nat) (m:c6) (aG:bm) (aL:Nat) (d:bm) (e:Nat) (f:cB) (a:World) (c:Nat→Prop) (o:∀ k,c k→k<a.heap.size∧k≠b) (p:ba a b 117 (cI m)) (bx:Rd bS a c aG aL f.2.2.2.2.2.1) (n:Rd pcE a c d e f.2.2.2.2.2.2) (q:Rd bE a c (ro 0) 256 bZ) (r:Rd (prE (iE .u8) (iE .u8)) a c (ro 1) 16 cy) (l:cB × c6),regex_parser_inside ak m f=some l→Calls ap 150 ([bp b,.agg (bj f aG aL d e)]:List Value).toArray a (Ret fun v w'=>a.grownBy w' (some b)∧∃ (bq:bm) (bD:Nat),∃ (g:Nat→Prop),∃ (h:bm) (i:Nat),∃ (j:Nat→Prop),v=tup [.agg (bj l.1 bq bD h i)]∧Rd bS w' g bq bD l.1.2.2.2.2.2.1∧(Sxb g w' c a)∧Rd pcE w' j h i l.1.2.2.2.2.2.2∧(Sxb j w' c a)∧ba w' b 117 (cI l.2))
set_option maxHeartbeats 4000000 in
set_option maxRecDepth 100000 in
theorem regex_parser_alternatives_step (ak:Nat) (R:gC56 ak) (c:gC83 ak) (a6:gC107 ak) (b4:gC127 ak) (bE:gC150 ak):gC56 (ak+1):=by
 intro l fk v y f ds eO eP r0 M;have eQ:v.grownBy v (some l):=cJ _ _;rw[regex_parser_alternatives.eq_2]at M;refine aH Tryz.func56 rfl Tryz.ntmps56 kr ?_;refine bQ [(0,bp l)] ?_;have w:=ds.lt;refine aI<|aA bp dx 25 kr kr ?_
 intro z w2 eR d9 b5 fK;refine bF<|p1 4 (bp l)<|af M ?_;intro r7 fl M;have b0:=aj eQ eR nb;refine aq kr rfl kr enters83 (c l fk w2 y (jg f b0) (ds.grown eR nb) (rg eO b0 f) (rg eP b0 f) r7 fl) ?_;rintro fL ea ⟨eb,eS,eT,dz,eU,eV,dA,rfl,e2,dB,e3,dC,dD⟩;have dE:∀ k,dz k→k<ea.heap.size:=fun k hk=>(dB k hk).1;have ec:∀ k,dz k→y k∨v.heap.size≤k:=fun k hk=>(dB k hk).2.elim (fun h=>(fun k (hk:y k)=>Or.inl hk) k h) (fun h=>.inr (Nat.le_trans b0.size h));have dF:∀ k,dA k→k<ea.heap.size:=fun k hk=>(dC k hk).1;have ed:∀ k,dA k→y k∨v.heap.size≤k:=fun k hk=>(dC k hk).2.elim (fun h=>(fun k (hk:y k)=>Or.inl hk) k h) (fun h=>.inr (Nat.le_trans b0.size h));refine aA (fun b=>.slice (ro b) 1 1) (bj r7.1 eS eT eU eV) 25 kr kr ?_;intro b2 dO S e4 u fE;obtain ⟨b3,e⟩:∃ X:Nat→Prop,X=(fun k=>dz k∨dA k):=⟨_,rfl⟩;have ee:∀ k,b3 k→k<ea.heap.size:=fun k h=>by rw[e]at h;exact (h).elim (fun h=>dE k h) (fun h=>dF k h)
 have e5:∀ k,b3 k→k<dO.heap.size:=fun k h=>cl (ee k h) S.size;have e6:∀ k,b3 k→y k∨v.heap.size≤k:=fun k h=>by rw[e]at h;exact (h).elim (fun h=>ec k h) (fun h=>ed k h)
 have e7:ar pcE 25 dO b3 (ro b2) 1 ([Pc.of r7.1]:List Pc):=bI e4 (by rw[e];exact ⟨[vI r7.1.1,vI r7.1.2.1,vI r7.1.2.2.1,vB r7.1.2.2.2.1,vB r7.1.2.2.2.2.1,vL eS r7.1.2.2.2.2.2.1 eT,vL eU r7.1.2.2.2.2.2.2 eV],[],rfl,pc_mk7 ((e2.grown S dE nb).wide (fun _ h=>(.inl h))) ((e3.grown S dF nb).wide (fun _ h=>(.inr h))),rfl⟩) (show 1≤maxLen by decide) (fun h=>noteq u (ee _ h));have ef:∀ k,b3 k→(fun k=>dz k∨dA k) k:=fun k h=>by rw[e]at h;exact h
 clear e;have eg:=aj b0 eb bv;have e8:Lo v (ro b2):=loo u eg.size;have fF:=apD u dD;have fG:=apG (p:=l) u dD (fun h=>(ef _ h).elim (xq ec f w) (xq ed f w));have T:=cK b5 ds;have dG:=d9.grown eb (ai T);have F:v.heap.size≤z:=bT b5 eQ.size;have fH:∀ g,aK (ro b2)=some g→¬ dz g:=fun g e hx=>nl (b8 u g e) (dE _ hx);have fI:∀ g,aK (ro b2)=some g→¬ dA g:=fun g e hx=>nl (b8 u g e) (dF _ hx);refine p1 3 (vL (ro b2) ([Pc.of r7.1]:List Pc) 1)<|co<|af M ?_;intro W h1 M
 refine aC (J:=fun a K=>∃ (m:bm) (N:Nat),∃ (r:Nat→Prop),v.grownBy K (some l)∧Sz dO K∧ar pcE 25 K r m N W.1∧(Lo v m)∧(∀ k,r k→k<K.heap.size)∧(∀ k,r k→y k∨v.heap.size≤k)∧(∀ g,aK m=some g→¬ (· =z) g)∧¬ (fun k=>aK m=some k∨r k) z∧ba K l 117 (cI W.2)∧ba K z 25 dx∧Qa a 24 [(0,bp l),(2,bp z),(3,vL m W.1 N)]) ?_ ?_
 ·refine aF<|bO (A:=fun (Z:(List Pc) × c6) a ah=>∃ (m:bm) (N:Nat),∃ (r:Nat→Prop),v.grownBy ah (some l)∧Sz dO ah∧ar pcE 25 ah r m N Z.1∧(Lo v m)∧(∀ k,r k→k<ah.heap.size)∧(∀ k,r k→y k∨v.heap.size≤k)∧(∀ g,aK m=some g→¬ (· =z) g)∧¬ (fun k=>aK m=some k∨r k) z∧ba ah l 117 (cI Z.2)∧ba ah z 25 dx∧Qa a 24 [(0,bp l),(2,bp z),(3,vL m Z.1 N)]) h1 ?_ ?_
  ·intro a hd hs al;exact ⟨(ro b2),1,b3,(aj eg S nb),bM,e7,e8,e5,e6,(apD u dG),(apG (p:=z) u dG (fun h=>(ef _ h).elim (apE dB (xlo F f) d9.lt) (apE dC (xlo F f) d9.lt))),(dD.grown S nb),(dG.grown S nb),hd,hs,aU al⟩
  ·rintro Z r2 h2 fm a ah ⟨o,dP,L,eh,ei,dH,x,a9,U,dI,dJ,fa,dK,hd,hs,al⟩;refine aM ?_ hd hs al;refine aJ<|aI<|p1 7 (bp l)<|af h2 ?_;intro eW fb h2;refine aq kr rfl kr ce (aT ak l Z.2 (bb [124]) ah fa eW fb) ?_;rintro fM fn ⟨q,rfl,ej⟩;refine aa<|bw h2 (fun fc h2=>?_) (fun fc h2=>?_)
   ·refine az<|aF<|av<|pN 2 [9,10] [(9,vL o Z.1 dP),(10,bp l)]<|af h2 ?_;intro D fd h2;have V:=aj eh q bv;refine aq kr rfl kr enters83 (c l eW.2 fn y (jg f V) ej (rg eO V f) (rg eP V f) D fd) ?_;rintro fN ek ⟨bd,eX,eY,be,eZ,e0,bg,rfl,ff,b6,fg,b7,dL⟩;have an:∀ k,be k→k<ek.heap.size:=fun k hk=>(b6 k hk).1;have dQ:∀ k,be k→y k∨v.heap.size≤k:=fun k hk=>(b6 k hk).2.elim (fun h=>(fun k (hk:y k)=>Or.inl hk) k h) (fun h=>.inr (Nat.le_trans V.size h));have a0:∀ k,bg k→k<ek.heap.size:=fun k hk=>(b7 k hk).1;have dR:∀ k,bg k→y k∨v.heap.size≤k:=fun k hk=>(b7 k hk).2.elim (fun h=>(fun k (hk:y k)=>Or.inl hk) k h) (fun h=>.inr (Nat.le_trans V.size h));refine aA (fun b=>.slice (ro b) 1 1) (bj D.1 eX eY eZ e0) 25 kr kr ?_;intro d ca n en i fp;obtain ⟨j,e⟩:∃ X:Nat→Prop,X=(fun k=>be k∨bg k):=⟨_,rfl⟩;have dS:∀ k,j k→k<ek.heap.size:=fun k h=>by rw[e]at h;exact (h).elim (fun h=>an k h) (fun h=>a0 k h)
    have dT:∀ k,j k→k<ca.heap.size:=fun k h=>cl (dS k h) n.size;have eo:∀ k,j k→y k∨v.heap.size≤k:=fun k h=>by rw[e]at h;exact (h).elim (fun h=>dQ k h) (fun h=>dR k h)
    have cb:ar pcE 25 ca j (ro d) 1 ([Pc.of D.1]:List Pc):=bI en (by rw[e];exact ⟨[vI D.1.1,vI D.1.2.1,vI D.1.2.2.1,vB D.1.2.2.2.1,vB D.1.2.2.2.2.1,vL eX D.1.2.2.2.2.2.1 eY,vL eZ D.1.2.2.2.2.2.2 e0],[],rfl,pc_mk7 ((ff.grown n an nb).wide (fun _ h=>(.inl h))) ((fg.grown n a0 nb).wide (fun _ h=>(.inr h))),rfl⟩) (show 1≤maxLen by decide) (fun h=>noteq i (dS _ h));have cc:∀ k,j k→(fun k=>be k∨bg k) k:=fun k h=>by rw[e]at h;exact h
    clear e;have dU:=aj V bd bv;have ep:Lo v (ro d):=loo i dU.size;have dV:=aR a9 q.size;have ch:=(dH.grown q a9 (cW (ai (xq (fun k (hk:aK o=some k∨L k)=>hk.elim (fun h=>Or.inr (x k h)) (fun h=>U k h)) f w)))).grown bd dV (cW (ai (xq (fun k (hk:aK o=some k∨L k)=>hk.elim (fun h=>Or.inr (x k h)) (fun h=>U k h)) f w)));have a1:=aR dV bd.size;have fq:∀ g,aK (ro d)=some g→¬ (fun k=>aK o=some k∨L k) g:=fun g e hx=>nl (b8 i g e) ((fun k (hk:aK o=some k∨L k)=>hk.elim (fun h=>ch.lt k h) (fun h=>a1 k h)) _ hx);have dW:=dH.grown q a9 (cW (ai (xq (fun k (hk:aK o=some k∨L k)=>hk.elim (fun h=>Or.inr (x k h)) (fun h=>U k h)) f w)));have dX:∀ g,aK o=some g→¬ be g:=fun g e h=>((b6 _ h).2.elim (fun h=>((fun g (e:aK o=some g) (hx:y g)=>nl (x g e) (f _ hx).1)) g e h) (fun h=>nl h (dW.lt g e)));have dY:∀ g,aK o=some g→¬ bg g:=fun g e h=>((b7 _ h).2.elim (fun h=>((fun g (e:aK o=some g) (hx:y g)=>nl (x g e) (f _ hx).1)) g e h) (fun h=>nl h (dW.lt g e)));have dZ:∀ g,aK o=some g→¬ (fun k=>aK (ro d)=some k∨j k) g:=fun g e h=>h.elim (fun h=>nl (b8 i _ h) ((fun k (hk:aK o=some k∨L k)=>hk.elim (fun h=>ch.lt k h) (fun h=>a1 k h)) g (.inl e))) (fun h=>((cc _ h)).elim (fun h=>(dX) g e h) (fun h=>(dY) g e h));have fr:=apD i dL;have fs:=apG (p:=l) i dL (fun h=>(cc _ h).elim (xq dQ f w) (xq dR f w));have ck:=(dK.grown q (ai T)).grown bd (ai T);have ft:=apD i ck;have d0:=dK.grown q (ai T);have fu:∀ g,aK (ro d)=some g→¬ be g:=fun g e hx=>nl (b8 i g e) (an _ hx);have fv:∀ g,aK (ro d)=some g→¬ bg g:=fun g e hx=>nl (b8 i g e) (a0 _ hx);refine af h2 ?_;intro dM eq h2;obtain ⟨B,e⟩:∃ X:Nat→Prop,X=fun k=>L k∨(fun k=>aK (ro d)=some k∨j k) k:=⟨_,rfl⟩;have d1:∀ k,B k→k<ca.heap.size:=fun k hk=>by rw[e]at hk;exact hk.elim (fun h=>(aR a1 n.size) k h) (fun h=>(fun k (hk:aK (ro d)=some k∨j k)=>hk.elim (fun h=>cb.lt k h) (fun h=>dT k h)) k h)
    have er:∀ k,B k→y k∨v.heap.size≤k:=fun k hk=>by rw[e]at hk;exact hk.elim (fun h=>U k h) (fun h=>(fun k (hk:aK (ro d)=some k∨j k)=>hk.elim (fun h=>Or.inr (ep k h)) (fun h=>eo k h)) k h)
    have d2:=ch.grown n a1 nb;have es:ar pcE 25 ca B o dP Z.1:=(d2).wide (fun k hk=>by rw[e];exact .inl hk) (fun g e1 hk=>by rw[e]at hk;exact hk.elim (fun h=>(d2).out g e1 h) (fun h=>dZ g e1 h));have et:∀ k,(fun k=>aK (ro d)=some k∨j k) k→B k:=fun k hk=>by rw[e];exact .inr hk
    have eu:∀ k,B k→L k∨(fun k=>aK (ro d)=some k∨j k) k:=fun k hk=>by rw[e]at hk;exact hk
    clear e;refine cj pcE (t:=23) (ty:=23) (e:=25) (a:=o) (ax:=(ro d)) (cap:=dP) (cx:=1) (xs:=Z.1) (ys:=([Pc.of D.1]:List Pc)) dM (X:=B) (Y:=(fun k=>aK (ro d)=some k∨j k)) cq rfl rfl kr kr aZ info25 es (cb.rd (Y:=fun k=>aK (ro d)=some k∨j k) (fun _ h=>.inr h) (fun g e=>.inl e)) eq (.inl et) d1 ?_;intro E el fh O ev G;refine ⟨nofun,?_⟩;have d3:=aj dU n nb;have ew:Lo v E:=cA G x d3.size;have ex:∀ k,B k→k<fh.heap.size:=fun k hk=>cl (d1 k hk) O.size;have cs:=ck.grown n nb;have ey:∀ g,aK E=some g→¬ (· =z) g:=bK G dI (ci cs);have ez:¬ (fun k=>aK E=some k∨B k) z:=fun h=>h.elim (fun h=>cd G (fun h=>(dJ) (.inl h)) (cs.lt) h) (fun h=>(eu _ h).elim (fun h=>(dJ) (.inr h)) (fun h=>((apG (p:=z) i ck (fun h=>(cc _ h).elim (apE b6 (xlo F f) d0.lt) (apE b7 (xlo F f) d0.lt)))) h));have fw:∀ g,aK E=some g→¬ be g:=bK G dX (aR an n.size);have fx:∀ g,aK E=some g→¬ bg g:=bK G dY (aR a0 n.size);have fy:∀ g,aK E=some g→¬ (fun k=>aK (ro d)=some k∨j k) g:=bK G dZ (fun k (hk:aK (ro d)=some k∨j k)=>hk.elim (fun h=>cb.lt k h) (fun h=>dT k h));refine p1 3 (vL E dM el)<|aa<|bt ?_
    obtain rfl:=sj h2;refine ac fun a hd hs al=>?_;exact ⟨(dM,D.2),rfl,E,el,B,(aj d3 O (fun g e=>.inr (x g e))),(nt (nt (nt (nt ei q.size) bd.size) n.size) O.size),ev,ew,ex,er,ey,ez,((dL.grown n nb).grown O (fun g (e:aK o=some g) (h:g=l)=>negt w (x g e) h)),(cs.grown O dI),hd,hs,aU al⟩
   ·refine bB<|bN rfl ?_
    obtain rfl:=sj h2;replace h1:=congrArg some (fm _ rfl);obtain rfl:=sj h1;refine ac fun a hd hs al=>?_;exact ⟨o,dP,L,(aj eh q bv),(nt ei q.size),(dH.grown q a9 (cW (ai (xq (fun k (hk:aK o=some k∨L k)=>hk.elim (fun h=>Or.inr (x k h)) (fun h=>U k h)) f w)))),x,(aR a9 q.size),U,dI,dJ,ej,(dK.grown q (ai T)),hd,hs,aU al⟩
 ·rintro a K ⟨s,dN,C,a2,fz,a3,cv,P,Q,fA,a4,d4,a5,hd,hs,al⟩;refine aM ?_ hd hs al;refine aJ<|aI<|pL [14,15,16] 16 (vB ((lz W.1)==1))<|aa<|bw M (fun eA M=>?_) (fun eA M=>?_)
  ·refine aI<|p1 17 (vL s W.1 dN)<|af M ?_;intro cw d5 M;refine cX .i64 7 (a3.rd (Y:=fun k=>aK s=some k∨C k) (fun _ h=>.inr h) (fun g e=>.inl e)) d5 aZ ?_;obtain ⟨_,⟨_,_,rfl,rfl,⟨_,_,rfl,rfl,⟨_,_,rfl,rfl,⟨_,_,rfl,rfl,⟨_,_,rfl,rfl,⟨_,_,rfl,⟨bl,bn,rfl,eB⟩,⟨bs,bA,rfl,eC⟩⟩⟩⟩⟩⟩⟩,eD⟩:=cells_un (a3.cellsK d5);refine laq 25 (aP s ((0:Int).toNat*7)) (du (Pc.un cw) bl bn bs bA) (bU (eD K (fun _ _=>rfl))) ?_;refine aB 25 0 (.agg (du (Pc.un cw) bl bn bs bA)) (du (Pc.un cw) bl bn bs bA) a5 kr kr kr ?_;intro fi H eE fB;refine aa<|am ?_
   obtain rfl:=sj M;refine au (ao [.agg (du (Pc.un cw) bl bn bs bA)] rfl ⟨⟨⟨z,0,none⟩,kr,run_loadVar_row fi z _ 25 _ _ _ eE bX rfl kr⟩,trivial⟩ ?_);exact ⟨(aj a2 H (cE F)),bl,bn,C,bs,bA,C,rfl,(eB.grown H P (ai (fun h=>a4 (.inr h)))),sxq (aR P H.size) Q,(eC.grown H P (ai (fun h=>a4 (.inr h)))),sxq (aR P H.size) Q,(d4.grown H (ai (apH b5 ds)))⟩
  ·refine az<|aI<|pN 3 [20,21,22] [(20,bp l),(22,.agg #[vI 9,vI 0,vI 0,vB false,vB false,vL none ([]:List bC) 0,vL s W.1 dN])]<|af M ?_;intro c0 eF M;refine aq kr rfl kr enters85 (cn ak l W.2 none 0 s dN (9,0,0,false,false,([]:List bC),W.1) K (fun k=>(fun _=>False) k∨(fun k=>aK s=some k∨C k) k) (fun k hk=>⟨(hk).elim (fun h=>h.elim) (fun h=>(fun k (hk:aK s=some k∨C k)=>hk.elim (fun h=>a3.lt k h) (fun h=>P k h)) k h),fun e=>(hk).elim (fun h=>((h:False).elim)) (fun h=>(xq (fun k (hk:aK s=some k∨C k)=>hk.elim (fun h=>Or.inr (cv k h)) (fun h=>Q k h)) f w) (e ▸ h))⟩) d4 ((Rd.nil bS K (fun _=>False) none 0).wide (fun k hk=>(.inl hk))) ((a3.rd (Y:=fun k=>aK s=some k∨C k) (fun _ h=>.inr h) (fun g e=>.inl e)).wide (fun k hk=>(.inr hk))) c0 eF) ?_;rintro fJ em ⟨d6,c1,c2,c3,c4,c5,c7,rfl,eG,c8,eH,c9,eI⟩;have d7:∀ k,c3 k→k<em.heap.size:=fun k hk=>(c8 k hk).1;have eJ:∀ k,c3 k→y k∨v.heap.size≤k:=fun k hk=>(c8 k hk).2.elim (fun h=>(h).elim (fun h=>h.elim) (fun h=>(fun k (hk:aK s=some k∨C k)=>hk.elim (fun h=>Or.inr (cv k h)) (fun h=>Q k h)) k h)) (fun h=>.inr (Nat.le_trans a2.size h));have d8:∀ k,c7 k→k<em.heap.size:=fun k hk=>(c9 k hk).1;have eK:∀ k,c7 k→y k∨v.heap.size≤k:=fun k hk=>(c9 k hk).2.elim (fun h=>(h).elim (fun h=>h.elim) (fun h=>(fun k (hk:aK s=some k∨C k)=>hk.elim (fun h=>Or.inr (cv k h)) (fun h=>Q k h)) k h)) (fun h=>.inr (Nat.le_trans a2.size h));refine aB 25 0 (.agg (bj c0.1 c1 c2 c4 c5)) (bj c0.1 c1 c2 c4 c5) (a5.grown d6 (ai T)) kr kr kr ?_;intro fj I eL fC;refine aa<|am ?_
   obtain rfl:=sj M;refine au (ao [.agg (bj c0.1 c1 c2 c4 c5)] rfl ⟨⟨⟨z,0,none⟩,kr,run_loadVar_row fj z _ 25 _ _ _ eL bX rfl kr⟩,trivial⟩ ?_);have eM:¬ c3 z:=fun h=>((c8 _ h).2.elim (fun h=>(h).elim (fun h=>by cases h) (fun h=>(a4) h)) (fun h=>nl h (a5.lt)));have eN:¬ c7 z:=fun h=>((c9 _ h).2.elim (fun h=>(h).elim (fun h=>by cases h) (fun h=>(a4) h)) (fun h=>nl h (a5.lt)));exact ⟨(aj (aj a2 d6 bv) I (cE F)),c1,c2,c3,c4,c5,c7,rfl,(eG.grown I d7 (ai eM)),sxq (aR d7 I.size) eJ,(eH.grown I d8 (ai eN)),sxq (aR d8 I.size) eK,(eI.grown I (ai (apH b5 ds)))⟩
set_option maxHeartbeats 4000000 in
set_option maxRecDepth 100000 in
theorem regex_parser_sequence_step (ak:Nat) (O:gC56 ak) (V:gC83 ak) (n:gC107 ak) (bg:gC127 ak) (a8:gC150 ak) (c:Nat) (eB:c6) (f:World) (y:Nat→Prop) (z:∀ k,y k→k<f.heap.size∧k≠c) (bd:ba f c 117 (cI eB)) (eX:Rd bE f y (ro 0) 256 bZ) (eY:Rd (prE (iE .u8) (iE .u8)) f y (ro 1) 16 cy) (r0:cB × c6) (Q:regex_parser_sequence (ak+1) eB=some r0):
    Cs 83 [bp c] f (Ret fun v w'=>f.grownBy w' (some c)∧∃ (bq:bm) (bD:Nat),∃ (dD:Nat→Prop),∃ (dE:bm) (dF:Nat),∃ (dG:Nat→Prop),v=tup [.agg (bj r0.1 bq bD dE dF)]∧Rd bS w' dD bq bD r0.1.2.2.2.2.2.1∧(Sxb dD w' y f)∧Rd pcE w' dG dE dF r0.1.2.2.2.2.2.2∧(Sxb dG w' y f)∧ba w' c 117 (cI r0.2)):=by
 have dH:f.grownBy f (some c):=cJ _ _;rw[regex_parser_sequence.eq_2]at Q;refine aH Tryz.func83 rfl Tryz.ntmps83 kr ?_;refine bQ [(0,bp c)] ?_;have W:=bd.lt;refine aI<|aA bp dx 25 kr kr ?_
 intro s w2 eC eZ F fj;refine bF<|p1 3 (vL none ([]:List Pc) 0)<|co<|af Q ?_;intro j7 h1 Q
 refine aC (J:=fun a w8=>∃ (d:bm) (I:Nat),∃ (m:Nat→Prop),f.grownBy w8 (some c)∧Sz w2 w8∧ar pcE 25 w8 m d I j7.1∧(Lo f d)∧(∀ k,m k→k<w8.heap.size)∧(∀ k,m k→y k∨f.heap.size≤k)∧(∀ g,aK d=some g→¬ (· =s) g)∧¬ (fun k=>aK d=some k∨m k) s∧ba w8 c 117 (cI j7.2)∧ba w8 s 25 dx∧Qa a 29 [(0,bp c),(2,bp s),(3,vL d j7.1 I)]) ?_ ?_
 ·refine aF<|bO (A:=fun (Z:(List Pc) × c6) a K=>∃ (d:bm) (I:Nat),∃ (m:Nat→Prop),f.grownBy K (some c)∧Sz w2 K∧ar pcE 25 K m d I Z.1∧(Lo f d)∧(∀ k,m k→k<K.heap.size)∧(∀ k,m k→y k∨f.heap.size≤k)∧(∀ g,aK d=some g→¬ (· =s) g)∧¬ (fun k=>aK d=some k∨m k) s∧ba K c 117 (cI Z.2)∧ba K s 25 dx∧Qa a 29 [(0,bp c),(2,bp s),(3,vL d Z.1 I)]) h1 ?_ ?_
  ·intro a hd hs al;exact ⟨none,0,(fun _=>False),(aj dH eC nb),bM,ar.nil pcE 25 w2 (fun _=>False),nofun,fe,fe,nofun,(fun h=>h.elim nofun (fun e=>e)),(bd.grown eC nb),eZ,hd,hs,aU al⟩
  ·rintro Z r2 h2 e0 a K ⟨j,be,P,dT,eK,dU,G,bl,c4,c5,c7,bn,dV,hd,hs,al⟩;refine aM ?_ hd hs al;refine aJ<|aI<|af h2 ?_;intro dW h3 h2
   refine aO (J:=fun a an=>f.grownBy an (some c)∧Sz K an∧ba an c 117 (cI dW.2)∧ba an s 25 dx∧ar pcE 25 an P j be Z.1∧Qa a 29 [(0,bp c),(2,bp s),(3,vL j Z.1 be),(13,vB dW.1)]) ?_ ?_
   ·refine pL [4,5,6] 6 (bp c)<|bk 9 bn 0 rfl<|pL [8,9] 9 (vB (!(Z.2.1.toList==(bb []).toList)))<|cm 9 h3 (fun eL h3=>?_) (fun eL h3=>?_)
    ·refine p1 10 (bp c)<|af h3 ?_;intro eD eM h3;refine aq kr rfl kr enters106 (cP ak c Z.2 (bb [124,41]) K bn eD eM) ?_;rintro fk fl ⟨a0,rfl⟩;refine pL [12,13] 13 (vB (!eD))<|aa ?_;obtain rfl:=sj h3;refine ac fun a hd hs al=>?_;exact ⟨(aj dT a0 nb),a0.size,(bn.grown a0 nb),(dV.grown a0 nb),(dU.grown a0 bl nb),hd,hs,aU al⟩
    ·refine pL [10,11,12,13] 13 (vB false)<|aa ?_;obtain rfl:=sj h3;exact ac fun a hd hs al=>⟨dT,bM,bn,dV,dU,hd,hs,aU al⟩
   ·rintro a an ⟨H,bs,dX,bA,b0,hd,hs,al⟩;refine aM ?_ hd hs al;have dY:=(nt eK bs);refine bw h2 (fun eN h2=>?_) (fun eN h2=>?_)
    ·refine az<|aF<|av<|pN 2 [14,15] [(14,vL j Z.1 be),(15,bp c)]<|af h2 ?_;intro x eO h2;refine aq kr rfl kr enters107 (n c dW.2 an y (jg z H) dX (rg eX H z) (rg eY H z) x eO) ?_;rintro fm dZ ⟨a1,eE,eF,a2,eG,eH,a3,rfl,eP,b2,eQ,b3,c9⟩;have b4:∀ k,a2 k→k<dZ.heap.size:=fun k hk=>(b2 k hk).1;have d0:∀ k,a2 k→y k∨f.heap.size≤k:=fun k hk=>(b2 k hk).2.elim (fun h=>(fun k (hk:y k)=>Or.inl hk) k h) (fun h=>.inr (Nat.le_trans H.size h));have b5:∀ k,a3 k→k<dZ.heap.size:=fun k hk=>(b3 k hk).1;have d1:∀ k,a3 k→y k∨f.heap.size≤k:=fun k hk=>(b3 k hk).2.elim (fun h=>(fun k (hk:y k)=>Or.inl hk) k h) (fun h=>.inr (Nat.le_trans H.size h));refine aA (fun b=>.slice (ro b) 1 1) (bj x.1 eE eF eG eH) 25 kr kr ?_;intro l dI o eR i fa;obtain ⟨q,e⟩:∃ X:Nat→Prop,X=(fun k=>a2 k∨a3 k):=⟨_,rfl⟩;have d2:∀ k,q k→k<dZ.heap.size:=fun k h=>by rw[e]at h;exact (h).elim (fun h=>b4 k h) (fun h=>b5 k h)
     have d3:∀ k,q k→k<dI.heap.size:=fun k h=>cl (d2 k h) o.size;have eS:∀ k,q k→y k∨f.heap.size≤k:=fun k h=>by rw[e]at h;exact (h).elim (fun h=>d0 k h) (fun h=>d1 k h)
     have ds:ar pcE 25 dI q (ro l) 1 ([Pc.of x.1]:List Pc):=bI eR (by rw[e];exact ⟨[vI x.1.1,vI x.1.2.1,vI x.1.2.2.1,vB x.1.2.2.2.1,vB x.1.2.2.2.2.1,vL eE x.1.2.2.2.2.2.1 eF,vL eG x.1.2.2.2.2.2.2 eH],[],rfl,pc_mk7 ((eP.grown o b4 nb).wide (fun _ h=>(.inl h))) ((eQ.grown o b5 nb).wide (fun _ h=>(.inr h))),rfl⟩) (show 1≤maxLen by decide) (fun h=>noteq i (d2 _ h));have dz:∀ k,q k→(fun k=>a2 k∨a3 k) k:=fun k h=>by rw[e]at h;exact h
     clear e;have d4:=aj H a1 bv;have eT:Lo f (ro l):=loo i d4.size;have fb:=apD i c9;have fc:=apG (p:=c) i c9 (fun h=>(dz _ h).elim (xq d0 z W) (xq d1 z W));have dA:=bA.grown a1 (ai (cK F bd));have fd:=apD i dA;have dJ:f.heap.size≤s:=bT F dH.size;have dB:=b0.grown a1 (aR bl bs) (cW (ai (xq (fun k (hk:aK j=some k∨P k)=>hk.elim (fun h=>Or.inr (G k h)) (fun h=>c4 k h)) z W)));have b6:=aR (aR bl bs) a1.size;have ff:∀ g,aK (ro l)=some g→¬ (fun k=>aK j=some k∨P k) g:=fun g e hx=>nl (b8 i g e) ((fun k (hk:aK j=some k∨P k)=>hk.elim (fun h=>dB.lt k h) (fun h=>b6 k h)) _ hx);have d5:∀ g,aK j=some g→¬ a2 g:=fun g e h=>((b2 _ h).2.elim (fun h=>((fun g (e:aK j=some g) (hx:y g)=>nl (G g e) (z _ hx).1)) g e h) (fun h=>nl h (b0.lt g e)));have d6:∀ g,aK j=some g→¬ a3 g:=fun g e h=>((b3 _ h).2.elim (fun h=>((fun g (e:aK j=some g) (hx:y g)=>nl (G g e) (z _ hx).1)) g e h) (fun h=>nl h (b0.lt g e)));have d7:∀ g,aK j=some g→¬ (fun k=>aK (ro l)=some k∨q k) g:=fun g e h=>h.elim (fun h=>nl (b8 i _ h) ((fun k (hk:aK j=some k∨P k)=>hk.elim (fun h=>dB.lt k h) (fun h=>b6 k h)) g (.inl e))) (fun h=>((dz _ h)).elim (fun h=>(d5) g e h) (fun h=>(d6) g e h));have fg:∀ g,aK (ro l)=some g→¬ a2 g:=fun g e hx=>nl (b8 i g e) (b4 _ hx);have fh:∀ g,aK (ro l)=some g→¬ a3 g:=fun g e hx=>nl (b8 i g e) (b5 _ hx);refine af h2 ?_;intro d8 ed h2;obtain ⟨u,e⟩:∃ X:Nat→Prop,X=fun k=>P k∨(fun k=>aK (ro l)=some k∨q k) k:=⟨_,rfl⟩;have dK:∀ k,u k→k<dI.heap.size:=fun k hk=>by rw[e]at hk;exact hk.elim (fun h=>(aR b6 o.size) k h) (fun h=>(fun k (hk:aK (ro l)=some k∨q k)=>hk.elim (fun h=>ds.lt k h) (fun h=>d3 k h)) k h)
     have ee:∀ k,u k→y k∨f.heap.size≤k:=fun k hk=>by rw[e]at hk;exact hk.elim (fun h=>c4 k h) (fun h=>(fun k (hk:aK (ro l)=some k∨q k)=>hk.elim (fun h=>Or.inr (eT k h)) (fun h=>eS k h)) k h)
     have dL:=dB.grown o b6 nb;have ef:ar pcE 25 dI u j be Z.1:=(dL).wide (fun k hk=>by rw[e];exact .inl hk) (fun g e1 hk=>by rw[e]at hk;exact hk.elim (fun h=>(dL).out g e1 h) (fun h=>d7 g e1 h));have eg:∀ k,(fun k=>aK (ro l)=some k∨q k) k→u k:=fun k hk=>by rw[e];exact .inr hk
     have eh:∀ k,u k→P k∨(fun k=>aK (ro l)=some k∨q k) k:=fun k hk=>by rw[e]at hk;exact hk
     clear e;refine cj pcE (t:=23) (ty:=23) (e:=25) (a:=j) (ax:=(ro l)) (cap:=be) (cx:=1) (xs:=Z.1) (ys:=([Pc.of x.1]:List Pc)) d8 (X:=u) (Y:=(fun k=>aK (ro l)=some k∨q k)) cq rfl rfl kr kr aZ info25 ef (ds.rd (Y:=fun k=>aK (ro l)=some k∨q k) (fun _ h=>.inr h) (fun g e=>.inl e)) ed (.inl eg) dK ?_;intro B d9 eU L ei C;refine ⟨nofun,?_⟩;have dM:=aj d4 o nb;have ej:Lo f B:=cA C G dM.size;have ek:∀ k,u k→k<eU.heap.size:=fun k hk=>cl (dK k hk) L.size;have b7:=dA.grown o nb;have el:∀ g,aK B=some g→¬ (· =s) g:=bK C c5 (ci b7);have em:¬ (fun k=>aK B=some k∨u k) s:=fun h=>h.elim (fun h=>cd C (fun h=>(c7) (.inl h)) (b7.lt) h) (fun h=>(eh _ h).elim (fun h=>(c7) (.inr h)) (fun h=>((apG (p:=s) i dA (fun h=>(dz _ h).elim (apE b2 (xlo dJ z) bA.lt) (apE b3 (xlo dJ z) bA.lt)))) h));have e3:∀ g,aK B=some g→¬ a2 g:=bK C d5 (aR b4 o.size);have e4:∀ g,aK B=some g→¬ a3 g:=bK C d6 (aR b5 o.size);have e5:∀ g,aK B=some g→¬ (fun k=>aK (ro l)=some k∨q k) g:=bK C d7 (fun k (hk:aK (ro l)=some k∨q k)=>hk.elim (fun h=>ds.lt k h) (fun h=>d3 k h));refine p1 3 (vL B d8 d9)<|aa<|bt ?_
     obtain rfl:=sj h2;refine ac fun a hd hs al=>?_;exact ⟨(d8,x.2),rfl,B,d9,u,(aj dM L (fun g e=>.inr (G g e))),(nt (nt (nt dY a1.size) o.size) L.size),ei,ej,ek,ee,el,em,((c9.grown o nb).grown L (fun g (e:aK j=some g) (h:g=c)=>negt W (G g e) h)),(b7.grown L c5),hd,hs,aU al⟩
    ·refine bB<|bN rfl ?_
     obtain rfl:=sj h2;replace h1:=congrArg some (e0 _ rfl);obtain rfl:=sj h1;refine ac fun a hd hs al=>?_;exact ⟨j,be,P,H,dY,b0,G,aR bl bs,c4,c5,c7,dX,bA,hd,hs,aU al⟩
 ·rintro a w8 ⟨r,dC,w,R,e6,S,ca,M,N,e7,T,dN,U,hd,hs,al⟩;refine aM ?_ hd hs al;refine aJ<|aI<|pL [19,20,21] 21 (vB ((lz j7.1)==1))<|aa<|bw Q (fun en Q=>?_) (fun en Q=>?_)
  ·refine aI<|p1 22 (vL r j7.1 dC)<|af Q ?_;intro cb dO Q;refine cX .i64 7 (S.rd (Y:=fun k=>aK r=some k∨w k) (fun _ h=>.inr h) (fun g e=>.inl e)) dO aZ ?_;obtain ⟨_,⟨_,_,rfl,rfl,⟨_,_,rfl,rfl,⟨_,_,rfl,rfl,⟨_,_,rfl,rfl,⟨_,_,rfl,rfl,⟨_,_,rfl,⟨a4,a5,rfl,eo⟩,⟨a6,a7,rfl,ep⟩⟩⟩⟩⟩⟩⟩,eq⟩:=cells_un (S.cellsK dO);refine laq 25 (aP r ((0:Int).toNat*7)) (du (Pc.un cb) a4 a5 a6 a7) (bU (eq w8 (fun _ _=>rfl))) ?_;refine aB 25 0 (.agg (du (Pc.un cb) a4 a5 a6 a7)) (du (Pc.un cb) a4 a5 a6 a7) U kr kr kr ?_;intro eV D er e8;refine aa<|am ?_
   obtain rfl:=sj Q;refine au (ao [.agg (du (Pc.un cb) a4 a5 a6 a7)] rfl ⟨⟨⟨s,0,none⟩,kr,run_loadVar_row eV s _ 25 _ _ _ er bX rfl kr⟩,trivial⟩ ?_);have ea:f.heap.size≤s:=bT F dH.size;exact ⟨(aj R D (cE ea)),a4,a5,w,a6,a7,w,rfl,(eo.grown D M (ai (fun h=>T (.inr h)))),sxq (aR M D.size) N,(ep.grown D M (ai (fun h=>T (.inr h)))),sxq (aR M D.size) N,(dN.grown D (ai (apH F bd)))⟩
  ·refine az<|aI<|pN 3 [25,26,27] [(25,bp c),(27,.agg #[vI 8,vI 0,vI 0,vB false,vB false,vL none ([]:List bC) 0,vL r j7.1 dC])]<|af Q ?_;intro cc es Q;refine aq kr rfl kr enters85 (cn ak c j7.2 none 0 r dC (8,0,0,false,false,([]:List bC),j7.1) w8 (fun k=>(fun _=>False) k∨(fun k=>aK r=some k∨w k) k) (fun k hk=>⟨(hk).elim (fun h=>h.elim) (fun h=>(fun k (hk:aK r=some k∨w k)=>hk.elim (fun h=>S.lt k h) (fun h=>M k h)) k h),fun e=>(hk).elim (fun h=>((h:False).elim)) (fun h=>(xq (fun k (hk:aK r=some k∨w k)=>hk.elim (fun h=>Or.inr (ca k h)) (fun h=>N k h)) z W) (e ▸ h))⟩) dN ((Rd.nil bS w8 (fun _=>False) none 0).wide (fun k hk=>(.inl hk))) ((S.rd (Y:=fun k=>aK r=some k∨w k) (fun _ h=>.inr h) (fun g e=>.inl e)).wide (fun k hk=>(.inr hk))) cc es) ?_;rintro fi eb ⟨dP,ch,ck,cs,cv,cw,c0,rfl,et,c1,eu,c2,ev⟩;have dQ:∀ k,cs k→k<eb.heap.size:=fun k hk=>(c1 k hk).1;have ew:∀ k,cs k→y k∨f.heap.size≤k:=fun k hk=>(c1 k hk).2.elim (fun h=>(h).elim (fun h=>h.elim) (fun h=>(fun k (hk:aK r=some k∨w k)=>hk.elim (fun h=>Or.inr (ca k h)) (fun h=>N k h)) k h)) (fun h=>.inr (Nat.le_trans R.size h));have dR:∀ k,c0 k→k<eb.heap.size:=fun k hk=>(c2 k hk).1;have ex:∀ k,c0 k→y k∨f.heap.size≤k:=fun k hk=>(c2 k hk).2.elim (fun h=>(h).elim (fun h=>h.elim) (fun h=>(fun k (hk:aK r=some k∨w k)=>hk.elim (fun h=>Or.inr (ca k h)) (fun h=>N k h)) k h)) (fun h=>.inr (Nat.le_trans R.size h));refine aB 25 0 (.agg (bj cc.1 ch ck cv cw)) (bj cc.1 ch ck cv cw) (U.grown dP (ai (cK F bd))) kr kr kr ?_;intro eW E ey e9;refine aa<|am ?_
   obtain rfl:=sj Q;refine au (ao [.agg (bj cc.1 ch ck cv cw)] rfl ⟨⟨⟨s,0,none⟩,kr,run_loadVar_row eW s _ 25 _ _ _ ey bX rfl kr⟩,trivial⟩ ?_);have ec:f.heap.size≤s:=bT F dH.size;have ez:¬ cs s:=fun h=>((c1 _ h).2.elim (fun h=>(h).elim (fun h=>by cases h) (fun h=>(T) h)) (fun h=>nl h (U.lt)));have eA:¬ c0 s:=fun h=>((c2 _ h).2.elim (fun h=>(h).elim (fun h=>by cases h) (fun h=>(T) h)) (fun h=>nl h (U.lt)));exact ⟨(aj (aj R dP bv) E (cE ec)),ch,ck,cs,cv,cw,c0,rfl,(et.grown E dQ (ai ez)),sxq (aR dQ E.size) ew,(eu.grown E dR (ai eA)),sxq (aR dR E.size) ex,(ev.grown E (ai (apH F bd)))⟩
set_option maxHeartbeats 4000000 in
set_option maxRecDepth 100000 in
theorem regex_parser_repeated_step (ak:Nat) (d9:gC56 ak) (eE:gC83 ak) (eF:gC107 ak) (c7:gC127 ak) (eP:gC150 ak) (c:Nat) (hK:c6) (r:World) (X0:Nat→Prop) (s:∀ k,X0 k→k<r.heap.size∧k≠c) (bd:ba r c 117 (cI hK)) (la:Rd bE r X0 (ro 0) 256 bZ) (lb:Rd (prE (iE .u8) (iE .u8)) r X0 (ro 1) 16 cy) (r0:cB × c6) (W:regex_parser_repeated (ak+1) hK=some r0):
    Cs 107 [bp c] r (Ret fun v w'=>r.grownBy w' (some c)∧∃ (bq:bm) (bD:Nat),∃ (fK:Nat→Prop),∃ (fL:bm) (fM:Nat),∃ (fN:Nat→Prop),v=tup [.agg (bj r0.1 bq bD fL fM)]∧Rd bS w' fK bq bD r0.1.2.2.2.2.2.1∧(Sxb fK w' X0 r)∧Rd pcE w' fN fL fM r0.1.2.2.2.2.2.2∧(Sxb fN w' X0 r)∧ba w' c 117 (cI r0.2)):=by
 have eG:r.grownBy r (some c):=cJ _ _;rw[regex_parser_repeated.eq_2]at W;refine aH Tryz.func107 rfl Tryz.ntmps107 kr ?_;refine bQ [(0,bp c)] ?_;have w:=bd.lt;refine aI<|aA bp dx 25 kr kr ?_
 intro q w2 hM L M lc;refine bF<|p1 8 (bp c)<|af W ?_;intro m k0 W;have Z:=aj eG hM nb;refine aq kr rfl kr enters127 (c7 c hK w2 X0 (jg s Z) (bd.grown hM nb) (rg la Z s) (rg lb Z s) m k0) ?_;rintro md k1 ⟨x,C,D,P,E,F,Q,rfl,c8,dI,c9,dJ,eH⟩;have A:∀ k,P k→k<k1.heap.size:=fun k hk=>(dI k hk).1;have H:∀ k,P k→X0 k∨r.heap.size≤k:=fun k hk=>(dI k hk).2.elim (fun h=>(fun k (hk:X0 k)=>Or.inl hk) k h) (fun h=>.inr (Nat.le_trans Z.size h));have B:∀ k,Q k→k<k1.heap.size:=fun k hk=>(dJ k hk).1;have I:∀ k,Q k→X0 k∨r.heap.size≤k:=fun k hk=>(dJ k hk).2.elim (fun h=>(fun k (hk:X0 k)=>Or.inl hk) k h) (fun h=>.inr (Nat.le_trans Z.size h));refine aA bp dx 25 kr kr ?_;intro ah me f hN n k2;refine aB 25 0 (.agg (bj m.1 C D E F)) (bj m.1 C D E F) hN kr kr kr ?_;intro ld i fG k3;refine bF<|p1 11 (bp c)<|af W ?_;intro j hO W;refine aq kr rfl kr enters128 (regex_parser_bounds_ok ak c m.2 ld ((eH.grown f nb).grown i (ai (apH n eH))) j hO) ?_;rintro mf le ⟨d,rfl,bl⟩;refine pN 7 [4,5,6,10,13,14,15] [(4,vI j.1),(5,vI j.2.1),(6,vB j.2.2.1)]<|co<|aI<|pL [16,17] 17 (vB (!j.2.2.1))<|aa<|bw W (fun hP W=>?_) (fun hP W=>?_)
 ·refine aI<|dd 25 ah (bj m.1 C D E F) (bU (fG.grown d (ai (cK n eH)))) ?_;have fH:=cK M bd;refine aB 25 0 (.agg (bj m.1 C D E F)) (bj m.1 C D E F) ((((L.grown x (ai fH)).grown f nb).grown i (ai (ng (cl ((ci (L.grown x (ai fH))) _ rfl) ((bi n) _ rfl))))).grown d (ai fH)) kr kr kr ?_;intro lf ea k4 lR;refine aa<|am ?_
  obtain rfl:=sj W;refine au (ao [.agg (bj m.1 C D E F)] rfl ⟨⟨⟨q,0,none⟩,kr,run_loadVar_row lf q _ 25 _ _ _ k4 bX rfl kr⟩,trivial⟩ ?_);have iG:r.heap.size≤ah:=bT n (aj Z x bv).size;have eQ:r.heap.size≤q:=bT M eG.size;have hQ:=aR A f.size;have hR:=aR hQ i.size;have hS:=aR hR d.size;have hT:=aR B f.size;have hU:=aR hT i.size;have hV:=aR hU d.size;exact ⟨(aj (aj (aj (aj (aj Z x bv) f nb) i (cE iG)) d bv) ea (cE eQ)),C,D,P,E,F,Q,rfl,((((c8.grown f A nb).grown i hQ (ai (apF n A))).grown d hR (ai (xq H s w))).grown ea hS (ai (apE dI (xlo eQ s) L.lt))),sxq (aR hS ea.size) H,((((c9.grown f B nb).grown i hT (ai (apF n B))).grown d hU (ai (xq I s w))).grown ea hV (ai (apE dJ (xlo eQ s) L.lt))),sxq (aR hV ea.size) I,(bl.grown ea (ai (apH M bd)))⟩
 ·refine az<|aJ<|aI<|p1 19 (bp ah) ?_
  have eb:=cK n eH;have ch:=fG.grown d (ai eb);refine bk 3 ch 0 rfl<|aa<|aF<|aJ<|aI<|pL [21,22] 21 (vB (m.1.1==4))<|aa<|bw W (fun hW W=>?_) (fun hW W=>?_)
  ·cases W
  ·refine aI<|pL [21,23] 21 (vB (m.1.1==5))<|aa<|bw W (fun hX W=>?_) (fun hX W=>?_)
   ·cases W
   ·refine aI<|pL [21,24] 21 (vB (m.1.1==6))<|bQ [(0,bp c),(2,bp q),(3,bp ah),(4,vI j.1),(5,vI j.2.1),(20,vI m.1.1),(21,vB (m.1.1==6))]<|aa<|bw W (fun hY W=>?_) (fun hY W=>?_)
    ·cases W
    ·refine av<|pL [21,25] 21 (vB (m.1.1==11))<|aa<|dm (b:=(m.1.1==11)) kr (fun eR=>?_) (fun eR=>?_)
     ·replace W:=ite_t eR W;cases W
     ·replace W:=ite_f eR W;refine az<|bt<|aJ<|af W ?_;intro dZ h1 W
      refine aC (J:=fun a dK=>∃ (ei:bm) (ej:Nat),∃ (a5:Nat→Prop),∃ (ek:bm) (el:Nat),∃ (a6:Nat→Prop),∃ (b0:Nat),r.grownBy dK (some c)∧Sz le dK∧Rd bS dK a5 ei ej dZ.2.2.2.2.2.2.1∧(∀ k,a5 k→k<dK.heap.size)∧(∀ k,a5 k→X0 k∨r.heap.size≤k)∧Rd pcE dK a6 ek el dZ.2.2.2.2.2.2.2∧(∀ k,a6 k→k<dK.heap.size)∧(∀ k,a6 k→X0 k∨r.heap.size≤k)∧¬ a5 q∧¬ a5 b0∧¬ a6 q∧¬ a6 b0∧¬ (· =q) b0∧ba dK c 117 (cI dZ.1)∧ba dK q 25 dx∧ba dK b0 25 (bj dZ.2 ei ej ek el)∧r.heap.size≤b0∧Qa a 42 [(0,bp c),(2,bp q),(7,bp b0)]) ?_ ?_
      ·refine bL kr ?_;intro dH l;refine af h1 ?_;intro z ec h1;refine af h1 ?_;intro K fO h1;refine gv_shareA (fun σ ck=>∃ (an:Nat),∃ (ds:bm),∃ (dz:Nat),∃ (dX:Nat→Prop),∃ (dA:bm),∃ (dB:Nat),∃ (dY:Nat→Prop),σ=[(0,bp c),(2,bp q),(7,bp an),(36,.agg (bj K.1 ds dz dA dB))]∧r.grownBy ck (some c)∧Sz dH ck∧ba ck c 117 (cI K.2)∧ba ck q 25 dx∧ba ck an 25 dx∧r.heap.size≤an∧Rd bS ck dX ds dz K.1.2.2.2.2.2.1∧(∀ k,dX k→k<ck.heap.size)∧(∀ k,dX k→X0 k∨r.heap.size≤k)∧Rd pcE ck dY dA dB K.1.2.2.2.2.2.2∧(∀ k,dY k→k<ck.heap.size)∧(∀ k,dY k→X0 k∨r.heap.size≤k)∧(¬ (· =an) c)∧(¬ dX q)∧(¬ dY q)∧(¬ (· =an) q)∧(¬ (· =c) an)∧(¬ (· =q) an)∧(¬ dX an)∧(¬ dY an)) (bA 11 [0,1,2,3,4,5,6,7,8,9]) 1 ?_ fun h2=>?_
       ·rintro σ ck ⟨an,ds,dz,dX,dA,dB,dY,rfl,iH,iI,iJ,iK,iL,fv,iM,fP,iN,iO,fQ,iP,lh,iQ,iR,li,iS,fR,fS,fT⟩;refine gv_alt [(10,bA 11 [0,1,2,3,4,5,6,7,8,9,10])] 0 kr kr ⟨?_,trivial⟩;refine cV (t:=25) (b:=an) (off:=0) (v:=(.agg #[.int .i64 K.1.1,.int .i64 K.1.2.1,.int .i64 K.1.2.2.1,.bool K.1.2.2.2.1,.bool K.1.2.2.2.2.1,.slice ds (length K.1.2.2.2.2.2.1) dz,.slice dA (length K.1.2.2.2.2.2.2) dB])) (t':=25) (cs:=#[.int .i64 0,.int .i64 0,.int .i64 0,.bool false,.bool false,.slice none (length ([]:List bC)) 0,.slice none (length ([]:List Pc)) 0]) #[.int .i64 K.1.1,.int .i64 K.1.2.1,.int .i64 K.1.2.2.1,.bool K.1.2.2.2.1,.bool K.1.2.2.2.2.1,.slice ds (length K.1.2.2.2.2.2.1) dz,.slice dA (length K.1.2.2.2.2.2.2) dB] cq rfl rfl kr kr kr (by intro u hu;simp[Value.cells]at hu;rcases hu with rfl | rfl | rfl | rfl | rfl | rfl | rfl<;>rfl) (show 0+7≤7 by decide) (by rfl) iL ?_;intro lS b2 iT lj;refine ⟨(fun _=>trivial),?_⟩;refine aa<|aw<|aX kr ?_;obtain rfl:=sj h1;refine ac fun a hd hs al=>?_;exact ⟨ds,dz,dX,dA,dB,dY,an,(aj iH b2 (cE fv)),(nt (nt l.size iI) b2.size),(iM.grown b2 fP (ai fS)),(aR fP b2.size),iN,(iO.grown b2 fQ (ai fT)),(aR fQ b2.size),iP,iQ,fS,iR,fT,fR,(iJ.grown b2 (ai iS)),(iK.grown b2 (ai fR)),iT,fv,hd,hs,aU al⟩
       refine gv_shareA (fun σ cv=>∃ (N:Nat),∃ (o:Nat),∃ (a8:Nat→Prop),σ=[(0,bp c),(2,bp q),(7,bp N),(28,bp c),(35,.agg #[vI 10,vI j.1,vI j.2.1,vB false,vB z.1,vL none ([]:List bC) 0,vL (ro o) ([Pc.of m.1]:List Pc) 1])]∧r.grownBy cv (some c)∧Sz dH cv∧ba cv c 117 (cI z.2)∧ba cv q 25 dx∧ba cv N 25 dx∧r.heap.size≤N∧ar pcE 25 cv a8 (ro o) 1 ([Pc.of m.1]:List Pc)∧(∀ k,a8 k→k<cv.heap.size)∧(Lo r (ro o))∧(∀ k,a8 k→X0 k∨r.heap.size≤k)∧(¬ (fun k=>aK (ro o)=some k∨a8 k) c)∧(¬ (· =N) c)∧(¬ (fun k=>aK (ro o)=some k∨a8 k) q)∧(¬ (· =N) q)∧(∀ g,aK (ro o)=some g→¬ (· =c) g)∧(∀ g,aK (ro o)=some g→¬ (· =q) g)∧(∀ g,aK (ro o)=some g→¬ (· =N) g)∧(¬ (· =c) N)∧(¬ (· =q) N)∧(¬ (fun k=>aK (ro o)=some k∨a8 k) N)) (bA 11 [0,1,2,3,4,5,6,7,9]) 2 ?_ fun h3=>?_
       ·rintro σ cv ⟨N,o,a8,rfl,eS,iU,iV,eT,eU,h4,fU,iW,fw,fV,iX,fW,fX,iY,lk,ll,lm,iZ,i0,fY⟩;refine gv_alt [(8,bA 11 [0,1,2,3,4,5,6,7,8,9])] 1 kr kr ⟨?_,trivial⟩;refine clq enters85 (cn ak c z.2 none 0 (ro o) 1 (10,j.1,j.2.1,false,z.1,([]:List bC),([Pc.of m.1]:List Pc)) cv (fun k=>(fun _=>False) k∨(fun k=>aK (ro o)=some k∨a8 k) k) (fun k hk=>⟨(hk).elim (fun h=>h.elim) (fun h=>(fun k (hk:aK (ro o)=some k∨a8 k)=>hk.elim (fun h=>fU.lt k h) (fun h=>iW k h)) k h),fun e=>(hk).elim (fun h=>((h:False).elim)) (fun h=>iX (e ▸ h))⟩) iV ((Rd.nil bS cv (fun _=>False) none 0).wide (fun k hk=>(.inl hk))) ((fU.rd (Y:=fun k=>aK (ro o)=some k∨a8 k) (fun _ h=>.inr h) (fun g e=>.inl e)).wide (fun k hk=>(.inr hk))) K fO) ?_;rintro lT h5 ⟨em,h6,h7,eI,h8,h9,eJ,rfl,i1,en,i2,eo,i3⟩;refine ⟨(fun _=>trivial),?_⟩;have i4:∀ k,eI k→k<h5.heap.size:=fun k hk=>(en k hk).1;have i5:∀ k,eI k→X0 k∨r.heap.size≤k:=fun k hk=>(en k hk).2.elim (fun h=>(h).elim (fun h=>h.elim) (fun h=>(fun k (hk:aK (ro o)=some k∨a8 k)=>hk.elim (fun h=>Or.inr (fw k h)) (fun h=>fV k h)) k h)) (fun h=>.inr (Nat.le_trans eS.size h));have i6:∀ k,eJ k→k<h5.heap.size:=fun k hk=>(eo k hk).1;have i7:∀ k,eJ k→X0 k∨r.heap.size≤k:=fun k hk=>(eo k hk).2.elim (fun h=>(h).elim (fun h=>h.elim) (fun h=>(fun k (hk:aK (ro o)=some k∨a8 k)=>hk.elim (fun h=>Or.inr (fw k h)) (fun h=>fV k h)) k h)) (fun h=>.inr (Nat.le_trans eS.size h));refine aa<|bc [0,2,7,36] (σ':=[(0,bp c),(2,bp q),(7,bp N),(36,.agg (bj K.1 h6 h7 h8 h9))]) kr<|aw ?_;have i8:¬ eI q:=fun h=>((en _ h).2.elim (fun h=>(h).elim (fun h=>by cases h) (fun h=>(fX) h)) (fun h=>nl h (eT.lt)));have i9:¬ eJ q:=fun h=>((eo _ h).2.elim (fun h=>(h).elim (fun h=>by cases h) (fun h=>(fX) h)) (fun h=>nl h (eT.lt)));have ja:¬ eI N:=fun h=>((en _ h).2.elim (fun h=>(h).elim (fun h=>by cases h) (fun h=>(fY) h)) (fun h=>nl h (eU.lt)));have jb:¬ eJ N:=fun h=>((eo _ h).2.elim (fun h=>(h).elim (fun h=>by cases h) (fun h=>(fY) h)) (fun h=>nl h (eU.lt)));exact h2 _ _ ⟨N,h6,h7,eI,h8,h9,eJ,rfl,(aj eS em bv),(nt iU em.size),i3,(eT.grown em (ai (cK M bd))),(eU.grown em (ai fW)),h4,i1,i4,i5,i2,i6,i7,fW,i8,i9,iY,iZ,i0,ja,jb⟩
       refine gv_shareA (fun σ dC=>∃ (o:Nat),∃ (a2:Nat→Prop),σ=[(0,bp c),(2,bp q),(28,bp c),(29,vI j.1),(30,vI j.2.1),(32,vB z.1),(34,vL (ro o) ([Pc.of m.1]:List Pc) 1)]∧r.grownBy dC (some c)∧Sz dH dC∧ba dC c 117 (cI z.2)∧ba dC q 25 dx∧ar pcE 25 dC a2 (ro o) 1 ([Pc.of m.1]:List Pc)∧(∀ k,a2 k→k<dC.heap.size)∧(Lo r (ro o))∧(∀ k,a2 k→X0 k∨r.heap.size≤k)∧(¬ (fun k=>aK (ro o)=some k∨a2 k) c)∧(¬ (fun k=>aK (ro o)=some k∨a2 k) q)∧(∀ g,aK (ro o)=some g→¬ (· =c) g)∧(∀ g,aK (ro o)=some g→¬ (· =q) g)) (bA 11 [0,1,2,3,4,5,6]) 4 ?_ fun ia=>?_
       ·rintro σ dC ⟨o,a2,rfl,dO,fZ,ep,dP,d0,d1,eK,eV,f0,eW,jc,jd⟩;refine aV [7] (bA 11 [0,1,2,3,4,5,6,7]) 3 kr kr<|p1 35 (.agg #[vI 10,vI j.1,vI j.2.1,vB false,vB z.1,vL none ([]:List bC) 0,vL (ro o) ([Pc.of m.1]:List Pc) 1])<|aa<|aw<|gv_alt [(8,bA 11 [0,1,2,3,4,5,6,7,8]),(9,bA 11 [0,1,2,3,4,5,6,7,9])] 2 kr kr ⟨?_,?_,trivial⟩
        ·refine clq enters85 (cn ak c z.2 none 0 (ro o) 1 (10,j.1,j.2.1,false,z.1,([]:List bC),([Pc.of m.1]:List Pc)) dC (fun k=>(fun _=>False) k∨(fun k=>aK (ro o)=some k∨a2 k) k) (fun k hk=>⟨(hk).elim (fun h=>h.elim) (fun h=>(fun k (hk:aK (ro o)=some k∨a2 k)=>hk.elim (fun h=>d0.lt k h) (fun h=>d1 k h)) k h),fun e=>(hk).elim (fun h=>((h:False).elim)) (fun h=>f0 (e ▸ h))⟩) ep ((Rd.nil bS dC (fun _=>False) none 0).wide (fun k hk=>(.inl hk))) ((d0.rd (Y:=fun k=>aK (ro o)=some k∨a2 k) (fun _ h=>.inr h) (fun g e=>.inl e)).wide (fun k hk=>(.inr hk))) K fO) ?_;rintro lU ib ⟨d2,ds,dz,eX,dA,dB,eY,rfl,je,eZ,jf,e0,e1⟩;refine ⟨(fun _=>trivial),?_⟩;have e2:∀ k,eX k→k<ib.heap.size:=fun k hk=>(eZ k hk).1;have jh:∀ k,eX k→X0 k∨r.heap.size≤k:=fun k hk=>(eZ k hk).2.elim (fun h=>(h).elim (fun h=>h.elim) (fun h=>(fun k (hk:aK (ro o)=some k∨a2 k)=>hk.elim (fun h=>Or.inr (eK k h)) (fun h=>eV k h)) k h)) (fun h=>.inr (Nat.le_trans dO.size h));have e3:∀ k,eY k→k<ib.heap.size:=fun k hk=>(e0 k hk).1;have ji:∀ k,eY k→X0 k∨r.heap.size≤k:=fun k hk=>(e0 k hk).2.elim (fun h=>(h).elim (fun h=>h.elim) (fun h=>(fun k (hk:aK (ro o)=some k∨a2 k)=>hk.elim (fun h=>Or.inr (eK k h)) (fun h=>eV k h)) k h)) (fun h=>.inr (Nat.le_trans dO.size h));refine aa<|aw<|gv_alt [(9,bA 11 [0,1,2,3,4,5,6,7,8,9])] 1 kr kr ⟨?_,trivial⟩;refine dl bp dx 25 cq rfl rfl kr kr ?_;intro an lV b3 jj c0 ln;refine ⟨(fun _=>trivial),?_⟩;refine aa<|bc [0,2,7,36] (σ':=[(0,bp c),(2,bp q),(7,bp an),(36,.agg (bj K.1 ds dz dA dB))]) kr<|aw ?_;have f1:=cK M bd;have ic:r.heap.size≤an:=bT c0 (aj dO d2 bv).size;have jk:¬ eX q:=fun h=>((eZ _ h).2.elim (fun h=>(h).elim (fun h=>by cases h) (fun h=>(eW) h)) (fun h=>nl h (dP.lt)));have jl:¬ eY q:=fun h=>((e0 _ h).2.elim (fun h=>(h).elim (fun h=>by cases h) (fun h=>(eW) h)) (fun h=>nl h (dP.lt)));have f2:=cl ((ci (dP.grown d2 (ai f1))) _ rfl) ((bi c0) _ rfl);exact h2 _ _ ⟨an,ds,dz,eX,dA,dB,eY,rfl,(aj (aj dO d2 bv) b3 nb),(nt (nt fZ d2.size) b3.size),(e1.grown b3 nb),((dP.grown d2 (ai f1)).grown b3 nb),jj,ic,(je.grown b3 e2 nb),(aR e2 b3.size),jh,(jf.grown b3 e3 nb),(aR e3 b3.size),ji,(cK c0 e1),jk,jl,Nat.ne_of_lt f2,(apH c0 e1),ng f2,(apF c0 e2),(apF c0 e3)⟩
        ·refine dl bp dx 25 cq rfl rfl kr kr ?_;intro N lW dQ jm c1 lo;refine ⟨(fun _=>trivial),?_⟩;refine aa<|bc [0,2,7,28,35] (σ':=[(0,bp c),(2,bp q),(7,bp N),(28,bp c),(35,.agg #[vI 10,vI j.1,vI j.2.1,vB false,vB z.1,vL none ([]:List bC) 0,vL (ro o) ([Pc.of m.1]:List Pc) 1])]) kr<|aw ?_;have id:r.heap.size≤N:=bT c1 dO.size;have f3:=cl ((ci dP) _ rfl) ((bi c1) _ rfl);have jn:∀ g,aK (ro o)=some g→¬ (· =N) g:=fun g e hx=>nl ((bi c1) _ hx) ((fun k (hk:aK (ro o)=some k∨a2 k)=>hk.elim (fun h=>d0.lt k h) (fun h=>d1 k h)) g (.inl e));have jo:¬ (fun k=>aK (ro o)=some k∨a2 k) N:=fun hx=>nl ((bi c1) _ rfl) ((fun k (hk:aK (ro o)=some k∨a2 k)=>hk.elim (fun h=>d0.lt k h) (fun h=>d1 k h)) _ hx);exact h3 _ _ ⟨N,o,a2,rfl,(aj dO dQ nb),(nt fZ dQ.size),(ep.grown dQ nb),(dP.grown dQ nb),jm,id,(d0.grown dQ d1 nb),(aR d1 dQ.size),eK,eV,f0,(cK c1 ep),eW,Nat.ne_of_lt f3,jc,jd,jn,(apH c1 ep),ng f3,jo⟩
       refine gv_shareA (fun σ dL=>∃ (y:Nat),∃ (O:Nat),∃ (dM:Nat→Prop),σ=[(0,bp c),(2,bp q),(7,bp y),(28,bp c),(29,vI j.1),(30,vI j.2.1),(32,vB z.1),(34,vL (ro O) ([Pc.of m.1]:List Pc) 1)]∧r.grownBy dL (some c)∧Sz dH dL∧ba dL c 117 (cI z.2)∧ba dL q 25 dx∧ba dL y 25 dx∧r.heap.size≤y∧ar pcE 25 dL dM (ro O) 1 ([Pc.of m.1]:List Pc)∧(∀ k,dM k→k<dL.heap.size)∧(Lo r (ro O))∧(∀ k,dM k→X0 k∨r.heap.size≤k)∧(¬ (· =y) c)∧(¬ (fun k=>aK (ro O)=some k∨dM k) c)∧(¬ (· =y) q)∧(¬ (fun k=>aK (ro O)=some k∨dM k) q)∧(¬ (· =c) y)∧(¬ (· =q) y)∧(¬ (fun k=>aK (ro O)=some k∨dM k) y)∧(∀ g,aK (ro O)=some g→¬ (· =c) g)∧(∀ g,aK (ro O)=some g→¬ (· =q) g)∧(∀ g,aK (ro O)=some g→¬ (· =y) g)) (bA 11 [0,1,2,3,4,5,6,9]) 3 ?_ fun ie=>?_
       ·rintro σ dL ⟨y,O,dM,rfl,jp,jq,jr,js,jt,ig,ju,jv,ih,jw,jx,jy,jz,jA,jB,jC,jD,jE,jF,jG⟩;refine aV [7] (bA 11 [0,1,2,3,4,5,6,7,9]) 2 kr kr<|p1 35 (.agg #[vI 10,vI j.1,vI j.2.1,vB false,vB z.1,vL none ([]:List bC) 0,vL (ro O) ([Pc.of m.1]:List Pc) 1])<|aa<|bc [0,2,7,28,35] (σ':=[(0,bp c),(2,bp q),(7,bp y),(28,bp c),(35,.agg #[vI 10,vI j.1,vI j.2.1,vB false,vB z.1,vL none ([]:List bC) 0,vL (ro O) ([Pc.of m.1]:List Pc) 1])]) kr<|aw ?_;exact h3 _ _ ⟨y,O,dM,rfl,jp,jq,jr,js,jt,ig,ju,jv,ih,jw,jy,jx,jA,jz,jE,jF,jG,jB,jC,jD⟩
       refine gv_shareA (fun σ bn=>∃ (y:Nat),σ=[(0,bp c),(2,bp q),(7,bp y),(28,bp c),(29,vI j.1),(30,vI j.2.1),(32,vB z.1),(33,.agg (bj m.1 C D E F))]∧r.grownBy bn (some c)∧Sz dH bn∧ba bn c 117 (cI z.2)∧ba bn q 25 dx∧Rd bS bn P C D m.1.2.2.2.2.2.1∧(∀ k,P k→k<bn.heap.size)∧Rd pcE bn Q E F m.1.2.2.2.2.2.2∧(∀ k,Q k→k<bn.heap.size)∧ba bn y 25 dx∧r.heap.size≤y∧(¬ (· =y) c)∧(¬ (· =y) q)∧(¬ (· =c) y)∧(¬ (· =q) y)∧(¬ P y)∧(¬ Q y)) (bA 11 [0,1,2,3,4,5,9]) 4 ?_ fun fI=>?_
       ·rintro σ bn ⟨y,rfl,f4,jH,e4,e5,jI,e6,jJ,e7,e8,ii,jK,jL,jM,jN,jO,jP⟩;refine gv_alt [(6,bA 11 [0,1,2,3,4,5,6,9])] 3 kr kr ⟨?_,trivial⟩;refine dl (fun b=>.slice (ro b) 1 1) (bj m.1 C D E F) 25 cq rfl rfl kr kr ?_;intro O ij b4 jQ ax lp;refine ⟨(fun _=>trivial),?_⟩;obtain ⟨ed,e⟩:∃ X:Nat→Prop,X=(fun k=>P k∨Q k):=⟨_,rfl⟩;have f5:∀ k,ed k→k<bn.heap.size:=fun k h=>by rw[e]at h;exact (h).elim (fun h=>e6 k h) (fun h=>e7 k h)
        have jR:∀ k,ed k→k<ij.heap.size:=fun k h=>cl (f5 k h) b4.size;have jS:∀ k,ed k→X0 k∨r.heap.size≤k:=fun k h=>by rw[e]at h;exact (h).elim (fun h=>H k h) (fun h=>I k h)
        have jT:ar pcE 25 ij ed (ro O) 1 ([Pc.of m.1]:List Pc):=bI jQ (by rw[e];exact ⟨[vI m.1.1,vI m.1.2.1,vI m.1.2.2.1,vB m.1.2.2.2.1,vB m.1.2.2.2.2.1,vL C m.1.2.2.2.2.2.1 D,vL E m.1.2.2.2.2.2.2 F],[],rfl,pc_mk7 ((jI.grown b4 e6 nb).wide (fun _ h=>(.inl h))) ((jJ.grown b4 e7 nb).wide (fun _ h=>(.inr h))),rfl⟩) (show 1≤maxLen by decide) (fun h=>noteq ax (f5 _ h));have e9:∀ k,ed k→(fun k=>P k∨Q k) k:=fun k h=>by rw[e]at h;exact h
        clear e;have jU:Lo r (ro O):=loo ax f4.size;have fx:r.heap.size≤q:=bT M eG.size;have lq:∀ g,aK (ro O)=some g→¬ P g:=fun g e hx=>nl (b8 ax g e) (e6 _ hx);have lr:∀ g,aK (ro O)=some g→¬ Q g:=fun g e hx=>nl (b8 ax g e) (e7 _ hx);refine aa<|bc [0,2,7,28,29,30,32,34] (σ':=[(0,bp c),(2,bp q),(7,bp y),(28,bp c),(29,vI j.1),(30,vI j.2.1),(32,vB z.1),(34,vL (ro O) ([Pc.of m.1]:List Pc) 1)]) kr<|aw ?_;exact ie _ _ ⟨y,O,ed,rfl,(aj f4 b4 nb),(nt jH b4.size),(e4.grown b4 nb),(e5.grown b4 nb),(e8.grown b4 nb),ii,jT,jR,jU,jS,jK,(apG (p:=c) ax e4 (fun h=>(e9 _ h).elim (xq H s w) (xq I s w))),jL,(apG (p:=q) ax e5 (fun h=>(e9 _ h).elim (apE dI (xlo fx s) L.lt) (apE dJ (xlo fx s) L.lt))),jM,jN,(apG (p:=y) ax e8 (fun h=>(e9 _ h).elim jO jP)),(apD ax e4),(apD ax e5),(apD ax e8)⟩
       refine gv_shareA (fun σ cw=>σ=[(0,bp c),(2,bp q),(28,bp c),(29,vI j.1),(30,vI j.2.1),(32,vB z.1),(33,.agg (bj m.1 C D E F))]∧r.grownBy cw (some c)∧Sz dH cw∧ba cw c 117 (cI z.2)∧ba cw q 25 dx∧Rd bS cw P C D m.1.2.2.2.2.2.1∧(∀ k,P k→k<cw.heap.size)∧Rd pcE cw Q E F m.1.2.2.2.2.2.2∧(∀ k,Q k→k<cw.heap.size)) (bA 11 [0,1,2,3,4,5]) 5 ?_ fun ik=>?_
       ·rintro σ cw ⟨rfl,eq,f6,dR,d3,f7,dS,f8,dT⟩;refine gv_alt [(6,bA 11 [0,1,2,3,4,5,6]),(9,bA 11 [0,1,2,3,4,5,9])] 4 kr kr ⟨?_,?_,trivial⟩
        ·refine dl (fun b=>.slice (ro b) 1 1) (bj m.1 C D E F) 25 cq rfl rfl kr kr ?_;intro o il dD jV a7 ls;refine ⟨(fun _=>trivial),?_⟩;obtain ⟨ee,e⟩:∃ X:Nat→Prop,X=(fun k=>P k∨Q k):=⟨_,rfl⟩;have f9:∀ k,ee k→k<cw.heap.size:=fun k h=>by rw[e]at h;exact (h).elim (fun h=>dS k h) (fun h=>dT k h)
         have jW:∀ k,ee k→k<il.heap.size:=fun k h=>cl (f9 k h) dD.size;have jX:∀ k,ee k→X0 k∨r.heap.size≤k:=fun k h=>by rw[e]at h;exact (h).elim (fun h=>H k h) (fun h=>I k h)
         have jY:ar pcE 25 il ee (ro o) 1 ([Pc.of m.1]:List Pc):=bI jV (by rw[e];exact ⟨[vI m.1.1,vI m.1.2.1,vI m.1.2.2.1,vB m.1.2.2.2.1,vB m.1.2.2.2.2.1,vL C m.1.2.2.2.2.2.1 D,vL E m.1.2.2.2.2.2.2 F],[],rfl,pc_mk7 ((f7.grown dD dS nb).wide (fun _ h=>(.inl h))) ((f8.grown dD dT nb).wide (fun _ h=>(.inr h))),rfl⟩) (show 1≤maxLen by decide) (fun h=>noteq a7 (f9 _ h));have ga:∀ k,ee k→(fun k=>P k∨Q k) k:=fun k h=>by rw[e]at h;exact h
         clear e;have jZ:Lo r (ro o):=loo a7 eq.size;have fy:r.heap.size≤q:=bT M eG.size;have lu:∀ g,aK (ro o)=some g→¬ P g:=fun g e hx=>nl (b8 a7 g e) (dS _ hx);have lv:∀ g,aK (ro o)=some g→¬ Q g:=fun g e hx=>nl (b8 a7 g e) (dT _ hx);refine aa<|bc [0,2,28,29,30,32,34] (σ':=[(0,bp c),(2,bp q),(28,bp c),(29,vI j.1),(30,vI j.2.1),(32,vB z.1),(34,vL (ro o) ([Pc.of m.1]:List Pc) 1)]) kr<|aw ?_;exact ia _ _ ⟨o,ee,rfl,(aj eq dD nb),(nt f6 dD.size),(dR.grown dD nb),(d3.grown dD nb),jY,jW,jZ,jX,(apG (p:=c) a7 dR (fun h=>(ga _ h).elim (xq H s w) (xq I s w))),(apG (p:=q) a7 d3 (fun h=>(ga _ h).elim (apE dI (xlo fy s) L.lt) (apE dJ (xlo fy s) L.lt))),(apD a7 dR),(apD a7 d3)⟩
        ·refine dl bp dx 25 cq rfl rfl kr kr ?_;intro y lX b5 j0 c2 lw;refine ⟨(fun _=>trivial),?_⟩;refine aa<|bc [0,2,7,28,29,30,32,33] (σ':=[(0,bp c),(2,bp q),(7,bp y),(28,bp c),(29,vI j.1),(30,vI j.2.1),(32,vB z.1),(33,.agg (bj m.1 C D E F))]) kr<|aw ?_;have im:r.heap.size≤y:=bT c2 eq.size;have gb:=cl ((ci d3) _ rfl) ((bi c2) _ rfl);exact fI _ _ ⟨y,rfl,(aj eq b5 nb),(nt f6 b5.size),(dR.grown b5 nb),(d3.grown b5 nb),(f7.grown b5 dS nb),(aR dS b5.size),(f8.grown b5 dT nb),(aR dT b5.size),j0,im,(cK c2 dR),Nat.ne_of_lt gb,(apH c2 dR),ng gb,(apF c2 dS),(apF c2 dT)⟩
       refine gv_shareA (fun σ bs=>∃ (T:Nat),σ=[(0,bp c),(2,bp q),(3,bp ah),(7,bp T),(28,bp c),(29,vI j.1),(30,vI j.2.1),(32,vB z.1)]∧r.grownBy bs (some c)∧Sz dH bs∧ba bs c 117 (cI z.2)∧ba bs q 25 dx∧Rd bS bs P C D m.1.2.2.2.2.2.1∧(∀ k,P k→k<bs.heap.size)∧Rd pcE bs Q E F m.1.2.2.2.2.2.2∧(∀ k,Q k→k<bs.heap.size)∧ba bs ah 25 (bj m.1 C D E F)∧ba bs T 25 dx∧r.heap.size≤T∧(¬ (· =T) c)∧(¬ (· =T) q)∧(¬ (· =T) ah)∧(¬ (· =c) T)∧(¬ (· =q) T)∧(¬ P T)∧(¬ Q T)∧(¬ (· =ah) T)) (bA 11 [0,1,2,3,4,9]) 5 ?_ fun io=>?_
       ·rintro σ bs ⟨T,rfl,j1,j2,j3,j4,j5,j6,j7,j8,j9,ka,ip,kb,kc,lx,kd,ke,kf,kg,ly⟩;refine gv_alt [(5,bA 11 [0,1,2,3,4,5,9])] 4 kr kr ⟨?_,trivial⟩;refine gv_loadBox (t:=25) (b:=ah) (t':=25) (fr:=(0,0)) (bj m.1 C D E F) [] (fun _=>trivial) rfl rfl rfl kr kr kr kr (inwF j9) rfl ?_;refine aa<|bc [0,2,7,28,29,30,32,33] (σ':=[(0,bp c),(2,bp q),(7,bp T),(28,bp c),(29,vI j.1),(30,vI j.2.1),(32,vB z.1),(33,.agg (bj m.1 C D E F))]) kr<|aw ?_;exact fI _ _ ⟨T,rfl,j1,j2,j3,j4,j5,j6,j7,j8,ka,ip,kb,kc,kd,ke,kf,kg⟩
       refine gv_shareA (fun σ dE=>∃ (U:Nat),∃ (G:Nat),∃ (dN:Nat→Prop),σ=[(0,bp c),(2,bp q),(7,bp U),(28,bp c),(29,vI j.1),(30,vI j.2.1),(31,bp c),(34,vL (ro G) ([Pc.of m.1]:List Pc) 1)]∧r.grownBy dE (some c)∧Sz dH dE∧ba dE c 117 (cI j.2.2.2)∧ba dE q 25 dx∧ba dE U 25 dx∧r.heap.size≤U∧ar pcE 25 dE dN (ro G) 1 ([Pc.of m.1]:List Pc)∧(∀ k,dN k→k<dE.heap.size)∧(Lo r (ro G))∧(∀ k,dN k→X0 k∨r.heap.size≤k)∧(¬ (fun k=>aK (ro G)=some k∨dN k) c)∧(¬ (· =U) c)∧(¬ (fun k=>aK (ro G)=some k∨dN k) q)∧(¬ (· =U) q)∧(∀ g,aK (ro G)=some g→¬ (· =c) g)∧(∀ g,aK (ro G)=some g→¬ (· =q) g)∧(∀ g,aK (ro G)=some g→¬ (· =U) g)∧(¬ (· =c) U)∧(¬ (· =q) U)∧(¬ (fun k=>aK (ro G)=some k∨dN k) U)) (bA 11 [0,1,2,3,5,6,9]) 4 ?_ fun iq=>?_
       ·rintro σ dE ⟨U,G,dN,rfl,kh,ki,kj,kk,kl,ir,km,gc,it,kn,gd,ge,ko,kp,kq,ks,kt,ku,kv,kw⟩;refine gv_alt [(4,bA 11 [0,1,2,3,4,5,6,9])] 3 kr kr ⟨?_,trivial⟩;refine clq ce (aT ak c j.2.2.2 (bb [63]) dE kj z ec) ?_;rintro lY lZ ⟨dU,rfl,kx⟩;refine ⟨(fun _=>trivial),?_⟩;refine aa<|bc [0,2,7,28,29,30,32,34] (σ':=[(0,bp c),(2,bp q),(7,bp U),(28,bp c),(29,vI j.1),(30,vI j.2.1),(32,vB z.1),(34,vL (ro G) ([Pc.of m.1]:List Pc) 1)]) kr<|aw ?_;exact ie _ _ ⟨U,G,dN,rfl,(aj kh dU bv),(nt ki dU.size),kx,(kk.grown dU (ai (cK M bd))),(kl.grown dU (ai ge)),ir,(km.grown dU gc (cW (ai gd))),(aR gc dU.size),it,kn,ge,gd,kp,ko,ku,kv,kw,kq,ks,kt⟩
       refine gv_shareA (fun σ a9=>∃ (R:Nat),σ=[(0,bp c),(2,bp q),(7,bp R),(28,bp c),(29,vI j.1),(30,vI j.2.1),(31,bp c),(33,.agg (bj m.1 C D E F))]∧r.grownBy a9 (some c)∧Sz dH a9∧ba a9 c 117 (cI j.2.2.2)∧ba a9 q 25 dx∧Rd bS a9 P C D m.1.2.2.2.2.2.1∧(∀ k,P k→k<a9.heap.size)∧Rd pcE a9 Q E F m.1.2.2.2.2.2.2∧(∀ k,Q k→k<a9.heap.size)∧ba a9 R 25 dx∧r.heap.size≤R∧(¬ (· =R) c)∧(¬ (· =R) q)∧(¬ (· =c) R)∧(¬ (· =q) R)∧(¬ P R)∧(¬ Q R)) (bA 11 [0,1,2,3,5,9]) 5 ?_ fun iu=>?_
       ·rintro σ a9 ⟨R,rfl,fa,gf,er,es,gg,d4,gh,d5,et,fz,fb,gi,gj,gk,gl,gm⟩;refine gv_alt [(4,bA 11 [0,1,2,3,4,5,9]),(6,bA 11 [0,1,2,3,5,6,9])] 4 kr kr ⟨?_,?_,trivial⟩
        ·refine clq ce (aT ak c j.2.2.2 (bb [63]) a9 er z ec) ?_;rintro l0 l1 ⟨b6,rfl,ky⟩;refine ⟨(fun _=>trivial),?_⟩;refine aa<|bc [0,2,7,28,29,30,32,33] (σ':=[(0,bp c),(2,bp q),(7,bp R),(28,bp c),(29,vI j.1),(30,vI j.2.1),(32,vB z.1),(33,.agg (bj m.1 C D E F))]) kr<|aw ?_;exact fI _ _ ⟨R,rfl,(aj fa b6 bv),(nt gf b6.size),ky,(es.grown b6 (ai (cK M bd))),(gg.grown b6 d4 (ai (xq H s w))),(aR d4 b6.size),(gh.grown b6 d5 (ai (xq I s w))),(aR d5 b6.size),(et.grown b6 (ai fb)),fz,fb,gi,gj,gk,gl,gm⟩
        ·refine dl (fun b=>.slice (ro b) 1 1) (bj m.1 C D E F) 25 cq rfl rfl kr kr ?_;intro ef iv b7 kz a0 lA;refine ⟨(fun _=>trivial),?_⟩;obtain ⟨eg,e⟩:∃ X:Nat→Prop,X=(fun k=>P k∨Q k):=⟨_,rfl⟩;have gn:∀ k,eg k→k<a9.heap.size:=fun k h=>by rw[e]at h;exact (h).elim (fun h=>d4 k h) (fun h=>d5 k h)
         have kA:∀ k,eg k→k<iv.heap.size:=fun k h=>cl (gn k h) b7.size;have kB:∀ k,eg k→X0 k∨r.heap.size≤k:=fun k h=>by rw[e]at h;exact (h).elim (fun h=>H k h) (fun h=>I k h)
         have kC:ar pcE 25 iv eg (ro ef) 1 ([Pc.of m.1]:List Pc):=bI kz (by rw[e];exact ⟨[vI m.1.1,vI m.1.2.1,vI m.1.2.2.1,vB m.1.2.2.2.1,vB m.1.2.2.2.2.1,vL C m.1.2.2.2.2.2.1 D,vL E m.1.2.2.2.2.2.2 F],[],rfl,pc_mk7 ((gg.grown b7 d4 nb).wide (fun _ h=>(.inl h))) ((gh.grown b7 d5 nb).wide (fun _ h=>(.inr h))),rfl⟩) (show 1≤maxLen by decide) (fun h=>noteq a0 (gn _ h));have fc:∀ k,eg k→(fun k=>P k∨Q k) k:=fun k h=>by rw[e]at h;exact h
         clear e;have kD:Lo r (ro ef):=loo a0 fa.size;have fA:r.heap.size≤q:=bT M eG.size;have lB:∀ g,aK (ro ef)=some g→¬ P g:=fun g e hx=>nl (b8 a0 g e) (d4 _ hx);have lC:∀ g,aK (ro ef)=some g→¬ Q g:=fun g e hx=>nl (b8 a0 g e) (d5 _ hx);refine aa<|bc [0,2,7,28,29,30,31,34] (σ':=[(0,bp c),(2,bp q),(7,bp R),(28,bp c),(29,vI j.1),(30,vI j.2.1),(31,bp c),(34,vL (ro ef) ([Pc.of m.1]:List Pc) 1)]) kr<|aw ?_;exact iq _ _ ⟨R,ef,eg,rfl,(aj fa b7 nb),(nt gf b7.size),(er.grown b7 nb),(es.grown b7 nb),(et.grown b7 nb),fz,kC,kA,kD,kB,(apG (p:=c) a0 er (fun h=>(fc _ h).elim (xq H s w) (xq I s w))),fb,(apG (p:=q) a0 es (fun h=>(fc _ h).elim (apE dI (xlo fA s) L.lt) (apE dJ (xlo fA s) L.lt))),gi,(apD a0 er),(apD a0 es),(apD a0 et),gj,gk,(apG (p:=R) a0 et (fun h=>(fc _ h).elim gl gm))⟩
       refine aV [0,1,2,3] (bA 11 [0,1,2,3]) 7 kr kr<|pN 4 [28,29,30,31] [(28,bp c),(29,vI j.1),(30,vI j.2.1),(31,bp c)]<|aa<|aw<|gv_alt [(4,bA 11 [0,1,2,3,4]),(5,bA 11 [0,1,2,3,5]),(9,bA 11 [0,1,2,3,9])] 6 kr kr ⟨?_,?_,?_,trivial⟩
       ·refine clq ce (aT ak c j.2.2.2 (bb [63]) dH (bl.grown l nb) z ec) ?_;rintro mg mh ⟨V,rfl,fd⟩;refine ⟨(fun _=>trivial),?_⟩;refine aa<|aw<|gv_alt [(5,bA 11 [0,1,2,3,4,5]),(9,bA 11 [0,1,2,3,4,9])] 5 kr kr ⟨?_,?_,trivial⟩
        ·refine gv_loadBox (t:=25) (b:=ah) (t':=25) (fr:=(0,0)) (bj m.1 C D E F) [] (fun _=>trivial) rfl rfl rfl kr kr kr kr (inwF ((ch.grown l nb).grown V (ai eb))) rfl ?_;refine aa<|bc [0,2,28,29,30,32,33] (σ':=[(0,bp c),(2,bp q),(28,bp c),(29,vI j.1),(30,vI j.2.1),(32,vB z.1),(33,.agg (bj m.1 C D E F))]) kr<|aw ?_;have iw:r.heap.size≤ah:=bT n (aj Z x bv).size;have eu:=cK M bd;have go:=aR A f.size;have gp:=aR go i.size;have gq:=aR gp d.size;have gr:=aR gq l.size;have gs:=aR B f.size;have gt:=aR gs i.size;have gu:=aR gt d.size;have gv:=aR gu l.size;exact ik _ _ ⟨rfl,(aj (aj (aj (aj (aj (aj Z x bv) f nb) i (cE iw)) d bv) l nb) V bv),V.size,fd,((((((L.grown x (ai eu)).grown f nb).grown i (ai (ng (cl ((ci (L.grown x (ai eu))) _ rfl) ((bi n) _ rfl))))).grown d (ai eu)).grown l nb).grown V (ai eu)),(((((c8.grown f A nb).grown i go (ai (apF n A))).grown d gp (ai (xq H s w))).grown l gq nb).grown V gr (ai (xq H s w))),(aR gr V.size),(((((c9.grown f B nb).grown i gs (ai (apF n B))).grown d gt (ai (xq I s w))).grown l gu nb).grown V gv (ai (xq I s w))),(aR gv V.size)⟩
        ·refine dl bp dx 25 cq rfl rfl kr kr ?_;intro T l2 be kE c3 lD;refine ⟨(fun _=>trivial),?_⟩;refine aa<|bc [0,2,3,7,28,29,30,32] (σ':=[(0,bp c),(2,bp q),(3,bp ah),(7,bp T),(28,bp c),(29,vI j.1),(30,vI j.2.1),(32,vB z.1)]) kr<|aw ?_;have gw:=aj Z x bv;have fB:r.heap.size≤ah:=bT n gw.size;have ev:=cK M bd;have gx:=cl ((ci (L.grown x (ai ev))) _ rfl) ((bi n) _ rfl);have gy:=aR A f.size;have gz:=aR gy i.size;have gA:=aR gz d.size;have gB:=aR gA l.size;have ff:=aR gB V.size;have gC:=aR B f.size;have gD:=aR gC i.size;have gE:=aR gD d.size;have gF:=aR gE l.size;have fg:=aR gF V.size;have ix:r.heap.size≤T:=bT c3 (aj (aj (aj (aj (aj gw f nb) i (cE fB)) d bv) l nb) V bv).size;have fh:=cl ((ci ((ch.grown l nb).grown V (ai eb))) _ rfl) ((bi c3) _ rfl);have gG:=cS gx fh;exact io _ _ ⟨T,rfl,(aj (aj (aj (aj (aj (aj (aj Z x bv) f nb) i (cE fB)) d bv) l nb) V bv) be nb),(nt V.size be.size),(fd.grown be nb),(((((((L.grown x (ai ev)).grown f nb).grown i (ai (ng gx))).grown d (ai ev)).grown l nb).grown V (ai ev)).grown be nb),((((((c8.grown f A nb).grown i gy (ai (apF n A))).grown d gz (ai (xq H s w))).grown l gA nb).grown V gB (ai (xq H s w))).grown be ff nb),(aR ff be.size),((((((c9.grown f B nb).grown i gC (ai (apF n B))).grown d gD (ai (xq I s w))).grown l gE nb).grown V gF (ai (xq I s w))).grown be fg nb),(aR fg be.size),(((ch.grown l nb).grown V (ai eb)).grown be nb),kE,ix,(cK c3 fd),Nat.ne_of_lt gG,Nat.ne_of_lt fh,(apH c3 fd),ng gG,(apF c3 ff),(apF c3 fg),ng fh⟩
       ·have d6:=ch.grown l nb;refine gv_loadBox (t:=25) (b:=ah) (t':=25) (fr:=(0,0)) (bj m.1 C D E F) [] (fun _=>trivial) rfl rfl rfl kr kr kr kr (inwF d6) rfl ?_;refine aa<|aw<|gv_alt [(4,bA 11 [0,1,2,3,4,5]),(6,bA 11 [0,1,2,3,5,6]),(9,bA 11 [0,1,2,3,5,9])] 5 kr kr ⟨?_,?_,?_,trivial⟩
        ·refine clq ce (aT ak c j.2.2.2 (bb [63]) dH (bl.grown l nb) z ec) ?_;rintro l3 l4 ⟨dF,rfl,kF⟩;refine ⟨(fun _=>trivial),?_⟩;refine aa<|bc [0,2,28,29,30,32,33] (σ':=[(0,bp c),(2,bp q),(28,bp c),(29,vI j.1),(30,vI j.2.1),(32,vB z.1),(33,.agg (bj m.1 C D E F))]) kr<|aw ?_;have iy:r.heap.size≤ah:=bT n (aj Z x bv).size;have ew:=cK M bd;have gH:=aR A f.size;have gI:=aR gH i.size;have gJ:=aR gI d.size;have gK:=aR gJ l.size;have gL:=aR B f.size;have gM:=aR gL i.size;have gN:=aR gM d.size;have gO:=aR gN l.size;exact ik _ _ ⟨rfl,(aj (aj (aj (aj (aj (aj Z x bv) f nb) i (cE iy)) d bv) l nb) dF bv),dF.size,kF,((((((L.grown x (ai ew)).grown f nb).grown i (ai (ng (cl ((ci (L.grown x (ai ew))) _ rfl) ((bi n) _ rfl))))).grown d (ai ew)).grown l nb).grown dF (ai ew)),(((((c8.grown f A nb).grown i gH (ai (apF n A))).grown d gI (ai (xq H s w))).grown l gJ nb).grown dF gK (ai (xq H s w))),(aR gK dF.size),(((((c9.grown f B nb).grown i gL (ai (apF n B))).grown d gM (ai (xq I s w))).grown l gN nb).grown dF gO (ai (xq I s w))),(aR gO dF.size)⟩
        ·refine dl (fun b=>.slice (ro b) 1 1) (bj m.1 C D E F) 25 cq rfl rfl kr kr ?_;intro G fJ a3 kG a1 lE;refine ⟨(fun _=>trivial),?_⟩;obtain ⟨cx,e⟩:∃ X:Nat→Prop,X=(fun k=>P k∨Q k):=⟨_,rfl⟩;have gP:=aR (aR (aR (aR A f.size) i.size) d.size) l.size;have gQ:=aR (aR (aR (aR B f.size) i.size) d.size) l.size;have gR:∀ k,cx k→k<dH.heap.size:=fun k h=>by rw[e]at h;exact (h).elim (fun h=>gP k h) (fun h=>gQ k h)
         have dV:∀ k,cx k→k<fJ.heap.size:=fun k h=>cl (gR k h) a3.size;have gS:∀ k,cx k→X0 k∨r.heap.size≤k:=fun k h=>by rw[e]at h;exact (h).elim (fun h=>H k h) (fun h=>I k h)
         have gT:=apF n A;have gU:=aR A f.size;have gV:=aR gU i.size;have gW:=(ab l a3);have gX:=apF n B;have gY:=aR B f.size;have gZ:=aR gY i.size;have ex:ar pcE 25 fJ cx (ro G) 1 ([Pc.of m.1]:List Pc):=bI kG (by rw[e];exact ⟨[vI m.1.1,vI m.1.2.1,vI m.1.2.2.1,vB m.1.2.2.2.1,vB m.1.2.2.2.2.1,vL C m.1.2.2.2.2.2.1 D,vL E m.1.2.2.2.2.2.2 F],[],rfl,pc_mk7 (((((c8.grown f A nb).grown i gU (ai gT)).grown d gV (ai (xq H s w))).grown gW (aR gV d.size) nb).wide (fun _ h=>(.inl h))) (((((c9.grown f B nb).grown i gY (ai gX)).grown d gZ (ai (xq I s w))).grown gW (aR gZ d.size) nb).wide (fun _ h=>(.inr h))),rfl⟩) (show 1≤maxLen by decide) (fun h=>noteq a1 (gR _ h));have fi:∀ k,cx k→(fun k=>P k∨Q k) k:=fun k h=>by rw[e]at h;exact h
         clear e;have iz:r.heap.size≤ah:=bT n (aj Z x bv).size;have ey:=aj (aj (aj (aj (aj Z x bv) f nb) i (cE iz)) d bv) l nb;have g0:Lo r (ro G):=loo a1 ey.size;have d7:=bl.grown l nb;have g1:=apD a1 d7;have fj:=apG (p:=c) a1 d7 (fun h=>(fi _ h).elim (xq H s w) (xq I s w));have ez:=cK M bd;have g2:=cl ((ci (L.grown x (ai ez))) _ rfl) ((bi n) _ rfl);have eA:=((((L.grown x (ai ez)).grown f nb).grown i (ai (ng g2))).grown d (ai ez)).grown l nb;have g3:=apD a1 eA;have fC:r.heap.size≤q:=bT M eG.size;have g4:=apG (p:=q) a1 eA (fun h=>(fi _ h).elim (apE dI (xlo fC s) L.lt) (apE dJ (xlo fC s) L.lt));have lF:∀ g,aK (ro G)=some g→¬ P g:=fun g e hx=>nl (b8 a1 g e) (gP _ hx);have lG:∀ g,aK (ro G)=some g→¬ Q g:=fun g e hx=>nl (b8 a1 g e) (gQ _ hx);have lH:=apD a1 d6;have lI:=apG (p:=ah) a1 d6 (fun h=>(fi _ h).elim gT gX);refine aa<|aw<|gv_alt [(4,bA 11 [0,1,2,3,4,5,6]),(9,bA 11 [0,1,2,3,5,6,9])] 4 kr kr ⟨?_,?_,trivial⟩
         ·refine clq ce (aT ak c j.2.2.2 (bb [63]) fJ (d7.grown a3 nb) z ec) ?_;rintro l5 l6 ⟨d8,rfl,kH⟩;refine ⟨(fun _=>trivial),?_⟩;refine aa<|bc [0,2,28,29,30,32,34] (σ':=[(0,bp c),(2,bp q),(28,bp c),(29,vI j.1),(30,vI j.2.1),(32,vB z.1),(34,vL (ro G) ([Pc.of m.1]:List Pc) 1)]) kr<|aw ?_;exact ia _ _ ⟨G,cx,rfl,(aj (aj ey a3 nb) d8 bv),(nt a3.size d8.size),kH,((eA.grown a3 nb).grown d8 (ai ez)),(ex.grown d8 dV (cW (ai fj))),(aR dV d8.size),g0,gS,fj,g4,g1,g3⟩
         ·refine dl bp dx 25 cq rfl rfl kr kr ?_;intro U l7 eB kI c4 lJ;refine ⟨(fun _=>trivial),?_⟩;refine aa<|bc [0,2,7,28,29,30,31,34] (σ':=[(0,bp c),(2,bp q),(7,bp U),(28,bp c),(29,vI j.1),(30,vI j.2.1),(31,bp c),(34,vL (ro G) ([Pc.of m.1]:List Pc) 1)]) kr<|aw ?_;have fk:=(ab a3 eB);have iA:r.heap.size≤U:=bT c4 (aj ey a3 nb).size;have g5:=d7.grown a3 nb;have g6:=cS g2 (cl ((ci (d6.grown a3 nb)) _ rfl) ((bi c4) _ rfl));have kJ:∀ g,aK (ro G)=some g→¬ (· =U) g:=fun g e hx=>nl ((bi c4) _ hx) ((fun k (hk:aK (ro G)=some k∨cx k)=>hk.elim (fun h=>ex.lt k h) (fun h=>dV k h)) g (.inl e));have kK:¬ (fun k=>aK (ro G)=some k∨cx k) U:=fun hx=>nl ((bi c4) _ rfl) ((fun k (hk:aK (ro G)=some k∨cx k)=>hk.elim (fun h=>ex.lt k h) (fun h=>dV k h)) _ hx);exact iq _ _ ⟨U,G,cx,rfl,(aj ey fk nb),(nt a3.size eB.size),(d7.grown fk nb),(eA.grown fk nb),kI,iA,(ex.grown eB dV nb),(aR dV eB.size),g0,gS,fj,(cK c4 g5),g4,Nat.ne_of_lt g6,g1,g3,kJ,(apH c4 g5),ng g6,kK⟩
        ·refine dl bp dx 25 cq rfl rfl kr kr ?_;intro R l8 g7 kL c5 lK;refine ⟨(fun _=>trivial),?_⟩;refine aa<|bc [0,2,7,28,29,30,31,33] (σ':=[(0,bp c),(2,bp q),(7,bp R),(28,bp c),(29,vI j.1),(30,vI j.2.1),(31,bp c),(33,.agg (bj m.1 C D E F))]) kr<|aw ?_;have g8:=aj Z x bv;have fD:r.heap.size≤ah:=bT n g8.size;have dG:=(ab l g7);have fl:=cK M bd;have g9:=cl ((ci (L.grown x (ai fl))) _ rfl) ((bi n) _ rfl);have ha:=aR A f.size;have hb:=aR ha i.size;have fm:=aR hb d.size;have hc:=aR B f.size;have he:=aR hc i.size;have fn:=aR he d.size;have iB:r.heap.size≤R:=bT c5 (aj (aj (aj (aj g8 f nb) i (cE fD)) d bv) l nb).size;have hf:=bl.grown l nb;have hg:=cS g9 (cl ((ci d6) _ rfl) ((bi c5) _ rfl));exact iu _ _ ⟨R,rfl,(aj (aj (aj (aj (aj Z x bv) f nb) i (cE fD)) d bv) dG nb),g7.size,(bl.grown dG nb),(((((L.grown x (ai fl)).grown f nb).grown i (ai (ng g9))).grown d (ai fl)).grown dG nb),((((c8.grown f A nb).grown i ha (ai (apF n A))).grown d hb (ai (xq H s w))).grown dG fm nb),(aR fm dG.size),((((c9.grown f B nb).grown i hc (ai (apF n B))).grown d he (ai (xq I s w))).grown dG fn nb),(aR fn dG.size),kL,iB,(cK c5 hf),Nat.ne_of_lt hg,(apH c5 hf),ng hg,(apF c5 (aR fm l.size)),(apF c5 (aR fn l.size))⟩
       ·refine dl bp dx 25 cq rfl rfl kr kr ?_;intro eh k5 eC hh S lL;refine ⟨(fun _=>trivial),?_⟩;refine aa<|aw<|gv_alt [(4,bA 11 [0,1,2,3,4,9]),(5,bA 11 [0,1,2,3,5,9])] 5 kr kr ⟨?_,?_,trivial⟩
        ·have ca:=(ab l eC);refine clq ce (aT ak c j.2.2.2 (bb [63]) k5 (bl.grown ca nb) z ec) ?_;rintro l9 ma ⟨bg,rfl,kM⟩;refine ⟨(fun _=>trivial),?_⟩;refine aa<|bc [0,2,3,7,28,29,30,32] (σ':=[(0,bp c),(2,bp q),(3,bp ah),(7,bp eh),(28,bp c),(29,vI j.1),(30,vI j.2.1),(32,vB z.1)]) kr<|aw ?_;have hi:=aj Z x bv;have fE:r.heap.size≤ah:=bT n hi.size;have eD:=cK M bd;have hj:=cl ((ci (L.grown x (ai eD))) _ rfl) ((bi n) _ rfl);have hl:=aR A f.size;have hm:=aR hl i.size;have fo:=aR hm d.size;have hn:=aR fo ca.size;have ho:=aR B f.size;have hp:=aR ho i.size;have fp:=aR hp d.size;have hq:=aR fp ca.size;have hr:=bl.grown l nb;have ht:=cK S hr;have iC:r.heap.size≤eh:=bT S (aj (aj (aj (aj hi f nb) i (cE fE)) d bv) l nb).size;have fq:=cl ((ci (ch.grown l nb)) _ rfl) ((bi S) _ rfl);have hv:=cS hj fq;exact io _ _ ⟨eh,rfl,(aj (aj (aj (aj (aj (aj Z x bv) f nb) i (cE fE)) d bv) ca nb) bg bv),(nt eC.size bg.size),kM,((((((L.grown x (ai eD)).grown f nb).grown i (ai (ng hj))).grown d (ai eD)).grown ca nb).grown bg (ai eD)),(((((c8.grown f A nb).grown i hl (ai (apF n A))).grown d hm (ai (xq H s w))).grown ca fo nb).grown bg hn (ai (xq H s w))),(aR hn bg.size),(((((c9.grown f B nb).grown i ho (ai (apF n B))).grown d hp (ai (xq I s w))).grown ca fp nb).grown bg hq (ai (xq I s w))),(aR hq bg.size),((ch.grown ca nb).grown bg (ai eb)),(hh.grown bg (ai ht)),iC,ht,Nat.ne_of_lt hv,Nat.ne_of_lt fq,(apH S hr),ng hv,(apF S (aR fo l.size)),(apF S (aR fp l.size)),ng fq⟩
        ·have cb:=(ab l eC);refine gv_loadBox (t:=25) (b:=ah) (t':=25) (fr:=(0,0)) (bj m.1 C D E F) [] (fun _=>trivial) rfl rfl rfl kr kr kr kr (inwF (ch.grown cb nb)) rfl ?_;refine aa<|bc [0,2,7,28,29,30,31,33] (σ':=[(0,bp c),(2,bp q),(7,bp eh),(28,bp c),(29,vI j.1),(30,vI j.2.1),(31,bp c),(33,.agg (bj m.1 C D E F))]) kr<|aw ?_;have hw:=aj Z x bv;have fF:r.heap.size≤ah:=bT n hw.size;have fs:=cK M bd;have hy:=cl ((ci (L.grown x (ai fs))) _ rfl) ((bi n) _ rfl);have hz:=aR A f.size;have hA:=aR hz i.size;have ft:=aR hA d.size;have hB:=aR B f.size;have hC:=aR hB i.size;have fu:=aR hC d.size;have iD:r.heap.size≤eh:=bT S (aj (aj (aj (aj hw f nb) i (cE fF)) d bv) l nb).size;have hD:=bl.grown l nb;have hE:=cS hy (cl ((ci (ch.grown l nb)) _ rfl) ((bi S) _ rfl));exact iu _ _ ⟨eh,rfl,(aj (aj (aj (aj (aj Z x bv) f nb) i (cE fF)) d bv) cb nb),eC.size,(bl.grown cb nb),(((((L.grown x (ai fs)).grown f nb).grown i (ai (ng hy))).grown d (ai fs)).grown cb nb),((((c8.grown f A nb).grown i hz (ai (apF n A))).grown d hA (ai (xq H s w))).grown cb ft nb),(aR ft cb.size),((((c9.grown f B nb).grown i hB (ai (apF n B))).grown d hC (ai (xq I s w))).grown cb fu nb),(aR fu cb.size),hh,iD,(cK S hD),Nat.ne_of_lt hE,(apH S hD),ng hE,(apF S (aR ft l.size)),(apF S (aR fu l.size))⟩
      ·rintro a dK ⟨eL,eM,k6,eN,eO,k7,b0,kN,kO,kP,hF,kQ,kR,hG,kS,kT,lM,kU,lN,lO,hH,kV,kW,lg,hd,hs,al⟩;refine aM ?_ hd hs al;clear kO eR hY hX hW ch eb hP bl d hO k3 fG i k2 n hN f I B H A eH dJ c9 dI c8 x Z k0 lc L hM;refine aJ<|aI<|p1 37 (bp c)<|af W ?_;intro k8 kX W;refine aq kr rfl kr enters106 (cP ak c dZ.1 (bb [42,43,63,123]) dK hH k8 kX) ?_;rintro mb mc ⟨cc,rfl⟩;refine aa<|bw W (fun kY W=>?_) (fun kY W=>?_)
       ·cases W
       ·refine az<|aI<|dd 25 b0 (bj dZ.2 eL eM eN eO) (bU (kW.grown cc nb))<|aB 25 0 (.agg (bj dZ.2 eL eM eN eO)) (bj dZ.2 eL eM eN eO) (kV.grown cc nb) kr kr kr ?_;intro k9 dW kZ lP;refine aa<|am ?_
        obtain rfl:=sj W;refine au (ao [.agg (bj dZ.2 eL eM eN eO)] rfl ⟨⟨⟨q,0,none⟩,kr,run_loadVar_row k9 q _ 25 _ _ _ kZ bX rfl kr⟩,trivial⟩ ?_);have iF:r.heap.size≤q:=bT M eG.size;have hI:=aR hF cc.size;have hJ:=aR hG cc.size;exact ⟨(aj (aj kN cc nb) dW (cE iF)),eL,eM,k6,eN,eO,k7,rfl,((kP.grown cc hF nb).grown dW hI (ai kT)),sxq (aR hI dW.size) kQ,((kR.grown cc hG nb).grown dW hJ (ai kU)),sxq (aR hJ dW.size) kS,((hH.grown cc nb).grown dW (ai (apH M bd)))⟩
set_option maxHeartbeats 4000000 in
set_option maxRecDepth 100000 in
theorem regex_parser_atom_step (ak:Nat) (o:gC56 ak) (A:gC83 ak) (B:gC107 ak) (D:gC127 ak) (g:gC150 ak) (b:Nat) (b3:c6) (j:World) (l:Nat→Prop) (m:∀ k,l k→k<j.heap.size∧k≠b) (C:ba j b 117 (cI b3)) (dQ:Rd bE j l (ro 0) 256 bZ) (dR:Rd (prE (iE .u8) (iE .u8)) j l (ro 1) 16 cy) (r0:cB × c6) (a:regex_parser_atom (ak+1) b3=some r0):
    Cs 127 [bp b] j (Ret fun v w'=>j.grownBy w' (some b)∧∃ (bq:bm) (bD:Nat),∃ (a1:Nat→Prop),∃ (a2:bm) (a3:Nat),∃ (a4:Nat→Prop),v=tup [.agg (bj r0.1 bq bD a2 a3)]∧Rd bS w' a1 bq bD r0.1.2.2.2.2.2.1∧(Sxb a1 w' l j)∧Rd pcE w' a4 a2 a3 r0.1.2.2.2.2.2.2∧(Sxb a4 w' l j)∧ba w' b 117 (cI r0.2)):=by
 have a5:j.grownBy j (some b):=cJ _ _;rw[regex_parser_atom.eq_2]at a;refine aH Tryz.func127 rfl Tryz.ntmps127 kr ?_;refine bQ [(0,bp b)] ?_;have ey:=C.lt;refine aI<|aA bp dx 25 kr kr ?_
 intro n w2 b5 a6 p eJ;refine co<|aF<|aI<|p1 4 (bp b)<|af a ?_;intro r7 ep a;refine aq kr rfl kr ce (aT ak b b3 (bb [40,63,58]) w2 (C.grown b5 nb) r7 ep) ?_;rintro eK eq ⟨q,rfl,dU⟩;refine p1 3 (vB r7.1)<|aa<|bw a (fun dV a=>?_) (fun dV a=>?_)
 ·cases a
 ·refine aI<|p1 10 (bp b)<|af a ?_;intro b6 dW a;refine aq kr rfl kr ce (aT ak b r7.2 (bb [40,63,61]) eq dU b6 dW) ?_;rintro eL er ⟨r,rfl,dX⟩;refine p1 9 (vB b6.1)<|aa<|bw a (fun dY a=>?_) (fun dY a=>?_)
  ·cases a
  ·refine aI<|p1 16 (bp b)<|af a ?_;intro b7 dZ a;refine aq kr rfl kr ce (aT ak b b6.2 (bb [40,63,33]) er dX b7 dZ) ?_;rintro eM es ⟨s,rfl,d0⟩;refine p1 15 (vB b7.1)<|aa<|bw a (fun d1 a=>?_) (fun d1 a=>?_)
   ·cases a
   ·refine aI<|p1 22 (bp b)<|af a ?_;intro ca d2 a;refine aq kr rfl kr ce (aT ak b b7.2 (bb [40,63]) es d0 ca d2) ?_;rintro eN et ⟨t,rfl,d3⟩;refine p1 21 (vB ca.1)<|aa<|bw a (fun d4 a=>?_) (fun d4 a=>?_)
    ·cases a
    ·refine aI<|p1 27 (bp b)<|bQ [(0,bp b),(2,bp n),(27,bp b)]<|af a ?_;intro f d5 a;refine aq kr rfl kr ce (aT ak b ca.2 (bb [40]) et d3 f d5) ?_;rintro eO eu ⟨u,rfl,X⟩;refine p1 26 (vB f.1)<|aa<|bw a (fun d6 a=>?_) (fun d6 a=>?_)
     ·refine aI<|pN 3 [29,30,31] [(29,bp b),(31,pt b 2)]<|bk 3 X 2 rfl<|pN 3 [33,34,35] [(33,vI (wI (f.2.2.2.1+1))),(35,pt b 2)]<|aB 3 2 (vI (wI (f.2.2.2.1+1))) #[vS f.2.1,vI f.2.2.1,vI (wI (f.2.2.2.1+1)),vB f.2.2.2.2.1,vB f.2.2.2.2.2] X kr kr kr ?_;intro cb Y cc eA;refine bF<|pN 4 [36,37,38,39] [(36,bp b),(39,pt b 2)]<|bk 3 cc 2 rfl<|p1 41 (.agg #[vI 7,vI (wI (f.2.2.2.1+1)),vI 0,vB false,vB false,vL none ([]:List bC) 0,vL none ([]:List Pc) 0])<|af a ?_;intro a7 d7 a;have w:=aj (aj (aj (aj (aj (aj (aj a5 b5 nb) q bv) r bv) s bv) t bv) u bv) Y bv;refine aq kr rfl kr enters150 (g b (f.2.1,f.2.2.1,wI (f.2.2.2.1+1),f.2.2.2.2.1,f.2.2.2.2.2) none 0 none 0 (7,wI (f.2.2.2.1+1),0,false,false,([]:List bC),([]:List Pc)) cb (fun k=>(fun _=>False) k∨l k) (fun k hk=>⟨(hk).elim (fun h=>h.elim) (fun h=>(lz1 m w.size) k h),fun e=>(hk).elim (fun h=>((h:False).elim)) (fun h=>(fun (hx:l b)=>(m _ hx).2 rfl) (e ▸ h))⟩) cc ((Rd.nil bS cb (fun _=>False) none 0).wide (fun k hk=>(.inl hk))) ((Rd.nil pcE cb (fun _=>False) none 0).wide (fun k hk=>(.inl hk))) ((rg dQ w m).wide (fun k hk=>(.inr hk))) ((rg dR w m).wide (fun k hk=>(.inr hk))) a7 d7) ?_;rintro eP dS ⟨ch,a8,a9,bd,be,bg,bl,rfl,d8,Z,d9,ah,ea⟩;have ck:∀ k,bd k→k<dS.heap.size:=fun k hk=>(Z k hk).1;have eb:∀ k,bd k→l k∨j.heap.size≤k:=fun k hk=>(Z k hk).2.elim (fun h=>(h).elim (fun h=>h.elim) (fun h=>(fun k (hk:l k)=>Or.inl hk) k h)) (fun h=>.inr (Nat.le_trans w.size h));have cs:∀ k,bl k→k<dS.heap.size:=fun k hk=>(ah k hk).1;have ec:∀ k,bl k→l k∨j.heap.size≤k:=fun k hk=>(ah k hk).2.elim (fun h=>(h).elim (fun h=>h.elim) (fun h=>(fun k (hk:l k)=>Or.inl hk) k h)) (fun h=>.inr (Nat.le_trans w.size h));have d:=cK p C;refine aB 25 0 (.agg (bj a7.1 a8 a9 be bg)) (bj a7.1 a8 a9 be bg) (((((((a6.grown q (ai d)).grown r (ai d)).grown s (ai d)).grown t (ai d)).grown u (ai d)).grown Y (ai d)).grown ch (ai d)) kr kr kr ?_;intro ev x ed eB;refine aa<|am ?_
      obtain rfl:=sj a;refine au (ao [.agg (bj a7.1 a8 a9 be bg)] rfl ⟨⟨⟨n,0,none⟩,kr,run_loadVar_row ev n _ 25 _ _ _ ed bX rfl kr⟩,trivial⟩ ?_);have E:j.heap.size≤n:=bT p a5.size;have cv:=(((((a6.grown q (ai d)).grown r (ai d)).grown s (ai d)).grown t (ai d)).grown u (ai d)).grown Y (ai d);have ee:¬ bd n:=fun h=>((Z _ h).2.elim (fun h=>(h).elim (fun h=>by cases h) (fun h=>((fun (hx:l n)=>nl E (m _ hx).1)) h)) (fun h=>nl h (cv.lt)));have ef:¬ bl n:=fun h=>((ah _ h).2.elim (fun h=>(h).elim (fun h=>by cases h) (fun h=>((fun (hx:l n)=>nl E (m _ hx).1)) h)) (fun h=>nl h (cv.lt)));exact ⟨(aj (aj w ch bv) x (cE E)),a8,a9,bd,be,bg,bl,rfl,(d8.grown x ck (ai ee)),sxq (aR ck x.size) eb,(d9.grown x cs (ai ef)),sxq (aR cs x.size) ec,(ea.grown x (ai (apH p C)))⟩
     ·refine aI<|p1 44 (bp b)<|af a ?_;intro cw eg a;refine aq kr rfl kr ce (aT ak b f.2 (bb [91]) eu X cw eg) ?_;rintro eQ ew ⟨an,rfl,eh⟩;refine p1 43 (vB cw.1)<|aa<|bw a (fun ei a=>?_) (fun ei a=>?_)
      ·cases a
      ·refine aI<|p1 49 (bp b)<|af a ?_;intro cx c3 a;refine aq kr rfl kr ce (aT ak b cw.2 (bb [92]) ew eh cx c3) ?_;rintro eC ej ⟨F,rfl,c4⟩;refine p1 48 (vB cx.1)<|aa<|bw a (fun c5 a=>?_) (fun c5 a=>?_)
       ·cases a
       ·refine aI<|p1 54 (bp b)<|af a ?_;intro ax c7 a;refine aq kr rfl kr ce (aT ak b cx.2 (bb [46]) ej c4 ax c7) ?_;rintro eD ek ⟨G,rfl,c8⟩;refine p1 53 (vB ax.1)<|aa<|bw a (fun c9 a=>?_) (fun c9 a=>?_)
        ·cases a
        ·refine aI<|p1 60 (bp b)<|af a ?_;intro H ds a;refine aq kr rfl kr ce (aT ak b ax.2 (bb [94]) ek c8 H ds) ?_;rintro eE el ⟨I,rfl,dz⟩;refine p1 59 (vB H.1)<|bQ [(0,bp b),(2,bp n),(59,vB H.1)]<|aa<|bw a (fun dA a=>?_) (fun dA a=>?_)
         ·cases a
         ·refine aI<|p1 66 (bp b)<|af a ?_;intro J dB a;refine aq kr rfl kr ce (aT ak b H.2 (bb [36]) el dz J dB) ?_;rintro eF em ⟨K,rfl,bn⟩;refine p1 65 (vB J.1)<|aa<|bw a (fun dC a=>?_) (fun dC a=>?_)
          ·cases a
          ·refine aI<|p1 72 (bp b)<|af a ?_;intro c0 dD a;refine aq kr rfl kr enters106 (cP ak b J.2 (bb [42,43,63,123,125,93]) em bn c0 dD) ?_;rintro eG en ⟨y,rfl⟩;refine p1 71 (vB c0)<|aa<|bw a (fun dE a=>?_) (fun dE a=>?_)
           ·cases a
           ·refine az<|bt<|aI<|pN 2 [76,77] [(76,bp b),(77,bp b)]<|af a ?_;intro L dF a;have z:=aj (aj (aj (aj (aj (aj (aj (aj (aj (aj (aj (aj a5 b5 nb) q bv) r bv) s bv) t bv) u bv) an bv) F bv) G bv) I bv) K bv) y nb;refine aq kr rfl kr enters153 (regex_parser_next_ok ak b J.2 en l (jg m z) (bn.grown y nb) (rg dQ z m) (rg dR z m) L dF) ?_;rintro eH a0 ⟨M,rfl,dG⟩;refine p1 79 (.agg #[vI 1,vI L.1,vI 0,vB false,vB false,vL none ([]:List bC) 0,vL none ([]:List Pc) 0])<|af a ?_;intro N dH a;refine aq kr rfl kr enters85 (cn ak b L.2 none 0 none 0 (1,L.1,0,false,false,([]:List bC),([]:List Pc)) a0 (fun _=>False) (fun k hk=>⟨hk.elim,fun e=>((hk:False).elim)⟩) dG (Rd.nil bS a0 (fun _=>False) none 0) (Rd.nil pcE a0 (fun _=>False) none 0) N dH) ?_;rintro eI c1 ⟨bs,O,P,Q,R,S,T,rfl,dI,U,dJ,V,dK⟩;have bA:∀ k,Q k→k<c1.heap.size:=fun k hk=>(U k hk).1;have W:=aj z M bv;have dL:∀ k,Q k→l k∨j.heap.size≤k:=fun k hk=>(U k hk).2.elim (fun h=>h.elim) (fun h=>.inr (Nat.le_trans W.size h));have b0:∀ k,T k→k<c1.heap.size:=fun k hk=>(V k hk).1;have dM:∀ k,T k→l k∨j.heap.size≤k:=fun k hk=>(V k hk).2.elim (fun h=>h.elim) (fun h=>.inr (Nat.le_trans W.size h));have c:=cK p C;refine aB 25 0 (.agg (bj N.1 O P R S)) (bj N.1 O P R S) (((((((((((((a6.grown q (ai c)).grown r (ai c)).grown s (ai c)).grown t (ai c)).grown u (ai c)).grown an (ai c)).grown F (ai c)).grown G (ai c)).grown I (ai c)).grown K (ai c)).grown y nb).grown M (ai c)).grown bs (ai c)) kr kr kr ?_;intro eo i dN ex;refine aa<|am ?_
            obtain rfl:=sj a;refine au (ao [.agg (bj N.1 O P R S)] rfl ⟨⟨⟨n,0,none⟩,kr,run_loadVar_row eo n _ 25 _ _ _ dN bX rfl kr⟩,trivial⟩ ?_);have c2:j.heap.size≤n:=bT p a5.size;have b2:=(((((((((((a6.grown q (ai c)).grown r (ai c)).grown s (ai c)).grown t (ai c)).grown u (ai c)).grown an (ai c)).grown F (ai c)).grown G (ai c)).grown I (ai c)).grown K (ai c)).grown y nb).grown M (ai c);have dO:¬ Q n:=fun h=>((U _ h).2.elim (fun h=>by cases h) (fun h=>nl h (b2.lt)));have dP:¬ T n:=fun h=>((V _ h).2.elim (fun h=>by cases h) (fun h=>nl h (b2.lt)));exact ⟨(aj (aj W bs bv) i (cE c2)),O,P,Q,R,S,T,rfl,(dI.grown i bA (ai dO)),sxq (aR bA i.size) dL,(dJ.grown i b0 (ai dP)),sxq (aR b0 i.size) dM,(dK.grown i (ai (apH p C)))⟩
set_option maxHeartbeats 4000000 in
set_option maxRecDepth 100000 in
theorem regex_parser_inside_step (ak:Nat) (c:gC56 ak) (B:gC83 ak) (C:gC107 ak) (F:gC127 ak) (E:gC150 ak) (f:Nat) (bs:c6) (aG:bm) (aL:Nat) (y:bm) (z:Nat) (a:cB) (m:World) (l:Nat→Prop) (j:∀ k,l k→k<m.heap.size∧k≠f) (T:ba m f 117 (cI bs)) (bx:Rd bS m l aG aL a.2.2.2.2.2.1) (dV:Rd pcE m l y z a.2.2.2.2.2.2) (dW:Rd bE m l (ro 0) 256 bZ) (dX:Rd (prE (iE .u8) (iE .u8)) m l (ro 1) 16 cy) (r0:cB × c6) (t:regex_parser_inside (ak+1) bs a=some r0):
    Cs 150 [bp f,.agg (bj a aG aL y z)] m (Ret fun v w'=>m.grownBy w' (some f)∧∃ (bq:bm) (bD:Nat),∃ (a5:Nat→Prop),∃ (a6:bm) (a7:Nat),∃ (a8:Nat→Prop),v=tup [.agg (bj r0.1 bq bD a6 a7)]∧Rd bS w' a5 bq bD r0.1.2.2.2.2.2.1∧(Sxb a5 w' l m)∧Rd pcE w' a8 a6 a7 r0.1.2.2.2.2.2.2∧(Sxb a8 w' l m)∧ba w' f 117 (cI r0.2)):=by
 have b0:m.grownBy m (some f):=cJ _ _;rw[regex_parser_inside.eq_2]at t;refine aH Tryz.func150 rfl Tryz.ntmps150 kr ?_;refine bQ [(0,bp f),(1,.agg (bj a aG aL y z))] ?_;have b2:=T.lt;refine aI<|aA bp (bj a aG aL y z) 25 kr kr ?_
 intro b1 w2 b3 b4 Z ea;refine aA bp dx 25 kr kr ?_;intro U w8 b5 ah A d2;refine bF<|p1 5 (bp f)<|af t ?_;intro i dL t;have b6:=(ab b3 b5);have u:=aj b0 b6 nb;refine aq kr rfl kr enters56 (c f bs w8 l (jg j u) (T.grown b6 nb) (rg dW u j) (rg dX u j) i dL) ?_;rintro eb ca ⟨an,dF,dG,V,dH,dI,W,rfl,dM,G,dN,H,ax⟩;have a0:∀ k,V k→k<ca.heap.size:=fun k hk=>(G k hk).1;have cb:∀ k,V k→l k∨m.heap.size≤k:=fun k hk=>(G k hk).2.elim (fun h=>(fun k (hk:l k)=>Or.inl hk) k h) (fun h=>.inr (Nat.le_trans u.size h));have a1:∀ k,W k→k<ca.heap.size:=fun k hk=>(H k hk).1;have cc:∀ k,W k→l k∨m.heap.size≤k:=fun k hk=>(H k hk).2.elim (fun h=>(fun k (hk:l k)=>Or.inl hk) k h) (fun h=>.inr (Nat.le_trans u.size h));refine aA (fun b=>.slice (ro b) 1 1) (bj i.1 dF dG dH dI) 25 kr kr ?_;intro n dJ o dO d d3;obtain ⟨r,e⟩:∃ X:Nat→Prop,X=(fun k=>V k∨W k):=⟨_,rfl⟩;have ch:∀ k,r k→k<ca.heap.size:=fun k h=>by rw[e]at h;exact (h).elim (fun h=>a0 k h) (fun h=>a1 k h)
 have ck:∀ k,r k→k<dJ.heap.size:=fun k h=>cl (ch k h) o.size;have cs:∀ k,r k→l k∨m.heap.size≤k:=fun k h=>by rw[e]at h;exact (h).elim (fun h=>cb k h) (fun h=>cc k h)
 have dP:ar pcE 25 dJ r (ro n) 1 ([Pc.of i.1]:List Pc):=bI dO (by rw[e];exact ⟨[vI i.1.1,vI i.1.2.1,vI i.1.2.2.1,vB i.1.2.2.2.1,vB i.1.2.2.2.2.1,vL dF i.1.2.2.2.2.2.1 dG,vL dH i.1.2.2.2.2.2.2 dI],[],rfl,pc_mk7 ((dM.grown o a0 nb).wide (fun _ h=>(.inl h))) ((dN.grown o a1 nb).wide (fun _ h=>(.inr h))),rfl⟩) (show 1≤maxLen by decide) (fun h=>noteq d (ch _ h));have a2:∀ k,r k→(fun k=>V k∨W k) k:=fun k h=>by rw[e]at h;exact h
 clear e;have cv:=aj u an bv;have cw:Lo m (ro n):=loo d cv.size;have d4:=apD d ax;have cx:=apG (p:=f) d ax (fun h=>(a2 _ h).elim (xq cb j b2) (xq cc j b2));have c0:=cK Z T;have a3:=(b4.grown b5 nb).grown an (ai c0);have d5:=apD d a3;have I:m.heap.size≤b1:=bT Z b0.size;have c1:=b4.grown b5 nb;have c2:=T.grown b3 nb;have J:=cK A c2;have K:=ah.grown an (ai J);have d6:=apD d K;have s:m.heap.size≤U:=bT A (aj b0 b3 nb).size;have c3:=apG (p:=U) d K (fun h=>(a2 _ h).elim (apE G (xlo s j) ah.lt) (apE H (xlo s j) ah.lt));have d7:∀ g,aK (ro n)=some g→¬ V g:=fun g e hx=>nl (b8 d g e) (a0 _ hx);have d8:∀ g,aK (ro n)=some g→¬ W g:=fun g e hx=>nl (b8 d g e) (a1 _ hx);refine p1 8 (pt b1 6)<|aB 23 6 (vL (ro n) ([Pc.of i.1]:List Pc) 1) #[vI a.1,vI a.2.1,vI a.2.2.1,vB a.2.2.2.1,vB a.2.2.2.2.1,vL aG a.2.2.2.2.2.1 aL,vL (ro n) ([Pc.of i.1]:List Pc) 1] (a3.grown o nb) kr kr kr ?_;intro dY w dQ d9;refine co<|aI<|p1 9 (bp f)<|af t ?_;intro a9 dR t;refine aq kr rfl kr ce (aT ak f i.2 (bb [41]) dY ((ax.grown o nb).grown w (ai (apH Z T))) a9 dR) ?_;rintro ec dZ ⟨x,rfl,dS⟩;refine p1 11 (vB (!a9.1))<|aa<|dm (b:=(!a9.1)) kr (fun a4=>?_) (fun a4=>?_)
 ·replace t:=ite_t a4 t;cases t
 ·replace t:=ite_f a4 t;refine az<|aI<|p1 14 (bp f)<|dd 25 b1 #[vI a.1,vI a.2.1,vI a.2.2.1,vB a.2.2.2.1,vB a.2.2.2.2.1,vL aG a.2.2.2.2.2.1 aL,vL (ro n) ([Pc.of i.1]:List Pc) 1] (bU (dQ.grown x (ai c0)))<|af t ?_;intro bd dT t;have D:=aj (aj (aj cv o nb) w (cE I)) x bv;have c4:=aR ck w.size;have c5:=(dP.grown w ck (cW (ai (apG (p:=b1) d a3 (fun h=>(a2 _ h).elim (apE G (xlo I j) c1.lt) (apE H (xlo I j) c1.lt)))))).grown x c4 (cW (ai cx));refine aq kr rfl kr enters85 (cn ak f a9.2 aG aL (ro n) 1 (a.1,a.2.1,a.2.2.1,a.2.2.2.1,a.2.2.2.2.1,a.2.2.2.2.2.1,([Pc.of i.1]:List Pc)) dZ (fun k=>l k∨(fun k=>aK (ro n)=some k∨r k) k) (fun k hk=>⟨(hk).elim (fun h=>(lz1 j D.size) k h) (fun h=>(fun k (hk:aK (ro n)=some k∨r k)=>hk.elim (fun h=>c5.lt k h) (fun h=>(aR c4 x.size) k h)) k h),fun e=>(hk).elim (fun h=>(fun (hx:l f)=>(j _ hx).2 rfl) (e ▸ h)) (fun h=>cx (e ▸ h))⟩) dS ((rg bx D j).wide (fun k hk=>(.inl hk))) ((c5.rd (Y:=fun k=>aK (ro n)=some k∨r k) (fun _ h=>.inr h) (fun g e=>.inl e)).wide (fun k hk=>(.inr hk))) bd dT) ?_;rintro ed dK ⟨c7,L,M,N,O,P,Q,rfl,c9,R,ds,S,dz⟩;have be:∀ k,N k→k<dK.heap.size:=fun k hk=>(R k hk).1;have dA:∀ k,N k→l k∨m.heap.size≤k:=fun k hk=>(R k hk).2.elim (fun h=>(h).elim (fun h=>(fun k (hk:l k)=>Or.inl hk) k h) (fun h=>(fun k (hk:aK (ro n)=some k∨r k)=>hk.elim (fun h=>Or.inr (cw k h)) (fun h=>cs k h)) k h)) (fun h=>.inr (Nat.le_trans D.size h));have bg:∀ k,Q k→k<dK.heap.size:=fun k hk=>(S k hk).1;have dB:∀ k,Q k→l k∨m.heap.size≤k:=fun k hk=>(S k hk).2.elim (fun h=>(h).elim (fun h=>(fun k (hk:l k)=>Or.inl hk) k h) (fun h=>(fun k (hk:aK (ro n)=some k∨r k)=>hk.elim (fun h=>Or.inr (cw k h)) (fun h=>cs k h)) k h)) (fun h=>.inr (Nat.le_trans D.size h));have bl:=cl ((ci b4) _ rfl) ((bi A) _ rfl);refine aB 25 0 (.agg (bj bd.1 L M O P)) (bj bd.1 L M O P) ((((K.grown o nb).grown w (ai (Nat.ne_of_lt bl))).grown x (ai J)).grown c7 (ai J)) kr kr kr ?_;intro dU q dC d0;refine aa<|am ?_
  obtain rfl:=sj t;refine au (ao [.agg (bj bd.1 L M O P)] rfl ⟨⟨⟨U,0,none⟩,kr,run_loadVar_row dU U _ 25 _ _ _ dC bX rfl kr⟩,trivial⟩ ?_);have bn:=((K.grown o nb).grown w (ai (Nat.ne_of_lt bl))).grown x (ai J);have dD:¬ N U:=fun h=>((R _ h).2.elim (fun h=>(h).elim (fun h=>((fun (hx:l U)=>nl s (j _ hx).1)) h) (fun h=>(c3) h)) (fun h=>nl h (bn.lt)));have dE:¬ Q U:=fun h=>((S _ h).2.elim (fun h=>(h).elim (fun h=>((fun (hx:l U)=>nl s (j _ hx).1)) h) (fun h=>(c3) h)) (fun h=>nl h (bn.lt)));exact ⟨(aj (aj D c7 bv) q (cE s)),L,M,N,O,P,Q,rfl,(c9.grown q be (ai dD)),sxq (aR be q.size) dA,(ds.grown q bg (ai dE)),sxq (aR bg q.size) dB,(dz.grown q (ai (apH A c2)))⟩
theorem grp_regex_parser_alternatives_ok:∀ (ak:Nat),gC56 ak∧gC83 ak∧gC107 ak∧gC127 ak∧gC150 ak:=by
  intro ak
  induction ak with
  | zero=>refine ⟨?_,?_,?_,?_,?_⟩<;>first | (unfold gC56;intros;rename_i a;rw[regex_parser_alternatives.eq_1]at a;cases a) | (unfold gC83;intros;rename_i a;rw[regex_parser_sequence.eq_1]at a;cases a) | (unfold gC107;intros;rename_i a;rw[regex_parser_repeated.eq_1]at a;cases a) | (unfold gC127;intros;rename_i a;rw[regex_parser_atom.eq_1]at a;cases a) | (unfold gC150;intros;rename_i a;rw[regex_parser_inside.eq_1]at a;cases a)
  | succ ak ih=>obtain ⟨i0,i1,i2,i3,i4⟩:=ih;exact ⟨regex_parser_alternatives_step ak i0 i1 i2 i3 i4,regex_parser_sequence_step ak i0 i1 i2 i3 i4,regex_parser_repeated_step ak i0 i1 i2 i3 i4,regex_parser_atom_step ak i0 i1 i2 i3 i4,regex_parser_inside_step ak i0 i1 i2 i3 i4⟩

theorem regex_parser_alternatives_ok (ak:Nat):
    gC56 ak:=
  (grp_regex_parser_alternatives_ok ak).1

theorem regex_spell_ok (ak:Nat) (b:Int) (d:ByteArray) (e:World) (n:ByteArray) (c:regex_spell ak b d=some n):
    Cs 86 [vI b,vS d] e (G1 e [vS n]):=by
 have g:Bl e e:=Below.refl _ _;unfold regex_spell at c;refine aH Tryz.func86 rfl Tryz.ntmps86 kr ?_;refine bQ [(0,vI b),(1,vS d)]<|aI<|pN 1 [4] []<|co<|aF<|aI<|pL [5,6,7] 5 (vB (b==10))<|aa<|bw c (fun o c=>?_) (fun o c=>?_)
 ·refine aI<|p1 4 (vS (bb [92,110]))<|aa<|am ?_
  obtain rfl:=sj c;refine au (ao [vS (bb [92,110])] rfl ⟨kr,trivial⟩ ?_);exact ⟨ad g,rfl⟩
 ·refine aI<|pL [8,9,10] 8 (vB (b==9))<|aa<|bw c (fun p c=>?_) (fun p c=>?_)
  ·refine aI<|p1 4 (vS (bb [92,116]))<|aa<|am ?_
   obtain rfl:=sj c;refine au (ao [vS (bb [92,116])] rfl ⟨kr,trivial⟩ ?_);exact ⟨ad g,rfl⟩
  ·refine aI<|af c ?_;intro t f c
   refine aO (J:=fun a k=>Bl e k∧Sz e k∧Qa a 28 [(0,vI b),(11,vB t)]) ?_ ?_
   ·refine pL [12,13,14] 14 (vB (decide (b<128)))<|cm 14 f (fun q f=>?_) (fun q f=>?_)
    ·refine pN 3 [15,16,17] [(15,vS d),(17,vU (wB (b)))]<|af f ?_;intro r s f;refine aq kr rfl kr enters109 (strings_IndexByte_ok ak d (wB (b)) e r s) ?_;rintro v w ⟨i,rfl⟩;refine pL [11,19,20] 11 (vB (decide (r≥0)))<|aa ?_;obtain rfl:=sj f;refine ac fun a hd hs al=>?_;exact ⟨(bg g i nb),i.size,hd,hs,aU al⟩
    ·refine pL [11,15,16,17,18,19,20] 11 (vB false)<|aa ?_;obtain rfl:=sj f;exact ac fun a hd hs al=>⟨g,bM,hd,hs,aU al⟩
   ·rintro a k ⟨h,u,hd,hs,al⟩;refine aM ?_ hd hs al;refine bw c (fun l c=>?_) (fun l c=>?_)
    ·refine aI<|pL [21,22] 22 (vR (wR (b)))<|gv_i2s (src:=21) (dst:=9) (kk:=.i32) (x:=(wR (b))) [] nofun rfl rfl rfl kr kr kr aW rfl ?_;refine af c ?_;intro j m c;refine dq 9 m<|p1 4 (vS j)<|aa<|am ?_
     obtain rfl:=sj c;refine au (ao [vS j] rfl ⟨kr,trivial⟩ ?_);exact ⟨ad h,rfl⟩
    ·refine az<|bt<|aI<|pL [25,26] 26 (vR (wR (b)))<|gv_i2s (src:=21) (dst:=9) (kk:=.i32) (x:=(wR (b))) [] nofun rfl rfl rfl kr kr kr aW rfl ?_;refine p1 4 (vS (Utf8.encode (wR (b))))<|aa<|am ?_
     obtain rfl:=sj c;refine au (ao [vS (Utf8.encode (wR (b)))] rfl ⟨kr,trivial⟩ ?_);exact ⟨ad h,rfl⟩

theorem regex_class_ok (ak:Nat) (ae:bm) (ag:Nat) (e:bm) (f:Nat) (b:cB) (h:World) (P:Nat→Prop) (H:Lw P h) (ay:Rd bS h P ae ag b.2.2.2.2.2.1) (a4:Rd pcE h P e f b.2.2.2.2.2.2) (r0:ByteArray) (o:regex_class ak b=some r0):
    Cs 87 [.agg (bj b ae ag e f)] h (G1 h [vS r0]):=by
 have I:Bl h h:=Below.refl _ _;unfold regex_class at o;refine aH Tryz.func87 rfl Tryz.ntmps87 kr ?_;refine bQ [(0,.agg (bj b ae ag e f))]<|aI<|aA bp (bj b ae ag e f) 25 kr kr ?_
 intro E w2 K v bs b4;refine pN 1 [2] []<|bF<|p1 3 (vS (bb [91]))<|co<|aI<|p1 6 (pt E 3)<|bk 4 v 3 rfl<|aa<|af o ?_;intro j7 j o
 refine aC (J:=fun a u=>Bl h u∧Sz w2 u∧ba u E 25 (bj b ae ag e f)∧Qa a 36 [(1,bp E),(3,vS j7)]) ?_ ?_
 ·refine bw j (fun a6 j=>?_) (fun a6 j=>?_)
  ·refine av<|p1 8 (vS (bb [91]))<|af j ?_;intro a7 Q j;refine dq 9 Q<|p1 3 (vS a7)<|aa ?_;obtain rfl:=sj j;refine ac fun a hd hs al=>?_;exact ⟨(bg I K nb),bM,v,hd,hs,aU al⟩
  ·refine az ?_;obtain rfl:=sj j;refine ac fun a hd hs al=>?_;exact ⟨(bg I K nb),bM,v,hd,hs,aU al⟩
 ·rintro a u ⟨R,bE,S,hd,hs,al⟩;refine aM ?_ hd hs al;refine aJ<|aI<|p1 10 (pt E 5)<|bk 22 S 5 rfl<|pN 2 [12,13] [(12,vI (lz b.2.2.2.2.2.1)),(13,vI 0)]<|aa<|af o ?_;intro L j o
  refine aC (J:=fun a w=>Bl h w∧Sz u w∧Qa a 36 [(3,vS L)]) ?_ ?_
  ·refine aF<|bO (A:=fun (c:ByteArray × Int) a s=>Bl h s∧Sz u s∧Qa a 36 [(3,vS c.1),(11,vL ae b.2.2.2.2.2.1 ag),(12,vI (lz b.2.2.2.2.2.1)),(13,vI c.2)]) j ?_ ?_
   ·intro a hd hs al;exact ⟨R,bM,hd,hs,aU al⟩
   ·rintro c r2 i a8 a s ⟨d,x,hd,hs,al⟩;refine aM ?_ hd hs al;refine aI<|p1 14 (vB (decide (c.2<(lz b.2.2.2.2.2.1))))<|co<|bw i (fun T i=>?_) (fun T i=>?_)
    ·refine az<|aJ<|aF<|aI<|af i ?_;intro g y i
     refine cX .i64 2 (ay.below d H) y aS ?_;obtain ⟨_,⟨_,_,rfl,rfl,rfl⟩,U⟩:=ay.cellsK y;refine laq 37 (aP ae ((c.2:Int).toNat*2)) (bP g) (bU (U s (fun k hk=>d.block k (H k hk)))) ?_;refine aA bp #[vI 0,vI 0] 37 kr kr ?_;intro l b5 p V t b0;refine aB 37 0 (.agg (bP g)) (bP g) V kr kr kr ?_;intro a9 q z b2;refine bF<|pN 2 [17,18] [(17,vS c.1),(18,bp l)]<|bk 3 z 0 rfl<|af i ?_;intro bd W i;refine aq kr rfl kr enters86 (regex_spell_ok ak g.1 (bb [92,93,94,45,91]) a9 bd W) ?_;rintro b6 M ⟨n,rfl⟩;refine af i ?_;intro B X i;refine dq 9 X<|p1 3 (vS B)<|bF<|p1 22 (pt l 1) ?_
     have r:=z.grown n nb;refine bk 3 r 1 rfl<|p1 24 (bp l)<|bk 3 r 0 rfl<|p1 26 (vB (decide (g.2>g.1)))<|bQ [(3,vS B),(5,bp l),(11,vL ae b.2.2.2.2.2.1 ag),(12,vI (lz b.2.2.2.2.2.1)),(13,vI c.2),(26,vB (decide (g.2>g.1)))]<|aa<|af i ?_;intro N m i
     refine aC (J:=fun a C=>Bl h C∧Sz M C∧Qa a 36 [(3,vS N),(11,vL ae b.2.2.2.2.2.1 ag),(12,vI (lz b.2.2.2.2.2.1)),(13,vI c.2)]) ?_ ?_
     ·refine bw m (fun Y m=>?_) (fun Y m=>?_)
      ·refine av<|pN 2 [27,28] [(27,vS B),(28,pt l 1)]<|bk 3 r 1 rfl<|af m ?_;intro be Z m;refine aq kr rfl kr enters86 (regex_spell_ok ak g.2 (bb [92,93,94,45,91]) M be Z) ?_;rintro b7 ca ⟨D,rfl⟩;refine af m ?_;intro cb ah m;refine dq 9 ah<|af m ?_;intro bl an m;refine dq 9 an<|p1 3 (vS bl)<|aa ?_;obtain rfl:=sj m;refine ac fun a hd hs al=>?_;have F:h.heap.size≤l:=bT t d.size;exact ⟨(bg (bg (bg d p nb) q (aQ F)) (ab n D) nb),D.size,hd,hs,aU al⟩
      ·refine az ?_;obtain rfl:=sj m;refine ac fun a hd hs al=>?_;have G:h.heap.size≤l:=bT t d.size;exact ⟨(bg (bg (bg d p nb) q (aQ G)) n nb),bM,hd,hs,aU al⟩
     ·rintro a C ⟨ax,a0,hd,hs,al⟩;refine aM ?_ hd hs al;have a1:=(nt (nt (nt (nt x p.size) q.size) n.size) a0);refine bt<|av<|pL [13,33] 13 (vI (wI (c.2+1)))<|aa ?_;obtain rfl:=sj i;refine ac fun a hd hs al=>?_;exact ⟨(N,wI (c.2+1)),rfl,ax,a1,hd,hs,aU al⟩
    ·refine bB<|bN rfl ?_
     obtain rfl:=sj i;replace j:=congrArg some (a8 _ rfl);obtain rfl:=sj j;refine ac fun a hd hs al=>?_;exact ⟨d,x,hd,hs,aU al⟩
  ·rintro a w ⟨a2,b3,hd,hs,al⟩;refine aM ?_ hd hs al;refine aI<|p1 34 (vS L)<|af o ?_;intro O a3 o;refine dq 9 a3<|p1 2 (vS O)<|aa<|am ?_
   obtain rfl:=sj o;refine au (ao [vS O] rfl ⟨kr,trivial⟩ ?_);exact ⟨ad a2,rfl⟩

theorem regex_pick_ok (ak:Nat) (c:Bool) (b:ByteArray) (a:ByteArray) (e:World) (g:ByteArray) (d:regex_pick ak c b a=some g):
    Cs 88 [vB c,vS b,vS a] e (G1 e [vS g]):=by
 have f:Bl e e:=Below.refl _ _;unfold regex_pick at d;refine aH Tryz.func88 rfl Tryz.ntmps88 kr ?_;refine bQ [(0,vB c),(1,vS b),(2,vS a)]<|aI<|pN 1 [6] []<|co<|aI<|p1 7 (vB c)<|aa<|bw d (fun h d=>?_) (fun h d=>?_)
 ·refine aI<|pL [6,8] 6 (vS a)<|aa<|am ?_
  obtain rfl:=sj d;refine au (ao [vS a] rfl ⟨kr,trivial⟩ ?_);exact ⟨ad f,rfl⟩
 ·refine az<|aI<|pL [6,9] 6 (vS b)<|aa<|am ?_
  obtain rfl:=sj d;refine au (ao [vS b] rfl ⟨kr,trivial⟩ ?_);exact ⟨ad f,rfl⟩

theorem regex_times_ok (ak:Nat) (ae:bm) (ag:Nat) (d:bm) (e:Nat) (c:cB) (h:World) (A:Nat→Prop) (y:Lw A h) (ay:Rd bS h A ae ag c.2.2.2.2.2.1) (a3:Rd pcE h A d e c.2.2.2.2.2.2) (F:Rd (tabE 3 df) h A (ro 3) 1 [vW 1]) (r0:ByteArray) (m:regex_times ak c=some r0):
    Cs 90 [.agg (bj c ae ag d e)] h (G1 h [vS r0]):=by
 have a5:Bl h h:=Below.refl _ _;unfold regex_times at m;refine aH Tryz.func90 rfl Tryz.ntmps90 kr ?_;refine bQ [(0,.agg (bj c ae ag d e))]<|aI<|aA bp (bj c ae ag d e) 25 kr kr ?_
 intro f w2 a6 G b2 b6;refine pN 1 [2] []<|bF<|pN 1 [3] []<|co<|aI<|p1 5 (pt f 1)<|bk 3 G 1 rfl<|af m ?_;intro q a7 m;have z:=bg a5 a6 nb;refine aq kr rfl kr enters91 (strconv_Itoa_ok ak c.2.1 w2 A (aR y z.size) (F.below z y) q a7) ?_;rintro b7 a8 ⟨u,rfl⟩;refine p1 4 (vS q)<|aa<|aF<|aI<|af m ?_;intro a9 b m
 refine aO (J:=fun a n=>Bl h n∧Sz a8 n∧ba n f 25 (bj c ae ag d e)∧Qa a 64 [(1,bp f),(4,vS q),(16,vB a9)]) ?_ ?_
 ·refine p1 17 (pt f 2) ?_;have o:=G.grown u nb;refine bk 3 o 2 rfl<|pL [19,20] 20 (vB (c.2.2.1==(-1)))<|cm 20 b (fun K b=>?_) (fun K b=>?_)
  ·refine p1 21 (pt f 1)<|bk 3 o 1 rfl<|pL [16,23,24] 16 (vB (c.2.1==0))<|aa ?_;obtain rfl:=sj b;refine ac fun a hd hs al=>?_;exact ⟨(bg z u nb),bM,o,hd,hs,aU al⟩
  ·refine pL [16,21,22,23,24] 16 (vB false)<|aa ?_;obtain rfl:=sj b;refine ac fun a hd hs al=>?_;exact ⟨(bg z u nb),bM,o,hd,hs,aU al⟩
 ·rintro a n ⟨v,b3,j,hd,hs,al⟩;refine aM ?_ hd hs al;refine af m ?_;intro H b m;refine aC (J:=fun a r=>Bl h r∧Sz n r∧ba r f 25 (bj c ae ag d e)∧Qa a 64 [(1,bp f),(3,vS H)]) ?_ ?_
  ·refine bw b (fun L b=>?_) (fun L b=>?_)
   ·refine av<|p1 3 (vS (bb [42]))<|aa ?_;obtain rfl:=sj b;exact ac fun a hd hs al=>⟨v,bM,j,hd,hs,aU al⟩
   ·refine aI<|af b ?_;intro bd k b
    refine aO (J:=fun a s=>Bl h s∧Sz n s∧ba s f 25 (bj c ae ag d e)∧Qa a 64 [(1,bp f),(4,vS q),(25,vB bd)]) ?_ ?_
    ·refine p1 26 (pt f 2)<|bk 3 j 2 rfl<|pL [28,29] 29 (vB (c.2.2.1==(-1)))<|cm 29 k (fun M k=>?_) (fun M k=>?_)
     ·refine p1 30 (pt f 1)<|bk 3 j 1 rfl<|pL [25,32,33] 25 (vB (c.2.1==1))<|aa ?_;obtain rfl:=sj k;exact ac fun a hd hs al=>⟨v,bM,j,hd,hs,aU al⟩
     ·refine pL [25,30,31,32,33] 25 (vB false)<|aa ?_;obtain rfl:=sj k;exact ac fun a hd hs al=>⟨v,bM,j,hd,hs,aU al⟩
    ·rintro a s ⟨w,B,l,hd,hs,al⟩;refine aM ?_ hd hs al;refine bw b (fun N b=>?_) (fun N b=>?_)
     ·refine av<|p1 3 (vS (bb [43]))<|aa ?_;obtain rfl:=sj b;refine ac fun a hd hs al=>?_;exact ⟨w,B,l,hd,hs,aU al⟩
     ·refine aI<|af b ?_;intro be k b
      refine aO (J:=fun a t=>Bl h t∧Sz s t∧ba t f 25 (bj c ae ag d e)∧Qa a 64 [(1,bp f),(4,vS q),(34,vB be)]) ?_ ?_
      ·refine p1 35 (pt f 1)<|bk 3 l 1 rfl<|pL [37,38] 38 (vB (c.2.1==0))<|cm 38 k (fun O k=>?_) (fun O k=>?_)
       ·refine p1 39 (pt f 2)<|bk 3 l 2 rfl<|pL [34,41,42] 34 (vB (c.2.2.1==1))<|aa ?_;obtain rfl:=sj k;exact ac fun a hd hs al=>⟨w,bM,l,hd,hs,aU al⟩
       ·refine pL [34,39,40,41,42] 34 (vB false)<|aa ?_;obtain rfl:=sj k;exact ac fun a hd hs al=>⟨w,bM,l,hd,hs,aU al⟩
      ·rintro a t ⟨i,P,g,hd,hs,al⟩;refine aM ?_ hd hs al;have p:=(nt B P);refine bw b (fun Q b=>?_) (fun Q b=>?_)
       ·refine av<|p1 3 (vS (bb [63]))<|aa ?_;obtain rfl:=sj b;refine ac fun a hd hs al=>?_;exact ⟨i,p,g,hd,hs,aU al⟩
       ·refine aI<|p1 44 (pt f 2)<|bk 3 g 2 rfl<|pL [43,46] 43 (vB (c.2.2.1==(-1)))<|aa<|bw b (fun R b=>?_) (fun R b=>?_)
        ·refine av<|p1 47 (vS q)<|af b ?_;intro ca S b;refine dq 9 S<|af b ?_;intro bl T b;refine dq 9 T<|p1 3 (vS bl)<|aa ?_;obtain rfl:=sj b;refine ac fun a hd hs al=>?_;exact ⟨i,p,g,hd,hs,aU al⟩
        ·refine aI<|p1 51 (pt f 2)<|bk 3 g 2 rfl<|p1 53 (pt f 1)<|bk 3 g 1 rfl<|pL [50,55] 50 (vB (c.2.2.1==c.2.1))<|aa<|bw b (fun U b=>?_) (fun U b=>?_)
         ·refine av<|p1 56 (vS q)<|af b ?_;intro cb V b;refine dq 9 V<|af b ?_;intro bn W b;refine dq 9 W<|p1 3 (vS bn)<|aa ?_;obtain rfl:=sj b;refine ac fun a hd hs al=>?_;exact ⟨i,p,g,hd,hs,aU al⟩
         ·refine av<|p1 8 (vS q)<|af b ?_;intro cc X b;refine dq 9 X<|af b ?_;intro bs Y b;refine dq 9 Y<|p1 11 (pt f 2)<|bk 3 g 2 rfl<|af b ?_;intro I Z b;refine aq kr rfl kr enters91 (strconv_Itoa_ok ak c.2.2.1 t A (aR y i.size) (F.below i y) I Z) ?_;rintro ch ck ⟨x,rfl⟩;refine bQ [(1,bp f),(10,vS bs),(13,vS I)]<|af b ?_;intro cs ah b;refine dq 9 ah<|af b ?_;intro bA an b;refine dq 9 an<|p1 3 (vS bA)<|aa ?_;obtain rfl:=sj b;refine ac fun a hd hs al=>?_;exact ⟨(bg i x nb),(nt p x.size),(g.grown x nb),hd,hs,aU al⟩
  ·rintro a r ⟨C,b4,ax,hd,hs,al⟩;refine aM ?_ hd hs al;refine bt<|aJ<|aI<|p1 59 (pt f 4)<|bk 4 ax 4 rfl<|aa<|af m ?_;intro D b m
   refine aC (J:=fun a E=>Bl h E∧Sz r E∧Qa a 64 [(3,vS D)]) ?_ ?_
   ·refine bw b (fun a0 b=>?_) (fun a0 b=>?_)
    ·refine av<|p1 61 (vS H)<|af b ?_;intro bE a1 b;refine dq 9 a1<|p1 3 (vS bE)<|aa ?_;obtain rfl:=sj b;exact ac fun a hd hs al=>⟨C,bM,hd,hs,aU al⟩
    ·refine az ?_;obtain rfl:=sj b;exact ac fun a hd hs al=>⟨C,bM,hd,hs,aU al⟩
   ·rintro a E ⟨a2,b5,hd,hs,al⟩;refine aM ?_ hd hs al;refine aI<|pL [2,63] 2 (vS D)<|aa<|am ?_
    obtain rfl:=sj m;refine au (ao [vS D] rfl ⟨kr,trivial⟩ ?_);exact ⟨ad a2,rfl⟩

abbrev gC58 (ak:Nat):Prop:=∀ (ae:bm) (ag:Nat) (a:bm) (b:Nat) (c:cB) (d:World) (e:Nat→Prop) (h:Lw e d) (ay:Rd bS d e ae ag c.2.2.2.2.2.1) (f:Rd pcE d e a b c.2.2.2.2.2.2) (i:Rd (tabE 3 df) d e (ro 3) 1 [vW 1]) (g:ByteArray),regex_text ak c=some g→Calls ap 58 ([.agg (bj c ae ag a b)]:List Value).toArray d (Ret fun v w'=>d.grownBy w' none∧v=tup [vS g])
set_option maxHeartbeats 4000000 in
set_option maxRecDepth 100000 in
theorem regex_text_step (ak:Nat) (z:gC58 ak):gC58 (ak+1):=by
 intro ae ag j l d N X0 n ay u ck r0 c;have ex:Bl N N:=Below.refl _ _;rw[regex_text.eq_2]at c;refine aH Tryz.func58 rfl Tryz.ntmps58 kr ?_;refine bQ [(0,.agg (bj d ae ag j l))]<|aI<|aA bp (bj d ae ag j l) 25 kr kr ?_
 intro m w2 ey d9 eC e9;refine pN 1 [2] []<|bF<|p1 3 (vL none ([]:List ByteArray) 0)<|co<|aI<|p1 6 (pt m 6)<|bk 23 d9 6 rfl<|pN 2 [8,9] [(8,vI (lz d.2.2.2.2.2.2)),(9,vI 0)]<|aa<|af c ?_;intro K h1 c
 refine aC (J:=fun a C=>∃ (i:bm) (v:Nat),Bl N C∧Sz w2 C∧ar sE 9 C (fun _=>False) i v K∧(Lo N i)∧(∀ g,aK i=some g→¬ (· =m) g)∧¬ (fun k=>aK i=some k) m∧ba C m 25 (bj d ae ag j l)∧Qa a 82 [(1,bp m),(3,vL i K v)]) ?_ ?_
 ·refine aF<|bO (A:=fun (L:(List ByteArray) × Int) a M=>∃ (i:bm) (v:Nat),Bl N M∧Sz w2 M∧ar sE 9 M (fun _=>False) i v L.1∧(Lo N i)∧(∀ g,aK i=some g→¬ (· =m) g)∧¬ (fun k=>aK i=some k) m∧ba M m 25 (bj d ae ag j l)∧Qa a 82 [(1,bp m),(3,vL i L.1 v),(7,vL j d.2.2.2.2.2.2 l),(8,vI (lz d.2.2.2.2.2.2)),(9,vI L.2)]) h1 ?_ ?_
  ·intro a hd hs al;exact ⟨none,0,(bg ex ey nb),bM,ar.nil sE 9 w2 (fun _=>False),nofun,nofun,nofun,d9,hd,hs,aU al⟩
  ·rintro L r2 D ez a M ⟨Z,cs,E,cv,F,a4,a5,cw,a6,hd,hs,al⟩;refine aM ?_ hd hs al;refine aI<|p1 10 (vB (decide (L.2<(lz d.2.2.2.2.2.2))))<|co<|bw D (fun ed D=>?_) (fun ed D=>?_)
   ·refine az<|aJ<|aF<|aI<|af D ?_;intro ah c0 D
    refine cX .i64 7 (u.below E n) c0 aZ ?_;obtain ⟨_,⟨_,_,rfl,rfl,⟨_,_,rfl,rfl,⟨_,_,rfl,rfl,⟨_,_,rfl,rfl,⟨_,_,rfl,rfl,⟨_,_,rfl,⟨an,a0,rfl,ee⟩,⟨a1,a2,rfl,ef⟩⟩⟩⟩⟩⟩⟩,eg⟩:=cells_un (u.cellsK c0);refine laq 25 (aP j ((L.2:Int).toNat*7)) (du (Pc.un ah) an a0 a1 a2) (bU (eg M (fun k hk=>E.block k (n k hk)))) ?_;refine aA bp dx 25 kr kr ?_;intro b5 fa G eh B eD;refine aB 25 0 (.agg (du (Pc.un ah) an a0 a1 a2)) (du (Pc.un ah) an a0 a1 a2) eh kr kr kr ?_;intro eA H c1 eE;refine aa<|av<|p1 13 (vL Z L.1 cs)<|dd 25 b5 (du (Pc.un ah) an a0 a1 a2) (bU c1)<|af D ?_;intro a3 ei D;have dC:N.heap.size≤b5:=bT B E.size;have I:=bg (bg E G nb) H (aQ dC);refine aq kr rfl kr enters58 (z an a0 a1 a2 (Pc.un ah) eA X0 (aR n I.size) (ee.below I n) (ef.below I n) (ck.below I n) a3 ei) ?_;rintro fb fc ⟨O,rfl⟩;refine aA (fun b=>.slice (ro b) 1 1) #[vS a3] 9 kr kr ?_;intro q eB a7 ej P eF;have a8:ar sE 9 eB (fun _=>False) (ro q) 1 ([a3]:List ByteArray):=bI ej ⟨[vS a3],[],rfl,rfl,rfl⟩ (show 1≤maxLen by decide) (fun h=>h);have c2:=bg I O nb;have eG:Lo N (ro q):=loo P c2.size;refine af D ?_;intro c3 ek D;have a9:=dy B F.lt;have bd:=(ab O a7);refine cj sE (t:=54) (ty:=54) (e:=9) (a:=Z) (ax:=(ro q)) (cap:=cs) (cx:=1) (xs:=L.1) (ys:=([a3]:List ByteArray)) c3 (X:=(fun _=>False)) (Y:=(fun k=>aK (ro q)=some k)) cq rfl rfl kr kr cR info9 (((F.grown G fe nb).grown H fe (bY (ai a9))).grown bd fe nb) (a8.rd (Y:=fun k=>aK (ro q)=some k) fe (fun g e=>e)) ek (.inr fun _ _ _ _ _ h=>h) fe ?_;intro w ea fd be el r;refine ⟨nofun,?_⟩;have c4:=bg c2 a7 nb;have em:Lo N w:=cA r a4 c4.size;have bl:=((a6.grown G nb).grown H (ai (ng (cl ((ci a6) _ rfl) ((bi B) _ rfl))))).grown bd nb;have en:∀ g,aK w=some g→¬ (· =m) g:=bK r a5 (ci bl);have eo:¬ (fun k=>aK w=some k) m:=fun h=>cd r (fun h=>(cw) h) (bl.lt) h;have c5:=c1.grown bd nb;have eH:∀ g,aK w=some g→¬ (· =b5) g:=bK r (dk B F.lt) (ci c5);have eI:¬ (fun k=>aK w=some k) b5:=fun h=>cd r (fun h=>(a9) h) (c5.lt) h;have c7:=((F.grown G fe nb).grown H fe (bY (ai a9))).grown O fe nb;have ep:Ap Z (ro q):=fun g e hx=>nl ((b8 P) _ hx) (c7.lt g e);have eJ:Ap w (ro q):=bK r ep (fun k (hk:aK (ro q)=some k)=>a8.lt k hk);have eq:Ap (ro q) Z:=fun g e hx=>nl ((b8 P) g e) (c7.lt _ hx);have eK:Ap (ro q) w:=fun g e h=>cd r (fun h=>((eq) g e) h) (a8.lt g e) h;refine p1 3 (vL w c3 ea)<|aa<|bt<|av<|pL [9,18] 9 (vI (wI (L.2+1)))<|aa ?_;obtain rfl:=sj D;refine ac fun a hd hs al=>?_;exact ⟨(c3,wI (L.2+1)),rfl,w,ea,(bg c4 be a4),(nt (nt (nt (nt (nt cv G.size) H.size) O.size) a7.size) be.size),el,em,en,eo,(bl.grown be a5),hd,hs,aU al⟩
   ·refine bB<|bN rfl ?_
    obtain rfl:=sj D;replace h1:=congrArg some (ez _ rfl);obtain rfl:=sj h1;refine ac fun a hd hs al=>?_;exact ⟨Z,cs,E,cv,F,a4,a5,cw,a6,hd,hs,aU al⟩
 ·rintro a C ⟨o,y,f,eL,s,eM,eN,eO,p,hd,hs,al⟩;refine aM ?_ hd hs al;refine aJ<|aI<|p1 19 (bp m)<|bk 3 p 0 rfl<|aa<|aF<|aI<|pL [21,22] 21 (vB (d.1==1))<|aa<|bw c (fun dD c=>?_) (fun dD c=>?_)
  ·refine aI<|p1 23 (pt m 1)<|bk 3 p 1 rfl<|af c ?_;intro bn dE c;refine aq kr rfl kr enters86 (regex_spell_ok ak d.2.1 (bb [92,46,94,36,42,43,63,40,41,91,93,123,125,124]) C bn dE) ?_;rintro eP eQ ⟨dF,rfl⟩;refine p1 2 (vS bn)<|aa<|am ?_
   obtain rfl:=sj c;refine au (ao [vS bn] rfl ⟨kr,trivial⟩ ?_);exact ⟨ad (bg f dF nb),rfl⟩
  ·refine aI<|pL [26,27] 26 (vB (d.1==2))<|aa<|bw c (fun dG c=>?_) (fun dG c=>?_)
   ·refine aI<|p1 2 (vS (bb [46]))<|aa<|am ?_
    obtain rfl:=sj c;refine au (ao [vS (bb [46])] rfl ⟨kr,trivial⟩ ?_);exact ⟨ad f,rfl⟩
   ·refine aI<|pL [28,29] 28 (vB (d.1==3))<|aa<|bw c (fun dH c=>?_) (fun dH c=>?_)
    ·refine aI<|dd 25 m (bj d ae ag j l) (bU p)<|af c ?_;intro bs dI c;refine aq kr rfl kr enters87 (regex_class_ok ak ae ag j l d C X0 (aR n f.size) (ay.below f n) (u.below f n) bs dI) ?_;rintro eR eS ⟨dJ,rfl⟩;refine p1 2 (vS bs)<|aa<|am ?_
     obtain rfl:=sj c;refine au (ao [vS bs] rfl ⟨kr,trivial⟩ ?_);exact ⟨ad (bg f dJ nb),rfl⟩
    ·refine aI<|pL [32,33] 32 (vB (d.1==4))<|aa<|bw c (fun dK c=>?_) (fun dK c=>?_)
     ·refine aI<|p1 2 (vS (bb [94]))<|aa<|am ?_
      obtain rfl:=sj c;refine au (ao [vS (bb [94])] rfl ⟨kr,trivial⟩ ?_);exact ⟨ad f,rfl⟩
     ·refine aI<|pL [34,35] 34 (vB (d.1==5))<|aa<|bw c (fun dL c=>?_) (fun dL c=>?_)
      ·refine aI<|p1 2 (vS (bb [36]))<|aa<|am ?_
       obtain rfl:=sj c;refine au (ao [vS (bb [36])] rfl ⟨kr,trivial⟩ ?_);exact ⟨ad f,rfl⟩
      ·refine aI<|pL [36,37] 36 (vB (d.1==6))<|aa<|bw c (fun dM c=>?_) (fun dM c=>?_)
       ·refine aI<|p1 38 (pt m 3)<|bk 4 p 3 rfl<|af c ?_;intro bE dN c;refine aq kr rfl kr enters88 (regex_pick_ok ak d.2.2.2.1 (bb [92,98]) (bb [92,66]) C bE dN) ?_;rintro eT eU ⟨dO,rfl⟩;refine p1 2 (vS bE)<|aa<|am ?_
        obtain rfl:=sj c;refine au (ao [vS bE] rfl ⟨kr,trivial⟩ ?_);exact ⟨ad (bg f dO nb),rfl⟩
       ·refine aI<|pL [41,42] 41 (vB (d.1==7))<|aa<|bw c (fun dP c=>?_) (fun dP c=>?_)
        ·refine aJ<|bL kr ?_
         intro b0 Q;refine aV [0,4,5] (bA 10 [0,4,5]) 7 kr kr<|pN 2 [43,47] [(43,pt m 1),(47,vL o K y)]<|af c ?_;intro c8 b6 c;have R:=s.grown Q fe nb;refine cX .i64 1 R.rdF b6 cR<|aa<|aw<|aN (dc b0 []) [1,2,3,6] [(1,some true),(2,some true),(6,some true),(3,some false)] (bA 10 [0,1,2,3,4,5,6]) 3 kr kr (aD _ _)<|cu 3 ⟨m,1,none⟩ (vI d.2.1) (bJ fun w' hC'=>((hC'.box (p.grown Q nb) aY).cell 1 rfl)) ?_;refine p1 45 (vB (d.2.1==0))<|cu 9 (aP o ((0:Int).toNat*1)) (vS c8) (bJ fun w' hC'=>((hC'.rd R.rdF R.lt ct).cell b6)) ?_;refine bQ [(45,vB (d.2.1==0)),(49,vS c8)]<|af c ?_;intro er dQ c;refine clq enters88 (regex_pick_ok ak (d.2.1==0) (bb [40]) (bb [40,63,58]) b0 er dQ) ?_;rintro eV eW ⟨b7,rfl⟩;refine ⟨(fun _=>(aD b0 []).grown b7 nb),?_⟩;refine aa<|aw<|aV [7,8,9] (bA 10 [0,1,2,3,4,5,6,7,8,9]) 0 kr kr<|af c ?_;intro eX dR c;refine dq 9 dR<|af c ?_;intro c9 dS c;refine dq 9 dS<|p1 2 (vS c9)<|aa<|aw<|aX kr<|am ?_;obtain rfl:=sj c;refine au (ao [vS c9] rfl ⟨kr,trivial⟩ ?_);exact ⟨ad (bg f (ab Q b7) nb),rfl⟩
        ·refine aI<|pL [52,53] 52 (vB (d.1==8))<|aa<|bw c (fun dT c=>?_) (fun dT c=>?_)
         ·refine aI<|p1 54 (vL o K y)<|af c ?_;intro b2 dU c;refine aq kr rfl kr enters89 (strings_Join_ok ak o y K (bb []) C (fun k=>aK o=some k) s.lt s.rdF b2 dU) ?_;rintro eY eZ ⟨dV,rfl⟩;refine p1 2 (vS b2)<|aa<|am ?_
          obtain rfl:=sj c;refine au (ao [vS b2] rfl ⟨kr,trivial⟩ ?_);exact ⟨ad (bg f dV nb),rfl⟩
         ·refine aI<|pL [56,57] 56 (vB (d.1==9))<|aa<|bw c (fun dW c=>?_) (fun dW c=>?_)
          ·refine aI<|p1 58 (vL o K y)<|af c ?_;intro S dX c;refine aq kr rfl kr enters89 (strings_Join_ok ak o y K (bb [124]) C (fun k=>aK o=some k) s.lt s.rdF S dX) ?_;rintro e0 e1 ⟨dY,rfl⟩;refine p1 2 (vS S)<|bQ [(2,vS S)]<|aa<|am ?_
           obtain rfl:=sj c;refine au (ao [vS S] rfl ⟨kr,trivial⟩ ?_);exact ⟨ad (bg f dY nb),rfl⟩
          ·refine aI<|pL [60,61] 60 (vB (d.1==10))<|aa<|bw c (fun dZ c=>?_) (fun dZ c=>?_)
           ·refine aJ<|bL kr ?_
            intro b3 T;refine aV [0,1] (bA 7 [0,1]) 5 kr kr<|p1 62 (vL o K y)<|af c ?_;intro es ca c;have U:=s.grown T fe nb;refine cX .i64 1 U.rdF ca cR<|aa<|aw<|aN (dc b3 []) [2,3,4] [(2,some true),(3,some true),(4,some false)] (bA 7 [0,1,2,3,4]) 2 kr kr (aD _ _)<|bQ [(1,bp m),(63,.pointer (some (aP o ((0:Int).toNat*1))))]<|cu 9 (aP o ((0:Int).toNat*1)) (vS es) (bJ fun w' hC'=>((hC'.rd U.rdF U.lt ct).cell ca)) ?_;refine dd 25 m (bj d ae ag j l) (bJ fun w' hC'=>(hC'.box (p.grown T nb) aY)) ?_;refine af c ?_;intro et d0 c;have x:=bg f T nb;refine clq enters90 (regex_times_ok ak ae ag j l d b3 X0 (aR n x.size) (ay.below x n) (u.below x n) (ck.below x n) et d0) ?_;rintro e2 e3 ⟨cb,rfl⟩;refine ⟨(fun _=>(aD b3 []).grown cb nb),?_⟩;refine aa<|aw<|aV [5,6] (bA 7 [0,1,2,3,4,5,6]) 0 kr kr<|af c ?_;intro ds d1 c;refine dq 9 d1<|p1 2 (vS ds)<|aa<|aw<|aX kr<|am ?_;obtain rfl:=sj c;refine au (ao [vS ds] rfl ⟨kr,trivial⟩ ?_);exact ⟨ad (bg x cb nb),rfl⟩
           ·refine aI<|pL [68,69] 68 (vB (d.1==11))<|aa<|bw c (fun d2 c=>?_) (fun d2 c=>?_)
            ·refine aJ<|bL kr ?_
             intro b4 V;refine aV [0,3,4] (bA 9 [0,3,4]) 6 kr kr<|pN 2 [70,73] [(70,pt m 3),(73,vL o K y)]<|bQ [(70,pt m 3),(73,vL o K y)]<|af c ?_;intro eu cc c;have W:=s.grown V fe nb;refine cX .i64 1 W.rdF cc cR<|aa<|aw<|aN (dc b4 []) [1,2,5] [(1,some true),(5,some true),(2,some false)] (bA 9 [0,1,2,3,4,5]) 3 kr kr (aD _ _)<|cu 4 ⟨m,3,none⟩ (vB d.2.2.2.1) (bJ fun w' hC'=>((hC'.box (p.grown V nb) aY).cell 3 rfl)) ?_;refine cu 9 (aP o ((0:Int).toNat*1)) (vS eu) (bJ fun w' hC'=>((hC'.rd W.rdF W.lt ct).cell cc)) ?_;refine af c ?_;intro ev d3 c;refine clq enters88 (regex_pick_ok ak d.2.2.2.1 (bb [40,63,61]) (bb [40,63,33]) b4 ev d3) ?_;rintro e4 e5 ⟨ch,rfl⟩;refine ⟨(fun _=>(aD b4 []).grown ch nb),?_⟩;refine aa<|aw<|aV [6,7,8] (bA 9 [0,1,2,3,4,5,6,7,8]) 0 kr kr<|af c ?_;intro e6 d4 c;refine dq 9 d4<|af c ?_;intro dz d5 c;refine dq 9 d5<|p1 2 (vS dz)<|aa<|aw<|aX kr<|am ?_;obtain rfl:=sj c;refine au (ao [vS dz] rfl ⟨kr,trivial⟩ ?_);exact ⟨ad (bg f (ab V ch) nb),rfl⟩
            ·refine az<|bt<|aI<|p1 78 (pt m 1)<|bQ [(78,pt m 1)]<|bk 3 p 1 rfl<|af c ?_;intro ew d6 c;refine aq kr rfl kr enters91 (strconv_Itoa_ok ak d.2.1 C X0 (aR n f.size) (ck.below f n) ew d6) ?_;rintro e7 e8 ⟨d7,rfl⟩;refine af c ?_;intro dA d8 c;refine dq 9 d8<|p1 2 (vS dA)<|aa<|am ?_
             obtain rfl:=sj c;refine au (ao [vS dA] rfl ⟨kr,trivial⟩ ?_);exact ⟨ad (bg f d7 nb),rfl⟩
theorem grp_regex_text_ok:∀ (ak:Nat),gC58 ak:=by
  intro ak
  induction ak with
  | zero=>unfold gC58;intros;rename_i a;rw[regex_text.eq_1]at a;cases a
  | succ ak ih=>exact regex_text_step ak ih

theorem regex_text_ok (ak:Nat):
    gC58 ak:=
  grp_regex_text_ok ak

theorem regex_Parse_ok (ak:Nat) (w:ByteArray) (n:World) (j:Nat→Prop) (f:Lw j n) (c4:Rd bE n j (ro 0) 256 bZ) (c5:Rd (prE (iE .u8) (iE .u8)) n j (ro 1) 16 cy) (dV:Rd (tabE 3 df) n j (ro 3) 1 [vW 1]) (r0:cB × bC) (b:regex_Parse ak w=some r0):
    Cs 30 [vS w] n (Ret fun v w'=>n.grownBy w' none∧∃ (bq:bm) (bD:Nat),∃ (ax:Nat→Prop),∃ (a0:bm) (a1:Nat),∃ (a2:Nat→Prop),v=tup [.agg (bj r0.1 bq bD a0 a1),.agg (bP r0.2)]∧Rd bS w' ax bq bD r0.1.2.2.2.2.2.1∧(Sxb ax w' j n)∧Rd pcE w' a2 a0 a1 r0.1.2.2.2.2.2.2∧(Sxb a2 w' j n)):=by
 have T:Bl n n:=Below.refl _ _;unfold regex_Parse at b;refine calls_runM Tryz.func30 rfl Tryz.ntmps30 kr ?_;refine bQ [(0,vS w)]<|aI<|aA bp dx 25 kr kr ?_
 intro g w2 c7 U V d9;refine aA bp #[vI 0,vI 0] 31 kr kr ?_;intro B w8 bn ds a3 d3;refine co<|aF<|aI<|pL [5,6,7,8] 5 (vB (decide ((bz w)>200)))<|af b ?_;intro dW dz b;refine b9 (s:=5) (v:=(vB (decide ((bz w)>200)))) (v':=(vB dW)) kr (congrArg (Value.bool) (sj dz))<|aa<|bw b (fun dA b=>?_) (fun dA b=>?_)
 ·cases b
 ·refine aI<|p1 12 (vS w)<|af b ?_;intro c8 dB b;have G:=bg T (ab c7 bn) nb;refine aq kr rfl kr enters41 (utf8_ValidString_ok ak w w8 j (aR f G.size) (c4.below G f) (c5.below G f) c8 dB) ?_;rintro ea eb ⟨N,rfl⟩;refine pL [11,14] 11 (vB (!c8))<|aa<|bw b (fun dC b=>?_) (fun dC b=>?_)
  ·cases b
  ·refine az<|bt<|aI<|p1 17 (.func (.func 55) #[] #[bp g,bp B]) ?_
   refine gv_defer (d:=⟨.fn (.func 55) #[bp g,bp B],#[]⟩) rfl kr kr kr ?_;refine bF<|pL [18,19] 19 (.agg #[vS w,vI 0,vI 0,vB false,vB false])<|aA bp #[vS w,vI 0,vI 0,vB false,vB false] 117 kr kr ?_;intro l dX H dD a4 d4;refine p1 4 (bp l)<|bF<|p1 21 (bp l)<|af b ?_;intro c dE b;have bs:=(ab N H);have x:=bg G bs nb;have O:n.heap.size≤l:=bT a4 (bg G N nb).size;refine aq kr rfl kr enters56 (regex_parser_alternatives_ok ak l (w,0,0,false,false) dX j (fun k hk=>⟨(aR f x.size) k hk,fun e=>(fun (hx:j l)=>nl O (f _ hx)) (e ▸ hk)⟩) dD (c4.below x f) (c5.below x f) c dE) ?_;rintro ec c9 ⟨I,o,p,y,q,r,z,rfl,bA,C,b0,D,dF⟩;have W:∀ k,y k→k<c9.heap.size:=fun k hk=>(C k hk).1;have dG:∀ k,y k→j k∨n.heap.size≤k:=fun k hk=>(C k hk).2.elim (fun h=>(fun k (hk:j k)=>Or.inl hk) k h) (fun h=>.inr (Nat.le_trans x.size h));have X:∀ k,z k→k<c9.heap.size:=fun k hk=>(D k hk).1;have dH:∀ k,z k→j k∨n.heap.size≤k:=fun k hk=>(D k hk).2.elim (fun h=>(fun k (hk:j k)=>Or.inl hk) k h) (fun h=>.inr (Nat.le_trans x.size h));have Y:=(ab bn bs);have K:=cl ((ci U) _ rfl) ((bi a3) _ rfl);have P:=ds.grown N nb;have Z:=cl ((ci P) _ rfl) ((bi a4) _ rfl);have b2:=cS K Z;refine aB 25 0 (.agg (bj c.1 o p q r)) (bj c.1 o p q r) ((U.grown Y nb).grown I (ai (ng b2))) kr kr kr ?_;intro dY i b3 d5;refine co<|aF<|aI<|pL [24,25,26] 26 (bp l)<|bQ [(2,bp g),(3,bp B),(4,bp l),(26,bp l)] ?_;have E:=dF.grown i (ai (Nat.ne_of_lt b2));refine bk 9 E 0 rfl<|pL [23,28] 23 (vB (!(c.2.1.toList==(bb []).toList)))<|aa<|bw b (fun dI b=>?_) (fun dI b=>?_)
   ·cases b
   ·refine aI<|pL [32,33,34] 34 (pt l 3)<|bk 4 E 3 rfl<|p1 31 (vB c.2.2.2.2.1)<|aa<|bw b (fun dJ b=>?_) (fun dJ b=>?_)
    ·cases b
    ·refine aI<|af b ?_;intro dZ h1 b
     refine aO (J:=fun a A=>Bl n A∧Sz dY A∧ba A g 25 (bj c.1 o p q r)∧ba A B 31 #[vI 0,vI 0]∧ba A l 117 (cI c.2)∧Rd bS A y o p c.1.2.2.2.2.2.1∧Rd pcE A z q r c.1.2.2.2.2.2.2∧a.defers=[{ target:=.fn (.func 55) #[bp g,bp B],args:=#[]}]∧a.tmps.size=69∧Ok [(2,bp g),(3,bp B),(4,bp l),(38,vB dZ)] a.tmps) ?_ ?_
     ·refine pL [39,40,41] 41 (pt l 1)<|bk 3 E 1 rfl<|pL [43,44] 44 (vB (decide (c.2.2.1>60)))<|cm 44 h1 (fun dK h1=>?_) (fun dK h1=>?_)
      ·refine pL [38,45,46,47,48,49,50] 38 (vB true)<|aa ?_;obtain rfl:=sj h1;refine ac fun a hd hs al=>?_;have Q:n.heap.size≤g:=bT V T.size;have b5:=U.grown Y nb;have dL:¬ y g:=fun h=>((C _ h).2.elim (fun h=>((fun (hx:j g)=>nl Q (f _ hx))) h) (fun h=>nl h (b5.lt)));have dM:¬ z g:=fun h=>((D _ h).2.elim (fun h=>((fun (hx:j g)=>nl Q (f _ hx))) h) (fun h=>nl h (b5.lt)));exact ⟨(bg (bg x I (aQ O)) i (aQ Q)),bM,b3,(((P.grown H nb).grown I (ai (ng Z))).grown i (ai (Nat.ne_of_lt K))),E,(bA.grown i W (ai dL)),(b0.grown i X (ai dM)),hd,hs,aU al⟩
      ·refine pL [45,46,47] 47 (pt l 2)<|bk 3 E 2 rfl<|pL [38,49,50] 38 (vB (decide (c.2.2.2.1>9)))<|aa ?_;obtain rfl:=sj h1;refine ac fun a hd hs al=>?_;have R:n.heap.size≤g:=bT V T.size;have b6:=U.grown Y nb;have dN:¬ y g:=fun h=>((C _ h).2.elim (fun h=>((fun (hx:j g)=>nl R (f _ hx))) h) (fun h=>nl h (b6.lt)));have dO:¬ z g:=fun h=>((D _ h).2.elim (fun h=>((fun (hx:j g)=>nl R (f _ hx))) h) (fun h=>nl h (b6.lt)));exact ⟨(bg (bg x I (aQ O)) i (aQ R)),bM,b3,(((P.grown H nb).grown I (ai (ng Z))).grown i (ai (Nat.ne_of_lt K))),E,(bA.grown i W (ai dN)),(b0.grown i X (ai dO)),hd,hs,aU al⟩
     ·rintro a A ⟨ah,F,ca,dP,dQ,cb,cc,hd,hs,al⟩;refine aM ?_ hd hs al;refine bw b (fun dR b=>?_) (fun dR b=>?_)
      ·cases b
      ·refine aI<|pL [54,55,56] 56 (pt l 4)<|bk 4 dQ 4 rfl<|p1 53 (vB c.2.2.2.2.2)<|aa<|bw b (fun dS b=>?_) (fun dS b=>?_)
       ·cases b
       ·refine aI<|dd 25 g (bj c.1 o p q r) (bU ca)<|af b ?_;intro ch dT b;have an:=aR W i.size;have S:=aR X i.size;refine aq kr rfl kr enters58 (regex_text_ok ak o p q r c.1 A (fun k=>y k∨z k∨j k) (fun k hk=>(hk).elim (fun h=>(aR an F) k h) (fun h=>(h).elim (fun h=>(aR S F) k h) (fun h=>(aR f ah.size) k h))) (cb.wide (fun k hk=>(.inl hk))) (cc.wide (fun k hk=>(.inr (.inl hk)))) ((dV.below ah f).wide (fun k hk=>(.inr (.inr hk)))) ch dT) ?_;rintro d6 d7 ⟨m,rfl⟩;refine pL [60,63,64] 60 (vB (decide ((bz ch)>200)))<|af b ?_;intro dU cs b;refine b9 (s:=60) (v:=(vB (decide ((bz ch)>200)))) (v':=(vB dU)) kr (congrArg (Value.bool) (sj cs))<|aa<|bw b (fun cv b=>?_) (fun cv b=>?_)
        ·cases b
        ·refine az<|bt<|aJ<|av ?_
         have a5:=ca.grown m nb;refine dd 25 g (bj c.1 o p q r) (bU a5)<|p1 68 (.agg #[vI 0,vI 0])<|aB 25 0 (.agg (bj c.1 o p q r)) (bj c.1 o p q r) a5 kr kr kr ?_;intro d8 t cw d0;refine aB 31 0 (.agg #[vI 0,vI 0]) #[vI 0,vI 0] ((dP.grown m nb).grown t (ai (Nat.ne_of_lt K))) kr kr kr ?_;intro ck u cx d1;refine aa<|am ?_
         obtain rfl:=sj b;refine au (gv_left (invoke55 _) (inert55 _ _)<|gv_doneM [.agg (bj c.1 o p q r),.agg #[vI 0,vI 0]] rfl ⟨⟨⟨g,0,none⟩,kr,run_loadVar_row ck g _ 25 _ _ _ (cw.grown u (ai (ng K))) bX rfl kr⟩,⟨⟨B,0,none⟩,kr,run_loadVar_row ck B _ 31 _ _ _ cx aE rfl kr⟩,trivial⟩ ?_);have L:n.heap.size≤g:=bT V T.size;have M:n.heap.size≤B:=bT a3 (bg T c7 nb).size;have a6:=U.grown (ab (ab bn N) H) nb;have c0:¬ y g:=fun h=>((C _ h).2.elim (fun h=>((fun (hx:j g)=>nl L (f _ hx))) h) (fun h=>nl h (a6.lt)));have a7:=aR (aR an F) m.size;have a8:=P.grown H nb;have c1:¬ y B:=fun h=>((C _ h).2.elim (fun h=>((fun (hx:j B)=>nl M (f _ hx))) h) (fun h=>nl h (a8.lt)));have a9:=aR a7 t.size;have c2:¬ z g:=fun h=>((D _ h).2.elim (fun h=>((fun (hx:j g)=>nl L (f _ hx))) h) (fun h=>nl h (a6.lt)));have bd:=aR (aR S F) m.size;have c3:¬ z B:=fun h=>((D _ h).2.elim (fun h=>((fun (hx:j B)=>nl M (f _ hx))) h) (fun h=>nl h (a8.lt)));have be:=aR bd t.size;exact ⟨ad (bg (bg (bg ah m nb) t (aQ L)) u (aQ M)),o,p,y,q,r,z,rfl,(((cb.grown m (aR an F) nb).grown t a7 (ai c0)).grown u a9 (ai c1)),sxq (aR a9 u.size) dG,(((cc.grown m (aR S F) nb).grown t bd (ai c2)).grown u be (ai c3)),sxq (aR be u.size) dH⟩

theorem regex_flat_ok (ak:Nat) (ae:bm) (ag:Nat) (g:bm) (h:Nat) (c:cB) (k:World) (w:Nat→Prop) (b7:Lw w k) (ay:Rd bS k w ae ag c.2.2.2.2.2.1) (a7:Rd pcE k w g h c.2.2.2.2.2.2) (r0:Bool) (m:regex_flat ak c=some r0):
    Cs 114 [.agg (bj c ae ag g h)] k (G1 k [vB r0]):=by
 have p:Bl k k:=Below.refl _ _;unfold regex_flat at m;refine aH Tryz.func114 rfl Tryz.ntmps114 kr ?_;refine bQ [(0,.agg (bj c ae ag g h))]<|aI<|aA bp (bj c ae ag g h) 25 kr kr ?_
 intro f w2 q j b3 ca;refine pN 1 [2] []<|bF<|af m ?_;intro x b m
 refine aO (J:=fun a r=>Bl k r∧Sz w2 r∧ba r f 25 (bj c ae ag g h)∧Qa a 76 [(1,bp f),(3,vB x)]) ?_ ?_
 ·refine p1 5 (bp f)<|bk 3 j 0 rfl<|pL [7,8] 8 (vB (c.1==1))<|cm 8 b (fun a9 b=>?_) (fun a9 b=>?_)
  ·refine pL [3,9,10,11,12,13,14,15,16,17,18,19,20,21,22] 3 (vB true)<|aa ?_;obtain rfl:=sj b;refine ac fun a hd hs al=>?_;exact ⟨(bg p q nb),bM,j,hd,hs,aU al⟩
  ·refine p1 9 (bp f)<|bk 3 j 0 rfl<|pL [11,12,13] 13 (vB (c.1==7))<|cm 13 b (fun y b=>?_) (fun y b=>?_)
   ·refine pL [3,14,15,16,17,18,19,20,21,22] 3 (vB true)<|aa ?_;obtain rfl:=sj b;refine ac fun a hd hs al=>?_;exact ⟨(bg p q nb),bM,j,hd,hs,aU al⟩
   ·refine p1 14 (bp f)<|bk 3 j 0 rfl<|pL [16,17,18] 18 (vB (c.1==10))<|cm 18 b (fun z b=>?_) (fun z b=>?_)
    ·refine pL [3,19,20,21,22] 3 (vB true)<|aa ?_;obtain rfl:=sj b;refine ac fun a hd hs al=>?_;exact ⟨(bg p q nb),bM,j,hd,hs,aU al⟩
    ·refine p1 19 (bp f)<|bk 3 j 0 rfl<|pL [3,21,22] 3 (vB (c.1==12))<|bQ [(1,bp f),(3,vB (c.1==12))]<|aa ?_;obtain rfl:=sj b;refine ac fun a hd hs al=>?_;exact ⟨(bg p q nb),bM,j,hd,hs,aU al⟩
 ·rintro a r ⟨o,b4,i,hd,hs,al⟩;refine aM ?_ hd hs al;refine aI<|af m ?_;intro l b m
  refine aO (J:=fun a n=>Bl k n∧Sz r n∧ba n f 25 (bj c ae ag g h)∧Qa a 76 [(1,bp f),(3,vB x),(4,vB l)]) ?_ ?_
  ·refine p1 23 (bp f)<|bk 3 i 0 rfl<|pL [25,26] 26 (vB (c.1==3))<|cm 26 b (fun A b=>?_) (fun A b=>?_)
   ·refine pL [4,27,28,29,30,31,32,33,34,35] 4 (vB true)<|aa ?_;obtain rfl:=sj b;exact ac fun a hd hs al=>⟨o,bM,i,hd,hs,aU al⟩
   ·refine p1 27 (bp f)<|bk 3 i 0 rfl<|pL [29,30,31] 31 (vB (c.1==6))<|cm 31 b (fun B b=>?_) (fun B b=>?_)
    ·refine pL [4,32,33,34,35] 4 (vB true)<|aa ?_;obtain rfl:=sj b;exact ac fun a hd hs al=>⟨o,bM,i,hd,hs,aU al⟩
    ·refine p1 32 (bp f)<|bk 3 i 0 rfl<|pL [4,34,35] 4 (vB (c.1==11))<|aa ?_;obtain rfl:=sj b;exact ac fun a hd hs al=>⟨o,bM,i,hd,hs,aU al⟩
  ·rintro a n ⟨e,b5,d,hd,hs,al⟩;refine aM ?_ hd hs al;refine aI<|af m ?_;intro u b m
   refine aO (J:=fun a t=>Bl k t∧Sz n t∧Qa a 76 [(2,vB u)]) ?_ ?_
   ·refine pL [36,37] 37 (vB x)<|cm 37 b (fun C b=>?_) (fun C b=>?_)
    ·refine pN 6 [38,39,40,41,42,43] [(42,vB true),(43,bp f)]<|bk 3 d 0 rfl<|pL [45,46] 46 (vB (c.1==10))<|cm 46 b (fun D b=>?_) (fun D b=>?_)
     ·refine pN 13 [47,48,49,50,51,52,53,54,55,56,57,58,59] [(57,vB true),(59,vB l)]<|cm 59 b (fun E b=>?_) (fun E b=>?_)
      ·refine pN 7 [60,61,62,63,64,65,66] [(65,vB true),(66,bp f)]<|bk 3 d 0 rfl<|pL [68,69] 69 (vB (c.1==3))<|cm 69 b (fun F b=>?_) (fun F b=>?_)
       ·refine pL [2,70,71,72,73,74,75] 2 (vB true)<|aa ?_;obtain rfl:=sj b;exact ac fun a hd hs al=>⟨e,bM,hd,hs,aU al⟩
       ·refine p1 70 (pt f 5)<|bk 22 d 5 rfl<|pL [2,72,73,74,75] 2 (vB ((lz c.2.2.2.2.2.1)==0))<|af b ?_;intro bd G b;refine b9 (s:=2) (v:=(vB ((lz c.2.2.2.2.2.1)==0))) (v':=(vB bd)) kr (congrArg (Value.bool) (sj G))<|aa ?_;obtain rfl:=sj b;exact ac fun a hd hs al=>⟨e,bM,hd,hs,aU al⟩
      ·refine p1 60 (pt f 3)<|bk 4 d 3 rfl<|pL [62,63,64,65] 65 (vB (!c.2.2.2.1))<|cm 65 b (fun H b=>?_) (fun H b=>?_)
       ·refine p1 66 (bp f)<|bk 3 d 0 rfl<|pL [68,69] 69 (vB (c.1==3))<|cm 69 b (fun I b=>?_) (fun I b=>?_)
        ·refine pL [2,70,71,72,73,74,75] 2 (vB true)<|aa ?_;obtain rfl:=sj b;exact ac fun a hd hs al=>⟨e,bM,hd,hs,aU al⟩
        ·refine p1 70 (pt f 5)<|bk 22 d 5 rfl<|pL [2,72,73,74,75] 2 (vB ((lz c.2.2.2.2.2.1)==0))<|bQ [(2,vB ((lz c.2.2.2.2.2.1)==0))]<|af b ?_;intro be K b;refine b9 (s:=2) (v:=(vB ((lz c.2.2.2.2.2.1)==0))) (v':=(vB be)) kr (congrArg (Value.bool) (sj K))<|aa ?_;obtain rfl:=sj b;exact ac fun a hd hs al=>⟨e,bM,hd,hs,aU al⟩
       ·refine pL [2,66,67,68,69,70,71,72,73,74,75] 2 (vB false)<|aa ?_;obtain rfl:=sj b;exact ac fun a hd hs al=>⟨e,bM,hd,hs,aU al⟩
     ·refine p1 47 (pt f 2)<|bk 3 d 2 rfl<|pL [49,50] 50 (vB (c.2.2.1==0))<|cm 50 b (fun L b=>?_) (fun L b=>?_)
      ·refine p1 51 (pt f 4)<|bk 4 d 4 rfl<|pL [53,54,55,56,57] 57 (vB (!c.2.2.2.2.1))<|cm 57 b (fun M b=>?_) (fun M b=>?_)
       ·refine pL [58,59] 59 (vB l)<|cm 59 b (fun N b=>?_) (fun N b=>?_)
        ·refine pN 7 [60,61,62,63,64,65,66] [(65,vB true),(66,bp f)]<|bk 3 d 0 rfl<|pL [68,69] 69 (vB (c.1==3))<|bQ [(1,bp f),(65,vB true),(69,vB (c.1==3))]<|cm 69 b (fun O b=>?_) (fun O b=>?_)
         ·refine pL [2,70,71,72,73,74,75] 2 (vB true)<|aa ?_;obtain rfl:=sj b;exact ac fun a hd hs al=>⟨e,bM,hd,hs,aU al⟩
         ·refine p1 70 (pt f 5)<|bk 22 d 5 rfl<|pL [2,72,73,74,75] 2 (vB ((lz c.2.2.2.2.2.1)==0))<|af b ?_;intro bl P b;refine b9 (s:=2) (v:=(vB ((lz c.2.2.2.2.2.1)==0))) (v':=(vB bl)) kr (congrArg (Value.bool) (sj P))<|aa ?_;obtain rfl:=sj b;exact ac fun a hd hs al=>⟨e,bM,hd,hs,aU al⟩
        ·refine p1 60 (pt f 3)<|bk 4 d 3 rfl<|pL [62,63,64,65] 65 (vB (!c.2.2.2.1))<|bQ [(1,bp f),(65,vB (!c.2.2.2.1))]<|cm 65 b (fun Q b=>?_) (fun Q b=>?_)
         ·refine p1 66 (bp f)<|bk 3 d 0 rfl<|pL [68,69] 69 (vB (c.1==3))<|cm 69 b (fun R b=>?_) (fun R b=>?_)
          ·refine pL [2,70,71,72,73,74,75] 2 (vB true)<|aa ?_;obtain rfl:=sj b;exact ac fun a hd hs al=>⟨e,bM,hd,hs,aU al⟩
          ·refine p1 70 (pt f 5)<|bk 22 d 5 rfl<|pL [2,72,73,74,75] 2 (vB ((lz c.2.2.2.2.2.1)==0))<|af b ?_;intro bn S b;refine b9 (s:=2) (v:=(vB ((lz c.2.2.2.2.2.1)==0))) (v':=(vB bn)) kr (congrArg (Value.bool) (sj S))<|aa ?_;obtain rfl:=sj b;exact ac fun a hd hs al=>⟨e,bM,hd,hs,aU al⟩
         ·refine pL [2,66,67,68,69,70,71,72,73,74,75] 2 (vB false)<|aa ?_;obtain rfl:=sj b;exact ac fun a hd hs al=>⟨e,bM,hd,hs,aU al⟩
       ·refine pL [2,58,59,60,61,62,63,64,65,66,67,68,69,70,71,72,73,74,75] 2 (vB false)<|aa ?_;obtain rfl:=sj b;exact ac fun a hd hs al=>⟨e,bM,hd,hs,aU al⟩
      ·refine pL [2,51,52,53,54,55,56,57,58,59,60,61,62,63,64,65,66,67,68,69,70,71,72,73,74,75] 2 (vB false)<|aa ?_;obtain rfl:=sj b;exact ac fun a hd hs al=>⟨e,bM,hd,hs,aU al⟩
    ·refine p1 38 (pt f 1)<|bk 3 d 1 rfl<|pL [40,41,42] 42 (vB (c.2.1==0))<|cm 42 b (fun T b=>?_) (fun T b=>?_)
     ·refine p1 43 (bp f)<|bk 3 d 0 rfl<|pL [45,46] 46 (vB (c.1==10))<|cm 46 b (fun U b=>?_) (fun U b=>?_)
      ·refine pN 13 [47,48,49,50,51,52,53,54,55,56,57,58,59] [(57,vB true),(59,vB l)]<|cm 59 b (fun V b=>?_) (fun V b=>?_)
       ·refine pN 7 [60,61,62,63,64,65,66] [(65,vB true),(66,bp f)]<|bk 3 d 0 rfl<|pL [68,69] 69 (vB (c.1==3))<|cm 69 b (fun W b=>?_) (fun W b=>?_)
        ·refine pL [2,70,71,72,73,74,75] 2 (vB true)<|aa ?_;obtain rfl:=sj b;exact ac fun a hd hs al=>⟨e,bM,hd,hs,aU al⟩
        ·refine p1 70 (pt f 5)<|bk 22 d 5 rfl<|pL [2,72,73,74,75] 2 (vB ((lz c.2.2.2.2.2.1)==0))<|bQ [(2,vB ((lz c.2.2.2.2.2.1)==0))]<|af b ?_;intro bs X b;refine b9 (s:=2) (v:=(vB ((lz c.2.2.2.2.2.1)==0))) (v':=(vB bs)) kr (congrArg (Value.bool) (sj X))<|aa ?_;obtain rfl:=sj b;exact ac fun a hd hs al=>⟨e,bM,hd,hs,aU al⟩
       ·refine p1 60 (pt f 3)<|bk 4 d 3 rfl<|pL [62,63,64,65] 65 (vB (!c.2.2.2.1))<|cm 65 b (fun Y b=>?_) (fun Y b=>?_)
        ·refine p1 66 (bp f)<|bk 3 d 0 rfl<|pL [68,69] 69 (vB (c.1==3))<|bQ [(1,bp f),(65,vB true),(69,vB (c.1==3))]<|cm 69 b (fun Z b=>?_) (fun Z b=>?_)
         ·refine pL [2,70,71,72,73,74,75] 2 (vB true)<|aa ?_;obtain rfl:=sj b;exact ac fun a hd hs al=>⟨e,bM,hd,hs,aU al⟩
         ·refine p1 70 (pt f 5)<|bk 22 d 5 rfl<|pL [2,72,73,74,75] 2 (vB ((lz c.2.2.2.2.2.1)==0))<|af b ?_;intro bA ah b;refine b9 (s:=2) (v:=(vB ((lz c.2.2.2.2.2.1)==0))) (v':=(vB bA)) kr (congrArg (Value.bool) (sj ah))<|aa ?_;obtain rfl:=sj b;exact ac fun a hd hs al=>⟨e,bM,hd,hs,aU al⟩
        ·refine pL [2,66,67,68,69,70,71,72,73,74,75] 2 (vB false)<|aa ?_;obtain rfl:=sj b;exact ac fun a hd hs al=>⟨e,bM,hd,hs,aU al⟩
      ·refine p1 47 (pt f 2)<|bk 3 d 2 rfl<|pL [49,50] 50 (vB (c.2.2.1==0))<|cm 50 b (fun an b=>?_) (fun an b=>?_)
       ·refine p1 51 (pt f 4)<|bk 4 d 4 rfl<|pL [53,54,55,56,57] 57 (vB (!c.2.2.2.2.1))<|cm 57 b (fun ax b=>?_) (fun ax b=>?_)
        ·refine pL [58,59] 59 (vB l)<|bQ [(1,bp f),(57,vB true),(59,vB l)]<|cm 59 b (fun a0 b=>?_) (fun a0 b=>?_)
         ·refine pN 7 [60,61,62,63,64,65,66] [(65,vB true),(66,bp f)]<|bk 3 d 0 rfl<|pL [68,69] 69 (vB (c.1==3))<|cm 69 b (fun a1 b=>?_) (fun a1 b=>?_)
          ·refine pL [2,70,71,72,73,74,75] 2 (vB true)<|aa ?_;obtain rfl:=sj b;exact ac fun a hd hs al=>⟨e,bM,hd,hs,aU al⟩
          ·refine p1 70 (pt f 5)<|bk 22 d 5 rfl<|pL [2,72,73,74,75] 2 (vB ((lz c.2.2.2.2.2.1)==0))<|af b ?_;intro bE a2 b;refine b9 (s:=2) (v:=(vB ((lz c.2.2.2.2.2.1)==0))) (v':=(vB bE)) kr (congrArg (Value.bool) (sj a2))<|aa ?_;obtain rfl:=sj b;exact ac fun a hd hs al=>⟨e,bM,hd,hs,aU al⟩
         ·refine p1 60 (pt f 3)<|bk 4 d 3 rfl<|pL [62,63,64,65] 65 (vB (!c.2.2.2.1))<|cm 65 b (fun a3 b=>?_) (fun a3 b=>?_)
          ·refine p1 66 (bp f)<|bk 3 d 0 rfl<|pL [68,69] 69 (vB (c.1==3))<|cm 69 b (fun a4 b=>?_) (fun a4 b=>?_)
           ·refine pL [2,70,71,72,73,74,75] 2 (vB true)<|aa ?_;obtain rfl:=sj b;exact ac fun a hd hs al=>⟨e,bM,hd,hs,aU al⟩
           ·refine p1 70 (pt f 5)<|bk 22 d 5 rfl<|pL [2,72,73,74,75] 2 (vB ((lz c.2.2.2.2.2.1)==0))<|af b ?_;intro b0 a5 b;refine b9 (s:=2) (v:=(vB ((lz c.2.2.2.2.2.1)==0))) (v':=(vB b0)) kr (congrArg (Value.bool) (sj a5))<|aa ?_;obtain rfl:=sj b;exact ac fun a hd hs al=>⟨e,bM,hd,hs,aU al⟩
          ·refine pL [2,66,67,68,69,70,71,72,73,74,75] 2 (vB false)<|aa ?_;obtain rfl:=sj b;exact ac fun a hd hs al=>⟨e,bM,hd,hs,aU al⟩
        ·refine pL [2,58,59,60,61,62,63,64,65,66,67,68,69,70,71,72,73,74,75] 2 (vB false)<|bQ [(2,vB false)]<|aa ?_;obtain rfl:=sj b;exact ac fun a hd hs al=>⟨e,bM,hd,hs,aU al⟩
       ·refine pL [2,51,52,53,54,55,56,57,58,59,60,61,62,63,64,65,66,67,68,69,70,71,72,73,74,75] 2 (vB false)<|aa ?_;obtain rfl:=sj b;exact ac fun a hd hs al=>⟨e,bM,hd,hs,aU al⟩
     ·refine pL [2,43,44,45,46,47,48,49,50,51,52,53,54,55,56,57,58,59,60,61,62,63,64,65,66,67,68,69,70,71,72,73,74,75] 2 (vB false)<|aa ?_;obtain rfl:=sj b;exact ac fun a hd hs al=>⟨e,bM,hd,hs,aU al⟩
   ·rintro a t ⟨a6,b6,hd,hs,al⟩;refine aM ?_ hd hs al;refine am ?_;obtain rfl:=sj m;refine au (ao [vB u] rfl ⟨kr,trivial⟩ ?_);exact ⟨ad a6,rfl⟩

theorem utf8_ValidRune_ok (ak:Nat) (b:Int) (d:World) (m:Bool) (c:utf8_ValidRune ak b=some m):
    Cs 162 [vR b] d (G1 d [vB m]):=by
 have f:Bl d d:=Below.refl _ _;unfold utf8_ValidRune at c;refine aH Tryz.func162 rfl Tryz.ntmps162 kr ?_;refine bQ [(0,vR b)]<|aI<|pN 1 [2] []<|co<|aF<|aI<|aO (J:=fun a n=>d=n∧Qa a 17 [(0,vR b),(3,vB ((decide (0≤b))&&(decide (b<55296))))]) ?_ ?_
 ·refine pL [4,5,6] 6 (vB (decide (0≤b)))<|bo (s:=6) (g:=(decide (0≤b))) kr (fun h=>?_) (fun h=>?_)
  ·refine pL [3,7,8,9] 3 (vB (decide (b<55296)))<|aa<|bc [0,3] (σ':=[(0,vR b),(3,vB (decide (b<55296)))]) kr<|ac fun a hd hs al=>⟨rfl,hd,hs,?_⟩;obtain ⟨k,l,_⟩:=al;exact ⟨k,(by rw[h];exact l),trivial⟩
  ·refine pL [3,7,8,9] 3 (vB false)<|aa<|bc [0,3] (σ':=[(0,vR b),(3,vB false)]) kr<|ac fun a hd hs al=>⟨rfl,hd,hs,?_⟩;obtain ⟨k,l,_⟩:=al;exact ⟨k,(by rw[h];exact l),trivial⟩
 ·rintro a n ⟨e,hd,hs,al⟩;subst e;refine aM ?_ hd hs al;refine bw c (fun o c=>?_) (fun o c=>?_)
  ·refine aI<|p1 2 (vB true)<|aa<|am ?_
   obtain rfl:=sj c;refine au (ao [vB true] rfl ⟨kr,trivial⟩ ?_);exact ⟨ad f,rfl⟩
  ·refine aI<|aO (J:=fun a p=>d=p∧Qa a 17 [(10,vB ((decide (57343<b))&&(decide (b≤1114111))))]) ?_ ?_
   ·refine pL [11,12,13] 13 (vB (decide (57343<b)))<|bo (s:=13) (g:=(decide (57343<b))) kr (fun i=>?_) (fun i=>?_)
    ·refine pL [10,14,15,16] 10 (vB (decide (b≤1114111)))<|aa<|bc [10] (σ':=[(10,vB (decide (b≤1114111)))]) kr<|ac fun a hd hs al=>⟨rfl,hd,hs,?_⟩;obtain ⟨j,_⟩:=al;exact ⟨(by rw[i];exact j),trivial⟩
    ·refine pL [10,14,15,16] 10 (vB false)<|aa<|bc [10] (σ':=[(10,vB false)]) kr<|ac fun a hd hs al=>⟨rfl,hd,hs,?_⟩;obtain ⟨j,_⟩:=al;exact ⟨(by rw[i];exact j),trivial⟩
   ·rintro a p ⟨e,hd,hs,al⟩;subst e;refine aM ?_ hd hs al;refine bw c (fun q c=>?_) (fun q c=>?_)
    ·refine aI<|p1 2 (vB true)<|aa<|am ?_
     obtain rfl:=sj c;refine au (ao [vB true] rfl ⟨kr,trivial⟩ ?_);exact ⟨ad f,rfl⟩
    ·refine az<|bt<|aI<|p1 2 (vB false)<|aa<|am ?_
     obtain rfl:=sj c;refine au (ao [vB false] rfl ⟨kr,trivial⟩ ?_);exact ⟨ad f,rfl⟩

theorem regex_scalar_ok (ak:Nat) (b:Int) (d:World) (j:Bool) (f:regex_scalar ak b=some j):
    Cs 137 [vI b] d (G1 d [vB j]):=by
 have e:Bl d d:=Below.refl _ _;unfold regex_scalar at f;refine aH Tryz.func137 rfl Tryz.ntmps137 kr ?_;refine bQ [(0,vI b)]<|aI<|pN 1 [2] []<|bF<|af f ?_;intro k c f
 refine aO (J:=fun a h=>Bl d h∧Sz d h∧Qa a 14 [(2,vB k)]) ?_ ?_
 ·refine pL [3,4,5] 5 (vB (decide (b≥0)))<|cm 5 c (fun l c=>?_) (fun l c=>?_)
  ·refine pL [6,7,8,9] 9 (vB (decide (b≤1114111)))<|cm 9 c (fun m c=>?_) (fun m c=>?_)
   ·refine pL [10,11] 11 (vR (wR (b)))<|af c ?_;intro n o c;refine aq kr rfl kr enters162 (utf8_ValidRune_ok ak (wR (b)) d n o) ?_;rintro q r ⟨g,rfl⟩;refine pL [2,13] 2 (vB n)<|aa ?_;obtain rfl:=sj c;refine ac fun a hd hs al=>?_;exact ⟨(bg e g nb),g.size,hd,hs,aU al⟩
   ·refine pL [2,10,11,12,13] 2 (vB false)<|aa ?_;obtain rfl:=sj c;exact ac fun a hd hs al=>⟨e,bM,hd,hs,aU al⟩
  ·refine pL [2,6,7,8,9,10,11,12,13] 2 (vB false)<|aa ?_;obtain rfl:=sj c;exact ac fun a hd hs al=>⟨e,bM,hd,hs,aU al⟩
 ·rintro a h ⟨i,p,hd,hs,al⟩;refine aM ?_ hd hs al;refine am ?_;obtain rfl:=sj f;refine au (ao [vB k] rfl ⟨kr,trivial⟩ ?_);exact ⟨ad i,rfl⟩

theorem regex_ordered_ok (ak:Nat) (ae:bm) (ag:Nat) (b:List bC) (m:World) (X0:Nat→Prop) (x:Lw X0 m) (ay:Rd bS m X0 ae ag b) (r0:Bool) (u:regex_ordered ak b=some r0):
    Cs 138 [vL ae b ag] m (G1 m [vB r0]):=by
 have bd:Bl m m:=Below.refl _ _;unfold regex_ordered at u;refine aH Tryz.func138 rfl Tryz.ntmps138 kr ?_;refine bQ [(0,vL ae b ag)]<|aI<|pN 1 [2] []<|co<|aI<|pN 3 [5,6,7] [(5,vL ae b ag),(6,vI (lz b)),(7,vI 0)]<|aa<|af u ?_;intro j1 z u
 refine aC (J:=fun a V=>∃ s2:Unit,j1= .inl s2∧Bl m V∧Sz m V∧Qa a 49 [(0,vL ae b ag)]) ?_ ?_
 ·refine aF<|bO (A:=fun (l:Int) a L=>Bl m L∧Sz m L∧Qa a 49 [(0,vL ae b ag),(5,vL ae b ag),(6,vI (lz b)),(7,vI l)]) z ?_ ?_
  ·intro a hd hs al;exact ⟨bd,bM,hd,hs,aU al⟩
  ·rintro l r2 p R a L ⟨h,S,hd,hs,al⟩;refine aM ?_ hd hs al;refine aI<|p1 8 (vB (decide (l<(lz b))))<|co<|bw p (fun bl p=>?_) (fun bl p=>?_)
   ·refine az<|aJ<|aF<|aI<|p1 9 (vI l)<|af p ?_;intro q B p;refine cX .i64 2 (ay.below h x) B aS ?_;obtain ⟨_,⟨_,_,rfl,rfl,rfl⟩,W⟩:=ay.cellsK B;refine laq 37 (aP ae ((l:Int).toNat*2)) (bP q) (bU (W L (fun k hk=>h.block k (x k hk)))) ?_;refine aA bp #[vI 0,vI 0] 37 kr kr ?_;intro c cv r X n b0;refine p1 3 (vI l)<|aB 37 0 (.agg (bP q)) (bP q) X kr kr kr ?_;intro bn t Y b1;refine co<|af p ?_;intro bs d p
    refine aC (J:=fun a C=>Bl m C∧Sz bn C∧Qa a 49 [(0,vL ae b ag),(5,vL ae b ag),(6,vI (lz b)),(7,vI l),(44,vB bs)]) ?_ ?_
    ·refine bL kr ?_;intro D f;refine aV [0] (bA 33 [0]) 32 kr kr<|p1 12 (bp c)<|aa<|aw<|aN (dc D []) [1] [(1,some true)] (bA 33 [0,1]) 31 kr kr (aD _ _) ?_;have b2:=aD D [];have E:=Y.grown f nb;refine cu 3 ⟨c,0,none⟩ (vI q.1) (bJ fun w' hC'=>((hC'.box E aY).cell 0 rfl)) ?_;refine aa<|aw<|aN (fun _=>True) [2] [(2,some false)] (bA 33 [0,1,2]) 30 kr kr trivial ?_;refine af d ?_;intro T Z d;refine clq enters137 (regex_scalar_ok ak q.1 D T Z) ?_;rintro cw o ⟨g,rfl⟩;refine ⟨(fun _=>trivial),?_⟩;refine aa<|aw<|aV [3,4,5] (bA 33 [0,1,2,3,4,5]) 27 kr kr<|pL [15,16] 16 (vB (!T))<|cm 16 d (fun ah d=>?_) (fun ah d=>?_)
     ·refine p1 17 undef<|aa<|aw<|aN (dc o []) [6] [(6,some true)] (bA 33 [0,1,2,3,4,5,6]) 26 kr kr (aD _ _) ?_;have b3:=aD o [];refine p1 18 undef<|aa<|aw<|aN (fun _=>True) [7] [(7,some false)] (bA 33 [0,1,2,3,4,5,6,7]) 25 kr kr trivial ?_;refine de trivial 1 [19] [(19,undef)] kr<|bQ [(0,vL ae b ag),(3,vI l),(4,bp c),(5,vL ae b ag),(6,vI (lz b)),(7,vI l),(16,vB true),(19,undef)]<|aa<|aw<|aV [8,9,10,11,13] (bA 33 [0,1,2,3,4,5,6,7,8,9,10,11,13]) 20 kr kr<|pN 5 [20,21,22,23,25] [(22,vB true),(23,undef),(25,undef)]<|aa<|aw<|aN (dc o []) [12,14] [(12,some true),(14,some true)] (bA 33 [0,1,2,3,4,5,6,7,8,9,10,11,12,13,14]) 18 kr kr (aD _ _) ?_;have b4:=aD o [];refine pN 2 [24,26] [(24,undef),(26,undef)]<|aa<|aw<|aV [15,16,17,18,19,20,21,23,24,25,26,27] (bA 33 [0,1,2,3,4,5,6,7,8,9,10,11,12,13,14,15,16,17,18,19,20,21,23,24,25,26,27]) 6 kr kr<|pN 12 [27,28,29,30,31,32,33,35,36,37,38,39] [(29,vB true),(32,undef),(33,undef),(39,undef)]<|aa<|aw<|aN (dc o []) [22,28,29] [(22,some true),(28,some true),(29,some true)] (bA 33 [0,1,2,3,4,5,6,7,8,9,10,11,12,13,14,15,16,17,18,19,20,21,22,23,24,25,26,27,28,29]) 3 kr kr (aD _ _) ?_;have b5:=aD o [];refine pN 3 [34,40,41] [(34,undef),(41,undef)]<|aa<|aw<|aV [30,31,32] (bA 33 [0,1,2,3,4,5,6,7,8,9,10,11,12,13,14,15,16,17,18,19,20,21,22,23,24,25,26,27,28,29,30,31,32]) 0 kr kr<|pL [42,43,44] 44 (vB true)<|aa<|aw<|aX kr ?_;obtain rfl:=sj d;refine ac fun a hd hs al=>?_;have M:m.heap.size≤c:=bT n h.size;exact ⟨(bg (bg (bg h r nb) t (aQ M)) (ab f g) nb),(nt f.size g.size),hd,hs,aU al⟩
     ·refine p1 17 (pt c 1)<|aa<|aw<|aN (dc o []) [6] [(6,some true)] (bA 33 [0,1,2,3,4,5,6]) 26 kr kr (aD _ _) ?_;have b6:=aD o [];have F:=E.grown g nb;refine cu 3 ⟨c,1,none⟩ (vI q.2) (bJ fun w' hC'=>((hC'.box F aY).cell 1 rfl)) ?_;refine aa<|aw<|aN (fun _=>True) [7] [(7,some false)] (bA 33 [0,1,2,3,4,5,6,7]) 25 kr kr trivial ?_;refine af d ?_;intro G an d;refine clq enters137 (regex_scalar_ok ak q.2 o G an) ?_;rintro cx j ⟨i,rfl⟩;refine ⟨(fun _=>trivial),?_⟩;refine aa<|aw<|aV [8,9,10,11,13] (bA 33 [0,1,2,3,4,5,6,7,8,9,10,11,13]) 20 kr kr<|pL [20,21,22] 22 (vB (!G))<|bQ [(0,vL ae b ag),(3,vI l),(4,bp c),(5,vL ae b ag),(6,vI (lz b)),(7,vI l),(22,vB (!G))]<|cm 22 d (fun ax d=>?_) (fun ax d=>?_)
      ·refine pN 2 [23,25] [(23,undef),(25,undef)]<|aa<|aw<|aN (dc j []) [12,14] [(12,some true),(14,some true)] (bA 33 [0,1,2,3,4,5,6,7,8,9,10,11,12,13,14]) 18 kr kr (aD _ _) ?_;have b7:=aD j [];refine pN 2 [24,26] [(24,undef),(26,undef)]<|aa<|aw<|aV [15,16,17,18,19,20,21,23,24,25,26,27] (bA 33 [0,1,2,3,4,5,6,7,8,9,10,11,12,13,14,15,16,17,18,19,20,21,23,24,25,26,27]) 6 kr kr<|pN 12 [27,28,29,30,31,32,33,35,36,37,38,39] [(29,vB true),(32,undef),(33,undef),(39,undef)]<|aa<|aw<|aN (dc j []) [22,28,29] [(22,some true),(28,some true),(29,some true)] (bA 33 [0,1,2,3,4,5,6,7,8,9,10,11,12,13,14,15,16,17,18,19,20,21,22,23,24,25,26,27,28,29]) 3 kr kr (aD _ _) ?_;have ca:=aD j [];refine pN 3 [34,40,41] [(34,undef),(41,undef)]<|aa<|aw<|aV [30,31,32] (bA 33 [0,1,2,3,4,5,6,7,8,9,10,11,12,13,14,15,16,17,18,19,20,21,22,23,24,25,26,27,28,29,30,31,32]) 0 kr kr<|pL [42,43,44] 44 (vB true)<|aa<|aw<|aX kr ?_;obtain rfl:=sj d;refine ac fun a hd hs al=>?_;have N:m.heap.size≤c:=bT n h.size;exact ⟨(bg (bg (bg h r nb) t (aQ N)) (ab (ab f g) i) nb),(nt (nt f.size g.size) i.size),hd,hs,aU al⟩
      ·refine pN 2 [23,25] [(23,bp c),(25,pt c 1)]<|aa<|aw<|aN (dc j []) [12,14] [(12,some true),(14,some true)] (bA 33 [0,1,2,3,4,5,6,7,8,9,10,11,12,13,14]) 18 kr kr (aD _ _) ?_;have cb:=aD j [];have y:=F.grown i nb;refine cu 3 ⟨c,0,none⟩ (vI q.1) (bJ fun w' hC'=>((hC'.box y aY).cell 0 rfl)) ?_;refine cu 3 ⟨c,1,none⟩ (vI q.2) (bJ fun w' hC'=>((hC'.box y aY).cell 1 rfl)) ?_;refine aa<|aw<|aV [15,16,17,18,19,20,21,23,24,25,26,27] (bA 33 [0,1,2,3,4,5,6,7,8,9,10,11,12,13,14,15,16,17,18,19,20,21,23,24,25,26,27]) 6 kr kr<|pL [27,28,29] 29 (vB (decide (q.1>q.2)))<|cm 29 d (fun a0 d=>?_) (fun a0 d=>?_)
       ·refine pN 9 [30,31,32,33,35,36,37,38,39] [(32,undef),(33,undef),(39,undef)]<|aa<|aw<|aN (dc j []) [22,28,29] [(22,some true),(28,some true),(29,some true)] (bA 33 [0,1,2,3,4,5,6,7,8,9,10,11,12,13,14,15,16,17,18,19,20,21,22,23,24,25,26,27,28,29]) 3 kr kr (aD _ _) ?_;have cc:=aD j [];refine pN 3 [34,40,41] [(34,undef),(41,undef)]<|aa<|aw<|aV [30,31,32] (bA 33 [0,1,2,3,4,5,6,7,8,9,10,11,12,13,14,15,16,17,18,19,20,21,22,23,24,25,26,27,28,29,30,31,32]) 0 kr kr<|pL [42,43,44] 44 (vB true)<|aa<|aw<|aX kr ?_;obtain rfl:=sj d;refine ac fun a hd hs al=>?_;have O:m.heap.size≤c:=bT n h.size;exact ⟨(bg (bg (bg h r nb) t (aQ O)) (ab (ab f g) i) nb),(nt (nt f.size g.size) i.size),hd,hs,aU al⟩
       ·refine pL [30,31,32] 32 (vB (decide (l>0)))<|cm 32 d (fun a1 d=>?_) (fun a1 d=>?_)
        ·refine pN 4 [33,35,36,37] [(33,bp c),(35,vL ae b ag),(37,vI (wI (l-1)))]<|af d ?_;intro H I d;have P:m.heap.size≤c:=bT n h.size;have w:=bg (bg (bg h r nb) t (aQ P)) (ab (ab f g) i) nb;refine cX .i64 2 (ay.below w x) I aS<|p1 39 (.pointer (some (Addr.add (aP ae (((wI (l-1)):Int).toNat*2)) 1)))<|aa<|aw<|aN (dc j []) [22,28,29] [(22,some true),(28,some true),(29,some true)] (bA 33 [0,1,2,3,4,5,6,7,8,9,10,11,12,13,14,15,16,17,18,19,20,21,22,23,24,25,26,27,28,29]) 3 kr kr (aD _ _) ?_;have ch:=aD j [];refine cu 3 ⟨c,0,none⟩ (vI q.1) (bJ fun w' hC'=>((hC'.box y aY).cell 0 rfl)) ?_;obtain ⟨_,⟨_,_,rfl,rfl,rfl⟩,a2⟩:=ay.cellsK I;refine cu 3 (Addr.add (aP ae (((wI (l-1)):Int).toNat*2)) 1) (vI H.2) (bJ fun w' hC'=>((a2 w' (fun k hk=>(hC'.2 k ((aR x w.size) k hk) (fun hg=>ct k hg hk)).trans (w.block k (x k hk)))) 1 _ rfl)) ?_;refine p1 41 (vI (wI (H.2+1)))<|aa<|aw<|aV [30,31,32] (bA 33 [0,1,2,3,4,5,6,7,8,9,10,11,12,13,14,15,16,17,18,19,20,21,22,23,24,25,26,27,28,29,30,31,32]) 0 kr kr<|pL [42,43,44] 44 (vB (decide (q.1≤(wI (H.2+1)))))<|aa<|aw<|aX kr ?_;obtain rfl:=sj d;refine ac fun a hd hs al=>?_;exact ⟨w,(nt (nt f.size g.size) i.size),hd,hs,aU al⟩
        ·refine pN 6 [33,35,36,37,38,39] [(33,undef),(39,undef)]<|aa<|aw<|aN (dc j []) [22,28,29] [(22,some true),(28,some true),(29,some true)] (bA 33 [0,1,2,3,4,5,6,7,8,9,10,11,12,13,14,15,16,17,18,19,20,21,22,23,24,25,26,27,28,29]) 3 kr kr (aD _ _) ?_;have ck:=aD j [];refine pN 3 [34,40,41] [(34,undef),(41,undef)]<|aa<|aw<|aV [30,31,32] (bA 33 [0,1,2,3,4,5,6,7,8,9,10,11,12,13,14,15,16,17,18,19,20,21,22,23,24,25,26,27,28,29,30,31,32]) 0 kr kr<|pL [42,43,44] 44 (vB false)<|aa<|aw<|aX kr ?_;obtain rfl:=sj d;refine ac fun a hd hs al=>?_;have Q:m.heap.size≤c:=bT n h.size;exact ⟨(bg (bg (bg h r nb) t (aQ Q)) (ab (ab f g) i) nb),(nt (nt f.size g.size) i.size),hd,hs,aU al⟩
    ·rintro a C ⟨K,a3,hd,hs,al⟩;refine aM ?_ hd hs al;have a4:=(nt (nt (nt S r.size) t.size) a3);refine bw p (fun a5 p=>?_) (fun a5 p=>?_)
     ·refine aI<|p1 2 (vB false)<|aa<|am ?_
      obtain rfl:=sj p;replace z:=congrArg some (R _ rfl);obtain rfl:=sj z;replace u:=br u;obtain rfl:=sj u;refine au (ao [vB false] rfl ⟨kr,trivial⟩ ?_);exact ⟨ad K,rfl⟩
     ·refine az<|bt<|av<|pL [7,45] 7 (vI (wI (l+1)))<|aa ?_;obtain rfl:=sj p;refine ac fun a hd hs al=>?_;exact ⟨(wI (l+1)),rfl,K,a4,hd,hs,aU al⟩
   ·refine bB<|bN rfl ?_
    obtain rfl:=sj p;replace z:=congrArg some (R _ rfl);obtain rfl:=sj z;refine ac fun a hd hs al=>?_;exact ⟨(),rfl,h,S,hd,hs,aU al⟩
 ·rintro a V ⟨s2,e,a6,cs,hd,hs,al⟩;subst e;refine aM ?_ hd hs al;replace u:=bW u;refine aI<|pL [2,46,47,48] 2 (vB (decide ((lz b)>0)))<|af u ?_;intro U a7 u;refine b9 (s:=2) (v:=(vB (decide ((lz b)>0)))) (v':=(vB U)) kr (congrArg (Value.bool) (sj a7))<|aa<|am ?_
  obtain rfl:=sj u;refine au (ao [vB U] rfl ⟨kr,trivial⟩ ?_);exact ⟨ad a6,rfl⟩

theorem slices_Index_sint_int_ok (ak:Nat) (ae:bm) (ag:Nat) (b:List Int) (g:Int) (d:World) (s:Nat→Prop) (l:Lw s d) (ay:Rd (iE .i64) d s ae ag b) (t:Int) (h:slices_Index_sint_int ak b g=some t):
    Cs 161 [vL ae b ag,vI g] d (G1 d [vI t]):=by
 have u:Bl d d:=Below.refl _ _;unfold slices_Index_sint_int at h;refine aH Tryz.func161 rfl Tryz.ntmps161 kr ?_;refine bQ [(0,vL ae b ag),(1,vI g)]<|aI<|pN 1 [4] []<|co<|aI<|pN 3 [6,7,8] [(7,vI (lz b)),(8,vI 0)]<|aa<|af h ?_;intro y j h
 refine aC (J:=fun a o=>∃ v:Unit,y= .inl v∧Bl d o∧Sz d o∧Qa a 19 []) ?_ ?_
 ·refine aF<|bO (A:=fun (f:Int) a p=>Bl d p∧Sz d p∧Qa a 19 [(0,vL ae b ag),(1,vI g),(7,vI (lz b)),(8,vI f)]) j ?_ ?_
  ·intro a hd hs al;exact ⟨u,bM,hd,hs,aU al⟩
  ·rintro f B c m a p ⟨i,n,hd,hs,al⟩;refine aM ?_ hd hs al;refine aI<|p1 9 (vB (decide (f<(lz b))))<|co<|bw c (fun w c=>?_) (fun w c=>?_)
   ·refine az<|aJ<|aF<|aI<|pL [5,10] 5 (vI f)<|bF<|pN 3 [11,12,13] [(11,vI g),(12,vL ae b ag),(13,vI f)]<|af c ?_;intro x k c;refine cX .i64 1 (ay.below i l) k cf<|cu 3 (aP ae ((f:Int).toNat*1)) (vI x) (bU ((ay.below i l).cell k))<|p1 16 (vB (g==x))<|aa<|bw c (fun q c=>?_) (fun q c=>?_)
    ·refine aI<|pL [4,17] 4 (vI f)<|aa<|am ?_
     obtain rfl:=sj c;replace j:=congrArg some (m _ rfl);obtain rfl:=sj j;replace h:=br h;obtain rfl:=sj h;refine au (ao [vI f] rfl ⟨kr,trivial⟩ ?_);exact ⟨ad i,rfl⟩
    ·refine az<|bt<|av<|pL [8,18] 8 (vI (wI (f+1)))<|aa ?_;obtain rfl:=sj c;refine ac fun a hd hs al=>?_;exact ⟨(wI (f+1)),rfl,i,n,hd,hs,aU al⟩
   ·refine bB<|bN rfl ?_
    obtain rfl:=sj c;replace j:=congrArg some (m _ rfl);obtain rfl:=sj j;refine ac fun a hd hs al=>?_;exact ⟨(),rfl,i,n,hd,hs,aU al⟩
 ·rintro a o ⟨v,e,r,z,hd,hs,al⟩;subst e;refine aM ?_ hd hs al;replace h:=bW h;refine aI<|p1 4 (vI (-1))<|aa<|am ?_
  obtain rfl:=sj h;refine au (ao [vI (-1)] rfl ⟨kr,trivial⟩ ?_);exact ⟨ad r,rfl⟩

theorem slices_Contains_sint_int_ok (ak:Nat) (ae:bm) (ag:Nat) (a:List Int) (b:Int) (c:World) (g:Nat→Prop) (f:Lw g c) (ay:Rd (iE .i64) c g ae ag a) (i:Bool) (e:slices_Contains_sint_int ak a b=some i):
    Cs 136 [vL ae a ag,vI b] c (G1 c [vB i]):=by
 have d:Bl c c:=Below.refl _ _;unfold slices_Contains_sint_int at e;refine aH Tryz.func136 rfl Tryz.ntmps136 kr ?_;refine bQ [(0,vL ae a ag),(1,vI b)]<|aI<|pN 1 [4] []<|bF<|pN 2 [5,6] [(5,vL ae a ag),(6,vI b)]<|af e ?_;intro h j e;refine aq kr rfl kr enters161 (slices_Index_sint_int_ok ak ae ag a b c g (aR f d.size) (ay.below d f) h j) ?_;rintro l m ⟨k,rfl⟩;refine pL [4,8] 4 (vB (decide (h≥0)))<|aa<|am ?_
 obtain rfl:=sj e;refine au (ao [vB (decide (h≥0))] rfl ⟨kr,trivial⟩ ?_);exact ⟨ad (bg d k nb),rfl⟩

theorem regex_formed_1_1_ok (ak:Nat) (ae:bm) (ag:Nat) (b:bm) (c:Nat) (d:cB) (g:Nat) (aG:bm) (aL:Nat) (a:List Int) (e:World) (h:Nat→Prop) (j:Lw h e) (k:ba e g 27 #[vL aG a aL]) (ay:Rd bS e h ae ag d.2.2.2.2.2.1) (o:Rd pcE e h b c d.2.2.2.2.2.2) (bx:Rd (iE .i64) e h aG aL a) (p:Bool) (i:regex_formed_1_1 ak d a=some p):
    Cs 135 [.agg (bj d ae ag b c),bp g] e (G1 e [vB p]):=by
 have q:Bl e e:=Below.refl _ _;unfold regex_formed_1_1 at i;refine aH Tryz.func135 rfl Tryz.ntmps135 kr ?_;refine bQ [(0,.agg (bj d ae ag b c)),(1,bp g)] ?_;have t:=k.lt;refine aI<|aA bp (bj d ae ag b c) 25 kr kr ?_
 intro u v l r w x;refine pN 1 [3] []<|bF<|bk 27 (k.grown l nb) 0 rfl<|p1 5 (bp u)<|bk 3 r 0 rfl<|af i ?_;intro m s i;have f:=bg q l nb;refine aq kr rfl kr enters136 (slices_Contains_sint_int_ok ak aG aL a d.1 v h (aR j f.size) (bx.below f j) m s) ?_;rintro y z ⟨n,rfl⟩;refine p1 3 (vB m)<|aa<|am ?_
 obtain rfl:=sj i;refine au (ao [vB m] rfl ⟨kr,trivial⟩ ?_);exact ⟨ad (bg f n nb),rfl⟩

theorem api_Piece_1_1_3_ok (ak:Nat) (ae:bm) (ag:Nat) (h:List Pc) (b:Nat) (c:bm) (d:Nat) (g:List Int) (l:World) (C:Nat→Prop) (n:Lw C l) (r:ba l b 27 #[vL c g d]) (ay:Rd pcE l C ae ag h) (q:Rd (iE .i64) l C c d g) (N:Int) (o:api_Piece_1_1_3 ak h g=some N):
    Cs 144 [vL ae h ag,.func (.func 135) #[] #[bp b]] l (G1 l [vI N]):=by
 have O:Bl l l:=Below.refl _ _;unfold api_Piece_1_1_3 at o;refine aH Tryz.func144 rfl Tryz.ntmps144 kr ?_;refine bQ [(0,vL ae h ag),(1,.func (.func 135) #[] #[bp b])] ?_;have P:=r.lt;refine aI<|pN 1 [4] []<|co<|aI<|pN 3 [6,7,8] [(7,vI (lz h)),(8,vI 0)]<|aa<|af o ?_;intro T t o
 refine aC (J:=fun a D=>∃ Q:Unit,T= .inl Q∧Bl l D∧Sz l D∧ba D b 27 #[vL c g d]∧Qa a 19 []) ?_ ?_
 ·refine aF<|bO (A:=fun (m:Int) a s=>Bl l s∧Sz l s∧ba s b 27 #[vL c g d]∧Qa a 19 [(0,vL ae h ag),(1,.func (.func 135) #[] #[bp b]),(7,vI (lz h)),(8,vI m)]) t ?_ ?_
  ·intro a hd hs al;exact ⟨O,bM,r,hd,hs,aU al⟩
  ·rintro m Y j E a s ⟨i,F,u,hd,hs,al⟩;refine aM ?_ hd hs al;refine aI<|p1 9 (vB (decide (m<(lz h))))<|co<|bw j (fun R j=>?_) (fun R j=>?_)
   ·refine az<|aJ<|aF<|aI<|pL [5,10] 5 (vI m)<|bF<|pN 3 [11,12,13] [(11,.func (.func 135) #[] #[bp b]),(12,vL ae h ag),(13,vI m)] ?_
    refine af j ?_;intro v w j;refine cX .i64 7 (ay.below i n) w aZ ?_;obtain ⟨_,⟨_,_,rfl,rfl,⟨_,_,rfl,rfl,⟨_,_,rfl,rfl,⟨_,_,rfl,rfl,⟨_,_,rfl,rfl,⟨_,_,rfl,⟨x,y,rfl,G⟩,⟨z,B,rfl,H⟩⟩⟩⟩⟩⟩⟩,I⟩:=cells_un (ay.cellsK w);refine laq 25 (aP ae ((m:Int).toNat*7)) (du (Pc.un v) x y z B) (bU (I s (fun k hk=>i.block k (n k hk)))) ?_;refine af j ?_;intro S K j;refine cD (f:=135) (vs:=[.agg (du (Pc.un v) x y z B)]) (cap:=[bp b]) _ cq rfl rfl rfl kr kr enters135 (regex_formed_1_1_ok ak x y z B (Pc.un v) b c d g s C (aR n i.size) u (G.below i n) (H.below i n) (q.below i n) S K) ?_;rintro W X ⟨p,rfl⟩;refine ⟨nofun,?_⟩;refine aa<|bw j (fun L j=>?_) (fun L j=>?_)
    ·refine aI<|pL [4,17] 4 (vI m)<|aa<|am ?_
     obtain rfl:=sj j;replace t:=congrArg some (E _ rfl);obtain rfl:=sj t;replace o:=br o;obtain rfl:=sj o;refine au (ao [vI m] rfl ⟨kr,trivial⟩ ?_);exact ⟨ad (bg i p nb),rfl⟩
    ·refine az<|bt<|av<|pL [8,18] 8 (vI (wI (m+1)))<|aa ?_;obtain rfl:=sj j;refine ac fun a hd hs al=>?_;exact ⟨(wI (m+1)),rfl,(bg i p nb),(nt F p.size),(u.grown p nb),hd,hs,aU al⟩
   ·refine bB<|bN rfl ?_
    obtain rfl:=sj j;replace t:=congrArg some (E _ rfl);obtain rfl:=sj t;refine ac fun a hd hs al=>?_;exact ⟨(),rfl,i,F,u,hd,hs,aU al⟩
 ·rintro a D ⟨Q,e,M,U,V,hd,hs,al⟩;subst e;refine aM ?_ hd hs al;replace o:=bW o;refine aI<|p1 4 (vI (-1))<|aa<|am ?_
  obtain rfl:=sj o;refine au (ao [vI (-1)] rfl ⟨kr,trivial⟩ ?_);exact ⟨ad M,rfl⟩

theorem api_Piece_1_1_ok (ak:Nat) (ae:bm) (ag:Nat) (e:List Pc) (a:Nat) (b:bm) (c:Nat) (d:List Int) (f:World) (k:Nat→Prop) (j:Lw k f) (h:ba f a 27 #[vL b d c]) (ay:Rd pcE f k ae ag e) (g:Rd (iE .i64) f k b c d) (n:Bool) (l:api_Piece_1_1 ak e d=some n):
    Cs 120 [vL ae e ag,.func (.func 135) #[] #[bp a]] f (G1 f [vB n]):=by
 have i:Bl f f:=Below.refl _ _;unfold api_Piece_1_1 at l;refine aH Tryz.func120 rfl Tryz.ntmps120 kr ?_;refine bQ [(0,vL ae e ag),(1,.func (.func 135) #[] #[bp a])] ?_;have o:=h.lt;refine aI<|pN 1 [4] []<|bF<|pN 2 [5,6] [(5,vL ae e ag),(6,.func (.func 135) #[] #[bp a])] ?_
 refine af l ?_;intro m p l;refine aq kr rfl kr enters144 (api_Piece_1_1_3_ok ak ae ag e a b c d f k (aR j i.size) h (ay.below i j) (g.below i j) m p) ?_;rintro r s ⟨q,rfl⟩;refine pL [4,8] 4 (vB (decide (m≥0)))<|aa<|am ?_
 obtain rfl:=sj l;refine au (ao [vB (decide (m≥0))] rfl ⟨kr,trivial⟩ ?_);exact ⟨ad (bg i q nb),rfl⟩

theorem db (ak:Nat) (ae:bm) (ag:Nat) (a:List Int) (g:Nat) (aG:bm) (aL:Nat) (c:bm) (d:Nat) (b:cB) (e:World) (h:Nat→Prop) (i:Lw h e) (l:ba e g 25 (bj b aG aL c d)) (ay:Rd (iE .i64) e h ae ag a) (bx:Rd bS e h aG aL b.2.2.2.2.2.1) (j:Rd pcE e h c d b.2.2.2.2.2.2) (p:Bool) (k:regex_formed_1 ak a b=some p):
    Cs 134 [vL ae a ag,bp g] e (G1 e [vB p]):=by
 have q:Bl e e:=Below.refl _ _;unfold regex_formed_1 at k;refine aH Tryz.func134 rfl Tryz.ntmps134 kr ?_;refine bQ [(0,vL ae a ag),(1,bp g)] ?_;have u:=l.lt;refine aI<|aA bp #[vL ae a ag] 27 kr kr ?_
 intro r v m s w x;refine pN 1 [3] []<|bF<|p1 4 (pt g 6)<|bk 23 (l.grown m nb) 6 rfl<|p1 6 (.func (.func 135) #[] #[bp r]) ?_;refine af k ?_;intro n t k;have f:=bg q m nb;refine aq kr rfl kr enters120 (api_Piece_1_1_ok ak c d b.2.2.2.2.2.2 r ae ag a v h (aR i f.size) s (j.below f i) (ay.below f i) n t) ?_;rintro y z ⟨o,rfl⟩;refine pL [3,8] 3 (vB (!n))<|aa<|am ?_
 obtain rfl:=sj k;refine au (ao [vB (!n)] rfl ⟨kr,trivial⟩ ?_);exact ⟨ad (bg f o nb),rfl⟩

end Go.Proofs.YtmpmeiihjnnomaaGreatDoor
