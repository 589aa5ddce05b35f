import Derived.Test.YtmpmeiihjnnomaaGreatDoorRows
import Derived.Test.YtmpmeiihjnnomaaGreatDoorGh
import Derived.Test.YtmpmeiihjnnomaaGreatDoorD
import Derived.Test.YtmpmeiihjnnomaaGreatDoorGpc
import Derived.Test.YtmpmeiihjnnomaaGreatDoorGal
import Derived.Test.YtmpmeiihjnnomaaGreatDoorGso
import Derived.Test.YtmpmeiihjnnomaaGreatDoorGcp
import Derived.Test.YtmpmeiihjnnomaaGreatDoorGrs
import Derived.Test.YtmpmeiihjnnomaaGreatDoorRc
import Derived.Test.YtmpmeiihjnnomaaGreatDoorRd
import Derived.Test.YtmpmeiihjnnomaaGreatDoorRs
import Derived.Test.YtmpmeiihjnnomaaGreatDoorRm
import Derived.Test.YtmpmeiihjnnomaaGreatDoorSr
import Derived.Test.YtmpmeiihjnnomaaGreatDoorVs
import Derived.Test.YtmpmeiihjnnomaaGreatDoorSt
set_option linter.all false
set_option maxHeartbeats 4000000
set_option maxRecDepth 100000
/- Own work, printed by a program of mine: the walk of each function: a call returns what the plain function says. -/
namespace Go.Proofs.YtmpmeiihjnnomaaGreatDoor
open Go.Gv Go.Gv.D Go.RowKit
open Go.Gv renaming gv_nil→aa,grown_trans→ab,gv_goal→ac,grown_of_below→ad,bindE→af,rowne→ai,grown_step→aj,gv_cret→am,gv_done→ao,gv_call0→ap,Own→ar,gv_ret→au,gv_region→av,gv_goA→ay,gv_skip→az,gv_new0→aA,gv_store0→aB,gv_cut_code→aC,Cls.refl→aD,gv_block→aF,gv_seq→aH,calls_run→aI,gv_in→aK,blk→aL,gv_cut_ops→aM,elemAddr→aN,gv_stage→aP,rowlo→aQ,ltx→aS,gv_pre→aV,Box→aW,nm_nil→aX,gv_stageE→ba,strOf→bb,lowb→bc,gv_sub→bj,rowpp→bo,cont_inr→bt,gv_blk→bu,gv_cexit→bw,gv_split→bB,Box.ownE→bI,inw1→bK,gv_exit→bL,gv_loop→bM,gv_drawA→bQ,blk_neX→bR,inw0→bS,lob→bU,cont_inl→bW,rdnn→bY,gv_name→bZ,ltb→b8,lowo→cd,gv_append→ci,blk_rev→cl,utf8First→cp,nmx_nil→ct,blk_step→cz,gv_call→cC,rowppr→cD,grown_refl→cJ,utf8Acc→cL,Cls→dg,rdnx→dh,pow10C→di,gv_cond→dj,gv_pureNC→dm,Rd.nil→dr,gv_new→dt,gv_store→du
open Go.Proofs.Tryz renaming prog→aq,underlying31→aO,underlying22→aR,underlying23→aZ,underlying9→bf,underlying25→bV,underlying27→co,underlying54→cU
open List (length)
abbrev bk:=Option Addr
theorem cr {p : Prop} (h : p := by decide) : p := h
abbrev wI (x:Int):Int:=IntKind.i64.wrap x
abbrev wU (x:Int):Int:=IntKind.u64.wrap x
abbrev wT (x:Int):Int:=IntKind.u32.wrap x
abbrev wB (x:Int):Int:=IntKind.u8.wrap x
abbrev wR (x:Int):Int:=IntKind.i32.wrap x
abbrev vI (x:Int):Value:=.int .i64 x
abbrev vW (x:Int):Value:=.int .u64 x
abbrev vT (x:Int):Value:=.int .u32 x
abbrev vU (x:Int):Value:=.int .u8 x
abbrev vR (x:Int):Value:=.int .i32 x
abbrev vB (x:Bool):Value:=.bool x
abbrev vS (x:ByteArray):Value:=.string x
abbrev vL {α:Type} (a:bk) (x:List α) (c:Nat):Value:=.slice a x.length c
abbrev ro (b:Nat):bk:=some ⟨b,0,none⟩
abbrev lz {α:Type} (x:List α):Int:=((x.length:Nat):Int)
abbrev bz (x:ByteArray):Int:=((x.size:Nat):Int)
abbrev Ap (a b:bk):Prop:=∀ g,aL a=some g→¬ (fun k=>aL b=some k) g
abbrev Lo (w:World) (a:bk):Prop:=∀ g,aL a=some g→w.heap.size≤g
abbrev Bl (w w':World):Prop:=Below w.heap.size w w'
abbrev Sz (w w':World):Prop:=w.heap.size≤w'.heap.size
abbrev Qa (a:Act) (n:Nat) (σ:List (Nat × Value)):Prop:=a.defers=[]∧a.tmps.size=n∧Ok σ a.tmps
abbrev bh (x:Int × Int × Int × Bool × Bool × (List (Int × Int)) × (List Pc)) (a0:bk) (c0:Nat) (a1:bk) (c1:Nat):Array Value:= #[vI x.1,vI x.2.1,vI x.2.2.1,vB x.2.2.2.1,vB x.2.2.2.2.1,vL a0 x.2.2.2.2.2.1 c0,vL a1 x.2.2.2.2.2.2 c1]
abbrev cI (x:ByteArray × Int × Int × Bool × Bool):Array Value:= #[vS x.1,vI x.2.1,vI x.2.2.1,vB x.2.2.2.1,vB x.2.2.2.2]
abbrev bX (x:Int × Int):Array Value:= #[vI x.1,vI x.2]
abbrev S102 (x:ByteArray × Int):Array Value:= #[vS x.1,vI x.2]
abbrev S153 (x:Bool × (List Int)) (a0:bk) (c0:Nat):Array Value:= #[vB x.1,vL a0 x.2 c0]
theorem xq {X c:Nat→Prop} {a:World} {b:Nat} (hs:∀ k,X k→c k∨a.heap.size≤k) (d:∀ k,c k→k<a.heap.size∧k≠b) (hp:b<a.heap.size):¬ X b:=fun h=>(hs _ h).elim (fun h=>(d _ h).2 rfl) (fun h=>Nat.not_lt_of_le h hp)
theorem rg {α:Type} {E:Enc α} {w w':World} {X:Nat→Prop} {a:bk} {cap b:Nat} {xs:List α} (h:Rd E w X a cap xs) (g:w.grownBy w' (some b)) (c:∀ k,X k→k<w.heap.size∧k≠b):Rd E w' X a cap xs:=h.grown g (fun k hk=>(c k hk).1) (fun g e hk=>by cases e;exact (c _ hk).2 rfl)
theorem jg {a:Nat→Prop} {c w:World} {b:Nat} {r:Option Nat} (d:∀ k,a k→k<c.heap.size∧k≠b) (g:c.grownBy w r):∀ k,a k→k<w.heap.size∧k≠b:=fun k hk=>⟨Nat.lt_of_lt_of_le (d k hk).1 g.size,(d k hk).2⟩
abbrev Sxb (X:Nat→Prop) (w':World) (a:Nat→Prop) (b:World):Prop:=∀ k,X k→k<w'.heap.size∧(a k∨b.heap.size≤k)
theorem sxq {X a:Nat→Prop} {w' b:World} (c:∀ k,X k→k<w'.heap.size) (d:∀ k,X k→a k∨b.heap.size≤k):Sxb X w' a b:=fun k hk=>⟨c k hk,d k hk⟩
abbrev bT:Type:=(List Int) × (List (Int × Int)) × Int
abbrev cy:Type:=Int × Int × Int × Bool × Bool × (List (Int × Int)) × (List Pc)
abbrev cV:Type:=ByteArray × Int × Int × Bool × Bool
abbrev cF:Type:=(Bool × bT) ⊕ Unit
abbrev bF:Type:=Int × Int
abbrev dy:Array Value:= #[vI 0,vI 0,vI 0,vB false,vB false,vL none ([]:List (Int × Int)) 0,vL none ([]:List Pc) 0]
abbrev zQ1:Array Value:= #[vL none ([]:List (Int × Int)) 0]
theorem npb {p:Nat} {a:bk} (h:aL a≠some p):∀ g,aL a=some g→¬ (g=p):=fun g e e'=>h (e.trans (congrArg some e'))
theorem nrb {b p:Nat} {a:bk} (h:¬ (b=p∨aL a=some b)):∀ g,aL a=some g→¬ (g=b):=fun g e e'=>h (Or.inr (e' ▸ e))
theorem jsr {X S:Nat→Prop} {n m:Nat} (h:∀ k,X k→k<n∧¬ S k) (z:n≤m):∀ k,X k→k<m∧¬ S k:=fun k hk=>⟨Nat.lt_of_lt_of_le (h k hk).1 z,(h k hk).2⟩
theorem cm {α:Type} {E:Enc α} {w w':World} {X T:Nat→Prop} {a:bk} {cap:Nat} {xs:List α} (h:Rd E w X a cap xs) (hg:GF w w' T) (b:∀ k,X k→k<w.heap.size∧¬ T k):Rd E w' X a cap xs:=h.gf hg (fun k hk=>(b k hk).1) (fun k hk=>(b k hk).2)
theorem cO {a b c:World} {S:Nat→Prop} (h:GF a b S) (h':GF b c S):GF a c S:=gf_stepF h h' (fun _ h=>.inl h)
theorem dz {b p:Nat} {r:bk} (a:¬ (p=b)) (c:∀ g,aL r=some g→¬ (g=b)):¬ (b=p∨aL r=some b):=fun h=>h.elim (fun e=>a e.symm) (fun e=>c _ e rfl)
theorem nto {T:Nat→Prop} {b:Nat} (h:¬ T b):∀ x,x=b→¬ T x:=fun _ e=>e ▸ h
theorem ntp {b p:Nat} {r:bk} (a:¬ (p=b)) (c:∀ g,aL r=some g→¬ (g=b)):∀ x,x=b→¬ (x=p∨aL r=some x):=fun x e h=>h.elim (fun e'=>a (e'.symm.trans e)) (fun e'=>c _ e' e)
theorem lz1 {X:Nat→Prop} {Q:Nat→Prop} {n m:Nat} (h:∀ k,X k→k<n∧Q k) (z:n≤m):∀ k,X k→k<m:=fun k hk=>Nat.lt_of_lt_of_le (h k hk).1 z
theorem fe {Q:Nat→Prop}:∀ k,(fun _:Nat=>False) k→Q k:=fun _ h=>h.elim
abbrev pt (b j:Nat):Value:=.pointer (some ⟨b,j,none⟩)
abbrev bO:Enc (Int × Int):=prE (iE .i64) (iE .i64)
abbrev dw (x:PcT) (a:bk) (c:Nat) (b:bk) (d:Nat):Array Value:= #[.int .i64 x.1,.int .i64 x.2.1,.int .i64 x.2.2.1,.bool x.2.2.2.1,.bool x.2.2.2.2.1,.slice a x.2.2.2.2.2.1.length c,.slice b x.2.2.2.2.2.2.length d]
theorem df {b n:Nat} {a:bk} (hb:b=n) (ho:∀ g,aL a=some g→g<n):∀ g,aL a=some g→¬ (· =b) g:=fun g e hx=>Nat.not_lt_of_le (bc hb _ hx) (ho g e)
theorem cK {w:World} {b p:Nat} {t:TypeId} {cs:Array Value} (hb:b=w.heap.size) (hp:aW w p t cs):¬ (· =b) p:=fun hx=>Nat.not_lt_of_le (bc hb _ hx) (b8 hp _ rfl)
theorem de {b n:Nat} {a:bk} (hb:b=n) (ho:∀ g,aL a=some g→g<n):¬ (fun k=>aL a=some k) b:=fun hx=>Nat.not_lt_of_le (bc hb _ rfl) (ho _ hx)
theorem apD {w:World} {b p:Nat} {t:TypeId} {cs:Array Value} (hb:b=w.heap.size) (hp:aW w p t cs):∀ g,aL (some ⟨b,0,none⟩)=some g→¬ (· =p) g:=fun g e hx=>Nat.not_lt_of_le (cd hb g e) (b8 hp _ hx)
theorem apF {X:Nat→Prop} {b n:Nat} (hb:b=n) (hx:∀ k,X k→k<n):¬ X b:=fun h=>Nat.not_lt_of_le (bc hb _ rfl) (hx _ h)
theorem apH {w:World} {b p:Nat} {t:TypeId} {cs:Array Value} (hb:b=w.heap.size) (hp:aW w p t cs):¬ (· =p) b:=fun hx=>Nat.not_lt_of_le (bc hb _ rfl) (b8 hp _ hx)
theorem apI {w:World} {p:Nat} {a:bk} {t:TypeId} {cs:Array Value} (hl:∀ k,aL a=some k→w.heap.size≤k) (hp:aW w p t cs):¬ (fun k=>aL a=some k) p:=fun hx=>Nat.not_lt_of_le (hl _ hx) (b8 hp _ rfl)
theorem apG {w:World} {b p:Nat} {t:TypeId} {cs:Array Value} {X:Nat→Prop} (hb:b=w.heap.size) (hp:aW w p t cs) (hx:¬ X p):¬ (fun k=>aL (some ⟨b,0,none⟩)=some k∨X k) p:=fun h=>h.elim (fun h=>Nat.not_lt_of_le (cd hb _ h) (b8 hp _ rfl)) hx
theorem apE {X a Q:Nat→Prop} {b n:Nat} (h:∀ k,X k→Q k∧(a k∨n≤k)) (c:¬ a b) (hb:b<n):¬ X b:=fun hx=>(h _ hx).2.elim c (fun h=>Nat.not_lt_of_le h hb)
theorem xlo {a Q:Nat→Prop} {b n:Nat} (hl:n≤b) (h:∀ k,a k→k<n∧Q k):¬ a b:=fun hx=>Nat.not_lt_of_le hl (h _ hx).1
abbrev dx (b:Nat) (a:bk) (c:Nat) (tx:List Int) (a':bk) (c':Nat) (w:World) (r:(Bool × bT) ⊕ Unit):Ending→World→Prop:=RetP (fun (r0:Bool × bT) v w'=>GF w w' (SrS b a')∧v=tup [.bool r0.1]∧aW w' b 129 #[.slice a tx.length c,.slice a' r0.2.2.1.length c',.int .i64 r0.2.2.2]∧ar bO 37 w' (fun _=>False) a' c' r0.2.2.1) (fun _:Unit=>Value.iface 125 (.agg #[])) (fun w'=>GF w w' (SrS b a')) r
def qB (n:Nat) (all:Array Oper) (σ:List (Nat × Value)) (o:Oper):Bool:=match o.dst with
  | some d=>Nat.blt d n&&((match guardB all σ o with | some true=>true | _=>false)&&(noSel o.op&&known σ o.op.operands.toList))
  | none=>false
theorem qB_spec {n:Nat} {all:Array Oper} {σ:List (Nat × Value)} {o:Oper} (h:qB n all σ o=true):∃ d,o.dst=some d∧Nat.blt d n=true∧guardB all σ o=some true∧(noSel o.op&&known σ o.op.operands.toList)=true:=by
  unfold qB at h
  cases hd:o.dst with
  | none=>rw[hd]at h;cases h
  | some d=>
    rw[hd]at h
    simp only[Bool.and_eq_true]at h
    refine ⟨d,rfl,h.1,?_,by simp only[Bool.and_eq_true];exact h.2.2⟩
    cases hg:guardB all σ o with
    | none=>rw[hg]at h;cases h.2.1
    | some b=>cases b with
      | true=>rfl
      | false=>rw[hg]at h;cases h.2.1
section
variable {P:Program} {R:RR} {n:Nat} {k:List It} {σ:List (Nat × Value)} {w:World} {all:Array Oper} {C:World→Prop} {o:Oper} {m:Mk} {rest:List (Oper × Mk)}
theorem cu (t:TypeId) (A:Addr) (v:Value) (hc:∀ w',Inw m C w w'→w'.cell? A=some v) (h:Run P R n (.ops all C rest::k) .normal (putO σ o.dst v) w) (hm:m=some false→C w:=by nofun) (hq:qB n all σ o=true:=by kernel_rfl) (hop:execOp (evr σ) o=(do pure (.value (← Instr.loadAt t (.pointer (some A))))):=by kernel_rfl) (ht:aggB P t=some false:=by kernel_rfl):Run P R n (.ops all C ((o,m)::rest)::k) .normal σ w:=by
  obtain ⟨d,a,b,c,e⟩:=qB_spec hq
  rw[a]at h
  exact gv_load v [] hm a b c e hop ht hc rfl h
theorem laq (t:TypeId) (A:Addr) (cs:Array Value) (hc:∀ w',Inw m C w w'→cellsAt w' A cs.toList) (h:Run P R n (.ops all C rest::k) .normal (putO σ o.dst (.agg cs)) w) (hm:m=some false→C w:=by nofun) (hq:qB n all σ o=true:=by kernel_rfl) (hop:execOp (evr σ) o=(do pure (.value (← Instr.loadAt t (.pointer (some A))))):=by kernel_rfl) (ht:aggB P t=some true:=by kernel_rfl) (hsz:(P.info? t).map (·.size)=some cs.size:=by kernel_rfl):Run P R n (.ops all C ((o,m)::rest)::k) .normal σ w:=by
  obtain ⟨d,a,b,c,e⟩:=qB_spec hq
  rw[a]at h
  exact gv_loadAgg cs [] hm a b c e hop ht hsz hc rfl h
theorem dd (t:TypeId) (b:Nat) (cs:Array Value) (hc:∀ w',Inw m C w w'→w'.heap[b]? =some (.cells cs t (0,0))) (h:Run P R n (.ops all C rest::k) .normal (putO σ o.dst (.agg cs)) w) (hm:m=some false→C w:=by nofun) (hq:qB n all σ o=true:=by kernel_rfl) (hop:execOp (evr σ) o=(do pure (.value (← Instr.loadAt t (.pointer (some ⟨b,0,none⟩))))):=by kernel_rfl) (ht:aggB P t=some true:=by kernel_rfl) (hsz:(P.info? t).map (·.size)=some cs.size:=by kernel_rfl):Run P R n (.ops all C ((o,m)::rest)::k) .normal σ w:=by
  obtain ⟨d,a,c,e,f⟩:=qB_spec hq
  rw[a]at h
  exact gv_loadBox cs [] hm a c e f hop ht hsz hc rfl h
theorem cR {α:Type} {E:Enc α} {X:Nat→Prop} {c:World} {t e:TypeId} {a:bk} {cap:Nat} {xs:List α} {x:α} {i:Int} (kk:IntKind) (sz:Nat) (hR:Rd E c X a cap xs) (hx:idx xs i=some x) (ht:P.underlying t=some (.slice e)) (h:Run P R n (.ops all C rest::k) .normal (putO σ o.dst (.pointer (some (aN a (i.toNat*sz))))) w) (hm:m=some false→C w:=by nofun) (hq:qB n all σ o=true:=by kernel_rfl) (hop:execOp (evr σ) o=(do pure (.value (← Instr.indexAt t (.slice a xs.length cap) (.int kk i)))):=by kernel_rfl) (hsz:(P.info? e).map (·.size)=some sz:=by kernel_rfl):Run P R n (.ops all C ((o,m)::rest)::k) .normal σ w:=by
  obtain ⟨d,b,f,g,j⟩:=qB_spec hq
  rw[b]at h
  exact gv_idxaddr [] hm b f g j hop ht hsz (hR.has hx) (idx_spec hx).1 (idx_spec hx).2.1 rfl h
theorem siq {t:TypeId} {s:ByteArray} {i c:Int} (kk:IntKind) (hx:sidx s i=some c) (ht:P.underlying t=some .string) (h:Run P R n (.ops all C rest::k) .normal (putO σ o.dst (.int .u8 c)) w) (hm:m=some false→C w:=by nofun) (hq:qB n all σ o=true:=by kernel_rfl) (hop:execOp (evr σ) o=(do pure (.value (← Instr.index t (.string s) (.int kk i)))):=by kernel_rfl):Run P R n (.ops all C ((o,m)::rest)::k) .normal σ w:=by
  obtain ⟨d,a,b,e,f⟩:=qB_spec hq
  rw[a]at h
  exact gv_sindex c [] hm a b e f hop ht hx rfl h
theorem dn {s u r:ByteArray} (t:TypeId) (hr:cat s u=some r) (h:Run P R n (.ops all C rest::k) .normal (putO σ o.dst (.string r)) w) (hm:m=some false→C w:=by nofun) (hq:qB n all σ o=true:=by kernel_rfl) (hop:execOp (evr σ) o=(do pure (.value (← binOp .add t (.string s) (.string u)))):=by kernel_rfl):Run P R n (.ops all C ((o,m)::rest)::k) .normal σ w:=by
  obtain ⟨d,a,b,c,e⟩:=qB_spec hq
  rw[a]at h
  exact gv_cat r [] hm a b c e hop hr rfl h
theorem aG {id:Nat} {l:List Oper} {y:Code} (h:Run P R n (.ops l.toArray (fun _=>True) (mk0 l):: .code y::k) .normal σ w) (hr:R.r=none:=by rfl):Run P R n (.code (.seq (.region id l.toArray false) y)::k) .normal σ w:=aH (av h hr)
theorem cq {x y:Code} (h:Run P R n (.code x:: .code y::k) .normal σ w):Run P R n (.ops all C []:: .code (.seq x y)::k) .normal σ w:=aa (aH h)
theorem bH {id:Nat} {l:List Oper} {y:Code} (h:Run P R n (.ops l.toArray (fun _=>True) (mk0 l):: .code y::k) .normal σ w) (hr:R.r=none:=by rfl):Run P R n (.ops all C []:: .code (.seq (.region id l.toArray false) y)::k) .normal σ w:=aa (aH (av h hr))
theorem clq {x:Operand} {xs:Array Operand} {tys:Array TypeId} {f:FuncId} {vs:List Value} {S:Value→World→Prop} (hf:Go.Gv.Enters P f) (hc:Calls P f vs.toArray w (Ret S)) (h:∀ v w',S v w'→(m=some false→C w')∧Run P R n (.ops all C rest::k) .normal (putO σ o.dst v) w') (hm:m≠some true:=by decide) (hdn:dstOk n o.dst=true:=by kernel_rfl) (hg:guardB all σ o=some true:=by kernel_rfl) (ho:o.op= .call { callee:=.value x,args:=xs,argTypes:=tys}:=by rfl) (hx:ev σ x=some (.func (.func f) #[] ([]:List Value).toArray):=by kernel_rfl) (hxs:evs σ xs.toList=some vs:=by kernel_rfl):Run P R n (.ops all C ((o,m)::rest)::k) .normal σ w:=
  cC (cap:=[]) S hm hdn hg ho hx hxs hf (by rw[List.append_nil];exact hc) h
end
abbrev Lw (X:Nat→Prop) (w:World):Prop:=∀ k,X k→k<w.heap.size
abbrev Cs (f:Nat) (l:List Value) (w:World) (R:Ending→World→Prop):Prop:=Calls aq f l.toArray w R
abbrev G1 (w:World) (r:List Value):Ending→World→Prop:=Ret fun v w'=>w.grownBy w' none∧v=tup r
theorem nl {a b:Nat} (h:a≤b):¬ b<a:=Nat.not_lt_of_le h
theorem sj {α:Type _} {a b:α} (h:some a=some b):a=b:=Option.some.inj h
theorem ng {a b:Nat} (h:b<a):a≠b:=Nat.ne_of_gt h
theorem b9 {a b c:Nat} (h:a<b) (h':b≤c):a<c:=Nat.lt_of_lt_of_le h h'
theorem cf {a b c:Nat} (h:a<b) (h':b<c):a<c:=Nat.lt_trans h h'
section
variable {P:Program} {R:RR} {n:Nat} {k:List It} {σ σ':List (Nat × Value)} {w:World} {all:Array Oper} {C:World→Prop}
theorem pN (c:Nat) (ds:List Nat) (news:List (Nat × Value)) {l:List (Oper × Mk)} (h:Run P R n (.ops all C (drops c l)::k) .normal (nw news ds σ) w) (hp:(match stepsP false P n all c l σ with | some σ1=>picks ((nw news ds σ).map (·.1)) σ1 | none=>none)=some (nw news ds σ):=by kernel_rfl):Run P R n (.ops all C l::k) .normal σ w:=gv_pureN c ds news hp h
theorem okp (ss:List Nat) {t:Array Value} (h:Ok σ t) (hp:picks ss σ=some σ':=by kernel_rfl):Ok σ' t:=ok_pick ss h hp
theorem aU {σ':List (Nat × Value)} {t:Array Value} (h:Ok σ t) (hp:picks (σ'.map (·.1)) σ=some σ':=by kernel_rfl):Ok σ' t:=ok_pick _ h hp
theorem vLc {α:Type} {x y:List α} {a:bk} {c:Nat} (h:x.length=y.length):vL a x c=vL a y c:=by unfold vL;rw[h]
theorem bP (σ':List (Nat × Value)) {e:Exit} (h:Run P R n k e σ' w) (hp:picks (σ'.map (·.1)) σ=some σ':=by kernel_rfl):Run P R n k e σ w:=bj _ hp h
theorem bJ {a:Nat}:a≤a:=Nat.le_refl a
theorem kr {p:Prop} (h:p:=by kernel_rfl):p:=h
end
open List (length)
section
variable {P:Program} {R:RR} {n:Nat} {k:List It} {σ:List (Nat × Value)} {w:World}
theorem bx {α:Type} {c:Operand} {b:Bool} {x y:Code} {p q r:α} (h:(if b=true then p else q)=r) (ht:b=true→p=r→Run P R n (.code x::k) .normal σ w) (hf:b=false→q=r→Run P R n (.code y::k) .normal σ w) (hc:ev σ c=some (.bool b):=by kernel_rfl):Run P R n (.code (.cond c x y)::k) .normal σ w:=dj hc (fun e=>ht e (ite_t e h)) (fun e=>hf e (ite_f e h))
theorem cg {α:Type} (s:Nat) {g:Bool} {e:Exit} {p q r:α} (h:(if g=true then p else q)=r) (ht:g=true→p=r→Run P R n k e (put σ s (.bool true)) w) (hf:g=false→q=r→Run P R n k e (put σ s (.bool false)) w) (hl:Go.Gv.look σ s=some (.bool g):=by kernel_rfl):Run P R n k e σ w:=bB hl (fun e=>ht e (ite_t e h)) (fun e=>hf e (ite_f e h))
end
section
variable {P:Program} {R:RR} {n:Nat} {k:List It} {σ σ':List (Nat × Value)} {w:World} {all:Array Oper} {C:World→Prop}
theorem pL (ds:List Nat) (d:Nat) (v:Value) {l:List (Oper × Mk)} (h:Run P R n (.ops all C (drops ds.length l)::k) .normal (nw [(d,v)] ds σ) w) (hp:(match stepsP false P n all ds.length l σ with | some σ1=>picks ((nw [(d,v)] ds σ).map (·.1)) σ1 | none=>none)=some (nw [(d,v)] ds σ):=by kernel_rfl):Run P R n (.ops all C l::k) .normal σ w:=gv_pureN ds.length ds [(d,v)] hp h
theorem p1 (d:Nat) (v:Value) {l:List (Oper × Mk)} (h:Run P R n (.ops all C (drops 1 l)::k) .normal (nw [(d,v)] [d] σ) w) (hp:(match stepsP false P n all 1 l σ with | some σ1=>picks ((nw [(d,v)] [d] σ).map (·.1)) σ1 | none=>none)=some (nw [(d,v)] [d] σ):=by kernel_rfl):Run P R n (.ops all C l::k) .normal σ w:=gv_pureN 1 [d] [(d,v)] hp h
theorem bi (t:TypeId) {b:Nat} {ty:TypeId} {cs:Array Value} {v:Value} {o:Oper} {rest:List (Oper × Mk)} (hb:aW w b ty cs) (j:Nat) (hv:cs[j]? =some v) (h:Run P R n (.ops all C rest::k) .normal (putO σ o.dst v) w) (hq:qB n all σ o=true:=by kernel_rfl) (hop:execOp (evr σ) o=(do pure (.value (← Instr.loadAt t (.pointer (some ⟨b,j,none⟩))))):=by kernel_rfl) (ht:aggB P t=some false:=by kernel_rfl):Run P R n (.ops all C ((o,none)::rest)::k) .normal σ w:=cu t ⟨b,j,none⟩ v (bS (hb.cell j hv)) h nofun hq hop ht
end
theorem cB {P : Program} {f : FuncId} {fn : Func} (h : P.funcs[f]? = some fn) (a : (fn.name == "runtime.NumGoroutine") = false := by kernel_rfl) (b : fn.body.isNone = false := by kernel_rfl) : Go.Gv.Enters P f := ⟨fn, h, a, b⟩
theorem enters9:Go.Gv.Enters aq 9:=cB Tryz.func9
theorem enters10:Go.Gv.Enters aq 10:=cB Tryz.func10
theorem enters11:Go.Gv.Enters aq 11:=cB Tryz.func11
theorem enters12:Go.Gv.Enters aq 12:=cB Tryz.func12
theorem enters13:Go.Gv.Enters aq 13:=cB Tryz.func13
theorem dv:Go.Gv.Enters aq 15:=cB Tryz.func15
theorem enters17:Go.Gv.Enters aq 17:=cB Tryz.func17
theorem enters22:Go.Gv.Enters aq 22:=cB Tryz.func22
theorem enters25:Go.Gv.Enters aq 25:=cB Tryz.func25
theorem enters30:Go.Gv.Enters aq 30:=cB Tryz.func30
theorem enters31:Go.Gv.Enters aq 31:=cB Tryz.func31
theorem enters32:Go.Gv.Enters aq 32:=cB Tryz.func32
theorem enters33:Go.Gv.Enters aq 33:=cB Tryz.func33
theorem enters34:Go.Gv.Enters aq 34:=cB Tryz.func34
theorem enters35:Go.Gv.Enters aq 35:=cB Tryz.func35
theorem enters36:Go.Gv.Enters aq 36:=cB Tryz.func36
theorem enters38:Go.Gv.Enters aq 38:=cB Tryz.func38
theorem enters39:Go.Gv.Enters aq 39:=cB Tryz.func39
theorem enters40:Go.Gv.Enters aq 40:=cB Tryz.func40
theorem enters41:Go.Gv.Enters aq 41:=cB Tryz.func41
theorem enters42:Go.Gv.Enters aq 42:=cB Tryz.func42
theorem enters43:Go.Gv.Enters aq 43:=cB Tryz.func43
theorem enters44:Go.Gv.Enters aq 44:=cB Tryz.func44
theorem enters45:Go.Gv.Enters aq 45:=cB Tryz.func45
theorem enters46:Go.Gv.Enters aq 46:=cB Tryz.func46
theorem enters47:Go.Gv.Enters aq 47:=cB Tryz.func47
theorem enters52:Go.Gv.Enters aq 52:=cB Tryz.func52
theorem enters54:Go.Gv.Enters aq 54:=cB Tryz.func54
theorem enters56:Go.Gv.Enters aq 56:=cB Tryz.func56
theorem enters58:Go.Gv.Enters aq 58:=cB Tryz.func58
theorem enters59:Go.Gv.Enters aq 59:=cB Tryz.func59
theorem enters60:Go.Gv.Enters aq 60:=cB Tryz.func60
theorem enters61:Go.Gv.Enters aq 61:=cB Tryz.func61
theorem enters62:Go.Gv.Enters aq 62:=cB Tryz.func62
theorem enters63:Go.Gv.Enters aq 63:=cB Tryz.func63
theorem enters64:Go.Gv.Enters aq 64:=cB Tryz.func64
theorem enters66:Go.Gv.Enters aq 66:=cB Tryz.func66
theorem enters73:Go.Gv.Enters aq 73:=cB Tryz.func73
theorem enters74:Go.Gv.Enters aq 74:=cB Tryz.func74
theorem enters83:Go.Gv.Enters aq 83:=cB Tryz.func83
theorem ce:Go.Gv.Enters aq 84:=cB Tryz.func84
theorem enters85:Go.Gv.Enters aq 85:=cB Tryz.func85
theorem enters86:Go.Gv.Enters aq 86:=cB Tryz.func86
theorem enters87:Go.Gv.Enters aq 87:=cB Tryz.func87
theorem enters88:Go.Gv.Enters aq 88:=cB Tryz.func88
theorem enters89:Go.Gv.Enters aq 89:=cB Tryz.func89
theorem enters90:Go.Gv.Enters aq 90:=cB Tryz.func90
theorem enters91:Go.Gv.Enters aq 91:=cB Tryz.func91
theorem enters92:Go.Gv.Enters aq 92:=cB Tryz.func92
theorem enters93:Go.Gv.Enters aq 93:=cB Tryz.func93
theorem enters94:Go.Gv.Enters aq 94:=cB Tryz.func94
theorem enters95:Go.Gv.Enters aq 95:=cB Tryz.func95
theorem cA:Go.Gv.Enters aq 96:=cB Tryz.func96
theorem enters97:Go.Gv.Enters aq 97:=cB Tryz.func97
theorem enters101:Go.Gv.Enters aq 101:=cB Tryz.func101
theorem enters106:Go.Gv.Enters aq 106:=cB Tryz.func106
theorem enters107:Go.Gv.Enters aq 107:=cB Tryz.func107
theorem enters108:Go.Gv.Enters aq 108:=cB Tryz.func108
theorem enters109:Go.Gv.Enters aq 109:=cB Tryz.func109
theorem enters112:Go.Gv.Enters aq 112:=cB Tryz.func112
theorem enters113:Go.Gv.Enters aq 113:=cB Tryz.func113
theorem enters114:Go.Gv.Enters aq 114:=cB Tryz.func114
theorem enters115:Go.Gv.Enters aq 115:=cB Tryz.func115
theorem enters116:Go.Gv.Enters aq 116:=cB Tryz.func116
theorem enters117:Go.Gv.Enters aq 117:=cB Tryz.func117
theorem enters118:Go.Gv.Enters aq 118:=cB Tryz.func118
theorem enters119:Go.Gv.Enters aq 119:=cB Tryz.func119
theorem enters120:Go.Gv.Enters aq 120:=cB Tryz.func120
theorem enters121:Go.Gv.Enters aq 121:=cB Tryz.func121
theorem dp:Go.Gv.Enters aq 122:=cB Tryz.func122
theorem enters123:Go.Gv.Enters aq 123:=cB Tryz.func123
theorem enters124:Go.Gv.Enters aq 124:=cB Tryz.func124
theorem enters127:Go.Gv.Enters aq 127:=cB Tryz.func127
theorem enters128:Go.Gv.Enters aq 128:=cB Tryz.func128
theorem enters129:Go.Gv.Enters aq 129:=cB Tryz.func129
theorem enters132:Go.Gv.Enters aq 132:=cB Tryz.func132
theorem enters133:Go.Gv.Enters aq 133:=cB Tryz.func133
theorem enters134:Go.Gv.Enters aq 134:=cB Tryz.func134
theorem enters135:Go.Gv.Enters aq 135:=cB Tryz.func135
theorem enters136:Go.Gv.Enters aq 136:=cB Tryz.func136
theorem enters137:Go.Gv.Enters aq 137:=cB Tryz.func137
theorem enters138:Go.Gv.Enters aq 138:=cB Tryz.func138
theorem enters139:Go.Gv.Enters aq 139:=cB Tryz.func139
theorem enters140:Go.Gv.Enters aq 140:=cB Tryz.func140
theorem enters141:Go.Gv.Enters aq 141:=cB Tryz.func141
theorem enters142:Go.Gv.Enters aq 142:=cB Tryz.func142
theorem enters143:Go.Gv.Enters aq 143:=cB Tryz.func143
theorem enters144:Go.Gv.Enters aq 144:=cB Tryz.func144
theorem dq:Go.Gv.Enters aq 145:=cB Tryz.func145
theorem enters146:Go.Gv.Enters aq 146:=cB Tryz.func146
theorem enters147:Go.Gv.Enters aq 147:=cB Tryz.func147
theorem enters148:Go.Gv.Enters aq 148:=cB Tryz.func148
theorem enters149:Go.Gv.Enters aq 149:=cB Tryz.func149
theorem enters150:Go.Gv.Enters aq 150:=cB Tryz.func150
theorem enters153:Go.Gv.Enters aq 153:=cB Tryz.func153
theorem enters155:Go.Gv.Enters aq 155:=cB Tryz.func155
theorem enters161:Go.Gv.Enters aq 161:=cB Tryz.func161
theorem enters162:Go.Gv.Enters aq 162:=cB Tryz.func162
theorem enters163:Go.Gv.Enters aq 163:=cB Tryz.func163
theorem enters168:Go.Gv.Enters aq 168:=cB Tryz.func168
theorem native125:Go.Gv.Native aq 125 Extern.BytealgIndexByte.indexByte:=⟨Tryz.f125,Tryz.func125,by kernel_rfl,by kernel_rfl,by kernel_rfl,by kernel_rfl⟩
theorem info3:InfoOk aq 3 1:=infoOk (z:=(.int .i64 0)) (bytes:=8) (by kernel_rfl) (by kernel_rfl) (by kernel_rfl) (by kernel_rfl)
theorem info4:InfoOk aq 4 1:=infoOk (z:=(.bool false)) (bytes:=1) (by kernel_rfl) (by kernel_rfl) (by kernel_rfl) (by kernel_rfl)
theorem info5:InfoOk aq 5 1:=infoOk (z:=(.int .u8 0)) (bytes:=1) (by kernel_rfl) (by kernel_rfl) (by kernel_rfl) (by kernel_rfl)
theorem info9:InfoOk aq 9 1:=infoOk (z:=(.string ⟨#[]⟩)) (bytes:=16) (by kernel_rfl) (by kernel_rfl) (by kernel_rfl) (by kernel_rfl)
theorem info25:InfoOk aq 25 7:=infoOk (z:=(.agg #[.int .i64 0,(.int .i64 0),(.int .i64 0),(.bool false),(.bool false),(.slice none 0 0),(.slice none 0 0)])) (bytes:=80) (by kernel_rfl) (by kernel_rfl) (by kernel_rfl) (by kernel_rfl)
theorem info34:InfoOk aq 34 1:=infoOk (z:=(.agg #[.slice none 0 0])) (bytes:=24) (by kernel_rfl) (by kernel_rfl) (by kernel_rfl) (by kernel_rfl)
theorem info37:InfoOk aq 37 2:=infoOk (z:=(.agg #[.int .i64 0,(.int .i64 0)])) (bytes:=16) (by kernel_rfl) (by kernel_rfl) (by kernel_rfl) (by kernel_rfl)
theorem info103:InfoOk aq 103 2:=infoOk (z:=(.agg #[.string ⟨#[]⟩,(.int .i64 0)])) (bytes:=24) (by kernel_rfl) (by kernel_rfl) (by kernel_rfl) (by kernel_rfl)
theorem eqs37neq (a:Int) (b:Int) (c:Int) (d:Int) (x y:Operand) (w:World):(do eqGuard .neq 37 x y (.agg #[.int .i64 a,.int .i64 b]) (.agg #[.int .i64 c,.int .i64 d]);binOp .neq 37 (.agg #[.int .i64 a,.int .i64 b]) (.agg #[.int .i64 c,.int .i64 d]):Sem Value).run aq w= .ok (.bool (!((a==c)&&(b==d)))) w:=by
  have e:aq.eqGuardType aq.depth 37=false:=by kernel_rfl
  obtain ⟨i,hi⟩:∃ i,aq.info? 3=some i:=Option.isSome_iff_exists.1 (by kernel_rfl)
  have hc:aq.cellsOf 3=1:=by kernel_rfl
  rw[Sem.run_bind,run_eqGuard_agg w .neq 37 x y _ _ e,Result.andThen_ok,run_neq_struct,run_equalIn_array w 9999 _ _ Tryz.underlying37 hi,hc]
  by_cases g0:a=c<;>by_cases g1:b=d<;>simp[List.range,List.range.loop,Op.eqItems,part,isAgg,run_underlying Tryz.underlying3,run_equalIn_int _ _ _ _ _ _ _ Tryz.underlying3,g0,g1]

theorem stringslite_IndexByte_ok (ak:Nat) (a:ByteArray) (b:Int) (c:World) (d:Int) (e:stringslite_IndexByte ak a b=some d):
    Cs 101 [vS a,vU b] c (G1 c [vI d]):=by
 have g:Bl c c:=Below.refl _ _;unfold stringslite_IndexByte at e;refine aI Tryz.func101 rfl Tryz.ntmps101 kr ?_;refine bP [(0,vS a),(1,vU b)]<|aG<|pN 1 [4] []<|bH<|pN 2 [5,6] [(5,vS a),(6,vU b)]<|gv_nat (f:=125) (vs:=[vS a,vU b]) (vI (nIdxB (bytesOf a) b)) [] nofun rfl rfl rfl kr rfl kr kr native125 (fun w' _=>nat_idxS _ _ w') rfl ?_;refine p1 4 (vI (nIdxB (bytesOf a) b))<|aa<|am ?_
 obtain rfl:=sj e;refine au (ao [vI (nIdxB (bytesOf a) b)] rfl ⟨kr,trivial⟩ ?_);exact ⟨ad g,rfl⟩

theorem strings_IndexByte_ok (ak:Nat) (a:ByteArray) (b:Int) (c:World) (f:Int) (d:strings_IndexByte ak a b=some f):
    Cs 109 [vS a,vU b] c (G1 c [vI f]):=by
 have g:Bl c c:=Below.refl _ _;unfold strings_IndexByte at d;refine aI Tryz.func109 rfl Tryz.ntmps109 kr ?_;refine bP [(0,vS a),(1,vU b)]<|aG<|pN 1 [4] []<|bH<|pN 2 [5,6] [(5,vS a),(6,vU b)]<|af d ?_;intro e h d;refine ap kr rfl kr enters101 (stringslite_IndexByte_ok ak a b c e h) ?_;rintro j k ⟨i,rfl⟩;refine p1 4 (vI e)<|aa<|am ?_
 obtain rfl:=sj d;refine au (ao [vI e] rfl ⟨kr,trivial⟩ ?_);exact ⟨ad (bg g i nb),rfl⟩

theorem cP (ak:Nat) (c:Nat) (g:cV) (b:ByteArray) (e:World) (f:aW e c 117 (cI g)) (m:Bool) (i:regex_parser_ahead ak g b=some m):
    Cs 106 [bp c,vS b] e (G1 e [vB m]):=by
 have k:Bl e e:=Below.refl _ _;unfold regex_parser_ahead at i;refine aI Tryz.func106 rfl Tryz.ntmps106 kr ?_;refine bP [(0,bp c),(1,vS b)] ?_;have s:=f.lt;refine aG<|pN 1 [4] []<|bH<|af i ?_;intro n d i
 refine aM (J:=fun a j=>Bl e j∧Sz e j∧aW j c 117 (cI g)∧Qa a 20 [(4,vB n)]) ?_ ?_
 ·refine pL [5,6,7] 7 (bp c)<|bi 9 f 0 rfl<|pL [9,10] 10 (vB (!(g.1.toList==(bb []).toList)))<|cg 10 d (fun o d=>?_) (fun o d=>?_)
  ·refine pN 4 [11,12,13,14] [(11,vS b),(14,bp c)]<|bi 9 f 0 rfl<|af d ?_;intro t p d;refine siq .i64 p bf<|af d ?_;intro q r d;refine ap kr rfl kr enters109 (strings_IndexByte_ok ak b t e q r) ?_;rintro w x ⟨h,rfl⟩;refine pL [4,18,19] 4 (vB (decide (q≥0)))<|aa ?_;obtain rfl:=sj d;refine ac fun a hd hs al=>?_;exact ⟨(bg k h nb),h.size,(f.grown h nb),hd,hs,aU al⟩
  ·refine pL [4,11,12,13,14,15,16,17,18,19] 4 (vB false)<|aa ?_;obtain rfl:=sj d;exact ac fun a hd hs al=>⟨k,bJ,f,hd,hs,aU al⟩
 ·rintro a j ⟨l,u,v,hd,hs,al⟩;refine aK ?_ hd hs al;refine am ?_;obtain rfl:=sj i;refine au (ao [vB n] rfl ⟨kr,trivial⟩ ?_);exact ⟨ad l,rfl⟩

theorem stringslite_HasPrefix_ok (ak:Nat) (c:ByteArray) (b:ByteArray) (e:World) (i:Bool) (f:stringslite_HasPrefix ak c b=some i):
    Cs 155 [vS c,vS b] e (G1 e [vB i]):=by
 have g:Bl e e:=Below.refl _ _;unfold stringslite_HasPrefix at f;refine aI Tryz.func155 rfl Tryz.ntmps155 kr ?_;refine bP [(0,vS c),(1,vS b)]<|aG<|pN 1 [4] []<|bH<|af f ?_;intro j d f
 refine aM (J:=fun a h=>Bl e h∧Sz e h∧Qa a 18 [(4,vB j)]) ?_ ?_
 ·refine pL [5,6,7,8,9,10] 10 (vB (decide ((bz c)≥(bz b))))<|cg 10 d (fun k d=>?_) (fun k d=>?_)
  ·refine pN 3 [11,12,13] [(11,vS c),(13,vI (bz b))]<|af d ?_;intro l m d;refine gv_ssub (t:=9) (s:=c) (lo:=none) (hi:=(some (vI (bz b)))) 0 (bz b) l [] nofun rfl rfl rfl kr kr bf (.inl ⟨rfl,rfl⟩) (.inr ⟨_,rfl⟩) m rfl ?_;refine pL [4,15,16,17] 4 (vB (l.toList==b.toList))<|aa ?_;obtain rfl:=sj d;exact ac fun a hd hs al=>⟨g,bJ,hd,hs,aU al⟩
  ·refine pL [4,11,12,13,14,15,16,17] 4 (vB false)<|aa ?_;obtain rfl:=sj d;exact ac fun a hd hs al=>⟨g,bJ,hd,hs,aU al⟩
 ·rintro a h ⟨n,o,hd,hs,al⟩;refine aK ?_ hd hs al;refine am ?_;obtain rfl:=sj f;refine au (ao [vB j] rfl ⟨kr,trivial⟩ ?_);exact ⟨ad n,rfl⟩

theorem stringslite_CutPrefix_ok (ak:Nat) (b:ByteArray) (a:ByteArray) (d:World) (g:ByteArray × Bool) (c:stringslite_CutPrefix ak b a=some g):
    Cs 129 [vS b,vS a] d (G1 d [vS g.1,vB g.2]):=by
 have e:Bl d d:=Below.refl _ _;unfold stringslite_CutPrefix at c;refine aI Tryz.func129 rfl Tryz.ntmps129 kr ?_;refine bP [(0,vS b),(1,vS a)]<|aG<|pN 2 [4,5] []<|cq<|aG<|pN 2 [6,7] [(6,vS b),(7,vS a)]<|af c ?_;intro i j c;refine ap kr rfl kr enters155 (stringslite_HasPrefix_ok ak b a d i j) ?_;rintro m n ⟨f,rfl⟩;refine p1 9 (vB (!i))<|aa<|bx c (fun k c=>?_) (fun k c=>?_)
 ·refine aG<|pN 3 [4,5,10] [(4,vS b),(5,vB false)]<|aa<|am ?_
  obtain rfl:=sj c;refine au (ao [vS b,vB false] rfl ⟨kr,kr,trivial⟩ ?_);exact ⟨ad (bg e f nb),rfl⟩
 ·refine az<|aG<|pN 3 [11,12,13] [(11,vS b),(13,vI (bz a))]<|af c ?_;intro h l c;refine gv_ssub (t:=9) (s:=b) (lo:=(some (vI (bz a)))) (hi:=none) (bz a) (bz b) h [] nofun rfl rfl rfl kr kr bf (.inr ⟨_,rfl⟩) (.inl ⟨rfl,rfl⟩) l rfl ?_;refine pN 2 [4,5] [(4,vS h),(5,vB true)]<|aa<|am ?_
  obtain rfl:=sj c;refine au (ao [vS h,vB true] rfl ⟨kr,kr,trivial⟩ ?_);exact ⟨ad (bg e f nb),rfl⟩

theorem strings_CutPrefix_ok (ak:Nat) (b:ByteArray) (a:ByteArray) (c:World) (f:ByteArray × Bool) (e:strings_CutPrefix ak b a=some f):
    Cs 108 [vS b,vS a] c (G1 c [vS f.1,vB f.2]):=by
 have g:Bl c c:=Below.refl _ _;unfold strings_CutPrefix at e;refine aI Tryz.func108 rfl Tryz.ntmps108 kr ?_;refine bP [(0,vS b),(1,vS a)]<|aG<|pN 2 [4,5] []<|bH<|pN 2 [6,7] [(6,vS b),(7,vS a)]<|af e ?_;intro d h e;refine ap kr rfl kr enters129 (stringslite_CutPrefix_ok ak b a c d h) ?_;rintro j k ⟨i,rfl⟩;refine pN 4 [4,5,9,10] [(4,vS d.1),(5,vB d.2)]<|aa<|am ?_
 obtain rfl:=sj e;refine au (ao [vS d.1,vB d.2] rfl ⟨kr,kr,trivial⟩ ?_);exact ⟨ad (bg g i nb),rfl⟩

theorem aT (ak:Nat) (a:Nat) (b:cV) (c:ByteArray) (e:World) (f:aW e a 117 (cI b)) (i:Bool × cV) (g:regex_parser_eat ak b c=some i):
    Cs 84 [bp a,vS c] e (Ret fun v w'=>e.grownBy w' (some a)∧v=tup [vB i.1]∧aW w' a 117 (cI i.2)):=by
 have j:e.grownBy e (some a):=cJ _ _;unfold regex_parser_eat at g;refine aI Tryz.func84 rfl Tryz.ntmps84 kr ?_;refine bP [(0,bp a),(1,vS c)] ?_;have n:=f.lt;refine aG<|pN 1 [4] []<|bH<|pL [8,9,10] 10 (bp a)<|bi 9 f 0 rfl<|p1 12 (vS c)<|af g ?_;intro d k g;refine ap kr rfl kr enters108 (strings_CutPrefix_ok ak b.1 c e d k) ?_;rintro p q ⟨h,rfl⟩;refine pN 5 [5,6,7,14,15] [(5,vS d.1),(6,vB d.2)]<|bH<|pN 4 [16,17,18,19] [(17,vS d.1),(19,bp a)]<|aB 9 0 (vS d.1) #[vS d.1,vI b.2.1,vI b.2.2.1,vB b.2.2.2.1,vB b.2.2.2.2] (f.grown h nb) kr kr kr ?_;intro r l m o;refine bH<|pL [4,20] 4 (vB d.2)<|aa<|am ?_
 obtain rfl:=sj g;refine au (ao [vB d.2] rfl ⟨kr,trivial⟩ ?_);exact ⟨(aj (aj j h nb) l bo),rfl,m⟩

theorem cj (ak:Nat) (c:Nat) (e:cV) (aE:bk) (aJ:Nat) (a:bk) (b:Nat) (d:cy) (f:World) (h:Nat→Prop) (l:∀ k,h k→k<f.heap.size∧k≠c) (m:aW f c 117 (cI e)) (bv:Rd bO f h aE aJ d.2.2.2.2.2.1) (r:Rd pcE f h a b d.2.2.2.2.2.2) (s:cy × cV) (H:regex_parser_made ak e d=some s):
    Cs 85 [bp c,.agg (bh d aE aJ a b)] f (Ret fun v w'=>f.grownBy w' (some c)∧∃ (br:bk) (bG:Nat),∃ (n:Nat→Prop),∃ (o:bk) (p:Nat),∃ (q:Nat→Prop),v=tup [.agg (bh s.1 br bG o p)]∧Rd bO w' n br bG s.1.2.2.2.2.2.1∧(Sxb n w' h f)∧Rd pcE w' q o p s.1.2.2.2.2.2.2∧(Sxb q w' h f)∧aW w' c 117 (cI s.2)):=by
 have A:f.grownBy f (some c):=cJ _ _;unfold regex_parser_made at H;refine aI Tryz.func85 rfl Tryz.ntmps85 kr ?_;refine bP [(0,bp c),(1,.agg (bh d aE aJ a b))] ?_;have K:=m.lt;refine aG<|aA bp (bh d aE aJ a b) 25 kr kr ?_
 intro L R t I C P;refine aA bp dy 25 kr kr ?_;intro D S B E i M;refine bH<|pN 3 [5,6,7] [(5,bp c),(7,pt c 1)] ?_
 have u:=(ab t B);have w:=m.grown u nb;refine bi 3 w 1 rfl<|pN 3 [9,10,11] [(9,vI (wI (e.2.1+1))),(11,pt c 1)]<|aB 3 1 (vI (wI (e.2.1+1))) #[vS e.1,vI (wI (e.2.1+1)),vI e.2.2.1,vB e.2.2.2.1,vB e.2.2.2.2] w kr kr kr ?_;intro Q j F N;refine bH<|dd 25 L (bh d aE aJ a b) (bS ((I.grown B nb).grown j (ai (cK C m)))) ?_;have x:=m.grown t nb;refine aB 25 0 (.agg (bh d aE aJ a b)) (bh d aE aJ a b) (E.grown j (ai (cK i x))) kr kr kr ?_;intro J y G O;refine aa<|am ?_
 obtain rfl:=sj H;refine au (ao [.agg (bh d aE aJ a b)] rfl ⟨⟨⟨D,0,none⟩,kr,run_loadVar_row J D _ 25 _ _ _ G bV rfl kr⟩,trivial⟩ ?_);have z:f.heap.size≤D:=bU i (aj A t nb).size;have g:=aj (aj (aj A u nb) j bo) y (cD z);exact ⟨g,aE,aJ,h,a,b,h,rfl,rg bv g l,(fun k hk=>⟨(lz1 l g.size) k hk,(fun k (hk:h k)=>Or.inl hk) k hk⟩),rg r g l,(fun k hk=>⟨(lz1 l g.size) k hk,(fun k (hk:h k)=>Or.inl hk) k hk⟩),(F.grown y (ai (apH i x)))⟩

theorem regex_parser_bounds_ok (ak:Nat) (b:Nat) (d:cV) (c:World) (j:aW c b 117 (cI d)) (e:Int × Int × Bool × cV) (a:regex_parser_bounds ak d=some e):
    Cs 128 [bp b] c (Ret fun v w'=>c.grownBy w' (some b)∧v=tup [vI e.1,vI e.2.1,vB e.2.2.1]∧aW w' b 117 (cI e.2.2.2)):=by
 have k:c.grownBy c (some b):=cJ _ _;unfold regex_parser_bounds at a;refine aI Tryz.func128 rfl Tryz.ntmps128 kr ?_;refine bP [(0,bp b)] ?_;have E:=j.lt;refine aG<|pN 3 [2,3,4] []<|cq<|aF<|aG<|p1 6 (bp b)<|af a ?_;intro n y a;refine ap kr rfl kr ce (aT ak b d (bb [42]) c j n y) ?_;rintro K F ⟨l,rfl,z⟩;refine p1 5 (vB n.1)<|aa<|bx a (fun A a=>?_) (fun A a=>?_)
 ·cases a
 ·refine aG<|p1 9 (bp b)<|af a ?_;intro o B a;refine ap kr rfl kr ce (aT ak b n.2 (bb [43]) F z o B) ?_;rintro G C ⟨f,rfl,p⟩;refine p1 8 (vB o.1)<|aa<|bx a (fun q a=>?_) (fun q a=>?_)
  ·cases a
  ·refine aG<|p1 12 (bp b)<|af a ?_;intro g r a;refine ap kr rfl kr ce (aT ak b o.2 (bb [63]) C p g r) ?_;rintro H D ⟨h,rfl,i⟩;refine p1 11 (vB g.1)<|aa<|bx a (fun s a=>?_) (fun s a=>?_)
   ·refine aG<|pN 3 [2,3,4] [(2,vI 0),(3,vI 1),(4,vB true)]<|aa<|am ?_
    obtain rfl:=sj a;refine au (ao [vI 0,vI 1,vB true] rfl ⟨kr,kr,kr,trivial⟩ ?_);exact ⟨(aj (aj (aj k l bo) f bo) h bo),rfl,i⟩
   ·refine aG<|p1 15 (bp b)<|af a ?_;intro m t a;refine ap kr rfl kr ce (aT ak b g.2 (bb [123]) D i m t) ?_;rintro I J ⟨u,rfl,w⟩;refine pL [14,17] 14 (vB (!m.1))<|aa<|bx a (fun x a=>?_) (fun x a=>?_)
    ·refine aG<|pN 3 [2,3,4] [(2,vI 0),(3,vI 0),(4,vB false)]<|bP [(2,vI 0),(3,vI 0),(4,vB false)]<|aa<|am ?_
     obtain rfl:=sj a;refine au (ao [vI 0,vI 0,vB false] rfl ⟨kr,kr,kr,trivial⟩ ?_);exact ⟨(aj (aj (aj (aj k l bo) f bo) h bo) u bo),rfl,w⟩
    ·cases a

theorem regex_parser_next_ok (ak:Nat) (a:Nat) (b:cV) (d:World) (i:Nat→Prop) (g:∀ k,i k→k<d.heap.size∧k≠a) (h:aW d a 117 (cI b)) (q:Rd bE d i (ro 0) 256 cp) (r:Rd (prE (iE .u8) (iE .u8)) d i (ro 1) 16 cL) (m:Int × cV) (c:regex_parser_next ak b=some m):
    Cs 153 [bp a] d (Ret fun v w'=>d.grownBy w' (some a)∧v=tup [vI m.1]∧aW w' a 117 (cI m.2)):=by
 have f:d.grownBy d (some a):=cJ _ _;unfold regex_parser_next at c;refine aI Tryz.func153 rfl Tryz.ntmps153 kr ?_;refine bP [(0,bp a)] ?_;have y:=h.lt;refine aG<|pN 1 [2] []<|bH<|pL [6,7,8] 8 (bp a)<|bi 9 h 0 rfl<|af c ?_;intro e u c;refine ap kr rfl kr enters168 (utf8_DecodeRuneInString_ok ak b.1 d i (lz1 g f.size) (rg q f g) (rg r f g) e u) ?_;rintro B C ⟨j,rfl⟩;refine pN 5 [3,4,5,11,12] [(3,vR e.1),(4,vI e.2)]<|cq<|aG<|pL [13,14] 14 (vB (e.2==0))<|aa<|bx c (fun w c=>?_) (fun w c=>?_)
 ·cases c
 ·refine az<|aG<|pN 4 [17,18,19,20] [(17,bp a),(20,bp a)] ?_
  have l:=h.grown j nb;refine bi 9 l 0 rfl<|p1 22 (vI e.2)<|af c ?_;intro n x c;refine gv_ssub (t:=9) (s:=b.1) (lo:=(some (vI e.2))) (hi:=none) e.2 (bz b.1) n [] nofun rfl rfl rfl kr kr bf (.inr ⟨_,rfl⟩) (.inl ⟨rfl,rfl⟩) x rfl ?_;refine pL [24,25] 25 (bp a)<|aB 9 0 (vS n) #[vS n,vI b.2.1,vI b.2.2.1,vB b.2.2.2.1,vB b.2.2.2.2] l kr kr kr ?_;intro A o p z;refine bH<|pL [2,26,27] 2 (vI (wI (e.1)))<|aa<|am ?_
  obtain rfl:=sj c;refine au (ao [vI (wI (e.1))] rfl ⟨kr,trivial⟩ ?_);exact ⟨(aj (aj f j nb) o bo),rfl,p⟩

abbrev gC56 (ak:Nat):Prop:=∀ (a:Nat) (i:cV) (b:World) (g:Nat→Prop) (j:∀ k,g k→k<b.heap.size∧k≠a) (l:aW b a 117 (cI i)) (m:Rd bE b g (ro 0) 256 cp) (n:Rd (prE (iE .u8) (iE .u8)) b g (ro 1) 16 cL) (h:cy × cV),regex_parser_alternatives ak i=some h→Calls aq 56 ([bp a]:List Value).toArray b (Ret fun v w'=>b.grownBy w' (some a)∧∃ (br:bk) (bG:Nat),∃ (c:Nat→Prop),∃ (d:bk) (e:Nat),∃ (f:Nat→Prop),v=tup [.agg (bh h.1 br bG d e)]∧Rd bO w' c br bG h.1.2.2.2.2.2.1∧(Sxb c w' g b)∧Rd pcE w' f d e h.1.2.2.2.2.2.2∧(Sxb f w' g b)∧aW w' a 117 (cI h.2))
abbrev gC83 (ak:Nat):Prop:=∀ (a:Nat) (i:cV) (b:World) (g:Nat→Prop) (j:∀ k,g k→k<b.heap.size∧k≠a) (l:aW b a 117 (cI i)) (m:Rd bE b g (ro 0) 256 cp) (n:Rd (prE (iE .u8) (iE .u8)) b g (ro 1) 16 cL) (h:cy × cV),regex_parser_sequence ak i=some h→Calls aq 83 ([bp a]:List Value).toArray b (Ret fun v w'=>b.grownBy w' (some a)∧∃ (br:bk) (bG:Nat),∃ (c:Nat→Prop),∃ (d:bk) (e:Nat),∃ (f:Nat→Prop),v=tup [.agg (bh h.1 br bG d e)]∧Rd bO w' c br bG h.1.2.2.2.2.2.1∧(Sxb c w' g b)∧Rd pcE w' f d e h.1.2.2.2.2.2.2∧(Sxb f w' g b)∧aW w' a 117 (cI h.2))
abbrev gC107 (ak:Nat):Prop:=∀ (a:Nat) (i:cV) (b:World) (g:Nat→Prop) (j:∀ k,g k→k<b.heap.size∧k≠a) (l:aW b a 117 (cI i)) (m:Rd bE b g (ro 0) 256 cp) (n:Rd (prE (iE .u8) (iE .u8)) b g (ro 1) 16 cL) (h:cy × cV),regex_parser_repeated ak i=some h→Calls aq 107 ([bp a]:List Value).toArray b (Ret fun v w'=>b.grownBy w' (some a)∧∃ (br:bk) (bG:Nat),∃ (c:Nat→Prop),∃ (d:bk) (e:Nat),∃ (f:Nat→Prop),v=tup [.agg (bh h.1 br bG d e)]∧Rd bO w' c br bG h.1.2.2.2.2.2.1∧(Sxb c w' g b)∧Rd pcE w' f d e h.1.2.2.2.2.2.2∧(Sxb f w' g b)∧aW w' a 117 (cI h.2))
abbrev gC127 (ak:Nat):Prop:=∀ (a:Nat) (i:cV) (b:World) (g:Nat→Prop) (j:∀ k,g k→k<b.heap.size∧k≠a) (l:aW b a 117 (cI i)) (m:Rd bE b g (ro 0) 256 cp) (n:Rd (prE (iE .u8) (iE .u8)) b g (ro 1) 16 cL) (h:cy × cV),regex_parser_atom ak i=some h→Calls aq 127 ([bp a]:List Value).toArray b (Ret fun v w'=>b.grownBy w' (some a)∧∃ (br:bk) (bG:Nat),∃ (c:Nat→Prop),∃ (d:bk) (e:Nat),∃ (f:Nat→Prop),v=tup [.agg (bh h.1 br bG d e)]∧Rd bO w' c br bG h.1.2.2.2.2.2.1∧(Sxb c w' g b)∧Rd pcE w' f d e h.1.2.2.2.2.2.2∧(Sxb f w' g b)∧aW w' a 117 (cI h.2))
abbrev gC150 (ak:Nat):Prop:=∀ (b:Nat) (m:cV) (aE:bk) (aJ:Nat) (d:bk) (e:Nat) (f:cy) (a:World) (c:Nat→Prop) (o:∀ k,c k→k<a.heap.size∧k≠b) (p:aW a b 117 (cI m)) (bv:Rd bO a c aE aJ f.2.2.2.2.2.1) (n:Rd pcE a c d e f.2.2.2.2.2.2) (q:Rd bE a c (ro 0) 256 cp) (r:Rd (prE (iE .u8) (iE .u8)) a c (ro 1) 16 cL) (l:cy × cV),regex_parser_inside ak m f=some l→Calls aq 150 ([bp b,.agg (bh f aE aJ d e)]:List Value).toArray a (Ret fun v w'=>a.grownBy w' (some b)∧∃ (br:bk) (bG:Nat),∃ (g:Nat→Prop),∃ (h:bk) (i:Nat),∃ (j:Nat→Prop),v=tup [.agg (bh l.1 br bG h i)]∧Rd bO w' g br bG l.1.2.2.2.2.2.1∧(Sxb g w' c a)∧Rd pcE w' j h i l.1.2.2.2.2.2.2∧(Sxb j w' c a)∧aW w' b 117 (cI l.2))
set_option maxHeartbeats 4000000 in
set_option maxRecDepth 100000 in
theorem regex_parser_alternatives_step (ak:Nat) (R:gC56 ak) (c:gC83 ak) (a6:gC107 ak) (b4:gC127 ak) (bE:gC150 ak):gC56 (ak+1):=by
 intro l fl v y f ds eP eQ r0 M;have eR:v.grownBy v (some l):=cJ _ _;rw[regex_parser_alternatives.eq_2]at M;refine aI Tryz.func56 rfl Tryz.ntmps56 kr ?_;refine bP [(0,bp l)] ?_;have w:=ds.lt;refine aG<|aA bp dy 25 kr kr ?_
 intro z w2 eS ea b5 fL;refine bH<|p1 4 (bp l)<|af M ?_;intro r7 fm M;have b0:=aj eR eS nb;refine ap kr rfl kr enters83 (c l fl w2 y (jg f b0) (ds.grown eS nb) (rg eP b0 f) (rg eQ b0 f) r7 fm) ?_;rintro fM eb ⟨ec,eT,eU,dA,eV,eW,dB,rfl,e3,dC,e4,dD,dE⟩;have dF:∀ k,dA k→k<eb.heap.size:=fun k hk=>(dC k hk).1;have ed:∀ k,dA k→y k∨v.heap.size≤k:=fun k hk=>(dC k hk).2.elim (fun h=>(fun k (hk:y k)=>Or.inl hk) k h) (fun h=>.inr (Nat.le_trans b0.size h));have dG:∀ k,dB k→k<eb.heap.size:=fun k hk=>(dD k hk).1;have ee:∀ k,dB k→y k∨v.heap.size≤k:=fun k hk=>(dD k hk).2.elim (fun h=>(fun k (hk:y k)=>Or.inl hk) k h) (fun h=>.inr (Nat.le_trans b0.size h));refine aA (fun b=>.slice (ro b) 1 1) (bh r7.1 eT eU eV eW) 25 kr kr ?_;intro b2 dP S e5 u fF;obtain ⟨b3,e⟩:∃ X:Nat→Prop,X=(fun k=>dA k∨dB k):=⟨_,rfl⟩;have ef:∀ k,b3 k→k<eb.heap.size:=fun k h=>by rw[e]at h;exact (h).elim (fun h=>dF k h) (fun h=>dG k h)
 have e6:∀ k,b3 k→k<dP.heap.size:=fun k h=>b9 (ef k h) S.size;have e7:∀ k,b3 k→y k∨v.heap.size≤k:=fun k h=>by rw[e]at h;exact (h).elim (fun h=>ed k h) (fun h=>ee k h)
 have e8:ar pcE 25 dP b3 (ro b2) 1 ([Pc.of r7.1]:List Pc):=bI e5 (by rw[e];exact ⟨[vI r7.1.1,vI r7.1.2.1,vI r7.1.2.2.1,vB r7.1.2.2.2.1,vB r7.1.2.2.2.2.1,vL eT r7.1.2.2.2.2.2.1 eU,vL eV r7.1.2.2.2.2.2.2 eW],[],rfl,pc_mk7 ((e3.grown S dF nb).wide (fun _ h=>(.inl h))) ((e4.grown S dG nb).wide (fun _ h=>(.inr h))),rfl⟩) (show 1≤maxLen by decide) (fun h=>noteq u (ef _ h));have eg:∀ k,b3 k→(fun k=>dA k∨dB k) k:=fun k h=>by rw[e]at h;exact h
 clear e;have eh:=aj b0 ec bo;have e9:Lo v (ro b2):=loo u eh.size;have fG:=apD u dE;have fH:=apG (p:=l) u dE (fun h=>(eg _ h).elim (xq ed f w) (xq ee f w));have T:=cK b5 ds;have dH:=ea.grown ec (ai T);have F:v.heap.size≤z:=bU b5 eR.size;have fI:∀ g,aL (ro b2)=some g→¬ dA g:=fun g e hx=>nl (cd u g e) (dF _ hx);have fJ:∀ g,aL (ro b2)=some g→¬ dB g:=fun g e hx=>nl (cd u g e) (dG _ hx);refine p1 3 (vL (ro b2) ([Pc.of r7.1]:List Pc) 1)<|cq<|af M ?_;intro W h1 M
 refine aC (J:=fun a K=>∃ (m:bk) (N:Nat),∃ (r:Nat→Prop),v.grownBy K (some l)∧Sz dP K∧ar pcE 25 K r m N W.1∧(Lo v m)∧(∀ k,r k→k<K.heap.size)∧(∀ k,r k→y k∨v.heap.size≤k)∧(∀ g,aL m=some g→¬ (· =z) g)∧¬ (fun k=>aL m=some k∨r k) z∧aW K l 117 (cI W.2)∧aW K z 25 dy∧Qa a 24 [(0,bp l),(2,bp z),(3,vL m W.1 N)]) ?_ ?_
 ·refine aF<|bM (A:=fun (Z:(List Pc) × cV) a ah=>∃ (m:bk) (N:Nat),∃ (r:Nat→Prop),v.grownBy ah (some l)∧Sz dP ah∧ar pcE 25 ah r m N Z.1∧(Lo v m)∧(∀ k,r k→k<ah.heap.size)∧(∀ k,r k→y k∨v.heap.size≤k)∧(∀ g,aL m=some g→¬ (· =z) g)∧¬ (fun k=>aL m=some k∨r k) z∧aW ah l 117 (cI Z.2)∧aW ah z 25 dy∧Qa a 24 [(0,bp l),(2,bp z),(3,vL m Z.1 N)]) h1 ?_ ?_
  ·intro a hd hs al;exact ⟨(ro b2),1,b3,(aj eh S nb),bJ,e8,e9,e6,e7,(apD u dH),(apG (p:=z) u dH (fun h=>(eg _ h).elim (apE dC (xlo F f) ea.lt) (apE dD (xlo F f) ea.lt))),(dE.grown S nb),(dH.grown S nb),hd,hs,aU al⟩
  ·rintro Z r2 h2 fn a ah ⟨o,dQ,L,ei,ej,dI,x,a9,U,dJ,dK,fb,dL,hd,hs,al⟩;refine aK ?_ hd hs al;refine aH<|aG<|p1 7 (bp l)<|af h2 ?_;intro eX fc h2;refine ap kr rfl kr ce (aT ak l Z.2 (bb [124]) ah fb eX fc) ?_;rintro fN fo ⟨q,rfl,ek⟩;refine aa<|bx h2 (fun fd h2=>?_) (fun fd h2=>?_)
   ·refine az<|aF<|av<|pN 2 [9,10] [(9,vL o Z.1 dQ),(10,bp l)]<|af h2 ?_;intro D ff h2;have V:=aj ei q bo;refine ap kr rfl kr enters83 (c l eX.2 fo y (jg f V) ek (rg eP V f) (rg eQ V f) D ff) ?_;rintro fO el ⟨bd,eY,eZ,be,e0,e2,bg,rfl,fg,b6,fh,b7,dM⟩;have an:∀ k,be k→k<el.heap.size:=fun k hk=>(b6 k hk).1;have dR:∀ k,be k→y k∨v.heap.size≤k:=fun k hk=>(b6 k hk).2.elim (fun h=>(fun k (hk:y k)=>Or.inl hk) k h) (fun h=>.inr (Nat.le_trans V.size h));have a0:∀ k,bg k→k<el.heap.size:=fun k hk=>(b7 k hk).1;have dS:∀ k,bg k→y k∨v.heap.size≤k:=fun k hk=>(b7 k hk).2.elim (fun h=>(fun k (hk:y k)=>Or.inl hk) k h) (fun h=>.inr (Nat.le_trans V.size h));refine aA (fun b=>.slice (ro b) 1 1) (bh D.1 eY eZ e0 e2) 25 kr kr ?_;intro d ca n eo i fq;obtain ⟨j,e⟩:∃ X:Nat→Prop,X=(fun k=>be k∨bg k):=⟨_,rfl⟩;have dT:∀ k,j k→k<el.heap.size:=fun k h=>by rw[e]at h;exact (h).elim (fun h=>an k h) (fun h=>a0 k h)
    have dU:∀ k,j k→k<ca.heap.size:=fun k h=>b9 (dT k h) n.size;have ep:∀ k,j k→y k∨v.heap.size≤k:=fun k h=>by rw[e]at h;exact (h).elim (fun h=>dR k h) (fun h=>dS k h)
    have cb:ar pcE 25 ca j (ro d) 1 ([Pc.of D.1]:List Pc):=bI eo (by rw[e];exact ⟨[vI D.1.1,vI D.1.2.1,vI D.1.2.2.1,vB D.1.2.2.2.1,vB D.1.2.2.2.2.1,vL eY D.1.2.2.2.2.2.1 eZ,vL e0 D.1.2.2.2.2.2.2 e2],[],rfl,pc_mk7 ((fg.grown n an nb).wide (fun _ h=>(.inl h))) ((fh.grown n a0 nb).wide (fun _ h=>(.inr h))),rfl⟩) (show 1≤maxLen by decide) (fun h=>noteq i (dT _ h));have cc:∀ k,j k→(fun k=>be k∨bg k) k:=fun k h=>by rw[e]at h;exact h
    clear e;have dV:=aj V bd bo;have eq:Lo v (ro d):=loo i dV.size;have dW:=aS a9 q.size;have ch:=(dI.grown q a9 (dh (ai (xq (fun k (hk:aL o=some k∨L k)=>hk.elim (fun h=>Or.inr (x k h)) (fun h=>U k h)) f w)))).grown bd dW (dh (ai (xq (fun k (hk:aL o=some k∨L k)=>hk.elim (fun h=>Or.inr (x k h)) (fun h=>U k h)) f w)));have a1:=aS dW bd.size;have fr:∀ g,aL (ro d)=some g→¬ (fun k=>aL o=some k∨L k) g:=fun g e hx=>nl (cd i g e) ((fun k (hk:aL o=some k∨L k)=>hk.elim (fun h=>ch.lt k h) (fun h=>a1 k h)) _ hx);have dX:=dI.grown q a9 (dh (ai (xq (fun k (hk:aL o=some k∨L k)=>hk.elim (fun h=>Or.inr (x k h)) (fun h=>U k h)) f w)));have dY:∀ g,aL o=some g→¬ be g:=fun g e h=>((b6 _ h).2.elim (fun h=>((fun g (e:aL o=some g) (hx:y g)=>nl (x g e) (f _ hx).1)) g e h) (fun h=>nl h (dX.lt g e)));have dZ:∀ g,aL o=some g→¬ bg g:=fun g e h=>((b7 _ h).2.elim (fun h=>((fun g (e:aL o=some g) (hx:y g)=>nl (x g e) (f _ hx).1)) g e h) (fun h=>nl h (dX.lt g e)));have d0:∀ g,aL o=some g→¬ (fun k=>aL (ro d)=some k∨j k) g:=fun g e h=>h.elim (fun h=>nl (cd i _ h) ((fun k (hk:aL o=some k∨L k)=>hk.elim (fun h=>ch.lt k h) (fun h=>a1 k h)) g (.inl e))) (fun h=>((cc _ h)).elim (fun h=>(dY) g e h) (fun h=>(dZ) g e h));have fs:=apD i dM;have ft:=apG (p:=l) i dM (fun h=>(cc _ h).elim (xq dR f w) (xq dS f w));have ck:=(dL.grown q (ai T)).grown bd (ai T);have fu:=apD i ck;have d1:=dL.grown q (ai T);have fv:∀ g,aL (ro d)=some g→¬ be g:=fun g e hx=>nl (cd i g e) (an _ hx);have fw:∀ g,aL (ro d)=some g→¬ bg g:=fun g e hx=>nl (cd i g e) (a0 _ hx);refine af h2 ?_;intro dN er h2;obtain ⟨B,e⟩:∃ X:Nat→Prop,X=fun k=>L k∨(fun k=>aL (ro d)=some k∨j k) k:=⟨_,rfl⟩;have d2:∀ k,B k→k<ca.heap.size:=fun k hk=>by rw[e]at hk;exact hk.elim (fun h=>(aS a1 n.size) k h) (fun h=>(fun k (hk:aL (ro d)=some k∨j k)=>hk.elim (fun h=>cb.lt k h) (fun h=>dU k h)) k h)
    have es:∀ k,B k→y k∨v.heap.size≤k:=fun k hk=>by rw[e]at hk;exact hk.elim (fun h=>U k h) (fun h=>(fun k (hk:aL (ro d)=some k∨j k)=>hk.elim (fun h=>Or.inr (eq k h)) (fun h=>ep k h)) k h)
    have d3:=ch.grown n a1 nb;have et:ar pcE 25 ca B o dQ Z.1:=(d3).wide (fun k hk=>by rw[e];exact .inl hk) (fun g e1 hk=>by rw[e]at hk;exact hk.elim (fun h=>(d3).out g e1 h) (fun h=>d0 g e1 h));have eu:∀ k,(fun k=>aL (ro d)=some k∨j k) k→B k:=fun k hk=>by rw[e];exact .inr hk
    have ev:∀ k,B k→L k∨(fun k=>aL (ro d)=some k∨j k) k:=fun k hk=>by rw[e]at hk;exact hk
    clear e;refine ci pcE (t:=23) (ty:=23) (e:=25) (a:=o) (ax:=(ro d)) (cap:=dQ) (cx:=1) (xs:=Z.1) (ys:=([Pc.of D.1]:List Pc)) dN (X:=B) (Y:=(fun k=>aL (ro d)=some k∨j k)) cr rfl rfl kr kr aZ info25 et (cb.rd (Y:=fun k=>aL (ro d)=some k∨j k) (fun _ h=>.inr h) (fun g e=>.inl e)) er (.inl eu) d2 ?_;intro E em fi O ew G;refine ⟨nofun,?_⟩;have d4:=aj dV n nb;have ex:Lo v E:=cz G x d4.size;have ey:∀ k,B k→k<fi.heap.size:=fun k hk=>b9 (d2 k hk) O.size;have cs:=ck.grown n nb;have ez:∀ g,aL E=some g→¬ (· =z) g:=bR G dJ (b8 cs);have eA:¬ (fun k=>aL E=some k∨B k) z:=fun h=>h.elim (fun h=>cl G (fun h=>(dK) (.inl h)) (cs.lt) h) (fun h=>(ev _ h).elim (fun h=>(dK) (.inr h)) (fun h=>((apG (p:=z) i ck (fun h=>(cc _ h).elim (apE b6 (xlo F f) d1.lt) (apE b7 (xlo F f) d1.lt)))) h));have fx:∀ g,aL E=some g→¬ be g:=bR G dY (aS an n.size);have fy:∀ g,aL E=some g→¬ bg g:=bR G dZ (aS a0 n.size);have fz:∀ g,aL E=some g→¬ (fun k=>aL (ro d)=some k∨j k) g:=bR G d0 (fun k (hk:aL (ro d)=some k∨j k)=>hk.elim (fun h=>cb.lt k h) (fun h=>dU k h));refine p1 3 (vL E dN em)<|aa<|bu ?_
    obtain rfl:=sj h2;refine ac fun a hd hs al=>?_;exact ⟨(dN,D.2),rfl,E,em,B,(aj d4 O (fun g e=>.inr (x g e))),(nt (nt (nt (nt ej q.size) bd.size) n.size) O.size),ew,ex,ey,es,ez,eA,((dM.grown n nb).grown O (fun g (e:aL o=some g) (h:g=l)=>negt w (x g e) h)),(cs.grown O dJ),hd,hs,aU al⟩
   ·refine bw<|bL rfl ?_
    obtain rfl:=sj h2;replace h1:=congrArg some (fn _ rfl);obtain rfl:=sj h1;refine ac fun a hd hs al=>?_;exact ⟨o,dQ,L,(aj ei q bo),(nt ej q.size),(dI.grown q a9 (dh (ai (xq (fun k (hk:aL o=some k∨L k)=>hk.elim (fun h=>Or.inr (x k h)) (fun h=>U k h)) f w)))),x,(aS a9 q.size),U,dJ,dK,ek,(dL.grown q (ai T)),hd,hs,aU al⟩
 ·rintro a K ⟨s,dO,C,a2,fA,a3,cv,P,Q,fB,a4,d5,a5,hd,hs,al⟩;refine aK ?_ hd hs al;refine aH<|aG<|pL [14,15,16] 16 (vB ((lz W.1)==1))<|aa<|bx M (fun eB M=>?_) (fun eB M=>?_)
  ·refine aG<|p1 17 (vL s W.1 dO)<|af M ?_;intro cw d6 M;refine cR .i64 7 (a3.rd (Y:=fun k=>aL s=some k∨C k) (fun _ h=>.inr h) (fun g e=>.inl e)) d6 aZ ?_;obtain ⟨_,⟨_,_,rfl,rfl,⟨_,_,rfl,rfl,⟨_,_,rfl,rfl,⟨_,_,rfl,rfl,⟨_,_,rfl,rfl,⟨_,_,rfl,⟨bl,bn,rfl,eC⟩,⟨bs,bA,rfl,eD⟩⟩⟩⟩⟩⟩⟩,eE⟩:=cells_un (a3.cellsK d6);refine laq 25 (aN s ((0:Int).toNat*7)) (dw (Pc.un cw) bl bn bs bA) (bS (eE K (fun _ _=>rfl))) ?_;refine aB 25 0 (.agg (dw (Pc.un cw) bl bn bs bA)) (dw (Pc.un cw) bl bn bs bA) a5 kr kr kr ?_;intro fj H eF fC;refine aa<|am ?_
   obtain rfl:=sj M;refine au (ao [.agg (dw (Pc.un cw) bl bn bs bA)] rfl ⟨⟨⟨z,0,none⟩,kr,run_loadVar_row fj z _ 25 _ _ _ eF bV rfl kr⟩,trivial⟩ ?_);exact ⟨(aj a2 H (cD F)),bl,bn,C,bs,bA,C,rfl,(eC.grown H P (ai (fun h=>a4 (.inr h)))),sxq (aS P H.size) Q,(eD.grown H P (ai (fun h=>a4 (.inr h)))),sxq (aS P H.size) Q,(d5.grown H (ai (apH b5 ds)))⟩
  ·refine az<|aG<|pN 3 [20,21,22] [(20,bp l),(22,.agg #[vI 9,vI 0,vI 0,vB false,vB false,vL none ([]:List bF) 0,vL s W.1 dO])]<|af M ?_;intro c0 eG M;refine ap kr rfl kr enters85 (cj ak l W.2 none 0 s dO (9,0,0,false,false,([]:List bF),W.1) K (fun k=>(fun _=>False) k∨(fun k=>aL s=some k∨C k) k) (fun k hk=>⟨(hk).elim (fun h=>h.elim) (fun h=>(fun k (hk:aL s=some k∨C k)=>hk.elim (fun h=>a3.lt k h) (fun h=>P k h)) k h),fun e=>(hk).elim (fun h=>((h:False).elim)) (fun h=>(xq (fun k (hk:aL s=some k∨C k)=>hk.elim (fun h=>Or.inr (cv k h)) (fun h=>Q k h)) f w) (e ▸ h))⟩) d5 ((dr bO K (fun _=>False) none 0).wide (fun k hk=>(.inl hk))) ((a3.rd (Y:=fun k=>aL s=some k∨C k) (fun _ h=>.inr h) (fun g e=>.inl e)).wide (fun k hk=>(.inr hk))) c0 eG) ?_;rintro fK en ⟨d7,c1,c2,c3,c4,c5,c7,rfl,eH,c8,eI,c9,eJ⟩;have d8:∀ k,c3 k→k<en.heap.size:=fun k hk=>(c8 k hk).1;have eK:∀ k,c3 k→y k∨v.heap.size≤k:=fun k hk=>(c8 k hk).2.elim (fun h=>(h).elim (fun h=>h.elim) (fun h=>(fun k (hk:aL s=some k∨C k)=>hk.elim (fun h=>Or.inr (cv k h)) (fun h=>Q k h)) k h)) (fun h=>.inr (Nat.le_trans a2.size h));have d9:∀ k,c7 k→k<en.heap.size:=fun k hk=>(c9 k hk).1;have eL:∀ k,c7 k→y k∨v.heap.size≤k:=fun k hk=>(c9 k hk).2.elim (fun h=>(h).elim (fun h=>h.elim) (fun h=>(fun k (hk:aL s=some k∨C k)=>hk.elim (fun h=>Or.inr (cv k h)) (fun h=>Q k h)) k h)) (fun h=>.inr (Nat.le_trans a2.size h));refine aB 25 0 (.agg (bh c0.1 c1 c2 c4 c5)) (bh c0.1 c1 c2 c4 c5) (a5.grown d7 (ai T)) kr kr kr ?_;intro fk I eM fD;refine aa<|am ?_
   obtain rfl:=sj M;refine au (ao [.agg (bh c0.1 c1 c2 c4 c5)] rfl ⟨⟨⟨z,0,none⟩,kr,run_loadVar_row fk z _ 25 _ _ _ eM bV rfl kr⟩,trivial⟩ ?_);have eN:¬ c3 z:=fun h=>((c8 _ h).2.elim (fun h=>(h).elim (fun h=>by cases h) (fun h=>(a4) h)) (fun h=>nl h (a5.lt)));have eO:¬ c7 z:=fun h=>((c9 _ h).2.elim (fun h=>(h).elim (fun h=>by cases h) (fun h=>(a4) h)) (fun h=>nl h (a5.lt)));exact ⟨(aj (aj a2 d7 bo) I (cD F)),c1,c2,c3,c4,c5,c7,rfl,(eH.grown I d8 (ai eN)),sxq (aS d8 I.size) eK,(eI.grown I d9 (ai eO)),sxq (aS d9 I.size) eL,(eJ.grown I (ai (apH b5 ds)))⟩
set_option maxHeartbeats 4000000 in
set_option maxRecDepth 100000 in
theorem regex_parser_sequence_step (ak:Nat) (O:gC56 ak) (V:gC83 ak) (n:gC107 ak) (bg:gC127 ak) (a8:gC150 ak) (c:Nat) (eC:cV) (f:World) (y:Nat→Prop) (z:∀ k,y k→k<f.heap.size∧k≠c) (bd:aW f c 117 (cI eC)) (eY:Rd bE f y (ro 0) 256 cp) (eZ:Rd (prE (iE .u8) (iE .u8)) f y (ro 1) 16 cL) (r0:cy × cV) (Q:regex_parser_sequence (ak+1) eC=some r0):
    Cs 83 [bp c] f (Ret fun v w'=>f.grownBy w' (some c)∧∃ (br:bk) (bG:Nat),∃ (dE:Nat→Prop),∃ (dF:bk) (dG:Nat),∃ (dH:Nat→Prop),v=tup [.agg (bh r0.1 br bG dF dG)]∧Rd bO w' dE br bG r0.1.2.2.2.2.2.1∧(Sxb dE w' y f)∧Rd pcE w' dH dF dG r0.1.2.2.2.2.2.2∧(Sxb dH w' y f)∧aW w' c 117 (cI r0.2)):=by
 have dI:f.grownBy f (some c):=cJ _ _;rw[regex_parser_sequence.eq_2]at Q;refine aI Tryz.func83 rfl Tryz.ntmps83 kr ?_;refine bP [(0,bp c)] ?_;have W:=bd.lt;refine aG<|aA bp dy 25 kr kr ?_
 intro s w2 eD e0 F fk;refine bH<|p1 3 (vL none ([]:List Pc) 0)<|cq<|af Q ?_;intro j7 h1 Q
 refine aC (J:=fun a w8=>∃ (d:bk) (I:Nat),∃ (m:Nat→Prop),f.grownBy w8 (some c)∧Sz w2 w8∧ar pcE 25 w8 m d I j7.1∧(Lo f d)∧(∀ k,m k→k<w8.heap.size)∧(∀ k,m k→y k∨f.heap.size≤k)∧(∀ g,aL d=some g→¬ (· =s) g)∧¬ (fun k=>aL d=some k∨m k) s∧aW w8 c 117 (cI j7.2)∧aW w8 s 25 dy∧Qa a 29 [(0,bp c),(2,bp s),(3,vL d j7.1 I)]) ?_ ?_
 ·refine aF<|bM (A:=fun (Z:(List Pc) × cV) a K=>∃ (d:bk) (I:Nat),∃ (m:Nat→Prop),f.grownBy K (some c)∧Sz w2 K∧ar pcE 25 K m d I Z.1∧(Lo f d)∧(∀ k,m k→k<K.heap.size)∧(∀ k,m k→y k∨f.heap.size≤k)∧(∀ g,aL d=some g→¬ (· =s) g)∧¬ (fun k=>aL d=some k∨m k) s∧aW K c 117 (cI Z.2)∧aW K s 25 dy∧Qa a 29 [(0,bp c),(2,bp s),(3,vL d Z.1 I)]) h1 ?_ ?_
  ·intro a hd hs al;exact ⟨none,0,(fun _=>False),(aj dI eD nb),bJ,ar.nil pcE 25 w2 (fun _=>False),nofun,fe,fe,nofun,(fun h=>h.elim nofun (fun e=>e)),(bd.grown eD nb),e0,hd,hs,aU al⟩
  ·rintro Z r2 h2 e2 a K ⟨j,be,P,dU,eL,dV,G,bl,c4,c5,c7,bn,dW,hd,hs,al⟩;refine aK ?_ hd hs al;refine aH<|aG<|af h2 ?_;intro dX h3 h2
   refine aM (J:=fun a an=>f.grownBy an (some c)∧Sz K an∧aW an c 117 (cI dX.2)∧aW an s 25 dy∧ar pcE 25 an P j be Z.1∧Qa a 29 [(0,bp c),(2,bp s),(3,vL j Z.1 be),(13,vB dX.1)]) ?_ ?_
   ·refine pL [4,5,6] 6 (bp c)<|bi 9 bn 0 rfl<|pL [8,9] 9 (vB (!(Z.2.1.toList==(bb []).toList)))<|cg 9 h3 (fun eM h3=>?_) (fun eM h3=>?_)
    ·refine p1 10 (bp c)<|af h3 ?_;intro eE eN h3;refine ap kr rfl kr enters106 (cP ak c Z.2 (bb [124,41]) K bn eE eN) ?_;rintro fl fm ⟨a0,rfl⟩;refine pL [12,13] 13 (vB (!eE))<|aa ?_;obtain rfl:=sj h3;refine ac fun a hd hs al=>?_;exact ⟨(aj dU a0 nb),a0.size,(bn.grown a0 nb),(dW.grown a0 nb),(dV.grown a0 bl nb),hd,hs,aU al⟩
    ·refine pL [10,11,12,13] 13 (vB false)<|aa ?_;obtain rfl:=sj h3;exact ac fun a hd hs al=>⟨dU,bJ,bn,dW,dV,hd,hs,aU al⟩
   ·rintro a an ⟨H,bs,dY,bA,b0,hd,hs,al⟩;refine aK ?_ hd hs al;have dZ:=(nt eL bs);refine bx h2 (fun eO h2=>?_) (fun eO h2=>?_)
    ·refine az<|aF<|av<|pN 2 [14,15] [(14,vL j Z.1 be),(15,bp c)]<|af h2 ?_;intro x eP h2;refine ap kr rfl kr enters107 (n c dX.2 an y (jg z H) dY (rg eY H z) (rg eZ H z) x eP) ?_;rintro fn d0 ⟨a1,eF,eG,a2,eH,eI,a3,rfl,eQ,b2,eR,b3,c9⟩;have b4:∀ k,a2 k→k<d0.heap.size:=fun k hk=>(b2 k hk).1;have d1:∀ k,a2 k→y k∨f.heap.size≤k:=fun k hk=>(b2 k hk).2.elim (fun h=>(fun k (hk:y k)=>Or.inl hk) k h) (fun h=>.inr (Nat.le_trans H.size h));have b5:∀ k,a3 k→k<d0.heap.size:=fun k hk=>(b3 k hk).1;have d2:∀ k,a3 k→y k∨f.heap.size≤k:=fun k hk=>(b3 k hk).2.elim (fun h=>(fun k (hk:y k)=>Or.inl hk) k h) (fun h=>.inr (Nat.le_trans H.size h));refine aA (fun b=>.slice (ro b) 1 1) (bh x.1 eF eG eH eI) 25 kr kr ?_;intro l dJ o eS i fb;obtain ⟨q,e⟩:∃ X:Nat→Prop,X=(fun k=>a2 k∨a3 k):=⟨_,rfl⟩;have d3:∀ k,q k→k<d0.heap.size:=fun k h=>by rw[e]at h;exact (h).elim (fun h=>b4 k h) (fun h=>b5 k h)
     have d4:∀ k,q k→k<dJ.heap.size:=fun k h=>b9 (d3 k h) o.size;have eT:∀ k,q k→y k∨f.heap.size≤k:=fun k h=>by rw[e]at h;exact (h).elim (fun h=>d1 k h) (fun h=>d2 k h)
     have ds:ar pcE 25 dJ q (ro l) 1 ([Pc.of x.1]:List Pc):=bI eS (by rw[e];exact ⟨[vI x.1.1,vI x.1.2.1,vI x.1.2.2.1,vB x.1.2.2.2.1,vB x.1.2.2.2.2.1,vL eF x.1.2.2.2.2.2.1 eG,vL eH x.1.2.2.2.2.2.2 eI],[],rfl,pc_mk7 ((eQ.grown o b4 nb).wide (fun _ h=>(.inl h))) ((eR.grown o b5 nb).wide (fun _ h=>(.inr h))),rfl⟩) (show 1≤maxLen by decide) (fun h=>noteq i (d3 _ h));have dA:∀ k,q k→(fun k=>a2 k∨a3 k) k:=fun k h=>by rw[e]at h;exact h
     clear e;have d5:=aj H a1 bo;have eU:Lo f (ro l):=loo i d5.size;have fc:=apD i c9;have fd:=apG (p:=c) i c9 (fun h=>(dA _ h).elim (xq d1 z W) (xq d2 z W));have dB:=bA.grown a1 (ai (cK F bd));have ff:=apD i dB;have dK:f.heap.size≤s:=bU F dI.size;have dC:=b0.grown a1 (aS bl bs) (dh (ai (xq (fun k (hk:aL j=some k∨P k)=>hk.elim (fun h=>Or.inr (G k h)) (fun h=>c4 k h)) z W)));have b6:=aS (aS bl bs) a1.size;have fg:∀ g,aL (ro l)=some g→¬ (fun k=>aL j=some k∨P k) g:=fun g e hx=>nl (cd i g e) ((fun k (hk:aL j=some k∨P k)=>hk.elim (fun h=>dC.lt k h) (fun h=>b6 k h)) _ hx);have d6:∀ g,aL j=some g→¬ a2 g:=fun g e h=>((b2 _ h).2.elim (fun h=>((fun g (e:aL j=some g) (hx:y g)=>nl (G g e) (z _ hx).1)) g e h) (fun h=>nl h (b0.lt g e)));have d7:∀ g,aL j=some g→¬ a3 g:=fun g e h=>((b3 _ h).2.elim (fun h=>((fun g (e:aL j=some g) (hx:y g)=>nl (G g e) (z _ hx).1)) g e h) (fun h=>nl h (b0.lt g e)));have d8:∀ g,aL j=some g→¬ (fun k=>aL (ro l)=some k∨q k) g:=fun g e h=>h.elim (fun h=>nl (cd i _ h) ((fun k (hk:aL j=some k∨P k)=>hk.elim (fun h=>dC.lt k h) (fun h=>b6 k h)) g (.inl e))) (fun h=>((dA _ h)).elim (fun h=>(d6) g e h) (fun h=>(d7) g e h));have fh:∀ g,aL (ro l)=some g→¬ a2 g:=fun g e hx=>nl (cd i g e) (b4 _ hx);have fi:∀ g,aL (ro l)=some g→¬ a3 g:=fun g e hx=>nl (cd i g e) (b5 _ hx);refine af h2 ?_;intro d9 ee h2;obtain ⟨u,e⟩:∃ X:Nat→Prop,X=fun k=>P k∨(fun k=>aL (ro l)=some k∨q k) k:=⟨_,rfl⟩;have dL:∀ k,u k→k<dJ.heap.size:=fun k hk=>by rw[e]at hk;exact hk.elim (fun h=>(aS b6 o.size) k h) (fun h=>(fun k (hk:aL (ro l)=some k∨q k)=>hk.elim (fun h=>ds.lt k h) (fun h=>d4 k h)) k h)
     have ef:∀ k,u k→y k∨f.heap.size≤k:=fun k hk=>by rw[e]at hk;exact hk.elim (fun h=>c4 k h) (fun h=>(fun k (hk:aL (ro l)=some k∨q k)=>hk.elim (fun h=>Or.inr (eU k h)) (fun h=>eT k h)) k h)
     have dM:=dC.grown o b6 nb;have eg:ar pcE 25 dJ u j be Z.1:=(dM).wide (fun k hk=>by rw[e];exact .inl hk) (fun g e1 hk=>by rw[e]at hk;exact hk.elim (fun h=>(dM).out g e1 h) (fun h=>d8 g e1 h));have eh:∀ k,(fun k=>aL (ro l)=some k∨q k) k→u k:=fun k hk=>by rw[e];exact .inr hk
     have ei:∀ k,u k→P k∨(fun k=>aL (ro l)=some k∨q k) k:=fun k hk=>by rw[e]at hk;exact hk
     clear e;refine ci pcE (t:=23) (ty:=23) (e:=25) (a:=j) (ax:=(ro l)) (cap:=be) (cx:=1) (xs:=Z.1) (ys:=([Pc.of x.1]:List Pc)) d9 (X:=u) (Y:=(fun k=>aL (ro l)=some k∨q k)) cr rfl rfl kr kr aZ info25 eg (ds.rd (Y:=fun k=>aL (ro l)=some k∨q k) (fun _ h=>.inr h) (fun g e=>.inl e)) ee (.inl eh) dL ?_;intro B ea eV L ej C;refine ⟨nofun,?_⟩;have dN:=aj d5 o nb;have ek:Lo f B:=cz C G dN.size;have el:∀ k,u k→k<eV.heap.size:=fun k hk=>b9 (dL k hk) L.size;have b7:=dB.grown o nb;have em:∀ g,aL B=some g→¬ (· =s) g:=bR C c5 (b8 b7);have en:¬ (fun k=>aL B=some k∨u k) s:=fun h=>h.elim (fun h=>cl C (fun h=>(c7) (.inl h)) (b7.lt) h) (fun h=>(ei _ h).elim (fun h=>(c7) (.inr h)) (fun h=>((apG (p:=s) i dB (fun h=>(dA _ h).elim (apE b2 (xlo dK z) bA.lt) (apE b3 (xlo dK z) bA.lt)))) h));have e4:∀ g,aL B=some g→¬ a2 g:=bR C d6 (aS b4 o.size);have e5:∀ g,aL B=some g→¬ a3 g:=bR C d7 (aS b5 o.size);have e6:∀ g,aL B=some g→¬ (fun k=>aL (ro l)=some k∨q k) g:=bR C d8 (fun k (hk:aL (ro l)=some k∨q k)=>hk.elim (fun h=>ds.lt k h) (fun h=>d4 k h));refine p1 3 (vL B d9 ea)<|aa<|bu ?_
     obtain rfl:=sj h2;refine ac fun a hd hs al=>?_;exact ⟨(d9,x.2),rfl,B,ea,u,(aj dN L (fun g e=>.inr (G g e))),(nt (nt (nt dZ a1.size) o.size) L.size),ej,ek,el,ef,em,en,((c9.grown o nb).grown L (fun g (e:aL j=some g) (h:g=c)=>negt W (G g e) h)),(b7.grown L c5),hd,hs,aU al⟩
    ·refine bw<|bL rfl ?_
     obtain rfl:=sj h2;replace h1:=congrArg some (e2 _ rfl);obtain rfl:=sj h1;refine ac fun a hd hs al=>?_;exact ⟨j,be,P,H,dZ,b0,G,aS bl bs,c4,c5,c7,dY,bA,hd,hs,aU al⟩
 ·rintro a w8 ⟨r,dD,w,R,e7,S,ca,M,N,e8,T,dO,U,hd,hs,al⟩;refine aK ?_ hd hs al;refine aH<|aG<|pL [19,20,21] 21 (vB ((lz j7.1)==1))<|aa<|bx Q (fun eo Q=>?_) (fun eo Q=>?_)
  ·refine aG<|p1 22 (vL r j7.1 dD)<|af Q ?_;intro cb dP Q;refine cR .i64 7 (S.rd (Y:=fun k=>aL r=some k∨w k) (fun _ h=>.inr h) (fun g e=>.inl e)) dP aZ ?_;obtain ⟨_,⟨_,_,rfl,rfl,⟨_,_,rfl,rfl,⟨_,_,rfl,rfl,⟨_,_,rfl,rfl,⟨_,_,rfl,rfl,⟨_,_,rfl,⟨a4,a5,rfl,ep⟩,⟨a6,a7,rfl,eq⟩⟩⟩⟩⟩⟩⟩,er⟩:=cells_un (S.cellsK dP);refine laq 25 (aN r ((0:Int).toNat*7)) (dw (Pc.un cb) a4 a5 a6 a7) (bS (er w8 (fun _ _=>rfl))) ?_;refine aB 25 0 (.agg (dw (Pc.un cb) a4 a5 a6 a7)) (dw (Pc.un cb) a4 a5 a6 a7) U kr kr kr ?_;intro eW D es e9;refine aa<|am ?_
   obtain rfl:=sj Q;refine au (ao [.agg (dw (Pc.un cb) a4 a5 a6 a7)] rfl ⟨⟨⟨s,0,none⟩,kr,run_loadVar_row eW s _ 25 _ _ _ es bV rfl kr⟩,trivial⟩ ?_);have eb:f.heap.size≤s:=bU F dI.size;exact ⟨(aj R D (cD eb)),a4,a5,w,a6,a7,w,rfl,(ep.grown D M (ai (fun h=>T (.inr h)))),sxq (aS M D.size) N,(eq.grown D M (ai (fun h=>T (.inr h)))),sxq (aS M D.size) N,(dO.grown D (ai (apH F bd)))⟩
  ·refine az<|aG<|pN 3 [25,26,27] [(25,bp c),(27,.agg #[vI 8,vI 0,vI 0,vB false,vB false,vL none ([]:List bF) 0,vL r j7.1 dD])]<|af Q ?_;intro cc et Q;refine ap kr rfl kr enters85 (cj ak c j7.2 none 0 r dD (8,0,0,false,false,([]:List bF),j7.1) w8 (fun k=>(fun _=>False) k∨(fun k=>aL r=some k∨w k) k) (fun k hk=>⟨(hk).elim (fun h=>h.elim) (fun h=>(fun k (hk:aL r=some k∨w k)=>hk.elim (fun h=>S.lt k h) (fun h=>M k h)) k h),fun e=>(hk).elim (fun h=>((h:False).elim)) (fun h=>(xq (fun k (hk:aL r=some k∨w k)=>hk.elim (fun h=>Or.inr (ca k h)) (fun h=>N k h)) z W) (e ▸ h))⟩) dO ((dr bO w8 (fun _=>False) none 0).wide (fun k hk=>(.inl hk))) ((S.rd (Y:=fun k=>aL r=some k∨w k) (fun _ h=>.inr h) (fun g e=>.inl e)).wide (fun k hk=>(.inr hk))) cc et) ?_;rintro fj ec ⟨dQ,ch,ck,cs,cv,cw,c0,rfl,eu,c1,ev,c2,ew⟩;have dR:∀ k,cs k→k<ec.heap.size:=fun k hk=>(c1 k hk).1;have ex:∀ k,cs k→y k∨f.heap.size≤k:=fun k hk=>(c1 k hk).2.elim (fun h=>(h).elim (fun h=>h.elim) (fun h=>(fun k (hk:aL r=some k∨w k)=>hk.elim (fun h=>Or.inr (ca k h)) (fun h=>N k h)) k h)) (fun h=>.inr (Nat.le_trans R.size h));have dS:∀ k,c0 k→k<ec.heap.size:=fun k hk=>(c2 k hk).1;have ey:∀ k,c0 k→y k∨f.heap.size≤k:=fun k hk=>(c2 k hk).2.elim (fun h=>(h).elim (fun h=>h.elim) (fun h=>(fun k (hk:aL r=some k∨w k)=>hk.elim (fun h=>Or.inr (ca k h)) (fun h=>N k h)) k h)) (fun h=>.inr (Nat.le_trans R.size h));refine aB 25 0 (.agg (bh cc.1 ch ck cv cw)) (bh cc.1 ch ck cv cw) (U.grown dQ (ai (cK F bd))) kr kr kr ?_;intro eX E ez fa;refine aa<|am ?_
   obtain rfl:=sj Q;refine au (ao [.agg (bh cc.1 ch ck cv cw)] rfl ⟨⟨⟨s,0,none⟩,kr,run_loadVar_row eX s _ 25 _ _ _ ez bV rfl kr⟩,trivial⟩ ?_);have ed:f.heap.size≤s:=bU F dI.size;have eA:¬ cs s:=fun h=>((c1 _ h).2.elim (fun h=>(h).elim (fun h=>by cases h) (fun h=>(T) h)) (fun h=>nl h (U.lt)));have eB:¬ c0 s:=fun h=>((c2 _ h).2.elim (fun h=>(h).elim (fun h=>by cases h) (fun h=>(T) h)) (fun h=>nl h (U.lt)));exact ⟨(aj (aj R dQ bo) E (cD ed)),ch,ck,cs,cv,cw,c0,rfl,(eu.grown E dR (ai eA)),sxq (aS dR E.size) ex,(ev.grown E dS (ai eB)),sxq (aS dS E.size) ey,(ew.grown E (ai (apH F bd)))⟩
set_option maxHeartbeats 4000000 in
set_option maxRecDepth 100000 in
theorem regex_parser_repeated_step (ak:Nat) (ea:gC56 ak) (eF:gC83 ak) (eG:gC107 ak) (c7:gC127 ak) (eQ:gC150 ak) (c:Nat) (hL:cV) (r:World) (X0:Nat→Prop) (s:∀ k,X0 k→k<r.heap.size∧k≠c) (bd:aW r c 117 (cI hL)) (lb:Rd bE r X0 (ro 0) 256 cp) (lc:Rd (prE (iE .u8) (iE .u8)) r X0 (ro 1) 16 cL) (r0:cy × cV) (W:regex_parser_repeated (ak+1) hL=some r0):
    Cs 107 [bp c] r (Ret fun v w'=>r.grownBy w' (some c)∧∃ (br:bk) (bG:Nat),∃ (fL:Nat→Prop),∃ (fM:bk) (fN:Nat),∃ (fO:Nat→Prop),v=tup [.agg (bh r0.1 br bG fM fN)]∧Rd bO w' fL br bG r0.1.2.2.2.2.2.1∧(Sxb fL w' X0 r)∧Rd pcE w' fO fM fN r0.1.2.2.2.2.2.2∧(Sxb fO w' X0 r)∧aW w' c 117 (cI r0.2)):=by
 have eH:r.grownBy r (some c):=cJ _ _;rw[regex_parser_repeated.eq_2]at W;refine aI Tryz.func107 rfl Tryz.ntmps107 kr ?_;refine bP [(0,bp c)] ?_;have w:=bd.lt;refine aG<|aA bp dy 25 kr kr ?_
 intro q w2 hN L M ld;refine bH<|p1 8 (bp c)<|af W ?_;intro m k1 W;have Z:=aj eH hN nb;refine ap kr rfl kr enters127 (c7 c hL w2 X0 (jg s Z) (bd.grown hN nb) (rg lb Z s) (rg lc Z s) m k1) ?_;rintro me k2 ⟨x,C,D,P,E,F,Q,rfl,c8,dJ,c9,dK,eI⟩;have A:∀ k,P k→k<k2.heap.size:=fun k hk=>(dJ k hk).1;have H:∀ k,P k→X0 k∨r.heap.size≤k:=fun k hk=>(dJ k hk).2.elim (fun h=>(fun k (hk:X0 k)=>Or.inl hk) k h) (fun h=>.inr (Nat.le_trans Z.size h));have B:∀ k,Q k→k<k2.heap.size:=fun k hk=>(dK k hk).1;have I:∀ k,Q k→X0 k∨r.heap.size≤k:=fun k hk=>(dK k hk).2.elim (fun h=>(fun k (hk:X0 k)=>Or.inl hk) k h) (fun h=>.inr (Nat.le_trans Z.size h));refine aA bp dy 25 kr kr ?_;intro ah mf f hO n k3;refine aB 25 0 (.agg (bh m.1 C D E F)) (bh m.1 C D E F) hO kr kr kr ?_;intro le i fH k4;refine bH<|p1 11 (bp c)<|af W ?_;intro j hP W;refine ap kr rfl kr enters128 (regex_parser_bounds_ok ak c m.2 le ((eI.grown f nb).grown i (ai (apH n eI))) j hP) ?_;rintro mg lf ⟨d,rfl,bl⟩;refine pN 7 [4,5,6,10,13,14,15] [(4,vI j.1),(5,vI j.2.1),(6,vB j.2.2.1)]<|cq<|aG<|pL [16,17] 17 (vB (!j.2.2.1))<|aa<|bx W (fun hQ W=>?_) (fun hQ W=>?_)
 ·refine aG<|dd 25 ah (bh m.1 C D E F) (bS (fH.grown d (ai (cK n eI)))) ?_;have fI:=cK M bd;refine aB 25 0 (.agg (bh m.1 C D E F)) (bh m.1 C D E F) ((((L.grown x (ai fI)).grown f nb).grown i (ai (ng (b9 ((b8 (L.grown x (ai fI))) _ rfl) ((bc n) _ rfl))))).grown d (ai fI)) kr kr kr ?_;intro lg eb k5 lS;refine aa<|am ?_
  obtain rfl:=sj W;refine au (ao [.agg (bh m.1 C D E F)] rfl ⟨⟨⟨q,0,none⟩,kr,run_loadVar_row lg q _ 25 _ _ _ k5 bV rfl kr⟩,trivial⟩ ?_);have iH:r.heap.size≤ah:=bU n (aj Z x bo).size;have eR:r.heap.size≤q:=bU M eH.size;have hR:=aS A f.size;have hS:=aS hR i.size;have hT:=aS hS d.size;have hU:=aS B f.size;have hV:=aS hU i.size;have hW:=aS hV d.size;exact ⟨(aj (aj (aj (aj (aj Z x bo) f nb) i (cD iH)) d bo) eb (cD eR)),C,D,P,E,F,Q,rfl,((((c8.grown f A nb).grown i hR (ai (apF n A))).grown d hS (ai (xq H s w))).grown eb hT (ai (apE dJ (xlo eR s) L.lt))),sxq (aS hT eb.size) H,((((c9.grown f B nb).grown i hU (ai (apF n B))).grown d hV (ai (xq I s w))).grown eb hW (ai (apE dK (xlo eR s) L.lt))),sxq (aS hW eb.size) I,(bl.grown eb (ai (apH M bd)))⟩
 ·refine az<|aH<|aG<|p1 19 (bp ah) ?_
  have ec:=cK n eI;have ch:=fH.grown d (ai ec);refine bi 3 ch 0 rfl<|aa<|aF<|aH<|aG<|pL [21,22] 21 (vB (m.1.1==4))<|aa<|bx W (fun hX W=>?_) (fun hX W=>?_)
  ·cases W
  ·refine aG<|pL [21,23] 21 (vB (m.1.1==5))<|aa<|bx W (fun hY W=>?_) (fun hY W=>?_)
   ·cases W
   ·refine aG<|pL [21,24] 21 (vB (m.1.1==6))<|bP [(0,bp c),(2,bp q),(3,bp ah),(4,vI j.1),(5,vI j.2.1),(20,vI m.1.1),(21,vB (m.1.1==6))]<|aa<|bx W (fun hZ W=>?_) (fun hZ W=>?_)
    ·cases W
    ·refine av<|pL [21,25] 21 (vB (m.1.1==11))<|aa<|dj (b:=(m.1.1==11)) kr (fun eS=>?_) (fun eS=>?_)
     ·replace W:=ite_t eS W;cases W
     ·replace W:=ite_f eS W;refine az<|bu<|aH<|af W ?_;intro d0 h1 W
      refine aC (J:=fun a dL=>∃ (ej:bk) (ek:Nat),∃ (a5:Nat→Prop),∃ (el:bk) (em:Nat),∃ (a6:Nat→Prop),∃ (b0:Nat),r.grownBy dL (some c)∧Sz lf dL∧Rd bO dL a5 ej ek d0.2.2.2.2.2.2.1∧(∀ k,a5 k→k<dL.heap.size)∧(∀ k,a5 k→X0 k∨r.heap.size≤k)∧Rd pcE dL a6 el em d0.2.2.2.2.2.2.2∧(∀ k,a6 k→k<dL.heap.size)∧(∀ k,a6 k→X0 k∨r.heap.size≤k)∧¬ a5 q∧¬ a5 b0∧¬ a6 q∧¬ a6 b0∧¬ (· =q) b0∧aW dL c 117 (cI d0.1)∧aW dL q 25 dy∧aW dL b0 25 (bh d0.2 ej ek el em)∧r.heap.size≤b0∧Qa a 42 [(0,bp c),(2,bp q),(7,bp b0)]) ?_ ?_
      ·refine bQ kr ?_;intro dI l;refine af h1 ?_;intro z ed h1;refine af h1 ?_;intro K fP h1;refine gv_shareA (fun σ ck=>∃ (an:Nat),∃ (ds:bk),∃ (dA:Nat),∃ (dY:Nat→Prop),∃ (dB:bk),∃ (dC:Nat),∃ (dZ:Nat→Prop),σ=[(0,bp c),(2,bp q),(7,bp an),(36,.agg (bh K.1 ds dA dB dC))]∧r.grownBy ck (some c)∧Sz dI ck∧aW ck c 117 (cI K.2)∧aW ck q 25 dy∧aW ck an 25 dy∧r.heap.size≤an∧Rd bO ck dY ds dA K.1.2.2.2.2.2.1∧(∀ k,dY k→k<ck.heap.size)∧(∀ k,dY k→X0 k∨r.heap.size≤k)∧Rd pcE ck dZ dB dC K.1.2.2.2.2.2.2∧(∀ k,dZ k→k<ck.heap.size)∧(∀ k,dZ k→X0 k∨r.heap.size≤k)∧(¬ (· =an) c)∧(¬ dY q)∧(¬ dZ q)∧(¬ (· =an) q)∧(¬ (· =c) an)∧(¬ (· =q) an)∧(¬ dY an)∧(¬ dZ an)) (bA 11 [0,1,2,3,4,5,6,7,8,9]) 1 ?_ fun h3=>?_
       ·rintro σ ck ⟨an,ds,dA,dY,dB,dC,dZ,rfl,iI,iJ,iK,iL,iM,fw,iN,fQ,iO,iP,fR,iQ,li,iR,iS,lj,iT,fS,fT,fU⟩;refine gv_alt [(10,bA 11 [0,1,2,3,4,5,6,7,8,9,10])] 0 kr kr ⟨?_,trivial⟩;refine du (t:=25) (b:=an) (off:=0) (v:=(.agg #[.int .i64 K.1.1,.int .i64 K.1.2.1,.int .i64 K.1.2.2.1,.bool K.1.2.2.2.1,.bool K.1.2.2.2.2.1,.slice ds (length K.1.2.2.2.2.2.1) dA,.slice dB (length K.1.2.2.2.2.2.2) dC])) (t':=25) (cs:=#[.int .i64 0,.int .i64 0,.int .i64 0,.bool false,.bool false,.slice none (length ([]:List bF)) 0,.slice none (length ([]:List Pc)) 0]) #[.int .i64 K.1.1,.int .i64 K.1.2.1,.int .i64 K.1.2.2.1,.bool K.1.2.2.2.1,.bool K.1.2.2.2.2.1,.slice ds (length K.1.2.2.2.2.2.1) dA,.slice dB (length K.1.2.2.2.2.2.2) dC] cr rfl rfl kr kr kr (by intro u hu;simp[Value.cells]at hu;rcases hu with rfl | rfl | rfl | rfl | rfl | rfl | rfl<;>rfl) (show 0+7≤7 by decide) (by rfl) iM ?_;intro lT b2 iU lk;refine ⟨(fun _=>trivial),?_⟩;refine aa<|ay<|ba kr ?_;obtain rfl:=sj h1;refine ac fun a hd hs al=>?_;exact ⟨ds,dA,dY,dB,dC,dZ,an,(aj iI b2 (cD fw)),(nt (nt l.size iJ) b2.size),(iN.grown b2 fQ (ai fT)),(aS fQ b2.size),iO,(iP.grown b2 fR (ai fU)),(aS fR b2.size),iQ,iR,fT,iS,fU,fS,(iK.grown b2 (ai iT)),(iL.grown b2 (ai fS)),iU,fw,hd,hs,aU al⟩
       refine gv_shareA (fun σ cv=>∃ (N:Nat),∃ (o:Nat),∃ (a8:Nat→Prop),σ=[(0,bp c),(2,bp q),(7,bp N),(28,bp c),(35,.agg #[vI 10,vI j.1,vI j.2.1,vB false,vB z.1,vL none ([]:List bF) 0,vL (ro o) ([Pc.of m.1]:List Pc) 1])]∧r.grownBy cv (some c)∧Sz dI cv∧aW cv c 117 (cI z.2)∧aW cv q 25 dy∧aW cv N 25 dy∧r.heap.size≤N∧ar pcE 25 cv a8 (ro o) 1 ([Pc.of m.1]:List Pc)∧(∀ k,a8 k→k<cv.heap.size)∧(Lo r (ro o))∧(∀ k,a8 k→X0 k∨r.heap.size≤k)∧(¬ (fun k=>aL (ro o)=some k∨a8 k) c)∧(¬ (· =N) c)∧(¬ (fun k=>aL (ro o)=some k∨a8 k) q)∧(¬ (· =N) q)∧(∀ g,aL (ro o)=some g→¬ (· =c) g)∧(∀ g,aL (ro o)=some g→¬ (· =q) g)∧(∀ g,aL (ro o)=some g→¬ (· =N) g)∧(¬ (· =c) N)∧(¬ (· =q) N)∧(¬ (fun k=>aL (ro o)=some k∨a8 k) N)) (bA 11 [0,1,2,3,4,5,6,7,9]) 2 ?_ fun h4=>?_
       ·rintro σ cv ⟨N,o,a8,rfl,eT,iV,iW,eU,eV,h5,fV,iX,fx,fW,iY,fX,fY,iZ,ll,lm,ln,i0,i1,fZ⟩;refine gv_alt [(8,bA 11 [0,1,2,3,4,5,6,7,8,9])] 1 kr kr ⟨?_,trivial⟩;refine clq enters85 (cj ak c z.2 none 0 (ro o) 1 (10,j.1,j.2.1,false,z.1,([]:List bF),([Pc.of m.1]:List Pc)) cv (fun k=>(fun _=>False) k∨(fun k=>aL (ro o)=some k∨a8 k) k) (fun k hk=>⟨(hk).elim (fun h=>h.elim) (fun h=>(fun k (hk:aL (ro o)=some k∨a8 k)=>hk.elim (fun h=>fV.lt k h) (fun h=>iX k h)) k h),fun e=>(hk).elim (fun h=>((h:False).elim)) (fun h=>iY (e ▸ h))⟩) iW ((dr bO cv (fun _=>False) none 0).wide (fun k hk=>(.inl hk))) ((fV.rd (Y:=fun k=>aL (ro o)=some k∨a8 k) (fun _ h=>.inr h) (fun g e=>.inl e)).wide (fun k hk=>(.inr hk))) K fP) ?_;rintro lU h6 ⟨en,h7,h8,eJ,h9,ia,eK,rfl,i2,eo,i3,ep,i4⟩;refine ⟨(fun _=>trivial),?_⟩;have i5:∀ k,eJ k→k<h6.heap.size:=fun k hk=>(eo k hk).1;have i6:∀ k,eJ k→X0 k∨r.heap.size≤k:=fun k hk=>(eo k hk).2.elim (fun h=>(h).elim (fun h=>h.elim) (fun h=>(fun k (hk:aL (ro o)=some k∨a8 k)=>hk.elim (fun h=>Or.inr (fx k h)) (fun h=>fW k h)) k h)) (fun h=>.inr (Nat.le_trans eT.size h));have i7:∀ k,eK k→k<h6.heap.size:=fun k hk=>(ep k hk).1;have i8:∀ k,eK k→X0 k∨r.heap.size≤k:=fun k hk=>(ep k hk).2.elim (fun h=>(h).elim (fun h=>h.elim) (fun h=>(fun k (hk:aL (ro o)=some k∨a8 k)=>hk.elim (fun h=>Or.inr (fx k h)) (fun h=>fW k h)) k h)) (fun h=>.inr (Nat.le_trans eT.size h));refine aa<|bj [0,2,7,36] (σ':=[(0,bp c),(2,bp q),(7,bp N),(36,.agg (bh K.1 h7 h8 h9 ia))]) kr<|ay ?_;have i9:¬ eJ q:=fun h=>((eo _ h).2.elim (fun h=>(h).elim (fun h=>by cases h) (fun h=>(fY) h)) (fun h=>nl h (eU.lt)));have ja:¬ eK q:=fun h=>((ep _ h).2.elim (fun h=>(h).elim (fun h=>by cases h) (fun h=>(fY) h)) (fun h=>nl h (eU.lt)));have jb:¬ eJ N:=fun h=>((eo _ h).2.elim (fun h=>(h).elim (fun h=>by cases h) (fun h=>(fZ) h)) (fun h=>nl h (eV.lt)));have jc:¬ eK N:=fun h=>((ep _ h).2.elim (fun h=>(h).elim (fun h=>by cases h) (fun h=>(fZ) h)) (fun h=>nl h (eV.lt)));exact h3 _ _ ⟨N,h7,h8,eJ,h9,ia,eK,rfl,(aj eT en bo),(nt iV en.size),i4,(eU.grown en (ai (cK M bd))),(eV.grown en (ai fX)),h5,i2,i5,i6,i3,i7,i8,fX,i9,ja,iZ,i0,i1,jb,jc⟩
       refine gv_shareA (fun σ dD=>∃ (o:Nat),∃ (a2:Nat→Prop),σ=[(0,bp c),(2,bp q),(28,bp c),(29,vI j.1),(30,vI j.2.1),(32,vB z.1),(34,vL (ro o) ([Pc.of m.1]:List Pc) 1)]∧r.grownBy dD (some c)∧Sz dI dD∧aW dD c 117 (cI z.2)∧aW dD q 25 dy∧ar pcE 25 dD a2 (ro o) 1 ([Pc.of m.1]:List Pc)∧(∀ k,a2 k→k<dD.heap.size)∧(Lo r (ro o))∧(∀ k,a2 k→X0 k∨r.heap.size≤k)∧(¬ (fun k=>aL (ro o)=some k∨a2 k) c)∧(¬ (fun k=>aL (ro o)=some k∨a2 k) q)∧(∀ g,aL (ro o)=some g→¬ (· =c) g)∧(∀ g,aL (ro o)=some g→¬ (· =q) g)) (bA 11 [0,1,2,3,4,5,6]) 4 ?_ fun ib=>?_
       ·rintro σ dD ⟨o,a2,rfl,dP,f0,eq,dQ,d1,d2,eL,eW,f1,eX,jd,je⟩;refine aV [7] (bA 11 [0,1,2,3,4,5,6,7]) 3 kr kr<|p1 35 (.agg #[vI 10,vI j.1,vI j.2.1,vB false,vB z.1,vL none ([]:List bF) 0,vL (ro o) ([Pc.of m.1]:List Pc) 1])<|aa<|ay<|gv_alt [(8,bA 11 [0,1,2,3,4,5,6,7,8]),(9,bA 11 [0,1,2,3,4,5,6,7,9])] 2 kr kr ⟨?_,?_,trivial⟩
        ·refine clq enters85 (cj ak c z.2 none 0 (ro o) 1 (10,j.1,j.2.1,false,z.1,([]:List bF),([Pc.of m.1]:List Pc)) dD (fun k=>(fun _=>False) k∨(fun k=>aL (ro o)=some k∨a2 k) k) (fun k hk=>⟨(hk).elim (fun h=>h.elim) (fun h=>(fun k (hk:aL (ro o)=some k∨a2 k)=>hk.elim (fun h=>d1.lt k h) (fun h=>d2 k h)) k h),fun e=>(hk).elim (fun h=>((h:False).elim)) (fun h=>f1 (e ▸ h))⟩) eq ((dr bO dD (fun _=>False) none 0).wide (fun k hk=>(.inl hk))) ((d1.rd (Y:=fun k=>aL (ro o)=some k∨a2 k) (fun _ h=>.inr h) (fun g e=>.inl e)).wide (fun k hk=>(.inr hk))) K fP) ?_;rintro lV ic ⟨d3,ds,dA,eY,dB,dC,eZ,rfl,jf,e0,jh,e1,e2⟩;refine ⟨(fun _=>trivial),?_⟩;have e3:∀ k,eY k→k<ic.heap.size:=fun k hk=>(e0 k hk).1;have ji:∀ k,eY k→X0 k∨r.heap.size≤k:=fun k hk=>(e0 k hk).2.elim (fun h=>(h).elim (fun h=>h.elim) (fun h=>(fun k (hk:aL (ro o)=some k∨a2 k)=>hk.elim (fun h=>Or.inr (eL k h)) (fun h=>eW k h)) k h)) (fun h=>.inr (Nat.le_trans dP.size h));have e4:∀ k,eZ k→k<ic.heap.size:=fun k hk=>(e1 k hk).1;have jj:∀ k,eZ k→X0 k∨r.heap.size≤k:=fun k hk=>(e1 k hk).2.elim (fun h=>(h).elim (fun h=>h.elim) (fun h=>(fun k (hk:aL (ro o)=some k∨a2 k)=>hk.elim (fun h=>Or.inr (eL k h)) (fun h=>eW k h)) k h)) (fun h=>.inr (Nat.le_trans dP.size h));refine aa<|ay<|gv_alt [(9,bA 11 [0,1,2,3,4,5,6,7,8,9])] 1 kr kr ⟨?_,trivial⟩;refine dt bp dy 25 cr rfl rfl kr kr ?_;intro an lW b3 jk c0 lo;refine ⟨(fun _=>trivial),?_⟩;refine aa<|bj [0,2,7,36] (σ':=[(0,bp c),(2,bp q),(7,bp an),(36,.agg (bh K.1 ds dA dB dC))]) kr<|ay ?_;have f2:=cK M bd;have id:r.heap.size≤an:=bU c0 (aj dP d3 bo).size;have jl:¬ eY q:=fun h=>((e0 _ h).2.elim (fun h=>(h).elim (fun h=>by cases h) (fun h=>(eX) h)) (fun h=>nl h (dQ.lt)));have jm:¬ eZ q:=fun h=>((e1 _ h).2.elim (fun h=>(h).elim (fun h=>by cases h) (fun h=>(eX) h)) (fun h=>nl h (dQ.lt)));have f3:=b9 ((b8 (dQ.grown d3 (ai f2))) _ rfl) ((bc c0) _ rfl);exact h3 _ _ ⟨an,ds,dA,eY,dB,dC,eZ,rfl,(aj (aj dP d3 bo) b3 nb),(nt (nt f0 d3.size) b3.size),(e2.grown b3 nb),((dQ.grown d3 (ai f2)).grown b3 nb),jk,id,(jf.grown b3 e3 nb),(aS e3 b3.size),ji,(jh.grown b3 e4 nb),(aS e4 b3.size),jj,(cK c0 e2),jl,jm,Nat.ne_of_lt f3,(apH c0 e2),ng f3,(apF c0 e3),(apF c0 e4)⟩
        ·refine dt bp dy 25 cr rfl rfl kr kr ?_;intro N lX dR jn c1 lp;refine ⟨(fun _=>trivial),?_⟩;refine aa<|bj [0,2,7,28,35] (σ':=[(0,bp c),(2,bp q),(7,bp N),(28,bp c),(35,.agg #[vI 10,vI j.1,vI j.2.1,vB false,vB z.1,vL none ([]:List bF) 0,vL (ro o) ([Pc.of m.1]:List Pc) 1])]) kr<|ay ?_;have ie:r.heap.size≤N:=bU c1 dP.size;have f4:=b9 ((b8 dQ) _ rfl) ((bc c1) _ rfl);have jo:∀ g,aL (ro o)=some g→¬ (· =N) g:=fun g e hx=>nl ((bc c1) _ hx) ((fun k (hk:aL (ro o)=some k∨a2 k)=>hk.elim (fun h=>d1.lt k h) (fun h=>d2 k h)) g (.inl e));have jp:¬ (fun k=>aL (ro o)=some k∨a2 k) N:=fun hx=>nl ((bc c1) _ rfl) ((fun k (hk:aL (ro o)=some k∨a2 k)=>hk.elim (fun h=>d1.lt k h) (fun h=>d2 k h)) _ hx);exact h4 _ _ ⟨N,o,a2,rfl,(aj dP dR nb),(nt f0 dR.size),(eq.grown dR nb),(dQ.grown dR nb),jn,ie,(d1.grown dR d2 nb),(aS d2 dR.size),eL,eW,f1,(cK c1 eq),eX,Nat.ne_of_lt f4,jd,je,jo,(apH c1 eq),ng f4,jp⟩
       refine gv_shareA (fun σ dM=>∃ (y:Nat),∃ (O:Nat),∃ (dN:Nat→Prop),σ=[(0,bp c),(2,bp q),(7,bp y),(28,bp c),(29,vI j.1),(30,vI j.2.1),(32,vB z.1),(34,vL (ro O) ([Pc.of m.1]:List Pc) 1)]∧r.grownBy dM (some c)∧Sz dI dM∧aW dM c 117 (cI z.2)∧aW dM q 25 dy∧aW dM y 25 dy∧r.heap.size≤y∧ar pcE 25 dM dN (ro O) 1 ([Pc.of m.1]:List Pc)∧(∀ k,dN k→k<dM.heap.size)∧(Lo r (ro O))∧(∀ k,dN k→X0 k∨r.heap.size≤k)∧(¬ (· =y) c)∧(¬ (fun k=>aL (ro O)=some k∨dN k) c)∧(¬ (· =y) q)∧(¬ (fun k=>aL (ro O)=some k∨dN k) q)∧(¬ (· =c) y)∧(¬ (· =q) y)∧(¬ (fun k=>aL (ro O)=some k∨dN k) y)∧(∀ g,aL (ro O)=some g→¬ (· =c) g)∧(∀ g,aL (ro O)=some g→¬ (· =q) g)∧(∀ g,aL (ro O)=some g→¬ (· =y) g)) (bA 11 [0,1,2,3,4,5,6,9]) 3 ?_ fun ig=>?_
       ·rintro σ dM ⟨y,O,dN,rfl,jq,jr,js,jt,ju,ih,jv,jw,ii,jx,jy,jz,jA,jB,jC,jD,jE,jF,jG,jH⟩;refine aV [7] (bA 11 [0,1,2,3,4,5,6,7,9]) 2 kr kr<|p1 35 (.agg #[vI 10,vI j.1,vI j.2.1,vB false,vB z.1,vL none ([]:List bF) 0,vL (ro O) ([Pc.of m.1]:List Pc) 1])<|aa<|bj [0,2,7,28,35] (σ':=[(0,bp c),(2,bp q),(7,bp y),(28,bp c),(35,.agg #[vI 10,vI j.1,vI j.2.1,vB false,vB z.1,vL none ([]:List bF) 0,vL (ro O) ([Pc.of m.1]:List Pc) 1])]) kr<|ay ?_;exact h4 _ _ ⟨y,O,dN,rfl,jq,jr,js,jt,ju,ih,jv,jw,ii,jx,jz,jy,jB,jA,jF,jG,jH,jC,jD,jE⟩
       refine gv_shareA (fun σ bn=>∃ (y:Nat),σ=[(0,bp c),(2,bp q),(7,bp y),(28,bp c),(29,vI j.1),(30,vI j.2.1),(32,vB z.1),(33,.agg (bh m.1 C D E F))]∧r.grownBy bn (some c)∧Sz dI bn∧aW bn c 117 (cI z.2)∧aW bn q 25 dy∧Rd bO bn P C D m.1.2.2.2.2.2.1∧(∀ k,P k→k<bn.heap.size)∧Rd pcE bn Q E F m.1.2.2.2.2.2.2∧(∀ k,Q k→k<bn.heap.size)∧aW bn y 25 dy∧r.heap.size≤y∧(¬ (· =y) c)∧(¬ (· =y) q)∧(¬ (· =c) y)∧(¬ (· =q) y)∧(¬ P y)∧(¬ Q y)) (bA 11 [0,1,2,3,4,5,9]) 4 ?_ fun fJ=>?_
       ·rintro σ bn ⟨y,rfl,f5,jI,e5,e6,jJ,e7,jK,e8,e9,ij,jL,jM,jN,jO,jP,jQ⟩;refine gv_alt [(6,bA 11 [0,1,2,3,4,5,6,9])] 3 kr kr ⟨?_,trivial⟩;refine dt (fun b=>.slice (ro b) 1 1) (bh m.1 C D E F) 25 cr rfl rfl kr kr ?_;intro O ik b4 jR ax lq;refine ⟨(fun _=>trivial),?_⟩;obtain ⟨ee,e⟩:∃ X:Nat→Prop,X=(fun k=>P k∨Q k):=⟨_,rfl⟩;have f6:∀ k,ee k→k<bn.heap.size:=fun k h=>by rw[e]at h;exact (h).elim (fun h=>e7 k h) (fun h=>e8 k h)
        have jS:∀ k,ee k→k<ik.heap.size:=fun k h=>b9 (f6 k h) b4.size;have jT:∀ k,ee k→X0 k∨r.heap.size≤k:=fun k h=>by rw[e]at h;exact (h).elim (fun h=>H k h) (fun h=>I k h)
        have jU:ar pcE 25 ik ee (ro O) 1 ([Pc.of m.1]:List Pc):=bI jR (by rw[e];exact ⟨[vI m.1.1,vI m.1.2.1,vI m.1.2.2.1,vB m.1.2.2.2.1,vB m.1.2.2.2.2.1,vL C m.1.2.2.2.2.2.1 D,vL E m.1.2.2.2.2.2.2 F],[],rfl,pc_mk7 ((jJ.grown b4 e7 nb).wide (fun _ h=>(.inl h))) ((jK.grown b4 e8 nb).wide (fun _ h=>(.inr h))),rfl⟩) (show 1≤maxLen by decide) (fun h=>noteq ax (f6 _ h));have fa:∀ k,ee k→(fun k=>P k∨Q k) k:=fun k h=>by rw[e]at h;exact h
        clear e;have jV:Lo r (ro O):=loo ax f5.size;have fy:r.heap.size≤q:=bU M eH.size;have lr:∀ g,aL (ro O)=some g→¬ P g:=fun g e hx=>nl (cd ax g e) (e7 _ hx);have ls:∀ g,aL (ro O)=some g→¬ Q g:=fun g e hx=>nl (cd ax g e) (e8 _ hx);refine aa<|bj [0,2,7,28,29,30,32,34] (σ':=[(0,bp c),(2,bp q),(7,bp y),(28,bp c),(29,vI j.1),(30,vI j.2.1),(32,vB z.1),(34,vL (ro O) ([Pc.of m.1]:List Pc) 1)]) kr<|ay ?_;exact ig _ _ ⟨y,O,ee,rfl,(aj f5 b4 nb),(nt jI b4.size),(e5.grown b4 nb),(e6.grown b4 nb),(e9.grown b4 nb),ij,jU,jS,jV,jT,jL,(apG (p:=c) ax e5 (fun h=>(fa _ h).elim (xq H s w) (xq I s w))),jM,(apG (p:=q) ax e6 (fun h=>(fa _ h).elim (apE dJ (xlo fy s) L.lt) (apE dK (xlo fy s) L.lt))),jN,jO,(apG (p:=y) ax e9 (fun h=>(fa _ h).elim jP jQ)),(apD ax e5),(apD ax e6),(apD ax e9)⟩
       refine gv_shareA (fun σ cw=>σ=[(0,bp c),(2,bp q),(28,bp c),(29,vI j.1),(30,vI j.2.1),(32,vB z.1),(33,.agg (bh m.1 C D E F))]∧r.grownBy cw (some c)∧Sz dI cw∧aW cw c 117 (cI z.2)∧aW cw q 25 dy∧Rd bO cw P C D m.1.2.2.2.2.2.1∧(∀ k,P k→k<cw.heap.size)∧Rd pcE cw Q E F m.1.2.2.2.2.2.2∧(∀ k,Q k→k<cw.heap.size)) (bA 11 [0,1,2,3,4,5]) 5 ?_ fun il=>?_
       ·rintro σ cw ⟨rfl,er,f7,dS,d4,f8,dT,f9,dU⟩;refine gv_alt [(6,bA 11 [0,1,2,3,4,5,6]),(9,bA 11 [0,1,2,3,4,5,9])] 4 kr kr ⟨?_,?_,trivial⟩
        ·refine dt (fun b=>.slice (ro b) 1 1) (bh m.1 C D E F) 25 cr rfl rfl kr kr ?_;intro o im dE jW a7 lu;refine ⟨(fun _=>trivial),?_⟩;obtain ⟨ef,e⟩:∃ X:Nat→Prop,X=(fun k=>P k∨Q k):=⟨_,rfl⟩;have ga:∀ k,ef k→k<cw.heap.size:=fun k h=>by rw[e]at h;exact (h).elim (fun h=>dT k h) (fun h=>dU k h)
         have jX:∀ k,ef k→k<im.heap.size:=fun k h=>b9 (ga k h) dE.size;have jY:∀ k,ef k→X0 k∨r.heap.size≤k:=fun k h=>by rw[e]at h;exact (h).elim (fun h=>H k h) (fun h=>I k h)
         have jZ:ar pcE 25 im ef (ro o) 1 ([Pc.of m.1]:List Pc):=bI jW (by rw[e];exact ⟨[vI m.1.1,vI m.1.2.1,vI m.1.2.2.1,vB m.1.2.2.2.1,vB m.1.2.2.2.2.1,vL C m.1.2.2.2.2.2.1 D,vL E m.1.2.2.2.2.2.2 F],[],rfl,pc_mk7 ((f8.grown dE dT nb).wide (fun _ h=>(.inl h))) ((f9.grown dE dU nb).wide (fun _ h=>(.inr h))),rfl⟩) (show 1≤maxLen by decide) (fun h=>noteq a7 (ga _ h));have gb:∀ k,ef k→(fun k=>P k∨Q k) k:=fun k h=>by rw[e]at h;exact h
         clear e;have j0:Lo r (ro o):=loo a7 er.size;have fz:r.heap.size≤q:=bU M eH.size;have lv:∀ g,aL (ro o)=some g→¬ P g:=fun g e hx=>nl (cd a7 g e) (dT _ hx);have lw:∀ g,aL (ro o)=some g→¬ Q g:=fun g e hx=>nl (cd a7 g e) (dU _ hx);refine aa<|bj [0,2,28,29,30,32,34] (σ':=[(0,bp c),(2,bp q),(28,bp c),(29,vI j.1),(30,vI j.2.1),(32,vB z.1),(34,vL (ro o) ([Pc.of m.1]:List Pc) 1)]) kr<|ay ?_;exact ib _ _ ⟨o,ef,rfl,(aj er dE nb),(nt f7 dE.size),(dS.grown dE nb),(d4.grown dE nb),jZ,jX,j0,jY,(apG (p:=c) a7 dS (fun h=>(gb _ h).elim (xq H s w) (xq I s w))),(apG (p:=q) a7 d4 (fun h=>(gb _ h).elim (apE dJ (xlo fz s) L.lt) (apE dK (xlo fz s) L.lt))),(apD a7 dS),(apD a7 d4)⟩
        ·refine dt bp dy 25 cr rfl rfl kr kr ?_;intro y lY b5 j1 c2 lx;refine ⟨(fun _=>trivial),?_⟩;refine aa<|bj [0,2,7,28,29,30,32,33] (σ':=[(0,bp c),(2,bp q),(7,bp y),(28,bp c),(29,vI j.1),(30,vI j.2.1),(32,vB z.1),(33,.agg (bh m.1 C D E F))]) kr<|ay ?_;have io:r.heap.size≤y:=bU c2 er.size;have gc:=b9 ((b8 d4) _ rfl) ((bc c2) _ rfl);exact fJ _ _ ⟨y,rfl,(aj er b5 nb),(nt f7 b5.size),(dS.grown b5 nb),(d4.grown b5 nb),(f8.grown b5 dT nb),(aS dT b5.size),(f9.grown b5 dU nb),(aS dU b5.size),j1,io,(cK c2 dS),Nat.ne_of_lt gc,(apH c2 dS),ng gc,(apF c2 dT),(apF c2 dU)⟩
       refine gv_shareA (fun σ bs=>∃ (T:Nat),σ=[(0,bp c),(2,bp q),(3,bp ah),(7,bp T),(28,bp c),(29,vI j.1),(30,vI j.2.1),(32,vB z.1)]∧r.grownBy bs (some c)∧Sz dI bs∧aW bs c 117 (cI z.2)∧aW bs q 25 dy∧Rd bO bs P C D m.1.2.2.2.2.2.1∧(∀ k,P k→k<bs.heap.size)∧Rd pcE bs Q E F m.1.2.2.2.2.2.2∧(∀ k,Q k→k<bs.heap.size)∧aW bs ah 25 (bh m.1 C D E F)∧aW bs T 25 dy∧r.heap.size≤T∧(¬ (· =T) c)∧(¬ (· =T) q)∧(¬ (· =T) ah)∧(¬ (· =c) T)∧(¬ (· =q) T)∧(¬ P T)∧(¬ Q T)∧(¬ (· =ah) T)) (bA 11 [0,1,2,3,4,9]) 5 ?_ fun ip=>?_
       ·rintro σ bs ⟨T,rfl,j2,j3,j4,j5,j6,j7,j8,j9,ka,kb,iq,kc,kd,ly,ke,kf,kg,kh,lA⟩;refine gv_alt [(5,bA 11 [0,1,2,3,4,5,9])] 4 kr kr ⟨?_,trivial⟩;refine gv_loadBox (t:=25) (b:=ah) (t':=25) (fr:=(0,0)) (bh m.1 C D E F) [] (fun _=>trivial) rfl rfl rfl kr kr kr kr (inwF ka) rfl ?_;refine aa<|bj [0,2,7,28,29,30,32,33] (σ':=[(0,bp c),(2,bp q),(7,bp T),(28,bp c),(29,vI j.1),(30,vI j.2.1),(32,vB z.1),(33,.agg (bh m.1 C D E F))]) kr<|ay ?_;exact fJ _ _ ⟨T,rfl,j2,j3,j4,j5,j6,j7,j8,j9,kb,iq,kc,kd,ke,kf,kg,kh⟩
       refine gv_shareA (fun σ dF=>∃ (U:Nat),∃ (G:Nat),∃ (dO:Nat→Prop),σ=[(0,bp c),(2,bp q),(7,bp U),(28,bp c),(29,vI j.1),(30,vI j.2.1),(31,bp c),(34,vL (ro G) ([Pc.of m.1]:List Pc) 1)]∧r.grownBy dF (some c)∧Sz dI dF∧aW dF c 117 (cI j.2.2.2)∧aW dF q 25 dy∧aW dF U 25 dy∧r.heap.size≤U∧ar pcE 25 dF dO (ro G) 1 ([Pc.of m.1]:List Pc)∧(∀ k,dO k→k<dF.heap.size)∧(Lo r (ro G))∧(∀ k,dO k→X0 k∨r.heap.size≤k)∧(¬ (fun k=>aL (ro G)=some k∨dO k) c)∧(¬ (· =U) c)∧(¬ (fun k=>aL (ro G)=some k∨dO k) q)∧(¬ (· =U) q)∧(∀ g,aL (ro G)=some g→¬ (· =c) g)∧(∀ g,aL (ro G)=some g→¬ (· =q) g)∧(∀ g,aL (ro G)=some g→¬ (· =U) g)∧(¬ (· =c) U)∧(¬ (· =q) U)∧(¬ (fun k=>aL (ro G)=some k∨dO k) U)) (bA 11 [0,1,2,3,5,6,9]) 4 ?_ fun ir=>?_
       ·rintro σ dF ⟨U,G,dO,rfl,ki,kj,kk,kl,km,it,kn,gd,iu,ko,ge,gf,kp,kq,ks,kt,ku,kv,kw,kx⟩;refine gv_alt [(4,bA 11 [0,1,2,3,4,5,6,9])] 3 kr kr ⟨?_,trivial⟩;refine clq ce (aT ak c j.2.2.2 (bb [63]) dF kk z ed) ?_;rintro lZ l0 ⟨dV,rfl,ky⟩;refine ⟨(fun _=>trivial),?_⟩;refine aa<|bj [0,2,7,28,29,30,32,34] (σ':=[(0,bp c),(2,bp q),(7,bp U),(28,bp c),(29,vI j.1),(30,vI j.2.1),(32,vB z.1),(34,vL (ro G) ([Pc.of m.1]:List Pc) 1)]) kr<|ay ?_;exact ig _ _ ⟨U,G,dO,rfl,(aj ki dV bo),(nt kj dV.size),ky,(kl.grown dV (ai (cK M bd))),(km.grown dV (ai gf)),it,(kn.grown dV gd (dh (ai ge))),(aS gd dV.size),iu,ko,gf,ge,kq,kp,kv,kw,kx,ks,kt,ku⟩
       refine gv_shareA (fun σ a9=>∃ (R:Nat),σ=[(0,bp c),(2,bp q),(7,bp R),(28,bp c),(29,vI j.1),(30,vI j.2.1),(31,bp c),(33,.agg (bh m.1 C D E F))]∧r.grownBy a9 (some c)∧Sz dI a9∧aW a9 c 117 (cI j.2.2.2)∧aW a9 q 25 dy∧Rd bO a9 P C D m.1.2.2.2.2.2.1∧(∀ k,P k→k<a9.heap.size)∧Rd pcE a9 Q E F m.1.2.2.2.2.2.2∧(∀ k,Q k→k<a9.heap.size)∧aW a9 R 25 dy∧r.heap.size≤R∧(¬ (· =R) c)∧(¬ (· =R) q)∧(¬ (· =c) R)∧(¬ (· =q) R)∧(¬ P R)∧(¬ Q R)) (bA 11 [0,1,2,3,5,9]) 5 ?_ fun iv=>?_
       ·rintro σ a9 ⟨R,rfl,fb,gg,es,et,gh,d5,gi,d6,eu,fA,fc,gj,gk,gl,gm,gn⟩;refine gv_alt [(4,bA 11 [0,1,2,3,4,5,9]),(6,bA 11 [0,1,2,3,5,6,9])] 4 kr kr ⟨?_,?_,trivial⟩
        ·refine clq ce (aT ak c j.2.2.2 (bb [63]) a9 es z ed) ?_;rintro l1 l2 ⟨b6,rfl,kz⟩;refine ⟨(fun _=>trivial),?_⟩;refine aa<|bj [0,2,7,28,29,30,32,33] (σ':=[(0,bp c),(2,bp q),(7,bp R),(28,bp c),(29,vI j.1),(30,vI j.2.1),(32,vB z.1),(33,.agg (bh m.1 C D E F))]) kr<|ay ?_;exact fJ _ _ ⟨R,rfl,(aj fb b6 bo),(nt gg b6.size),kz,(et.grown b6 (ai (cK M bd))),(gh.grown b6 d5 (ai (xq H s w))),(aS d5 b6.size),(gi.grown b6 d6 (ai (xq I s w))),(aS d6 b6.size),(eu.grown b6 (ai fc)),fA,fc,gj,gk,gl,gm,gn⟩
        ·refine dt (fun b=>.slice (ro b) 1 1) (bh m.1 C D E F) 25 cr rfl rfl kr kr ?_;intro eg iw b7 kA a0 lB;refine ⟨(fun _=>trivial),?_⟩;obtain ⟨eh,e⟩:∃ X:Nat→Prop,X=(fun k=>P k∨Q k):=⟨_,rfl⟩;have go:∀ k,eh k→k<a9.heap.size:=fun k h=>by rw[e]at h;exact (h).elim (fun h=>d5 k h) (fun h=>d6 k h)
         have kB:∀ k,eh k→k<iw.heap.size:=fun k h=>b9 (go k h) b7.size;have kC:∀ k,eh k→X0 k∨r.heap.size≤k:=fun k h=>by rw[e]at h;exact (h).elim (fun h=>H k h) (fun h=>I k h)
         have kD:ar pcE 25 iw eh (ro eg) 1 ([Pc.of m.1]:List Pc):=bI kA (by rw[e];exact ⟨[vI m.1.1,vI m.1.2.1,vI m.1.2.2.1,vB m.1.2.2.2.1,vB m.1.2.2.2.2.1,vL C m.1.2.2.2.2.2.1 D,vL E m.1.2.2.2.2.2.2 F],[],rfl,pc_mk7 ((gh.grown b7 d5 nb).wide (fun _ h=>(.inl h))) ((gi.grown b7 d6 nb).wide (fun _ h=>(.inr h))),rfl⟩) (show 1≤maxLen by decide) (fun h=>noteq a0 (go _ h));have fd:∀ k,eh k→(fun k=>P k∨Q k) k:=fun k h=>by rw[e]at h;exact h
         clear e;have kE:Lo r (ro eg):=loo a0 fb.size;have fB:r.heap.size≤q:=bU M eH.size;have lC:∀ g,aL (ro eg)=some g→¬ P g:=fun g e hx=>nl (cd a0 g e) (d5 _ hx);have lD:∀ g,aL (ro eg)=some g→¬ Q g:=fun g e hx=>nl (cd a0 g e) (d6 _ hx);refine aa<|bj [0,2,7,28,29,30,31,34] (σ':=[(0,bp c),(2,bp q),(7,bp R),(28,bp c),(29,vI j.1),(30,vI j.2.1),(31,bp c),(34,vL (ro eg) ([Pc.of m.1]:List Pc) 1)]) kr<|ay ?_;exact ir _ _ ⟨R,eg,eh,rfl,(aj fb b7 nb),(nt gg b7.size),(es.grown b7 nb),(et.grown b7 nb),(eu.grown b7 nb),fA,kD,kB,kE,kC,(apG (p:=c) a0 es (fun h=>(fd _ h).elim (xq H s w) (xq I s w))),fc,(apG (p:=q) a0 et (fun h=>(fd _ h).elim (apE dJ (xlo fB s) L.lt) (apE dK (xlo fB s) L.lt))),gj,(apD a0 es),(apD a0 et),(apD a0 eu),gk,gl,(apG (p:=R) a0 eu (fun h=>(fd _ h).elim gm gn))⟩
       refine aV [0,1,2,3] (bA 11 [0,1,2,3]) 7 kr kr<|pN 4 [28,29,30,31] [(28,bp c),(29,vI j.1),(30,vI j.2.1),(31,bp c)]<|aa<|ay<|gv_alt [(4,bA 11 [0,1,2,3,4]),(5,bA 11 [0,1,2,3,5]),(9,bA 11 [0,1,2,3,9])] 6 kr kr ⟨?_,?_,?_,trivial⟩
       ·refine clq ce (aT ak c j.2.2.2 (bb [63]) dI (bl.grown l nb) z ed) ?_;rintro mh mi ⟨V,rfl,ff⟩;refine ⟨(fun _=>trivial),?_⟩;refine aa<|ay<|gv_alt [(5,bA 11 [0,1,2,3,4,5]),(9,bA 11 [0,1,2,3,4,9])] 5 kr kr ⟨?_,?_,trivial⟩
        ·refine gv_loadBox (t:=25) (b:=ah) (t':=25) (fr:=(0,0)) (bh m.1 C D E F) [] (fun _=>trivial) rfl rfl rfl kr kr kr kr (inwF ((ch.grown l nb).grown V (ai ec))) rfl ?_;refine aa<|bj [0,2,28,29,30,32,33] (σ':=[(0,bp c),(2,bp q),(28,bp c),(29,vI j.1),(30,vI j.2.1),(32,vB z.1),(33,.agg (bh m.1 C D E F))]) kr<|ay ?_;have ix:r.heap.size≤ah:=bU n (aj Z x bo).size;have ev:=cK M bd;have gp:=aS A f.size;have gq:=aS gp i.size;have gr:=aS gq d.size;have gs:=aS gr l.size;have gt:=aS B f.size;have gu:=aS gt i.size;have gv:=aS gu d.size;have gw:=aS gv l.size;exact il _ _ ⟨rfl,(aj (aj (aj (aj (aj (aj Z x bo) f nb) i (cD ix)) d bo) l nb) V bo),V.size,ff,((((((L.grown x (ai ev)).grown f nb).grown i (ai (ng (b9 ((b8 (L.grown x (ai ev))) _ rfl) ((bc n) _ rfl))))).grown d (ai ev)).grown l nb).grown V (ai ev)),(((((c8.grown f A nb).grown i gp (ai (apF n A))).grown d gq (ai (xq H s w))).grown l gr nb).grown V gs (ai (xq H s w))),(aS gs V.size),(((((c9.grown f B nb).grown i gt (ai (apF n B))).grown d gu (ai (xq I s w))).grown l gv nb).grown V gw (ai (xq I s w))),(aS gw V.size)⟩
        ·refine dt bp dy 25 cr rfl rfl kr kr ?_;intro T l3 be kF c3 lE;refine ⟨(fun _=>trivial),?_⟩;refine aa<|bj [0,2,3,7,28,29,30,32] (σ':=[(0,bp c),(2,bp q),(3,bp ah),(7,bp T),(28,bp c),(29,vI j.1),(30,vI j.2.1),(32,vB z.1)]) kr<|ay ?_;have gx:=aj Z x bo;have fC:r.heap.size≤ah:=bU n gx.size;have ew:=cK M bd;have gy:=b9 ((b8 (L.grown x (ai ew))) _ rfl) ((bc n) _ rfl);have gz:=aS A f.size;have gA:=aS gz i.size;have gB:=aS gA d.size;have gC:=aS gB l.size;have fg:=aS gC V.size;have gD:=aS B f.size;have gE:=aS gD i.size;have gF:=aS gE d.size;have gG:=aS gF l.size;have fh:=aS gG V.size;have iy:r.heap.size≤T:=bU c3 (aj (aj (aj (aj (aj gx f nb) i (cD fC)) d bo) l nb) V bo).size;have fi:=b9 ((b8 ((ch.grown l nb).grown V (ai ec))) _ rfl) ((bc c3) _ rfl);have gH:=cf gy fi;exact ip _ _ ⟨T,rfl,(aj (aj (aj (aj (aj (aj (aj Z x bo) f nb) i (cD fC)) d bo) l nb) V bo) be nb),(nt V.size be.size),(ff.grown be nb),(((((((L.grown x (ai ew)).grown f nb).grown i (ai (ng gy))).grown d (ai ew)).grown l nb).grown V (ai ew)).grown be nb),((((((c8.grown f A nb).grown i gz (ai (apF n A))).grown d gA (ai (xq H s w))).grown l gB nb).grown V gC (ai (xq H s w))).grown be fg nb),(aS fg be.size),((((((c9.grown f B nb).grown i gD (ai (apF n B))).grown d gE (ai (xq I s w))).grown l gF nb).grown V gG (ai (xq I s w))).grown be fh nb),(aS fh be.size),(((ch.grown l nb).grown V (ai ec)).grown be nb),kF,iy,(cK c3 ff),Nat.ne_of_lt gH,Nat.ne_of_lt fi,(apH c3 ff),ng gH,(apF c3 fg),(apF c3 fh),ng fi⟩
       ·have d7:=ch.grown l nb;refine gv_loadBox (t:=25) (b:=ah) (t':=25) (fr:=(0,0)) (bh m.1 C D E F) [] (fun _=>trivial) rfl rfl rfl kr kr kr kr (inwF d7) rfl ?_;refine aa<|ay<|gv_alt [(4,bA 11 [0,1,2,3,4,5]),(6,bA 11 [0,1,2,3,5,6]),(9,bA 11 [0,1,2,3,5,9])] 5 kr kr ⟨?_,?_,?_,trivial⟩
        ·refine clq ce (aT ak c j.2.2.2 (bb [63]) dI (bl.grown l nb) z ed) ?_;rintro l4 l5 ⟨dG,rfl,kG⟩;refine ⟨(fun _=>trivial),?_⟩;refine aa<|bj [0,2,28,29,30,32,33] (σ':=[(0,bp c),(2,bp q),(28,bp c),(29,vI j.1),(30,vI j.2.1),(32,vB z.1),(33,.agg (bh m.1 C D E F))]) kr<|ay ?_;have iz:r.heap.size≤ah:=bU n (aj Z x bo).size;have ex:=cK M bd;have gI:=aS A f.size;have gJ:=aS gI i.size;have gK:=aS gJ d.size;have gL:=aS gK l.size;have gM:=aS B f.size;have gN:=aS gM i.size;have gO:=aS gN d.size;have gP:=aS gO l.size;exact il _ _ ⟨rfl,(aj (aj (aj (aj (aj (aj Z x bo) f nb) i (cD iz)) d bo) l nb) dG bo),dG.size,kG,((((((L.grown x (ai ex)).grown f nb).grown i (ai (ng (b9 ((b8 (L.grown x (ai ex))) _ rfl) ((bc n) _ rfl))))).grown d (ai ex)).grown l nb).grown dG (ai ex)),(((((c8.grown f A nb).grown i gI (ai (apF n A))).grown d gJ (ai (xq H s w))).grown l gK nb).grown dG gL (ai (xq H s w))),(aS gL dG.size),(((((c9.grown f B nb).grown i gM (ai (apF n B))).grown d gN (ai (xq I s w))).grown l gO nb).grown dG gP (ai (xq I s w))),(aS gP dG.size)⟩
        ·refine dt (fun b=>.slice (ro b) 1 1) (bh m.1 C D E F) 25 cr rfl rfl kr kr ?_;intro G fK a3 kH a1 lF;refine ⟨(fun _=>trivial),?_⟩;obtain ⟨cx,e⟩:∃ X:Nat→Prop,X=(fun k=>P k∨Q k):=⟨_,rfl⟩;have gQ:=aS (aS (aS (aS A f.size) i.size) d.size) l.size;have gR:=aS (aS (aS (aS B f.size) i.size) d.size) l.size;have gS:∀ k,cx k→k<dI.heap.size:=fun k h=>by rw[e]at h;exact (h).elim (fun h=>gQ k h) (fun h=>gR k h)
         have dW:∀ k,cx k→k<fK.heap.size:=fun k h=>b9 (gS k h) a3.size;have gT:∀ k,cx k→X0 k∨r.heap.size≤k:=fun k h=>by rw[e]at h;exact (h).elim (fun h=>H k h) (fun h=>I k h)
         have gU:=apF n A;have gV:=aS A f.size;have gW:=aS gV i.size;have gX:=(ab l a3);have gY:=apF n B;have gZ:=aS B f.size;have g0:=aS gZ i.size;have ey:ar pcE 25 fK cx (ro G) 1 ([Pc.of m.1]:List Pc):=bI kH (by rw[e];exact ⟨[vI m.1.1,vI m.1.2.1,vI m.1.2.2.1,vB m.1.2.2.2.1,vB m.1.2.2.2.2.1,vL C m.1.2.2.2.2.2.1 D,vL E m.1.2.2.2.2.2.2 F],[],rfl,pc_mk7 (((((c8.grown f A nb).grown i gV (ai gU)).grown d gW (ai (xq H s w))).grown gX (aS gW d.size) nb).wide (fun _ h=>(.inl h))) (((((c9.grown f B nb).grown i gZ (ai gY)).grown d g0 (ai (xq I s w))).grown gX (aS g0 d.size) nb).wide (fun _ h=>(.inr h))),rfl⟩) (show 1≤maxLen by decide) (fun h=>noteq a1 (gS _ h));have fj:∀ k,cx k→(fun k=>P k∨Q k) k:=fun k h=>by rw[e]at h;exact h
         clear e;have iA:r.heap.size≤ah:=bU n (aj Z x bo).size;have ez:=aj (aj (aj (aj (aj Z x bo) f nb) i (cD iA)) d bo) l nb;have g1:Lo r (ro G):=loo a1 ez.size;have d8:=bl.grown l nb;have g2:=apD a1 d8;have fk:=apG (p:=c) a1 d8 (fun h=>(fj _ h).elim (xq H s w) (xq I s w));have eA:=cK M bd;have g3:=b9 ((b8 (L.grown x (ai eA))) _ rfl) ((bc n) _ rfl);have eB:=((((L.grown x (ai eA)).grown f nb).grown i (ai (ng g3))).grown d (ai eA)).grown l nb;have g4:=apD a1 eB;have fD:r.heap.size≤q:=bU M eH.size;have g5:=apG (p:=q) a1 eB (fun h=>(fj _ h).elim (apE dJ (xlo fD s) L.lt) (apE dK (xlo fD s) L.lt));have lG:∀ g,aL (ro G)=some g→¬ P g:=fun g e hx=>nl (cd a1 g e) (gQ _ hx);have lH:∀ g,aL (ro G)=some g→¬ Q g:=fun g e hx=>nl (cd a1 g e) (gR _ hx);have lI:=apD a1 d7;have lJ:=apG (p:=ah) a1 d7 (fun h=>(fj _ h).elim gU gY);refine aa<|ay<|gv_alt [(4,bA 11 [0,1,2,3,4,5,6]),(9,bA 11 [0,1,2,3,5,6,9])] 4 kr kr ⟨?_,?_,trivial⟩
         ·refine clq ce (aT ak c j.2.2.2 (bb [63]) fK (d8.grown a3 nb) z ed) ?_;rintro l6 l7 ⟨d9,rfl,kI⟩;refine ⟨(fun _=>trivial),?_⟩;refine aa<|bj [0,2,28,29,30,32,34] (σ':=[(0,bp c),(2,bp q),(28,bp c),(29,vI j.1),(30,vI j.2.1),(32,vB z.1),(34,vL (ro G) ([Pc.of m.1]:List Pc) 1)]) kr<|ay ?_;exact ib _ _ ⟨G,cx,rfl,(aj (aj ez a3 nb) d9 bo),(nt a3.size d9.size),kI,((eB.grown a3 nb).grown d9 (ai eA)),(ey.grown d9 dW (dh (ai fk))),(aS dW d9.size),g1,gT,fk,g5,g2,g4⟩
         ·refine dt bp dy 25 cr rfl rfl kr kr ?_;intro U l8 eC kJ c4 lK;refine ⟨(fun _=>trivial),?_⟩;refine aa<|bj [0,2,7,28,29,30,31,34] (σ':=[(0,bp c),(2,bp q),(7,bp U),(28,bp c),(29,vI j.1),(30,vI j.2.1),(31,bp c),(34,vL (ro G) ([Pc.of m.1]:List Pc) 1)]) kr<|ay ?_;have fl:=(ab a3 eC);have iB:r.heap.size≤U:=bU c4 (aj ez a3 nb).size;have g6:=d8.grown a3 nb;have g7:=cf g3 (b9 ((b8 (d7.grown a3 nb)) _ rfl) ((bc c4) _ rfl));have kK:∀ g,aL (ro G)=some g→¬ (· =U) g:=fun g e hx=>nl ((bc c4) _ hx) ((fun k (hk:aL (ro G)=some k∨cx k)=>hk.elim (fun h=>ey.lt k h) (fun h=>dW k h)) g (.inl e));have kL:¬ (fun k=>aL (ro G)=some k∨cx k) U:=fun hx=>nl ((bc c4) _ rfl) ((fun k (hk:aL (ro G)=some k∨cx k)=>hk.elim (fun h=>ey.lt k h) (fun h=>dW k h)) _ hx);exact ir _ _ ⟨U,G,cx,rfl,(aj ez fl nb),(nt a3.size eC.size),(d8.grown fl nb),(eB.grown fl nb),kJ,iB,(ey.grown eC dW nb),(aS dW eC.size),g1,gT,fk,(cK c4 g6),g5,Nat.ne_of_lt g7,g2,g4,kK,(apH c4 g6),ng g7,kL⟩
        ·refine dt bp dy 25 cr rfl rfl kr kr ?_;intro R l9 g8 kM c5 lL;refine ⟨(fun _=>trivial),?_⟩;refine aa<|bj [0,2,7,28,29,30,31,33] (σ':=[(0,bp c),(2,bp q),(7,bp R),(28,bp c),(29,vI j.1),(30,vI j.2.1),(31,bp c),(33,.agg (bh m.1 C D E F))]) kr<|ay ?_;have g9:=aj Z x bo;have fE:r.heap.size≤ah:=bU n g9.size;have dH:=(ab l g8);have fm:=cK M bd;have ha:=b9 ((b8 (L.grown x (ai fm))) _ rfl) ((bc n) _ rfl);have hb:=aS A f.size;have hc:=aS hb i.size;have fn:=aS hc d.size;have he:=aS B f.size;have hf:=aS he i.size;have fo:=aS hf d.size;have iC:r.heap.size≤R:=bU c5 (aj (aj (aj (aj g9 f nb) i (cD fE)) d bo) l nb).size;have hg:=bl.grown l nb;have hh:=cf ha (b9 ((b8 d7) _ rfl) ((bc c5) _ rfl));exact iv _ _ ⟨R,rfl,(aj (aj (aj (aj (aj Z x bo) f nb) i (cD fE)) d bo) dH nb),g8.size,(bl.grown dH nb),(((((L.grown x (ai fm)).grown f nb).grown i (ai (ng ha))).grown d (ai fm)).grown dH nb),((((c8.grown f A nb).grown i hb (ai (apF n A))).grown d hc (ai (xq H s w))).grown dH fn nb),(aS fn dH.size),((((c9.grown f B nb).grown i he (ai (apF n B))).grown d hf (ai (xq I s w))).grown dH fo nb),(aS fo dH.size),kM,iC,(cK c5 hg),Nat.ne_of_lt hh,(apH c5 hg),ng hh,(apF c5 (aS fn l.size)),(apF c5 (aS fo l.size))⟩
       ·refine dt bp dy 25 cr rfl rfl kr kr ?_;intro ei k6 eD hi S lM;refine ⟨(fun _=>trivial),?_⟩;refine aa<|ay<|gv_alt [(4,bA 11 [0,1,2,3,4,9]),(5,bA 11 [0,1,2,3,5,9])] 5 kr kr ⟨?_,?_,trivial⟩
        ·have ca:=(ab l eD);refine clq ce (aT ak c j.2.2.2 (bb [63]) k6 (bl.grown ca nb) z ed) ?_;rintro ma mb ⟨bg,rfl,kN⟩;refine ⟨(fun _=>trivial),?_⟩;refine aa<|bj [0,2,3,7,28,29,30,32] (σ':=[(0,bp c),(2,bp q),(3,bp ah),(7,bp ei),(28,bp c),(29,vI j.1),(30,vI j.2.1),(32,vB z.1)]) kr<|ay ?_;have hj:=aj Z x bo;have fF:r.heap.size≤ah:=bU n hj.size;have eE:=cK M bd;have hl:=b9 ((b8 (L.grown x (ai eE))) _ rfl) ((bc n) _ rfl);have hm:=aS A f.size;have hn:=aS hm i.size;have fp:=aS hn d.size;have ho:=aS fp ca.size;have hp:=aS B f.size;have hq:=aS hp i.size;have fq:=aS hq d.size;have hr:=aS fq ca.size;have ht:=bl.grown l nb;have hv:=cK S ht;have iD:r.heap.size≤ei:=bU S (aj (aj (aj (aj hj f nb) i (cD fF)) d bo) l nb).size;have fs:=b9 ((b8 (ch.grown l nb)) _ rfl) ((bc S) _ rfl);have hw:=cf hl fs;exact ip _ _ ⟨ei,rfl,(aj (aj (aj (aj (aj (aj Z x bo) f nb) i (cD fF)) d bo) ca nb) bg bo),(nt eD.size bg.size),kN,((((((L.grown x (ai eE)).grown f nb).grown i (ai (ng hl))).grown d (ai eE)).grown ca nb).grown bg (ai eE)),(((((c8.grown f A nb).grown i hm (ai (apF n A))).grown d hn (ai (xq H s w))).grown ca fp nb).grown bg ho (ai (xq H s w))),(aS ho bg.size),(((((c9.grown f B nb).grown i hp (ai (apF n B))).grown d hq (ai (xq I s w))).grown ca fq nb).grown bg hr (ai (xq I s w))),(aS hr bg.size),((ch.grown ca nb).grown bg (ai ec)),(hi.grown bg (ai hv)),iD,hv,Nat.ne_of_lt hw,Nat.ne_of_lt fs,(apH S ht),ng hw,(apF S (aS fp l.size)),(apF S (aS fq l.size)),ng fs⟩
        ·have cb:=(ab l eD);refine gv_loadBox (t:=25) (b:=ah) (t':=25) (fr:=(0,0)) (bh m.1 C D E F) [] (fun _=>trivial) rfl rfl rfl kr kr kr kr (inwF (ch.grown cb nb)) rfl ?_;refine aa<|bj [0,2,7,28,29,30,31,33] (σ':=[(0,bp c),(2,bp q),(7,bp ei),(28,bp c),(29,vI j.1),(30,vI j.2.1),(31,bp c),(33,.agg (bh m.1 C D E F))]) kr<|ay ?_;have hy:=aj Z x bo;have fG:r.heap.size≤ah:=bU n hy.size;have ft:=cK M bd;have hz:=b9 ((b8 (L.grown x (ai ft))) _ rfl) ((bc n) _ rfl);have hA:=aS A f.size;have hB:=aS hA i.size;have fu:=aS hB d.size;have hC:=aS B f.size;have hD:=aS hC i.size;have fv:=aS hD d.size;have iF:r.heap.size≤ei:=bU S (aj (aj (aj (aj hy f nb) i (cD fG)) d bo) l nb).size;have hE:=bl.grown l nb;have hF:=cf hz (b9 ((b8 (ch.grown l nb)) _ rfl) ((bc S) _ rfl));exact iv _ _ ⟨ei,rfl,(aj (aj (aj (aj (aj Z x bo) f nb) i (cD fG)) d bo) cb nb),eD.size,(bl.grown cb nb),(((((L.grown x (ai ft)).grown f nb).grown i (ai (ng hz))).grown d (ai ft)).grown cb nb),((((c8.grown f A nb).grown i hA (ai (apF n A))).grown d hB (ai (xq H s w))).grown cb fu nb),(aS fu cb.size),((((c9.grown f B nb).grown i hC (ai (apF n B))).grown d hD (ai (xq I s w))).grown cb fv nb),(aS fv cb.size),hi,iF,(cK S hE),Nat.ne_of_lt hF,(apH S hE),ng hF,(apF S (aS fu l.size)),(apF S (aS fv l.size))⟩
      ·rintro a dL ⟨eM,eN,k7,eO,eP,k8,b0,kO,kP,kQ,hG,kR,kS,hH,kT,kU,lN,kV,lO,lP,hI,kW,kX,lh,hd,hs,al⟩;refine aK ?_ hd hs al;clear kP eS hZ hY hX ch ec hQ bl d hP k4 fH i k3 n hO f I B H A eI dK c9 dJ c8 x Z k1 ld L hN;refine aH<|aG<|p1 37 (bp c)<|af W ?_;intro k9 kY W;refine ap kr rfl kr enters106 (cP ak c d0.1 (bb [42,43,63,123]) dL hI k9 kY) ?_;rintro mc md ⟨cc,rfl⟩;refine aa<|bx W (fun kZ W=>?_) (fun kZ W=>?_)
       ·cases W
       ·refine az<|aG<|dd 25 b0 (bh d0.2 eM eN eO eP) (bS (kX.grown cc nb))<|aB 25 0 (.agg (bh d0.2 eM eN eO eP)) (bh d0.2 eM eN eO eP) (kW.grown cc nb) kr kr kr ?_;intro la dX k0 lQ;refine aa<|am ?_
        obtain rfl:=sj W;refine au (ao [.agg (bh d0.2 eM eN eO eP)] rfl ⟨⟨⟨q,0,none⟩,kr,run_loadVar_row la q _ 25 _ _ _ k0 bV rfl kr⟩,trivial⟩ ?_);have iG:r.heap.size≤q:=bU M eH.size;have hJ:=aS hG cc.size;have hK:=aS hH cc.size;exact ⟨(aj (aj kO cc nb) dX (cD iG)),eM,eN,k7,eO,eP,k8,rfl,((kQ.grown cc hG nb).grown dX hJ (ai kU)),sxq (aS hJ dX.size) kR,((kS.grown cc hH nb).grown dX hK (ai kV)),sxq (aS hK dX.size) kT,((hI.grown cc nb).grown dX (ai (apH M bd)))⟩
set_option maxHeartbeats 4000000 in
set_option maxRecDepth 100000 in
theorem regex_parser_atom_step (ak:Nat) (o:gC56 ak) (A:gC83 ak) (B:gC107 ak) (D:gC127 ak) (g:gC150 ak) (b:Nat) (b3:cV) (j:World) (l:Nat→Prop) (m:∀ k,l k→k<j.heap.size∧k≠b) (C:aW j b 117 (cI b3)) (dR:Rd bE j l (ro 0) 256 cp) (dS:Rd (prE (iE .u8) (iE .u8)) j l (ro 1) 16 cL) (r0:cy × cV) (a:regex_parser_atom (ak+1) b3=some r0):
    Cs 127 [bp b] j (Ret fun v w'=>j.grownBy w' (some b)∧∃ (br:bk) (bG:Nat),∃ (a1:Nat→Prop),∃ (a2:bk) (a3:Nat),∃ (a4:Nat→Prop),v=tup [.agg (bh r0.1 br bG a2 a3)]∧Rd bO w' a1 br bG r0.1.2.2.2.2.2.1∧(Sxb a1 w' l j)∧Rd pcE w' a4 a2 a3 r0.1.2.2.2.2.2.2∧(Sxb a4 w' l j)∧aW w' b 117 (cI r0.2)):=by
 have a5:j.grownBy j (some b):=cJ _ _;rw[regex_parser_atom.eq_2]at a;refine aI Tryz.func127 rfl Tryz.ntmps127 kr ?_;refine bP [(0,bp b)] ?_;have ez:=C.lt;refine aG<|aA bp dy 25 kr kr ?_
 intro n w2 b5 a6 p eK;refine cq<|aF<|aG<|p1 4 (bp b)<|af a ?_;intro r7 eq a;refine ap kr rfl kr ce (aT ak b b3 (bb [40,63,58]) w2 (C.grown b5 nb) r7 eq) ?_;rintro eL er ⟨q,rfl,dV⟩;refine p1 3 (vB r7.1)<|aa<|bx a (fun dW a=>?_) (fun dW a=>?_)
 ·cases a
 ·refine aG<|p1 10 (bp b)<|af a ?_;intro b6 dX a;refine ap kr rfl kr ce (aT ak b r7.2 (bb [40,63,61]) er dV b6 dX) ?_;rintro eM es ⟨r,rfl,dY⟩;refine p1 9 (vB b6.1)<|aa<|bx a (fun dZ a=>?_) (fun dZ a=>?_)
  ·cases a
  ·refine aG<|p1 16 (bp b)<|af a ?_;intro b7 d0 a;refine ap kr rfl kr ce (aT ak b b6.2 (bb [40,63,33]) es dY b7 d0) ?_;rintro eN et ⟨s,rfl,d1⟩;refine p1 15 (vB b7.1)<|aa<|bx a (fun d2 a=>?_) (fun d2 a=>?_)
   ·cases a
   ·refine aG<|p1 22 (bp b)<|af a ?_;intro ca d3 a;refine ap kr rfl kr ce (aT ak b b7.2 (bb [40,63]) et d1 ca d3) ?_;rintro eO eu ⟨t,rfl,d4⟩;refine p1 21 (vB ca.1)<|aa<|bx a (fun d5 a=>?_) (fun d5 a=>?_)
    ·cases a
    ·refine aG<|p1 27 (bp b)<|bP [(0,bp b),(2,bp n),(27,bp b)]<|af a ?_;intro f d6 a;refine ap kr rfl kr ce (aT ak b ca.2 (bb [40]) eu d4 f d6) ?_;rintro eP ev ⟨u,rfl,X⟩;refine p1 26 (vB f.1)<|aa<|bx a (fun d7 a=>?_) (fun d7 a=>?_)
     ·refine aG<|pN 3 [29,30,31] [(29,bp b),(31,pt b 2)]<|bi 3 X 2 rfl<|pN 3 [33,34,35] [(33,vI (wI (f.2.2.2.1+1))),(35,pt b 2)]<|aB 3 2 (vI (wI (f.2.2.2.1+1))) #[vS f.2.1,vI f.2.2.1,vI (wI (f.2.2.2.1+1)),vB f.2.2.2.2.1,vB f.2.2.2.2.2] X kr kr kr ?_;intro cb Y cc eB;refine bH<|pN 4 [36,37,38,39] [(36,bp b),(39,pt b 2)]<|bi 3 cc 2 rfl<|p1 41 (.agg #[vI 7,vI (wI (f.2.2.2.1+1)),vI 0,vB false,vB false,vL none ([]:List bF) 0,vL none ([]:List Pc) 0])<|af a ?_;intro a7 d8 a;have w:=aj (aj (aj (aj (aj (aj (aj a5 b5 nb) q bo) r bo) s bo) t bo) u bo) Y bo;refine ap kr rfl kr enters150 (g b (f.2.1,f.2.2.1,wI (f.2.2.2.1+1),f.2.2.2.2.1,f.2.2.2.2.2) none 0 none 0 (7,wI (f.2.2.2.1+1),0,false,false,([]:List bF),([]:List Pc)) cb (fun k=>(fun _=>False) k∨l k) (fun k hk=>⟨(hk).elim (fun h=>h.elim) (fun h=>(lz1 m w.size) k h),fun e=>(hk).elim (fun h=>((h:False).elim)) (fun h=>(fun (hx:l b)=>(m _ hx).2 rfl) (e ▸ h))⟩) cc ((dr bO cb (fun _=>False) none 0).wide (fun k hk=>(.inl hk))) ((dr pcE cb (fun _=>False) none 0).wide (fun k hk=>(.inl hk))) ((rg dR w m).wide (fun k hk=>(.inr hk))) ((rg dS w m).wide (fun k hk=>(.inr hk))) a7 d8) ?_;rintro eQ dT ⟨ch,a8,a9,bd,be,bg,bl,rfl,d9,Z,ea,ah,eb⟩;have ck:∀ k,bd k→k<dT.heap.size:=fun k hk=>(Z k hk).1;have ec:∀ k,bd k→l k∨j.heap.size≤k:=fun k hk=>(Z k hk).2.elim (fun h=>(h).elim (fun h=>h.elim) (fun h=>(fun k (hk:l k)=>Or.inl hk) k h)) (fun h=>.inr (Nat.le_trans w.size h));have cs:∀ k,bl k→k<dT.heap.size:=fun k hk=>(ah k hk).1;have ed:∀ k,bl k→l k∨j.heap.size≤k:=fun k hk=>(ah k hk).2.elim (fun h=>(h).elim (fun h=>h.elim) (fun h=>(fun k (hk:l k)=>Or.inl hk) k h)) (fun h=>.inr (Nat.le_trans w.size h));have d:=cK p C;refine aB 25 0 (.agg (bh a7.1 a8 a9 be bg)) (bh a7.1 a8 a9 be bg) (((((((a6.grown q (ai d)).grown r (ai d)).grown s (ai d)).grown t (ai d)).grown u (ai d)).grown Y (ai d)).grown ch (ai d)) kr kr kr ?_;intro ew x ee eC;refine aa<|am ?_
      obtain rfl:=sj a;refine au (ao [.agg (bh a7.1 a8 a9 be bg)] rfl ⟨⟨⟨n,0,none⟩,kr,run_loadVar_row ew n _ 25 _ _ _ ee bV rfl kr⟩,trivial⟩ ?_);have E:j.heap.size≤n:=bU p a5.size;have cv:=(((((a6.grown q (ai d)).grown r (ai d)).grown s (ai d)).grown t (ai d)).grown u (ai d)).grown Y (ai d);have ef:¬ bd n:=fun h=>((Z _ h).2.elim (fun h=>(h).elim (fun h=>by cases h) (fun h=>((fun (hx:l n)=>nl E (m _ hx).1)) h)) (fun h=>nl h (cv.lt)));have eg:¬ bl n:=fun h=>((ah _ h).2.elim (fun h=>(h).elim (fun h=>by cases h) (fun h=>((fun (hx:l n)=>nl E (m _ hx).1)) h)) (fun h=>nl h (cv.lt)));exact ⟨(aj (aj w ch bo) x (cD E)),a8,a9,bd,be,bg,bl,rfl,(d9.grown x ck (ai ef)),sxq (aS ck x.size) ec,(ea.grown x cs (ai eg)),sxq (aS cs x.size) ed,(eb.grown x (ai (apH p C)))⟩
     ·refine aG<|p1 44 (bp b)<|af a ?_;intro cw eh a;refine ap kr rfl kr ce (aT ak b f.2 (bb [91]) ev X cw eh) ?_;rintro eR ex ⟨an,rfl,ei⟩;refine p1 43 (vB cw.1)<|aa<|bx a (fun ej a=>?_) (fun ej a=>?_)
      ·cases a
      ·refine aG<|p1 49 (bp b)<|af a ?_;intro cx c3 a;refine ap kr rfl kr ce (aT ak b cw.2 (bb [92]) ex ei cx c3) ?_;rintro eD ek ⟨F,rfl,c4⟩;refine p1 48 (vB cx.1)<|aa<|bx a (fun c5 a=>?_) (fun c5 a=>?_)
       ·cases a
       ·refine aG<|p1 54 (bp b)<|af a ?_;intro ax c7 a;refine ap kr rfl kr ce (aT ak b cx.2 (bb [46]) ek c4 ax c7) ?_;rintro eE el ⟨G,rfl,c8⟩;refine p1 53 (vB ax.1)<|aa<|bx a (fun c9 a=>?_) (fun c9 a=>?_)
        ·cases a
        ·refine aG<|p1 60 (bp b)<|af a ?_;intro H ds a;refine ap kr rfl kr ce (aT ak b ax.2 (bb [94]) el c8 H ds) ?_;rintro eF em ⟨I,rfl,dA⟩;refine p1 59 (vB H.1)<|bP [(0,bp b),(2,bp n),(59,vB H.1)]<|aa<|bx a (fun dB a=>?_) (fun dB a=>?_)
         ·cases a
         ·refine aG<|p1 66 (bp b)<|af a ?_;intro J dC a;refine ap kr rfl kr ce (aT ak b H.2 (bb [36]) em dA J dC) ?_;rintro eG en ⟨K,rfl,bn⟩;refine p1 65 (vB J.1)<|aa<|bx a (fun dD a=>?_) (fun dD a=>?_)
          ·cases a
          ·refine aG<|p1 72 (bp b)<|af a ?_;intro c0 dE a;refine ap kr rfl kr enters106 (cP ak b J.2 (bb [42,43,63,123,125,93]) en bn c0 dE) ?_;rintro eH eo ⟨y,rfl⟩;refine p1 71 (vB c0)<|aa<|bx a (fun dF a=>?_) (fun dF a=>?_)
           ·cases a
           ·refine az<|bu<|aG<|pN 2 [76,77] [(76,bp b),(77,bp b)]<|af a ?_;intro L dG a;have z:=aj (aj (aj (aj (aj (aj (aj (aj (aj (aj (aj (aj a5 b5 nb) q bo) r bo) s bo) t bo) u bo) an bo) F bo) G bo) I bo) K bo) y nb;refine ap kr rfl kr enters153 (regex_parser_next_ok ak b J.2 eo l (jg m z) (bn.grown y nb) (rg dR z m) (rg dS z m) L dG) ?_;rintro eI a0 ⟨M,rfl,dH⟩;refine p1 79 (.agg #[vI 1,vI L.1,vI 0,vB false,vB false,vL none ([]:List bF) 0,vL none ([]:List Pc) 0])<|af a ?_;intro N dI a;refine ap kr rfl kr enters85 (cj ak b L.2 none 0 none 0 (1,L.1,0,false,false,([]:List bF),([]:List Pc)) a0 (fun _=>False) (fun k hk=>⟨hk.elim,fun e=>((hk:False).elim)⟩) dH (dr bO a0 (fun _=>False) none 0) (dr pcE a0 (fun _=>False) none 0) N dI) ?_;rintro eJ c1 ⟨bs,O,P,Q,R,S,T,rfl,dJ,U,dK,V,dL⟩;have bA:∀ k,Q k→k<c1.heap.size:=fun k hk=>(U k hk).1;have W:=aj z M bo;have dM:∀ k,Q k→l k∨j.heap.size≤k:=fun k hk=>(U k hk).2.elim (fun h=>h.elim) (fun h=>.inr (Nat.le_trans W.size h));have b0:∀ k,T k→k<c1.heap.size:=fun k hk=>(V k hk).1;have dN:∀ k,T k→l k∨j.heap.size≤k:=fun k hk=>(V k hk).2.elim (fun h=>h.elim) (fun h=>.inr (Nat.le_trans W.size h));have c:=cK p C;refine aB 25 0 (.agg (bh N.1 O P R S)) (bh N.1 O P R S) (((((((((((((a6.grown q (ai c)).grown r (ai c)).grown s (ai c)).grown t (ai c)).grown u (ai c)).grown an (ai c)).grown F (ai c)).grown G (ai c)).grown I (ai c)).grown K (ai c)).grown y nb).grown M (ai c)).grown bs (ai c)) kr kr kr ?_;intro ep i dO ey;refine aa<|am ?_
            obtain rfl:=sj a;refine au (ao [.agg (bh N.1 O P R S)] rfl ⟨⟨⟨n,0,none⟩,kr,run_loadVar_row ep n _ 25 _ _ _ dO bV rfl kr⟩,trivial⟩ ?_);have c2:j.heap.size≤n:=bU p a5.size;have b2:=(((((((((((a6.grown q (ai c)).grown r (ai c)).grown s (ai c)).grown t (ai c)).grown u (ai c)).grown an (ai c)).grown F (ai c)).grown G (ai c)).grown I (ai c)).grown K (ai c)).grown y nb).grown M (ai c);have dP:¬ Q n:=fun h=>((U _ h).2.elim (fun h=>by cases h) (fun h=>nl h (b2.lt)));have dQ:¬ T n:=fun h=>((V _ h).2.elim (fun h=>by cases h) (fun h=>nl h (b2.lt)));exact ⟨(aj (aj W bs bo) i (cD c2)),O,P,Q,R,S,T,rfl,(dJ.grown i bA (ai dP)),sxq (aS bA i.size) dM,(dK.grown i b0 (ai dQ)),sxq (aS b0 i.size) dN,(dL.grown i (ai (apH p C)))⟩
set_option maxHeartbeats 4000000 in
set_option maxRecDepth 100000 in
theorem regex_parser_inside_step (ak:Nat) (c:gC56 ak) (B:gC83 ak) (C:gC107 ak) (F:gC127 ak) (E:gC150 ak) (f:Nat) (bs:cV) (aE:bk) (aJ:Nat) (y:bk) (z:Nat) (a:cy) (m:World) (l:Nat→Prop) (j:∀ k,l k→k<m.heap.size∧k≠f) (T:aW m f 117 (cI bs)) (bv:Rd bO m l aE aJ a.2.2.2.2.2.1) (dW:Rd pcE m l y z a.2.2.2.2.2.2) (dX:Rd bE m l (ro 0) 256 cp) (dY:Rd (prE (iE .u8) (iE .u8)) m l (ro 1) 16 cL) (r0:cy × cV) (t:regex_parser_inside (ak+1) bs a=some r0):
    Cs 150 [bp f,.agg (bh a aE aJ y z)] m (Ret fun v w'=>m.grownBy w' (some f)∧∃ (br:bk) (bG:Nat),∃ (a5:Nat→Prop),∃ (a6:bk) (a7:Nat),∃ (a8:Nat→Prop),v=tup [.agg (bh r0.1 br bG a6 a7)]∧Rd bO w' a5 br bG r0.1.2.2.2.2.2.1∧(Sxb a5 w' l m)∧Rd pcE w' a8 a6 a7 r0.1.2.2.2.2.2.2∧(Sxb a8 w' l m)∧aW w' f 117 (cI r0.2)):=by
 have b0:m.grownBy m (some f):=cJ _ _;rw[regex_parser_inside.eq_2]at t;refine aI Tryz.func150 rfl Tryz.ntmps150 kr ?_;refine bP [(0,bp f),(1,.agg (bh a aE aJ y z))] ?_;have b2:=T.lt;refine aG<|aA bp (bh a aE aJ y z) 25 kr kr ?_
 intro b1 w2 b3 b4 Z eb;refine aA bp dy 25 kr kr ?_;intro U w8 b5 ah A d3;refine bH<|p1 5 (bp f)<|af t ?_;intro i dM t;have b6:=(ab b3 b5);have u:=aj b0 b6 nb;refine ap kr rfl kr enters56 (c f bs w8 l (jg j u) (T.grown b6 nb) (rg dX u j) (rg dY u j) i dM) ?_;rintro ec ca ⟨an,dG,dH,V,dI,dJ,W,rfl,dN,G,dO,H,ax⟩;have a0:∀ k,V k→k<ca.heap.size:=fun k hk=>(G k hk).1;have cb:∀ k,V k→l k∨m.heap.size≤k:=fun k hk=>(G k hk).2.elim (fun h=>(fun k (hk:l k)=>Or.inl hk) k h) (fun h=>.inr (Nat.le_trans u.size h));have a1:∀ k,W k→k<ca.heap.size:=fun k hk=>(H k hk).1;have cc:∀ k,W k→l k∨m.heap.size≤k:=fun k hk=>(H k hk).2.elim (fun h=>(fun k (hk:l k)=>Or.inl hk) k h) (fun h=>.inr (Nat.le_trans u.size h));refine aA (fun b=>.slice (ro b) 1 1) (bh i.1 dG dH dI dJ) 25 kr kr ?_;intro n dK o dP d d4;obtain ⟨r,e⟩:∃ X:Nat→Prop,X=(fun k=>V k∨W k):=⟨_,rfl⟩;have ch:∀ k,r k→k<ca.heap.size:=fun k h=>by rw[e]at h;exact (h).elim (fun h=>a0 k h) (fun h=>a1 k h)
 have ck:∀ k,r k→k<dK.heap.size:=fun k h=>b9 (ch k h) o.size;have cs:∀ k,r k→l k∨m.heap.size≤k:=fun k h=>by rw[e]at h;exact (h).elim (fun h=>cb k h) (fun h=>cc k h)
 have dQ:ar pcE 25 dK r (ro n) 1 ([Pc.of i.1]:List Pc):=bI dP (by rw[e];exact ⟨[vI i.1.1,vI i.1.2.1,vI i.1.2.2.1,vB i.1.2.2.2.1,vB i.1.2.2.2.2.1,vL dG i.1.2.2.2.2.2.1 dH,vL dI i.1.2.2.2.2.2.2 dJ],[],rfl,pc_mk7 ((dN.grown o a0 nb).wide (fun _ h=>(.inl h))) ((dO.grown o a1 nb).wide (fun _ h=>(.inr h))),rfl⟩) (show 1≤maxLen by decide) (fun h=>noteq d (ch _ h));have a2:∀ k,r k→(fun k=>V k∨W k) k:=fun k h=>by rw[e]at h;exact h
 clear e;have cv:=aj u an bo;have cw:Lo m (ro n):=loo d cv.size;have d5:=apD d ax;have cx:=apG (p:=f) d ax (fun h=>(a2 _ h).elim (xq cb j b2) (xq cc j b2));have c0:=cK Z T;have a3:=(b4.grown b5 nb).grown an (ai c0);have d6:=apD d a3;have I:m.heap.size≤b1:=bU Z b0.size;have c1:=b4.grown b5 nb;have c2:=T.grown b3 nb;have J:=cK A c2;have K:=ah.grown an (ai J);have d7:=apD d K;have s:m.heap.size≤U:=bU A (aj b0 b3 nb).size;have c3:=apG (p:=U) d K (fun h=>(a2 _ h).elim (apE G (xlo s j) ah.lt) (apE H (xlo s j) ah.lt));have d8:∀ g,aL (ro n)=some g→¬ V g:=fun g e hx=>nl (cd d g e) (a0 _ hx);have d9:∀ g,aL (ro n)=some g→¬ W g:=fun g e hx=>nl (cd d g e) (a1 _ hx);refine p1 8 (pt b1 6)<|aB 23 6 (vL (ro n) ([Pc.of i.1]:List Pc) 1) #[vI a.1,vI a.2.1,vI a.2.2.1,vB a.2.2.2.1,vB a.2.2.2.2.1,vL aE a.2.2.2.2.2.1 aJ,vL (ro n) ([Pc.of i.1]:List Pc) 1] (a3.grown o nb) kr kr kr ?_;intro dZ w dR ea;refine cq<|aG<|p1 9 (bp f)<|af t ?_;intro a9 dS t;refine ap kr rfl kr ce (aT ak f i.2 (bb [41]) dZ ((ax.grown o nb).grown w (ai (apH Z T))) a9 dS) ?_;rintro ed d0 ⟨x,rfl,dT⟩;refine p1 11 (vB (!a9.1))<|aa<|dj (b:=(!a9.1)) kr (fun a4=>?_) (fun a4=>?_)
 ·replace t:=ite_t a4 t;cases t
 ·replace t:=ite_f a4 t;refine az<|aG<|p1 14 (bp f)<|dd 25 b1 #[vI a.1,vI a.2.1,vI a.2.2.1,vB a.2.2.2.1,vB a.2.2.2.2.1,vL aE a.2.2.2.2.2.1 aJ,vL (ro n) ([Pc.of i.1]:List Pc) 1] (bS (dR.grown x (ai c0)))<|af t ?_;intro bd dU t;have D:=aj (aj (aj cv o nb) w (cD I)) x bo;have c4:=aS ck w.size;have c5:=(dQ.grown w ck (dh (ai (apG (p:=b1) d a3 (fun h=>(a2 _ h).elim (apE G (xlo I j) c1.lt) (apE H (xlo I j) c1.lt)))))).grown x c4 (dh (ai cx));refine ap kr rfl kr enters85 (cj ak f a9.2 aE aJ (ro n) 1 (a.1,a.2.1,a.2.2.1,a.2.2.2.1,a.2.2.2.2.1,a.2.2.2.2.2.1,([Pc.of i.1]:List Pc)) d0 (fun k=>l k∨(fun k=>aL (ro n)=some k∨r k) k) (fun k hk=>⟨(hk).elim (fun h=>(lz1 j D.size) k h) (fun h=>(fun k (hk:aL (ro n)=some k∨r k)=>hk.elim (fun h=>c5.lt k h) (fun h=>(aS c4 x.size) k h)) k h),fun e=>(hk).elim (fun h=>(fun (hx:l f)=>(j _ hx).2 rfl) (e ▸ h)) (fun h=>cx (e ▸ h))⟩) dT ((rg bv D j).wide (fun k hk=>(.inl hk))) ((c5.rd (Y:=fun k=>aL (ro n)=some k∨r k) (fun _ h=>.inr h) (fun g e=>.inl e)).wide (fun k hk=>(.inr hk))) bd dU) ?_;rintro ee dL ⟨c7,L,M,N,O,P,Q,rfl,c9,R,ds,S,dA⟩;have be:∀ k,N k→k<dL.heap.size:=fun k hk=>(R k hk).1;have dB:∀ k,N k→l k∨m.heap.size≤k:=fun k hk=>(R k hk).2.elim (fun h=>(h).elim (fun h=>(fun k (hk:l k)=>Or.inl hk) k h) (fun h=>(fun k (hk:aL (ro n)=some k∨r k)=>hk.elim (fun h=>Or.inr (cw k h)) (fun h=>cs k h)) k h)) (fun h=>.inr (Nat.le_trans D.size h));have bg:∀ k,Q k→k<dL.heap.size:=fun k hk=>(S k hk).1;have dC:∀ k,Q k→l k∨m.heap.size≤k:=fun k hk=>(S k hk).2.elim (fun h=>(h).elim (fun h=>(fun k (hk:l k)=>Or.inl hk) k h) (fun h=>(fun k (hk:aL (ro n)=some k∨r k)=>hk.elim (fun h=>Or.inr (cw k h)) (fun h=>cs k h)) k h)) (fun h=>.inr (Nat.le_trans D.size h));have bl:=b9 ((b8 b4) _ rfl) ((bc A) _ rfl);refine aB 25 0 (.agg (bh bd.1 L M O P)) (bh bd.1 L M O P) ((((K.grown o nb).grown w (ai (Nat.ne_of_lt bl))).grown x (ai J)).grown c7 (ai J)) kr kr kr ?_;intro dV q dD d1;refine aa<|am ?_
  obtain rfl:=sj t;refine au (ao [.agg (bh bd.1 L M O P)] rfl ⟨⟨⟨U,0,none⟩,kr,run_loadVar_row dV U _ 25 _ _ _ dD bV rfl kr⟩,trivial⟩ ?_);have bn:=((K.grown o nb).grown w (ai (Nat.ne_of_lt bl))).grown x (ai J);have dE:¬ N U:=fun h=>((R _ h).2.elim (fun h=>(h).elim (fun h=>((fun (hx:l U)=>nl s (j _ hx).1)) h) (fun h=>(c3) h)) (fun h=>nl h (bn.lt)));have dF:¬ Q U:=fun h=>((S _ h).2.elim (fun h=>(h).elim (fun h=>((fun (hx:l U)=>nl s (j _ hx).1)) h) (fun h=>(c3) h)) (fun h=>nl h (bn.lt)));exact ⟨(aj (aj D c7 bo) q (cD s)),L,M,N,O,P,Q,rfl,(c9.grown q be (ai dE)),sxq (aS be q.size) dB,(ds.grown q bg (ai dF)),sxq (aS bg q.size) dC,(dA.grown q (ai (apH A c2)))⟩
theorem grp_regex_parser_alternatives_ok:∀ (ak:Nat),gC56 ak∧gC83 ak∧gC107 ak∧gC127 ak∧gC150 ak:=by
  intro ak
  induction ak with
  | zero=>refine ⟨?_,?_,?_,?_,?_⟩<;>first | (unfold gC56;intros;rename_i a;rw[regex_parser_alternatives.eq_1]at a;cases a) | (unfold gC83;intros;rename_i a;rw[regex_parser_sequence.eq_1]at a;cases a) | (unfold gC107;intros;rename_i a;rw[regex_parser_repeated.eq_1]at a;cases a) | (unfold gC127;intros;rename_i a;rw[regex_parser_atom.eq_1]at a;cases a) | (unfold gC150;intros;rename_i a;rw[regex_parser_inside.eq_1]at a;cases a)
  | succ ak ih=>obtain ⟨i0,i1,i2,i3,i4⟩:=ih;exact ⟨regex_parser_alternatives_step ak i0 i1 i2 i3 i4,regex_parser_sequence_step ak i0 i1 i2 i3 i4,regex_parser_repeated_step ak i0 i1 i2 i3 i4,regex_parser_atom_step ak i0 i1 i2 i3 i4,regex_parser_inside_step ak i0 i1 i2 i3 i4⟩

theorem regex_parser_alternatives_ok (ak:Nat):
    gC56 ak:=
  (grp_regex_parser_alternatives_ok ak).1

theorem regex_spell_ok (ak:Nat) (b:Int) (d:ByteArray) (e:World) (n:ByteArray) (c:regex_spell ak b d=some n):
    Cs 86 [vI b,vS d] e (G1 e [vS n]):=by
 have g:Bl e e:=Below.refl _ _;unfold regex_spell at c;refine aI Tryz.func86 rfl Tryz.ntmps86 kr ?_;refine bP [(0,vI b),(1,vS d)]<|aG<|pN 1 [4] []<|cq<|aF<|aG<|pL [5,6,7] 5 (vB (b==10))<|aa<|bx c (fun o c=>?_) (fun o c=>?_)
 ·refine aG<|p1 4 (vS (bb [92,110]))<|aa<|am ?_
  obtain rfl:=sj c;refine au (ao [vS (bb [92,110])] rfl ⟨kr,trivial⟩ ?_);exact ⟨ad g,rfl⟩
 ·refine aG<|pL [8,9,10] 8 (vB (b==9))<|aa<|bx c (fun p c=>?_) (fun p c=>?_)
  ·refine aG<|p1 4 (vS (bb [92,116]))<|aa<|am ?_
   obtain rfl:=sj c;refine au (ao [vS (bb [92,116])] rfl ⟨kr,trivial⟩ ?_);exact ⟨ad g,rfl⟩
  ·refine aG<|af c ?_;intro t f c
   refine aM (J:=fun a k=>Bl e k∧Sz e k∧Qa a 28 [(0,vI b),(11,vB t)]) ?_ ?_
   ·refine pL [12,13,14] 14 (vB (decide (b<128)))<|cg 14 f (fun q f=>?_) (fun q f=>?_)
    ·refine pN 3 [15,16,17] [(15,vS d),(17,vU (wB (b)))]<|af f ?_;intro r s f;refine ap kr rfl kr enters109 (strings_IndexByte_ok ak d (wB (b)) e r s) ?_;rintro v w ⟨i,rfl⟩;refine pL [11,19,20] 11 (vB (decide (r≥0)))<|aa ?_;obtain rfl:=sj f;refine ac fun a hd hs al=>?_;exact ⟨(bg g i nb),i.size,hd,hs,aU al⟩
    ·refine pL [11,15,16,17,18,19,20] 11 (vB false)<|aa ?_;obtain rfl:=sj f;exact ac fun a hd hs al=>⟨g,bJ,hd,hs,aU al⟩
   ·rintro a k ⟨h,u,hd,hs,al⟩;refine aK ?_ hd hs al;refine bx c (fun l c=>?_) (fun l c=>?_)
    ·refine aG<|pL [21,22] 22 (vR (wR (b)))<|gv_i2s (src:=21) (dst:=9) (kk:=.i32) (x:=(wR (b))) [] nofun rfl rfl rfl kr kr kr bf rfl ?_;refine af c ?_;intro j m c;refine dn 9 m<|p1 4 (vS j)<|aa<|am ?_
     obtain rfl:=sj c;refine au (ao [vS j] rfl ⟨kr,trivial⟩ ?_);exact ⟨ad h,rfl⟩
    ·refine az<|bu<|aG<|pL [25,26] 26 (vR (wR (b)))<|gv_i2s (src:=21) (dst:=9) (kk:=.i32) (x:=(wR (b))) [] nofun rfl rfl rfl kr kr kr bf rfl ?_;refine p1 4 (vS (Utf8.encode (wR (b))))<|aa<|am ?_
     obtain rfl:=sj c;refine au (ao [vS (Utf8.encode (wR (b)))] rfl ⟨kr,trivial⟩ ?_);exact ⟨ad h,rfl⟩

theorem regex_class_ok (ak:Nat) (ae:bk) (ag:Nat) (e:bk) (f:Nat) (b:cy) (h:World) (P:Nat→Prop) (H:Lw P h) (aw:Rd bO h P ae ag b.2.2.2.2.2.1) (a4:Rd pcE h P e f b.2.2.2.2.2.2) (r0:ByteArray) (o:regex_class ak b=some r0):
    Cs 87 [.agg (bh b ae ag e f)] h (G1 h [vS r0]):=by
 have I:Bl h h:=Below.refl _ _;unfold regex_class at o;refine aI Tryz.func87 rfl Tryz.ntmps87 kr ?_;refine bP [(0,.agg (bh b ae ag e f))]<|aG<|aA bp (bh b ae ag e f) 25 kr kr ?_
 intro E w2 K v bs b4;refine pN 1 [2] []<|bH<|p1 3 (vS (bb [91]))<|cq<|aG<|p1 6 (pt E 3)<|bi 4 v 3 rfl<|aa<|af o ?_;intro j7 j o
 refine aC (J:=fun a u=>Bl h u∧Sz w2 u∧aW u E 25 (bh b ae ag e f)∧Qa a 36 [(1,bp E),(3,vS j7)]) ?_ ?_
 ·refine bx j (fun a6 j=>?_) (fun a6 j=>?_)
  ·refine av<|p1 8 (vS (bb [91]))<|af j ?_;intro a7 Q j;refine dn 9 Q<|p1 3 (vS a7)<|aa ?_;obtain rfl:=sj j;refine ac fun a hd hs al=>?_;exact ⟨(bg I K nb),bJ,v,hd,hs,aU al⟩
  ·refine az ?_;obtain rfl:=sj j;refine ac fun a hd hs al=>?_;exact ⟨(bg I K nb),bJ,v,hd,hs,aU al⟩
 ·rintro a u ⟨R,bE,S,hd,hs,al⟩;refine aK ?_ hd hs al;refine aH<|aG<|p1 10 (pt E 5)<|bi 22 S 5 rfl<|pN 2 [12,13] [(12,vI (lz b.2.2.2.2.2.1)),(13,vI 0)]<|aa<|af o ?_;intro L j o
  refine aC (J:=fun a w=>Bl h w∧Sz u w∧Qa a 36 [(3,vS L)]) ?_ ?_
  ·refine aF<|bM (A:=fun (c:ByteArray × Int) a s=>Bl h s∧Sz u s∧Qa a 36 [(3,vS c.1),(11,vL ae b.2.2.2.2.2.1 ag),(12,vI (lz b.2.2.2.2.2.1)),(13,vI c.2)]) j ?_ ?_
   ·intro a hd hs al;exact ⟨R,bJ,hd,hs,aU al⟩
   ·rintro c r2 i a8 a s ⟨d,x,hd,hs,al⟩;refine aK ?_ hd hs al;refine aG<|p1 14 (vB (decide (c.2<(lz b.2.2.2.2.2.1))))<|cq<|bx i (fun T i=>?_) (fun T i=>?_)
    ·refine az<|aH<|aF<|aG<|af i ?_;intro g y i
     refine cR .i64 2 (aw.below d H) y aR ?_;obtain ⟨_,⟨_,_,rfl,rfl,rfl⟩,U⟩:=aw.cellsK y;refine laq 37 (aN ae ((c.2:Int).toNat*2)) (bX g) (bS (U s (fun k hk=>d.block k (H k hk)))) ?_;refine aA bp #[vI 0,vI 0] 37 kr kr ?_;intro l b5 p V t b0;refine aB 37 0 (.agg (bX g)) (bX g) V kr kr kr ?_;intro a9 q z b2;refine bH<|pN 2 [17,18] [(17,vS c.1),(18,bp l)]<|bi 3 z 0 rfl<|af i ?_;intro bd W i;refine ap kr rfl kr enters86 (regex_spell_ok ak g.1 (bb [92,93,94,45,91]) a9 bd W) ?_;rintro b6 M ⟨n,rfl⟩;refine af i ?_;intro B X i;refine dn 9 X<|p1 3 (vS B)<|bH<|p1 22 (pt l 1) ?_
     have r:=z.grown n nb;refine bi 3 r 1 rfl<|p1 24 (bp l)<|bi 3 r 0 rfl<|p1 26 (vB (decide (g.2>g.1)))<|bP [(3,vS B),(5,bp l),(11,vL ae b.2.2.2.2.2.1 ag),(12,vI (lz b.2.2.2.2.2.1)),(13,vI c.2),(26,vB (decide (g.2>g.1)))]<|aa<|af i ?_;intro N m i
     refine aC (J:=fun a C=>Bl h C∧Sz M C∧Qa a 36 [(3,vS N),(11,vL ae b.2.2.2.2.2.1 ag),(12,vI (lz b.2.2.2.2.2.1)),(13,vI c.2)]) ?_ ?_
     ·refine bx m (fun Y m=>?_) (fun Y m=>?_)
      ·refine av<|pN 2 [27,28] [(27,vS B),(28,pt l 1)]<|bi 3 r 1 rfl<|af m ?_;intro be Z m;refine ap kr rfl kr enters86 (regex_spell_ok ak g.2 (bb [92,93,94,45,91]) M be Z) ?_;rintro b7 ca ⟨D,rfl⟩;refine af m ?_;intro cb ah m;refine dn 9 ah<|af m ?_;intro bl an m;refine dn 9 an<|p1 3 (vS bl)<|aa ?_;obtain rfl:=sj m;refine ac fun a hd hs al=>?_;have F:h.heap.size≤l:=bU t d.size;exact ⟨(bg (bg (bg d p nb) q (aQ F)) (ab n D) nb),D.size,hd,hs,aU al⟩
      ·refine az ?_;obtain rfl:=sj m;refine ac fun a hd hs al=>?_;have G:h.heap.size≤l:=bU t d.size;exact ⟨(bg (bg (bg d p nb) q (aQ G)) n nb),bJ,hd,hs,aU al⟩
     ·rintro a C ⟨ax,a0,hd,hs,al⟩;refine aK ?_ hd hs al;have a1:=(nt (nt (nt (nt x p.size) q.size) n.size) a0);refine bu<|av<|pL [13,33] 13 (vI (wI (c.2+1)))<|aa ?_;obtain rfl:=sj i;refine ac fun a hd hs al=>?_;exact ⟨(N,wI (c.2+1)),rfl,ax,a1,hd,hs,aU al⟩
    ·refine bw<|bL rfl ?_
     obtain rfl:=sj i;replace j:=congrArg some (a8 _ rfl);obtain rfl:=sj j;refine ac fun a hd hs al=>?_;exact ⟨d,x,hd,hs,aU al⟩
  ·rintro a w ⟨a2,b3,hd,hs,al⟩;refine aK ?_ hd hs al;refine aG<|p1 34 (vS L)<|af o ?_;intro O a3 o;refine dn 9 a3<|p1 2 (vS O)<|aa<|am ?_
   obtain rfl:=sj o;refine au (ao [vS O] rfl ⟨kr,trivial⟩ ?_);exact ⟨ad a2,rfl⟩

theorem regex_pick_ok (ak:Nat) (c:Bool) (b:ByteArray) (a:ByteArray) (e:World) (g:ByteArray) (d:regex_pick ak c b a=some g):
    Cs 88 [vB c,vS b,vS a] e (G1 e [vS g]):=by
 have f:Bl e e:=Below.refl _ _;unfold regex_pick at d;refine aI Tryz.func88 rfl Tryz.ntmps88 kr ?_;refine bP [(0,vB c),(1,vS b),(2,vS a)]<|aG<|pN 1 [6] []<|cq<|aG<|p1 7 (vB c)<|aa<|bx d (fun h d=>?_) (fun h d=>?_)
 ·refine aG<|pL [6,8] 6 (vS a)<|aa<|am ?_
  obtain rfl:=sj d;refine au (ao [vS a] rfl ⟨kr,trivial⟩ ?_);exact ⟨ad f,rfl⟩
 ·refine az<|aG<|pL [6,9] 6 (vS b)<|aa<|am ?_
  obtain rfl:=sj d;refine au (ao [vS b] rfl ⟨kr,trivial⟩ ?_);exact ⟨ad f,rfl⟩

theorem regex_times_ok (ak:Nat) (ae:bk) (ag:Nat) (d:bk) (e:Nat) (c:cy) (h:World) (A:Nat→Prop) (y:Lw A h) (aw:Rd bO h A ae ag c.2.2.2.2.2.1) (a3:Rd pcE h A d e c.2.2.2.2.2.2) (F:Rd (tabE 3 di) h A (ro 3) 1 [vW 1]) (r0:ByteArray) (m:regex_times ak c=some r0):
    Cs 90 [.agg (bh c ae ag d e)] h (G1 h [vS r0]):=by
 have a5:Bl h h:=Below.refl _ _;unfold regex_times at m;refine aI Tryz.func90 rfl Tryz.ntmps90 kr ?_;refine bP [(0,.agg (bh c ae ag d e))]<|aG<|aA bp (bh c ae ag d e) 25 kr kr ?_
 intro f w2 a6 G b2 b6;refine pN 1 [2] []<|bH<|pN 1 [3] []<|cq<|aG<|p1 5 (pt f 1)<|bi 3 G 1 rfl<|af m ?_;intro q a7 m;have z:=bg a5 a6 nb;refine ap kr rfl kr enters91 (strconv_Itoa_ok ak c.2.1 w2 A (aS y z.size) (F.below z y) q a7) ?_;rintro b7 a8 ⟨u,rfl⟩;refine p1 4 (vS q)<|aa<|aF<|aG<|af m ?_;intro a9 b m
 refine aM (J:=fun a n=>Bl h n∧Sz a8 n∧aW n f 25 (bh c ae ag d e)∧Qa a 64 [(1,bp f),(4,vS q),(16,vB a9)]) ?_ ?_
 ·refine p1 17 (pt f 2) ?_;have o:=G.grown u nb;refine bi 3 o 2 rfl<|pL [19,20] 20 (vB (c.2.2.1==(-1)))<|cg 20 b (fun K b=>?_) (fun K b=>?_)
  ·refine p1 21 (pt f 1)<|bi 3 o 1 rfl<|pL [16,23,24] 16 (vB (c.2.1==0))<|aa ?_;obtain rfl:=sj b;refine ac fun a hd hs al=>?_;exact ⟨(bg z u nb),bJ,o,hd,hs,aU al⟩
  ·refine pL [16,21,22,23,24] 16 (vB false)<|aa ?_;obtain rfl:=sj b;refine ac fun a hd hs al=>?_;exact ⟨(bg z u nb),bJ,o,hd,hs,aU al⟩
 ·rintro a n ⟨v,b3,j,hd,hs,al⟩;refine aK ?_ hd hs al;refine af m ?_;intro H b m;refine aC (J:=fun a r=>Bl h r∧Sz n r∧aW r f 25 (bh c ae ag d e)∧Qa a 64 [(1,bp f),(3,vS H)]) ?_ ?_
  ·refine bx b (fun L b=>?_) (fun L b=>?_)
   ·refine av<|p1 3 (vS (bb [42]))<|aa ?_;obtain rfl:=sj b;exact ac fun a hd hs al=>⟨v,bJ,j,hd,hs,aU al⟩
   ·refine aG<|af b ?_;intro bd k b
    refine aM (J:=fun a s=>Bl h s∧Sz n s∧aW s f 25 (bh c ae ag d e)∧Qa a 64 [(1,bp f),(4,vS q),(25,vB bd)]) ?_ ?_
    ·refine p1 26 (pt f 2)<|bi 3 j 2 rfl<|pL [28,29] 29 (vB (c.2.2.1==(-1)))<|cg 29 k (fun M k=>?_) (fun M k=>?_)
     ·refine p1 30 (pt f 1)<|bi 3 j 1 rfl<|pL [25,32,33] 25 (vB (c.2.1==1))<|aa ?_;obtain rfl:=sj k;exact ac fun a hd hs al=>⟨v,bJ,j,hd,hs,aU al⟩
     ·refine pL [25,30,31,32,33] 25 (vB false)<|aa ?_;obtain rfl:=sj k;exact ac fun a hd hs al=>⟨v,bJ,j,hd,hs,aU al⟩
    ·rintro a s ⟨w,B,l,hd,hs,al⟩;refine aK ?_ hd hs al;refine bx b (fun N b=>?_) (fun N b=>?_)
     ·refine av<|p1 3 (vS (bb [43]))<|aa ?_;obtain rfl:=sj b;refine ac fun a hd hs al=>?_;exact ⟨w,B,l,hd,hs,aU al⟩
     ·refine aG<|af b ?_;intro be k b
      refine aM (J:=fun a t=>Bl h t∧Sz s t∧aW t f 25 (bh c ae ag d e)∧Qa a 64 [(1,bp f),(4,vS q),(34,vB be)]) ?_ ?_
      ·refine p1 35 (pt f 1)<|bi 3 l 1 rfl<|pL [37,38] 38 (vB (c.2.1==0))<|cg 38 k (fun O k=>?_) (fun O k=>?_)
       ·refine p1 39 (pt f 2)<|bi 3 l 2 rfl<|pL [34,41,42] 34 (vB (c.2.2.1==1))<|aa ?_;obtain rfl:=sj k;exact ac fun a hd hs al=>⟨w,bJ,l,hd,hs,aU al⟩
       ·refine pL [34,39,40,41,42] 34 (vB false)<|aa ?_;obtain rfl:=sj k;exact ac fun a hd hs al=>⟨w,bJ,l,hd,hs,aU al⟩
      ·rintro a t ⟨i,P,g,hd,hs,al⟩;refine aK ?_ hd hs al;have p:=(nt B P);refine bx b (fun Q b=>?_) (fun Q b=>?_)
       ·refine av<|p1 3 (vS (bb [63]))<|aa ?_;obtain rfl:=sj b;refine ac fun a hd hs al=>?_;exact ⟨i,p,g,hd,hs,aU al⟩
       ·refine aG<|p1 44 (pt f 2)<|bi 3 g 2 rfl<|pL [43,46] 43 (vB (c.2.2.1==(-1)))<|aa<|bx b (fun R b=>?_) (fun R b=>?_)
        ·refine av<|p1 47 (vS q)<|af b ?_;intro ca S b;refine dn 9 S<|af b ?_;intro bl T b;refine dn 9 T<|p1 3 (vS bl)<|aa ?_;obtain rfl:=sj b;refine ac fun a hd hs al=>?_;exact ⟨i,p,g,hd,hs,aU al⟩
        ·refine aG<|p1 51 (pt f 2)<|bi 3 g 2 rfl<|p1 53 (pt f 1)<|bi 3 g 1 rfl<|pL [50,55] 50 (vB (c.2.2.1==c.2.1))<|aa<|bx b (fun U b=>?_) (fun U b=>?_)
         ·refine av<|p1 56 (vS q)<|af b ?_;intro cb V b;refine dn 9 V<|af b ?_;intro bn W b;refine dn 9 W<|p1 3 (vS bn)<|aa ?_;obtain rfl:=sj b;refine ac fun a hd hs al=>?_;exact ⟨i,p,g,hd,hs,aU al⟩
         ·refine av<|p1 8 (vS q)<|af b ?_;intro cc X b;refine dn 9 X<|af b ?_;intro bs Y b;refine dn 9 Y<|p1 11 (pt f 2)<|bi 3 g 2 rfl<|af b ?_;intro I Z b;refine ap kr rfl kr enters91 (strconv_Itoa_ok ak c.2.2.1 t A (aS y i.size) (F.below i y) I Z) ?_;rintro ch ck ⟨x,rfl⟩;refine bP [(1,bp f),(10,vS bs),(13,vS I)]<|af b ?_;intro cs ah b;refine dn 9 ah<|af b ?_;intro bA an b;refine dn 9 an<|p1 3 (vS bA)<|aa ?_;obtain rfl:=sj b;refine ac fun a hd hs al=>?_;exact ⟨(bg i x nb),(nt p x.size),(g.grown x nb),hd,hs,aU al⟩
  ·rintro a r ⟨C,b4,ax,hd,hs,al⟩;refine aK ?_ hd hs al;refine bu<|aH<|aG<|p1 59 (pt f 4)<|bi 4 ax 4 rfl<|aa<|af m ?_;intro D b m
   refine aC (J:=fun a E=>Bl h E∧Sz r E∧Qa a 64 [(3,vS D)]) ?_ ?_
   ·refine bx b (fun a0 b=>?_) (fun a0 b=>?_)
    ·refine av<|p1 61 (vS H)<|af b ?_;intro bE a1 b;refine dn 9 a1<|p1 3 (vS bE)<|aa ?_;obtain rfl:=sj b;exact ac fun a hd hs al=>⟨C,bJ,hd,hs,aU al⟩
    ·refine az ?_;obtain rfl:=sj b;exact ac fun a hd hs al=>⟨C,bJ,hd,hs,aU al⟩
   ·rintro a E ⟨a2,b5,hd,hs,al⟩;refine aK ?_ hd hs al;refine aG<|pL [2,63] 2 (vS D)<|aa<|am ?_
    obtain rfl:=sj m;refine au (ao [vS D] rfl ⟨kr,trivial⟩ ?_);exact ⟨ad a2,rfl⟩

abbrev gC58 (ak:Nat):Prop:=∀ (ae:bk) (ag:Nat) (a:bk) (b:Nat) (c:cy) (d:World) (e:Nat→Prop) (h:Lw e d) (aw:Rd bO d e ae ag c.2.2.2.2.2.1) (f:Rd pcE d e a b c.2.2.2.2.2.2) (i:Rd (tabE 3 di) d e (ro 3) 1 [vW 1]) (g:ByteArray),regex_text ak c=some g→Calls aq 58 ([.agg (bh c ae ag a b)]:List Value).toArray d (Ret fun v w'=>d.grownBy w' none∧v=tup [vS g])
set_option maxHeartbeats 4000000 in
set_option maxRecDepth 100000 in
theorem regex_text_step (ak:Nat) (z:gC58 ak):gC58 (ak+1):=by
 intro ae ag j l d N X0 n aw u ck r0 c;have ey:Bl N N:=Below.refl _ _;rw[regex_text.eq_2]at c;refine aI Tryz.func58 rfl Tryz.ntmps58 kr ?_;refine bP [(0,.agg (bh d ae ag j l))]<|aG<|aA bp (bh d ae ag j l) 25 kr kr ?_
 intro m w2 ez ea eD fa;refine pN 1 [2] []<|bH<|p1 3 (vL none ([]:List ByteArray) 0)<|cq<|aG<|p1 6 (pt m 6)<|bi 23 ea 6 rfl<|pN 2 [8,9] [(8,vI (lz d.2.2.2.2.2.2)),(9,vI 0)]<|aa<|af c ?_;intro K h1 c
 refine aC (J:=fun a C=>∃ (i:bk) (v:Nat),Bl N C∧Sz w2 C∧ar sE 9 C (fun _=>False) i v K∧(Lo N i)∧(∀ g,aL i=some g→¬ (· =m) g)∧¬ (fun k=>aL i=some k) m∧aW C m 25 (bh d ae ag j l)∧Qa a 82 [(1,bp m),(3,vL i K v)]) ?_ ?_
 ·refine aF<|bM (A:=fun (L:(List ByteArray) × Int) a M=>∃ (i:bk) (v:Nat),Bl N M∧Sz w2 M∧ar sE 9 M (fun _=>False) i v L.1∧(Lo N i)∧(∀ g,aL i=some g→¬ (· =m) g)∧¬ (fun k=>aL i=some k) m∧aW M m 25 (bh d ae ag j l)∧Qa a 82 [(1,bp m),(3,vL i L.1 v),(7,vL j d.2.2.2.2.2.2 l),(8,vI (lz d.2.2.2.2.2.2)),(9,vI L.2)]) h1 ?_ ?_
  ·intro a hd hs al;exact ⟨none,0,(bg ey ez nb),bJ,ar.nil sE 9 w2 (fun _=>False),nofun,nofun,nofun,ea,hd,hs,aU al⟩
  ·rintro L r2 D eA a M ⟨Z,cs,E,cv,F,a4,a5,cw,a6,hd,hs,al⟩;refine aK ?_ hd hs al;refine aG<|p1 10 (vB (decide (L.2<(lz d.2.2.2.2.2.2))))<|cq<|bx D (fun ee D=>?_) (fun ee D=>?_)
   ·refine az<|aH<|aF<|aG<|af D ?_;intro ah c0 D
    refine cR .i64 7 (u.below E n) c0 aZ ?_;obtain ⟨_,⟨_,_,rfl,rfl,⟨_,_,rfl,rfl,⟨_,_,rfl,rfl,⟨_,_,rfl,rfl,⟨_,_,rfl,rfl,⟨_,_,rfl,⟨an,a0,rfl,ef⟩,⟨a1,a2,rfl,eg⟩⟩⟩⟩⟩⟩⟩,eh⟩:=cells_un (u.cellsK c0);refine laq 25 (aN j ((L.2:Int).toNat*7)) (dw (Pc.un ah) an a0 a1 a2) (bS (eh M (fun k hk=>E.block k (n k hk)))) ?_;refine aA bp dy 25 kr kr ?_;intro b5 fb G ei B eE;refine aB 25 0 (.agg (dw (Pc.un ah) an a0 a1 a2)) (dw (Pc.un ah) an a0 a1 a2) ei kr kr kr ?_;intro eB H c1 eF;refine aa<|av<|p1 13 (vL Z L.1 cs)<|dd 25 b5 (dw (Pc.un ah) an a0 a1 a2) (bS c1)<|af D ?_;intro a3 ej D;have dD:N.heap.size≤b5:=bU B E.size;have I:=bg (bg E G nb) H (aQ dD);refine ap kr rfl kr enters58 (z an a0 a1 a2 (Pc.un ah) eB X0 (aS n I.size) (ef.below I n) (eg.below I n) (ck.below I n) a3 ej) ?_;rintro fc fd ⟨O,rfl⟩;refine aA (fun b=>.slice (ro b) 1 1) #[vS a3] 9 kr kr ?_;intro q eC a7 ek P eG;have a8:ar sE 9 eC (fun _=>False) (ro q) 1 ([a3]:List ByteArray):=bI ek ⟨[vS a3],[],rfl,rfl,rfl⟩ (show 1≤maxLen by decide) (fun h=>h);have c2:=bg I O nb;have eH:Lo N (ro q):=loo P c2.size;refine af D ?_;intro c3 el D;have a9:=de B F.lt;have bd:=(ab O a7);refine ci sE (t:=54) (ty:=54) (e:=9) (a:=Z) (ax:=(ro q)) (cap:=cs) (cx:=1) (xs:=L.1) (ys:=([a3]:List ByteArray)) c3 (X:=(fun _=>False)) (Y:=(fun k=>aL (ro q)=some k)) cr rfl rfl kr kr cU info9 (((F.grown G fe nb).grown H fe (bY (ai a9))).grown bd fe nb) (a8.rd (Y:=fun k=>aL (ro q)=some k) fe (fun g e=>e)) el (.inr fun _ _ _ _ _ h=>h) fe ?_;intro w eb ff be em r;refine ⟨nofun,?_⟩;have c4:=bg c2 a7 nb;have en:Lo N w:=cz r a4 c4.size;have bl:=((a6.grown G nb).grown H (ai (ng (b9 ((b8 a6) _ rfl) ((bc B) _ rfl))))).grown bd nb;have eo:∀ g,aL w=some g→¬ (· =m) g:=bR r a5 (b8 bl);have ep:¬ (fun k=>aL w=some k) m:=fun h=>cl r (fun h=>(cw) h) (bl.lt) h;have c5:=c1.grown bd nb;have eI:∀ g,aL w=some g→¬ (· =b5) g:=bR r (df B F.lt) (b8 c5);have eJ:¬ (fun k=>aL w=some k) b5:=fun h=>cl r (fun h=>(a9) h) (c5.lt) h;have c7:=((F.grown G fe nb).grown H fe (bY (ai a9))).grown O fe nb;have eq:Ap Z (ro q):=fun g e hx=>nl ((cd P) _ hx) (c7.lt g e);have eK:Ap w (ro q):=bR r eq (fun k (hk:aL (ro q)=some k)=>a8.lt k hk);have er:Ap (ro q) Z:=fun g e hx=>nl ((cd P) g e) (c7.lt _ hx);have eL:Ap (ro q) w:=fun g e h=>cl r (fun h=>((er) g e) h) (a8.lt g e) h;refine p1 3 (vL w c3 eb)<|aa<|bu<|av<|pL [9,18] 9 (vI (wI (L.2+1)))<|aa ?_;obtain rfl:=sj D;refine ac fun a hd hs al=>?_;exact ⟨(c3,wI (L.2+1)),rfl,w,eb,(bg c4 be a4),(nt (nt (nt (nt (nt cv G.size) H.size) O.size) a7.size) be.size),em,en,eo,ep,(bl.grown be a5),hd,hs,aU al⟩
   ·refine bw<|bL rfl ?_
    obtain rfl:=sj D;replace h1:=congrArg some (eA _ rfl);obtain rfl:=sj h1;refine ac fun a hd hs al=>?_;exact ⟨Z,cs,E,cv,F,a4,a5,cw,a6,hd,hs,aU al⟩
 ·rintro a C ⟨o,y,f,eM,s,eN,eO,eP,p,hd,hs,al⟩;refine aK ?_ hd hs al;refine aH<|aG<|p1 19 (bp m)<|bi 3 p 0 rfl<|aa<|aF<|aG<|pL [21,22] 21 (vB (d.1==1))<|aa<|bx c (fun dE c=>?_) (fun dE c=>?_)
  ·refine aG<|p1 23 (pt m 1)<|bi 3 p 1 rfl<|af c ?_;intro bn dF c;refine ap kr rfl kr enters86 (regex_spell_ok ak d.2.1 (bb [92,46,94,36,42,43,63,40,41,91,93,123,125,124]) C bn dF) ?_;rintro eQ eR ⟨dG,rfl⟩;refine p1 2 (vS bn)<|aa<|am ?_
   obtain rfl:=sj c;refine au (ao [vS bn] rfl ⟨kr,trivial⟩ ?_);exact ⟨ad (bg f dG nb),rfl⟩
  ·refine aG<|pL [26,27] 26 (vB (d.1==2))<|aa<|bx c (fun dH c=>?_) (fun dH c=>?_)
   ·refine aG<|p1 2 (vS (bb [46]))<|aa<|am ?_
    obtain rfl:=sj c;refine au (ao [vS (bb [46])] rfl ⟨kr,trivial⟩ ?_);exact ⟨ad f,rfl⟩
   ·refine aG<|pL [28,29] 28 (vB (d.1==3))<|aa<|bx c (fun dI c=>?_) (fun dI c=>?_)
    ·refine aG<|dd 25 m (bh d ae ag j l) (bS p)<|af c ?_;intro bs dJ c;refine ap kr rfl kr enters87 (regex_class_ok ak ae ag j l d C X0 (aS n f.size) (aw.below f n) (u.below f n) bs dJ) ?_;rintro eS eT ⟨dK,rfl⟩;refine p1 2 (vS bs)<|aa<|am ?_
     obtain rfl:=sj c;refine au (ao [vS bs] rfl ⟨kr,trivial⟩ ?_);exact ⟨ad (bg f dK nb),rfl⟩
    ·refine aG<|pL [32,33] 32 (vB (d.1==4))<|aa<|bx c (fun dL c=>?_) (fun dL c=>?_)
     ·refine aG<|p1 2 (vS (bb [94]))<|aa<|am ?_
      obtain rfl:=sj c;refine au (ao [vS (bb [94])] rfl ⟨kr,trivial⟩ ?_);exact ⟨ad f,rfl⟩
     ·refine aG<|pL [34,35] 34 (vB (d.1==5))<|aa<|bx c (fun dM c=>?_) (fun dM c=>?_)
      ·refine aG<|p1 2 (vS (bb [36]))<|aa<|am ?_
       obtain rfl:=sj c;refine au (ao [vS (bb [36])] rfl ⟨kr,trivial⟩ ?_);exact ⟨ad f,rfl⟩
      ·refine aG<|pL [36,37] 36 (vB (d.1==6))<|aa<|bx c (fun dN c=>?_) (fun dN c=>?_)
       ·refine aG<|p1 38 (pt m 3)<|bi 4 p 3 rfl<|af c ?_;intro bE dO c;refine ap kr rfl kr enters88 (regex_pick_ok ak d.2.2.2.1 (bb [92,98]) (bb [92,66]) C bE dO) ?_;rintro eU eV ⟨dP,rfl⟩;refine p1 2 (vS bE)<|aa<|am ?_
        obtain rfl:=sj c;refine au (ao [vS bE] rfl ⟨kr,trivial⟩ ?_);exact ⟨ad (bg f dP nb),rfl⟩
       ·refine aG<|pL [41,42] 41 (vB (d.1==7))<|aa<|bx c (fun dQ c=>?_) (fun dQ c=>?_)
        ·refine aH<|bQ kr ?_
         intro b0 Q;refine aV [0,4,5] (bA 10 [0,4,5]) 7 kr kr<|pN 2 [43,47] [(43,pt m 1),(47,vL o K y)]<|af c ?_;intro c8 b6 c;have R:=s.grown Q fe nb;refine cR .i64 1 R.rdF b6 cU<|aa<|ay<|aP (dg b0 []) [1,2,3,6] [(1,some true),(2,some true),(6,some true),(3,some false)] (bA 10 [0,1,2,3,4,5,6]) 3 kr kr (aD _ _)<|cu 3 ⟨m,1,none⟩ (vI d.2.1) (bK fun w' hC'=>((hC'.box (p.grown Q nb) aX).cell 1 rfl)) ?_;refine p1 45 (vB (d.2.1==0))<|cu 9 (aN o ((0:Int).toNat*1)) (vS c8) (bK fun w' hC'=>((hC'.rd R.rdF R.lt ct).cell b6)) ?_;refine bP [(45,vB (d.2.1==0)),(49,vS c8)]<|af c ?_;intro es dR c;refine clq enters88 (regex_pick_ok ak (d.2.1==0) (bb [40]) (bb [40,63,58]) b0 es dR) ?_;rintro eW eX ⟨b7,rfl⟩;refine ⟨(fun _=>(aD b0 []).grown b7 nb),?_⟩;refine aa<|ay<|aV [7,8,9] (bA 10 [0,1,2,3,4,5,6,7,8,9]) 0 kr kr<|af c ?_;intro eY dS c;refine dn 9 dS<|af c ?_;intro c9 dT c;refine dn 9 dT<|p1 2 (vS c9)<|aa<|ay<|ba kr<|am ?_;obtain rfl:=sj c;refine au (ao [vS c9] rfl ⟨kr,trivial⟩ ?_);exact ⟨ad (bg f (ab Q b7) nb),rfl⟩
        ·refine aG<|pL [52,53] 52 (vB (d.1==8))<|aa<|bx c (fun dU c=>?_) (fun dU c=>?_)
         ·refine aG<|p1 54 (vL o K y)<|af c ?_;intro b2 dV c;refine ap kr rfl kr enters89 (strings_Join_ok ak o y K (bb []) C (fun k=>aL o=some k) s.lt s.rdF b2 dV) ?_;rintro eZ e0 ⟨dW,rfl⟩;refine p1 2 (vS b2)<|aa<|am ?_
          obtain rfl:=sj c;refine au (ao [vS b2] rfl ⟨kr,trivial⟩ ?_);exact ⟨ad (bg f dW nb),rfl⟩
         ·refine aG<|pL [56,57] 56 (vB (d.1==9))<|aa<|bx c (fun dX c=>?_) (fun dX c=>?_)
          ·refine aG<|p1 58 (vL o K y)<|af c ?_;intro S dY c;refine ap kr rfl kr enters89 (strings_Join_ok ak o y K (bb [124]) C (fun k=>aL o=some k) s.lt s.rdF S dY) ?_;rintro e1 e2 ⟨dZ,rfl⟩;refine p1 2 (vS S)<|bP [(2,vS S)]<|aa<|am ?_
           obtain rfl:=sj c;refine au (ao [vS S] rfl ⟨kr,trivial⟩ ?_);exact ⟨ad (bg f dZ nb),rfl⟩
          ·refine aG<|pL [60,61] 60 (vB (d.1==10))<|aa<|bx c (fun d0 c=>?_) (fun d0 c=>?_)
           ·refine aH<|bQ kr ?_
            intro b3 T;refine aV [0,1] (bA 7 [0,1]) 5 kr kr<|p1 62 (vL o K y)<|af c ?_;intro et ca c;have U:=s.grown T fe nb;refine cR .i64 1 U.rdF ca cU<|aa<|ay<|aP (dg b3 []) [2,3,4] [(2,some true),(3,some true),(4,some false)] (bA 7 [0,1,2,3,4]) 2 kr kr (aD _ _)<|bP [(1,bp m),(63,.pointer (some (aN o ((0:Int).toNat*1))))]<|cu 9 (aN o ((0:Int).toNat*1)) (vS et) (bK fun w' hC'=>((hC'.rd U.rdF U.lt ct).cell ca)) ?_;refine dd 25 m (bh d ae ag j l) (bK fun w' hC'=>(hC'.box (p.grown T nb) aX)) ?_;refine af c ?_;intro eu d1 c;have x:=bg f T nb;refine clq enters90 (regex_times_ok ak ae ag j l d b3 X0 (aS n x.size) (aw.below x n) (u.below x n) (ck.below x n) eu d1) ?_;rintro e3 e4 ⟨cb,rfl⟩;refine ⟨(fun _=>(aD b3 []).grown cb nb),?_⟩;refine aa<|ay<|aV [5,6] (bA 7 [0,1,2,3,4,5,6]) 0 kr kr<|af c ?_;intro ds d2 c;refine dn 9 d2<|p1 2 (vS ds)<|aa<|ay<|ba kr<|am ?_;obtain rfl:=sj c;refine au (ao [vS ds] rfl ⟨kr,trivial⟩ ?_);exact ⟨ad (bg x cb nb),rfl⟩
           ·refine aG<|pL [68,69] 68 (vB (d.1==11))<|aa<|bx c (fun d3 c=>?_) (fun d3 c=>?_)
            ·refine aH<|bQ kr ?_
             intro b4 V;refine aV [0,3,4] (bA 9 [0,3,4]) 6 kr kr<|pN 2 [70,73] [(70,pt m 3),(73,vL o K y)]<|bP [(70,pt m 3),(73,vL o K y)]<|af c ?_;intro ev cc c;have W:=s.grown V fe nb;refine cR .i64 1 W.rdF cc cU<|aa<|ay<|aP (dg b4 []) [1,2,5] [(1,some true),(5,some true),(2,some false)] (bA 9 [0,1,2,3,4,5]) 3 kr kr (aD _ _)<|cu 4 ⟨m,3,none⟩ (vB d.2.2.2.1) (bK fun w' hC'=>((hC'.box (p.grown V nb) aX).cell 3 rfl)) ?_;refine cu 9 (aN o ((0:Int).toNat*1)) (vS ev) (bK fun w' hC'=>((hC'.rd W.rdF W.lt ct).cell cc)) ?_;refine af c ?_;intro ew d4 c;refine clq enters88 (regex_pick_ok ak d.2.2.2.1 (bb [40,63,61]) (bb [40,63,33]) b4 ew d4) ?_;rintro e5 e6 ⟨ch,rfl⟩;refine ⟨(fun _=>(aD b4 []).grown ch nb),?_⟩;refine aa<|ay<|aV [6,7,8] (bA 9 [0,1,2,3,4,5,6,7,8]) 0 kr kr<|af c ?_;intro e7 d5 c;refine dn 9 d5<|af c ?_;intro dA d6 c;refine dn 9 d6<|p1 2 (vS dA)<|aa<|ay<|ba kr<|am ?_;obtain rfl:=sj c;refine au (ao [vS dA] rfl ⟨kr,trivial⟩ ?_);exact ⟨ad (bg f (ab V ch) nb),rfl⟩
            ·refine az<|bu<|aG<|p1 78 (pt m 1)<|bP [(78,pt m 1)]<|bi 3 p 1 rfl<|af c ?_;intro ex d7 c;refine ap kr rfl kr enters91 (strconv_Itoa_ok ak d.2.1 C X0 (aS n f.size) (ck.below f n) ex d7) ?_;rintro e8 e9 ⟨d8,rfl⟩;refine af c ?_;intro dB d9 c;refine dn 9 d9<|p1 2 (vS dB)<|aa<|am ?_
             obtain rfl:=sj c;refine au (ao [vS dB] rfl ⟨kr,trivial⟩ ?_);exact ⟨ad (bg f d8 nb),rfl⟩
theorem grp_regex_text_ok:∀ (ak:Nat),gC58 ak:=by
  intro ak
  induction ak with
  | zero=>unfold gC58;intros;rename_i a;rw[regex_text.eq_1]at a;cases a
  | succ ak ih=>exact regex_text_step ak ih

theorem regex_text_ok (ak:Nat):
    gC58 ak:=
  grp_regex_text_ok ak

theorem regex_Parse_ok (ak:Nat) (w:ByteArray) (n:World) (j:Nat→Prop) (f:Lw j n) (c4:Rd bE n j (ro 0) 256 cp) (c5:Rd (prE (iE .u8) (iE .u8)) n j (ro 1) 16 cL) (dW:Rd (tabE 3 di) n j (ro 3) 1 [vW 1]) (r0:cy × bF) (b:regex_Parse ak w=some r0):
    Cs 30 [vS w] n (Ret fun v w'=>n.grownBy w' none∧∃ (br:bk) (bG:Nat),∃ (ax:Nat→Prop),∃ (a0:bk) (a1:Nat),∃ (a2:Nat→Prop),v=tup [.agg (bh r0.1 br bG a0 a1),.agg (bX r0.2)]∧Rd bO w' ax br bG r0.1.2.2.2.2.2.1∧(Sxb ax w' j n)∧Rd pcE w' a2 a0 a1 r0.1.2.2.2.2.2.2∧(Sxb a2 w' j n)):=by
 have T:Bl n n:=Below.refl _ _;unfold regex_Parse at b;refine calls_runM Tryz.func30 rfl Tryz.ntmps30 kr ?_;refine bP [(0,vS w)]<|aG<|aA bp dy 25 kr kr ?_
 intro g w2 c7 U V ea;refine aA bp #[vI 0,vI 0] 31 kr kr ?_;intro B w8 bn ds a3 d4;refine cq<|aF<|aG<|pL [5,6,7,8] 5 (vB (decide ((bz w)>200)))<|af b ?_;intro dX dA b;refine bZ (s:=5) (v:=(vB (decide ((bz w)>200)))) (v':=(vB dX)) kr (congrArg (Value.bool) (sj dA))<|aa<|bx b (fun dB b=>?_) (fun dB b=>?_)
 ·cases b
 ·refine aG<|p1 12 (vS w)<|af b ?_;intro c8 dC b;have G:=bg T (ab c7 bn) nb;refine ap kr rfl kr enters41 (utf8_ValidString_ok ak w w8 j (aS f G.size) (c4.below G f) (c5.below G f) c8 dC) ?_;rintro eb ec ⟨N,rfl⟩;refine pL [11,14] 11 (vB (!c8))<|aa<|bx b (fun dD b=>?_) (fun dD b=>?_)
  ·cases b
  ·refine az<|bu<|aG<|p1 17 (.func (.func 55) #[] #[bp g,bp B]) ?_
   refine gv_defer (d:=⟨.fn (.func 55) #[bp g,bp B],#[]⟩) rfl kr kr kr ?_;refine bH<|pL [18,19] 19 (.agg #[vS w,vI 0,vI 0,vB false,vB false])<|aA bp #[vS w,vI 0,vI 0,vB false,vB false] 117 kr kr ?_;intro l dY H dE a4 d5;refine p1 4 (bp l)<|bH<|p1 21 (bp l)<|af b ?_;intro c dF b;have bs:=(ab N H);have x:=bg G bs nb;have O:n.heap.size≤l:=bU a4 (bg G N nb).size;refine ap kr rfl kr enters56 (regex_parser_alternatives_ok ak l (w,0,0,false,false) dY j (fun k hk=>⟨(aS f x.size) k hk,fun e=>(fun (hx:j l)=>nl O (f _ hx)) (e ▸ hk)⟩) dE (c4.below x f) (c5.below x f) c dF) ?_;rintro ed c9 ⟨I,o,p,y,q,r,z,rfl,bA,C,b0,D,dG⟩;have W:∀ k,y k→k<c9.heap.size:=fun k hk=>(C k hk).1;have dH:∀ k,y k→j k∨n.heap.size≤k:=fun k hk=>(C k hk).2.elim (fun h=>(fun k (hk:j k)=>Or.inl hk) k h) (fun h=>.inr (Nat.le_trans x.size h));have X:∀ k,z k→k<c9.heap.size:=fun k hk=>(D k hk).1;have dI:∀ k,z k→j k∨n.heap.size≤k:=fun k hk=>(D k hk).2.elim (fun h=>(fun k (hk:j k)=>Or.inl hk) k h) (fun h=>.inr (Nat.le_trans x.size h));have Y:=(ab bn bs);have K:=b9 ((b8 U) _ rfl) ((bc a3) _ rfl);have P:=ds.grown N nb;have Z:=b9 ((b8 P) _ rfl) ((bc a4) _ rfl);have b2:=cf K Z;refine aB 25 0 (.agg (bh c.1 o p q r)) (bh c.1 o p q r) ((U.grown Y nb).grown I (ai (ng b2))) kr kr kr ?_;intro dZ i b3 d6;refine cq<|aF<|aG<|pL [24,25,26] 26 (bp l)<|bP [(2,bp g),(3,bp B),(4,bp l),(26,bp l)] ?_;have E:=dG.grown i (ai (Nat.ne_of_lt b2));refine bi 9 E 0 rfl<|pL [23,28] 23 (vB (!(c.2.1.toList==(bb []).toList)))<|aa<|bx b (fun dJ b=>?_) (fun dJ b=>?_)
   ·cases b
   ·refine aG<|pL [32,33,34] 34 (pt l 3)<|bi 4 E 3 rfl<|p1 31 (vB c.2.2.2.2.1)<|aa<|bx b (fun dK b=>?_) (fun dK b=>?_)
    ·cases b
    ·refine aG<|af b ?_;intro d0 h1 b
     refine aM (J:=fun a A=>Bl n A∧Sz dZ A∧aW A g 25 (bh c.1 o p q r)∧aW A B 31 #[vI 0,vI 0]∧aW A l 117 (cI c.2)∧Rd bO A y o p c.1.2.2.2.2.2.1∧Rd pcE A z q r c.1.2.2.2.2.2.2∧a.defers=[{ target:=.fn (.func 55) #[bp g,bp B],args:=#[]}]∧a.tmps.size=69∧Ok [(2,bp g),(3,bp B),(4,bp l),(38,vB d0)] a.tmps) ?_ ?_
     ·refine pL [39,40,41] 41 (pt l 1)<|bi 3 E 1 rfl<|pL [43,44] 44 (vB (decide (c.2.2.1>60)))<|cg 44 h1 (fun dL h1=>?_) (fun dL h1=>?_)
      ·refine pL [38,45,46,47,48,49,50] 38 (vB true)<|aa ?_;obtain rfl:=sj h1;refine ac fun a hd hs al=>?_;have Q:n.heap.size≤g:=bU V T.size;have b5:=U.grown Y nb;have dM:¬ y g:=fun h=>((C _ h).2.elim (fun h=>((fun (hx:j g)=>nl Q (f _ hx))) h) (fun h=>nl h (b5.lt)));have dN:¬ z g:=fun h=>((D _ h).2.elim (fun h=>((fun (hx:j g)=>nl Q (f _ hx))) h) (fun h=>nl h (b5.lt)));exact ⟨(bg (bg x I (aQ O)) i (aQ Q)),bJ,b3,(((P.grown H nb).grown I (ai (ng Z))).grown i (ai (Nat.ne_of_lt K))),E,(bA.grown i W (ai dM)),(b0.grown i X (ai dN)),hd,hs,aU al⟩
      ·refine pL [45,46,47] 47 (pt l 2)<|bi 3 E 2 rfl<|pL [38,49,50] 38 (vB (decide (c.2.2.2.1>9)))<|aa ?_;obtain rfl:=sj h1;refine ac fun a hd hs al=>?_;have R:n.heap.size≤g:=bU V T.size;have b6:=U.grown Y nb;have dO:¬ y g:=fun h=>((C _ h).2.elim (fun h=>((fun (hx:j g)=>nl R (f _ hx))) h) (fun h=>nl h (b6.lt)));have dP:¬ z g:=fun h=>((D _ h).2.elim (fun h=>((fun (hx:j g)=>nl R (f _ hx))) h) (fun h=>nl h (b6.lt)));exact ⟨(bg (bg x I (aQ O)) i (aQ R)),bJ,b3,(((P.grown H nb).grown I (ai (ng Z))).grown i (ai (Nat.ne_of_lt K))),E,(bA.grown i W (ai dO)),(b0.grown i X (ai dP)),hd,hs,aU al⟩
     ·rintro a A ⟨ah,F,ca,dQ,dR,cb,cc,hd,hs,al⟩;refine aK ?_ hd hs al;refine bx b (fun dS b=>?_) (fun dS b=>?_)
      ·cases b
      ·refine aG<|pL [54,55,56] 56 (pt l 4)<|bi 4 dR 4 rfl<|p1 53 (vB c.2.2.2.2.2)<|aa<|bx b (fun dT b=>?_) (fun dT b=>?_)
       ·cases b
       ·refine aG<|dd 25 g (bh c.1 o p q r) (bS ca)<|af b ?_;intro ch dU b;have an:=aS W i.size;have S:=aS X i.size;refine ap kr rfl kr enters58 (regex_text_ok ak o p q r c.1 A (fun k=>y k∨z k∨j k) (fun k hk=>(hk).elim (fun h=>(aS an F) k h) (fun h=>(h).elim (fun h=>(aS S F) k h) (fun h=>(aS f ah.size) k h))) (cb.wide (fun k hk=>(.inl hk))) (cc.wide (fun k hk=>(.inr (.inl hk)))) ((dW.below ah f).wide (fun k hk=>(.inr (.inr hk)))) ch dU) ?_;rintro d7 d8 ⟨m,rfl⟩;refine pL [60,63,64] 60 (vB (decide ((bz ch)>200)))<|af b ?_;intro dV cs b;refine bZ (s:=60) (v:=(vB (decide ((bz ch)>200)))) (v':=(vB dV)) kr (congrArg (Value.bool) (sj cs))<|aa<|bx b (fun cv b=>?_) (fun cv b=>?_)
        ·cases b
        ·refine az<|bu<|aH<|av ?_
         have a5:=ca.grown m nb;refine dd 25 g (bh c.1 o p q r) (bS a5)<|p1 68 (.agg #[vI 0,vI 0])<|aB 25 0 (.agg (bh c.1 o p q r)) (bh c.1 o p q r) a5 kr kr kr ?_;intro d9 t cw d1;refine aB 31 0 (.agg #[vI 0,vI 0]) #[vI 0,vI 0] ((dQ.grown m nb).grown t (ai (Nat.ne_of_lt K))) kr kr kr ?_;intro ck u cx d2;refine aa<|am ?_
         obtain rfl:=sj b;refine au (gv_left (invoke55 _) (inert55 _ _)<|gv_doneM [.agg (bh c.1 o p q r),.agg #[vI 0,vI 0]] rfl ⟨⟨⟨g,0,none⟩,kr,run_loadVar_row ck g _ 25 _ _ _ (cw.grown u (ai (ng K))) bV rfl kr⟩,⟨⟨B,0,none⟩,kr,run_loadVar_row ck B _ 31 _ _ _ cx aO rfl kr⟩,trivial⟩ ?_);have L:n.heap.size≤g:=bU V T.size;have M:n.heap.size≤B:=bU a3 (bg T c7 nb).size;have a6:=U.grown (ab (ab bn N) H) nb;have c0:¬ y g:=fun h=>((C _ h).2.elim (fun h=>((fun (hx:j g)=>nl L (f _ hx))) h) (fun h=>nl h (a6.lt)));have a7:=aS (aS an F) m.size;have a8:=P.grown H nb;have c1:¬ y B:=fun h=>((C _ h).2.elim (fun h=>((fun (hx:j B)=>nl M (f _ hx))) h) (fun h=>nl h (a8.lt)));have a9:=aS a7 t.size;have c2:¬ z g:=fun h=>((D _ h).2.elim (fun h=>((fun (hx:j g)=>nl L (f _ hx))) h) (fun h=>nl h (a6.lt)));have bd:=aS (aS S F) m.size;have c3:¬ z B:=fun h=>((D _ h).2.elim (fun h=>((fun (hx:j B)=>nl M (f _ hx))) h) (fun h=>nl h (a8.lt)));have be:=aS bd t.size;exact ⟨ad (bg (bg (bg ah m nb) t (aQ L)) u (aQ M)),o,p,y,q,r,z,rfl,(((cb.grown m (aS an F) nb).grown t a7 (ai c0)).grown u a9 (ai c1)),sxq (aS a9 u.size) dH,(((cc.grown m (aS S F) nb).grown t bd (ai c2)).grown u be (ai c3)),sxq (aS be u.size) dI⟩

theorem regex_flat_ok (ak:Nat) (ae:bk) (ag:Nat) (g:bk) (h:Nat) (c:cy) (k:World) (w:Nat→Prop) (b7:Lw w k) (aw:Rd bO k w ae ag c.2.2.2.2.2.1) (a7:Rd pcE k w g h c.2.2.2.2.2.2) (r0:Bool) (m:regex_flat ak c=some r0):
    Cs 114 [.agg (bh c ae ag g h)] k (G1 k [vB r0]):=by
 have p:Bl k k:=Below.refl _ _;unfold regex_flat at m;refine aI Tryz.func114 rfl Tryz.ntmps114 kr ?_;refine bP [(0,.agg (bh c ae ag g h))]<|aG<|aA bp (bh c ae ag g h) 25 kr kr ?_
 intro f w2 q j b3 ca;refine pN 1 [2] []<|bH<|af m ?_;intro x b m
 refine aM (J:=fun a r=>Bl k r∧Sz w2 r∧aW r f 25 (bh c ae ag g h)∧Qa a 76 [(1,bp f),(3,vB x)]) ?_ ?_
 ·refine p1 5 (bp f)<|bi 3 j 0 rfl<|pL [7,8] 8 (vB (c.1==1))<|cg 8 b (fun a9 b=>?_) (fun a9 b=>?_)
  ·refine pL [3,9,10,11,12,13,14,15,16,17,18,19,20,21,22] 3 (vB true)<|aa ?_;obtain rfl:=sj b;refine ac fun a hd hs al=>?_;exact ⟨(bg p q nb),bJ,j,hd,hs,aU al⟩
  ·refine p1 9 (bp f)<|bi 3 j 0 rfl<|pL [11,12,13] 13 (vB (c.1==7))<|cg 13 b (fun y b=>?_) (fun y b=>?_)
   ·refine pL [3,14,15,16,17,18,19,20,21,22] 3 (vB true)<|aa ?_;obtain rfl:=sj b;refine ac fun a hd hs al=>?_;exact ⟨(bg p q nb),bJ,j,hd,hs,aU al⟩
   ·refine p1 14 (bp f)<|bi 3 j 0 rfl<|pL [16,17,18] 18 (vB (c.1==10))<|cg 18 b (fun z b=>?_) (fun z b=>?_)
    ·refine pL [3,19,20,21,22] 3 (vB true)<|aa ?_;obtain rfl:=sj b;refine ac fun a hd hs al=>?_;exact ⟨(bg p q nb),bJ,j,hd,hs,aU al⟩
    ·refine p1 19 (bp f)<|bi 3 j 0 rfl<|pL [3,21,22] 3 (vB (c.1==12))<|bP [(1,bp f),(3,vB (c.1==12))]<|aa ?_;obtain rfl:=sj b;refine ac fun a hd hs al=>?_;exact ⟨(bg p q nb),bJ,j,hd,hs,aU al⟩
 ·rintro a r ⟨o,b4,i,hd,hs,al⟩;refine aK ?_ hd hs al;refine aG<|af m ?_;intro l b m
  refine aM (J:=fun a n=>Bl k n∧Sz r n∧aW n f 25 (bh c ae ag g h)∧Qa a 76 [(1,bp f),(3,vB x),(4,vB l)]) ?_ ?_
  ·refine p1 23 (bp f)<|bi 3 i 0 rfl<|pL [25,26] 26 (vB (c.1==3))<|cg 26 b (fun A b=>?_) (fun A b=>?_)
   ·refine pL [4,27,28,29,30,31,32,33,34,35] 4 (vB true)<|aa ?_;obtain rfl:=sj b;exact ac fun a hd hs al=>⟨o,bJ,i,hd,hs,aU al⟩
   ·refine p1 27 (bp f)<|bi 3 i 0 rfl<|pL [29,30,31] 31 (vB (c.1==6))<|cg 31 b (fun B b=>?_) (fun B b=>?_)
    ·refine pL [4,32,33,34,35] 4 (vB true)<|aa ?_;obtain rfl:=sj b;exact ac fun a hd hs al=>⟨o,bJ,i,hd,hs,aU al⟩
    ·refine p1 32 (bp f)<|bi 3 i 0 rfl<|pL [4,34,35] 4 (vB (c.1==11))<|aa ?_;obtain rfl:=sj b;exact ac fun a hd hs al=>⟨o,bJ,i,hd,hs,aU al⟩
  ·rintro a n ⟨e,b5,d,hd,hs,al⟩;refine aK ?_ hd hs al;refine aG<|af m ?_;intro u b m
   refine aM (J:=fun a t=>Bl k t∧Sz n t∧Qa a 76 [(2,vB u)]) ?_ ?_
   ·refine pL [36,37] 37 (vB x)<|cg 37 b (fun C b=>?_) (fun C b=>?_)
    ·refine pN 6 [38,39,40,41,42,43] [(42,vB true),(43,bp f)]<|bi 3 d 0 rfl<|pL [45,46] 46 (vB (c.1==10))<|cg 46 b (fun D b=>?_) (fun D b=>?_)
     ·refine pN 13 [47,48,49,50,51,52,53,54,55,56,57,58,59] [(57,vB true),(59,vB l)]<|cg 59 b (fun E b=>?_) (fun E b=>?_)
      ·refine pN 7 [60,61,62,63,64,65,66] [(65,vB true),(66,bp f)]<|bi 3 d 0 rfl<|pL [68,69] 69 (vB (c.1==3))<|cg 69 b (fun F b=>?_) (fun F b=>?_)
       ·refine pL [2,70,71,72,73,74,75] 2 (vB true)<|aa ?_;obtain rfl:=sj b;exact ac fun a hd hs al=>⟨e,bJ,hd,hs,aU al⟩
       ·refine p1 70 (pt f 5)<|bi 22 d 5 rfl<|pL [2,72,73,74,75] 2 (vB ((lz c.2.2.2.2.2.1)==0))<|af b ?_;intro bd G b;refine bZ (s:=2) (v:=(vB ((lz c.2.2.2.2.2.1)==0))) (v':=(vB bd)) kr (congrArg (Value.bool) (sj G))<|aa ?_;obtain rfl:=sj b;exact ac fun a hd hs al=>⟨e,bJ,hd,hs,aU al⟩
      ·refine p1 60 (pt f 3)<|bi 4 d 3 rfl<|pL [62,63,64,65] 65 (vB (!c.2.2.2.1))<|cg 65 b (fun H b=>?_) (fun H b=>?_)
       ·refine p1 66 (bp f)<|bi 3 d 0 rfl<|pL [68,69] 69 (vB (c.1==3))<|cg 69 b (fun I b=>?_) (fun I b=>?_)
        ·refine pL [2,70,71,72,73,74,75] 2 (vB true)<|aa ?_;obtain rfl:=sj b;exact ac fun a hd hs al=>⟨e,bJ,hd,hs,aU al⟩
        ·refine p1 70 (pt f 5)<|bi 22 d 5 rfl<|pL [2,72,73,74,75] 2 (vB ((lz c.2.2.2.2.2.1)==0))<|bP [(2,vB ((lz c.2.2.2.2.2.1)==0))]<|af b ?_;intro be K b;refine bZ (s:=2) (v:=(vB ((lz c.2.2.2.2.2.1)==0))) (v':=(vB be)) kr (congrArg (Value.bool) (sj K))<|aa ?_;obtain rfl:=sj b;exact ac fun a hd hs al=>⟨e,bJ,hd,hs,aU al⟩
       ·refine pL [2,66,67,68,69,70,71,72,73,74,75] 2 (vB false)<|aa ?_;obtain rfl:=sj b;exact ac fun a hd hs al=>⟨e,bJ,hd,hs,aU al⟩
     ·refine p1 47 (pt f 2)<|bi 3 d 2 rfl<|pL [49,50] 50 (vB (c.2.2.1==0))<|cg 50 b (fun L b=>?_) (fun L b=>?_)
      ·refine p1 51 (pt f 4)<|bi 4 d 4 rfl<|pL [53,54,55,56,57] 57 (vB (!c.2.2.2.2.1))<|cg 57 b (fun M b=>?_) (fun M b=>?_)
       ·refine pL [58,59] 59 (vB l)<|cg 59 b (fun N b=>?_) (fun N b=>?_)
        ·refine pN 7 [60,61,62,63,64,65,66] [(65,vB true),(66,bp f)]<|bi 3 d 0 rfl<|pL [68,69] 69 (vB (c.1==3))<|bP [(1,bp f),(65,vB true),(69,vB (c.1==3))]<|cg 69 b (fun O b=>?_) (fun O b=>?_)
         ·refine pL [2,70,71,72,73,74,75] 2 (vB true)<|aa ?_;obtain rfl:=sj b;exact ac fun a hd hs al=>⟨e,bJ,hd,hs,aU al⟩
         ·refine p1 70 (pt f 5)<|bi 22 d 5 rfl<|pL [2,72,73,74,75] 2 (vB ((lz c.2.2.2.2.2.1)==0))<|af b ?_;intro bl P b;refine bZ (s:=2) (v:=(vB ((lz c.2.2.2.2.2.1)==0))) (v':=(vB bl)) kr (congrArg (Value.bool) (sj P))<|aa ?_;obtain rfl:=sj b;exact ac fun a hd hs al=>⟨e,bJ,hd,hs,aU al⟩
        ·refine p1 60 (pt f 3)<|bi 4 d 3 rfl<|pL [62,63,64,65] 65 (vB (!c.2.2.2.1))<|bP [(1,bp f),(65,vB (!c.2.2.2.1))]<|cg 65 b (fun Q b=>?_) (fun Q b=>?_)
         ·refine p1 66 (bp f)<|bi 3 d 0 rfl<|pL [68,69] 69 (vB (c.1==3))<|cg 69 b (fun R b=>?_) (fun R b=>?_)
          ·refine pL [2,70,71,72,73,74,75] 2 (vB true)<|aa ?_;obtain rfl:=sj b;exact ac fun a hd hs al=>⟨e,bJ,hd,hs,aU al⟩
          ·refine p1 70 (pt f 5)<|bi 22 d 5 rfl<|pL [2,72,73,74,75] 2 (vB ((lz c.2.2.2.2.2.1)==0))<|af b ?_;intro bn S b;refine bZ (s:=2) (v:=(vB ((lz c.2.2.2.2.2.1)==0))) (v':=(vB bn)) kr (congrArg (Value.bool) (sj S))<|aa ?_;obtain rfl:=sj b;exact ac fun a hd hs al=>⟨e,bJ,hd,hs,aU al⟩
         ·refine pL [2,66,67,68,69,70,71,72,73,74,75] 2 (vB false)<|aa ?_;obtain rfl:=sj b;exact ac fun a hd hs al=>⟨e,bJ,hd,hs,aU al⟩
       ·refine pL [2,58,59,60,61,62,63,64,65,66,67,68,69,70,71,72,73,74,75] 2 (vB false)<|aa ?_;obtain rfl:=sj b;exact ac fun a hd hs al=>⟨e,bJ,hd,hs,aU al⟩
      ·refine pL [2,51,52,53,54,55,56,57,58,59,60,61,62,63,64,65,66,67,68,69,70,71,72,73,74,75] 2 (vB false)<|aa ?_;obtain rfl:=sj b;exact ac fun a hd hs al=>⟨e,bJ,hd,hs,aU al⟩
    ·refine p1 38 (pt f 1)<|bi 3 d 1 rfl<|pL [40,41,42] 42 (vB (c.2.1==0))<|cg 42 b (fun T b=>?_) (fun T b=>?_)
     ·refine p1 43 (bp f)<|bi 3 d 0 rfl<|pL [45,46] 46 (vB (c.1==10))<|cg 46 b (fun U b=>?_) (fun U b=>?_)
      ·refine pN 13 [47,48,49,50,51,52,53,54,55,56,57,58,59] [(57,vB true),(59,vB l)]<|cg 59 b (fun V b=>?_) (fun V b=>?_)
       ·refine pN 7 [60,61,62,63,64,65,66] [(65,vB true),(66,bp f)]<|bi 3 d 0 rfl<|pL [68,69] 69 (vB (c.1==3))<|cg 69 b (fun W b=>?_) (fun W b=>?_)
        ·refine pL [2,70,71,72,73,74,75] 2 (vB true)<|aa ?_;obtain rfl:=sj b;exact ac fun a hd hs al=>⟨e,bJ,hd,hs,aU al⟩
        ·refine p1 70 (pt f 5)<|bi 22 d 5 rfl<|pL [2,72,73,74,75] 2 (vB ((lz c.2.2.2.2.2.1)==0))<|bP [(2,vB ((lz c.2.2.2.2.2.1)==0))]<|af b ?_;intro bs X b;refine bZ (s:=2) (v:=(vB ((lz c.2.2.2.2.2.1)==0))) (v':=(vB bs)) kr (congrArg (Value.bool) (sj X))<|aa ?_;obtain rfl:=sj b;exact ac fun a hd hs al=>⟨e,bJ,hd,hs,aU al⟩
       ·refine p1 60 (pt f 3)<|bi 4 d 3 rfl<|pL [62,63,64,65] 65 (vB (!c.2.2.2.1))<|cg 65 b (fun Y b=>?_) (fun Y b=>?_)
        ·refine p1 66 (bp f)<|bi 3 d 0 rfl<|pL [68,69] 69 (vB (c.1==3))<|bP [(1,bp f),(65,vB true),(69,vB (c.1==3))]<|cg 69 b (fun Z b=>?_) (fun Z b=>?_)
         ·refine pL [2,70,71,72,73,74,75] 2 (vB true)<|aa ?_;obtain rfl:=sj b;exact ac fun a hd hs al=>⟨e,bJ,hd,hs,aU al⟩
         ·refine p1 70 (pt f 5)<|bi 22 d 5 rfl<|pL [2,72,73,74,75] 2 (vB ((lz c.2.2.2.2.2.1)==0))<|af b ?_;intro bA ah b;refine bZ (s:=2) (v:=(vB ((lz c.2.2.2.2.2.1)==0))) (v':=(vB bA)) kr (congrArg (Value.bool) (sj ah))<|aa ?_;obtain rfl:=sj b;exact ac fun a hd hs al=>⟨e,bJ,hd,hs,aU al⟩
        ·refine pL [2,66,67,68,69,70,71,72,73,74,75] 2 (vB false)<|aa ?_;obtain rfl:=sj b;exact ac fun a hd hs al=>⟨e,bJ,hd,hs,aU al⟩
      ·refine p1 47 (pt f 2)<|bi 3 d 2 rfl<|pL [49,50] 50 (vB (c.2.2.1==0))<|cg 50 b (fun an b=>?_) (fun an b=>?_)
       ·refine p1 51 (pt f 4)<|bi 4 d 4 rfl<|pL [53,54,55,56,57] 57 (vB (!c.2.2.2.2.1))<|cg 57 b (fun ax b=>?_) (fun ax b=>?_)
        ·refine pL [58,59] 59 (vB l)<|bP [(1,bp f),(57,vB true),(59,vB l)]<|cg 59 b (fun a0 b=>?_) (fun a0 b=>?_)
         ·refine pN 7 [60,61,62,63,64,65,66] [(65,vB true),(66,bp f)]<|bi 3 d 0 rfl<|pL [68,69] 69 (vB (c.1==3))<|cg 69 b (fun a1 b=>?_) (fun a1 b=>?_)
          ·refine pL [2,70,71,72,73,74,75] 2 (vB true)<|aa ?_;obtain rfl:=sj b;exact ac fun a hd hs al=>⟨e,bJ,hd,hs,aU al⟩
          ·refine p1 70 (pt f 5)<|bi 22 d 5 rfl<|pL [2,72,73,74,75] 2 (vB ((lz c.2.2.2.2.2.1)==0))<|af b ?_;intro bE a2 b;refine bZ (s:=2) (v:=(vB ((lz c.2.2.2.2.2.1)==0))) (v':=(vB bE)) kr (congrArg (Value.bool) (sj a2))<|aa ?_;obtain rfl:=sj b;exact ac fun a hd hs al=>⟨e,bJ,hd,hs,aU al⟩
         ·refine p1 60 (pt f 3)<|bi 4 d 3 rfl<|pL [62,63,64,65] 65 (vB (!c.2.2.2.1))<|cg 65 b (fun a3 b=>?_) (fun a3 b=>?_)
          ·refine p1 66 (bp f)<|bi 3 d 0 rfl<|pL [68,69] 69 (vB (c.1==3))<|cg 69 b (fun a4 b=>?_) (fun a4 b=>?_)
           ·refine pL [2,70,71,72,73,74,75] 2 (vB true)<|aa ?_;obtain rfl:=sj b;exact ac fun a hd hs al=>⟨e,bJ,hd,hs,aU al⟩
           ·refine p1 70 (pt f 5)<|bi 22 d 5 rfl<|pL [2,72,73,74,75] 2 (vB ((lz c.2.2.2.2.2.1)==0))<|af b ?_;intro b0 a5 b;refine bZ (s:=2) (v:=(vB ((lz c.2.2.2.2.2.1)==0))) (v':=(vB b0)) kr (congrArg (Value.bool) (sj a5))<|aa ?_;obtain rfl:=sj b;exact ac fun a hd hs al=>⟨e,bJ,hd,hs,aU al⟩
          ·refine pL [2,66,67,68,69,70,71,72,73,74,75] 2 (vB false)<|aa ?_;obtain rfl:=sj b;exact ac fun a hd hs al=>⟨e,bJ,hd,hs,aU al⟩
        ·refine pL [2,58,59,60,61,62,63,64,65,66,67,68,69,70,71,72,73,74,75] 2 (vB false)<|bP [(2,vB false)]<|aa ?_;obtain rfl:=sj b;exact ac fun a hd hs al=>⟨e,bJ,hd,hs,aU al⟩
       ·refine pL [2,51,52,53,54,55,56,57,58,59,60,61,62,63,64,65,66,67,68,69,70,71,72,73,74,75] 2 (vB false)<|aa ?_;obtain rfl:=sj b;exact ac fun a hd hs al=>⟨e,bJ,hd,hs,aU al⟩
     ·refine pL [2,43,44,45,46,47,48,49,50,51,52,53,54,55,56,57,58,59,60,61,62,63,64,65,66,67,68,69,70,71,72,73,74,75] 2 (vB false)<|aa ?_;obtain rfl:=sj b;exact ac fun a hd hs al=>⟨e,bJ,hd,hs,aU al⟩
   ·rintro a t ⟨a6,b6,hd,hs,al⟩;refine aK ?_ hd hs al;refine am ?_;obtain rfl:=sj m;refine au (ao [vB u] rfl ⟨kr,trivial⟩ ?_);exact ⟨ad a6,rfl⟩

theorem utf8_ValidRune_ok (ak:Nat) (b:Int) (d:World) (m:Bool) (c:utf8_ValidRune ak b=some m):
    Cs 162 [vR b] d (G1 d [vB m]):=by
 have f:Bl d d:=Below.refl _ _;unfold utf8_ValidRune at c;refine aI Tryz.func162 rfl Tryz.ntmps162 kr ?_;refine bP [(0,vR b)]<|aG<|pN 1 [2] []<|cq<|aF<|aG<|aM (J:=fun a n=>d=n∧Qa a 17 [(0,vR b),(3,vB ((decide (0≤b))&&(decide (b<55296))))]) ?_ ?_
 ·refine pL [4,5,6] 6 (vB (decide (0≤b)))<|bB (s:=6) (g:=(decide (0≤b))) kr (fun h=>?_) (fun h=>?_)
  ·refine pL [3,7,8,9] 3 (vB (decide (b<55296)))<|aa<|bj [0,3] (σ':=[(0,vR b),(3,vB (decide (b<55296)))]) kr<|ac fun a hd hs al=>⟨rfl,hd,hs,?_⟩;obtain ⟨k,l,_⟩:=al;exact ⟨k,(by rw[h];exact l),trivial⟩
  ·refine pL [3,7,8,9] 3 (vB false)<|aa<|bj [0,3] (σ':=[(0,vR b),(3,vB false)]) kr<|ac fun a hd hs al=>⟨rfl,hd,hs,?_⟩;obtain ⟨k,l,_⟩:=al;exact ⟨k,(by rw[h];exact l),trivial⟩
 ·rintro a n ⟨e,hd,hs,al⟩;subst e;refine aK ?_ hd hs al;refine bx c (fun o c=>?_) (fun o c=>?_)
  ·refine aG<|p1 2 (vB true)<|aa<|am ?_
   obtain rfl:=sj c;refine au (ao [vB true] rfl ⟨kr,trivial⟩ ?_);exact ⟨ad f,rfl⟩
  ·refine aG<|aM (J:=fun a p=>d=p∧Qa a 17 [(10,vB ((decide (57343<b))&&(decide (b≤1114111))))]) ?_ ?_
   ·refine pL [11,12,13] 13 (vB (decide (57343<b)))<|bB (s:=13) (g:=(decide (57343<b))) kr (fun i=>?_) (fun i=>?_)
    ·refine pL [10,14,15,16] 10 (vB (decide (b≤1114111)))<|aa<|bj [10] (σ':=[(10,vB (decide (b≤1114111)))]) kr<|ac fun a hd hs al=>⟨rfl,hd,hs,?_⟩;obtain ⟨j,_⟩:=al;exact ⟨(by rw[i];exact j),trivial⟩
    ·refine pL [10,14,15,16] 10 (vB false)<|aa<|bj [10] (σ':=[(10,vB false)]) kr<|ac fun a hd hs al=>⟨rfl,hd,hs,?_⟩;obtain ⟨j,_⟩:=al;exact ⟨(by rw[i];exact j),trivial⟩
   ·rintro a p ⟨e,hd,hs,al⟩;subst e;refine aK ?_ hd hs al;refine bx c (fun q c=>?_) (fun q c=>?_)
    ·refine aG<|p1 2 (vB true)<|aa<|am ?_
     obtain rfl:=sj c;refine au (ao [vB true] rfl ⟨kr,trivial⟩ ?_);exact ⟨ad f,rfl⟩
    ·refine az<|bu<|aG<|p1 2 (vB false)<|aa<|am ?_
     obtain rfl:=sj c;refine au (ao [vB false] rfl ⟨kr,trivial⟩ ?_);exact ⟨ad f,rfl⟩

theorem regex_scalar_ok (ak:Nat) (b:Int) (d:World) (j:Bool) (f:regex_scalar ak b=some j):
    Cs 137 [vI b] d (G1 d [vB j]):=by
 have e:Bl d d:=Below.refl _ _;unfold regex_scalar at f;refine aI Tryz.func137 rfl Tryz.ntmps137 kr ?_;refine bP [(0,vI b)]<|aG<|pN 1 [2] []<|bH<|af f ?_;intro k c f
 refine aM (J:=fun a h=>Bl d h∧Sz d h∧Qa a 14 [(2,vB k)]) ?_ ?_
 ·refine pL [3,4,5] 5 (vB (decide (b≥0)))<|cg 5 c (fun l c=>?_) (fun l c=>?_)
  ·refine pL [6,7,8,9] 9 (vB (decide (b≤1114111)))<|cg 9 c (fun m c=>?_) (fun m c=>?_)
   ·refine pL [10,11] 11 (vR (wR (b)))<|af c ?_;intro n o c;refine ap kr rfl kr enters162 (utf8_ValidRune_ok ak (wR (b)) d n o) ?_;rintro q r ⟨g,rfl⟩;refine pL [2,13] 2 (vB n)<|aa ?_;obtain rfl:=sj c;refine ac fun a hd hs al=>?_;exact ⟨(bg e g nb),g.size,hd,hs,aU al⟩
   ·refine pL [2,10,11,12,13] 2 (vB false)<|aa ?_;obtain rfl:=sj c;exact ac fun a hd hs al=>⟨e,bJ,hd,hs,aU al⟩
  ·refine pL [2,6,7,8,9,10,11,12,13] 2 (vB false)<|aa ?_;obtain rfl:=sj c;exact ac fun a hd hs al=>⟨e,bJ,hd,hs,aU al⟩
 ·rintro a h ⟨i,p,hd,hs,al⟩;refine aK ?_ hd hs al;refine am ?_;obtain rfl:=sj f;refine au (ao [vB k] rfl ⟨kr,trivial⟩ ?_);exact ⟨ad i,rfl⟩

theorem regex_ordered_ok (ak:Nat) (ae:bk) (ag:Nat) (b:List bF) (m:World) (X0:Nat→Prop) (x:Lw X0 m) (aw:Rd bO m X0 ae ag b) (r0:Bool) (u:regex_ordered ak b=some r0):
    Cs 138 [vL ae b ag] m (G1 m [vB r0]):=by
 have bd:Bl m m:=Below.refl _ _;unfold regex_ordered at u;refine aI Tryz.func138 rfl Tryz.ntmps138 kr ?_;refine bP [(0,vL ae b ag)]<|aG<|pN 1 [2] []<|cq<|aG<|pN 3 [5,6,7] [(5,vL ae b ag),(6,vI (lz b)),(7,vI 0)]<|aa<|af u ?_;intro j1 z u
 refine aC (J:=fun a V=>∃ s2:Unit,j1= .inl s2∧Bl m V∧Sz m V∧Qa a 49 [(0,vL ae b ag)]) ?_ ?_
 ·refine aF<|bM (A:=fun (l:Int) a L=>Bl m L∧Sz m L∧Qa a 49 [(0,vL ae b ag),(5,vL ae b ag),(6,vI (lz b)),(7,vI l)]) z ?_ ?_
  ·intro a hd hs al;exact ⟨bd,bJ,hd,hs,aU al⟩
  ·rintro l r2 p R a L ⟨h,S,hd,hs,al⟩;refine aK ?_ hd hs al;refine aG<|p1 8 (vB (decide (l<(lz b))))<|cq<|bx p (fun bl p=>?_) (fun bl p=>?_)
   ·refine az<|aH<|aF<|aG<|p1 9 (vI l)<|af p ?_;intro q B p;refine cR .i64 2 (aw.below h x) B aR ?_;obtain ⟨_,⟨_,_,rfl,rfl,rfl⟩,W⟩:=aw.cellsK B;refine laq 37 (aN ae ((l:Int).toNat*2)) (bX q) (bS (W L (fun k hk=>h.block k (x k hk)))) ?_;refine aA bp #[vI 0,vI 0] 37 kr kr ?_;intro c cv r X n b0;refine p1 3 (vI l)<|aB 37 0 (.agg (bX q)) (bX q) X kr kr kr ?_;intro bn t Y b1;refine cq<|af p ?_;intro bs d p
    refine aC (J:=fun a C=>Bl m C∧Sz bn C∧Qa a 49 [(0,vL ae b ag),(5,vL ae b ag),(6,vI (lz b)),(7,vI l),(44,vB bs)]) ?_ ?_
    ·refine bQ kr ?_;intro D f;refine aV [0] (bA 33 [0]) 32 kr kr<|p1 12 (bp c)<|aa<|ay<|aP (dg D []) [1] [(1,some true)] (bA 33 [0,1]) 31 kr kr (aD _ _) ?_;have b2:=aD D [];have E:=Y.grown f nb;refine cu 3 ⟨c,0,none⟩ (vI q.1) (bK fun w' hC'=>((hC'.box E aX).cell 0 rfl)) ?_;refine aa<|ay<|aP (fun _=>True) [2] [(2,some false)] (bA 33 [0,1,2]) 30 kr kr trivial ?_;refine af d ?_;intro T Z d;refine clq enters137 (regex_scalar_ok ak q.1 D T Z) ?_;rintro cw o ⟨g,rfl⟩;refine ⟨(fun _=>trivial),?_⟩;refine aa<|ay<|aV [3,4,5] (bA 33 [0,1,2,3,4,5]) 27 kr kr<|pL [15,16] 16 (vB (!T))<|cg 16 d (fun ah d=>?_) (fun ah d=>?_)
     ·refine p1 17 undef<|aa<|ay<|aP (dg o []) [6] [(6,some true)] (bA 33 [0,1,2,3,4,5,6]) 26 kr kr (aD _ _) ?_;have b3:=aD o [];refine p1 18 undef<|aa<|ay<|aP (fun _=>True) [7] [(7,some false)] (bA 33 [0,1,2,3,4,5,6,7]) 25 kr kr trivial ?_;refine dm trivial 1 [19] [(19,undef)] kr<|bP [(0,vL ae b ag),(3,vI l),(4,bp c),(5,vL ae b ag),(6,vI (lz b)),(7,vI l),(16,vB true),(19,undef)]<|aa<|ay<|aV [8,9,10,11,13] (bA 33 [0,1,2,3,4,5,6,7,8,9,10,11,13]) 20 kr kr<|pN 5 [20,21,22,23,25] [(22,vB true),(23,undef),(25,undef)]<|aa<|ay<|aP (dg o []) [12,14] [(12,some true),(14,some true)] (bA 33 [0,1,2,3,4,5,6,7,8,9,10,11,12,13,14]) 18 kr kr (aD _ _) ?_;have b4:=aD o [];refine pN 2 [24,26] [(24,undef),(26,undef)]<|aa<|ay<|aV [15,16,17,18,19,20,21,23,24,25,26,27] (bA 33 [0,1,2,3,4,5,6,7,8,9,10,11,12,13,14,15,16,17,18,19,20,21,23,24,25,26,27]) 6 kr kr<|pN 12 [27,28,29,30,31,32,33,35,36,37,38,39] [(29,vB true),(32,undef),(33,undef),(39,undef)]<|aa<|ay<|aP (dg o []) [22,28,29] [(22,some true),(28,some true),(29,some true)] (bA 33 [0,1,2,3,4,5,6,7,8,9,10,11,12,13,14,15,16,17,18,19,20,21,22,23,24,25,26,27,28,29]) 3 kr kr (aD _ _) ?_;have b5:=aD o [];refine pN 3 [34,40,41] [(34,undef),(41,undef)]<|aa<|ay<|aV [30,31,32] (bA 33 [0,1,2,3,4,5,6,7,8,9,10,11,12,13,14,15,16,17,18,19,20,21,22,23,24,25,26,27,28,29,30,31,32]) 0 kr kr<|pL [42,43,44] 44 (vB true)<|aa<|ay<|ba kr ?_;obtain rfl:=sj d;refine ac fun a hd hs al=>?_;have M:m.heap.size≤c:=bU n h.size;exact ⟨(bg (bg (bg h r nb) t (aQ M)) (ab f g) nb),(nt f.size g.size),hd,hs,aU al⟩
     ·refine p1 17 (pt c 1)<|aa<|ay<|aP (dg o []) [6] [(6,some true)] (bA 33 [0,1,2,3,4,5,6]) 26 kr kr (aD _ _) ?_;have b6:=aD o [];have F:=E.grown g nb;refine cu 3 ⟨c,1,none⟩ (vI q.2) (bK fun w' hC'=>((hC'.box F aX).cell 1 rfl)) ?_;refine aa<|ay<|aP (fun _=>True) [7] [(7,some false)] (bA 33 [0,1,2,3,4,5,6,7]) 25 kr kr trivial ?_;refine af d ?_;intro G an d;refine clq enters137 (regex_scalar_ok ak q.2 o G an) ?_;rintro cx j ⟨i,rfl⟩;refine ⟨(fun _=>trivial),?_⟩;refine aa<|ay<|aV [8,9,10,11,13] (bA 33 [0,1,2,3,4,5,6,7,8,9,10,11,13]) 20 kr kr<|pL [20,21,22] 22 (vB (!G))<|bP [(0,vL ae b ag),(3,vI l),(4,bp c),(5,vL ae b ag),(6,vI (lz b)),(7,vI l),(22,vB (!G))]<|cg 22 d (fun ax d=>?_) (fun ax d=>?_)
      ·refine pN 2 [23,25] [(23,undef),(25,undef)]<|aa<|ay<|aP (dg j []) [12,14] [(12,some true),(14,some true)] (bA 33 [0,1,2,3,4,5,6,7,8,9,10,11,12,13,14]) 18 kr kr (aD _ _) ?_;have b7:=aD j [];refine pN 2 [24,26] [(24,undef),(26,undef)]<|aa<|ay<|aV [15,16,17,18,19,20,21,23,24,25,26,27] (bA 33 [0,1,2,3,4,5,6,7,8,9,10,11,12,13,14,15,16,17,18,19,20,21,23,24,25,26,27]) 6 kr kr<|pN 12 [27,28,29,30,31,32,33,35,36,37,38,39] [(29,vB true),(32,undef),(33,undef),(39,undef)]<|aa<|ay<|aP (dg j []) [22,28,29] [(22,some true),(28,some true),(29,some true)] (bA 33 [0,1,2,3,4,5,6,7,8,9,10,11,12,13,14,15,16,17,18,19,20,21,22,23,24,25,26,27,28,29]) 3 kr kr (aD _ _) ?_;have ca:=aD j [];refine pN 3 [34,40,41] [(34,undef),(41,undef)]<|aa<|ay<|aV [30,31,32] (bA 33 [0,1,2,3,4,5,6,7,8,9,10,11,12,13,14,15,16,17,18,19,20,21,22,23,24,25,26,27,28,29,30,31,32]) 0 kr kr<|pL [42,43,44] 44 (vB true)<|aa<|ay<|ba kr ?_;obtain rfl:=sj d;refine ac fun a hd hs al=>?_;have N:m.heap.size≤c:=bU n h.size;exact ⟨(bg (bg (bg h r nb) t (aQ N)) (ab (ab f g) i) nb),(nt (nt f.size g.size) i.size),hd,hs,aU al⟩
      ·refine pN 2 [23,25] [(23,bp c),(25,pt c 1)]<|aa<|ay<|aP (dg j []) [12,14] [(12,some true),(14,some true)] (bA 33 [0,1,2,3,4,5,6,7,8,9,10,11,12,13,14]) 18 kr kr (aD _ _) ?_;have cb:=aD j [];have y:=F.grown i nb;refine cu 3 ⟨c,0,none⟩ (vI q.1) (bK fun w' hC'=>((hC'.box y aX).cell 0 rfl)) ?_;refine cu 3 ⟨c,1,none⟩ (vI q.2) (bK fun w' hC'=>((hC'.box y aX).cell 1 rfl)) ?_;refine aa<|ay<|aV [15,16,17,18,19,20,21,23,24,25,26,27] (bA 33 [0,1,2,3,4,5,6,7,8,9,10,11,12,13,14,15,16,17,18,19,20,21,23,24,25,26,27]) 6 kr kr<|pL [27,28,29] 29 (vB (decide (q.1>q.2)))<|cg 29 d (fun a0 d=>?_) (fun a0 d=>?_)
       ·refine pN 9 [30,31,32,33,35,36,37,38,39] [(32,undef),(33,undef),(39,undef)]<|aa<|ay<|aP (dg j []) [22,28,29] [(22,some true),(28,some true),(29,some true)] (bA 33 [0,1,2,3,4,5,6,7,8,9,10,11,12,13,14,15,16,17,18,19,20,21,22,23,24,25,26,27,28,29]) 3 kr kr (aD _ _) ?_;have cc:=aD j [];refine pN 3 [34,40,41] [(34,undef),(41,undef)]<|aa<|ay<|aV [30,31,32] (bA 33 [0,1,2,3,4,5,6,7,8,9,10,11,12,13,14,15,16,17,18,19,20,21,22,23,24,25,26,27,28,29,30,31,32]) 0 kr kr<|pL [42,43,44] 44 (vB true)<|aa<|ay<|ba kr ?_;obtain rfl:=sj d;refine ac fun a hd hs al=>?_;have O:m.heap.size≤c:=bU n h.size;exact ⟨(bg (bg (bg h r nb) t (aQ O)) (ab (ab f g) i) nb),(nt (nt f.size g.size) i.size),hd,hs,aU al⟩
       ·refine pL [30,31,32] 32 (vB (decide (l>0)))<|cg 32 d (fun a1 d=>?_) (fun a1 d=>?_)
        ·refine pN 4 [33,35,36,37] [(33,bp c),(35,vL ae b ag),(37,vI (wI (l-1)))]<|af d ?_;intro H I d;have P:m.heap.size≤c:=bU n h.size;have w:=bg (bg (bg h r nb) t (aQ P)) (ab (ab f g) i) nb;refine cR .i64 2 (aw.below w x) I aR<|p1 39 (.pointer (some (Addr.add (aN ae (((wI (l-1)):Int).toNat*2)) 1)))<|aa<|ay<|aP (dg j []) [22,28,29] [(22,some true),(28,some true),(29,some true)] (bA 33 [0,1,2,3,4,5,6,7,8,9,10,11,12,13,14,15,16,17,18,19,20,21,22,23,24,25,26,27,28,29]) 3 kr kr (aD _ _) ?_;have ch:=aD j [];refine cu 3 ⟨c,0,none⟩ (vI q.1) (bK fun w' hC'=>((hC'.box y aX).cell 0 rfl)) ?_;obtain ⟨_,⟨_,_,rfl,rfl,rfl⟩,a2⟩:=aw.cellsK I;refine cu 3 (Addr.add (aN ae (((wI (l-1)):Int).toNat*2)) 1) (vI H.2) (bK fun w' hC'=>((a2 w' (fun k hk=>(hC'.2 k ((aS x w.size) k hk) (fun hg=>ct k hg hk)).trans (w.block k (x k hk)))) 1 _ rfl)) ?_;refine p1 41 (vI (wI (H.2+1)))<|aa<|ay<|aV [30,31,32] (bA 33 [0,1,2,3,4,5,6,7,8,9,10,11,12,13,14,15,16,17,18,19,20,21,22,23,24,25,26,27,28,29,30,31,32]) 0 kr kr<|pL [42,43,44] 44 (vB (decide (q.1≤(wI (H.2+1)))))<|aa<|ay<|ba kr ?_;obtain rfl:=sj d;refine ac fun a hd hs al=>?_;exact ⟨w,(nt (nt f.size g.size) i.size),hd,hs,aU al⟩
        ·refine pN 6 [33,35,36,37,38,39] [(33,undef),(39,undef)]<|aa<|ay<|aP (dg j []) [22,28,29] [(22,some true),(28,some true),(29,some true)] (bA 33 [0,1,2,3,4,5,6,7,8,9,10,11,12,13,14,15,16,17,18,19,20,21,22,23,24,25,26,27,28,29]) 3 kr kr (aD _ _) ?_;have ck:=aD j [];refine pN 3 [34,40,41] [(34,undef),(41,undef)]<|aa<|ay<|aV [30,31,32] (bA 33 [0,1,2,3,4,5,6,7,8,9,10,11,12,13,14,15,16,17,18,19,20,21,22,23,24,25,26,27,28,29,30,31,32]) 0 kr kr<|pL [42,43,44] 44 (vB false)<|aa<|ay<|ba kr ?_;obtain rfl:=sj d;refine ac fun a hd hs al=>?_;have Q:m.heap.size≤c:=bU n h.size;exact ⟨(bg (bg (bg h r nb) t (aQ Q)) (ab (ab f g) i) nb),(nt (nt f.size g.size) i.size),hd,hs,aU al⟩
    ·rintro a C ⟨K,a3,hd,hs,al⟩;refine aK ?_ hd hs al;have a4:=(nt (nt (nt S r.size) t.size) a3);refine bx p (fun a5 p=>?_) (fun a5 p=>?_)
     ·refine aG<|p1 2 (vB false)<|aa<|am ?_
      obtain rfl:=sj p;replace z:=congrArg some (R _ rfl);obtain rfl:=sj z;replace u:=bt u;obtain rfl:=sj u;refine au (ao [vB false] rfl ⟨kr,trivial⟩ ?_);exact ⟨ad K,rfl⟩
     ·refine az<|bu<|av<|pL [7,45] 7 (vI (wI (l+1)))<|aa ?_;obtain rfl:=sj p;refine ac fun a hd hs al=>?_;exact ⟨(wI (l+1)),rfl,K,a4,hd,hs,aU al⟩
   ·refine bw<|bL rfl ?_
    obtain rfl:=sj p;replace z:=congrArg some (R _ rfl);obtain rfl:=sj z;refine ac fun a hd hs al=>?_;exact ⟨(),rfl,h,S,hd,hs,aU al⟩
 ·rintro a V ⟨s2,e,a6,cs,hd,hs,al⟩;subst e;refine aK ?_ hd hs al;replace u:=bW u;refine aG<|pL [2,46,47,48] 2 (vB (decide ((lz b)>0)))<|af u ?_;intro U a7 u;refine bZ (s:=2) (v:=(vB (decide ((lz b)>0)))) (v':=(vB U)) kr (congrArg (Value.bool) (sj a7))<|aa<|am ?_
  obtain rfl:=sj u;refine au (ao [vB U] rfl ⟨kr,trivial⟩ ?_);exact ⟨ad a6,rfl⟩

theorem slices_Index_sint_int_ok (ak:Nat) (ae:bk) (ag:Nat) (b:List Int) (g:Int) (d:World) (s:Nat→Prop) (l:Lw s d) (aw:Rd (iE .i64) d s ae ag b) (t:Int) (h:slices_Index_sint_int ak b g=some t):
    Cs 161 [vL ae b ag,vI g] d (G1 d [vI t]):=by
 have u:Bl d d:=Below.refl _ _;unfold slices_Index_sint_int at h;refine aI Tryz.func161 rfl Tryz.ntmps161 kr ?_;refine bP [(0,vL ae b ag),(1,vI g)]<|aG<|pN 1 [4] []<|cq<|aG<|pN 3 [6,7,8] [(7,vI (lz b)),(8,vI 0)]<|aa<|af h ?_;intro y j h
 refine aC (J:=fun a o=>∃ v:Unit,y= .inl v∧Bl d o∧Sz d o∧Qa a 19 []) ?_ ?_
 ·refine aF<|bM (A:=fun (f:Int) a p=>Bl d p∧Sz d p∧Qa a 19 [(0,vL ae b ag),(1,vI g),(7,vI (lz b)),(8,vI f)]) j ?_ ?_
  ·intro a hd hs al;exact ⟨u,bJ,hd,hs,aU al⟩
  ·rintro f B c m a p ⟨i,n,hd,hs,al⟩;refine aK ?_ hd hs al;refine aG<|p1 9 (vB (decide (f<(lz b))))<|cq<|bx c (fun w c=>?_) (fun w c=>?_)
   ·refine az<|aH<|aF<|aG<|pL [5,10] 5 (vI f)<|bH<|pN 3 [11,12,13] [(11,vI g),(12,vL ae b ag),(13,vI f)]<|af c ?_;intro x k c;refine cR .i64 1 (aw.below i l) k co<|cu 3 (aN ae ((f:Int).toNat*1)) (vI x) (bS ((aw.below i l).cell k))<|p1 16 (vB (g==x))<|aa<|bx c (fun q c=>?_) (fun q c=>?_)
    ·refine aG<|pL [4,17] 4 (vI f)<|aa<|am ?_
     obtain rfl:=sj c;replace j:=congrArg some (m _ rfl);obtain rfl:=sj j;replace h:=bt h;obtain rfl:=sj h;refine au (ao [vI f] rfl ⟨kr,trivial⟩ ?_);exact ⟨ad i,rfl⟩
    ·refine az<|bu<|av<|pL [8,18] 8 (vI (wI (f+1)))<|aa ?_;obtain rfl:=sj c;refine ac fun a hd hs al=>?_;exact ⟨(wI (f+1)),rfl,i,n,hd,hs,aU al⟩
   ·refine bw<|bL rfl ?_
    obtain rfl:=sj c;replace j:=congrArg some (m _ rfl);obtain rfl:=sj j;refine ac fun a hd hs al=>?_;exact ⟨(),rfl,i,n,hd,hs,aU al⟩
 ·rintro a o ⟨v,e,r,z,hd,hs,al⟩;subst e;refine aK ?_ hd hs al;replace h:=bW h;refine aG<|p1 4 (vI (-1))<|aa<|am ?_
  obtain rfl:=sj h;refine au (ao [vI (-1)] rfl ⟨kr,trivial⟩ ?_);exact ⟨ad r,rfl⟩

theorem slices_Contains_sint_int_ok (ak:Nat) (ae:bk) (ag:Nat) (a:List Int) (b:Int) (c:World) (g:Nat→Prop) (f:Lw g c) (aw:Rd (iE .i64) c g ae ag a) (i:Bool) (e:slices_Contains_sint_int ak a b=some i):
    Cs 136 [vL ae a ag,vI b] c (G1 c [vB i]):=by
 have d:Bl c c:=Below.refl _ _;unfold slices_Contains_sint_int at e;refine aI Tryz.func136 rfl Tryz.ntmps136 kr ?_;refine bP [(0,vL ae a ag),(1,vI b)]<|aG<|pN 1 [4] []<|bH<|pN 2 [5,6] [(5,vL ae a ag),(6,vI b)]<|af e ?_;intro h j e;refine ap kr rfl kr enters161 (slices_Index_sint_int_ok ak ae ag a b c g (aS f d.size) (aw.below d f) h j) ?_;rintro l m ⟨k,rfl⟩;refine pL [4,8] 4 (vB (decide (h≥0)))<|aa<|am ?_
 obtain rfl:=sj e;refine au (ao [vB (decide (h≥0))] rfl ⟨kr,trivial⟩ ?_);exact ⟨ad (bg d k nb),rfl⟩

theorem regex_formed_1_1_ok (ak:Nat) (ae:bk) (ag:Nat) (b:bk) (c:Nat) (d:cy) (g:Nat) (aE:bk) (aJ:Nat) (a:List Int) (e:World) (h:Nat→Prop) (j:Lw h e) (k:aW e g 27 #[vL aE a aJ]) (aw:Rd bO e h ae ag d.2.2.2.2.2.1) (o:Rd pcE e h b c d.2.2.2.2.2.2) (bv:Rd (iE .i64) e h aE aJ a) (p:Bool) (i:regex_formed_1_1 ak d a=some p):
    Cs 135 [.agg (bh d ae ag b c),bp g] e (G1 e [vB p]):=by
 have q:Bl e e:=Below.refl _ _;unfold regex_formed_1_1 at i;refine aI Tryz.func135 rfl Tryz.ntmps135 kr ?_;refine bP [(0,.agg (bh d ae ag b c)),(1,bp g)] ?_;have t:=k.lt;refine aG<|aA bp (bh d ae ag b c) 25 kr kr ?_
 intro u v l r w x;refine pN 1 [3] []<|bH<|bi 27 (k.grown l nb) 0 rfl<|p1 5 (bp u)<|bi 3 r 0 rfl<|af i ?_;intro m s i;have f:=bg q l nb;refine ap kr rfl kr enters136 (slices_Contains_sint_int_ok ak aE aJ a d.1 v h (aS j f.size) (bv.below f j) m s) ?_;rintro y z ⟨n,rfl⟩;refine p1 3 (vB m)<|aa<|am ?_
 obtain rfl:=sj i;refine au (ao [vB m] rfl ⟨kr,trivial⟩ ?_);exact ⟨ad (bg f n nb),rfl⟩

theorem api_Piece_1_1_3_ok (ak:Nat) (ae:bk) (ag:Nat) (h:List Pc) (b:Nat) (c:bk) (d:Nat) (g:List Int) (l:World) (C:Nat→Prop) (n:Lw C l) (r:aW l b 27 #[vL c g d]) (aw:Rd pcE l C ae ag h) (q:Rd (iE .i64) l C c d g) (N:Int) (o:api_Piece_1_1_3 ak h g=some N):
    Cs 144 [vL ae h ag,.func (.func 135) #[] #[bp b]] l (G1 l [vI N]):=by
 have O:Bl l l:=Below.refl _ _;unfold api_Piece_1_1_3 at o;refine aI Tryz.func144 rfl Tryz.ntmps144 kr ?_;refine bP [(0,vL ae h ag),(1,.func (.func 135) #[] #[bp b])] ?_;have P:=r.lt;refine aG<|pN 1 [4] []<|cq<|aG<|pN 3 [6,7,8] [(7,vI (lz h)),(8,vI 0)]<|aa<|af o ?_;intro T t o
 refine aC (J:=fun a D=>∃ Q:Unit,T= .inl Q∧Bl l D∧Sz l D∧aW D b 27 #[vL c g d]∧Qa a 19 []) ?_ ?_
 ·refine aF<|bM (A:=fun (m:Int) a s=>Bl l s∧Sz l s∧aW s b 27 #[vL c g d]∧Qa a 19 [(0,vL ae h ag),(1,.func (.func 135) #[] #[bp b]),(7,vI (lz h)),(8,vI m)]) t ?_ ?_
  ·intro a hd hs al;exact ⟨O,bJ,r,hd,hs,aU al⟩
  ·rintro m Y j E a s ⟨i,F,u,hd,hs,al⟩;refine aK ?_ hd hs al;refine aG<|p1 9 (vB (decide (m<(lz h))))<|cq<|bx j (fun R j=>?_) (fun R j=>?_)
   ·refine az<|aH<|aF<|aG<|pL [5,10] 5 (vI m)<|bH<|pN 3 [11,12,13] [(11,.func (.func 135) #[] #[bp b]),(12,vL ae h ag),(13,vI m)] ?_
    refine af j ?_;intro v w j;refine cR .i64 7 (aw.below i n) w aZ ?_;obtain ⟨_,⟨_,_,rfl,rfl,⟨_,_,rfl,rfl,⟨_,_,rfl,rfl,⟨_,_,rfl,rfl,⟨_,_,rfl,rfl,⟨_,_,rfl,⟨x,y,rfl,G⟩,⟨z,B,rfl,H⟩⟩⟩⟩⟩⟩⟩,I⟩:=cells_un (aw.cellsK w);refine laq 25 (aN ae ((m:Int).toNat*7)) (dw (Pc.un v) x y z B) (bS (I s (fun k hk=>i.block k (n k hk)))) ?_;refine af j ?_;intro S K j;refine cC (f:=135) (vs:=[.agg (dw (Pc.un v) x y z B)]) (cap:=[bp b]) _ cr rfl rfl rfl kr kr enters135 (regex_formed_1_1_ok ak x y z B (Pc.un v) b c d g s C (aS n i.size) u (G.below i n) (H.below i n) (q.below i n) S K) ?_;rintro W X ⟨p,rfl⟩;refine ⟨nofun,?_⟩;refine aa<|bx j (fun L j=>?_) (fun L j=>?_)
    ·refine aG<|pL [4,17] 4 (vI m)<|aa<|am ?_
     obtain rfl:=sj j;replace t:=congrArg some (E _ rfl);obtain rfl:=sj t;replace o:=bt o;obtain rfl:=sj o;refine au (ao [vI m] rfl ⟨kr,trivial⟩ ?_);exact ⟨ad (bg i p nb),rfl⟩
    ·refine az<|bu<|av<|pL [8,18] 8 (vI (wI (m+1)))<|aa ?_;obtain rfl:=sj j;refine ac fun a hd hs al=>?_;exact ⟨(wI (m+1)),rfl,(bg i p nb),(nt F p.size),(u.grown p nb),hd,hs,aU al⟩
   ·refine bw<|bL rfl ?_
    obtain rfl:=sj j;replace t:=congrArg some (E _ rfl);obtain rfl:=sj t;refine ac fun a hd hs al=>?_;exact ⟨(),rfl,i,F,u,hd,hs,aU al⟩
 ·rintro a D ⟨Q,e,M,U,V,hd,hs,al⟩;subst e;refine aK ?_ hd hs al;replace o:=bW o;refine aG<|p1 4 (vI (-1))<|aa<|am ?_
  obtain rfl:=sj o;refine au (ao [vI (-1)] rfl ⟨kr,trivial⟩ ?_);exact ⟨ad M,rfl⟩

theorem api_Piece_1_1_ok (ak:Nat) (ae:bk) (ag:Nat) (e:List Pc) (a:Nat) (b:bk) (c:Nat) (d:List Int) (f:World) (k:Nat→Prop) (j:Lw k f) (h:aW f a 27 #[vL b d c]) (aw:Rd pcE f k ae ag e) (g:Rd (iE .i64) f k b c d) (n:Bool) (l:api_Piece_1_1 ak e d=some n):
    Cs 120 [vL ae e ag,.func (.func 135) #[] #[bp a]] f (G1 f [vB n]):=by
 have i:Bl f f:=Below.refl _ _;unfold api_Piece_1_1 at l;refine aI Tryz.func120 rfl Tryz.ntmps120 kr ?_;refine bP [(0,vL ae e ag),(1,.func (.func 135) #[] #[bp a])] ?_;have o:=h.lt;refine aG<|pN 1 [4] []<|bH<|pN 2 [5,6] [(5,vL ae e ag),(6,.func (.func 135) #[] #[bp a])] ?_
 refine af l ?_;intro m p l;refine ap kr rfl kr enters144 (api_Piece_1_1_3_ok ak ae ag e a b c d f k (aS j i.size) h (aw.below i j) (g.below i j) m p) ?_;rintro r s ⟨q,rfl⟩;refine pL [4,8] 4 (vB (decide (m≥0)))<|aa<|am ?_
 obtain rfl:=sj l;refine au (ao [vB (decide (m≥0))] rfl ⟨kr,trivial⟩ ?_);exact ⟨ad (bg i q nb),rfl⟩

theorem cX (ak:Nat) (ae:bk) (ag:Nat) (a:List Int) (g:Nat) (aE:bk) (aJ:Nat) (c:bk) (d:Nat) (b:cy) (e:World) (h:Nat→Prop) (i:Lw h e) (l:aW e g 25 (bh b aE aJ c d)) (aw:Rd (iE .i64) e h ae ag a) (bv:Rd bO e h aE aJ b.2.2.2.2.2.1) (j:Rd pcE e h c d b.2.2.2.2.2.2) (p:Bool) (k:regex_formed_1 ak a b=some p):
    Cs 134 [vL ae a ag,bp g] e (G1 e [vB p]):=by
 have q:Bl e e:=Below.refl _ _;unfold regex_formed_1 at k;refine aI Tryz.func134 rfl Tryz.ntmps134 kr ?_;refine bP [(0,vL ae a ag),(1,bp g)] ?_;have u:=l.lt;refine aG<|aA bp #[vL ae a ag] 27 kr kr ?_
 intro r v m s w x;refine pN 1 [3] []<|bH<|p1 4 (pt g 6)<|bi 23 (l.grown m nb) 6 rfl<|p1 6 (.func (.func 135) #[] #[bp r]) ?_;refine af k ?_;intro n t k;have f:=bg q m nb;refine ap kr rfl kr enters120 (api_Piece_1_1_ok ak c d b.2.2.2.2.2.2 r ae ag a v h (aS i f.size) s (j.below f i) (aw.below f i) n t) ?_;rintro y z ⟨o,rfl⟩;refine pL [3,8] 3 (vB (!n))<|aa<|am ?_
 obtain rfl:=sj k;refine au (ao [vB (!n)] rfl ⟨kr,trivial⟩ ?_);exact ⟨ad (bg f o nb),rfl⟩

end Go.Proofs.YtmpmeiihjnnomaaGreatDoor
