import Derived.Test.YtmpmeiihjnnomaaGreatDoorRows
import Derived.Test.YtmpmeiihjnnomaaGreatDoorD
import Derived.Test.YtmpmeiihjnnomaaGreatDoorGal
import Derived.Test.YtmpmeiihjnnomaaGreatDoorRs
import Derived.Test.YtmpmeiihjnnomaaGreatDoorRm
import Derived.Test.YtmpmeiihjnnomaaGreatDoorSr
import Derived.Test.YtmpmeiihjnnomaaGreatDoorSt
set_option linter.all false
set_option maxHeartbeats 4000000
set_option maxRecDepth 100000
namespace Go.Proofs.YtmpmeiihjnnomaaGreatDoor
open Go.Gv Go.Gv.D Go.RowKit
open Go.Gv renaming gv_nil->aa,grown_of_below->ab,bindE->ad,Own->ag,gv_cret->ai,gv_done->aj,gv_goA->ak,grown_trans->al,grown_step->ao,elemAddr->aq,gv_call0->ar,gv_ret->au,Cls.refl->av,gv_skip->ay,gv_region->az,gv_cut_code->aA,rowne->aB,gv_new0->aD,gv_seq->aE,gv_stage->aF,gv_block->aG,gv_store0->aH,blk->aJ,calls_run->aL,gv_cut_ops->aM,gv_pre->aO,gv_stageE->aP,blk_neX->aQ,Box->aV,ltx->aW,nm_nil->aX,cont_inr->aZ,blk_rev->bb,gv_sub->bc,strOf->bf,gv_goal->bi,gv_cexit->bm,gv_split->bo,gv_drawA->bq,inw1->bw,rowlo->bx,gv_blk->bB,inw0->bD,Box.ownE->bF,gv_exit->bG,nmx_nil->bH,gv_loop->bN,gv_name->bO,cont_inl->bP,lowb->bT,gv_append->bU,lowo->bV,rowpp->bW,blk_step->bZ,gv_in->b9,ltb->cm,utf8First->co,grown_refl->cq,rdnn->cC,gv_call->cE,Cls->cI,utf8Acc->cJ,lob->cM,Rd.nil->cN,gv_pureNC->cQ,gv_store->cW,rdnx->db,gv_new->dc,rowppr->dp,pow10C->dq,gv_cond->dt,loo->dw,noteq->dy,tup->dD,Ret->dH
open Go.Proofs.Tryz renaming prog->ap,underlying31->aK,underlying22->aN,underlying27->aR,underlying23->aT,underlying9->br,underlying25->cd,underlying54->cf,underlying3->cR
open List (length)
abbrev bh:=Option Addr
abbrev rgq (a n:Nat):List Nat:=List.range' a n
abbrev nXq:Nat->Prop:=fun _=>False
abbrev Naq (a:bh) (p:Nat->Prop):Prop:=∀ g,aJ a=some g->¬ p g
theorem ci {p : Prop} (h : p := by decide) : p := h
abbrev wI (x:Int):Int:=IntKind.i64.wrap x
abbrev wU (x:Int):Int:=IntKind.u64.wrap x
abbrev wT (x:Int):Int:=IntKind.u32.wrap x
abbrev wB (x:Int):Int:=IntKind.u8.wrap x
abbrev wR (x:Int):Int:=IntKind.i32.wrap x
abbrev vI (x:Int):Value:=.int .i64 x
abbrev vW (x:Int):Value:=.int .u64 x
abbrev vT (x:Int):Value:=.int .u32 x
abbrev vU (x:Int):Value:=.int .u8 x
abbrev vR (x:Int):Value:=.int .i32 x
abbrev vB (x:Bool):Value:=.bool x
abbrev vS (x:ByteArray):Value:=.string x
abbrev vL {α:Type} (a:bh) (x:List α) (c:Nat):Value:=.slice a x.length c
abbrev ro (b:Nat):bh:=some ⟨b,0,none⟩
abbrev lz {α:Type} (x:List α):Int:=((x.length:Nat):Int)
abbrev bz (x:ByteArray):Int:=((x.size:Nat):Int)
abbrev Ap (a b:bh):Prop:=∀ g,aJ a=some g->¬ (fun k=>aJ b=some k) g
abbrev Lo (w:World) (a:bh):Prop:=∀ g,aJ a=some g->w.heap.size<=g
abbrev Bl (w w':World):Prop:=Below w.heap.size w w'
abbrev Sz (w w':World):Prop:=w.heap.size<=w'.heap.size
abbrev Qa (a:Act) (n:Nat) (σ:List (Nat × Value)):Prop:=a.defers=[]∧a.tmps.size=n∧Ok σ a.tmps
abbrev bj (x:Int × Int × Int × Bool × Bool × (List (Int × Int)) × (List Pc)) (a0:bh) (c0:Nat) (a1:bh) (c1:Nat):Array Value:= #[vI x.1,vI x.2.1,vI x.2.2.1,vB x.2.2.2.1,vB x.2.2.2.2.1,vL a0 x.2.2.2.2.2.1 c0,vL a1 x.2.2.2.2.2.2 c1]
abbrev cL (x:ByteArray × Int × Int × Bool × Bool):Array Value:= #[vS x.1,vI x.2.1,vI x.2.2.1,vB x.2.2.2.1,vB x.2.2.2.2]
abbrev bI (x:Int × Int):Array Value:= #[vI x.1,vI x.2]
abbrev S102 (x:ByteArray × Int):Array Value:= #[vS x.1,vI x.2]
abbrev S153 (x:Bool × (List Int)) (a0:bh) (c0:Nat):Array Value:= #[vB x.1,vL a0 x.2 c0]
theorem xq {X c:Nat->Prop} {a:World} {b:Nat} (hs:∀ k,X k->c k∨a.heap.size<=k) (d:∀ k,c k->k<a.heap.size∧k≠b) (hp:b<a.heap.size):¬ X b:=fun h=>(hs _ h).elim (fun h=>(d _ h).2 rfl) (fun h=>Nat.not_lt_of_le h hp)
theorem rg {α:Type} {E:Enc α} {w w':World} {X:Nat->Prop} {a:bh} {cap b:Nat} {xs:List α} (h:Rd E w X a cap xs) (g:w.grownBy w' (some b)) (c:∀ k,X k->k<w.heap.size∧k≠b):Rd E w' X a cap xs:=h.grown g (fun k hk=>(c k hk).1) (fun g e hk=>by cases e;exact (c _ hk).2 rfl)
theorem jg {a:Nat->Prop} {c w:World} {b:Nat} {r:Option Nat} (d:∀ k,a k->k<c.heap.size∧k≠b) (g:c.grownBy w r):∀ k,a k->k<w.heap.size∧k≠b:=fun k hk=>⟨Nat.lt_of_lt_of_le (d k hk).1 g.size,(d k hk).2⟩
abbrev Sxb (X:Nat->Prop) (w':World) (a:Nat->Prop) (b:World):Prop:=∀ k,X k->k<w'.heap.size∧(a k∨b.heap.size<=k)
theorem sxq {X a:Nat->Prop} {w' b:World} (c:∀ k,X k->k<w'.heap.size) (d:∀ k,X k->a k∨b.heap.size<=k):Sxb X w' a b:=fun k hk=>⟨c k hk,d k hk⟩
abbrev b8:Type:=(List Int) × (List (Int × Int)) × Int
abbrev cn:Type:=Int × Int × Int × Bool × Bool × (List (Int × Int)) × (List Pc)
abbrev aU:Type:=Int × Int
abbrev dk:Type:=ByteArray × Int × Int × Bool × Bool
abbrev cG:Type:=(Bool × b8) ⊕ Unit
abbrev dM:Type:=(List Int) × Int × Bool × Bool
abbrev dJ:Array Value:= #[vI 0,vI 0,vI 0,vB false,vB false,vL none ([]:List (Int × Int)) 0,vL none ([]:List Pc) 0]
abbrev zQ1:Array Value:= #[vL none ([]:List (Int × Int)) 0]
theorem npb {p:Nat} {a:bh} (h:aJ a≠some p):∀ g,aJ a=some g->¬ (g=p):=fun g e e'=>h (e.trans (congrArg some e'))
theorem nrb {b p:Nat} {a:bh} (h:¬ (b=p∨aJ a=some b)):∀ g,aJ a=some g->¬ (g=b):=fun g e e'=>h (Or.inr (e' ▸ e))
theorem jsr {X S:Nat->Prop} {n m:Nat} (h:∀ k,X k->k<n∧¬ S k) (z:n<=m):∀ k,X k->k<m∧¬ S k:=fun k hk=>⟨Nat.lt_of_lt_of_le (h k hk).1 z,(h k hk).2⟩
theorem cB {α:Type} {E:Enc α} {w w':World} {X T:Nat->Prop} {a:bh} {cap:Nat} {xs:List α} (h:Rd E w X a cap xs) (hg:GF w w' T) (b:∀ k,X k->k<w.heap.size∧¬ T k):Rd E w' X a cap xs:=h.gf hg (fun k hk=>(b k hk).1) (fun k hk=>(b k hk).2)
theorem c6 {a b c:World} {S:Nat->Prop} (h:GF a b S) (h':GF b c S):GF a c S:=zqD h h' (fun _ h=>.inl h)
theorem nsr {b p:Nat} {r:bh} (a:¬ (p=b)) (c:∀ g,aJ r=some g->¬ (g=b)):¬ (b=p∨aJ r=some b):=fun h=>h.elim (fun e=>a e.symm) (fun e=>c _ e rfl)
theorem nto {T:Nat->Prop} {b:Nat} (h:¬ T b):∀ x,x=b->¬ T x:=fun _ e=>e ▸ h
theorem ntp {b p:Nat} {r:bh} (a:¬ (p=b)) (c:∀ g,aJ r=some g->¬ (g=b)):∀ x,x=b->¬ (x=p∨aJ r=some x):=fun x e h=>h.elim (fun e'=>a (e'.symm.trans e)) (fun e'=>c _ e' e)
theorem dl {X:Nat->Prop} {Q:Nat->Prop} {n m:Nat} (h:∀ k,X k->k<n∧Q k) (z:n<=m):∀ k,X k->k<m:=fun k hk=>Nat.lt_of_lt_of_le (h k hk).1 z
theorem fe {Q:Nat->Prop}:∀ k,(fun _:Nat=>False) k->Q k:=fun _ h=>h.elim
abbrev pt (b j:Nat):Value:=.pointer (some ⟨b,j,none⟩)
abbrev bK:Enc (Int × Int):=prE (iE .i64) (iE .i64)
abbrev dm (x:PcT) (a:bh) (c:Nat) (b:bh) (d:Nat):Array Value:= #[.int .i64 x.1,.int .i64 x.2.1,.int .i64 x.2.2.1,.bool x.2.2.2.1,.bool x.2.2.2.2.1,.slice a x.2.2.2.2.2.1.length c,.slice b x.2.2.2.2.2.2.length d]
theorem apA {b n:Nat} {a:bh} (hb:b=n) (ho:∀ g,aJ a=some g->g<n):Naq a (· =b):=fun g e hx=>Nat.not_lt_of_le (bT hb _ hx) (ho g e)
theorem dL {w:World} {b p:Nat} {t:TypeId} {cs:Array Value} (hb:b=w.heap.size) (hp:aV w p t cs):¬ (· =b) p:=fun hx=>Nat.not_lt_of_le (bT hb _ hx) (cm hp _ rfl)
theorem apC {b n:Nat} {a:bh} (hb:b=n) (ho:∀ g,aJ a=some g->g<n):¬ (fun k=>aJ a=some k) b:=fun hx=>Nat.not_lt_of_le (bT hb _ rfl) (ho _ hx)
theorem apD {w:World} {b p:Nat} {t:TypeId} {cs:Array Value} (hb:b=w.heap.size) (hp:aV w p t cs):Naq (some ⟨b,0,none⟩) (· =p):=fun g e hx=>Nat.not_lt_of_le (bV hb g e) (cm hp _ hx)
theorem apF {X:Nat->Prop} {b n:Nat} (hb:b=n) (hx:∀ k,X k->k<n):¬ X b:=fun h=>Nat.not_lt_of_le (bT hb _ rfl) (hx _ h)
theorem apH {w:World} {b p:Nat} {t:TypeId} {cs:Array Value} (hb:b=w.heap.size) (hp:aV w p t cs):¬ (· =p) b:=fun hx=>Nat.not_lt_of_le (bT hb _ rfl) (cm hp _ hx)
theorem apI {w:World} {p:Nat} {a:bh} {t:TypeId} {cs:Array Value} (hl:∀ k,aJ a=some k->w.heap.size<=k) (hp:aV w p t cs):¬ (fun k=>aJ a=some k) p:=fun hx=>Nat.not_lt_of_le (hl _ hx) (cm hp _ rfl)
theorem apG {w:World} {b p:Nat} {t:TypeId} {cs:Array Value} {X:Nat->Prop} (hb:b=w.heap.size) (hp:aV w p t cs) (hx:¬ X p):¬ (fun k=>aJ (some ⟨b,0,none⟩)=some k∨X k) p:=fun h=>h.elim (fun h=>Nat.not_lt_of_le (bV hb _ h) (cm hp _ rfl)) hx
theorem apE {X a Q:Nat->Prop} {b n:Nat} (h:∀ k,X k->Q k∧(a k∨n<=k)) (c:¬ a b) (hb:b<n):¬ X b:=fun hx=>(h _ hx).2.elim c (fun h=>Nat.not_lt_of_le h hb)
theorem xlo {a Q:Nat->Prop} {b n:Nat} (hl:n<=b) (h:∀ k,a k->k<n∧Q k):¬ a b:=fun hx=>Nat.not_lt_of_le hl (h _ hx).1
abbrev dE (b:Nat) (a:bh) (c:Nat) (tx:List Int) (a':bh) (c':Nat) (w:World) (r:(Bool × b8) ⊕ Unit):Ending->World->Prop:=RetP (fun (r0:Bool × b8) v w'=>GF w w' (SrS b a')∧v=dD [.bool r0.1]∧aV w' b 129 #[.slice a tx.length c,.slice a' r0.2.2.1.length c',.int .i64 r0.2.2.2]∧ag bK 37 w' nXq a' c' r0.2.2.1) (fun _:Unit=>Value.iface 125 (.agg #[])) (fun w'=>GF w w' (SrS b a')) r
theorem gq {P:Program} {R:RR} {n:Nat} {k:List It} {σ σ':List (Nat × Value)} {w:World} {J:Act->World->Prop} (h:∀ a:Act,(a.defers=R.ds∧a.tmps.size=n∧Ok σ' a.tmps)->J a w) (hp:picks (σ'.map (·.1)) σ=some σ':=by kernel_rfl):Run P R n (.goal J::k) .normal σ w:=fun a hd hs ok=>h a ⟨hd,hs,zqT _ ok hp⟩
theorem gi {P:Program} {R:RR} {n:Nat} {k:List It} {e:Exit} {a:Act} {σ:List (Nat × Value)} {w:World} (q:a.defers=R.ds∧a.tmps.size=n∧Ok σ a.tmps) (h:Run P R n k e σ w):K P R k e a w:=h a q.1 q.2.1 q.2.2
def qB (n:Nat) (all:Array Oper) (σ:List (Nat × Value)) (o:Oper):Bool:=match o.dst with
  | some d=>Nat.blt d n&&((match zza all σ o with | some true=>true | _=>false)&&(zyQ o.op&&zyi σ o.op.operands.toList))
  | none=>false
theorem zua {n:Nat} {all:Array Oper} {σ:List (Nat × Value)} {o:Oper} (h:qB n all σ o=true):∃ d,o.dst=some d∧Nat.blt d n=true∧zza all σ o=some true∧(zyQ o.op&&zyi σ o.op.operands.toList)=true:=by
  unfold qB at h
  cases hd:o.dst with
  | none=>rw[hd]at h;cases h
  | some d=>
    rw[hd]at h
    simp only[Bool.and_eq_true]at h
    refine ⟨d,rfl,h.1,?_,by simp only[Bool.and_eq_true];exact h.2.2⟩
    cases hg:zza all σ o with
    | none=>rw[hg]at h;cases h.2.1
    | some b=>cases b with
      | true=>rfl
      | false=>rw[hg]at h;cases h.2.1
section
variable {P:Program} {R:RR} {n:Nat} {k:List It} {σ:List (Nat × Value)} {w:World} {all:Array Oper} {C:World->Prop} {o:Oper} {m:Mk} {rest:List (Oper × Mk)}
theorem b6 (t:TypeId) (A:Addr) (v:Value) (hc:∀ w',Inw m C w w'->w'.cell? A=some v) (h:Run P R n (.ops all C rest::k) .normal (zuz σ o.dst v) w) (hm:m=some false->C w:=by nofun) (hq:qB n all σ o=true:=by kernel_rfl) (hop:execOp (evr σ) o=(do pure (.value (<- Instr.loadAt t (.pointer (some A))))):=by kernel_rfl) (ht:zlZ P t=some false:=by kernel_rfl):Run P R n (.ops all C ((o,m)::rest)::k) .normal σ w:=by
  obtain ⟨d,a,b,c,e⟩:=zua hq
  rw[a]at h
  exact zqq v [] hm a b c e hop ht hc rfl h
theorem laq (t:TypeId) (A:Addr) (cs:Array Value) (hc:∀ w',Inw m C w w'->zyL w' A cs.toList) (h:Run P R n (.ops all C rest::k) .normal (zuz σ o.dst (.agg cs)) w) (hm:m=some false->C w:=by nofun) (hq:qB n all σ o=true:=by kernel_rfl) (hop:execOp (evr σ) o=(do pure (.value (<- Instr.loadAt t (.pointer (some A))))):=by kernel_rfl) (ht:zlZ P t=some true:=by kernel_rfl) (hsz:(P.info? t).map (·.size)=some cs.size:=by kernel_rfl):Run P R n (.ops all C ((o,m)::rest)::k) .normal σ w:=by
  obtain ⟨d,a,b,c,e⟩:=zua hq
  rw[a]at h
  exact zp4 cs [] hm a b c e hop ht hsz hc rfl h
theorem cH (t:TypeId) (b:Nat) (cs:Array Value) (hc:∀ w',Inw m C w w'->w'.heap[b]? =some (.cells cs t (0,0))) (h:Run P R n (.ops all C rest::k) .normal (zuz σ o.dst (.agg cs)) w) (hm:m=some false->C w:=by nofun) (hq:qB n all σ o=true:=by kernel_rfl) (hop:execOp (evr σ) o=(do pure (.value (<- Instr.loadAt t (.pointer (some ⟨b,0,none⟩))))):=by kernel_rfl) (ht:zlZ P t=some true:=by kernel_rfl) (hsz:(P.info? t).map (·.size)=some cs.size:=by kernel_rfl):Run P R n (.ops all C ((o,m)::rest)::k) .normal σ w:=by
  obtain ⟨d,a,c,e,f⟩:=zua hq
  rw[a]at h
  exact zwa cs [] hm a c e f hop ht hsz hc rfl h
theorem cz {α:Type} {E:Enc α} {X:Nat->Prop} {c:World} {t e:TypeId} {a:bh} {cap:Nat} {xs:List α} {x:α} {i:Int} (kk:IntKind) (sz:Nat) (hR:Rd E c X a cap xs) (hx:idx xs i=some x) (ht:P.underlying t=some (.slice e)) (h:Run P R n (.ops all C rest::k) .normal (zuz σ o.dst (.pointer (some (aq a (i.toNat*sz))))) w) (hm:m=some false->C w:=by nofun) (hq:qB n all σ o=true:=by kernel_rfl) (hop:execOp (evr σ) o=(do pure (.value (<- Instr.indexAt t (.slice a xs.length cap) (.int kk i)))):=by kernel_rfl) (hsz:(P.info? e).map (·.size)=some sz:=by kernel_rfl):Run P R n (.ops all C ((o,m)::rest)::k) .normal σ w:=by
  obtain ⟨d,b,f,g,j⟩:=zua hq
  rw[b]at h
  exact zp5 [] hm b f g j hop ht hsz (hR.has hx) (zx6 hx).1 (zx6 hx).2.1 rfl h
theorem siq {t:TypeId} {s:ByteArray} {i c:Int} (kk:IntKind) (hx:zpB s i=some c) (ht:P.underlying t=some .string) (h:Run P R n (.ops all C rest::k) .normal (zuz σ o.dst (.int .u8 c)) w) (hm:m=some false->C w:=by nofun) (hq:qB n all σ o=true:=by kernel_rfl) (hop:execOp (evr σ) o=(do pure (.value (<- Instr.index t (.string s) (.int kk i)))):=by kernel_rfl):Run P R n (.ops all C ((o,m)::rest)::k) .normal σ w:=by
  obtain ⟨d,a,b,e,f⟩:=zua hq
  rw[a]at h
  exact zmw c [] hm a b e f hop ht hx rfl h
theorem dB {s u r:ByteArray} (t:TypeId) (hr:cat s u=some r) (h:Run P R n (.ops all C rest::k) .normal (zuz σ o.dst (.string r)) w) (hm:m=some false->C w:=by nofun) (hq:qB n all σ o=true:=by kernel_rfl) (hop:execOp (evr σ) o=(do pure (.value (<- binOp .add t (.string s) (.string u)))):=by kernel_rfl):Run P R n (.ops all C ((o,m)::rest)::k) .normal σ w:=by
  obtain ⟨d,a,b,c,e⟩:=zua hq
  rw[a]at h
  exact zj4 r [] hm a b c e hop hr rfl h
theorem aI {id:Nat} {l:List Oper} {y:Code} (h:Run P R n (.ops l.toArray (fun _=>True) (mk0 l):: .code y::k) .normal σ w) (hr:R.r=none:=by rfl):Run P R n (.code (.seq (.region id l.toArray false) y)::k) .normal σ w:=aE (az h hr)
theorem cg {x y:Code} (h:Run P R n (.code x:: .code y::k) .normal σ w):Run P R n (.ops all C []:: .code (.seq x y)::k) .normal σ w:=aa (aE h)
theorem bL {id:Nat} {l:List Oper} {y:Code} (h:Run P R n (.ops l.toArray (fun _=>True) (mk0 l):: .code y::k) .normal σ w) (hr:R.r=none:=by rfl):Run P R n (.ops all C []:: .code (.seq (.region id l.toArray false) y)::k) .normal σ w:=aa (aE (az h hr))
theorem dI {x:Operand} {xs:Array Operand} {tys:Array TypeId} {f:FuncId} {vs:List Value} {S:Value->World->Prop} (hf:Go.Gv.Enters P f) (hc:Calls P f vs.toArray w (dH S)) (h:∀ v w',S v w'->(m=some false->C w')∧Run P R n (.ops all C rest::k) .normal (zuz σ o.dst v) w') (hm:m≠some true:=by decide) (hdn:zwY n o.dst=true:=by kernel_rfl) (hg:zza all σ o=some true:=by kernel_rfl) (ho:o.op= .call { callee:=.value x,args:=xs,argTypes:=tys}:=by rfl) (hx:ev σ x=some (.func (.func f) #[] ([]:List Value).toArray):=by kernel_rfl) (hxs:evs σ xs.toList=some vs:=by kernel_rfl):Run P R n (.ops all C ((o,m)::rest)::k) .normal σ w:=
  cE (cap:=[]) S hm hdn hg ho hx hxs hf (by rw[List.append_nil];exact hc) h
end
abbrev Lw (X:Nat->Prop) (w:World):Prop:=∀ k,X k->k<w.heap.size
abbrev Cs (f:Nat) (l:List Value) (w:World) (R:Ending->World->Prop):Prop:=Calls ap f l.toArray w R
abbrev G1 (w:World) (r:List Value):Ending->World->Prop:=dH fun v w'=>w.grownBy w' none∧v=dD r
theorem nl {a b:Nat} (h:a<=b):¬ b<a:=Nat.not_lt_of_le h
theorem sj {α:Type _} {a b:α} (h:some a=some b):a=b:=Option.some.inj h
theorem ng {a b:Nat} (h:b<a):a≠b:=Nat.ne_of_gt h
theorem cy {a b c:Nat} (h:a<b) (h':b<=c):a<c:=Nat.lt_of_lt_of_le h h'
theorem dn {a b c:Nat} (h:a<b) (h':b<c):a<c:=Nat.lt_trans h h'
section
variable {P:Program} {R:RR} {n:Nat} {k:List It} {σ σ':List (Nat × Value)} {w:World} {all:Array Oper} {C:World->Prop}
theorem pN (c:Nat) (ds:List Nat) (news:List (Nat × Value)) {l:List (Oper × Mk)} (h:Run P R n (.ops all C (zs1 c l)::k) .normal (nw news ds σ) w) (hp:(match zvT false P n all c l σ with | some σ1=>picks ((nw news ds σ).map (·.1)) σ1 | none=>none)=some (nw news ds σ):=by kernel_rfl):Run P R n (.ops all C l::k) .normal σ w:=zxy c ds news hp h
theorem okp (ss:List Nat) {t:Array Value} (h:Ok σ t) (hp:picks ss σ=some σ':=by kernel_rfl):Ok σ' t:=zqT ss h hp
theorem dx {σ':List (Nat × Value)} {t:Array Value} (h:Ok σ t) (hp:picks (σ'.map (·.1)) σ=some σ':=by kernel_rfl):Ok σ' t:=zqT _ h hp
theorem vLc {α:Type} {x y:List α} {a:bh} {c:Nat} (h:x.length=y.length):vL a x c=vL a y c:=by unfold vL;rw[h]
theorem bQ (σ':List (Nat × Value)) {e:Exit} (h:Run P R n k e σ' w) (hp:picks (σ'.map (·.1)) σ=some σ':=by kernel_rfl):Run P R n k e σ w:=bc _ hp h
theorem bJ {a:Nat}:a<=a:=Nat.le_refl a
theorem kr {p:Prop} (h:p:=by kernel_rfl):p:=h
end
open List (length)
section
variable {P:Program} {R:RR} {n:Nat} {k:List It} {σ:List (Nat × Value)} {w:World}
theorem bC {α:Type} {c:Operand} {b:Bool} {x y:Code} {p q r:α} (h:(if b=true then p else q)=r) (ht:b=true->p=r->Run P R n (.code x::k) .normal σ w) (hf:b=false->q=r->Run P R n (.code y::k) .normal σ w) (hc:ev σ c=some (.bool b):=by kernel_rfl):Run P R n (.code (.cond c x y)::k) .normal σ w:=dt hc (fun e=>ht e (ztL e h)) (fun e=>hf e (ztG e h))
theorem ce {α:Type} (s:Nat) {g:Bool} {e:Exit} {p q r:α} (h:(if g=true then p else q)=r) (ht:g=true->p=r->Run P R n k e (put σ s (.bool true)) w) (hf:g=false->q=r->Run P R n k e (put σ s (.bool false)) w) (hl:Go.Gv.look σ s=some (.bool g):=by kernel_rfl):Run P R n k e σ w:=bo hl (fun e=>ht e (ztL e h)) (fun e=>hf e (ztG e h))
end
section
variable {P:Program} {R:RR} {n:Nat} {k:List It} {σ σ':List (Nat × Value)} {w:World} {all:Array Oper} {C:World->Prop}
theorem pL (ds:List Nat) (d:Nat) (v:Value) {l:List (Oper × Mk)} (h:Run P R n (.ops all C (zs1 ds.length l)::k) .normal (nw [(d,v)] ds σ) w) (hp:(match zvT false P n all ds.length l σ with | some σ1=>picks ((nw [(d,v)] ds σ).map (·.1)) σ1 | none=>none)=some (nw [(d,v)] ds σ):=by kernel_rfl):Run P R n (.ops all C l::k) .normal σ w:=zxy ds.length ds [(d,v)] hp h
theorem p1 (d:Nat) (v:Value) {l:List (Oper × Mk)} (h:Run P R n (.ops all C (zs1 1 l)::k) .normal (nw [(d,v)] [d] σ) w) (hp:(match zvT false P n all 1 l σ with | some σ1=>picks ((nw [(d,v)] [d] σ).map (·.1)) σ1 | none=>none)=some (nw [(d,v)] [d] σ):=by kernel_rfl):Run P R n (.ops all C l::k) .normal σ w:=zxy 1 [d] [(d,v)] hp h
theorem bu (t:TypeId) {b:Nat} {ty:TypeId} {cs:Array Value} {v:Value} {o:Oper} {rest:List (Oper × Mk)} (hb:aV w b ty cs) (j:Nat) (hv:cs[j]? =some v) (h:Run P R n (.ops all C rest::k) .normal (zuz σ o.dst v) w) (hq:qB n all σ o=true:=by kernel_rfl) (hop:execOp (evr σ) o=(do pure (.value (<- Instr.loadAt t (.pointer (some ⟨b,j,none⟩))))):=by kernel_rfl) (ht:zlZ P t=some false:=by kernel_rfl):Run P R n (.ops all C ((o,none)::rest)::k) .normal σ w:=b6 t ⟨b,j,none⟩ v (bD (hb.cell j hv)) h nofun hq hop ht
end
theorem cu {P : Program} {f : FuncId} {fn : Func} (h : P.funcs[f]? = some fn) (a : (fn.name == "runtime.NumGoroutine") = false := by kernel_rfl) (b : fn.body.isNone = false := by kernel_rfl) : Go.Gv.Enters P f := ⟨fn, h, a, b⟩
theorem zje:Go.Gv.Enters ap 9:=cu Tryz.func9
theorem zpT:Go.Gv.Enters ap 10:=cu Tryz.func10
theorem zmf:Go.Gv.Enters ap 11:=cu Tryz.func11
theorem zpn:Go.Gv.Enters ap 13:=cu Tryz.func13
theorem zmO:Go.Gv.Enters ap 14:=cu Tryz.func14
theorem cS:Go.Gv.Enters ap 15:=cu Tryz.func15
theorem zpw:Go.Gv.Enters ap 16:=cu Tryz.func16
theorem zmP:Go.Gv.Enters ap 17:=cu Tryz.func17
theorem zlg:Go.Gv.Enters ap 20:=cu Tryz.func20
theorem zlr:Go.Gv.Enters ap 21:=cu Tryz.func21
theorem zqB:Go.Gv.Enters ap 22:=cu Tryz.func22
theorem zmR:Go.Gv.Enters ap 23:=cu Tryz.func23
theorem zpg:Go.Gv.Enters ap 24:=cu Tryz.func24
theorem zv3:Go.Gv.Enters ap 25:=cu Tryz.func25
theorem zm5:Go.Gv.Enters ap 26:=cu Tryz.func26
theorem zsD:Go.Gv.Enters ap 27:=cu Tryz.func27
theorem zpb:Go.Gv.Enters ap 30:=cu Tryz.func30
theorem zle:Go.Gv.Enters ap 31:=cu Tryz.func31
theorem zsb:Go.Gv.Enters ap 32:=cu Tryz.func32
theorem zmd:Go.Gv.Enters ap 33:=cu Tryz.func33
theorem zqA:Go.Gv.Enters ap 34:=cu Tryz.func34
theorem ztx:Go.Gv.Enters ap 35:=cu Tryz.func35
theorem zqC:Go.Gv.Enters ap 36:=cu Tryz.func36
theorem dF:Go.Gv.Enters ap 37:=cu Tryz.func37
theorem zsU:Go.Gv.Enters ap 38:=cu Tryz.func38
theorem zpq:Go.Gv.Enters ap 39:=cu Tryz.func39
theorem zlX:Go.Gv.Enters ap 40:=cu Tryz.func40
theorem zs8:Go.Gv.Enters ap 41:=cu Tryz.func41
theorem dG:Go.Gv.Enters ap 42:=cu Tryz.func42
theorem ztt:Go.Gv.Enters ap 43:=cu Tryz.func43
theorem zlx:Go.Gv.Enters ap 44:=cu Tryz.func44
theorem zpz:Go.Gv.Enters ap 45:=cu Tryz.func45
theorem zmK:Go.Gv.Enters ap 46:=cu Tryz.func46
theorem zm4:Go.Gv.Enters ap 47:=cu Tryz.func47
theorem zmC:Go.Gv.Enters ap 52:=cu Tryz.func52
theorem zpk:Go.Gv.Enters ap 54:=cu Tryz.func54
theorem zpt:Go.Gv.Enters ap 56:=cu Tryz.func56
theorem zs0:Go.Gv.Enters ap 58:=cu Tryz.func58
theorem zs7:Go.Gv.Enters ap 59:=cu Tryz.func59
theorem zsW:Go.Gv.Enters ap 60:=cu Tryz.func60
theorem zsR:Go.Gv.Enters ap 61:=cu Tryz.func61
theorem zsa:Go.Gv.Enters ap 62:=cu Tryz.func62
theorem zsg:Go.Gv.Enters ap 63:=cu Tryz.func63
theorem zq5:Go.Gv.Enters ap 64:=cu Tryz.func64
theorem zpQ:Go.Gv.Enters ap 66:=cu Tryz.func66
theorem zlW:Go.Gv.Enters ap 67:=cu Tryz.func67
theorem dv:Go.Gv.Enters ap 68:=cu Tryz.func68
theorem zq3:Go.Gv.Enters ap 69:=cu Tryz.func69
theorem zq2:Go.Gv.Enters ap 70:=cu Tryz.func70
theorem zsE:Go.Gv.Enters ap 71:=cu Tryz.func71
theorem zlO:Go.Gv.Enters ap 72:=cu Tryz.func72
theorem zpx:Go.Gv.Enters ap 73:=cu Tryz.func73
theorem zm7:Go.Gv.Enters ap 74:=cu Tryz.func74
theorem zpi:Go.Gv.Enters ap 83:=cu Tryz.func83
theorem cj:Go.Gv.Enters ap 84:=cu Tryz.func84
theorem zvk:Go.Gv.Enters ap 85:=cu Tryz.func85
theorem zrz:Go.Gv.Enters ap 86:=cu Tryz.func86
theorem zlU:Go.Gv.Enters ap 87:=cu Tryz.func87
theorem zsc:Go.Gv.Enters ap 88:=cu Tryz.func88
theorem zq4:Go.Gv.Enters ap 89:=cu Tryz.func89
theorem zmF:Go.Gv.Enters ap 90:=cu Tryz.func90
theorem zsP:Go.Gv.Enters ap 91:=cu Tryz.func91
theorem zmn:Go.Gv.Enters ap 92:=cu Tryz.func92
theorem zll:Go.Gv.Enters ap 93:=cu Tryz.func93
theorem zm6:Go.Gv.Enters ap 94:=cu Tryz.func94
theorem zpy:Go.Gv.Enters ap 95:=cu Tryz.func95
theorem cD:Go.Gv.Enters ap 96:=cu Tryz.func96
theorem zlk:Go.Gv.Enters ap 97:=cu Tryz.func97
theorem zsd:Go.Gv.Enters ap 98:=cu Tryz.func98
theorem zoG:Go.Gv.Enters ap 101:=cu Tryz.func101
theorem zta:Go.Gv.Enters ap 106:=cu Tryz.func106
theorem zmp:Go.Gv.Enters ap 107:=cu Tryz.func107
theorem zoN:Go.Gv.Enters ap 108:=cu Tryz.func108
theorem zrn:Go.Gv.Enters ap 109:=cu Tryz.func109
theorem zo8:Go.Gv.Enters ap 112:=cu Tryz.func112
theorem znU:Go.Gv.Enters ap 113:=cu Tryz.func113
theorem znS:Go.Gv.Enters ap 114:=cu Tryz.func114
theorem zoe:Go.Gv.Enters ap 115:=cu Tryz.func115
theorem zmt:Go.Gv.Enters ap 116:=cu Tryz.func116
theorem zmz:Go.Gv.Enters ap 117:=cu Tryz.func117
theorem zr3:Go.Gv.Enters ap 118:=cu Tryz.func118
theorem zv7:Go.Gv.Enters ap 119:=cu Tryz.func119
theorem ztI:Go.Gv.Enters ap 120:=cu Tryz.func120
theorem zrF:Go.Gv.Enters ap 121:=cu Tryz.func121
theorem dC:Go.Gv.Enters ap 122:=cu Tryz.func122
theorem zrP:Go.Gv.Enters ap 123:=cu Tryz.func123
theorem zr5:Go.Gv.Enters ap 124:=cu Tryz.func124
theorem zog:Go.Gv.Enters ap 127:=cu Tryz.func127
theorem zob:Go.Gv.Enters ap 128:=cu Tryz.func128
theorem zo6:Go.Gv.Enters ap 129:=cu Tryz.func129
theorem zoI:Go.Gv.Enters ap 132:=cu Tryz.func132
theorem zrZ:Go.Gv.Enters ap 133:=cu Tryz.func133
theorem ztn:Go.Gv.Enters ap 134:=cu Tryz.func134
theorem znh:Go.Gv.Enters ap 135:=cu Tryz.func135
theorem zoD:Go.Gv.Enters ap 136:=cu Tryz.func136
theorem ztV:Go.Gv.Enters ap 137:=cu Tryz.func137
theorem zo7:Go.Gv.Enters ap 138:=cu Tryz.func138
theorem znn:Go.Gv.Enters ap 139:=cu Tryz.func139
theorem zna:Go.Gv.Enters ap 140:=cu Tryz.func140
theorem ztH:Go.Gv.Enters ap 141:=cu Tryz.func141
theorem zof:Go.Gv.Enters ap 142:=cu Tryz.func142
theorem znf:Go.Gv.Enters ap 143:=cu Tryz.func143
theorem ztE:Go.Gv.Enters ap 144:=cu Tryz.func144
theorem dA:Go.Gv.Enters ap 145:=cu Tryz.func145
theorem zrE:Go.Gv.Enters ap 146:=cu Tryz.func146
theorem znV:Go.Gv.Enters ap 147:=cu Tryz.func147
theorem zo9:Go.Gv.Enters ap 148:=cu Tryz.func148
theorem zoT:Go.Gv.Enters ap 149:=cu Tryz.func149
theorem zoM:Go.Gv.Enters ap 150:=cu Tryz.func150
theorem zn3:Go.Gv.Enters ap 153:=cu Tryz.func153
theorem zoJ:Go.Gv.Enters ap 155:=cu Tryz.func155
theorem zny:Go.Gv.Enters ap 161:=cu Tryz.func161
theorem zns:Go.Gv.Enters ap 162:=cu Tryz.func162
theorem zng:Go.Gv.Enters ap 163:=cu Tryz.func163
theorem zoo:Go.Gv.Enters ap 168:=cu Tryz.func168
theorem zn1:Go.Gv.Native ap 125 Extern.BytealgIndexByte.indexByte:=⟨Tryz.f125,Tryz.func125,by kernel_rfl,by kernel_rfl,by kernel_rfl,by kernel_rfl⟩
theorem zsQ:zwI ap 3 1:=zv0 (z:=(.int .i64 0)) (bytes:=8) (by kernel_rfl) (by kernel_rfl) (by kernel_rfl) (by kernel_rfl)
theorem info4:zwI ap 4 1:=zv0 (z:=(.bool false)) (bytes:=1) (by kernel_rfl) (by kernel_rfl) (by kernel_rfl) (by kernel_rfl)
theorem zo3:zwI ap 5 1:=zv0 (z:=(.int .u8 0)) (bytes:=1) (by kernel_rfl) (by kernel_rfl) (by kernel_rfl) (by kernel_rfl)
theorem znW:zwI ap 9 1:=zv0 (z:=(.string ⟨#[]⟩)) (bytes:=16) (by kernel_rfl) (by kernel_rfl) (by kernel_rfl) (by kernel_rfl)
theorem ziB:zwI ap 22 1:=zv0 (z:=(.slice none 0 0)) (bytes:=24) (by kernel_rfl) (by kernel_rfl) (by kernel_rfl) (by kernel_rfl)
theorem zop:zwI ap 25 7:=zv0 (z:=(.agg #[.int .i64 0,(.int .i64 0),(.int .i64 0),(.bool false),(.bool false),(.slice none 0 0),(.slice none 0 0)])) (bytes:=80) (by kernel_rfl) (by kernel_rfl) (by kernel_rfl) (by kernel_rfl)
theorem zio:zwI ap 34 1:=zv0 (z:=(.agg #[.slice none 0 0])) (bytes:=24) (by kernel_rfl) (by kernel_rfl) (by kernel_rfl) (by kernel_rfl)
theorem zrJ:zwI ap 37 2:=zv0 (z:=(.agg #[.int .i64 0,(.int .i64 0)])) (bytes:=16) (by kernel_rfl) (by kernel_rfl) (by kernel_rfl) (by kernel_rfl)
theorem zqU:zwI ap 103 2:=zv0 (z:=(.agg #[.string ⟨#[]⟩,(.int .i64 0)])) (bytes:=24) (by kernel_rfl) (by kernel_rfl) (by kernel_rfl) (by kernel_rfl)
theorem zup (a:Int) (b:Int) (c:Int) (d:Int) (x y:Operand) (w:World):(do eqGuard .eql 31 x y (.agg #[.int .i64 a,.int .i64 b]) (.agg #[.int .i64 c,.int .i64 d]);binOp .eql 31 (.agg #[.int .i64 a,.int .i64 b]) (.agg #[.int .i64 c,.int .i64 d]):Sem Value).run ap w= .ok (.bool ((a==c)&&(b==d))) w:=by
  have e:ap.eqGuardType ap.depth 31=false:=by kernel_rfl
  have f:ap.stoodInHeld 31=false:=by kernel_rfl
  have g:ap.underlying 31=some (.struct (ap.fieldsOf 31)):=by kernel_rfl
  have h:=aK
  rw[Sem.run_bind,run_eqGuard_agg w .eql 31 x y _ _ e,Result.andThen_ok,run_eql_struct,run_equalIn_struct w 9999 31 _ _ g f]
  by_cases g0:a=c<;>by_cases g1:b=d<;>simp[Program.fieldsOf,h,Op.eqFields,part,isAgg,run_underlying cR,run_equalIn_int _ _ _ _ _ _ _ cR,g0,g1]
theorem zpX (a:Int) (b:Int) (c:Int) (d:Int) (x y:Operand) (w:World):(do eqGuard .neq 31 x y (.agg #[.int .i64 a,.int .i64 b]) (.agg #[.int .i64 c,.int .i64 d]);binOp .neq 31 (.agg #[.int .i64 a,.int .i64 b]) (.agg #[.int .i64 c,.int .i64 d]):Sem Value).run ap w= .ok (.bool (!((a==c)&&(b==d)))) w:=by
  have e:ap.eqGuardType ap.depth 31=false:=by kernel_rfl
  have f:ap.stoodInHeld 31=false:=by kernel_rfl
  have g:ap.underlying 31=some (.struct (ap.fieldsOf 31)):=by kernel_rfl
  have h:=aK
  rw[Sem.run_bind,run_eqGuard_agg w .neq 31 x y _ _ e,Result.andThen_ok,run_neq_struct,run_equalIn_struct w 9999 31 _ _ g f]
  by_cases g0:a=c<;>by_cases g1:b=d<;>simp[Program.fieldsOf,h,Op.eqFields,part,isAgg,run_underlying cR,run_equalIn_int _ _ _ _ _ _ _ cR,g0,g1]
theorem zlQ (a:Int) (b:Int) (c:Int) (d:Int) (x y:Operand) (w:World):(do eqGuard .neq 37 x y (.agg #[.int .i64 a,.int .i64 b]) (.agg #[.int .i64 c,.int .i64 d]);binOp .neq 37 (.agg #[.int .i64 a,.int .i64 b]) (.agg #[.int .i64 c,.int .i64 d]):Sem Value).run ap w= .ok (.bool (!((a==c)&&(b==d)))) w:=by
  have e:ap.eqGuardType ap.depth 37=false:=by kernel_rfl
  obtain ⟨i,hi⟩:∃ i,ap.info? 3=some i:=Option.isSome_iff_exists.1 (by kernel_rfl)
  have hc:ap.cellsOf 3=1:=by kernel_rfl
  rw[Sem.run_bind,run_eqGuard_agg w .neq 37 x y _ _ e,Result.andThen_ok,run_neq_struct,run_equalIn_array w 9999 _ _ Tryz.underlying37 hi,hc]
  by_cases g0:a=c<;>by_cases g1:b=d<;>simp[List.range,List.range.loop,Op.eqItems,part,isAgg,run_underlying cR,run_equalIn_int _ _ _ _ _ _ _ cR,g0,g1]

theorem zwe (af:Nat) (a:ByteArray) (b:Int) (c:World) (d:Int) (e:zyt af a b=some d):
    Cs 101 [vS a,vU b] c (G1 c [vI d]):=by
 have g:Bl c c:=Below.refl _ _;unfold zyt at e;refine aL Tryz.func101 rfl Tryz.ntmps101 kr<|bQ [(0,vS a),(1,vU b)]<|aI<|pN 1 [4] []<|bL<|pN 2 [5,6] [(5,vS a),(6,vU b)]<|zj5 (f:=125) (vs:=[vS a,vU b]) (vI (nIdxB (bytesOf a) b)) [] nofun rfl rfl rfl kr rfl kr kr zn1 (fun w' _=>zlp _ _ w') rfl<|p1 4 (vI (nIdxB (bytesOf a) b))<|aa<|ai ?_
 cases e;refine au (aj [vI (nIdxB (bytesOf a) b)] rfl ⟨kr,trivial⟩ ?_);exact ⟨ab g,rfl⟩

theorem zxh (af:Nat) (a:ByteArray) (b:Int) (c:World) (f:Int) (d:zye af a b=some f):
    Cs 109 [vS a,vU b] c (G1 c [vI f]):=by
 have g:Bl c c:=Below.refl _ _;unfold zye at d;refine aL Tryz.func109 rfl Tryz.ntmps109 kr<|bQ [(0,vS a),(1,vU b)]<|aI<|pN 1 [4] []<|bL<|pN 2 [5,6] [(5,vS a),(6,vU b)]<|ad d<|fun e h d=>ar kr rfl kr zoG (zwe af a b c e h) ?_;rintro j k ⟨i,rfl⟩;refine p1 4 (vI e)<|aa<|ai ?_
 obtain rfl:=sj d;refine au (aj [vI e] rfl ⟨kr,trivial⟩ ?_);exact ⟨ab (bg g i nb),rfl⟩

theorem cX (af:Nat) (c:Nat) (g:dk) (b:ByteArray) (e:World) (f:aV e c 117 (cL g)) (n:Bool) (i:zyr af g b=some n):
    Cs 106 [bp c,vS b] e (G1 e [vB n]):=by
 have k:Bl e e:=Below.refl _ _;unfold zyr at i;refine aL Tryz.func106 rfl Tryz.ntmps106 kr<|bQ [(0,bp c),(1,vS b)]<|have t:=f.lt;aI<|pN 1 [4] []<|bL<|ad i ?_;intro o d i
 refine aM (J:=fun a j=>Bl e j∧Sz e j∧aV j c 117 (cL g)∧Qa a 20 [(4,vB o)]) ?_ ?_
 ·refine pL [5,6,7] 7 (bp c)<|bu 9 f 0 rfl<|pL [9,10] 10 (vB (!(g.1.toList==(bf []).toList)))<|ce 10 d (fun p d=>?_) (fun p d=>?_)
  ·refine pN 4 (rgq 11 4) [(11,vS b),(14,bp c)]<|bu 9 f 0 rfl<|ad d<|fun u q d=>siq .i64 q br<|ad d<|fun r s d=>ar kr rfl kr zrn (zxh af b u e r s) ?_;rintro x y ⟨h,rfl⟩;refine pL [4,18,19] 4 (vB (decide (r>=0)))<|aa ?_;cases d;exact gq fun a hq=>have l:=bg k h nb;⟨l,h.size,(f.grown h nb),hq⟩
  ·refine pL [4,11,12,13,14,15,16,17,18,19] 4 (vB false)<|aa ?_;obtain rfl:=sj d;exact gq fun a hq=>⟨k,bJ,f,hq⟩
 ·rintro a j ⟨m,v,w,hq⟩;refine gi hq<|ai ?_;obtain rfl:=sj i;refine au (aj [vB o] rfl ⟨kr,trivial⟩ ?_);exact ⟨ab m,rfl⟩

theorem zwp (af:Nat) (c:ByteArray) (b:ByteArray) (e:World) (i:Bool) (f:zyK af c b=some i):
    Cs 155 [vS c,vS b] e (G1 e [vB i]):=by
 have g:Bl e e:=Below.refl _ _;unfold zyK at f;refine aL Tryz.func155 rfl Tryz.ntmps155 kr<|bQ [(0,vS c),(1,vS b)]<|aI<|pN 1 [4] []<|bL<|ad f ?_;intro j d f
 refine aM (J:=fun a h=>Bl e h∧Sz e h∧Qa a 18 [(4,vB j)]) ?_ ?_
 ·refine pL (rgq 5 6) 10 (vB (decide ((bz c)>=(bz b))))<|ce 10 d (fun k d=>?_) (fun k d=>?_)
  ·refine pN 3 [11,12,13] [(11,vS c),(13,vI (bz b))]<|ad d<|fun l m d=>zsI (t:=9) (s:=c) (lo:=none) (hi:=(some (vI (bz b)))) 0 (bz b) l [] nofun rfl rfl rfl kr kr br (.inl ⟨rfl,rfl⟩) (.inr ⟨_,rfl⟩) m rfl<|pL [4,15,16,17] 4 (vB (l.toList==b.toList))<|aa ?_;cases d;exact gq fun a hq=>⟨g,bJ,hq⟩
  ·refine pL [4,11,12,13,14,15,16,17] 4 (vB false)<|aa ?_;obtain rfl:=sj d;exact gq fun a hq=>⟨g,bJ,hq⟩
 ·rintro a h ⟨n,o,hq⟩;refine gi hq<|ai ?_;obtain rfl:=sj f;refine au (aj [vB j] rfl ⟨kr,trivial⟩ ?_);exact ⟨ab n,rfl⟩

theorem zwl (af:Nat) (b:ByteArray) (a:ByteArray) (d:World) (f:ByteArray × Bool) (c:zyH af b a=some f):
    Cs 129 [vS b,vS a] d (G1 d [vS f.1,vB f.2]):=by
 have h:Bl d d:=Below.refl _ _;unfold zyH at c;refine aL Tryz.func129 rfl Tryz.ntmps129 kr<|bQ [(0,vS b),(1,vS a)]<|aI<|pN 2 [4,5] []<|cg<|aI<|pN 2 [6,7] [(6,vS b),(7,vS a)]<|ad c<|fun i j c=>ar kr rfl kr zoJ (zwp af b a d i j) ?_;rintro n o ⟨k,rfl⟩;refine p1 9 (vB (!i))<|aa<|have e:=bg h k nb;bC c (fun l c=>?_) (fun l c=>?_)
 ·refine aI<|pN 3 [4,5,10] [(4,vS b),(5,vB false)]<|aa<|ai ?_
  cases c;refine au (aj [vS b,vB false] rfl ⟨kr,kr,trivial⟩ ?_);exact ⟨ab e,rfl⟩
 ·refine ay<|aI<|pN 3 [11,12,13] [(11,vS b),(13,vI (bz a))]<|ad c<|fun g m c=>zsI (t:=9) (s:=b) (lo:=(some (vI (bz a)))) (hi:=none) (bz a) (bz b) g [] nofun rfl rfl rfl kr kr br (.inr ⟨_,rfl⟩) (.inl ⟨rfl,rfl⟩) m rfl<|pN 2 [4,5] [(4,vS g),(5,vB true)]<|aa<|ai ?_
  cases c;refine au (aj [vS g,vB true] rfl ⟨kr,kr,trivial⟩ ?_);exact ⟨ab e,rfl⟩

theorem zvd (af:Nat) (b:ByteArray) (a:ByteArray) (c:World) (f:ByteArray × Bool) (e:zxu af b a=some f):
    Cs 108 [vS b,vS a] c (G1 c [vS f.1,vB f.2]):=by
 have g:Bl c c:=Below.refl _ _;unfold zxu at e;refine aL Tryz.func108 rfl Tryz.ntmps108 kr<|bQ [(0,vS b),(1,vS a)]<|aI<|pN 2 [4,5] []<|bL<|pN 2 [6,7] [(6,vS b),(7,vS a)]<|ad e<|fun d h e=>ar kr rfl kr zo6 (zwl af b a c d h) ?_;rintro j k ⟨i,rfl⟩;refine pN 4 [4,5,9,10] [(4,vS d.1),(5,vB d.2)]<|aa<|ai ?_
 obtain rfl:=sj e;refine au (aj [vS d.1,vB d.2] rfl ⟨kr,kr,trivial⟩ ?_);exact ⟨ab (bg g i nb),rfl⟩

theorem aY (af:Nat) (a:Nat) (b:dk) (c:ByteArray) (e:World) (f:aV e a 117 (cL b)) (i:Bool × dk) (g:zzs af b c=some i):
    Cs 84 [bp a,vS c] e (dH fun v w'=>e.grownBy w' (some a)∧v=dD [vB i.1]∧aV w' a 117 (cL i.2)):=by
 have j:e.grownBy e (some a):=cq _ _;unfold zzs at g;refine aL Tryz.func84 rfl Tryz.ntmps84 kr<|bQ [(0,bp a),(1,vS c)]<|have n:=f.lt;aI<|pN 1 [4] []<|bL<|pL [8,9,10] 10 (bp a)<|bu 9 f 0 rfl<|p1 12 (vS c)<|ad g<|fun d k g=>ar kr rfl kr zoN (zvd af b.1 c e d k) ?_;rintro p q ⟨h,rfl⟩;refine pN 5 [5,6,7,14,15] [(5,vS d.1),(6,vB d.2)]<|bL<|pN 4 (rgq 16 4) [(17,vS d.1),(19,bp a)]<|aH 9 0 (vS d.1) #[vS d.1,vI b.2.1,vI b.2.2.1,vB b.2.2.2.1,vB b.2.2.2.2] (f.grown h nb) kr kr kr<|fun r l m o=>bL<|pL [4,20] 4 (vB d.2)<|aa<|ai ?_
 cases g;refine au (aj [vB d.2] rfl ⟨kr,trivial⟩ ?_);exact ⟨(ao (ao j h nb) l bW),rfl,m⟩

theorem cp (af:Nat) (c:Nat) (e:dk) (am:bh) (aC:Nat) (a:bh) (b:Nat) (d:cn) (f:World) (h:Nat->Prop) (l:∀ k,h k->k<f.heap.size∧k≠c) (m:aV f c 117 (cL e)) (aS:Rd bK f h am aC d.2.2.2.2.2.1) (r:Rd pcE f h a b d.2.2.2.2.2.2) (s:cn × dk) (H:zzF af e d=some s):
    Cs 85 [bp c,.agg (bj d am aC a b)] f (dH fun v w'=>f.grownBy w' (some c)∧∃ (ba:bh) (bv:Nat),∃ (n:Nat->Prop),∃ (o:bh) (p:Nat),∃ (q:Nat->Prop),v=dD [.agg (bj s.1 ba bv o p)]∧Rd bK w' n ba bv s.1.2.2.2.2.2.1∧(Sxb n w' h f)∧Rd pcE w' q o p s.1.2.2.2.2.2.2∧(Sxb q w' h f)∧aV w' c 117 (cL s.2)):=by
 have A:f.grownBy f (some c):=cq _ _;unfold zzF at H;refine aL Tryz.func85 rfl Tryz.ntmps85 kr<|bQ [(0,bp c),(1,.agg (bj d am aC a b))]<|have K:=m.lt;aI<|aD bp (bj d am aC a b) 25 kr kr ?_
 intro L R t I C P;refine aD bp dJ 25 kr kr<|fun D S B E i M=>bL<|pN 3 [5,6,7] [(5,bp c),(7,pt c 1)] ?_
 have u:=(al t B);have w:=m.grown u nb;refine bu 3 w 1 rfl<|pN 3 [9,10,11] [(9,vI (wI (e.2.1+1))),(11,pt c 1)]<|aH 3 1 (vI (wI (e.2.1+1))) #[vS e.1,vI (wI (e.2.1+1)),vI e.2.2.1,vB e.2.2.2.1,vB e.2.2.2.2] w kr kr kr<|fun Q j F N=>bL<|cH 25 L (bj d am aC a b) (bD ((I.grown B nb).grown j (aB (dL C m))))<|have x:=m.grown t nb;aH 25 0 (.agg (bj d am aC a b)) (bj d am aC a b) (E.grown j (aB (dL i x))) kr kr kr<|fun J y G O=>aa<|ai ?_
 cases H;refine au (aj [.agg (bj d am aC a b)] rfl ⟨⟨⟨D,0,none⟩,kr,run_loadVar_row J D _ 25 _ _ _ G cd rfl kr⟩,trivial⟩ ?_);have z:f.heap.size<=D:=cM i (ao A t nb).size;have g:=ao (ao (ao A u nb) j bW) y (dp z);exact ⟨g,am,aC,h,a,b,h,rfl,rg aS g l,(fun k hk=>⟨(dl l g.size) k hk,(fun k (hk:h k)=>Or.inl hk) k hk⟩),rg r g l,(fun k hk=>⟨(dl l g.size) k hk,(fun k (hk:h k)=>Or.inl hk) k hk⟩),(F.grown y (aB (apH i x)))⟩

theorem zwF (af:Nat) (b:Nat) (d:dk) (c:World) (i:aV c b 117 (cL d)) (e:Int × Int × Bool × dk) (a:zy2 af d=some e):
    Cs 128 [bp b] c (dH fun v w'=>c.grownBy w' (some b)∧v=dD [vI e.1,vI e.2.1,vB e.2.2.1]∧aV w' b 117 (cL e.2.2.2)):=by
 have x:c.grownBy c (some b):=cq _ _;unfold zy2 at a;refine aL Tryz.func128 rfl Tryz.ntmps128 kr<|bQ [(0,bp b)]<|have F:=i.lt;aI<|pN 3 [2,3,4] []<|cg<|aG<|aI<|p1 6 (bp b)<|ad a<|fun k y a=>ar kr rfl kr cj (aY af b d (bf [42]) c i k y) ?_;rintro L G ⟨z,rfl,A⟩;refine p1 5 (vB k.1)<|aa<|bC a (fun B a=>?_) (fun B a=>?_)
 ·cases a
 ·refine aI<|p1 9 (bp b)<|ad a<|fun l C a=>ar kr rfl kr cj (aY af b k.2 (bf [43]) G A l C) ?_;rintro H D ⟨m,rfl,n⟩;refine p1 8 (vB l.1)<|aa<|bC a (fun o a=>?_) (fun o a=>?_)
  ·cases a
  ·refine aI<|p1 12 (bp b)<|ad a<|fun f p a=>ar kr rfl kr cj (aY af b l.2 (bf [63]) D n f p) ?_;rintro I E ⟨q,rfl,g⟩;refine p1 11 (vB f.1)<|aa<|have h:=ao (ao (ao x z bW) m bW) q bW;bC a (fun r a=>?_) (fun r a=>?_)
   ·refine aI<|pN 3 [2,3,4] [(2,vI 0),(3,vI 1),(4,vB true)]<|aa<|ai ?_
    cases a;refine au (aj [vI 0,vI 1,vB true] rfl ⟨kr,kr,kr,trivial⟩ ?_);exact ⟨h,rfl,g⟩
   ·refine aI<|p1 15 (bp b)<|ad a<|fun j s a=>ar kr rfl kr cj (aY af b f.2 (bf [123]) E g j s) ?_;rintro J K ⟨t,rfl,u⟩;refine pL [14,17] 14 (vB (!j.1))<|aa<|bC a (fun w a=>?_) (fun w a=>?_)
    ·refine aI<|pN 3 [2,3,4] [(2,vI 0),(3,vI 0),(4,vB false)]<|bQ [(2,vI 0),(3,vI 0),(4,vB false)]<|aa<|ai ?_
     cases a;refine au (aj [vI 0,vI 0,vB false] rfl ⟨kr,kr,kr,trivial⟩ ?_);exact ⟨(ao h t bW),rfl,u⟩
    ·cases a

theorem zvf (af:Nat) (a:Nat) (b:dk) (d:World) (i:Nat->Prop) (g:∀ k,i k->k<d.heap.size∧k≠a) (h:aV d a 117 (cL b)) (q:Rd bE d i (ro 0) 256 co) (r:Rd (prE (iE .u8) (iE .u8)) d i (ro 1) 16 cJ) (m:Int × dk) (c:zxs af b=some m):
    Cs 153 [bp a] d (dH fun v w'=>d.grownBy w' (some a)∧v=dD [vI m.1]∧aV w' a 117 (cL m.2)):=by
 have f:d.grownBy d (some a):=cq _ _;unfold zxs at c;refine aL Tryz.func153 rfl Tryz.ntmps153 kr<|bQ [(0,bp a)]<|have y:=h.lt;aI<|pN 1 [2] []<|bL<|pL [6,7,8] 8 (bp a)<|bu 9 h 0 rfl<|ad c<|fun e u c=>ar kr rfl kr zoo (zxD af b.1 d i (dl g f.size) (rg q f g) (rg r f g) e u) ?_;rintro B C ⟨j,rfl⟩;refine pN 5 [3,4,5,11,12] [(3,vR e.1),(4,vI e.2)]<|cg<|aI<|pL [13,14] 14 (vB (e.2==0))<|aa<|bC c (fun w c=>?_) (fun w c=>?_)
 ·cases c
 ·refine ay<|aI<|pN 4 (rgq 17 4) [(17,bp a),(20,bp a)] ?_
  have l:=h.grown j nb;refine bu 9 l 0 rfl<|p1 22 (vI e.2)<|ad c<|fun n x c=>zsI (t:=9) (s:=b.1) (lo:=(some (vI e.2))) (hi:=none) e.2 (bz b.1) n [] nofun rfl rfl rfl kr kr br (.inr ⟨_,rfl⟩) (.inl ⟨rfl,rfl⟩) x rfl<|pL [24,25] 25 (bp a)<|aH 9 0 (vS n) #[vS n,vI b.2.1,vI b.2.2.1,vB b.2.2.2.1,vB b.2.2.2.2] l kr kr kr<|fun A o p z=>bL<|pL [2,26,27] 2 (vI (wI (e.1)))<|aa<|ai ?_
  cases c;refine au (aj [vI (wI (e.1))] rfl ⟨kr,trivial⟩ ?_);exact ⟨(ao (ao f j nb) o bW),rfl,p⟩

abbrev zlu (af:Nat):Prop:=∀ (a:Nat) (i:dk) (b:World) (g:Nat->Prop) (j:∀ k,g k->k<b.heap.size∧k≠a) (l:aV b a 117 (cL i)) (m:Rd bE b g (ro 0) 256 co) (n:Rd (prE (iE .u8) (iE .u8)) b g (ro 1) 16 cJ) (h:cn × dk),zzU af i=some h->Calls ap 56 ([bp a]:List Value).toArray b (dH fun v w'=>b.grownBy w' (some a)∧∃ (ba:bh) (bv:Nat),∃ (c:Nat->Prop),∃ (d:bh) (e:Nat),∃ (f:Nat->Prop),v=dD [.agg (bj h.1 ba bv d e)]∧Rd bK w' c ba bv h.1.2.2.2.2.2.1∧(Sxb c w' g b)∧Rd pcE w' f d e h.1.2.2.2.2.2.2∧(Sxb f w' g b)∧aV w' a 117 (cL h.2))
abbrev zkX (af:Nat):Prop:=∀ (a:Nat) (i:dk) (b:World) (g:Nat->Prop) (j:∀ k,g k->k<b.heap.size∧k≠a) (l:aV b a 117 (cL i)) (m:Rd bE b g (ro 0) 256 co) (n:Rd (prE (iE .u8) (iE .u8)) b g (ro 1) 16 cJ) (h:cn × dk),zzM af i=some h->Calls ap 83 ([bp a]:List Value).toArray b (dH fun v w'=>b.grownBy w' (some a)∧∃ (ba:bh) (bv:Nat),∃ (c:Nat->Prop),∃ (d:bh) (e:Nat),∃ (f:Nat->Prop),v=dD [.agg (bj h.1 ba bv d e)]∧Rd bK w' c ba bv h.1.2.2.2.2.2.1∧(Sxb c w' g b)∧Rd pcE w' f d e h.1.2.2.2.2.2.2∧(Sxb f w' g b)∧aV w' a 117 (cL h.2))
abbrev zqM (af:Nat):Prop:=∀ (a:Nat) (i:dk) (b:World) (g:Nat->Prop) (j:∀ k,g k->k<b.heap.size∧k≠a) (l:aV b a 117 (cL i)) (m:Rd bE b g (ro 0) 256 co) (n:Rd (prE (iE .u8) (iE .u8)) b g (ro 1) 16 cJ) (h:cn × dk),zz2 af i=some h->Calls ap 107 ([bp a]:List Value).toArray b (dH fun v w'=>b.grownBy w' (some a)∧∃ (ba:bh) (bv:Nat),∃ (c:Nat->Prop),∃ (d:bh) (e:Nat),∃ (f:Nat->Prop),v=dD [.agg (bj h.1 ba bv d e)]∧Rd bK w' c ba bv h.1.2.2.2.2.2.1∧(Sxb c w' g b)∧Rd pcE w' f d e h.1.2.2.2.2.2.2∧(Sxb f w' g b)∧aV w' a 117 (cL h.2))
abbrev zql (af:Nat):Prop:=∀ (a:Nat) (i:dk) (b:World) (g:Nat->Prop) (j:∀ k,g k->k<b.heap.size∧k≠a) (l:aV b a 117 (cL i)) (m:Rd bE b g (ro 0) 256 co) (n:Rd (prE (iE .u8) (iE .u8)) b g (ro 1) 16 cJ) (h:cn × dk),zyc af i=some h->Calls ap 127 ([bp a]:List Value).toArray b (dH fun v w'=>b.grownBy w' (some a)∧∃ (ba:bh) (bv:Nat),∃ (c:Nat->Prop),∃ (d:bh) (e:Nat),∃ (f:Nat->Prop),v=dD [.agg (bj h.1 ba bv d e)]∧Rd bK w' c ba bv h.1.2.2.2.2.2.1∧(Sxb c w' g b)∧Rd pcE w' f d e h.1.2.2.2.2.2.2∧(Sxb f w' g b)∧aV w' a 117 (cL h.2))
abbrev zqp (af:Nat):Prop:=∀ (b:Nat) (m:dk) (am:bh) (aC:Nat) (d:bh) (e:Nat) (f:cn) (a:World) (c:Nat->Prop) (o:∀ k,c k->k<a.heap.size∧k≠b) (p:aV a b 117 (cL m)) (aS:Rd bK a c am aC f.2.2.2.2.2.1) (n:Rd pcE a c d e f.2.2.2.2.2.2) (q:Rd bE a c (ro 0) 256 co) (r:Rd (prE (iE .u8) (iE .u8)) a c (ro 1) 16 cJ) (l:cn × dk),zyy af m f=some l->Calls ap 150 ([bp b,.agg (bj f am aC d e)]:List Value).toArray a (dH fun v w'=>a.grownBy w' (some b)∧∃ (ba:bh) (bv:Nat),∃ (g:Nat->Prop),∃ (h:bh) (i:Nat),∃ (j:Nat->Prop),v=dD [.agg (bj l.1 ba bv h i)]∧Rd bK w' g ba bv l.1.2.2.2.2.2.1∧(Sxb g w' c a)∧Rd pcE w' j h i l.1.2.2.2.2.2.2∧(Sxb j w' c a)∧aV w' b 117 (cL l.2))
set_option maxHeartbeats 4000000 in
set_option maxRecDepth 100000 in
theorem zxi (af:Nat) (R:zlu af) (c:zkX af) (a6:zqM af) (b2:zql af) (bs:zqp af):zlu (af+1):=by
 intro j fC u v l d2 e4 e5 r0 M;have e6:u.grownBy u (some j):=cq _ _;rw[zzU.eq_2]at M;refine aL Tryz.func56 rfl Tryz.ntmps56 kr<|bQ [(0,bp j)]<|have B:=d2.lt;aI<|aD bp dJ 25 kr kr ?_
 intro w w2 e7 em dQ f2;refine bL<|p1 4 (bp j)<|ad M<|fun r7 fD M=>have bA:=ao e6 e7 nb;ar kr rfl kr zpi (c j fC w2 v (jg l bA) (d2.grown e7 nb) (rg e4 bA l) (rg e5 bA l) r7 fD) ?_;rintro f3 en ⟨eo,e8,e9,dO,fa,fb,dP,rfl,fi,dR,fj,dS,dT⟩;have dU:∀ k,dO k->k<en.heap.size:=fun k hk=>(dR k hk).1;have ep:∀ k,dO k->v k∨u.heap.size<=k:=fun k hk=>(dR k hk).2.elim (fun h=>(fun k (hk:v k)=>Or.inl hk) k h) (fun h=>.inr (Nat.le_trans bA.size h));have dV:∀ k,dP k->k<en.heap.size:=fun k hk=>(dS k hk).1;have eq:∀ k,dP k->v k∨u.heap.size<=k:=fun k hk=>(dS k hk).2.elim (fun h=>(fun k (hk:v k)=>Or.inl hk) k h) (fun h=>.inr (Nat.le_trans bA.size h));refine aD (fun b=>.slice (ro b) 1 1) (bj r7.1 e8 e9 fa fb) 25 kr kr ?_;intro bE d3 S fk s fW;obtain ⟨b0,e⟩:∃ X:Nat->Prop,X=(fun k=>dO k∨dP k):=⟨_,rfl⟩;have er:∀ k,b0 k->k<en.heap.size:=fun k h=>by rw[e]at h;exact (h).elim (fun h=>dU k h) (fun h=>dV k h)
 have fl:∀ k,b0 k->k<d3.heap.size:=fun k h=>cy (er k h) S.size;have fm:∀ k,b0 k->v k∨u.heap.size<=k:=fun k h=>by rw[e]at h;exact (h).elim (fun h=>ep k h) (fun h=>eq k h)
 have fn:ag pcE 25 d3 b0 (ro bE) 1 ([Pc.of r7.1]:List Pc):=bF fk (by rw[e];exact ⟨[vI r7.1.1,vI r7.1.2.1,vI r7.1.2.2.1,vB r7.1.2.2.2.1,vB r7.1.2.2.2.2.1,vL e8 r7.1.2.2.2.2.2.1 e9,vL fa r7.1.2.2.2.2.2.2 fb],[],rfl,zv8 ((fi.grown S dU nb).wide (fun _ h=>(.inl h))) ((fj.grown S dV nb).wide (fun _ h=>(.inr h))),rfl⟩) (show 1<=maxLen by decide) (fun h=>dy s (er _ h));have es:∀ k,b0 k->(fun k=>dO k∨dP k) k:=fun k h=>by rw[e]at h;exact h
 clear e;have et:=ao bA eo bW;have fo:Lo u (ro bE):=dw s et.size;have fX:=apD s dT;have fY:=apG (p:=j) s dT (fun h=>(es _ h).elim (xq ep l B) (xq eq l B));have b3:=dL dQ d2;have dW:=em.grown eo (aB b3);have E:u.heap.size<=w:=cM dQ e6.size;have fZ:Naq (ro bE) dO:=fun g e hx=>nl (bV s g e) (dU _ hx);have f0:Naq (ro bE) dP:=fun g e hx=>nl (bV s g e) (dV _ hx);refine p1 3 (vL (ro bE) ([Pc.of r7.1]:List Pc) 1)<|cg<|ad M ?_;intro U h1 M
 refine aA (J:=fun a I=>∃ (m:bh) (N:Nat),∃ (o:Nat->Prop),u.grownBy I (some j)∧Sz d3 I∧ag pcE 25 I o m N U.1∧(Lo u m)∧(∀ k,o k->k<I.heap.size)∧(∀ k,o k->v k∨u.heap.size<=k)∧(Naq m (· =w))∧¬ (fun k=>aJ m=some k∨o k) w∧aV I j 117 (cL U.2)∧aV I w 25 dJ∧Qa a 24 [(0,bp j),(2,bp w),(3,vL m U.1 N)]) ?_ ?_
 ·refine aG<|bN (A:=fun (V:(List Pc) × dk) a W=>∃ (m:bh) (N:Nat),∃ (o:Nat->Prop),u.grownBy W (some j)∧Sz d3 W∧ag pcE 25 W o m N V.1∧(Lo u m)∧(∀ k,o k->k<W.heap.size)∧(∀ k,o k->v k∨u.heap.size<=k)∧(Naq m (· =w))∧¬ (fun k=>aJ m=some k∨o k) w∧aV W j 117 (cL V.2)∧aV W w 25 dJ∧Qa a 24 [(0,bp j),(2,bp w),(3,vL m V.1 N)]) h1 ?_ ?_
  ·intro a hd hs bk;exact ⟨(ro bE),1,b0,(ao et S nb),bJ,fn,fo,fl,fm,(apD s dW),(apG (p:=w) s dW (fun h=>(es _ h).elim (apE dR (xlo E l) em.lt) (apE dS (xlo E l) em.lt))),(dT.grown S nb),(dW.grown S nb),hd,hs,dx bk⟩
  ·rintro V r2 h2 fE a W ⟨q,d4,Z,fq,eu,fr,C,ev,b4,dX,dY,fs,ft,hq⟩;refine gi hq<|aE<|aI<|p1 7 (bp j)<|ad h2<|fun fc fu h2=>ar kr rfl kr cj (aY af j V.2 (bf [124]) W fs fc fu) ?_;rintro f4 fF ⟨T,rfl,ew⟩;refine aa<|have K:=ao fq T bW;have b5:=fr.grown T ev (db (aB (xq (fun k (hk:aJ q=some k∨Z k)=>hk.elim (fun h=>Or.inr (C k h)) (fun h=>b4 k h)) l B)));have dZ:=aW ev T.size;have b7:=ft.grown T (aB b3);bC h2 (fun fv h2=>?_) (fun fv h2=>?_)
   ·refine ay<|aG<|az<|pN 2 [9,10] [(9,vL q V.1 d4),(10,bp j)]<|ad h2<|fun z fw h2=>ar kr rfl kr zpi (c j fc.2 fF v (jg l K) ew (rg e4 K l) (rg e5 K l) z fw) ?_;rintro f5 ex ⟨a9,fd,ff,bd,fg,fh,L,rfl,fx,ca,fy,ah,cb⟩;have an:∀ k,bd k->k<ex.heap.size:=fun k hk=>(ca k hk).1;have d5:∀ k,bd k->v k∨u.heap.size<=k:=fun k hk=>(ca k hk).2.elim (fun h=>(fun k (hk:v k)=>Or.inl hk) k h) (fun h=>.inr (Nat.le_trans K.size h));have a0:∀ k,L k->k<ex.heap.size:=fun k hk=>(ah k hk).1;have d6:∀ k,L k->v k∨u.heap.size<=k:=fun k hk=>(ah k hk).2.elim (fun h=>(fun k (hk:v k)=>Or.inl hk) k h) (fun h=>.inr (Nat.le_trans K.size h));refine aD (fun b=>.slice (ro b) 1 1) (bj z.1 fd ff fg fh) 25 kr kr ?_;intro d cc n eA f fH;obtain ⟨i,e⟩:∃ X:Nat->Prop,X=(fun k=>bd k∨L k):=⟨_,rfl⟩;have d7:∀ k,i k->k<ex.heap.size:=fun k h=>by rw[e]at h;exact (h).elim (fun h=>an k h) (fun h=>a0 k h)
    have d8:∀ k,i k->k<cc.heap.size:=fun k h=>cy (d7 k h) n.size;have eB:∀ k,i k->v k∨u.heap.size<=k:=fun k h=>by rw[e]at h;exact (h).elim (fun h=>d5 k h) (fun h=>d6 k h)
    have ch:ag pcE 25 cc i (ro d) 1 ([Pc.of z.1]:List Pc):=bF eA (by rw[e];exact ⟨[vI z.1.1,vI z.1.2.1,vI z.1.2.2.1,vB z.1.2.2.2.1,vB z.1.2.2.2.2.1,vL fd z.1.2.2.2.2.2.1 ff,vL fg z.1.2.2.2.2.2.2 fh],[],rfl,zv8 ((fx.grown n an nb).wide (fun _ h=>(.inl h))) ((fy.grown n a0 nb).wide (fun _ h=>(.inr h))),rfl⟩) (show 1<=maxLen by decide) (fun h=>dy f (d7 _ h));have ck:∀ k,i k->(fun k=>bd k∨L k) k:=fun k h=>by rw[e]at h;exact h
    clear e;have d9:=ao K a9 bW;have eC:Lo u (ro d):=dw f d9.size;have cs:=b5.grown a9 dZ (db (aB (xq (fun k (hk:aJ q=some k∨Z k)=>hk.elim (fun h=>Or.inr (C k h)) (fun h=>b4 k h)) l B)));have a1:=aW dZ a9.size;have fI:Naq (ro d) (fun k=>aJ q=some k∨Z k):=fun g e hx=>nl (bV f g e) ((fun k (hk:aJ q=some k∨Z k)=>hk.elim (fun h=>cs.lt k h) (fun h=>a1 k h)) _ hx);have ea:Naq q bd:=fun g e h=>((ca _ h).2.elim (fun h=>((fun g (e:aJ q=some g) (hx:v g)=>nl (C g e) (l _ hx).1)) g e h) (fun h=>nl h (b5.lt g e)));have eb:Naq q L:=fun g e h=>((ah _ h).2.elim (fun h=>((fun g (e:aJ q=some g) (hx:v g)=>nl (C g e) (l _ hx).1)) g e h) (fun h=>nl h (b5.lt g e)));have ec:Naq q (fun k=>aJ (ro d)=some k∨i k):=fun g e h=>h.elim (fun h=>nl (bV f _ h) ((fun k (hk:aJ q=some k∨Z k)=>hk.elim (fun h=>cs.lt k h) (fun h=>a1 k h)) g (.inl e))) (fun h=>((ck _ h)).elim (fun h=>(ea) g e h) (fun h=>(eb) g e h));have fJ:=apD f cb;have fK:=apG (p:=j) f cb (fun h=>(ck _ h).elim (xq d5 l B) (xq d6 l B));have cv:=b7.grown a9 (aB b3);have fL:=apD f cv;have fM:Naq (ro d) bd:=fun g e hx=>nl (bV f g e) (an _ hx);have fN:Naq (ro d) L:=fun g e hx=>nl (bV f g e) (a0 _ hx);refine ad h2 ?_;intro d0 eD h2;obtain ⟨x,e⟩:∃ X:Nat->Prop,X=fun k=>Z k∨(fun k=>aJ (ro d)=some k∨i k) k:=⟨_,rfl⟩;have ed:∀ k,x k->k<cc.heap.size:=fun k hk=>by rw[e]at hk;exact hk.elim (fun h=>(aW a1 n.size) k h) (fun h=>(fun k (hk:aJ (ro d)=some k∨i k)=>hk.elim (fun h=>ch.lt k h) (fun h=>d8 k h)) k h)
    have eE:∀ k,x k->v k∨u.heap.size<=k:=fun k hk=>by rw[e]at hk;exact hk.elim (fun h=>b4 k h) (fun h=>(fun k (hk:aJ (ro d)=some k∨i k)=>hk.elim (fun h=>Or.inr (eC k h)) (fun h=>eB k h)) k h)
    have ee:=cs.grown n a1 nb;have eF:ag pcE 25 cc x q d4 V.1:=(ee).wide (fun k hk=>by rw[e];exact .inl hk) (fun g e1 hk=>by rw[e]at hk;exact hk.elim (fun h=>(ee).out g e1 h) (fun h=>ec g e1 h));have eG:∀ k,(fun k=>aJ (ro d)=some k∨i k) k->x k:=fun k hk=>by rw[e];exact .inr hk
    have eH:∀ k,x k->Z k∨(fun k=>aJ (ro d)=some k∨i k) k:=fun k hk=>by rw[e]at hk;exact hk
    clear e;refine bU pcE (t:=23) (ty:=23) (e:=25) (a:=q) (ax:=(ro d)) (cap:=d4) (cx:=1) (xs:=V.1) (ys:=([Pc.of z.1]:List Pc)) d0 (X:=x) (Y:=(fun k=>aJ (ro d)=some k∨i k)) ci rfl rfl kr kr aT zop eF (ch.rd (Y:=fun k=>aJ (ro d)=some k∨i k) (fun _ h=>.inr h) (fun g e=>.inl e)) eD (.inl eG) ed<|fun D ey fz O eI F=>⟨nofun,?_⟩;have ef:=ao d9 n nb;have eJ:Lo u D:=bZ F C ef.size;have eK:∀ k,x k->k<fz.heap.size:=fun k hk=>cy (ed k hk) O.size;have cw:=cv.grown n nb;have eL:Naq D (· =w):=aQ F dX (cm cw);have eM:¬ (fun k=>aJ D=some k∨x k) w:=fun h=>h.elim (fun h=>bb F (fun h=>(dY) (.inl h)) (cw.lt) h) (fun h=>(eH _ h).elim (fun h=>(dY) (.inr h)) (fun h=>((apG (p:=w) f cv (fun h=>(ck _ h).elim (apE ca (xlo E l) b7.lt) (apE ah (xlo E l) b7.lt)))) h));have fO:Naq D bd:=aQ F ea (aW an n.size);have fP:Naq D L:=aQ F eb (aW a0 n.size);have fQ:Naq D (fun k=>aJ (ro d)=some k∨i k):=aQ F ec (fun k (hk:aJ (ro d)=some k∨i k)=>hk.elim (fun h=>ch.lt k h) (fun h=>d8 k h));refine p1 3 (vL D d0 ey)<|aa<|bB ?_
    cases h2;exact gq fun a hq=>have eN:=ao ef O (fun g e=>.inr (C g e));⟨(d0,z.2),rfl,D,ey,x,eN,(nt (nt (nt (nt eu T.size) a9.size) n.size) O.size),eI,eJ,eK,eE,eL,eM,((cb.grown n nb).grown O (fun g (e:aJ q=some g) (h:g=j)=>negt B (C g e) h)),(cw.grown O dX),hq⟩
   ·refine bm<|bG rfl ?_
    cases h2;replace h1:=congrArg some (fE _ rfl);cases h1;exact gq fun a hq=>have eO:=(nt eu T.size);⟨q,d4,Z,K,eO,b5,C,dZ,b4,dX,dY,ew,b7,hq⟩
 ·rintro a I ⟨r,d1,y,a2,fR,a3,c0,P,Q,fS,a4,eg,a5,hq⟩;refine gi hq<|aE<|aI<|pL [14,15,16] 16 (vB ((lz U.1)==1))<|aa<|have eh:=apH dQ d2;bC M (fun eP M=>?_) (fun eP M=>?_)
  ·refine aI<|p1 17 (vL r U.1 d1)<|ad M<|fun c1 ei M=>cz .i64 7 (a3.rd (Y:=fun k=>aJ r=some k∨y k) (fun _ h=>.inr h) (fun g e=>.inl e)) ei aT ?_;obtain ⟨_,⟨_,_,rfl,rfl,⟨_,_,rfl,rfl,⟨_,_,rfl,rfl,⟨_,_,rfl,rfl,⟨_,_,rfl,rfl,⟨_,_,rfl,⟨be,bg,rfl,eQ⟩,⟨bl,bn,rfl,eR⟩⟩⟩⟩⟩⟩⟩,eS⟩:=zzS (a3.cellsK ei);refine laq 25 (aq r ((0:Int).toNat*7)) (dm (Pc.un c1) be bg bl bn) (bD (eS I (fun _ _=>rfl)))<|aH 25 0 (.agg (dm (Pc.un c1) be bg bl bn)) (dm (Pc.un c1) be bg bl bn) a5 kr kr kr<|fun fA G eT fT=>aa<|ai ?_
   cases M;refine au (aj [.agg (dm (Pc.un c1) be bg bl bn)] rfl ⟨⟨⟨w,0,none⟩,kr,run_loadVar_row fA w _ 25 _ _ _ eT cd rfl kr⟩,trivial⟩ ?_);exact ⟨(ao a2 G (dp E)),be,bg,y,bl,bn,y,rfl,(eQ.grown G P (aB (fun h=>a4 (.inr h)))),sxq (aW P G.size) Q,(eR.grown G P (aB (fun h=>a4 (.inr h)))),sxq (aW P G.size) Q,(eg.grown G (aB eh))⟩
  ·refine ay<|aI<|pN 3 [20,21,22] [(20,bp j),(22,.agg #[vI 9,vI 0,vI 0,vB false,vB false,vL none ([]:List aU) 0,vL r U.1 d1])]<|ad M<|fun c2 eU M=>ar kr rfl kr zvk (cp af j U.2 none 0 r d1 (9,0,0,false,false,([]:List aU),U.1) I (fun k=>nXq k∨(fun k=>aJ r=some k∨y k) k) (fun k hk=>⟨(hk).elim (fun h=>h.elim) (fun h=>(fun k (hk:aJ r=some k∨y k)=>hk.elim (fun h=>a3.lt k h) (fun h=>P k h)) k h),fun e=>(hk).elim (fun h=>((h:False).elim)) (fun h=>(xq (fun k (hk:aJ r=some k∨y k)=>hk.elim (fun h=>Or.inr (c0 k h)) (fun h=>Q k h)) l B) (e ▸ h))⟩) eg ((cN bK I nXq none 0).wide (fun k hk=>(.inl hk))) ((a3.rd (Y:=fun k=>aJ r=some k∨y k) (fun _ h=>.inr h) (fun g e=>.inl e)).wide (fun k hk=>(.inr hk))) c2 eU) ?_;rintro f1 ez ⟨ej,c3,c4,c5,c7,c8,c9,rfl,eV,ds,eW,dN,eX⟩;have ek:∀ k,c5 k->k<ez.heap.size:=fun k hk=>(ds k hk).1;have eY:∀ k,c5 k->v k∨u.heap.size<=k:=fun k hk=>(ds k hk).2.elim (fun h=>(h).elim (fun h=>h.elim) (fun h=>(fun k (hk:aJ r=some k∨y k)=>hk.elim (fun h=>Or.inr (c0 k h)) (fun h=>Q k h)) k h)) (fun h=>.inr (Nat.le_trans a2.size h));have el:∀ k,c9 k->k<ez.heap.size:=fun k hk=>(dN k hk).1;have eZ:∀ k,c9 k->v k∨u.heap.size<=k:=fun k hk=>(dN k hk).2.elim (fun h=>(h).elim (fun h=>h.elim) (fun h=>(fun k (hk:aJ r=some k∨y k)=>hk.elim (fun h=>Or.inr (c0 k h)) (fun h=>Q k h)) k h)) (fun h=>.inr (Nat.le_trans a2.size h));refine aH 25 0 (.agg (bj c2.1 c3 c4 c7 c8)) (bj c2.1 c3 c4 c7 c8) (a5.grown ej (aB b3)) kr kr kr<|fun fB H e0 fU=>aa<|ai ?_
   obtain rfl:=sj M;refine au (aj [.agg (bj c2.1 c3 c4 c7 c8)] rfl ⟨⟨⟨w,0,none⟩,kr,run_loadVar_row fB w _ 25 _ _ _ e0 cd rfl kr⟩,trivial⟩ ?_);have e2:¬ c5 w:=fun h=>((ds _ h).2.elim (fun h=>(h).elim (fun h=>by cases h) (fun h=>(a4) h)) (fun h=>nl h (a5.lt)));have e3:¬ c9 w:=fun h=>((dN _ h).2.elim (fun h=>(h).elim (fun h=>by cases h) (fun h=>(a4) h)) (fun h=>nl h (a5.lt)));exact ⟨(ao (ao a2 ej bW) H (dp E)),c3,c4,c5,c7,c8,c9,rfl,(eV.grown H ek (aB e2)),sxq (aW ek H.size) eY,(eW.grown H el (aB e3)),sxq (aW el H.size) eZ,(eX.grown H (aB eh))⟩
set_option maxHeartbeats 4000000 in
set_option maxRecDepth 100000 in
theorem zx0 (af:Nat) (O:zlu af) (V:zkX af) (n:zqM af) (bd:zql af) (a7:zqp af) (c:Nat) (eR:dk) (i:World) (y:Nat->Prop) (z:∀ k,y k->k<i.heap.size∧k≠c) (dS:aV i c 117 (cL eR)) (fh:Rd bE i y (ro 0) 256 co) (fi:Rd (prE (iE .u8) (iE .u8)) i y (ro 1) 16 cJ) (r0:cn × dk) (Q:zzM (af+1) eR=some r0):
    Cs 83 [bp c] i (dH fun v w'=>i.grownBy w' (some c)∧∃ (ba:bh) (bv:Nat),∃ (dT:Nat->Prop),∃ (dU:bh) (dV:Nat),∃ (dW:Nat->Prop),v=dD [.agg (bj r0.1 ba bv dU dV)]∧Rd bK w' dT ba bv r0.1.2.2.2.2.2.1∧(Sxb dT w' y i)∧Rd pcE w' dW dU dV r0.1.2.2.2.2.2.2∧(Sxb dW w' y i)∧aV w' c 117 (cL r0.2)):=by
 have eS:i.grownBy i (some c):=cq _ _;rw[zzM.eq_2]at Q;refine aL Tryz.func83 rfl Tryz.ntmps83 kr<|bQ [(0,bp c)]<|have W:=dS.lt;aI<|aD bp dJ 25 kr kr ?_
 intro s w2 eT fj c4 fB;refine bL<|p1 3 (vL none ([]:List Pc) 0)<|cg<|ad Q ?_;intro j7 h1 Q
 have be:i.heap.size<=s:=cM c4 eS.size;have d8:=dL c4 dS;refine aA (J:=fun a w8=>∃ (d:bh) (I:Nat),∃ (m:Nat->Prop),i.grownBy w8 (some c)∧Sz w2 w8∧ag pcE 25 w8 m d I j7.1∧(Lo i d)∧(∀ k,m k->k<w8.heap.size)∧(∀ k,m k->y k∨i.heap.size<=k)∧(Naq d (· =s))∧¬ (fun k=>aJ d=some k∨m k) s∧aV w8 c 117 (cL j7.2)∧aV w8 s 25 dJ∧Qa a 29 [(0,bp c),(2,bp s),(3,vL d j7.1 I)]) ?_ ?_
 ·refine aG<|bN (A:=fun (B:(List Pc) × dk) a K=>∃ (d:bh) (I:Nat),∃ (m:Nat->Prop),i.grownBy K (some c)∧Sz w2 K∧ag pcE 25 K m d I B.1∧(Lo i d)∧(∀ k,m k->k<K.heap.size)∧(∀ k,m k->y k∨i.heap.size<=k)∧(Naq d (· =s))∧¬ (fun k=>aJ d=some k∨m k) s∧aV K c 117 (cL B.2)∧aV K s 25 dJ∧Qa a 29 [(0,bp c),(2,bp s),(3,vL d B.1 I)]) h1 ?_ ?_
  ·intro a hd hs bk;exact ⟨none,0,nXq,(ao eS eT nb),bJ,ag.nil pcE 25 w2 nXq,nofun,fe,fe,nofun,(fun h=>h.elim nofun (fun e=>e)),(dS.grown eT nb),fj,hd,hs,dx bk⟩
  ·rintro B r2 Z fk a K ⟨j,a9,P,d9,e2,ea,G,bg,c5,c7,c8,bl,eb,hq⟩;refine gi hq<|aE<|aI<|ad Z ?_;intro ec h3 Z
   refine aM (J:=fun a ah=>i.grownBy ah (some c)∧Sz K ah∧aV ah c 117 (cL ec.2)∧aV ah s 25 dJ∧ag pcE 25 ah P j a9 B.1∧Qa a 29 [(0,bp c),(2,bp s),(3,vL j B.1 a9),(13,vB ec.1)]) ?_ ?_
   ·refine pL [4,5,6] 6 (bp c)<|bu 9 bl 0 rfl<|pL [8,9] 9 (vB (!(B.2.1.toList==(bf []).toList)))<|ce 9 h3 (fun e3 h3=>?_) (fun e3 h3=>?_)
    ·refine p1 10 (bp c)<|ad h3<|fun eU e4 h3=>ar kr rfl kr zta (cX af c B.2 (bf [124,41]) K bl eU e4) ?_;rintro fC fD ⟨an,rfl⟩;refine pL [12,13] 13 (vB (!eU))<|aa ?_;cases h3;exact gq fun a hq=>have e5:=ao d9 an nb;⟨e5,an.size,(bl.grown an nb),(eb.grown an nb),(ea.grown an bg nb),hq⟩
    ·refine pL (rgq 10 4) 13 (vB false)<|aa ?_;cases h3;exact gq fun a hq=>⟨d9,bJ,bl,eb,ea,hq⟩
   ·rintro a ah ⟨H,bn,ed,bs,bA,hq⟩;refine gi hq<|have ee:=(nt e2 bn);bC Z (fun e6 Z=>?_) (fun e6 Z=>?_)
    ·refine ay<|aG<|az<|pN 2 [14,15] [(14,vL j B.1 a9),(15,bp c)]<|ad Z<|fun x e7 Z=>ar kr rfl kr zmp (n c ec.2 ah y (jg z H) ed (rg fh H z) (rg fi H z) x e7) ?_;rintro fE ef ⟨a0,eV,eW,a1,eX,eY,a2,rfl,e8,b0,e9,b2,ds⟩;have b3:∀ k,a1 k->k<ef.heap.size:=fun k hk=>(b0 k hk).1;have eg:∀ k,a1 k->y k∨i.heap.size<=k:=fun k hk=>(b0 k hk).2.elim (fun h=>(fun k (hk:y k)=>Or.inl hk) k h) (fun h=>.inr (Nat.le_trans H.size h));have b4:∀ k,a2 k->k<ef.heap.size:=fun k hk=>(b2 k hk).1;have eh:∀ k,a2 k->y k∨i.heap.size<=k:=fun k hk=>(b2 k hk).2.elim (fun h=>(fun k (hk:y k)=>Or.inl hk) k h) (fun h=>.inr (Nat.le_trans H.size h));refine aD (fun b=>.slice (ro b) 1 1) (bj x.1 eV eW eX eY) 25 kr kr ?_;intro l dX o fa f ft;obtain ⟨q,e⟩:∃ X:Nat->Prop,X=(fun k=>a1 k∨a2 k):=⟨_,rfl⟩;have ei:∀ k,q k->k<ef.heap.size:=fun k h=>by rw[e]at h;exact (h).elim (fun h=>b3 k h) (fun h=>b4 k h)
     have ej:∀ k,q k->k<dX.heap.size:=fun k h=>cy (ei k h) o.size;have fb:∀ k,q k->y k∨i.heap.size<=k:=fun k h=>by rw[e]at h;exact (h).elim (fun h=>eg k h) (fun h=>eh k h)
     have dN:ag pcE 25 dX q (ro l) 1 ([Pc.of x.1]:List Pc):=bF fa (by rw[e];exact ⟨[vI x.1.1,vI x.1.2.1,vI x.1.2.2.1,vB x.1.2.2.2.1,vB x.1.2.2.2.2.1,vL eV x.1.2.2.2.2.2.1 eW,vL eX x.1.2.2.2.2.2.2 eY],[],rfl,zv8 ((e8.grown o b3 nb).wide (fun _ h=>(.inl h))) ((e9.grown o b4 nb).wide (fun _ h=>(.inr h))),rfl⟩) (show 1<=maxLen by decide) (fun h=>dy f (ei _ h));have dO:∀ k,q k->(fun k=>a1 k∨a2 k) k:=fun k h=>by rw[e]at h;exact h
     clear e;have ek:=ao H a0 bW;have fc:Lo i (ro l):=dw f ek.size;have fu:=apD f ds;have fv:=apG (p:=c) f ds (fun h=>(dO _ h).elim (xq eg z W) (xq eh z W));have dP:=bs.grown a0 (aB d8);have fw:=apD f dP;have dQ:=bA.grown a0 (aW bg bn) (db (aB (xq (fun k (hk:aJ j=some k∨P k)=>hk.elim (fun h=>Or.inr (G k h)) (fun h=>c5 k h)) z W)));have b5:=aW (aW bg bn) a0.size;have fx:Naq (ro l) (fun k=>aJ j=some k∨P k):=fun g e hx=>nl (bV f g e) ((fun k (hk:aJ j=some k∨P k)=>hk.elim (fun h=>dQ.lt k h) (fun h=>b5 k h)) _ hx);have el:Naq j a1:=fun g e h=>((b0 _ h).2.elim (fun h=>((fun g (e:aJ j=some g) (hx:y g)=>nl (G g e) (z _ hx).1)) g e h) (fun h=>nl h (bA.lt g e)));have em:Naq j a2:=fun g e h=>((b2 _ h).2.elim (fun h=>((fun g (e:aJ j=some g) (hx:y g)=>nl (G g e) (z _ hx).1)) g e h) (fun h=>nl h (bA.lt g e)));have en:Naq j (fun k=>aJ (ro l)=some k∨q k):=fun g e h=>h.elim (fun h=>nl (bV f _ h) ((fun k (hk:aJ j=some k∨P k)=>hk.elim (fun h=>dQ.lt k h) (fun h=>b5 k h)) g (.inl e))) (fun h=>((dO _ h)).elim (fun h=>(el) g e h) (fun h=>(em) g e h));have fy:Naq (ro l) a1:=fun g e hx=>nl (bV f g e) (b3 _ hx);have fz:Naq (ro l) a2:=fun g e hx=>nl (bV f g e) (b4 _ hx);refine ad Z ?_;intro eo er Z;obtain ⟨u,e⟩:∃ X:Nat->Prop,X=fun k=>P k∨(fun k=>aJ (ro l)=some k∨q k) k:=⟨_,rfl⟩;have dY:∀ k,u k->k<dX.heap.size:=fun k hk=>by rw[e]at hk;exact hk.elim (fun h=>(aW b5 o.size) k h) (fun h=>(fun k (hk:aJ (ro l)=some k∨q k)=>hk.elim (fun h=>dN.lt k h) (fun h=>ej k h)) k h)
     have es:∀ k,u k->y k∨i.heap.size<=k:=fun k hk=>by rw[e]at hk;exact hk.elim (fun h=>c5 k h) (fun h=>(fun k (hk:aJ (ro l)=some k∨q k)=>hk.elim (fun h=>Or.inr (fc k h)) (fun h=>fb k h)) k h)
     have dZ:=dQ.grown o b5 nb;have et:ag pcE 25 dX u j a9 B.1:=(dZ).wide (fun k hk=>by rw[e];exact .inl hk) (fun g e1 hk=>by rw[e]at hk;exact hk.elim (fun h=>(dZ).out g e1 h) (fun h=>en g e1 h));have eu:∀ k,(fun k=>aJ (ro l)=some k∨q k) k->u k:=fun k hk=>by rw[e];exact .inr hk
     have ev:∀ k,u k->P k∨(fun k=>aJ (ro l)=some k∨q k) k:=fun k hk=>by rw[e]at hk;exact hk
     clear e;refine bU pcE (t:=23) (ty:=23) (e:=25) (a:=j) (ax:=(ro l)) (cap:=a9) (cx:=1) (xs:=B.1) (ys:=([Pc.of x.1]:List Pc)) eo (X:=u) (Y:=(fun k=>aJ (ro l)=some k∨q k)) ci rfl rfl kr kr aT zop et (dN.rd (Y:=fun k=>aJ (ro l)=some k∨q k) (fun _ h=>.inr h) (fun g e=>.inl e)) er (.inl eu) dY<|fun C ep fd L ew D=>⟨nofun,?_⟩;have d0:=ao ek o nb;have ex:Lo i C:=bZ D G d0.size;have ey:∀ k,u k->k<fd.heap.size:=fun k hk=>cy (dY k hk) L.size;have b7:=dP.grown o nb;have ez:Naq C (· =s):=aQ D c7 (cm b7);have eA:¬ (fun k=>aJ C=some k∨u k) s:=fun h=>h.elim (fun h=>bb D (fun h=>(c8) (.inl h)) (b7.lt) h) (fun h=>(ev _ h).elim (fun h=>(c8) (.inr h)) (fun h=>((apG (p:=s) f dP (fun h=>(dO _ h).elim (apE b0 (xlo be z) bs.lt) (apE b2 (xlo be z) bs.lt)))) h));have fm:Naq C a1:=aQ D el (aW b3 o.size);have fn:Naq C a2:=aQ D em (aW b4 o.size);have fo:Naq C (fun k=>aJ (ro l)=some k∨q k):=aQ D en (fun k (hk:aJ (ro l)=some k∨q k)=>hk.elim (fun h=>dN.lt k h) (fun h=>ej k h));refine p1 3 (vL C eo ep)<|aa<|bB ?_
     cases Z;exact gq fun a hq=>have eB:=ao d0 L (fun g e=>.inr (G g e));⟨(eo,x.2),rfl,C,ep,u,eB,(nt (nt (nt ee a0.size) o.size) L.size),ew,ex,ey,es,ez,eA,((ds.grown o nb).grown L (fun g (e:aJ j=some g) (h:g=c)=>negt W (G g e) h)),(b7.grown L c7),hq⟩
    ·refine bm<|bG rfl ?_
     cases Z;replace h1:=congrArg some (fk _ rfl);cases h1;exact gq fun a hq=>have eC:=ee;⟨j,a9,P,H,eC,bA,G,aW bg bn,c5,c7,c8,ed,bs,hq⟩
 ·rintro a w8 ⟨r,dR,w,R,fp,S,ca,M,N,fq,T,d1,U,hq⟩;refine gi hq<|aE<|aI<|pL [19,20,21] 21 (vB ((lz j7.1)==1))<|aa<|have d2:=apH c4 dS;bC Q (fun eD Q=>?_) (fun eD Q=>?_)
  ·refine aI<|p1 22 (vL r j7.1 dR)<|ad Q<|fun cb d3 Q=>cz .i64 7 (S.rd (Y:=fun k=>aJ r=some k∨w k) (fun _ h=>.inr h) (fun g e=>.inl e)) d3 aT ?_;obtain ⟨_,⟨_,_,rfl,rfl,⟨_,_,rfl,rfl,⟨_,_,rfl,rfl,⟨_,_,rfl,rfl,⟨_,_,rfl,rfl,⟨_,_,rfl,⟨a3,a4,rfl,eE⟩,⟨a5,a6,rfl,eF⟩⟩⟩⟩⟩⟩⟩,eG⟩:=zzS (S.cellsK d3);refine laq 25 (aq r ((0:Int).toNat*7)) (dm (Pc.un cb) a3 a4 a5 a6) (bD (eG w8 (fun _ _=>rfl)))<|aH 25 0 (.agg (dm (Pc.un cb) a3 a4 a5 a6)) (dm (Pc.un cb) a3 a4 a5 a6) U kr kr kr<|fun ff E eH fr=>aa<|ai ?_
   cases Q;refine au (aj [.agg (dm (Pc.un cb) a3 a4 a5 a6)] rfl ⟨⟨⟨s,0,none⟩,kr,run_loadVar_row ff s _ 25 _ _ _ eH cd rfl kr⟩,trivial⟩ ?_);exact ⟨(ao R E (dp be)),a3,a4,w,a5,a6,w,rfl,(eE.grown E M (aB (fun h=>T (.inr h)))),sxq (aW M E.size) N,(eF.grown E M (aB (fun h=>T (.inr h)))),sxq (aW M E.size) N,(d1.grown E (aB d2))⟩
  ·refine ay<|aI<|pN 3 [25,26,27] [(25,bp c),(27,.agg #[vI 8,vI 0,vI 0,vB false,vB false,vL none ([]:List aU) 0,vL r j7.1 dR])]<|ad Q<|fun cc eI Q=>ar kr rfl kr zvk (cp af c j7.2 none 0 r dR (8,0,0,false,false,([]:List aU),j7.1) w8 (fun k=>nXq k∨(fun k=>aJ r=some k∨w k) k) (fun k hk=>⟨(hk).elim (fun h=>h.elim) (fun h=>(fun k (hk:aJ r=some k∨w k)=>hk.elim (fun h=>S.lt k h) (fun h=>M k h)) k h),fun e=>(hk).elim (fun h=>((h:False).elim)) (fun h=>(xq (fun k (hk:aJ r=some k∨w k)=>hk.elim (fun h=>Or.inr (ca k h)) (fun h=>N k h)) z W) (e ▸ h))⟩) d1 ((cN bK w8 nXq none 0).wide (fun k hk=>(.inl hk))) ((S.rd (Y:=fun k=>aJ r=some k∨w k) (fun _ h=>.inr h) (fun g e=>.inl e)).wide (fun k hk=>(.inr hk))) cc eI) ?_;rintro fA eq ⟨d4,ch,ck,cs,cv,cw,c0,rfl,eJ,c1,eK,c2,eL⟩;have d5:∀ k,cs k->k<eq.heap.size:=fun k hk=>(c1 k hk).1;have eM:∀ k,cs k->y k∨i.heap.size<=k:=fun k hk=>(c1 k hk).2.elim (fun h=>(h).elim (fun h=>h.elim) (fun h=>(fun k (hk:aJ r=some k∨w k)=>hk.elim (fun h=>Or.inr (ca k h)) (fun h=>N k h)) k h)) (fun h=>.inr (Nat.le_trans R.size h));have d6:∀ k,c0 k->k<eq.heap.size:=fun k hk=>(c2 k hk).1;have eN:∀ k,c0 k->y k∨i.heap.size<=k:=fun k hk=>(c2 k hk).2.elim (fun h=>(h).elim (fun h=>h.elim) (fun h=>(fun k (hk:aJ r=some k∨w k)=>hk.elim (fun h=>Or.inr (ca k h)) (fun h=>N k h)) k h)) (fun h=>.inr (Nat.le_trans R.size h));refine aH 25 0 (.agg (bj cc.1 ch ck cv cw)) (bj cc.1 ch ck cv cw) (U.grown d4 (aB d8)) kr kr kr<|fun fg F eO fs=>aa<|ai ?_
   obtain rfl:=sj Q;refine au (aj [.agg (bj cc.1 ch ck cv cw)] rfl ⟨⟨⟨s,0,none⟩,kr,run_loadVar_row fg s _ 25 _ _ _ eO cd rfl kr⟩,trivial⟩ ?_);have eP:¬ cs s:=fun h=>((c1 _ h).2.elim (fun h=>(h).elim (fun h=>by cases h) (fun h=>(T) h)) (fun h=>nl h (U.lt)));have eQ:¬ c0 s:=fun h=>((c2 _ h).2.elim (fun h=>(h).elim (fun h=>by cases h) (fun h=>(T) h)) (fun h=>nl h (U.lt)));exact ⟨(ao (ao R d4 bW) F (dp be)),ch,ck,cs,cv,cw,c0,rfl,(eJ.grown F d5 (aB eP)),sxq (aW d5 F.size) eM,(eK.grown F d6 (aB eQ)),sxq (aW d6 F.size) eN,(eL.grown F (aB d2))⟩
set_option maxHeartbeats 4000000 in
set_option maxRecDepth 100000 in
theorem zx1 (af:Nat) (el:zlu af) (eO:zkX af) (eP:zqM af) (c0:zql af) (eY:zqp af) (c:Nat) (g4:dk) (m:World) (Z:Nat->Prop) (H:∀ k,Z k->k<m.heap.size∧k≠c) (fA:aV m c 117 (cL g4)) (ku:Rd bE m Z (ro 0) 256 co) (kv:Rd (prE (iE .u8) (iE .u8)) m Z (ro 1) 16 cJ) (r0:cn × dk) (N:zz2 (af+1) g4=some r0):
    Cs 107 [bp c] m (dH fun v w'=>m.grownBy w' (some c)∧∃ (ba:bh) (bv:Nat),∃ (fP:Nat->Prop),∃ (fQ:bh) (fR:Nat),∃ (fS:Nat->Prop),v=dD [.agg (bj r0.1 ba bv fQ fR)]∧Rd bK w' fP ba bv r0.1.2.2.2.2.2.1∧(Sxb fP w' Z m)∧Rd pcE w' fS fQ fR r0.1.2.2.2.2.2.2∧(Sxb fS w' Z m)∧aV w' c 117 (cL r0.2)):=by
 have kh:m.grownBy m (some c):=cq _ _;rw[zz2.eq_2]at N;refine aL Tryz.func107 rfl Tryz.ntmps107 kr<|bQ [(0,bp c)]<|have z:=fA.lt;aI<|aD bp dJ 25 kr kr ?_
 intro l w2 g6 fT eZ kw;refine bL<|p1 8 (bp c)<|ad N<|fun i ki N=>have eQ:=ao kh g6 nb;ar kr rfl kr zog (c0 c g4 w2 Z (jg H eQ) (fA.grown g6 nb) (rg ku eQ H) (rg kv eQ H) i ki) ?_;rintro lw kj ⟨fE,q,r,E,s,w,F,rfl,g7,e0,g8,e1,e2⟩;have e3:∀ k,E k->k<kj.heap.size:=fun k hk=>(e0 k hk).1;have O:∀ k,E k->Z k∨m.heap.size<=k:=fun k hk=>(e0 k hk).2.elim (fun h=>(fun k (hk:Z k)=>Or.inl hk) k h) (fun h=>.inr (Nat.le_trans eQ.size h));have e4:∀ k,F k->k<kj.heap.size:=fun k hk=>(e1 k hk).1;have P:∀ k,F k->Z k∨m.heap.size<=k:=fun k hk=>(e1 k hk).2.elim (fun h=>(fun k (hk:Z k)=>Or.inl hk) k h) (fun h=>.inr (Nat.le_trans eQ.size h));refine aD bp dJ 25 kr kr<|fun a5 lx dS g9 c1 kl=>aH 25 0 (.agg (bj i.1 q r s w)) (bj i.1 q r s w) g9 kr kr kr<|fun kx dT ha km=>bL<|p1 11 (bp c)<|ad N<|fun d hb N=>ar kr rfl kr zob (zwF af c i.2 kx ((e2.grown dS nb).grown dT (aB (apH c1 e2))) d hb) ?_;rintro ly ky ⟨dU,rfl,a6⟩;refine pN 7 [4,5,6,10,13,14,15] [(4,vI d.1),(5,vI d.2.1),(6,vB d.2.2.1)]<|cg<|aI<|pL [16,17] 17 (vB (!d.2.2.1))<|aa<|have eA:m.heap.size<=l:=cM eZ kh.size;have hc:=apH eZ fA;have a0:=dL eZ fA;have fF:=ao eQ fE bW;have fG:=fT.grown fE (aB a0);have em:=apE e0 (xlo eA H) fT.lt;have en:=apE e1 (xlo eA H) fT.lt;have fH:=aW e3 dS.size;have fI:=aW e4 dS.size;have fU:m.heap.size<=a5:=cM c1 fF.size;have d8:=cy ((cm fG) _ rfl) ((bT c1) _ rfl);have eo:=dL c1 e2;have fJ:=apF c1 e3;have fK:=apF c1 e4;have fL:=aW fH dT.size;have fM:=aW fI dT.size;have W:=ao (ao (ao fF dS nb) dT (dp fU)) dU bW;have c2:=((fG.grown dS nb).grown dT (aB (ng d8))).grown dU (aB a0);have c3:=((g7.grown dS e3 nb).grown dT fH (aB fJ)).grown dU fL (aB (xq O H z));have A:=aW fL dU.size;have c4:=((g8.grown dS e4 nb).grown dT fI (aB fK)).grown dU fM (aB (xq P H z));have B:=aW fM dU.size;have a7:=ha.grown dU (aB eo);bC N (fun hd N=>?_) (fun hd N=>?_)
 ·refine aI<|cH 25 a5 (bj i.1 q r s w) (bD a7)<|aH 25 0 (.agg (bj i.1 q r s w)) (bj i.1 q r s w) c2 kr kr kr<|fun kz ep kn k9=>aa<|ai ?_
  cases N;refine au (aj [.agg (bj i.1 q r s w)] rfl ⟨⟨⟨l,0,none⟩,kr,run_loadVar_row kz l _ 25 _ _ _ kn cd rfl kr⟩,trivial⟩ ?_);exact ⟨(ao W ep (dp eA)),q,r,E,s,w,F,rfl,(c3.grown ep A (aB em)),sxq (aW A ep.size) O,(c4.grown ep B (aB en)),sxq (aW B ep.size) P,(a6.grown ep (aB hc))⟩
 ·refine ay<|aE<|aI<|p1 19 (bp a5)<|bu 3 a7 0 rfl<|aa<|aG<|aE<|aI<|pL [21,22] 21 (vB (i.1.1==4))<|aa<|bC N (fun he N=>?_) (fun he N=>?_)
  ·cases N
  ·refine aI<|pL [21,23] 21 (vB (i.1.1==5))<|aa<|bC N (fun hf N=>?_) (fun hf N=>?_)
   ·cases N
   ·refine aI<|pL [21,24] 21 (vB (i.1.1==6))<|bQ [(0,bp c),(2,bp l),(3,bp a5),(4,vI d.1),(5,vI d.2.1),(20,vI i.1.1),(21,vB (i.1.1==6))]<|aa<|bC N (fun hg N=>?_) (fun hg N=>?_)
    ·cases N
    ·refine az<|pL [21,25] 21 (vB (i.1.1==11))<|aa<|bC N (fun hh N=>?_) (fun hh N=>?_)
     ·cases N
     ·refine ay<|bB<|aE<|ad N ?_;intro eb h1 N
      refine aA (J:=fun a dV=>∃ (ew:bh) (ex:Nat),∃ (ah:Nat->Prop),∃ (ey:bh) (ez:Nat),∃ (an:Nat->Prop),∃ (bd:Nat),m.grownBy dV (some c)∧Sz ky dV∧Rd bK dV ah ew ex eb.2.2.2.2.2.2.1∧(∀ k,ah k->k<dV.heap.size)∧(∀ k,ah k->Z k∨m.heap.size<=k)∧Rd pcE dV an ey ez eb.2.2.2.2.2.2.2∧(∀ k,an k->k<dV.heap.size)∧(∀ k,an k->Z k∨m.heap.size<=k)∧¬ ah l∧¬ ah bd∧¬ an l∧¬ an bd∧¬ (· =l) bd∧aV dV c 117 (cL eb.1)∧aV dV l 25 dJ∧aV dV bd 25 (bj eb.2 ew ex ey ez)∧m.heap.size<=bd∧Qa a 42 [(0,bp c),(2,bp l),(7,bp bd)]) ?_ ?_
      ·refine bq kr<|fun dR f=>ad h1<|fun o eq h1=>ad h1<|fun y fV h1=>zxz (fun σ b5=>∃ (Q:Nat),∃ (c5:bh),∃ (c7:Nat),∃ (d9:Nat->Prop),∃ (c8:bh),∃ (c9:Nat),∃ (ea:Nat->Prop),σ=[(0,bp c),(2,bp l),(7,bp Q),(36,.agg (bj y.1 c5 c7 c8 c9))]∧m.grownBy b5 (some c)∧Sz dR b5∧aV b5 c 117 (cL y.2)∧aV b5 l 25 dJ∧aV b5 Q 25 dJ∧m.heap.size<=Q∧Rd bK b5 d9 c5 c7 y.1.2.2.2.2.2.1∧(∀ k,d9 k->k<b5.heap.size)∧(∀ k,d9 k->Z k∨m.heap.size<=k)∧Rd pcE b5 ea c8 c9 y.1.2.2.2.2.2.2∧(∀ k,ea k->k<b5.heap.size)∧(∀ k,ea k->Z k∨m.heap.size<=k)∧(¬ (· =Q) c)∧(¬ d9 l)∧(¬ ea l)∧(¬ (· =Q) l)∧(¬ (· =c) Q)∧(¬ (· =l) Q)∧(¬ d9 Q)∧(¬ ea Q)) (bA 11 (rgq 0 10)) 1 ?_ fun hj=>?_
       ·rintro σ b5 ⟨Q,c5,c7,d9,c8,c9,ea,rfl,hS,hT,hU,hV,hW,fB,hX,fW,hY,hZ,fX,h2,kB,h3,h4,kC,h5,fY,fZ,f0⟩;refine zx7 [(10,bA 11 (rgq 0 11))] 0 kr kr ⟨?_,trivial⟩;refine cW (t:=25) (b:=Q) (off:=0) (v:=(.agg #[.int .i64 y.1.1,.int .i64 y.1.2.1,.int .i64 y.1.2.2.1,.bool y.1.2.2.2.1,.bool y.1.2.2.2.2.1,.slice c5 (length y.1.2.2.2.2.2.1) c7,.slice c8 (length y.1.2.2.2.2.2.2) c9])) (t':=25) (cs:=#[.int .i64 0,.int .i64 0,.int .i64 0,.bool false,.bool false,.slice none (length ([]:List aU)) 0,.slice none (length ([]:List Pc)) 0]) #[.int .i64 y.1.1,.int .i64 y.1.2.1,.int .i64 y.1.2.2.1,.bool y.1.2.2.2.1,.bool y.1.2.2.2.2.1,.slice c5 (length y.1.2.2.2.2.2.1) c7,.slice c8 (length y.1.2.2.2.2.2.2) c9] ci rfl rfl kr kr kr (by intro u hu;simp[Value.cells]at hu;rcases hu with rfl | rfl | rfl | rfl | rfl | rfl | rfl<;>rfl) (show 0+7<=7 by decide) (by rfl) hW ?_;intro la be h6 kD;refine ⟨(fun _=>trivial),?_⟩;refine aa<|ak<|aP kr ?_;obtain rfl:=sj h1;exact gq fun a hq=>have h7:=ao hS be (dp fB);⟨c5,c7,d9,c8,c9,ea,Q,h7,(nt (nt f.size hT) be.size),(hX.grown be fW (aB fZ)),(aW fW be.size),hY,(hZ.grown be fX (aB f0)),(aW fX be.size),h2,h3,fZ,h4,f0,fY,(hU.grown be (aB h5)),(hV.grown be (aB fY)),h6,fB,hq⟩
       refine zxz (fun σ b7=>∃ (C:Nat),∃ (j:Nat),∃ (a1:Nat->Prop),σ=[(0,bp c),(2,bp l),(7,bp C),(28,bp c),(35,.agg #[vI 10,vI d.1,vI d.2.1,vB false,vB o.1,vL none ([]:List aU) 0,vL (ro j) ([Pc.of i.1]:List Pc) 1])]∧m.grownBy b7 (some c)∧Sz dR b7∧aV b7 c 117 (cL o.2)∧aV b7 l 25 dJ∧aV b7 C 25 dJ∧m.heap.size<=C∧ag pcE 25 b7 a1 (ro j) 1 ([Pc.of i.1]:List Pc)∧(∀ k,a1 k->k<b7.heap.size)∧(Lo m (ro j))∧(∀ k,a1 k->Z k∨m.heap.size<=k)∧(¬ (fun k=>aJ (ro j)=some k∨a1 k) c)∧(¬ (· =C) c)∧(¬ (fun k=>aJ (ro j)=some k∨a1 k) l)∧(¬ (· =C) l)∧(Naq (ro j) (· =c))∧(Naq (ro j) (· =l))∧(Naq (ro j) (· =C))∧(¬ (· =c) C)∧(¬ (· =l) C)∧(¬ (fun k=>aJ (ro j)=some k∨a1 k) C)) (bA 11 [0,1,2,3,4,5,6,7,9]) 2 ?_ fun hl=>?_
       ·rintro σ b7 ⟨C,j,a1,rfl,e5,h8,h9,e6,e7,hm,f1,ia,fC,f2,ib,f3,f4,ic,kE,kF,kG,id,ie,f5⟩;refine zx7 [(8,bA 11 (rgq 0 10))] 1 kr kr ⟨?_,trivial⟩;refine dI zvk (cp af c o.2 none 0 (ro j) 1 (10,d.1,d.2.1,false,o.1,([]:List aU),([Pc.of i.1]:List Pc)) b7 (fun k=>nXq k∨(fun k=>aJ (ro j)=some k∨a1 k) k) (fun k hk=>⟨(hk).elim (fun h=>h.elim) (fun h=>(fun k (hk:aJ (ro j)=some k∨a1 k)=>hk.elim (fun h=>f1.lt k h) (fun h=>ia k h)) k h),fun e=>(hk).elim (fun h=>((h:False).elim)) (fun h=>ib (e ▸ h))⟩) h9 ((cN bK b7 nXq none 0).wide (fun k hk=>(.inl hk))) ((f1.rd (Y:=fun k=>aJ (ro j)=some k∨a1 k) (fun _ h=>.inr h) (fun g e=>.inl e)).wide (fun k hk=>(.inr hk))) y fV) ?_;rintro lb hn ⟨eB,ho,hp,eR,hr,hs,eS,rfl,ig,eC,ih,eD,ii⟩;refine ⟨(fun _=>trivial),?_⟩;have ij:∀ k,eR k->k<hn.heap.size:=fun k hk=>(eC k hk).1;have ik:∀ k,eR k->Z k∨m.heap.size<=k:=fun k hk=>(eC k hk).2.elim (fun h=>(h).elim (fun h=>h.elim) (fun h=>(fun k (hk:aJ (ro j)=some k∨a1 k)=>hk.elim (fun h=>Or.inr (fC k h)) (fun h=>f2 k h)) k h)) (fun h=>.inr (Nat.le_trans e5.size h));have il:∀ k,eS k->k<hn.heap.size:=fun k hk=>(eD k hk).1;have im:∀ k,eS k->Z k∨m.heap.size<=k:=fun k hk=>(eD k hk).2.elim (fun h=>(h).elim (fun h=>h.elim) (fun h=>(fun k (hk:aJ (ro j)=some k∨a1 k)=>hk.elim (fun h=>Or.inr (fC k h)) (fun h=>f2 k h)) k h)) (fun h=>.inr (Nat.le_trans e5.size h));exact aa<|bc [0,2,7,36] (σ':=[(0,bp c),(2,bp l),(7,bp C),(36,.agg (bj y.1 ho hp hr hs))]) kr<|ak<|have io:¬ eR l:=fun h=>((eC _ h).2.elim (fun h=>(h).elim (fun h=>by cases h) (fun h=>(f4) h)) (fun h=>nl h (e6.lt)));have ip:¬ eS l:=fun h=>((eD _ h).2.elim (fun h=>(h).elim (fun h=>by cases h) (fun h=>(f4) h)) (fun h=>nl h (e6.lt)));have iq:¬ eR C:=fun h=>((eC _ h).2.elim (fun h=>(h).elim (fun h=>by cases h) (fun h=>(f5) h)) (fun h=>nl h (e7.lt)));have ir:¬ eS C:=fun h=>((eD _ h).2.elim (fun h=>(h).elim (fun h=>by cases h) (fun h=>(f5) h)) (fun h=>nl h (e7.lt)));hj _ _ ⟨C,ho,hp,eR,hr,hs,eS,rfl,(ao e5 eB bW),(nt h8 eB.size),ii,(e6.grown eB (aB a0)),(e7.grown eB (aB f3)),hm,ig,ij,ik,ih,il,im,f3,io,ip,ic,id,ie,iq,ir⟩
       refine zxz (fun σ ds=>∃ (j:Nat),∃ (U:Nat->Prop),σ=[(0,bp c),(2,bp l),(28,bp c),(29,vI d.1),(30,vI d.2.1),(32,vB o.1),(34,vL (ro j) ([Pc.of i.1]:List Pc) 1)]∧m.grownBy ds (some c)∧Sz dR ds∧aV ds c 117 (cL o.2)∧aV ds l 25 dJ∧ag pcE 25 ds U (ro j) 1 ([Pc.of i.1]:List Pc)∧(∀ k,U k->k<ds.heap.size)∧(Lo m (ro j))∧(∀ k,U k->Z k∨m.heap.size<=k)∧(¬ (fun k=>aJ (ro j)=some k∨U k) c)∧(¬ (fun k=>aJ (ro j)=some k∨U k) l)∧(Naq (ro j) (· =c))∧(Naq (ro j) (· =l))) (bA 11 (rgq 0 7)) 4 ?_ fun ht=>?_
       ·rintro σ ds ⟨j,U,rfl,dZ,f6,eE,d0,ec,ed,eT,e8,f7,e9,it,iu⟩;refine aO [7] (bA 11 (rgq 0 8)) 3 kr kr<|p1 35 (.agg #[vI 10,vI d.1,vI d.2.1,vB false,vB o.1,vL none ([]:List aU) 0,vL (ro j) ([Pc.of i.1]:List Pc) 1])<|aa<|ak<|zx7 [(8,bA 11 (rgq 0 9)),(9,bA 11 [0,1,2,3,4,5,6,7,9])] 2 kr kr ⟨?_,?_,trivial⟩
        ·refine dI zvk (cp af c o.2 none 0 (ro j) 1 (10,d.1,d.2.1,false,o.1,([]:List aU),([Pc.of i.1]:List Pc)) ds (fun k=>nXq k∨(fun k=>aJ (ro j)=some k∨U k) k) (fun k hk=>⟨(hk).elim (fun h=>h.elim) (fun h=>(fun k (hk:aJ (ro j)=some k∨U k)=>hk.elim (fun h=>ec.lt k h) (fun h=>ed k h)) k h),fun e=>(hk).elim (fun h=>((h:False).elim)) (fun h=>f7 (e ▸ h))⟩) eE ((cN bK ds nXq none 0).wide (fun k hk=>(.inl hk))) ((ec.rd (Y:=fun k=>aJ (ro j)=some k∨U k) (fun _ h=>.inr h) (fun g e=>.inl e)).wide (fun k hk=>(.inr hk))) y fV) ?_;rintro lc hv ⟨ee,c5,c7,fa,c8,c9,fb,rfl,iv,fc,iw,fd,ff⟩;refine ⟨(fun _=>trivial),?_⟩;have fg:∀ k,fa k->k<hv.heap.size:=fun k hk=>(fc k hk).1;have ix:∀ k,fa k->Z k∨m.heap.size<=k:=fun k hk=>(fc k hk).2.elim (fun h=>(h).elim (fun h=>h.elim) (fun h=>(fun k (hk:aJ (ro j)=some k∨U k)=>hk.elim (fun h=>Or.inr (eT k h)) (fun h=>e8 k h)) k h)) (fun h=>.inr (Nat.le_trans dZ.size h));have fh:∀ k,fb k->k<hv.heap.size:=fun k hk=>(fd k hk).1;have iy:∀ k,fb k->Z k∨m.heap.size<=k:=fun k hk=>(fd k hk).2.elim (fun h=>(h).elim (fun h=>h.elim) (fun h=>(fun k (hk:aJ (ro j)=some k∨U k)=>hk.elim (fun h=>Or.inr (eT k h)) (fun h=>e8 k h)) k h)) (fun h=>.inr (Nat.le_trans dZ.size h));refine aa<|ak<|zx7 [(9,bA 11 (rgq 0 10))] 1 kr kr ⟨?_,trivial⟩;refine dc bp dJ 25 ci rfl rfl kr kr<|fun Q ld bg iz cc kH=>⟨(fun _=>trivial),?_⟩;exact aa<|bc [0,2,7,36] (σ':=[(0,bp c),(2,bp l),(7,bp Q),(36,.agg (bj y.1 c5 c7 c8 c9))]) kr<|ak<|have hw:m.heap.size<=Q:=cM cc (ao dZ ee bW).size;have iA:¬ fa l:=fun h=>((fc _ h).2.elim (fun h=>(h).elim (fun h=>by cases h) (fun h=>(e9) h)) (fun h=>nl h (d0.lt)));have iB:¬ fb l:=fun h=>((fd _ h).2.elim (fun h=>(h).elim (fun h=>by cases h) (fun h=>(e9) h)) (fun h=>nl h (d0.lt)));have f8:=cy ((cm (d0.grown ee (aB a0))) _ rfl) ((bT cc) _ rfl);hj _ _ ⟨Q,c5,c7,fa,c8,c9,fb,rfl,(ao (ao dZ ee bW) bg nb),(nt (nt f6 ee.size) bg.size),(ff.grown bg nb),((d0.grown ee (aB a0)).grown bg nb),iz,hw,(iv.grown bg fg nb),(aW fg bg.size),ix,(iw.grown bg fh nb),(aW fh bg.size),iy,(dL cc ff),iA,iB,Nat.ne_of_lt f8,(apH cc ff),ng f8,(apF cc fg),(apF cc fh)⟩
        ·refine dc bp dJ 25 ci rfl rfl kr kr<|fun C le d1 iC ch kI=>⟨(fun _=>trivial),?_⟩;exact aa<|bc [0,2,7,28,35] (σ':=[(0,bp c),(2,bp l),(7,bp C),(28,bp c),(35,.agg #[vI 10,vI d.1,vI d.2.1,vB false,vB o.1,vL none ([]:List aU) 0,vL (ro j) ([Pc.of i.1]:List Pc) 1])]) kr<|ak<|have hy:m.heap.size<=C:=cM ch dZ.size;have f9:=cy ((cm d0) _ rfl) ((bT ch) _ rfl);have iD:Naq (ro j) (· =C):=fun g e hx=>nl ((bT ch) _ hx) ((fun k (hk:aJ (ro j)=some k∨U k)=>hk.elim (fun h=>ec.lt k h) (fun h=>ed k h)) g (.inl e));have iF:¬ (fun k=>aJ (ro j)=some k∨U k) C:=fun hx=>nl ((bT ch) _ rfl) ((fun k (hk:aJ (ro j)=some k∨U k)=>hk.elim (fun h=>ec.lt k h) (fun h=>ed k h)) _ hx);hl _ _ ⟨C,j,U,rfl,(ao dZ d1 nb),(nt f6 d1.size),(eE.grown d1 nb),(d0.grown d1 nb),iC,hy,(ec.grown d1 ed nb),(aW ed d1.size),eT,e8,f7,(dL ch eE),e9,Nat.ne_of_lt f9,it,iu,iD,(apH ch eE),ng f9,iF⟩
       refine zxz (fun σ dW=>∃ (n:Nat),∃ (D:Nat),∃ (dX:Nat->Prop),σ=[(0,bp c),(2,bp l),(7,bp n),(28,bp c),(29,vI d.1),(30,vI d.2.1),(32,vB o.1),(34,vL (ro D) ([Pc.of i.1]:List Pc) 1)]∧m.grownBy dW (some c)∧Sz dR dW∧aV dW c 117 (cL o.2)∧aV dW l 25 dJ∧aV dW n 25 dJ∧m.heap.size<=n∧ag pcE 25 dW dX (ro D) 1 ([Pc.of i.1]:List Pc)∧(∀ k,dX k->k<dW.heap.size)∧(Lo m (ro D))∧(∀ k,dX k->Z k∨m.heap.size<=k)∧(¬ (· =n) c)∧(¬ (fun k=>aJ (ro D)=some k∨dX k) c)∧(¬ (· =n) l)∧(¬ (fun k=>aJ (ro D)=some k∨dX k) l)∧(¬ (· =c) n)∧(¬ (· =l) n)∧(¬ (fun k=>aJ (ro D)=some k∨dX k) n)∧(Naq (ro D) (· =c))∧(Naq (ro D) (· =l))∧(Naq (ro D) (· =n))) (bA 11 [0,1,2,3,4,5,6,9]) 3 ?_ fun hz=>?_
       ·rintro σ dW ⟨n,D,dX,rfl,iG,iH,iI,iJ,iK,hA,iL,iM,hB,iN,iO,iP,iQ,iR,iS,iT,iU,iV,iW,iX⟩;exact aO [7] (bA 11 [0,1,2,3,4,5,6,7,9]) 2 kr kr<|p1 35 (.agg #[vI 10,vI d.1,vI d.2.1,vB false,vB o.1,vL none ([]:List aU) 0,vL (ro D) ([Pc.of i.1]:List Pc) 1])<|aa<|bc [0,2,7,28,35] (σ':=[(0,bp c),(2,bp l),(7,bp n),(28,bp c),(35,.agg #[vI 10,vI d.1,vI d.2.1,vB false,vB o.1,vL none ([]:List aU) 0,vL (ro D) ([Pc.of i.1]:List Pc) 1])]) kr<|ak<|hl _ _ ⟨n,D,dX,rfl,iG,iH,iI,iJ,iK,hA,iL,iM,hB,iN,iP,iO,iR,iQ,iV,iW,iX,iS,iT,iU⟩
       refine zxz (fun σ a8=>∃ (n:Nat),σ=[(0,bp c),(2,bp l),(7,bp n),(28,bp c),(29,vI d.1),(30,vI d.2.1),(32,vB o.1),(33,.agg (bj i.1 q r s w))]∧m.grownBy a8 (some c)∧Sz dR a8∧aV a8 c 117 (cL o.2)∧aV a8 l 25 dJ∧Rd bK a8 E q r i.1.2.2.2.2.2.1∧(∀ k,E k->k<a8.heap.size)∧Rd pcE a8 F s w i.1.2.2.2.2.2.2∧(∀ k,F k->k<a8.heap.size)∧aV a8 n 25 dJ∧m.heap.size<=n∧(¬ (· =n) c)∧(¬ (· =n) l)∧(¬ (· =c) n)∧(¬ (· =l) n)∧(¬ E n)∧(¬ F n)) (bA 11 [0,1,2,3,4,5,9]) 4 ?_ fun fN=>?_
       ·rintro σ a8 ⟨n,rfl,ga,iY,fi,fj,iZ,fk,i0,fl,fm,hC,i1,i2,i3,i4,i5,i6⟩;refine zx7 [(6,bA 11 [0,1,2,3,4,5,6,9])] 3 kr kr ⟨?_,trivial⟩;refine dc (fun b=>.slice (ro b) 1 1) (bj i.1 q r s w) 25 ci rfl rfl kr kr<|fun D hD bl i7 R kJ=>⟨(fun _=>trivial),?_⟩;obtain ⟨er,e⟩:∃ X:Nat->Prop,X=(fun k=>E k∨F k):=⟨_,rfl⟩;have gb:∀ k,er k->k<a8.heap.size:=fun k h=>by rw[e]at h;exact (h).elim (fun h=>fk k h) (fun h=>fl k h)
        have i8:∀ k,er k->k<hD.heap.size:=fun k h=>cy (gb k h) bl.size;have i9:∀ k,er k->Z k∨m.heap.size<=k:=fun k h=>by rw[e]at h;exact (h).elim (fun h=>O k h) (fun h=>P k h)
        have ja:ag pcE 25 hD er (ro D) 1 ([Pc.of i.1]:List Pc):=bF i7 (by rw[e];exact ⟨[vI i.1.1,vI i.1.2.1,vI i.1.2.2.1,vB i.1.2.2.2.1,vB i.1.2.2.2.2.1,vL q i.1.2.2.2.2.2.1 r,vL s i.1.2.2.2.2.2.2 w],[],rfl,zv8 ((iZ.grown bl fk nb).wide (fun _ h=>(.inl h))) ((i0.grown bl fl nb).wide (fun _ h=>(.inr h))),rfl⟩) (show 1<=maxLen by decide) (fun h=>dy R (gb _ h));have fn:∀ k,er k->(fun k=>E k∨F k) k:=fun k h=>by rw[e]at h;exact h
        clear e;have jb:Lo m (ro D):=dw R ga.size;have kK:Naq (ro D) E:=fun g e hx=>nl (bV R g e) (fk _ hx);have kL:Naq (ro D) F:=fun g e hx=>nl (bV R g e) (fl _ hx);exact aa<|bc [0,2,7,28,29,30,32,34] (σ':=[(0,bp c),(2,bp l),(7,bp n),(28,bp c),(29,vI d.1),(30,vI d.2.1),(32,vB o.1),(34,vL (ro D) ([Pc.of i.1]:List Pc) 1)]) kr<|ak<|hz _ _ ⟨n,D,er,rfl,(ao ga bl nb),(nt iY bl.size),(fi.grown bl nb),(fj.grown bl nb),(fm.grown bl nb),hC,ja,i8,jb,i9,i1,(apG (p:=c) R fi (fun h=>(fn _ h).elim (xq O H z) (xq P H z))),i2,(apG (p:=l) R fj (fun h=>(fn _ h).elim em en)),i3,i4,(apG (p:=n) R fm (fun h=>(fn _ h).elim i5 i6)),(apD R fi),(apD R fj),(apD R fm)⟩
       refine zxz (fun σ ca=>σ=[(0,bp c),(2,bp l),(28,bp c),(29,vI d.1),(30,vI d.2.1),(32,vB o.1),(33,.agg (bj i.1 q r s w))]∧m.grownBy ca (some c)∧Sz dR ca∧aV ca c 117 (cL o.2)∧aV ca l 25 dJ∧Rd bK ca E q r i.1.2.2.2.2.2.1∧(∀ k,E k->k<ca.heap.size)∧Rd pcE ca F s w i.1.2.2.2.2.2.2∧(∀ k,F k->k<ca.heap.size)) (bA 11 (rgq 0 6)) 5 ?_ fun kk=>?_
       ·rintro σ ca ⟨rfl,eF,gc,d2,ef,gd,d3,ge,d4⟩;refine zx7 [(6,bA 11 (rgq 0 7)),(9,bA 11 [0,1,2,3,4,5,9])] 4 kr kr ⟨?_,?_,trivial⟩
        ·refine dc (fun b=>.slice (ro b) 1 1) (bj i.1 q r s w) 25 ci rfl rfl kr kr<|fun j hE dN jc ax kM=>⟨(fun _=>trivial),?_⟩;obtain ⟨es,e⟩:∃ X:Nat->Prop,X=(fun k=>E k∨F k):=⟨_,rfl⟩;have gf:∀ k,es k->k<ca.heap.size:=fun k h=>by rw[e]at h;exact (h).elim (fun h=>d3 k h) (fun h=>d4 k h)
         have jd:∀ k,es k->k<hE.heap.size:=fun k h=>cy (gf k h) dN.size;have je:∀ k,es k->Z k∨m.heap.size<=k:=fun k h=>by rw[e]at h;exact (h).elim (fun h=>O k h) (fun h=>P k h)
         have jf:ag pcE 25 hE es (ro j) 1 ([Pc.of i.1]:List Pc):=bF jc (by rw[e];exact ⟨[vI i.1.1,vI i.1.2.1,vI i.1.2.2.1,vB i.1.2.2.2.1,vB i.1.2.2.2.2.1,vL q i.1.2.2.2.2.2.1 r,vL s i.1.2.2.2.2.2.2 w],[],rfl,zv8 ((gd.grown dN d3 nb).wide (fun _ h=>(.inl h))) ((ge.grown dN d4 nb).wide (fun _ h=>(.inr h))),rfl⟩) (show 1<=maxLen by decide) (fun h=>dy ax (gf _ h));have gg:∀ k,es k->(fun k=>E k∨F k) k:=fun k h=>by rw[e]at h;exact h
         clear e;have jh:Lo m (ro j):=dw ax eF.size;have kN:Naq (ro j) E:=fun g e hx=>nl (bV ax g e) (d3 _ hx);have kO:Naq (ro j) F:=fun g e hx=>nl (bV ax g e) (d4 _ hx);exact aa<|bc [0,2,28,29,30,32,34] (σ':=[(0,bp c),(2,bp l),(28,bp c),(29,vI d.1),(30,vI d.2.1),(32,vB o.1),(34,vL (ro j) ([Pc.of i.1]:List Pc) 1)]) kr<|ak<|ht _ _ ⟨j,es,rfl,(ao eF dN nb),(nt gc dN.size),(d2.grown dN nb),(ef.grown dN nb),jf,jd,jh,je,(apG (p:=c) ax d2 (fun h=>(gg _ h).elim (xq O H z) (xq P H z))),(apG (p:=l) ax ef (fun h=>(gg _ h).elim em en)),(apD ax d2),(apD ax ef)⟩
        ·refine dc bp dJ 25 ci rfl rfl kr kr<|fun n lf bn ji ck kP=>⟨(fun _=>trivial),?_⟩;exact aa<|bc [0,2,7,28,29,30,32,33] (σ':=[(0,bp c),(2,bp l),(7,bp n),(28,bp c),(29,vI d.1),(30,vI d.2.1),(32,vB o.1),(33,.agg (bj i.1 q r s w))]) kr<|ak<|have hF:m.heap.size<=n:=cM ck eF.size;have gh:=cy ((cm ef) _ rfl) ((bT ck) _ rfl);fN _ _ ⟨n,rfl,(ao eF bn nb),(nt gc bn.size),(d2.grown bn nb),(ef.grown bn nb),(gd.grown bn d3 nb),(aW d3 bn.size),(ge.grown bn d4 nb),(aW d4 bn.size),ji,hF,(dL ck d2),Nat.ne_of_lt gh,(apH ck d2),ng gh,(apF ck d3),(apF ck d4)⟩
       refine zxz (fun σ a9=>∃ (K:Nat),σ=[(0,bp c),(2,bp l),(3,bp a5),(7,bp K),(28,bp c),(29,vI d.1),(30,vI d.2.1),(32,vB o.1)]∧m.grownBy a9 (some c)∧Sz dR a9∧aV a9 c 117 (cL o.2)∧aV a9 l 25 dJ∧Rd bK a9 E q r i.1.2.2.2.2.2.1∧(∀ k,E k->k<a9.heap.size)∧Rd pcE a9 F s w i.1.2.2.2.2.2.2∧(∀ k,F k->k<a9.heap.size)∧aV a9 a5 25 (bj i.1 q r s w)∧aV a9 K 25 dJ∧m.heap.size<=K∧(¬ (· =K) c)∧(¬ (· =K) l)∧(¬ (· =K) a5)∧(¬ (· =c) K)∧(¬ (· =l) K)∧(¬ E K)∧(¬ F K)∧(¬ (· =a5) K)) (bA 11 [0,1,2,3,4,9]) 5 ?_ fun hG=>?_
       ·rintro σ a9 ⟨K,rfl,jj,jk,jl,jm,jn,jo,jp,jq,jr,js,hH,jt,ju,kQ,jv,jw,jx,jy,kR⟩;refine zx7 [(5,bA 11 [0,1,2,3,4,5,9])] 4 kr kr ⟨?_,trivial⟩;exact zwa (t:=25) (b:=a5) (t':=25) (fr:=(0,0)) (bj i.1 q r s w) [] (fun _=>trivial) rfl rfl rfl kr kr kr kr (zjN jr) rfl<|aa<|bc [0,2,7,28,29,30,32,33] (σ':=[(0,bp c),(2,bp l),(7,bp K),(28,bp c),(29,vI d.1),(30,vI d.2.1),(32,vB o.1),(33,.agg (bj i.1 q r s w))]) kr<|ak<|fN _ _ ⟨K,rfl,jj,jk,jl,jm,jn,jo,jp,jq,js,hH,jt,ju,jv,jw,jx,jy⟩
       refine zxz (fun σ dO=>∃ (L:Nat),∃ (x:Nat),∃ (dY:Nat->Prop),σ=[(0,bp c),(2,bp l),(7,bp L),(28,bp c),(29,vI d.1),(30,vI d.2.1),(31,bp c),(34,vL (ro x) ([Pc.of i.1]:List Pc) 1)]∧m.grownBy dO (some c)∧Sz dR dO∧aV dO c 117 (cL d.2.2.2)∧aV dO l 25 dJ∧aV dO L 25 dJ∧m.heap.size<=L∧ag pcE 25 dO dY (ro x) 1 ([Pc.of i.1]:List Pc)∧(∀ k,dY k->k<dO.heap.size)∧(Lo m (ro x))∧(∀ k,dY k->Z k∨m.heap.size<=k)∧(¬ (fun k=>aJ (ro x)=some k∨dY k) c)∧(¬ (· =L) c)∧(¬ (fun k=>aJ (ro x)=some k∨dY k) l)∧(¬ (· =L) l)∧(Naq (ro x) (· =c))∧(Naq (ro x) (· =l))∧(Naq (ro x) (· =L))∧(¬ (· =c) L)∧(¬ (· =l) L)∧(¬ (fun k=>aJ (ro x)=some k∨dY k) L)) (bA 11 [0,1,2,3,5,6,9]) 4 ?_ fun hI=>?_
       ·rintro σ dO ⟨L,x,dY,rfl,jz,jA,jB,jC,jD,hJ,jE,gj,hK,jF,gk,gl,jG,jH,jI,jJ,jK,jL,jM,jN⟩;refine zx7 [(4,bA 11 [0,1,2,3,4,5,6,9])] 3 kr kr ⟨?_,trivial⟩;refine dI cj (aY af c d.2.2.2 (bf [63]) dO jB o eq) ?_;rintro lg lh ⟨d5,rfl,jO⟩;refine ⟨(fun _=>trivial),?_⟩;exact aa<|bc [0,2,7,28,29,30,32,34] (σ':=[(0,bp c),(2,bp l),(7,bp L),(28,bp c),(29,vI d.1),(30,vI d.2.1),(32,vB o.1),(34,vL (ro x) ([Pc.of i.1]:List Pc) 1)]) kr<|ak<|hz _ _ ⟨L,x,dY,rfl,(ao jz d5 bW),(nt jA d5.size),jO,(jC.grown d5 (aB a0)),(jD.grown d5 (aB gl)),hJ,(jE.grown d5 gj (db (aB gk))),(aW gj d5.size),hK,jF,gl,gk,jH,jG,jL,jM,jN,jI,jJ,jK⟩
       refine zxz (fun σ a2=>∃ (G:Nat),σ=[(0,bp c),(2,bp l),(7,bp G),(28,bp c),(29,vI d.1),(30,vI d.2.1),(31,bp c),(33,.agg (bj i.1 q r s w))]∧m.grownBy a2 (some c)∧Sz dR a2∧aV a2 c 117 (cL d.2.2.2)∧aV a2 l 25 dJ∧Rd bK a2 E q r i.1.2.2.2.2.2.1∧(∀ k,E k->k<a2.heap.size)∧Rd pcE a2 F s w i.1.2.2.2.2.2.2∧(∀ k,F k->k<a2.heap.size)∧aV a2 G 25 dJ∧m.heap.size<=G∧(¬ (· =G) c)∧(¬ (· =G) l)∧(¬ (· =c) G)∧(¬ (· =l) G)∧(¬ E G)∧(¬ F G)) (bA 11 [0,1,2,3,5,9]) 5 ?_ fun hL=>?_
       ·rintro σ a2 ⟨G,rfl,fo,gm,eG,eH,gn,eg,go,eh,eI,fD,fp,gp,gr,gs,gt,gu⟩;refine zx7 [(4,bA 11 [0,1,2,3,4,5,9]),(6,bA 11 [0,1,2,3,5,6,9])] 4 kr kr ⟨?_,?_,trivial⟩
        ·refine dI cj (aY af c d.2.2.2 (bf [63]) a2 eG o eq) ?_;rintro li lj ⟨bs,rfl,jP⟩;refine ⟨(fun _=>trivial),?_⟩;exact aa<|bc [0,2,7,28,29,30,32,33] (σ':=[(0,bp c),(2,bp l),(7,bp G),(28,bp c),(29,vI d.1),(30,vI d.2.1),(32,vB o.1),(33,.agg (bj i.1 q r s w))]) kr<|ak<|fN _ _ ⟨G,rfl,(ao fo bs bW),(nt gm bs.size),jP,(eH.grown bs (aB a0)),(gn.grown bs eg (aB (xq O H z))),(aW eg bs.size),(go.grown bs eh (aB (xq P H z))),(aW eh bs.size),(eI.grown bs (aB fp)),fD,fp,gp,gr,gs,gt,gu⟩
        ·refine dc (fun b=>.slice (ro b) 1 1) (bj i.1 q r s w) 25 ci rfl rfl kr kr<|fun et hM b0 jQ S kS=>⟨(fun _=>trivial),?_⟩;obtain ⟨eu,e⟩:∃ X:Nat->Prop,X=(fun k=>E k∨F k):=⟨_,rfl⟩;have gv:∀ k,eu k->k<a2.heap.size:=fun k h=>by rw[e]at h;exact (h).elim (fun h=>eg k h) (fun h=>eh k h)
         have jR:∀ k,eu k->k<hM.heap.size:=fun k h=>cy (gv k h) b0.size;have jS:∀ k,eu k->Z k∨m.heap.size<=k:=fun k h=>by rw[e]at h;exact (h).elim (fun h=>O k h) (fun h=>P k h)
         have jT:ag pcE 25 hM eu (ro et) 1 ([Pc.of i.1]:List Pc):=bF jQ (by rw[e];exact ⟨[vI i.1.1,vI i.1.2.1,vI i.1.2.2.1,vB i.1.2.2.2.1,vB i.1.2.2.2.2.1,vL q i.1.2.2.2.2.2.1 r,vL s i.1.2.2.2.2.2.2 w],[],rfl,zv8 ((gn.grown b0 eg nb).wide (fun _ h=>(.inl h))) ((go.grown b0 eh nb).wide (fun _ h=>(.inr h))),rfl⟩) (show 1<=maxLen by decide) (fun h=>dy S (gv _ h));have fq:∀ k,eu k->(fun k=>E k∨F k) k:=fun k h=>by rw[e]at h;exact h
         clear e;have jU:Lo m (ro et):=dw S fo.size;have kT:Naq (ro et) E:=fun g e hx=>nl (bV S g e) (eg _ hx);have kU:Naq (ro et) F:=fun g e hx=>nl (bV S g e) (eh _ hx);exact aa<|bc [0,2,7,28,29,30,31,34] (σ':=[(0,bp c),(2,bp l),(7,bp G),(28,bp c),(29,vI d.1),(30,vI d.2.1),(31,bp c),(34,vL (ro et) ([Pc.of i.1]:List Pc) 1)]) kr<|ak<|hI _ _ ⟨G,et,eu,rfl,(ao fo b0 nb),(nt gm b0.size),(eG.grown b0 nb),(eH.grown b0 nb),(eI.grown b0 nb),fD,jT,jR,jU,jS,(apG (p:=c) S eG (fun h=>(fq _ h).elim (xq O H z) (xq P H z))),fp,(apG (p:=l) S eH (fun h=>(fq _ h).elim em en)),gp,(apD S eG),(apD S eH),(apD S eI),gr,gs,(apG (p:=G) S eI (fun h=>(fq _ h).elim gt gu))⟩
       refine aO [0,1,2,3] (bA 11 [0,1,2,3]) 7 kr kr<|pN 4 (rgq 28 4) [(28,bp c),(29,vI d.1),(30,vI d.2.1),(31,bp c)]<|aa<|ak<|zx7 [(4,bA 11 (rgq 0 5)),(5,bA 11 [0,1,2,3,5]),(9,bA 11 [0,1,2,3,9])] 6 kr kr ⟨?_,?_,?_,trivial⟩
       ·refine dI cj (aY af c d.2.2.2 (bf [63]) dR (a6.grown f nb) o eq) ?_;rintro lA lB ⟨M,rfl,fs⟩;refine ⟨(fun _=>trivial),?_⟩;refine aa<|ak<|zx7 [(5,bA 11 (rgq 0 6)),(9,bA 11 [0,1,2,3,4,9])] 5 kr kr ⟨?_,?_,trivial⟩
        ·exact zwa (t:=25) (b:=a5) (t':=25) (fr:=(0,0)) (bj i.1 q r s w) [] (fun _=>trivial) rfl rfl rfl kr kr kr kr (zjN ((a7.grown f nb).grown M (aB eo))) rfl<|aa<|bc [0,2,28,29,30,32,33] (σ':=[(0,bp c),(2,bp l),(28,bp c),(29,vI d.1),(30,vI d.2.1),(32,vB o.1),(33,.agg (bj i.1 q r s w))]) kr<|ak<|have gw:=aW A f.size;have gx:=aW B f.size;kk _ _ ⟨rfl,(ao (ao W f nb) M bW),M.size,fs,((c2.grown f nb).grown M (aB a0)),((c3.grown f A nb).grown M gw (aB (xq O H z))),(aW gw M.size),((c4.grown f B nb).grown M gx (aB (xq P H z))),(aW gx M.size)⟩
        ·refine dc bp dJ 25 ci rfl rfl kr kr<|fun K lk a3 jV cv kV=>⟨(fun _=>trivial),?_⟩;exact aa<|bc [0,2,3,7,28,29,30,32] (σ':=[(0,bp c),(2,bp l),(3,bp a5),(7,bp K),(28,bp c),(29,vI d.1),(30,vI d.2.1),(32,vB o.1)]) kr<|ak<|have gy:=aW A f.size;have ft:=aW gy M.size;have gz:=aW B f.size;have fu:=aW gz M.size;have hN:m.heap.size<=K:=cM cv (ao (ao W f nb) M bW).size;have fv:=cy ((cm ((a7.grown f nb).grown M (aB eo))) _ rfl) ((bT cv) _ rfl);have gA:=dn d8 fv;hG _ _ ⟨K,rfl,(ao (ao (ao W f nb) M bW) a3 nb),(nt M.size a3.size),(fs.grown a3 nb),(((c2.grown f nb).grown M (aB a0)).grown a3 nb),(((c3.grown f A nb).grown M gy (aB (xq O H z))).grown a3 ft nb),(aW ft a3.size),(((c4.grown f B nb).grown M gz (aB (xq P H z))).grown a3 fu nb),(aW fu a3.size),(((a7.grown f nb).grown M (aB eo)).grown a3 nb),jV,hN,(dL cv fs),Nat.ne_of_lt gA,Nat.ne_of_lt fv,(apH cv fs),ng gA,(apF cv ft),(apF cv fu),ng fv⟩
       ·have ei:=a7.grown f nb;refine zwa (t:=25) (b:=a5) (t':=25) (fr:=(0,0)) (bj i.1 q r s w) [] (fun _=>trivial) rfl rfl rfl kr kr kr kr (zjN ei) rfl<|aa<|ak<|zx7 [(4,bA 11 (rgq 0 6)),(6,bA 11 [0,1,2,3,5,6]),(9,bA 11 [0,1,2,3,5,9])] 5 kr kr ⟨?_,?_,?_,trivial⟩
        ·refine dI cj (aY af c d.2.2.2 (bf [63]) dR (a6.grown f nb) o eq) ?_;rintro ll lm ⟨dP,rfl,jW⟩;refine ⟨(fun _=>trivial),?_⟩;exact aa<|bc [0,2,28,29,30,32,33] (σ':=[(0,bp c),(2,bp l),(28,bp c),(29,vI d.1),(30,vI d.2.1),(32,vB o.1),(33,.agg (bj i.1 q r s w))]) kr<|ak<|have gB:=aW A f.size;have gC:=aW B f.size;kk _ _ ⟨rfl,(ao (ao W f nb) dP bW),dP.size,jW,((c2.grown f nb).grown dP (aB a0)),((c3.grown f A nb).grown dP gB (aB (xq O H z))),(aW gB dP.size),((c4.grown f B nb).grown dP gC (aB (xq P H z))),(aW gC dP.size)⟩
        ·refine dc (fun b=>.slice (ro b) 1 1) (bj i.1 q r s w) 25 ci rfl rfl kr kr<|fun x fO V jX T kW=>⟨(fun _=>trivial),?_⟩;obtain ⟨cb,e⟩:∃ X:Nat->Prop,X=(fun k=>E k∨F k):=⟨_,rfl⟩;have gD:=aW A f.size;have gE:=aW B f.size;have gF:∀ k,cb k->k<dR.heap.size:=fun k h=>by rw[e]at h;exact (h).elim (fun h=>gD k h) (fun h=>gE k h)
         have d6:∀ k,cb k->k<fO.heap.size:=fun k h=>cy (gF k h) V.size;have gG:∀ k,cb k->Z k∨m.heap.size<=k:=fun k h=>by rw[e]at h;exact (h).elim (fun h=>O k h) (fun h=>P k h)
         have gH:=(al f V);have eJ:ag pcE 25 fO cb (ro x) 1 ([Pc.of i.1]:List Pc):=bF jX (by rw[e];exact ⟨[vI i.1.1,vI i.1.2.1,vI i.1.2.2.1,vB i.1.2.2.2.1,vB i.1.2.2.2.2.1,vL q i.1.2.2.2.2.2.1 r,vL s i.1.2.2.2.2.2.2 w],[],rfl,zv8 ((c3.grown gH A nb).wide (fun _ h=>(.inl h))) ((c4.grown gH B nb).wide (fun _ h=>(.inr h))),rfl⟩) (show 1<=maxLen by decide) (fun h=>dy T (gF _ h));have fw:∀ k,cb k->(fun k=>E k∨F k) k:=fun k h=>by rw[e]at h;exact h
         clear e;have eK:=ao W f nb;have gI:Lo m (ro x):=dw T eK.size;have ej:=a6.grown f nb;have gJ:=apD T ej;have fx:=apG (p:=c) T ej (fun h=>(fw _ h).elim (xq O H z) (xq P H z));have eL:=c2.grown f nb;have gK:=apD T eL;have gL:=apG (p:=l) T eL (fun h=>(fw _ h).elim em en);have kX:Naq (ro x) E:=fun g e hx=>nl (bV T g e) (gD _ hx);have kY:Naq (ro x) F:=fun g e hx=>nl (bV T g e) (gE _ hx);have kZ:=apD T ei;have k0:=apG (p:=a5) T ei (fun h=>(fw _ h).elim fJ fK);refine aa<|ak<|zx7 [(4,bA 11 (rgq 0 7)),(9,bA 11 [0,1,2,3,5,6,9])] 4 kr kr ⟨?_,?_,trivial⟩
         ·refine dI cj (aY af c d.2.2.2 (bf [63]) fO (ej.grown V nb) o eq) ?_;rintro ln lo ⟨ek,rfl,jY⟩;refine ⟨(fun _=>trivial),?_⟩;exact aa<|bc [0,2,28,29,30,32,34] (σ':=[(0,bp c),(2,bp l),(28,bp c),(29,vI d.1),(30,vI d.2.1),(32,vB o.1),(34,vL (ro x) ([Pc.of i.1]:List Pc) 1)]) kr<|ak<|ht _ _ ⟨x,cb,rfl,(ao (ao eK V nb) ek bW),(nt V.size ek.size),jY,((eL.grown V nb).grown ek (aB a0)),(eJ.grown ek d6 (db (aB fx))),(aW d6 ek.size),gI,gG,fx,gL,gJ,gK⟩
         ·refine dc bp dJ 25 ci rfl rfl kr kr<|fun L lp eM jZ cw k1=>⟨(fun _=>trivial),?_⟩;exact aa<|bc [0,2,7,28,29,30,31,34] (σ':=[(0,bp c),(2,bp l),(7,bp L),(28,bp c),(29,vI d.1),(30,vI d.2.1),(31,bp c),(34,vL (ro x) ([Pc.of i.1]:List Pc) 1)]) kr<|ak<|have fy:=(al V eM);have hO:m.heap.size<=L:=cM cw (ao eK V nb).size;have gM:=ej.grown V nb;have gN:=dn d8 (cy ((cm (ei.grown V nb)) _ rfl) ((bT cw) _ rfl));have j0:Naq (ro x) (· =L):=fun g e hx=>nl ((bT cw) _ hx) ((fun k (hk:aJ (ro x)=some k∨cb k)=>hk.elim (fun h=>eJ.lt k h) (fun h=>d6 k h)) g (.inl e));have j1:¬ (fun k=>aJ (ro x)=some k∨cb k) L:=fun hx=>nl ((bT cw) _ rfl) ((fun k (hk:aJ (ro x)=some k∨cb k)=>hk.elim (fun h=>eJ.lt k h) (fun h=>d6 k h)) _ hx);hI _ _ ⟨L,x,cb,rfl,(ao eK fy nb),(nt V.size eM.size),(ej.grown fy nb),(eL.grown fy nb),jZ,hO,(eJ.grown eM d6 nb),(aW d6 eM.size),gI,gG,fx,(dL cw gM),gL,Nat.ne_of_lt gN,gJ,gK,j0,(apH cw gM),ng gN,j1⟩
        ·refine dc bp dJ 25 ci rfl rfl kr kr<|fun G lq gO j2 cx k2=>⟨(fun _=>trivial),?_⟩;exact aa<|bc [0,2,7,28,29,30,31,33] (σ':=[(0,bp c),(2,bp l),(7,bp G),(28,bp c),(29,vI d.1),(30,vI d.2.1),(31,bp c),(33,.agg (bj i.1 q r s w))]) kr<|ak<|have dQ:=(al f gO);have hP:m.heap.size<=G:=cM cx (ao W f nb).size;have gP:=a6.grown f nb;have gQ:=dn d8 (cy ((cm ei) _ rfl) ((bT cx) _ rfl));hL _ _ ⟨G,rfl,(ao W dQ nb),gO.size,(a6.grown dQ nb),(c2.grown dQ nb),(c3.grown dQ A nb),(aW A dQ.size),(c4.grown dQ B nb),(aW B dQ.size),j2,hP,(dL cx gP),Nat.ne_of_lt gQ,(apH cx gP),ng gQ,(apF cx (aW A f.size)),(apF cx (aW B f.size))⟩
       ·refine dc bp dJ 25 ci rfl rfl kr kr<|fun ev ko eN gR I k3=>⟨(fun _=>trivial),?_⟩;refine aa<|ak<|zx7 [(4,bA 11 [0,1,2,3,4,9]),(5,bA 11 [0,1,2,3,5,9])] 5 kr kr ⟨?_,?_,trivial⟩
        ·have b2:=(al f eN);refine dI cj (aY af c d.2.2.2 (bf [63]) ko (a6.grown b2 nb) o eq) ?_;rintro lr ls ⟨a4,rfl,j3⟩;refine ⟨(fun _=>trivial),?_⟩;exact aa<|bc [0,2,3,7,28,29,30,32] (σ':=[(0,bp c),(2,bp l),(3,bp a5),(7,bp ev),(28,bp c),(29,vI d.1),(30,vI d.2.1),(32,vB o.1)]) kr<|ak<|have gS:=aW A b2.size;have gT:=aW B b2.size;have gU:=a6.grown f nb;have gV:=dL I gU;have hQ:m.heap.size<=ev:=cM I (ao W f nb).size;have fz:=cy ((cm (a7.grown f nb)) _ rfl) ((bT I) _ rfl);have gW:=dn d8 fz;hG _ _ ⟨ev,rfl,(ao (ao W b2 nb) a4 bW),(nt eN.size a4.size),j3,((c2.grown b2 nb).grown a4 (aB a0)),((c3.grown b2 A nb).grown a4 gS (aB (xq O H z))),(aW gS a4.size),((c4.grown b2 B nb).grown a4 gT (aB (xq P H z))),(aW gT a4.size),((a7.grown b2 nb).grown a4 (aB eo)),(gR.grown a4 (aB gV)),hQ,gV,Nat.ne_of_lt gW,Nat.ne_of_lt fz,(apH I gU),ng gW,(apF I (aW A f.size)),(apF I (aW B f.size)),ng fz⟩
        ·have b3:=(al f eN);exact zwa (t:=25) (b:=a5) (t':=25) (fr:=(0,0)) (bj i.1 q r s w) [] (fun _=>trivial) rfl rfl rfl kr kr kr kr (zjN (a7.grown b3 nb)) rfl<|aa<|bc [0,2,7,28,29,30,31,33] (σ':=[(0,bp c),(2,bp l),(7,bp ev),(28,bp c),(29,vI d.1),(30,vI d.2.1),(31,bp c),(33,.agg (bj i.1 q r s w))]) kr<|ak<|have hR:m.heap.size<=ev:=cM I (ao W f nb).size;have gX:=a6.grown f nb;have gY:=dn d8 (cy ((cm (a7.grown f nb)) _ rfl) ((bT I) _ rfl));hL _ _ ⟨ev,rfl,(ao W b3 nb),eN.size,(a6.grown b3 nb),(c2.grown b3 nb),(c3.grown b3 A nb),(aW A b3.size),(c4.grown b3 B nb),(aW B b3.size),gR,hR,(dL I gX),Nat.ne_of_lt gY,(apH I gX),ng gY,(apF I (aW A f.size)),(apF I (aW B f.size))⟩
      ·rintro a dV ⟨eU,eV,kp,eW,eX,kq,bd,j4,j5,j6,gZ,j7,j8,g0,j9,ka,k4,kb,k5,k6,g1,kc,kd,kA,hq⟩;refine gi hq ?_;clear j5 hh hg hf he hd a7 B c4 A c3 c2 W fM fL fK fJ eo d8 fU fI fH en em fG fF a6 dU hb km ha dT kl c1 g9 dS P e4 O e3 e2 e1 g8 e0 g7 fE fA eQ ki kw eZ fT g6;refine aE<|aI<|p1 37 (bp c)<|ad N<|fun ks ke N=>ar kr rfl kr zta (cX af c eb.1 (bf [42,43,63,123]) dV g1 ks ke) ?_;rintro lu lv ⟨b4,rfl⟩;refine aa<|bC N (fun kf N=>?_) (fun kf N=>?_)
       ·cases N
       ·refine ay<|aI<|cH 25 bd (bj eb.2 eU eV eW eX) (bD (kd.grown b4 nb))<|aH 25 0 (.agg (bj eb.2 eU eV eW eX)) (bj eb.2 eU eV eW eX) (kc.grown b4 nb) kr kr kr<|fun kt d7 kg k7=>aa<|ai ?_
        obtain rfl:=sj N;refine au (aj [.agg (bj eb.2 eU eV eW eX)] rfl ⟨⟨⟨l,0,none⟩,kr,run_loadVar_row kt l _ 25 _ _ _ kg cd rfl kr⟩,trivial⟩ ?_);have g2:=aW gZ b4.size;have g3:=aW g0 b4.size;exact ⟨(ao (ao j4 b4 nb) d7 (dp eA)),eU,eV,kp,eW,eX,kq,rfl,((j6.grown b4 gZ nb).grown d7 g2 (aB ka)),sxq (aW g2 d7.size) j7,((j8.grown b4 g0 nb).grown d7 g3 (aB kb)),sxq (aW g3 d7.size) j9,((g1.grown b4 nb).grown d7 (aB hc))⟩
set_option maxHeartbeats 4000000 in
set_option maxRecDepth 100000 in
theorem zw2 (af:Nat) (m:zlu af) (t:zkX af) (u:zqM af) (w:zql af) (f:zqp af) (b:Nat) (bl:dk) (j:World) (i:Nat->Prop) (l:∀ k,i k->k<j.heap.size∧k≠b) (Z:aV j b 117 (cL bl)) (d3:Rd bE j i (ro 0) 256 co) (d4:Rd (prE (iE .u8) (iE .u8)) j i (ro 1) 16 cJ) (r0:cn × dk) (a:zyc (af+1) bl=some r0):
    Cs 127 [bp b] j (dH fun v w'=>j.grownBy w' (some b)∧∃ (ba:bh) (bv:Nat),∃ (ah:Nat->Prop),∃ (an:bh) (ax:Nat),∃ (a0:Nat->Prop),v=dD [.agg (bj r0.1 ba bv an ax)]∧Rd bK w' ah ba bv r0.1.2.2.2.2.2.1∧(Sxb ah w' i j)∧Rd pcE w' a0 an ax r0.1.2.2.2.2.2.2∧(Sxb a0 w' i j)∧aV w' b 117 (cL r0.2)):=by
 have d5:j.grownBy j (some b):=cq _ _;rw[zyc.eq_2]at a;refine aL Tryz.func127 rfl Tryz.ntmps127 kr<|bQ [(0,bp b)]<|have eO:=Z.lt;aI<|aD bp dJ 25 kr kr ?_
 intro n w2 d6 eE Q eZ;refine cg<|aG<|aI<|p1 4 (bp b)<|ad a<|fun r7 eF a=>ar kr rfl kr cj (aY af b bl (bf [40,63,58]) w2 (Z.grown d6 nb) r7 eF) ?_;rintro e0 eG ⟨bs,rfl,d9⟩;refine p1 3 (vB r7.1)<|aa<|bC a (fun ea a=>?_) (fun ea a=>?_)
 ·cases a
 ·refine aI<|p1 10 (bp b)<|ad a<|fun bA eb a=>ar kr rfl kr cj (aY af b r7.2 (bf [40,63,61]) eG d9 bA eb) ?_;rintro e1 eH ⟨b0,rfl,ec⟩;refine p1 9 (vB bA.1)<|aa<|bC a (fun ed a=>?_) (fun ed a=>?_)
  ·cases a
  ·refine aI<|p1 16 (bp b)<|ad a<|fun b2 ee a=>ar kr rfl kr cj (aY af b bA.2 (bf [40,63,33]) eH ec b2 ee) ?_;rintro e2 eI ⟨b3,rfl,ef⟩;refine p1 15 (vB b2.1)<|aa<|bC a (fun eg a=>?_) (fun eg a=>?_)
   ·cases a
   ·refine aI<|p1 22 (bp b)<|ad a<|fun b4 eh a=>ar kr rfl kr cj (aY af b b2.2 (bf [40,63]) eI ef b4 eh) ?_;rintro e3 eJ ⟨b5,rfl,ei⟩;refine p1 21 (vB b4.1)<|aa<|bC a (fun ej a=>?_) (fun ej a=>?_)
    ·cases a
    ·refine aI<|p1 27 (bp b)<|bQ [(0,bp b),(2,bp n),(27,bp b)]<|ad a<|fun d ek a=>ar kr rfl kr cj (aY af b b4.2 (bf [40]) eJ ei d ek) ?_;rintro e4 eK ⟨b7,rfl,R⟩;refine p1 26 (vB d.1)<|aa<|have q:j.heap.size<=n:=cM Q d5.size;have ca:=apH Q Z;have c:=dL Q Z;have cb:=ao (ao (ao (ao (ao (ao d5 d6 nb) bs bW) b0 bW) b3 bW) b5 bW) b7 bW;have x:=((((eE.grown bs (aB c)).grown b0 (aB c)).grown b3 (aB c)).grown b5 (aB c)).grown b7 (aB c);bC a (fun el a=>?_) (fun el a=>?_)
     ·refine aI<|pN 3 [29,30,31] [(29,bp b),(31,pt b 2)]<|bu 3 R 2 rfl<|pN 3 [33,34,35] [(33,vI (wI (d.2.2.2.1+1))),(35,pt b 2)]<|aH 3 2 (vI (wI (d.2.2.2.1+1))) #[vS d.2.1,vI d.2.2.1,vI (wI (d.2.2.2.1+1)),vB d.2.2.2.2.1,vB d.2.2.2.2.2] R kr kr kr<|fun cc S ch eQ=>bL<|pN 4 (rgq 36 4) [(36,bp b),(39,pt b 2)]<|bu 3 ch 2 rfl<|p1 41 (.agg #[vI 7,vI (wI (d.2.2.2.1+1)),vI 0,vB false,vB false,vL none ([]:List aU) 0,vL none ([]:List Pc) 0])<|ad a<|fun a1 em a=>have o:=ao cb S bW;ar kr rfl kr zoM (f b (d.2.1,d.2.2.1,wI (d.2.2.2.1+1),d.2.2.2.2.1,d.2.2.2.2.2) none 0 none 0 (7,wI (d.2.2.2.1+1),0,false,false,([]:List aU),([]:List Pc)) cc (fun k=>nXq k∨i k) (fun k hk=>⟨(hk).elim (fun h=>h.elim) (fun h=>(dl l o.size) k h),fun e=>(hk).elim (fun h=>((h:False).elim)) (fun h=>(fun (hx:i b)=>(l _ hx).2 rfl) (e ▸ h))⟩) ch ((cN bK cc nXq none 0).wide (fun k hk=>(.inl hk))) ((cN pcE cc nXq none 0).wide (fun k hk=>(.inl hk))) ((rg d3 o l).wide (fun k hk=>(.inr hk))) ((rg d4 o l).wide (fun k hk=>(.inr hk))) a1 em) ?_;rintro e5 d7 ⟨ck,a2,a3,a4,a5,a6,a7,rfl,en,T,eo,U,ep⟩;have cs:∀ k,a4 k->k<d7.heap.size:=fun k hk=>(T k hk).1;have eq:∀ k,a4 k->i k∨j.heap.size<=k:=fun k hk=>(T k hk).2.elim (fun h=>(h).elim (fun h=>h.elim) (fun h=>(fun k (hk:i k)=>Or.inl hk) k h)) (fun h=>.inr (Nat.le_trans o.size h));have cv:∀ k,a7 k->k<d7.heap.size:=fun k hk=>(U k hk).1;have er:∀ k,a7 k->i k∨j.heap.size<=k:=fun k hk=>(U k hk).2.elim (fun h=>(h).elim (fun h=>h.elim) (fun h=>(fun k (hk:i k)=>Or.inl hk) k h)) (fun h=>.inr (Nat.le_trans o.size h));refine aH 25 0 (.agg (bj a1.1 a2 a3 a5 a6)) (bj a1.1 a2 a3 a5 a6) ((x.grown S (aB c)).grown ck (aB c)) kr kr kr<|fun eL p es eR=>aa<|ai ?_
      obtain rfl:=sj a;refine au (aj [.agg (bj a1.1 a2 a3 a5 a6)] rfl ⟨⟨⟨n,0,none⟩,kr,run_loadVar_row eL n _ 25 _ _ _ es cd rfl kr⟩,trivial⟩ ?_);have cw:=x.grown S (aB c);have et:¬ a4 n:=fun h=>((T _ h).2.elim (fun h=>(h).elim (fun h=>by cases h) (fun h=>((fun (hx:i n)=>nl q (l _ hx).1)) h)) (fun h=>nl h (cw.lt)));have eu:¬ a7 n:=fun h=>((U _ h).2.elim (fun h=>(h).elim (fun h=>by cases h) (fun h=>((fun (hx:i n)=>nl q (l _ hx).1)) h)) (fun h=>nl h (cw.lt)));exact ⟨(ao (ao o ck bW) p (dp q)),a2,a3,a4,a5,a6,a7,rfl,(en.grown p cs (aB et)),sxq (aW cs p.size) eq,(eo.grown p cv (aB eu)),sxq (aW cv p.size) er,(ep.grown p (aB ca))⟩
     ·refine aI<|p1 44 (bp b)<|ad a<|fun cx ev a=>ar kr rfl kr cj (aY af b d.2 (bf [91]) eK R cx ev) ?_;rintro e6 eM ⟨V,rfl,ew⟩;refine p1 43 (vB cx.1)<|aa<|bC a (fun ex a=>?_) (fun ex a=>?_)
      ·cases a
      ·refine aI<|p1 49 (bp b)<|ad a<|fun W c2 a=>ar kr rfl kr cj (aY af b cx.2 (bf [92]) eM ew W c2) ?_;rintro eS ey ⟨y,rfl,c3⟩;refine p1 48 (vB W.1)<|aa<|bC a (fun c4 a=>?_) (fun c4 a=>?_)
       ·cases a
       ·refine aI<|p1 54 (bp b)<|ad a<|fun X c5 a=>ar kr rfl kr cj (aY af b W.2 (bf [46]) ey c3 X c5) ?_;rintro eT ez ⟨z,rfl,c7⟩;refine p1 53 (vB X.1)<|aa<|bC a (fun c8 a=>?_) (fun c8 a=>?_)
        ·cases a
        ·refine aI<|p1 60 (bp b)<|ad a<|fun A c9 a=>ar kr rfl kr cj (aY af b X.2 (bf [94]) ez c7 A c9) ?_;rintro eU eA ⟨B,rfl,ds⟩;refine p1 59 (vB A.1)<|bQ [(0,bp b),(2,bp n),(59,vB A.1)]<|aa<|bC a (fun dN a=>?_) (fun dN a=>?_)
         ·cases a
         ·refine aI<|p1 66 (bp b)<|ad a<|fun C dO a=>ar kr rfl kr cj (aY af b A.2 (bf [36]) eA ds C dO) ?_;rintro eV eB ⟨D,rfl,a8⟩;refine p1 65 (vB C.1)<|aa<|bC a (fun dP a=>?_) (fun dP a=>?_)
          ·cases a
          ·refine aI<|p1 72 (bp b)<|ad a<|fun c0 dQ a=>ar kr rfl kr zta (cX af b C.2 (bf [42,43,63,123,125,93]) eB a8 c0 dQ) ?_;rintro eW eC ⟨r,rfl⟩;refine p1 71 (vB c0)<|aa<|bC a (fun dR a=>?_) (fun dR a=>?_)
           ·cases a
           ·refine ay<|bB<|aI<|pN 2 [76,77] [(76,bp b),(77,bp b)]<|ad a<|fun E dS a=>have s:=ao (ao (ao (ao (ao (ao cb V bW) y bW) z bW) B bW) D bW) r nb;ar kr rfl kr zn3 (zvf af b C.2 eC i (jg l s) (a8.grown r nb) (rg d3 s l) (rg d4 s l) E dS) ?_;rintro eX Y ⟨F,rfl,dT⟩;refine p1 79 (.agg #[vI 1,vI E.1,vI 0,vB false,vB false,vL none ([]:List aU) 0,vL none ([]:List Pc) 0])<|ad a<|fun G dU a=>ar kr rfl kr zvk (cp af b E.2 none 0 none 0 (1,E.1,0,false,false,([]:List aU),([]:List Pc)) Y nXq (fun k hk=>⟨hk.elim,fun e=>((hk:False).elim)⟩) dT (cN bK Y nXq none 0) (cN pcE Y nXq none 0) G dU) ?_;rintro eY c1 ⟨a9,H,I,J,K,L,M,rfl,dV,N,dW,O,dX⟩;have bd:∀ k,J k->k<c1.heap.size:=fun k hk=>(N k hk).1;have P:=ao s F bW;have dY:∀ k,J k->i k∨j.heap.size<=k:=fun k hk=>(N k hk).2.elim (fun h=>h.elim) (fun h=>.inr (Nat.le_trans P.size h));have be:∀ k,M k->k<c1.heap.size:=fun k hk=>(O k hk).1;have dZ:∀ k,M k->i k∨j.heap.size<=k:=fun k hk=>(O k hk).2.elim (fun h=>h.elim) (fun h=>.inr (Nat.le_trans P.size h));refine aH 25 0 (.agg (bj G.1 H I K L)) (bj G.1 H I K L) ((((((((x.grown V (aB c)).grown y (aB c)).grown z (aB c)).grown B (aB c)).grown D (aB c)).grown r nb).grown F (aB c)).grown a9 (aB c)) kr kr kr<|fun eD g d0 eN=>aa<|ai ?_
            obtain rfl:=sj a;refine au (aj [.agg (bj G.1 H I K L)] rfl ⟨⟨⟨n,0,none⟩,kr,run_loadVar_row eD n _ 25 _ _ _ d0 cd rfl kr⟩,trivial⟩ ?_);have bg:=((((((x.grown V (aB c)).grown y (aB c)).grown z (aB c)).grown B (aB c)).grown D (aB c)).grown r nb).grown F (aB c);have d1:¬ J n:=fun h=>((N _ h).2.elim (fun h=>by cases h) (fun h=>nl h (bg.lt)));have d2:¬ M n:=fun h=>((O _ h).2.elim (fun h=>by cases h) (fun h=>nl h (bg.lt)));exact ⟨(ao (ao P a9 bW) g (dp q)),H,I,J,K,L,M,rfl,(dV.grown g bd (aB d1)),sxq (aW bd g.size) dY,(dW.grown g be (aB d2)),sxq (aW be g.size) dZ,(dX.grown g (aB ca))⟩
set_option maxHeartbeats 4000000 in
set_option maxRecDepth 100000 in
theorem zwb (af:Nat) (c:zlu af) (B:zkX af) (C:zqM af) (F:zql af) (E:zqp af) (f:Nat) (bl:dk) (am:bh) (aC:Nat) (y:bh) (z:Nat) (a:cn) (m:World) (l:Nat->Prop) (j:∀ k,l k->k<m.heap.size∧k≠f) (T:aV m f 117 (cL bl)) (aS:Rd bK m l am aC a.2.2.2.2.2.1) (ea:Rd pcE m l y z a.2.2.2.2.2.2) (eb:Rd bE m l (ro 0) 256 co) (ec:Rd (prE (iE .u8) (iE .u8)) m l (ro 1) 16 cJ) (r0:cn × dk) (x:zyy (af+1) bl a=some r0):
    Cs 150 [bp f,.agg (bj a am aC y z)] m (dH fun v w'=>m.grownBy w' (some f)∧∃ (ba:bh) (bv:Nat),∃ (a4:Nat->Prop),∃ (a5:bh) (a6:Nat),∃ (a7:Nat->Prop),v=dD [.agg (bj r0.1 ba bv a5 a6)]∧Rd bK w' a4 ba bv r0.1.2.2.2.2.2.1∧(Sxb a4 w' l m)∧Rd pcE w' a7 a5 a6 r0.1.2.2.2.2.2.2∧(Sxb a7 w' l m)∧aV w' f 117 (cL r0.2)):=by
 have bs:m.grownBy m (some f):=cq _ _;rw[zyy.eq_2]at x;refine aL Tryz.func150 rfl Tryz.ntmps150 kr<|bQ [(0,bp f),(1,.agg (bj a am aC y z))]<|have bA:=T.lt;aI<|aD bp (bj a am aC y z) 25 kr kr ?_
 intro b1 w2 b0 b2 Z ep;refine aD bp dJ 25 kr kr<|fun U w8 b3 ah A eh=>bL<|p1 5 (bp f)<|ad x<|fun i dZ x=>have b4:=(al b0 b3);have t:=ao bs b4 nb;ar kr rfl kr zpt (c f bl w8 l (jg j t) (T.grown b4 nb) (rg eb t j) (rg ec t j) i dZ) ?_;rintro eq b5 ⟨an,dT,dU,V,dV,dW,W,rfl,d0,G,d1,H,ax⟩;have a0:∀ k,V k->k<b5.heap.size:=fun k hk=>(G k hk).1;have ca:∀ k,V k->l k∨m.heap.size<=k:=fun k hk=>(G k hk).2.elim (fun h=>(fun k (hk:l k)=>Or.inl hk) k h) (fun h=>.inr (Nat.le_trans t.size h));have a1:∀ k,W k->k<b5.heap.size:=fun k hk=>(H k hk).1;have cb:∀ k,W k->l k∨m.heap.size<=k:=fun k hk=>(H k hk).2.elim (fun h=>(fun k (hk:l k)=>Or.inl hk) k h) (fun h=>.inr (Nat.le_trans t.size h));refine aD (fun b=>.slice (ro b) 1 1) (bj i.1 dT dU dV dW) 25 kr kr ?_;intro n dX o d2 d ei;obtain ⟨r,e⟩:∃ X:Nat->Prop,X=(fun k=>V k∨W k):=⟨_,rfl⟩;have cc:∀ k,r k->k<b5.heap.size:=fun k h=>by rw[e]at h;exact (h).elim (fun h=>a0 k h) (fun h=>a1 k h)
 have ch:∀ k,r k->k<dX.heap.size:=fun k h=>cy (cc k h) o.size;have ck:∀ k,r k->l k∨m.heap.size<=k:=fun k h=>by rw[e]at h;exact (h).elim (fun h=>ca k h) (fun h=>cb k h)
 have d3:ag pcE 25 dX r (ro n) 1 ([Pc.of i.1]:List Pc):=bF d2 (by rw[e];exact ⟨[vI i.1.1,vI i.1.2.1,vI i.1.2.2.1,vB i.1.2.2.2.1,vB i.1.2.2.2.2.1,vL dT i.1.2.2.2.2.2.1 dU,vL dV i.1.2.2.2.2.2.2 dW],[],rfl,zv8 ((d0.grown o a0 nb).wide (fun _ h=>(.inl h))) ((d1.grown o a1 nb).wide (fun _ h=>(.inr h))),rfl⟩) (show 1<=maxLen by decide) (fun h=>dy d (cc _ h));have a2:∀ k,r k->(fun k=>V k∨W k) k:=fun k h=>by rw[e]at h;exact h
 clear e;have cs:=ao t an bW;have cv:Lo m (ro n):=dw d cs.size;have ej:=apD d ax;have cw:=apG (p:=f) d ax (fun h=>(a2 _ h).elim (xq ca j bA) (xq cb j bA));have cx:=dL Z T;have a3:=(b2.grown b3 nb).grown an (aB cx);have ek:=apD d a3;have I:m.heap.size<=b1:=cM Z bs.size;have c0:=b2.grown b3 nb;have c1:=T.grown b0 nb;have J:=dL A c1;have K:=ah.grown an (aB J);have el:=apD d K;have s:m.heap.size<=U:=cM A (ao bs b0 nb).size;have c2:=apG (p:=U) d K (fun h=>(a2 _ h).elim (apE G (xlo s j) ah.lt) (apE H (xlo s j) ah.lt));have em:Naq (ro n) V:=fun g e hx=>nl (bV d g e) (a0 _ hx);have en:Naq (ro n) W:=fun g e hx=>nl (bV d g e) (a1 _ hx);refine p1 8 (pt b1 6)<|aH 23 6 (vL (ro n) ([Pc.of i.1]:List Pc) 1) #[vI a.1,vI a.2.1,vI a.2.2.1,vB a.2.2.2.1,vB a.2.2.2.2.1,vL am a.2.2.2.2.2.1 aC,vL (ro n) ([Pc.of i.1]:List Pc) 1] (a3.grown o nb) kr kr kr<|fun ed u d4 eo=>cg<|aI<|p1 9 (bp f)<|ad x<|fun c3 d5 x=>ar kr rfl kr cj (aY af f i.2 (bf [41]) ed ((ax.grown o nb).grown u (aB (apH Z T))) c3 d5) ?_;rintro er ee ⟨w,rfl,d6⟩;refine p1 11 (vB (!c3.1))<|aa<|bC x (fun d7 x=>?_) (fun d7 x=>?_)
 ·cases x
 ·refine ay<|aI<|p1 14 (bp f)<|cH 25 b1 #[vI a.1,vI a.2.1,vI a.2.2.1,vB a.2.2.2.1,vB a.2.2.2.2.1,vL am a.2.2.2.2.2.1 aC,vL (ro n) ([Pc.of i.1]:List Pc) 1] (bD (d4.grown w (aB cx)))<|ad x<|fun a8 d8 x=>have D:=ao (ao (ao cs o nb) u (dp I)) w bW;have c4:=aW ch u.size;have c5:=(d3.grown u ch (db (aB (apG (p:=b1) d a3 (fun h=>(a2 _ h).elim (apE G (xlo I j) c0.lt) (apE H (xlo I j) c0.lt)))))).grown w c4 (db (aB cw));ar kr rfl kr zvk (cp af f c3.2 am aC (ro n) 1 (a.1,a.2.1,a.2.2.1,a.2.2.2.1,a.2.2.2.2.1,a.2.2.2.2.2.1,([Pc.of i.1]:List Pc)) ee (fun k=>l k∨(fun k=>aJ (ro n)=some k∨r k) k) (fun k hk=>⟨(hk).elim (fun h=>(dl j D.size) k h) (fun h=>(fun k (hk:aJ (ro n)=some k∨r k)=>hk.elim (fun h=>c5.lt k h) (fun h=>(aW c4 w.size) k h)) k h),fun e=>(hk).elim (fun h=>(fun (hx:l f)=>(j _ hx).2 rfl) (e ▸ h)) (fun h=>cw (e ▸ h))⟩) d6 ((rg aS D j).wide (fun k hk=>(.inl hk))) ((c5.rd (Y:=fun k=>aJ (ro n)=some k∨r k) (fun _ h=>.inr h) (fun g e=>.inl e)).wide (fun k hk=>(.inr hk))) a8 d8) ?_;rintro es dY ⟨c7,L,M,N,O,P,Q,rfl,c9,R,ds,S,dN⟩;have a9:∀ k,N k->k<dY.heap.size:=fun k hk=>(R k hk).1;have dO:∀ k,N k->l k∨m.heap.size<=k:=fun k hk=>(R k hk).2.elim (fun h=>(h).elim (fun h=>(fun k (hk:l k)=>Or.inl hk) k h) (fun h=>(fun k (hk:aJ (ro n)=some k∨r k)=>hk.elim (fun h=>Or.inr (cv k h)) (fun h=>ck k h)) k h)) (fun h=>.inr (Nat.le_trans D.size h));have bd:∀ k,Q k->k<dY.heap.size:=fun k hk=>(S k hk).1;have dP:∀ k,Q k->l k∨m.heap.size<=k:=fun k hk=>(S k hk).2.elim (fun h=>(h).elim (fun h=>(fun k (hk:l k)=>Or.inl hk) k h) (fun h=>(fun k (hk:aJ (ro n)=some k∨r k)=>hk.elim (fun h=>Or.inr (cv k h)) (fun h=>ck k h)) k h)) (fun h=>.inr (Nat.le_trans D.size h));have be:=cy ((cm b2) _ rfl) ((bT A) _ rfl);refine aH 25 0 (.agg (bj a8.1 L M O P)) (bj a8.1 L M O P) ((((K.grown o nb).grown u (aB (Nat.ne_of_lt be))).grown w (aB J)).grown c7 (aB J)) kr kr kr<|fun d9 q dQ ef=>aa<|ai ?_
  obtain rfl:=sj x;refine au (aj [.agg (bj a8.1 L M O P)] rfl ⟨⟨⟨U,0,none⟩,kr,run_loadVar_row d9 U _ 25 _ _ _ dQ cd rfl kr⟩,trivial⟩ ?_);have bg:=((K.grown o nb).grown u (aB (Nat.ne_of_lt be))).grown w (aB J);have dR:¬ N U:=fun h=>((R _ h).2.elim (fun h=>(h).elim (fun h=>((fun (hx:l U)=>nl s (j _ hx).1)) h) (fun h=>(c2) h)) (fun h=>nl h (bg.lt)));have dS:¬ Q U:=fun h=>((S _ h).2.elim (fun h=>(h).elim (fun h=>((fun (hx:l U)=>nl s (j _ hx).1)) h) (fun h=>(c2) h)) (fun h=>nl h (bg.lt)));exact ⟨(ao (ao D c7 bW) q (dp s)),L,M,N,O,P,Q,rfl,(c9.grown q a9 (aB dR)),sxq (aW a9 q.size) dO,(ds.grown q bd (aB dS)),sxq (aW bd q.size) dP,(dN.grown q (aB (apH A c1)))⟩
theorem zxx:∀ (af:Nat),zlu af∧zkX af∧zqM af∧zql af∧zqp af:=by
  intro af
  induction af with
  | zero=>refine ⟨?_,?_,?_,?_,?_⟩<;>first | (unfold zlu;intros;rename_i a;rw[zzU.eq_1]at a;cases a) | (unfold zkX;intros;rename_i a;rw[zzM.eq_1]at a;cases a) | (unfold zqM;intros;rename_i a;rw[zz2.eq_1]at a;cases a) | (unfold zql;intros;rename_i a;rw[zyc.eq_1]at a;cases a) | (unfold zqp;intros;rename_i a;rw[zyy.eq_1]at a;cases a)
  | succ af ih=>obtain ⟨i0,i1,i2,i3,i4⟩:=ih;exact ⟨zxi af i0 i1 i2 i3 i4,zx0 af i0 i1 i2 i3 i4,zx1 af i0 i1 i2 i3 i4,zw2 af i0 i1 i2 i3 i4,zwb af i0 i1 i2 i3 i4⟩

theorem zxb (af:Nat):
    zlu af:=
  (zxx af).1

theorem zwu (af:Nat) (b:Int) (d:ByteArray) (e:World) (o:ByteArray) (c:zyW af b d=some o):
    Cs 86 [vI b,vS d] e (G1 e [vS o]):=by
 have g:Bl e e:=Below.refl _ _;unfold zyW at c;refine aL Tryz.func86 rfl Tryz.ntmps86 kr<|bQ [(0,vI b),(1,vS d)]<|aI<|pN 1 [4] []<|cg<|aG<|aI<|pL [5,6,7] 5 (vB (b==10))<|aa<|bC c (fun p c=>?_) (fun p c=>?_)
 ·refine aI<|p1 4 (vS (bf [92,110]))<|aa<|ai ?_
  cases c;refine au (aj [vS (bf [92,110])] rfl ⟨kr,trivial⟩ ?_);exact ⟨ab g,rfl⟩
 ·refine aI<|pL [8,9,10] 8 (vB (b==9))<|aa<|bC c (fun q c=>?_) (fun q c=>?_)
  ·refine aI<|p1 4 (vS (bf [92,116]))<|aa<|ai ?_
   cases c;refine au (aj [vS (bf [92,116])] rfl ⟨kr,trivial⟩ ?_);exact ⟨ab g,rfl⟩
  ·refine aI<|ad c ?_;intro u f c
   refine aM (J:=fun a k=>Bl e k∧Sz e k∧Qa a 28 [(0,vI b),(11,vB u)]) ?_ ?_
   ·refine pL [12,13,14] 14 (vB (decide (b<128)))<|ce 14 f (fun r f=>?_) (fun r f=>?_)
    ·refine pN 3 [15,16,17] [(15,vS d),(17,vU (wB (b)))]<|ad f<|fun s t f=>ar kr rfl kr zrn (zxh af d (wB (b)) e s t) ?_;rintro w y ⟨i,rfl⟩;refine pL [11,19,20] 11 (vB (decide (s>=0)))<|aa ?_;cases f;exact gq fun a hq=>have l:=bg g i nb;⟨l,i.size,hq⟩
    ·refine pL [11,15,16,17,18,19,20] 11 (vB false)<|aa ?_;obtain rfl:=sj f;exact gq fun a hq=>⟨g,bJ,hq⟩
   ·rintro a k ⟨h,v,hq⟩;refine gi hq<|bC c (fun m c=>?_) (fun m c=>?_)
    ·refine aI<|pL [21,22] 22 (vR (wR (b)))<|zl7 (src:=21) (dst:=9) (kk:=.i32) (x:=(wR (b))) [] nofun rfl rfl rfl kr kr kr br rfl<|ad c<|fun j n c=>dB 9 n<|p1 4 (vS j)<|aa<|ai ?_
     obtain rfl:=sj c;refine au (aj [vS j] rfl ⟨kr,trivial⟩ ?_);exact ⟨ab h,rfl⟩
    ·refine ay<|bB<|aI<|pL [25,26] 26 (vR (wR (b)))<|zl7 (src:=21) (dst:=9) (kk:=.i32) (x:=(wR (b))) [] nofun rfl rfl rfl kr kr kr br rfl<|p1 4 (vS (Utf8.encode (wR (b))))<|aa<|ai ?_
     cases c;refine au (aj [vS (Utf8.encode (wR (b)))] rfl ⟨kr,trivial⟩ ?_);exact ⟨ab h,rfl⟩

theorem zt1 (af:Nat) (ac:bh) (ae:Nat) (d:bh) (e:Nat) (b:cn) (h:World) (O:Nat->Prop) (I:Lw O h) (aw:Rd bK h O ac ae b.2.2.2.2.2.1) (a6:Rd pcE h O d e b.2.2.2.2.2.2) (r0:ByteArray) (n:zxt af b=some r0):
    Cs 87 [.agg (bj b ac ae d e)] h (G1 h [vS r0]):=by
 have a8:Bl h h:=Below.refl _ _;unfold zxt at n;refine aL Tryz.func87 rfl Tryz.ntmps87 kr<|bQ [(0,.agg (bj b ac ae d e))]<|aI<|aD bp (bj b ac ae d e) 25 kr kr ?_
 intro F w2 a9 s b2 cb;refine pN 1 [2] []<|bL<|p1 3 (vS (bf [91]))<|cg<|aI<|p1 6 (pt F 3)<|bu 4 s 3 rfl<|aa<|ad n ?_;intro j7 i n
 refine aA (J:=fun a r=>Bl h r∧Sz w2 r∧aV r F 25 (bj b ac ae d e)∧Qa a 36 [(1,bp F),(3,vS j7)]) ?_ ?_
 ·have t:=bg a8 a9 nb;refine bC i (fun bd i=>?_) (fun bd i=>?_)
  ·refine az<|p1 8 (vS (bf [91]))<|ad i<|fun be P i=>dB 9 P<|p1 3 (vS be)<|aa ?_;obtain rfl:=sj i;exact gq fun a hq=>⟨t,bJ,s,hq⟩
  ·refine ay ?_;cases i;exact gq fun a hq=>⟨t,bJ,s,hq⟩
 ·rintro a r ⟨Q,b4,R,hq⟩;refine gi hq<|aE<|aI<|p1 10 (pt F 5)<|bu 22 R 5 rfl<|pN 2 [12,13] [(12,vI (lz b.2.2.2.2.2.1)),(13,vI 0)]<|aa<|ad n ?_;intro K i n
  refine aA (J:=fun a u=>Bl h u∧Sz r u∧Qa a 36 [(3,vS K)]) ?_ ?_
  ·refine aG<|bN (A:=fun (c:ByteArray × Int) a q=>Bl h q∧Sz r q∧Qa a 36 [(3,vS c.1),(11,vL ac b.2.2.2.2.2.1 ae),(12,vI (lz b.2.2.2.2.2.1)),(13,vI c.2)]) i ?_ ?_
   ·intro a hd hs bk;exact ⟨Q,bJ,hd,hs,dx bk⟩
   ·rintro c r2 g bl a q ⟨j,v,hq⟩;refine gi hq<|aI<|p1 14 (vB (decide (c.2<(lz b.2.2.2.2.2.1))))<|cg<|bC g (fun S g=>?_) (fun S g=>?_)
    ·refine ay<|aE<|aG<|aI<|ad g ?_;intro f w g
     refine cz .i64 2 (aw.below j I) w aN ?_;obtain ⟨_,⟨_,_,rfl,rfl,rfl⟩,T⟩:=aw.cellsK w;refine laq 37 (aq ac ((c.2:Int).toNat*2)) (bI f) (bD (T q (fun k hk=>j.block k (I k hk))))<|aD bp #[vI 0,vI 0] 37 kr kr<|fun m cc x U G b5=>aH 37 0 (.agg (bI f)) (bI f) U kr kr kr<|fun bn y z b7=>bL<|pN 2 [17,18] [(17,vS c.1),(18,bp m)]<|bu 3 z 0 rfl<|ad g<|fun bs V g=>ar kr rfl kr zrz (zwu af f.1 (bf [92,93,94,45,91]) bn bs V) ?_;rintro ch L ⟨o,rfl⟩;refine ad g<|fun B W g=>dB 9 W<|p1 3 (vS B)<|bL<|p1 22 (pt m 1) ?_
     have p:=z.grown o nb;refine bu 3 p 1 rfl<|p1 24 (bp m)<|bu 3 p 0 rfl<|p1 26 (vB (decide (f.2>f.1)))<|bQ [(3,vS B),(5,bp m),(11,vL ac b.2.2.2.2.2.1 ae),(12,vI (lz b.2.2.2.2.2.1)),(13,vI c.2),(26,vB (decide (f.2>f.1)))]<|aa<|ad g ?_;intro M l g
     refine aA (J:=fun a C=>Bl h C∧Sz L C∧Qa a 36 [(3,vS M),(11,vL ac b.2.2.2.2.2.1 ae),(12,vI (lz b.2.2.2.2.2.1)),(13,vI c.2)]) ?_ ?_
     ·have H:h.heap.size<=m:=cM G j.size;have D:=bg (bg (bg j x nb) y (bx H)) o nb;refine bC l (fun X l=>?_) (fun X l=>?_)
      ·refine az<|pN 2 [27,28] [(27,vS B),(28,pt m 1)]<|bu 3 p 1 rfl<|ad l<|fun bA Y l=>ar kr rfl kr zrz (zwu af f.2 (bf [92,93,94,45,91]) L bA Y) ?_;rintro ck cs ⟨E,rfl⟩;refine ad l<|fun cv Z l=>dB 9 Z<|ad l<|fun bE ah l=>dB 9 ah<|p1 3 (vS bE)<|aa ?_;obtain rfl:=sj l;exact gq fun a hq=>have an:=bg D E nb;⟨an,E.size,hq⟩
      ·refine ay ?_;obtain rfl:=sj l;exact gq fun a hq=>⟨D,bJ,hq⟩
     ·rintro a C ⟨ax,a0,hq⟩;refine gi hq<|have a1:=(nt (nt (nt (nt v x.size) y.size) o.size) a0);bB<|az<|pL [13,33] 13 (vI (wI (c.2+1)))<|aa ?_;cases g;exact gq fun a hq=>have a2:=a1;⟨(M,wI (c.2+1)),rfl,ax,a2,hq⟩
    ·refine bm<|bG rfl ?_
     cases g;replace i:=congrArg some (bl _ rfl);obtain rfl:=sj i;exact gq fun a hq=>have a3:=v;⟨j,a3,hq⟩
  ·rintro a u ⟨a4,ca,hq⟩;refine gi hq<|aI<|p1 34 (vS K)<|ad n<|fun N a5 n=>dB 9 a5<|p1 2 (vS N)<|aa<|ai ?_
   obtain rfl:=sj n;refine au (aj [vS N] rfl ⟨kr,trivial⟩ ?_);exact ⟨ab a4,rfl⟩

theorem zwL (af:Nat) (c:Bool) (b:ByteArray) (a:ByteArray) (e:World) (g:ByteArray) (d:zxW af c b a=some g):
    Cs 88 [vB c,vS b,vS a] e (G1 e [vS g]):=by
 have f:Bl e e:=Below.refl _ _;unfold zxW at d;refine aL Tryz.func88 rfl Tryz.ntmps88 kr<|bQ [(0,vB c),(1,vS b),(2,vS a)]<|aI<|pN 1 [6] []<|cg<|aI<|p1 7 (vB c)<|aa<|bC d (fun h d=>?_) (fun h d=>?_)
 ·refine aI<|pL [6,8] 6 (vS a)<|aa<|ai ?_
  obtain rfl:=sj d;refine au (aj [vS a] rfl ⟨kr,trivial⟩ ?_);exact ⟨ab f,rfl⟩
 ·refine ay<|aI<|pL [6,9] 6 (vS b)<|aa<|ai ?_
  obtain rfl:=sj d;refine au (aj [vS b] rfl ⟨kr,trivial⟩ ?_);exact ⟨ab f,rfl⟩

theorem zsz (af:Nat) (ac:bh) (ae:Nat) (d:bh) (e:Nat) (c:cn) (h:World) (y:Nat->Prop) (x:Lw y h) (aw:Rd bK h y ac ae c.2.2.2.2.2.1) (a9:Rd pcE h y d e c.2.2.2.2.2.2) (G:Rd (zsl 3 dq) h y (ro 3) 1 [vW 1]) (r0:ByteArray) (m:zxG af c=some r0):
    Cs 90 [.agg (bj c ac ae d e)] h (G1 h [vS r0]):=by
 have be:Bl h h:=Below.refl _ _;unfold zxG at m;refine aL Tryz.func90 rfl Tryz.ntmps90 kr<|bQ [(0,.agg (bj c ac ae d e))]<|aI<|aD bp (bj c ac ae d e) 25 kr kr ?_
 intro f w2 bl H cb cs;refine pN 1 [2] []<|bL<|pN 1 [3] []<|cg<|aI<|p1 5 (pt f 1)<|bu 3 H 1 rfl<|ad m<|fun q bn m=>have z:=bg be bl nb;ar kr rfl kr zsP (zxI af c.2.1 w2 y (aW x z.size) (G.below z x) q bn) ?_;rintro cv bs ⟨A,rfl⟩;refine p1 4 (vS q)<|aa<|aG<|aI<|ad m ?_;intro bA b m
 refine aM (J:=fun a n=>Bl h n∧Sz bs n∧aV n f 25 (bj c ac ae d e)∧Qa a 64 [(1,bp f),(4,vS q),(16,vB bA)]) ?_ ?_
 ·refine p1 17 (pt f 2)<|have o:=H.grown A nb;bu 3 o 2 rfl<|pL [19,20] 20 (vB (c.2.2.1==(-1)))<|have B:=bg z A nb;ce 20 b (fun L b=>?_) (fun L b=>?_)
  ·refine p1 21 (pt f 1)<|bu 3 o 1 rfl<|pL [16,23,24] 16 (vB (c.2.1==0))<|aa ?_;cases b;exact gq fun a hq=>⟨B,bJ,o,hq⟩
  ·refine pL [16,21,22,23,24] 16 (vB false)<|aa ?_;obtain rfl:=sj b;exact gq fun a hq=>⟨B,bJ,o,hq⟩
 ·rintro a n ⟨u,cc,j,hq⟩;refine gi hq<|ad m<|fun I b m=>aA (J:=fun a r=>Bl h r∧Sz n r∧aV r f 25 (bj c ac ae d e)∧Qa a 64 [(1,bp f),(3,vS I)]) ?_ ?_
  ·refine bC b (fun M b=>?_) (fun M b=>?_)
   ·refine az<|p1 3 (vS (bf [42]))<|aa ?_;cases b;exact gq fun a hq=>⟨u,bJ,j,hq⟩
   ·refine aI<|ad b ?_;intro bE k b
    refine aM (J:=fun a s=>Bl h s∧Sz n s∧aV s f 25 (bj c ac ae d e)∧Qa a 64 [(1,bp f),(4,vS q),(25,vB bE)]) ?_ ?_
    ·refine p1 26 (pt f 2)<|bu 3 j 2 rfl<|pL [28,29] 29 (vB (c.2.2.1==(-1)))<|ce 29 k (fun N k=>?_) (fun N k=>?_)
     ·refine p1 30 (pt f 1)<|bu 3 j 1 rfl<|pL [25,32,33] 25 (vB (c.2.1==1))<|aa ?_;cases k;exact gq fun a hq=>⟨u,bJ,j,hq⟩
     ·refine pL [25,30,31,32,33] 25 (vB false)<|aa ?_;obtain rfl:=sj k;exact gq fun a hq=>⟨u,bJ,j,hq⟩
    ·rintro a s ⟨v,C,l,hq⟩;refine gi hq<|bC b (fun O b=>?_) (fun O b=>?_)
     ·refine az<|p1 3 (vS (bf [43]))<|aa ?_;cases b;exact gq fun a hq=>have P:=C;⟨v,P,l,hq⟩
     ·refine aI<|ad b ?_;intro b0 k b
      refine aM (J:=fun a t=>Bl h t∧Sz s t∧aV t f 25 (bj c ac ae d e)∧Qa a 64 [(1,bp f),(4,vS q),(34,vB b0)]) ?_ ?_
      ·refine p1 35 (pt f 1)<|bu 3 l 1 rfl<|pL [37,38] 38 (vB (c.2.1==0))<|ce 38 k (fun Q k=>?_) (fun Q k=>?_)
       ·refine p1 39 (pt f 2)<|bu 3 l 2 rfl<|pL [34,41,42] 34 (vB (c.2.2.1==1))<|aa ?_;cases k;exact gq fun a hq=>⟨v,bJ,l,hq⟩
       ·refine pL [34,39,40,41,42] 34 (vB false)<|aa ?_;obtain rfl:=sj k;exact gq fun a hq=>⟨v,bJ,l,hq⟩
      ·rintro a t ⟨i,R,g,hq⟩;refine gi hq<|have p:=(nt C R);bC b (fun S b=>?_) (fun S b=>?_)
       ·refine az<|p1 3 (vS (bf [63]))<|aa ?_;cases b;exact gq fun a hq=>have T:=p;⟨i,T,g,hq⟩
       ·refine aI<|p1 44 (pt f 2)<|bu 3 g 2 rfl<|pL [43,46] 43 (vB (c.2.2.1==(-1)))<|aa<|bC b (fun U b=>?_) (fun U b=>?_)
        ·refine az<|p1 47 (vS q)<|ad b<|fun cw V b=>dB 9 V<|ad b<|fun b2 W b=>dB 9 W<|p1 3 (vS b2)<|aa ?_;obtain rfl:=sj b;exact gq fun a hq=>have X:=p;⟨i,X,g,hq⟩
        ·refine aI<|p1 51 (pt f 2)<|bu 3 g 2 rfl<|p1 53 (pt f 1)<|bu 3 g 1 rfl<|pL [50,55] 50 (vB (c.2.2.1==c.2.1))<|aa<|bC b (fun Y b=>?_) (fun Y b=>?_)
         ·refine az<|p1 56 (vS q)<|ad b<|fun cx Z b=>dB 9 Z<|ad b<|fun b3 ah b=>dB 9 ah<|p1 3 (vS b3)<|aa ?_;obtain rfl:=sj b;exact gq fun a hq=>have an:=p;⟨i,an,g,hq⟩
         ·refine az<|p1 8 (vS q)<|ad b<|fun c0 ax b=>dB 9 ax<|ad b<|fun b4 a0 b=>dB 9 a0<|p1 11 (pt f 2)<|bu 3 g 2 rfl<|ad b<|fun K a1 b=>ar kr rfl kr zsP (zxI af c.2.2.1 t y (aW x i.size) (G.below i x) K a1) ?_;rintro c1 c2 ⟨w,rfl⟩;refine bQ [(1,bp f),(10,vS b4),(13,vS K)]<|ad b<|fun c3 a2 b=>dB 9 a2<|ad b<|fun b5 a3 b=>dB 9 a3<|p1 3 (vS b5)<|aa ?_;obtain rfl:=sj b;exact gq fun a hq=>have a4:=bg i w nb;⟨a4,(nt p w.size),(g.grown w nb),hq⟩
  ·rintro a r ⟨D,ch,a5,hq⟩;refine gi hq<|bB<|aE<|aI<|p1 59 (pt f 4)<|bu 4 a5 4 rfl<|aa<|ad m ?_;intro E b m
   refine aA (J:=fun a F=>Bl h F∧Sz r F∧Qa a 64 [(3,vS E)]) ?_ ?_
   ·refine bC b (fun a6 b=>?_) (fun a6 b=>?_)
    ·refine az<|p1 61 (vS I)<|ad b<|fun b7 a7 b=>dB 9 a7<|p1 3 (vS b7)<|aa ?_;obtain rfl:=sj b;exact gq fun a hq=>⟨D,bJ,hq⟩
    ·refine ay ?_;obtain rfl:=sj b;exact gq fun a hq=>⟨D,bJ,hq⟩
   ·rintro a F ⟨a8,ck,hq⟩;refine gi hq<|aI<|pL [2,63] 2 (vS E)<|aa<|ai ?_
    obtain rfl:=sj m;refine au (aj [vS E] rfl ⟨kr,trivial⟩ ?_);exact ⟨ab a8,rfl⟩

abbrev zik (af:Nat):Prop:=∀ (ac:bh) (ae:Nat) (a:bh) (b:Nat) (c:cn) (d:World) (e:Nat->Prop) (h:Lw e d) (aw:Rd bK d e ac ae c.2.2.2.2.2.1) (f:Rd pcE d e a b c.2.2.2.2.2.2) (i:Rd (zsl 3 dq) d e (ro 3) 1 [vW 1]) (g:ByteArray),zyR af c=some g->Calls ap 58 ([.agg (bj c ac ae a b)]:List Value).toArray d (dH fun v w'=>d.grownBy w' none∧v=dD [vS g])
set_option maxHeartbeats 4000000 in
set_option maxRecDepth 100000 in
theorem ztc (af:Nat) (z:zik af):zik (af+1):=by
 intro ac ae j l d N X0 n aw u cs r0 c;have eO:Bl N N:=Below.refl _ _;rw[zyR.eq_2]at c;refine aL Tryz.func58 rfl Tryz.ntmps58 kr<|bQ [(0,.agg (bj d ac ae j l))]<|aI<|aD bp (bj d ac ae j l) 25 kr kr ?_
 intro m w2 eP eo eT fr;refine pN 1 [2] []<|bL<|p1 3 (vL none ([]:List ByteArray) 0)<|cg<|aI<|p1 6 (pt m 6)<|bu 23 eo 6 rfl<|pN 2 [8,9] [(8,vI (lz d.2.2.2.2.2.2)),(9,vI 0)]<|aa<|ad c ?_;intro K h1 c
 refine aA (J:=fun a C=>∃ (i:bh) (v:Nat),Bl N C∧Sz w2 C∧ag sE 9 C nXq i v K∧(Lo N i)∧(Naq i (· =m))∧¬ (fun k=>aJ i=some k) m∧aV C m 25 (bj d ac ae j l)∧Qa a 82 [(1,bp m),(3,vL i K v)]) ?_ ?_
 ·refine aG<|bN (A:=fun (L:(List ByteArray) × Int) a M=>∃ (i:bh) (v:Nat),Bl N M∧Sz w2 M∧ag sE 9 M nXq i v L.1∧(Lo N i)∧(Naq i (· =m))∧¬ (fun k=>aJ i=some k) m∧aV M m 25 (bj d ac ae j l)∧Qa a 82 [(1,bp m),(3,vL i L.1 v),(7,vL j d.2.2.2.2.2.2 l),(8,vI (lz d.2.2.2.2.2.2)),(9,vI L.2)]) h1 ?_ ?_
  ·intro a hd hs bk;exact ⟨none,0,(bg eO eP nb),bJ,ag.nil sE 9 w2 nXq,nofun,nofun,nofun,eo,hd,hs,dx bk⟩
  ·rintro L r2 D eQ a M ⟨Z,cv,E,cw,F,a4,a5,c0,a6,hq⟩;refine gi hq<|aI<|p1 10 (vB (decide (L.2<(lz d.2.2.2.2.2.2))))<|cg<|bC D (fun es D=>?_) (fun es D=>?_)
   ·refine ay<|aE<|aG<|aI<|ad D ?_;intro ah c1 D
    refine cz .i64 7 (u.below E n) c1 aT ?_;obtain ⟨_,⟨_,_,rfl,rfl,⟨_,_,rfl,rfl,⟨_,_,rfl,rfl,⟨_,_,rfl,rfl,⟨_,_,rfl,rfl,⟨_,_,rfl,⟨an,a0,rfl,et⟩,⟨a1,a2,rfl,eu⟩⟩⟩⟩⟩⟩⟩,ev⟩:=zzS (u.cellsK c1);refine laq 25 (aq j ((L.2:Int).toNat*7)) (dm (Pc.un ah) an a0 a1 a2) (bD (ev M (fun k hk=>E.block k (n k hk))))<|aD bp dJ 25 kr kr<|fun b5 fs G ew B eU=>aH 25 0 (.agg (dm (Pc.un ah) an a0 a1 a2)) (dm (Pc.un ah) an a0 a1 a2) ew kr kr kr<|fun eR H c2 eV=>aa<|az<|p1 13 (vL Z L.1 cv)<|cH 25 b5 (dm (Pc.un ah) an a0 a1 a2) (bD c2)<|ad D<|fun a3 ex D=>have dR:N.heap.size<=b5:=cM B E.size;have I:=bg (bg E G nb) H (bx dR);ar kr rfl kr zs0 (z an a0 a1 a2 (Pc.un ah) eR X0 (aW n I.size) (et.below I n) (eu.below I n) (cs.below I n) a3 ex) ?_;rintro ft fu ⟨O,rfl⟩;refine aD (fun b=>.slice (ro b) 1 1) #[vS a3] 9 kr kr ?_;intro q eS a7 ey P eW;have a8:ag sE 9 eS nXq (ro q) 1 ([a3]:List ByteArray):=bF ey ⟨[vS a3],[],rfl,rfl,rfl⟩ (show 1<=maxLen by decide) (fun h=>h);have c3:=bg I O nb;have eX:Lo N (ro q):=dw P c3.size;refine ad D<|fun c4 ez D=>have a9:=apC B F.lt;have bd:=(al O a7);bU sE (t:=54) (ty:=54) (e:=9) (a:=Z) (ax:=(ro q)) (cap:=cv) (cx:=1) (xs:=L.1) (ys:=([a3]:List ByteArray)) c4 (X:=nXq) (Y:=(fun k=>aJ (ro q)=some k)) ci rfl rfl kr kr cf znW (((F.grown G fe nb).grown H fe (cC (aB a9))).grown bd fe nb) (a8.rd (Y:=fun k=>aJ (ro q)=some k) fe (fun g e=>e)) ez (.inr fun _ _ _ _ _ h=>h) fe<|fun w ep fv be eA r=>⟨nofun,?_⟩;have c5:=bg c3 a7 nb;have eB:Lo N w:=bZ r a4 c5.size;have bl:=((a6.grown G nb).grown H (aB (ng (cy ((cm a6) _ rfl) ((bT B) _ rfl))))).grown bd nb;have eC:Naq w (· =m):=aQ r a5 (cm bl);have eD:¬ (fun k=>aJ w=some k) m:=fun h=>bb r (fun h=>(c0) h) (bl.lt) h;have c7:=c2.grown bd nb;have eY:Naq w (· =b5):=aQ r (apA B F.lt) (cm c7);have eZ:¬ (fun k=>aJ w=some k) b5:=fun h=>bb r (fun h=>(a9) h) (c7.lt) h;have c8:=((F.grown G fe nb).grown H fe (cC (aB a9))).grown O fe nb;have eE:Ap Z (ro q):=fun g e hx=>nl ((bV P) _ hx) (c8.lt g e);have e0:Ap w (ro q):=aQ r eE (fun k (hk:aJ (ro q)=some k)=>a8.lt k hk);have eF:Ap (ro q) Z:=fun g e hx=>nl ((bV P) g e) (c8.lt _ hx);have e1:Ap (ro q) w:=fun g e h=>bb r (fun h=>((eF) g e) h) (a8.lt g e) h;refine p1 3 (vL w c4 ep)<|aa<|bB<|az<|pL [9,18] 9 (vI (wI (L.2+1)))<|aa ?_;cases D;exact gq fun a hq=>have eG:=bg c5 be a4;⟨(c4,wI (L.2+1)),rfl,w,ep,eG,(nt (nt (nt (nt (nt cw G.size) H.size) O.size) a7.size) be.size),eA,eB,eC,eD,(bl.grown be a5),hq⟩
   ·refine bm<|bG rfl ?_
    cases D;replace h1:=congrArg some (eQ _ rfl);obtain rfl:=sj h1;exact gq fun a hq=>have eH:=cw;⟨Z,cv,E,eH,F,a4,a5,c0,a6,hq⟩
 ·rintro a C ⟨o,y,f,e2,s,e3,e4,e5,p,hq⟩;refine gi hq<|aE<|aI<|p1 19 (bp m)<|bu 3 p 0 rfl<|aa<|aG<|aI<|pL [21,22] 21 (vB (d.1==1))<|aa<|bC c (fun dS c=>?_) (fun dS c=>?_)
  ·refine aI<|p1 23 (pt m 1)<|bu 3 p 1 rfl<|ad c<|fun bn dT c=>ar kr rfl kr zrz (zwu af d.2.1 (bf [92,46,94,36,42,43,63,40,41,91,93,123,125,124]) C bn dT) ?_;rintro e6 e7 ⟨dU,rfl⟩;refine p1 2 (vS bn)<|aa<|ai ?_
   obtain rfl:=sj c;refine au (aj [vS bn] rfl ⟨kr,trivial⟩ ?_);exact ⟨ab (bg f dU nb),rfl⟩
  ·refine aI<|pL [26,27] 26 (vB (d.1==2))<|aa<|bC c (fun dV c=>?_) (fun dV c=>?_)
   ·refine aI<|p1 2 (vS (bf [46]))<|aa<|ai ?_
    cases c;refine au (aj [vS (bf [46])] rfl ⟨kr,trivial⟩ ?_);exact ⟨ab f,rfl⟩
   ·refine aI<|pL [28,29] 28 (vB (d.1==3))<|aa<|bC c (fun dW c=>?_) (fun dW c=>?_)
    ·refine aI<|cH 25 m (bj d ac ae j l) (bD p)<|ad c<|fun bs dX c=>ar kr rfl kr zlU (zt1 af ac ae j l d C X0 (aW n f.size) (aw.below f n) (u.below f n) bs dX) ?_;rintro e8 e9 ⟨dY,rfl⟩;refine p1 2 (vS bs)<|aa<|ai ?_
     obtain rfl:=sj c;refine au (aj [vS bs] rfl ⟨kr,trivial⟩ ?_);exact ⟨ab (bg f dY nb),rfl⟩
    ·refine aI<|pL [32,33] 32 (vB (d.1==4))<|aa<|bC c (fun dZ c=>?_) (fun dZ c=>?_)
     ·refine aI<|p1 2 (vS (bf [94]))<|aa<|ai ?_
      cases c;refine au (aj [vS (bf [94])] rfl ⟨kr,trivial⟩ ?_);exact ⟨ab f,rfl⟩
     ·refine aI<|pL [34,35] 34 (vB (d.1==5))<|aa<|bC c (fun d0 c=>?_) (fun d0 c=>?_)
      ·refine aI<|p1 2 (vS (bf [36]))<|aa<|ai ?_
       cases c;refine au (aj [vS (bf [36])] rfl ⟨kr,trivial⟩ ?_);exact ⟨ab f,rfl⟩
      ·refine aI<|pL [36,37] 36 (vB (d.1==6))<|aa<|bC c (fun d1 c=>?_) (fun d1 c=>?_)
       ·refine aI<|p1 38 (pt m 3)<|bu 4 p 3 rfl<|ad c<|fun bE d2 c=>ar kr rfl kr zsc (zwL af d.2.2.2.1 (bf [92,98]) (bf [92,66]) C bE d2) ?_;rintro fa fb ⟨d3,rfl⟩;refine p1 2 (vS bE)<|aa<|ai ?_
        obtain rfl:=sj c;refine au (aj [vS bE] rfl ⟨kr,trivial⟩ ?_);exact ⟨ab (bg f d3 nb),rfl⟩
       ·refine aI<|pL [41,42] 41 (vB (d.1==7))<|aa<|bC c (fun d4 c=>?_) (fun d4 c=>?_)
        ·refine aE<|bq kr ?_
         intro b0 Q;refine aO [0,4,5] (bA 10 [0,4,5]) 7 kr kr<|pN 2 [43,47] [(43,pt m 1),(47,vL o K y)]<|ad c<|fun c9 b7 c=>have R:=s.grown Q fe nb;cz .i64 1 R.rdF b7 cf<|aa<|ak<|aF (cI b0 []) [1,2,3,6] [(1,some true),(2,some true),(6,some true),(3,some false)] (bA 10 (rgq 0 7)) 3 kr kr (av _ _)<|b6 3 ⟨m,1,none⟩ (vI d.2.1) (bw fun w' hC'=>((hC'.box (p.grown Q nb) aX).cell 1 rfl))<|p1 45 (vB (d.2.1==0))<|b6 9 (aq o ((0:Int).toNat*1)) (vS c9) (bw fun w' hC'=>((hC'.rd R.rdF R.lt bH).cell b7))<|bQ [(45,vB (d.2.1==0)),(49,vS c9)]<|ad c<|fun eI d5 c=>dI zsc (zwL af (d.2.1==0) (bf [40]) (bf [40,63,58]) b0 eI d5) ?_;rintro fc fd ⟨ca,rfl⟩;refine ⟨(fun _=>(av b0 []).grown ca nb),?_⟩;refine aa<|ak<|aO [7,8,9] (bA 10 (rgq 0 10)) 0 kr kr<|ad c<|fun ff d6 c=>dB 9 d6<|ad c<|fun ds d7 c=>dB 9 d7<|p1 2 (vS ds)<|aa<|ak<|aP kr<|ai ?_;obtain rfl:=sj c;refine au (aj [vS ds] rfl ⟨kr,trivial⟩ ?_);exact ⟨ab (bg f (al Q ca) nb),rfl⟩
        ·refine aI<|pL [52,53] 52 (vB (d.1==8))<|aa<|bC c (fun d8 c=>?_) (fun d8 c=>?_)
         ·refine aI<|p1 54 (vL o K y)<|ad c<|fun b2 d9 c=>ar kr rfl kr zq4 (zvt af o y K (bf []) C (fun k=>aJ o=some k) s.lt s.rdF b2 d9) ?_;rintro fg fh ⟨ea,rfl⟩;refine p1 2 (vS b2)<|aa<|ai ?_
          obtain rfl:=sj c;refine au (aj [vS b2] rfl ⟨kr,trivial⟩ ?_);exact ⟨ab (bg f ea nb),rfl⟩
         ·refine aI<|pL [56,57] 56 (vB (d.1==9))<|aa<|bC c (fun eb c=>?_) (fun eb c=>?_)
          ·refine aI<|p1 58 (vL o K y)<|ad c<|fun S ec c=>ar kr rfl kr zq4 (zvt af o y K (bf [124]) C (fun k=>aJ o=some k) s.lt s.rdF S ec) ?_;rintro fi fj ⟨ed,rfl⟩;refine p1 2 (vS S)<|bQ [(2,vS S)]<|aa<|ai ?_
           obtain rfl:=sj c;refine au (aj [vS S] rfl ⟨kr,trivial⟩ ?_);exact ⟨ab (bg f ed nb),rfl⟩
          ·refine aI<|pL [60,61] 60 (vB (d.1==10))<|aa<|bC c (fun ee c=>?_) (fun ee c=>?_)
           ·refine aE<|bq kr ?_
            intro b3 T;refine aO [0,1] (bA 7 [0,1]) 5 kr kr<|p1 62 (vL o K y)<|ad c<|fun eJ cb c=>have U:=s.grown T fe nb;cz .i64 1 U.rdF cb cf<|aa<|ak<|aF (cI b3 []) [2,3,4] [(2,some true),(3,some true),(4,some false)] (bA 7 (rgq 0 5)) 2 kr kr (av _ _)<|bQ [(1,bp m),(63,.pointer (some (aq o ((0:Int).toNat*1))))]<|b6 9 (aq o ((0:Int).toNat*1)) (vS eJ) (bw fun w' hC'=>((hC'.rd U.rdF U.lt bH).cell cb))<|cH 25 m (bj d ac ae j l) (bw fun w' hC'=>(hC'.box (p.grown T nb) aX))<|ad c<|fun eK ef c=>have x:=bg f T nb;dI zmF (zsz af ac ae j l d b3 X0 (aW n x.size) (aw.below x n) (u.below x n) (cs.below x n) eK ef) ?_;rintro fk fl ⟨cc,rfl⟩;refine ⟨(fun _=>(av b3 []).grown cc nb),?_⟩;refine aa<|ak<|aO [5,6] (bA 7 (rgq 0 7)) 0 kr kr<|ad c<|fun dN eg c=>dB 9 eg<|p1 2 (vS dN)<|aa<|ak<|aP kr<|ai ?_;obtain rfl:=sj c;refine au (aj [vS dN] rfl ⟨kr,trivial⟩ ?_);exact ⟨ab (bg x cc nb),rfl⟩
           ·refine aI<|pL [68,69] 68 (vB (d.1==11))<|aa<|bC c (fun eh c=>?_) (fun eh c=>?_)
            ·refine aE<|bq kr ?_
             intro b4 V;refine aO [0,3,4] (bA 9 [0,3,4]) 6 kr kr<|pN 2 [70,73] [(70,pt m 3),(73,vL o K y)]<|bQ [(70,pt m 3),(73,vL o K y)]<|ad c<|fun eL ch c=>have W:=s.grown V fe nb;cz .i64 1 W.rdF ch cf<|aa<|ak<|aF (cI b4 []) [1,2,5] [(1,some true),(5,some true),(2,some false)] (bA 9 (rgq 0 6)) 3 kr kr (av _ _)<|b6 4 ⟨m,3,none⟩ (vB d.2.2.2.1) (bw fun w' hC'=>((hC'.box (p.grown V nb) aX).cell 3 rfl))<|b6 9 (aq o ((0:Int).toNat*1)) (vS eL) (bw fun w' hC'=>((hC'.rd W.rdF W.lt bH).cell ch))<|ad c<|fun eM ei c=>dI zsc (zwL af d.2.2.2.1 (bf [40,63,61]) (bf [40,63,33]) b4 eM ei) ?_;rintro fm fn ⟨ck,rfl⟩;refine ⟨(fun _=>(av b4 []).grown ck nb),?_⟩;refine aa<|ak<|aO [6,7,8] (bA 9 (rgq 0 9)) 0 kr kr<|ad c<|fun fo ej c=>dB 9 ej<|ad c<|fun dO ek c=>dB 9 ek<|p1 2 (vS dO)<|aa<|ak<|aP kr<|ai ?_;obtain rfl:=sj c;refine au (aj [vS dO] rfl ⟨kr,trivial⟩ ?_);exact ⟨ab (bg f (al V ck) nb),rfl⟩
            ·refine ay<|bB<|aI<|p1 78 (pt m 1)<|bQ [(78,pt m 1)]<|bu 3 p 1 rfl<|ad c<|fun eN el c=>ar kr rfl kr zsP (zxI af d.2.1 C X0 (aW n f.size) (cs.below f n) eN el) ?_;rintro fp fq ⟨em,rfl⟩;refine ad c<|fun dP en c=>dB 9 en<|p1 2 (vS dP)<|aa<|ai ?_
             obtain rfl:=sj c;refine au (aj [vS dP] rfl ⟨kr,trivial⟩ ?_);exact ⟨ab (bg f em nb),rfl⟩
theorem zuY:∀ (af:Nat),zik af:=by
  intro af
  induction af with
  | zero=>unfold zik;intros;rename_i a;rw[zyR.eq_1]at a;cases a
  | succ af ih=>exact ztc af ih

theorem zut (af:Nat):
    zik af:=
  zuY af

theorem zvW (af:Nat) (r:ByteArray) (q:World) (i:Nat->Prop) (g:Lw i q) (cx:Rd bE q i (ro 0) 256 co) (c0:Rd (prE (iE .u8) (iE .u8)) q i (ro 1) 16 cJ) (d5:Rd (zsl 3 dq) q i (ro 3) 1 [vW 1]) (r0:cn × aU) (b:zwO af r=some r0):
    Cs 30 [vS r] q (dH fun v w'=>q.grownBy w' none∧∃ (ba:bh) (bv:Nat),∃ (S:Nat->Prop),∃ (T:bh) (U:Nat),∃ (V:Nat->Prop),v=dD [.agg (bj r0.1 ba bv T U),.agg (bI r0.2)]∧Rd bK w' S ba bv r0.1.2.2.2.2.2.1∧(Sxb S w' i q)∧Rd pcE w' V T U r0.1.2.2.2.2.2.2∧(Sxb V w' i q)):=by
 have a2:Bl q q:=Below.refl _ _;unfold zwO at b;refine zss Tryz.func30 rfl Tryz.ntmps30 kr<|bQ [(0,vS r)]<|aI<|aD bp dJ 25 kr kr ?_
 intro t w2 c1 a3 c5 eh;refine aD bp #[vI 0,vI 0] 31 kr kr<|fun y w8 c2 c7 W ee=>cg<|aG<|aI<|pL [5,6,7,8] 5 (vB (decide ((bz r)>200)))<|ad b<|fun d6 c8 b=>bO (s:=5) (v:=(vB (decide ((bz r)>200)))) (v':=(vB d6)) kr (congrArg (Value.bool) (sj c8))<|aa<|bC b (fun c9 b=>?_) (fun c9 b=>?_)
 ·cases b
 ·refine aI<|p1 12 (vS r)<|ad b<|fun c3 ds b=>have D:=bg a2 (al c1 c2) nb;ar kr rfl kr zs8 (zy6 af r w8 i (aW g D.size) (cx.below D g) (c0.below D g) c3 ds) ?_;rintro ei ej ⟨L,rfl⟩;refine pL [11,14] 11 (vB (!c3))<|aa<|bC b (fun dN b=>?_) (fun dN b=>?_)
  ·cases b
  ·refine ay<|bB<|aI<|p1 17 (.func (.func 55) #[] #[bp t,bp y]) ?_
   refine zqJ (d:=⟨.fn (.func 55) #[bp t,bp y],#[]⟩) rfl kr kr kr<|bL<|pL [18,19] 19 (.agg #[vS r,vI 0,vI 0,vB false,vB false])<|aD bp #[vS r,vI 0,vI 0,vB false,vB false] 117 kr kr<|fun f d7 M dO X ef=>p1 4 (bp f)<|bL<|p1 21 (bp f)<|ad b<|fun c dP b=>have a4:=(al L M);have z:=bg D a4 nb;have Y:q.heap.size<=f:=cM X (bg D L nb).size;ar kr rfl kr zpt (zxb af f (r,0,0,false,false) d7 i (fun k hk=>⟨(aW g z.size) k hk,fun e=>(fun (hx:i f)=>nl Y (g _ hx)) (e ▸ hk)⟩) dO (cx.below z g) (c0.below z g) c dP) ?_;rintro ek c4 ⟨N,j,l,E,m,n,F,rfl,dQ,H,dR,I,dS⟩;have a5:∀ k,E k->k<c4.heap.size:=fun k hk=>(H k hk).1;have dT:∀ k,E k->i k∨q.heap.size<=k:=fun k hk=>(H k hk).2.elim (fun h=>(fun k (hk:i k)=>Or.inl hk) k h) (fun h=>.inr (Nat.le_trans z.size h));have a6:∀ k,F k->k<c4.heap.size:=fun k hk=>(I k hk).1;have dU:∀ k,F k->i k∨q.heap.size<=k:=fun k hk=>(I k hk).2.elim (fun h=>(fun k (hk:i k)=>Or.inl hk) k h) (fun h=>.inr (Nat.le_trans z.size h));have a7:=(al c2 a4);have K:=cy ((cm a3) _ rfl) ((bT W) _ rfl);have O:=c7.grown L nb;have a8:=cy ((cm O) _ rfl) ((bT X) _ rfl);have a9:=dn K a8;refine aH 25 0 (.agg (bj c.1 j l m n)) (bj c.1 j l m n) ((a3.grown a7 nb).grown N (aB (ng a9))) kr kr kr<|fun d8 u bd eg=>cg<|aG<|aI<|pL [24,25,26] 26 (bp f)<|bQ [(2,bp t),(3,bp y),(4,bp f),(26,bp f)]<|have A:=dS.grown u (aB (Nat.ne_of_lt a9));bu 9 A 0 rfl<|pL [23,28] 23 (vB (!(c.2.1.toList==(bf []).toList)))<|aa<|bC b (fun dV b=>?_) (fun dV b=>?_)
   ·cases b
   ·refine aI<|pL [32,33,34] 34 (pt f 3)<|bu 4 A 3 rfl<|p1 31 (vB c.2.2.2.2.1)<|aa<|bC b (fun dW b=>?_) (fun dW b=>?_)
    ·cases b
    ·refine aI<|ad b ?_;intro d9 h1 b
     have C:q.heap.size<=t:=cM c5 a2.size;have bl:=a3.grown a7 nb;have bn:¬ E t:=fun h=>((H _ h).2.elim (fun h=>((fun (hx:i t)=>nl C (g _ hx))) h) (fun h=>nl h (bl.lt)));have bs:¬ F t:=fun h=>((I _ h).2.elim (fun h=>((fun (hx:i t)=>nl C (g _ hx))) h) (fun h=>nl h (bl.lt)));refine aM (J:=fun a x=>Bl q x∧Sz d8 x∧aV x t 25 (bj c.1 j l m n)∧aV x y 31 #[vI 0,vI 0]∧aV x f 117 (cL c.2)∧Rd bK x E j l c.1.2.2.2.2.2.1∧Rd pcE x F m n c.1.2.2.2.2.2.2∧a.defers=[{ target:=.fn (.func 55) #[bp t,bp y],args:=#[]}]∧a.tmps.size=69∧Ok [(2,bp t),(3,bp y),(4,bp f),(38,vB d9)] a.tmps) ?_ ?_
     ·refine pL [39,40,41] 41 (pt f 1)<|bu 3 A 1 rfl<|pL [43,44] 44 (vB (decide (c.2.2.1>60)))<|have bA:=bg (bg z N (bx Y)) u (bx C);have b0:=((O.grown M nb).grown N (aB (ng a8))).grown u (aB (Nat.ne_of_lt K));have b2:=dQ.grown u a5 (aB bn);have b3:=dR.grown u a6 (aB bs);ce 44 h1 (fun dX h1=>?_) (fun dX h1=>?_)
      ·refine pL [38,45,46,47,48,49,50] 38 (vB true)<|aa ?_;obtain rfl:=sj h1;exact gq fun a hq=>⟨bA,bJ,bd,b0,A,b2,b3,hq⟩
      ·refine pL [45,46,47] 47 (pt f 2)<|bu 3 A 2 rfl<|pL [38,49,50] 38 (vB (decide (c.2.2.2.1>9)))<|aa ?_;cases h1;exact gq fun a hq=>⟨bA,bJ,bd,b0,A,b2,b3,hq⟩
     ·rintro a x ⟨P,B,b4,dY,dZ,b5,ca,hq⟩;refine gi hq<|bC b (fun d0 b=>?_) (fun d0 b=>?_)
      ·cases b
      ·refine aI<|pL [54,55,56] 56 (pt f 4)<|bu 4 dZ 4 rfl<|p1 53 (vB c.2.2.2.2.2)<|aa<|bC b (fun d1 b=>?_) (fun d1 b=>?_)
       ·cases b
       ·refine aI<|cH 25 t (bj c.1 j l m n) (bD b4)<|ad b<|fun cb d2 b=>have Q:=aW a5 u.size;have R:=aW a6 u.size;ar kr rfl kr zs0 (zut af j l m n c.1 x (fun k=>E k∨F k∨i k) (fun k hk=>(hk).elim (fun h=>(aW Q B) k h) (fun h=>(h).elim (fun h=>(aW R B) k h) (fun h=>(aW g P.size) k h))) (b5.wide (fun k hk=>(.inl hk))) (ca.wide (fun k hk=>(.inr (.inl hk)))) ((d5.below P g).wide (fun k hk=>(.inr (.inr hk)))) cb d2) ?_;rintro el em ⟨w,rfl⟩;refine pL [60,63,64] 60 (vB (decide ((bz cb)>200)))<|ad b<|fun ea d3 b=>bO (s:=60) (v:=(vB (decide ((bz cb)>200)))) (v':=(vB ea)) kr (congrArg (Value.bool) (sj d3))<|aa<|bC b (fun d4 b=>?_) (fun d4 b=>?_)
        ·cases b
        ·refine ay<|bB<|aE<|az ?_
         have cc:=b4.grown w nb;refine cH 25 t (bj c.1 j l m n) (bD cc)<|p1 68 (.agg #[vI 0,vI 0])<|aH 25 0 (.agg (bj c.1 j l m n)) (bj c.1 j l m n) cc kr kr kr<|fun en o ck eb=>aH 31 0 (.agg #[vI 0,vI 0]) #[vI 0,vI 0] ((dY.grown w nb).grown o (aB (Nat.ne_of_lt K))) kr kr kr<|fun ch p cs ec=>aa<|ai ?_
         obtain rfl:=sj b;refine au (zqS (zm3 _) (zk6 _ _)<|zu2 [.agg (bj c.1 j l m n),.agg #[vI 0,vI 0]] rfl ⟨⟨⟨t,0,none⟩,kr,run_loadVar_row ch t _ 25 _ _ _ (ck.grown p (aB (ng K))) cd rfl kr⟩,⟨⟨y,0,none⟩,kr,run_loadVar_row ch y _ 31 _ _ _ cs aK rfl kr⟩,trivial⟩ ?_);have G:q.heap.size<=y:=cM W (bg a2 c1 nb).size;have Z:=aW (aW Q B) w.size;have ah:=O.grown M nb;have cv:¬ E y:=fun h=>((H _ h).2.elim (fun h=>((fun (hx:i y)=>nl G (g _ hx))) h) (fun h=>nl h (ah.lt)));have an:=aW Z o.size;have ax:=aW (aW R B) w.size;have cw:¬ F y:=fun h=>((I _ h).2.elim (fun h=>((fun (hx:i y)=>nl G (g _ hx))) h) (fun h=>nl h (ah.lt)));have a0:=aW ax o.size;exact ⟨ab (bg (bg (bg P w nb) o (bx C)) p (bx G)),j,l,E,m,n,F,rfl,(((b5.grown w (aW Q B) nb).grown o Z (aB bn)).grown p an (aB cv)),sxq (aW an p.size) dT,(((ca.grown w (aW R B) nb).grown o ax (aB bs)).grown p a0 (aB cw)),sxq (aW a0 p.size) dU⟩

theorem zsF (af:Nat) (ac:bh) (ae:Nat) (g:bh) (h:Nat) (c:cn) (k:World) (u:Nat->Prop) (cb:Lw u k) (aw:Rd bK k u ac ae c.2.2.2.2.2.1) (a6:Rd pcE k u g h c.2.2.2.2.2.2) (r0:Bool) (n:zwk af c=some r0):
    Cs 114 [.agg (bj c ac ae g h)] k (G1 k [vB r0]):=by
 have a8:Bl k k:=Below.refl _ _;unfold zwk at n;refine aL Tryz.func114 rfl Tryz.ntmps114 kr<|bQ [(0,.agg (bj c ac ae g h))]<|aI<|aD bp (bj c ac ae g h) 25 kr kr ?_
 intro f w2 a9 j b4 cc;refine pN 1 [2] []<|bL<|ad n ?_;intro w b n
 refine aM (J:=fun a q=>Bl k q∧Sz w2 q∧aV q f 25 (bj c ac ae g h)∧Qa a 76 [(1,bp f),(3,vB w)]) ?_ ?_
 ·refine p1 5 (bp f)<|bu 3 j 0 rfl<|pL [7,8] 8 (vB (c.1==1))<|have m:=bg a8 a9 nb;ce 8 b (fun bd b=>?_) (fun bd b=>?_)
  ·refine pL [3,9,10,11,12,13,14,15,16,17,18,19,20,21,22] 3 (vB true)<|aa ?_;obtain rfl:=sj b;exact gq fun a hq=>⟨m,bJ,j,hq⟩
  ·refine p1 9 (bp f)<|bu 3 j 0 rfl<|pL [11,12,13] 13 (vB (c.1==7))<|ce 13 b (fun x b=>?_) (fun x b=>?_)
   ·refine pL [3,14,15,16,17,18,19,20,21,22] 3 (vB true)<|aa ?_;obtain rfl:=sj b;exact gq fun a hq=>⟨m,bJ,j,hq⟩
   ·refine p1 14 (bp f)<|bu 3 j 0 rfl<|pL [16,17,18] 18 (vB (c.1==10))<|ce 18 b (fun y b=>?_) (fun y b=>?_)
    ·refine pL [3,19,20,21,22] 3 (vB true)<|aa ?_;obtain rfl:=sj b;exact gq fun a hq=>⟨m,bJ,j,hq⟩
    ·refine p1 19 (bp f)<|bu 3 j 0 rfl<|pL [3,21,22] 3 (vB (c.1==12))<|bQ [(1,bp f),(3,vB (c.1==12))]<|aa ?_;cases b;exact gq fun a hq=>⟨m,bJ,j,hq⟩
 ·rintro a q ⟨p,b5,i,hq⟩;refine gi hq<|aI<|ad n ?_;intro l b n
  refine aM (J:=fun a o=>Bl k o∧Sz q o∧aV o f 25 (bj c ac ae g h)∧Qa a 76 [(1,bp f),(3,vB w),(4,vB l)]) ?_ ?_
  ·refine p1 23 (bp f)<|bu 3 i 0 rfl<|pL [25,26] 26 (vB (c.1==3))<|ce 26 b (fun z b=>?_) (fun z b=>?_)
   ·refine pL [4,27,28,29,30,31,32,33,34,35] 4 (vB true)<|aa ?_;obtain rfl:=sj b;exact gq fun a hq=>⟨p,bJ,i,hq⟩
   ·refine p1 27 (bp f)<|bu 3 i 0 rfl<|pL [29,30,31] 31 (vB (c.1==6))<|ce 31 b (fun A b=>?_) (fun A b=>?_)
    ·refine pL [4,32,33,34,35] 4 (vB true)<|aa ?_;obtain rfl:=sj b;exact gq fun a hq=>⟨p,bJ,i,hq⟩
    ·refine p1 32 (bp f)<|bu 3 i 0 rfl<|pL [4,34,35] 4 (vB (c.1==11))<|aa ?_;cases b;exact gq fun a hq=>⟨p,bJ,i,hq⟩
  ·rintro a o ⟨e,b7,d,hq⟩;refine gi hq<|aI<|ad n ?_;intro t b n
   refine aM (J:=fun a r=>Bl k r∧Sz o r∧Qa a 76 [(2,vB t)]) ?_ ?_
   ·refine pL [36,37] 37 (vB w)<|ce 37 b (fun B b=>?_) (fun B b=>?_)
    ·refine pN 6 (rgq 38 6) [(42,vB true),(43,bp f)]<|bu 3 d 0 rfl<|pL [45,46] 46 (vB (c.1==10))<|ce 46 b (fun C b=>?_) (fun C b=>?_)
     ·refine pN 13 (rgq 47 13) [(57,vB true),(59,vB l)]<|ce 59 b (fun D b=>?_) (fun D b=>?_)
      ·refine pN 7 (rgq 60 7) [(65,vB true),(66,bp f)]<|bu 3 d 0 rfl<|pL [68,69] 69 (vB (c.1==3))<|ce 69 b (fun E b=>?_) (fun E b=>?_)
       ·refine pL [2,70,71,72,73,74,75] 2 (vB true)<|aa ?_;obtain rfl:=sj b;exact gq fun a hq=>⟨e,bJ,hq⟩
       ·refine p1 70 (pt f 5)<|bu 22 d 5 rfl<|pL [2,72,73,74,75] 2 (vB ((lz c.2.2.2.2.2.1)==0))<|ad b<|fun be F b=>bO (s:=2) (v:=(vB ((lz c.2.2.2.2.2.1)==0))) (v':=(vB be)) kr (congrArg (Value.bool) (sj F))<|aa ?_;obtain rfl:=sj b;exact gq fun a hq=>⟨e,bJ,hq⟩
      ·refine p1 60 (pt f 3)<|bu 4 d 3 rfl<|pL (rgq 62 4) 65 (vB (!c.2.2.2.1))<|ce 65 b (fun G b=>?_) (fun G b=>?_)
       ·refine p1 66 (bp f)<|bu 3 d 0 rfl<|pL [68,69] 69 (vB (c.1==3))<|ce 69 b (fun H b=>?_) (fun H b=>?_)
        ·refine pL [2,70,71,72,73,74,75] 2 (vB true)<|aa ?_;obtain rfl:=sj b;exact gq fun a hq=>⟨e,bJ,hq⟩
        ·refine p1 70 (pt f 5)<|bu 22 d 5 rfl<|pL [2,72,73,74,75] 2 (vB ((lz c.2.2.2.2.2.1)==0))<|bQ [(2,vB ((lz c.2.2.2.2.2.1)==0))]<|ad b<|fun bl I b=>bO (s:=2) (v:=(vB ((lz c.2.2.2.2.2.1)==0))) (v':=(vB bl)) kr (congrArg (Value.bool) (sj I))<|aa ?_;obtain rfl:=sj b;exact gq fun a hq=>⟨e,bJ,hq⟩
       ·refine pL [2,66,67,68,69,70,71,72,73,74,75] 2 (vB false)<|aa ?_;obtain rfl:=sj b;exact gq fun a hq=>⟨e,bJ,hq⟩
     ·refine p1 47 (pt f 2)<|bu 3 d 2 rfl<|pL [49,50] 50 (vB (c.2.2.1==0))<|ce 50 b (fun K b=>?_) (fun K b=>?_)
      ·refine p1 51 (pt f 4)<|bu 4 d 4 rfl<|pL (rgq 53 5) 57 (vB (!c.2.2.2.2.1))<|ce 57 b (fun L b=>?_) (fun L b=>?_)
       ·refine pL [58,59] 59 (vB l)<|ce 59 b (fun M b=>?_) (fun M b=>?_)
        ·refine pN 7 (rgq 60 7) [(65,vB true),(66,bp f)]<|bu 3 d 0 rfl<|pL [68,69] 69 (vB (c.1==3))<|bQ [(1,bp f),(65,vB true),(69,vB (c.1==3))]<|ce 69 b (fun N b=>?_) (fun N b=>?_)
         ·refine pL [2,70,71,72,73,74,75] 2 (vB true)<|aa ?_;obtain rfl:=sj b;exact gq fun a hq=>⟨e,bJ,hq⟩
         ·refine p1 70 (pt f 5)<|bu 22 d 5 rfl<|pL [2,72,73,74,75] 2 (vB ((lz c.2.2.2.2.2.1)==0))<|ad b<|fun bn O b=>bO (s:=2) (v:=(vB ((lz c.2.2.2.2.2.1)==0))) (v':=(vB bn)) kr (congrArg (Value.bool) (sj O))<|aa ?_;obtain rfl:=sj b;exact gq fun a hq=>⟨e,bJ,hq⟩
        ·refine p1 60 (pt f 3)<|bu 4 d 3 rfl<|pL (rgq 62 4) 65 (vB (!c.2.2.2.1))<|bQ [(1,bp f),(65,vB (!c.2.2.2.1))]<|ce 65 b (fun P b=>?_) (fun P b=>?_)
         ·refine p1 66 (bp f)<|bu 3 d 0 rfl<|pL [68,69] 69 (vB (c.1==3))<|ce 69 b (fun Q b=>?_) (fun Q b=>?_)
          ·refine pL [2,70,71,72,73,74,75] 2 (vB true)<|aa ?_;obtain rfl:=sj b;exact gq fun a hq=>⟨e,bJ,hq⟩
          ·refine p1 70 (pt f 5)<|bu 22 d 5 rfl<|pL [2,72,73,74,75] 2 (vB ((lz c.2.2.2.2.2.1)==0))<|ad b<|fun bs R b=>bO (s:=2) (v:=(vB ((lz c.2.2.2.2.2.1)==0))) (v':=(vB bs)) kr (congrArg (Value.bool) (sj R))<|aa ?_;obtain rfl:=sj b;exact gq fun a hq=>⟨e,bJ,hq⟩
         ·refine pL [2,66,67,68,69,70,71,72,73,74,75] 2 (vB false)<|aa ?_;obtain rfl:=sj b;exact gq fun a hq=>⟨e,bJ,hq⟩
       ·refine pL [2,58,59,60,61,62,63,64,65,66,67,68,69,70,71,72,73,74,75] 2 (vB false)<|aa ?_;obtain rfl:=sj b;exact gq fun a hq=>⟨e,bJ,hq⟩
      ·refine pL [2,51,52,53,54,55,56,57,58,59,60,61,62,63,64,65,66,67,68,69,70,71,72,73,74,75] 2 (vB false)<|aa ?_;obtain rfl:=sj b;exact gq fun a hq=>⟨e,bJ,hq⟩
    ·refine p1 38 (pt f 1)<|bu 3 d 1 rfl<|pL [40,41,42] 42 (vB (c.2.1==0))<|ce 42 b (fun S b=>?_) (fun S b=>?_)
     ·refine p1 43 (bp f)<|bu 3 d 0 rfl<|pL [45,46] 46 (vB (c.1==10))<|ce 46 b (fun T b=>?_) (fun T b=>?_)
      ·refine pN 13 (rgq 47 13) [(57,vB true),(59,vB l)]<|ce 59 b (fun U b=>?_) (fun U b=>?_)
       ·refine pN 7 (rgq 60 7) [(65,vB true),(66,bp f)]<|bu 3 d 0 rfl<|pL [68,69] 69 (vB (c.1==3))<|ce 69 b (fun V b=>?_) (fun V b=>?_)
        ·refine pL [2,70,71,72,73,74,75] 2 (vB true)<|aa ?_;obtain rfl:=sj b;exact gq fun a hq=>⟨e,bJ,hq⟩
        ·refine p1 70 (pt f 5)<|bu 22 d 5 rfl<|pL [2,72,73,74,75] 2 (vB ((lz c.2.2.2.2.2.1)==0))<|bQ [(2,vB ((lz c.2.2.2.2.2.1)==0))]<|ad b<|fun bA W b=>bO (s:=2) (v:=(vB ((lz c.2.2.2.2.2.1)==0))) (v':=(vB bA)) kr (congrArg (Value.bool) (sj W))<|aa ?_;obtain rfl:=sj b;exact gq fun a hq=>⟨e,bJ,hq⟩
       ·refine p1 60 (pt f 3)<|bu 4 d 3 rfl<|pL (rgq 62 4) 65 (vB (!c.2.2.2.1))<|ce 65 b (fun X b=>?_) (fun X b=>?_)
        ·refine p1 66 (bp f)<|bu 3 d 0 rfl<|pL [68,69] 69 (vB (c.1==3))<|bQ [(1,bp f),(65,vB true),(69,vB (c.1==3))]<|ce 69 b (fun Y b=>?_) (fun Y b=>?_)
         ·refine pL [2,70,71,72,73,74,75] 2 (vB true)<|aa ?_;obtain rfl:=sj b;exact gq fun a hq=>⟨e,bJ,hq⟩
         ·refine p1 70 (pt f 5)<|bu 22 d 5 rfl<|pL [2,72,73,74,75] 2 (vB ((lz c.2.2.2.2.2.1)==0))<|ad b<|fun bE Z b=>bO (s:=2) (v:=(vB ((lz c.2.2.2.2.2.1)==0))) (v':=(vB bE)) kr (congrArg (Value.bool) (sj Z))<|aa ?_;obtain rfl:=sj b;exact gq fun a hq=>⟨e,bJ,hq⟩
        ·refine pL [2,66,67,68,69,70,71,72,73,74,75] 2 (vB false)<|aa ?_;obtain rfl:=sj b;exact gq fun a hq=>⟨e,bJ,hq⟩
      ·refine p1 47 (pt f 2)<|bu 3 d 2 rfl<|pL [49,50] 50 (vB (c.2.2.1==0))<|ce 50 b (fun ah b=>?_) (fun ah b=>?_)
       ·refine p1 51 (pt f 4)<|bu 4 d 4 rfl<|pL (rgq 53 5) 57 (vB (!c.2.2.2.2.1))<|ce 57 b (fun an b=>?_) (fun an b=>?_)
        ·refine pL [58,59] 59 (vB l)<|bQ [(1,bp f),(57,vB true),(59,vB l)]<|ce 59 b (fun ax b=>?_) (fun ax b=>?_)
         ·refine pN 7 (rgq 60 7) [(65,vB true),(66,bp f)]<|bu 3 d 0 rfl<|pL [68,69] 69 (vB (c.1==3))<|ce 69 b (fun a0 b=>?_) (fun a0 b=>?_)
          ·refine pL [2,70,71,72,73,74,75] 2 (vB true)<|aa ?_;obtain rfl:=sj b;exact gq fun a hq=>⟨e,bJ,hq⟩
          ·refine p1 70 (pt f 5)<|bu 22 d 5 rfl<|pL [2,72,73,74,75] 2 (vB ((lz c.2.2.2.2.2.1)==0))<|ad b<|fun b0 a1 b=>bO (s:=2) (v:=(vB ((lz c.2.2.2.2.2.1)==0))) (v':=(vB b0)) kr (congrArg (Value.bool) (sj a1))<|aa ?_;obtain rfl:=sj b;exact gq fun a hq=>⟨e,bJ,hq⟩
         ·refine p1 60 (pt f 3)<|bu 4 d 3 rfl<|pL (rgq 62 4) 65 (vB (!c.2.2.2.1))<|ce 65 b (fun a2 b=>?_) (fun a2 b=>?_)
          ·refine p1 66 (bp f)<|bu 3 d 0 rfl<|pL [68,69] 69 (vB (c.1==3))<|ce 69 b (fun a3 b=>?_) (fun a3 b=>?_)
           ·refine pL [2,70,71,72,73,74,75] 2 (vB true)<|aa ?_;obtain rfl:=sj b;exact gq fun a hq=>⟨e,bJ,hq⟩
           ·refine p1 70 (pt f 5)<|bu 22 d 5 rfl<|pL [2,72,73,74,75] 2 (vB ((lz c.2.2.2.2.2.1)==0))<|ad b<|fun b2 a4 b=>bO (s:=2) (v:=(vB ((lz c.2.2.2.2.2.1)==0))) (v':=(vB b2)) kr (congrArg (Value.bool) (sj a4))<|aa ?_;obtain rfl:=sj b;exact gq fun a hq=>⟨e,bJ,hq⟩
          ·refine pL [2,66,67,68,69,70,71,72,73,74,75] 2 (vB false)<|aa ?_;obtain rfl:=sj b;exact gq fun a hq=>⟨e,bJ,hq⟩
        ·refine pL [2,58,59,60,61,62,63,64,65,66,67,68,69,70,71,72,73,74,75] 2 (vB false)<|bQ [(2,vB false)]<|aa ?_;obtain rfl:=sj b;exact gq fun a hq=>⟨e,bJ,hq⟩
       ·refine pL [2,51,52,53,54,55,56,57,58,59,60,61,62,63,64,65,66,67,68,69,70,71,72,73,74,75] 2 (vB false)<|aa ?_;obtain rfl:=sj b;exact gq fun a hq=>⟨e,bJ,hq⟩
     ·refine pL [2,43,44,45,46,47,48,49,50,51,52,53,54,55,56,57,58,59,60,61,62,63,64,65,66,67,68,69,70,71,72,73,74,75] 2 (vB false)<|aa ?_;obtain rfl:=sj b;exact gq fun a hq=>⟨e,bJ,hq⟩
   ·rintro a r ⟨a5,ca,hq⟩;refine gi hq<|ai ?_;obtain rfl:=sj n;refine au (aj [vB t] rfl ⟨kr,trivial⟩ ?_);exact ⟨ab a5,rfl⟩

theorem zuS (af:Nat) (b:Int) (d:World) (m:Bool) (c:zxq af b=some m):
    Cs 162 [vR b] d (G1 d [vB m]):=by
 have f:Bl d d:=Below.refl _ _;unfold zxq at c;refine aL Tryz.func162 rfl Tryz.ntmps162 kr<|bQ [(0,vR b)]<|aI<|pN 1 [2] []<|cg<|aG<|aI<|aM (J:=fun a n=>d=n∧Qa a 17 [(0,vR b),(3,vB ((decide (0<=b))&&(decide (b<55296))))]) ?_ ?_
 ·refine pL [4,5,6] 6 (vB (decide (0<=b)))<|bo (s:=6) (g:=(decide (0<=b))) kr (fun h=>?_) (fun h=>?_)
  ·refine pL [3,7,8,9] 3 (vB (decide (b<55296)))<|aa<|bc [0,3] (σ':=[(0,vR b),(3,vB (decide (b<55296)))]) kr<|bi fun a hd hs bk=>⟨rfl,hd,hs,?_⟩;obtain ⟨k,l,_⟩:=bk;exact ⟨k,(by rw[h];exact l),trivial⟩
  ·refine pL [3,7,8,9] 3 (vB false)<|aa<|bc [0,3] (σ':=[(0,vR b),(3,vB false)]) kr<|bi fun a hd hs bk=>⟨rfl,hd,hs,?_⟩;obtain ⟨k,l,_⟩:=bk;exact ⟨k,(by rw[h];exact l),trivial⟩
 ·rintro a n ⟨e,hd,hs,bk⟩;subst e;refine b9 ?_ hd hs bk;refine bC c (fun o c=>?_) (fun o c=>?_)
  ·refine aI<|p1 2 (vB true)<|aa<|ai ?_
   obtain rfl:=sj c;refine au (aj [vB true] rfl ⟨kr,trivial⟩ ?_);exact ⟨ab f,rfl⟩
  ·refine aI<|aM (J:=fun a p=>d=p∧Qa a 17 [(10,vB ((decide (57343<b))&&(decide (b<=1114111))))]) ?_ ?_
   ·refine pL [11,12,13] 13 (vB (decide (57343<b)))<|bo (s:=13) (g:=(decide (57343<b))) kr (fun i=>?_) (fun i=>?_)
    ·refine pL [10,14,15,16] 10 (vB (decide (b<=1114111)))<|aa<|bc [10] (σ':=[(10,vB (decide (b<=1114111)))]) kr<|bi fun a hd hs bk=>⟨rfl,hd,hs,?_⟩;obtain ⟨j,_⟩:=bk;exact ⟨(by rw[i];exact j),trivial⟩
    ·refine pL [10,14,15,16] 10 (vB false)<|aa<|bc [10] (σ':=[(10,vB false)]) kr<|bi fun a hd hs bk=>⟨rfl,hd,hs,?_⟩;obtain ⟨j,_⟩:=bk;exact ⟨(by rw[i];exact j),trivial⟩
   ·rintro a p ⟨e,hd,hs,bk⟩;subst e;refine b9 ?_ hd hs bk;refine bC c (fun q c=>?_) (fun q c=>?_)
    ·refine aI<|p1 2 (vB true)<|aa<|ai ?_
     obtain rfl:=sj c;refine au (aj [vB true] rfl ⟨kr,trivial⟩ ?_);exact ⟨ab f,rfl⟩
    ·refine ay<|bB<|aI<|p1 2 (vB false)<|aa<|ai ?_
     obtain rfl:=sj c;refine au (aj [vB false] rfl ⟨kr,trivial⟩ ?_);exact ⟨ab f,rfl⟩

theorem zxO (af:Nat) (b:Int) (d:World) (k:Bool) (f:zyn af b=some k):
    Cs 137 [vI b] d (G1 d [vB k]):=by
 have e:Bl d d:=Below.refl _ _;unfold zyn at f;refine aL Tryz.func137 rfl Tryz.ntmps137 kr<|bQ [(0,vI b)]<|aI<|pN 1 [2] []<|bL<|ad f ?_;intro l c f
 refine aM (J:=fun a h=>Bl d h∧Sz d h∧Qa a 14 [(2,vB l)]) ?_ ?_
 ·refine pL [3,4,5] 5 (vB (decide (b>=0)))<|ce 5 c (fun m c=>?_) (fun m c=>?_)
  ·refine pL [6,7,8,9] 9 (vB (decide (b<=1114111)))<|ce 9 c (fun n c=>?_) (fun n c=>?_)
   ·refine pL [10,11] 11 (vR (wR (b)))<|ad c<|fun o p c=>ar kr rfl kr zns (zuS af (wR (b)) d o p) ?_;rintro r s ⟨g,rfl⟩;refine pL [2,13] 2 (vB o)<|aa ?_;obtain rfl:=sj c;exact gq fun a hq=>have i:=bg e g nb;⟨i,g.size,hq⟩
   ·refine pL [2,10,11,12,13] 2 (vB false)<|aa ?_;obtain rfl:=sj c;exact gq fun a hq=>⟨e,bJ,hq⟩
  ·refine pL [2,6,7,8,9,10,11,12,13] 2 (vB false)<|aa ?_;obtain rfl:=sj c;exact gq fun a hq=>⟨e,bJ,hq⟩
 ·rintro a h ⟨j,q,hq⟩;refine gi hq<|ai ?_;obtain rfl:=sj f;refine au (aj [vB l] rfl ⟨kr,trivial⟩ ?_);exact ⟨ab j,rfl⟩

theorem zu1 (af:Nat) (ac:bh) (ae:Nat) (b:List aU) (p:World) (X0:Nat->Prop) (r:Lw X0 p) (aw:Rd bK p X0 ac ae b) (r0:Bool) (q:zyE af b=some r0):
    Cs 138 [vL ac b ae] p (G1 p [vB r0]):=by
 have bs:Bl p p:=Below.refl _ _;unfold zyE at q;refine aL Tryz.func138 rfl Tryz.ntmps138 kr<|bQ [(0,vL ac b ae)]<|aI<|pN 1 [2] []<|cg<|aI<|pN 3 [5,6,7] [(5,vL ac b ae),(6,vI (lz b)),(7,vI 0)]<|aa<|ad q ?_;intro j1 w q
 refine aA (J:=fun a S=>∃ s2:Unit,j1= .inl s2∧Bl p S∧Sz p S∧Qa a 49 [(0,vL ac b ae)]) ?_ ?_
 ·refine aG<|bN (A:=fun (g:Int) a L=>Bl p L∧Sz p L∧Qa a 49 [(0,vL ac b ae),(5,vL ac b ae),(6,vI (lz b)),(7,vI g)]) w ?_ ?_
  ·intro a hd hs bk;exact ⟨bs,bJ,hd,hs,dx bk⟩
  ·rintro g r2 m O a L ⟨t,P,hq⟩;refine gi hq<|aI<|p1 8 (vB (decide (g<(lz b))))<|cg<|bC m (fun b0 m=>?_) (fun b0 m=>?_)
   ·refine ay<|aE<|aG<|aI<|p1 9 (vI g)<|ad m<|fun n x m=>cz .i64 2 (aw.below t r) x aN ?_;obtain ⟨_,⟨_,_,rfl,rfl,rfl⟩,T⟩:=aw.cellsK x;refine laq 37 (aq ac ((g:Int).toNat*2)) (bI n) (bD (T L (fun k hk=>t.block k (r k hk))))<|aD bp #[vI 0,vI 0] 37 kr kr<|fun d c2 y U M b4=>p1 3 (vI g)<|aH 37 0 (.agg (bI n)) (bI n) U kr kr kr<|fun b1 z V b5=>cg<|ad m ?_;intro b2 c m
    refine aA (J:=fun a B=>Bl p B∧Sz b1 B∧Qa a 49 [(0,vL ac b ae),(5,vL ac b ae),(6,vI (lz b)),(7,vI g),(44,vB b2)]) ?_ ?_
    ·refine bq kr<|fun C h=>aO [0] (bA 33 [0]) 32 kr kr<|p1 12 (bp d)<|aa<|ak<|aF (cI C []) [1] [(1,some true)] (bA 33 [0,1]) 31 kr kr (av _ _)<|have b7:=av C [];have D:=V.grown h nb;b6 3 ⟨d,0,none⟩ (vI n.1) (bw fun w' hC'=>((hC'.box D aX).cell 0 rfl))<|aa<|ak<|aF (fun _=>True) [2] [(2,some false)] (bA 33 [0,1,2]) 30 kr kr trivial<|ad c<|fun Q W c=>dI ztV (zxO af n.1 C Q W) ?_;rintro c3 l ⟨i,rfl⟩;refine ⟨(fun _=>trivial),?_⟩;refine aa<|ak<|aO [3,4,5] (bA 33 (rgq 0 6)) 27 kr kr<|pL [15,16] 16 (vB (!Q))<|have N:p.heap.size<=d:=cM M t.size;have E:=bg (bg (bg t y nb) z (bx N)) (al h i) nb;ce 16 c (fun X c=>?_) (fun X c=>?_)
     ·refine p1 17 undef<|aa<|ak<|aF (cI l []) [6] [(6,some true)] (bA 33 (rgq 0 7)) 26 kr kr (av _ _)<|have ca:=av l [];p1 18 undef<|aa<|ak<|aF (fun _=>True) [7] [(7,some false)] (bA 33 (rgq 0 8)) 25 kr kr trivial<|cQ trivial 1 [19] [(19,undef)] kr<|bQ [(0,vL ac b ae),(3,vI g),(4,bp d),(5,vL ac b ae),(6,vI (lz b)),(7,vI g),(16,vB true),(19,undef)]<|aa<|ak<|aO [8,9,10,11,13] (bA 33 [0,1,2,3,4,5,6,7,8,9,10,11,13]) 20 kr kr<|pN 5 [20,21,22,23,25] [(22,vB true),(23,undef),(25,undef)]<|aa<|ak<|aF (cI l []) [12,14] [(12,some true),(14,some true)] (bA 33 (rgq 0 15)) 18 kr kr (av _ _)<|have cb:=av l [];pN 2 [24,26] [(24,undef),(26,undef)]<|aa<|ak<|aO [15,16,17,18,19,20,21,23,24,25,26,27] (bA 33 [0,1,2,3,4,5,6,7,8,9,10,11,12,13,14,15,16,17,18,19,20,21,23,24,25,26,27]) 6 kr kr<|pN 12 [27,28,29,30,31,32,33,35,36,37,38,39] [(29,vB true),(32,undef),(33,undef),(39,undef)]<|aa<|ak<|aF (cI l []) [22,28,29] [(22,some true),(28,some true),(29,some true)] (bA 33 (rgq 0 30)) 3 kr kr (av _ _)<|have cc:=av l [];pN 3 [34,40,41] [(34,undef),(41,undef)]<|aa<|ak<|aO [30,31,32] (bA 33 (rgq 0 33)) 0 kr kr<|pL [42,43,44] 44 (vB true)<|aa<|ak<|aP kr ?_;obtain rfl:=sj c;exact gq fun a hq=>have Y:=(nt h.size i.size);⟨E,Y,hq⟩
     ·refine p1 17 (pt d 1)<|aa<|ak<|aF (cI l []) [6] [(6,some true)] (bA 33 (rgq 0 7)) 26 kr kr (av _ _)<|have ch:=av l [];have F:=D.grown i nb;b6 3 ⟨d,1,none⟩ (vI n.2) (bw fun w' hC'=>((hC'.box F aX).cell 1 rfl))<|aa<|ak<|aF (fun _=>True) [7] [(7,some false)] (bA 33 (rgq 0 8)) 25 kr kr trivial<|ad c<|fun G Z c=>dI ztV (zxO af n.2 l G Z) ?_;rintro c4 f ⟨o,rfl⟩;refine ⟨(fun _=>trivial),?_⟩;refine aa<|ak<|aO [8,9,10,11,13] (bA 33 [0,1,2,3,4,5,6,7,8,9,10,11,13]) 20 kr kr<|pL [20,21,22] 22 (vB (!G))<|bQ [(0,vL ac b ae),(3,vI g),(4,bp d),(5,vL ac b ae),(6,vI (lz b)),(7,vI g),(22,vB (!G))]<|have j:=bg E o nb;ce 22 c (fun ah c=>?_) (fun ah c=>?_)
      ·refine pN 2 [23,25] [(23,undef),(25,undef)]<|aa<|ak<|aF (cI f []) [12,14] [(12,some true),(14,some true)] (bA 33 (rgq 0 15)) 18 kr kr (av _ _)<|have ck:=av f [];pN 2 [24,26] [(24,undef),(26,undef)]<|aa<|ak<|aO [15,16,17,18,19,20,21,23,24,25,26,27] (bA 33 [0,1,2,3,4,5,6,7,8,9,10,11,12,13,14,15,16,17,18,19,20,21,23,24,25,26,27]) 6 kr kr<|pN 12 [27,28,29,30,31,32,33,35,36,37,38,39] [(29,vB true),(32,undef),(33,undef),(39,undef)]<|aa<|ak<|aF (cI f []) [22,28,29] [(22,some true),(28,some true),(29,some true)] (bA 33 (rgq 0 30)) 3 kr kr (av _ _)<|have cs:=av f [];pN 3 [34,40,41] [(34,undef),(41,undef)]<|aa<|ak<|aO [30,31,32] (bA 33 (rgq 0 33)) 0 kr kr<|pL [42,43,44] 44 (vB true)<|aa<|ak<|aP kr ?_;obtain rfl:=sj c;exact gq fun a hq=>have an:=(nt (nt h.size i.size) o.size);⟨j,an,hq⟩
      ·refine pN 2 [23,25] [(23,bp d),(25,pt d 1)]<|aa<|ak<|aF (cI f []) [12,14] [(12,some true),(14,some true)] (bA 33 (rgq 0 15)) 18 kr kr (av _ _)<|have cv:=av f [];have u:=F.grown o nb;b6 3 ⟨d,0,none⟩ (vI n.1) (bw fun w' hC'=>((hC'.box u aX).cell 0 rfl))<|b6 3 ⟨d,1,none⟩ (vI n.2) (bw fun w' hC'=>((hC'.box u aX).cell 1 rfl))<|aa<|ak<|aO [15,16,17,18,19,20,21,23,24,25,26,27] (bA 33 [0,1,2,3,4,5,6,7,8,9,10,11,12,13,14,15,16,17,18,19,20,21,23,24,25,26,27]) 6 kr kr<|pL [27,28,29] 29 (vB (decide (n.1>n.2)))<|ce 29 c (fun ax c=>?_) (fun ax c=>?_)
       ·refine pN 9 [30,31,32,33,35,36,37,38,39] [(32,undef),(33,undef),(39,undef)]<|aa<|ak<|aF (cI f []) [22,28,29] [(22,some true),(28,some true),(29,some true)] (bA 33 (rgq 0 30)) 3 kr kr (av _ _)<|have cw:=av f [];pN 3 [34,40,41] [(34,undef),(41,undef)]<|aa<|ak<|aO [30,31,32] (bA 33 (rgq 0 33)) 0 kr kr<|pL [42,43,44] 44 (vB true)<|aa<|ak<|aP kr ?_;obtain rfl:=sj c;exact gq fun a hq=>have a0:=(nt (nt h.size i.size) o.size);⟨j,a0,hq⟩
       ·refine pL [30,31,32] 32 (vB (decide (g>0)))<|ce 32 c (fun a1 c=>?_) (fun a1 c=>?_)
        ·refine pN 4 [33,35,36,37] [(33,bp d),(35,vL ac b ae),(37,vI (wI (g-1)))]<|ad c<|fun H I c=>cz .i64 2 (aw.below j r) I aN<|p1 39 (.pointer (some (Addr.add (aq ac (((wI (g-1)):Int).toNat*2)) 1)))<|aa<|ak<|aF (cI f []) [22,28,29] [(22,some true),(28,some true),(29,some true)] (bA 33 (rgq 0 30)) 3 kr kr (av _ _)<|have cx:=av f [];b6 3 ⟨d,0,none⟩ (vI n.1) (bw fun w' hC'=>((hC'.box u aX).cell 0 rfl)) ?_;obtain ⟨_,⟨_,_,rfl,rfl,rfl⟩,a2⟩:=aw.cellsK I;refine b6 3 (Addr.add (aq ac (((wI (g-1)):Int).toNat*2)) 1) (vI H.2) (bw fun w' hC'=>((a2 w' (fun k hk=>(hC'.2 k ((aW r j.size) k hk) (fun hg=>bH k hg hk)).trans (j.block k (r k hk)))) 1 _ rfl))<|p1 41 (vI (wI (H.2+1)))<|aa<|ak<|aO [30,31,32] (bA 33 (rgq 0 33)) 0 kr kr<|pL [42,43,44] 44 (vB (decide (n.1<=(wI (H.2+1)))))<|aa<|ak<|aP kr ?_;cases c;exact gq fun a hq=>have a3:=(nt (nt h.size i.size) o.size);⟨j,a3,hq⟩
        ·refine pN 6 [33,35,36,37,38,39] [(33,undef),(39,undef)]<|aa<|ak<|aF (cI f []) [22,28,29] [(22,some true),(28,some true),(29,some true)] (bA 33 (rgq 0 30)) 3 kr kr (av _ _)<|have c0:=av f [];pN 3 [34,40,41] [(34,undef),(41,undef)]<|aa<|ak<|aO [30,31,32] (bA 33 (rgq 0 33)) 0 kr kr<|pL [42,43,44] 44 (vB false)<|aa<|ak<|aP kr ?_;obtain rfl:=sj c;exact gq fun a hq=>have a4:=(nt (nt h.size i.size) o.size);⟨j,a4,hq⟩
    ·rintro a B ⟨K,a5,hq⟩;refine gi hq<|have a6:=(nt (nt (nt P y.size) z.size) a5);bC m (fun a7 m=>?_) (fun a7 m=>?_)
     ·refine aI<|p1 2 (vB false)<|aa<|ai ?_
      cases m;replace w:=congrArg some (O _ rfl);cases w;replace q:=aZ q;obtain rfl:=sj q;refine au (aj [vB false] rfl ⟨kr,trivial⟩ ?_);exact ⟨ab K,rfl⟩
     ·refine ay<|bB<|az<|pL [7,45] 7 (vI (wI (g+1)))<|aa ?_;cases m;exact gq fun a hq=>have a8:=a6;⟨(wI (g+1)),rfl,K,a8,hq⟩
   ·refine bm<|bG rfl ?_
    cases m;replace w:=congrArg some (O _ rfl);cases w;exact gq fun a hq=>have a9:=P;⟨(),rfl,t,a9,hq⟩
 ·rintro a S ⟨s2,e,bd,c1,hd,hs,bk⟩;subst e;refine b9 ?_ hd hs bk;replace q:=bP q;refine aI<|pL [2,46,47,48] 2 (vB (decide ((lz b)>0)))<|ad q<|fun R be q=>bO (s:=2) (v:=(vB (decide ((lz b)>0)))) (v':=(vB R)) kr (congrArg (Value.bool) (sj be))<|aa<|ai ?_
  obtain rfl:=sj q;refine au (aj [vB R] rfl ⟨kr,trivial⟩ ?_);exact ⟨ab bd,rfl⟩

theorem zwh (af:Nat) (ac:bh) (ae:Nat) (b:List Int) (g:Int) (d:World) (u:Nat->Prop) (l:Lw u d) (aw:Rd (iE .i64) d u ac ae b) (v:Int) (h:zz0 af b g=some v):
    Cs 161 [vL ac b ae,vI g] d (G1 d [vI v]):=by
 have w:Bl d d:=Below.refl _ _;unfold zz0 at h;refine aL Tryz.func161 rfl Tryz.ntmps161 kr<|bQ [(0,vL ac b ae),(1,vI g)]<|aI<|pN 1 [4] []<|cg<|aI<|pN 3 [6,7,8] [(7,vI (lz b)),(8,vI 0)]<|aa<|ad h ?_;intro B j h
 refine aA (J:=fun a o=>∃ x:Unit,B= .inl x∧Bl d o∧Sz d o∧Qa a 19 []) ?_ ?_
 ·refine aG<|bN (A:=fun (f:Int) a p=>Bl d p∧Sz d p∧Qa a 19 [(0,vL ac b ae),(1,vI g),(7,vI (lz b)),(8,vI f)]) j ?_ ?_
  ·intro a hd hs bk;exact ⟨w,bJ,hd,hs,dx bk⟩
  ·rintro f D c m a p ⟨i,n,hq⟩;refine gi hq<|aI<|p1 9 (vB (decide (f<(lz b))))<|cg<|bC c (fun y c=>?_) (fun y c=>?_)
   ·refine ay<|aE<|aG<|aI<|pL [5,10] 5 (vI f)<|bL<|pN 3 [11,12,13] [(11,vI g),(12,vL ac b ae),(13,vI f)]<|ad c<|fun z k c=>cz .i64 1 (aw.below i l) k aR<|b6 3 (aq ac ((f:Int).toNat*1)) (vI z) (bD ((aw.below i l).cell k))<|p1 16 (vB (g==z))<|aa<|bC c (fun q c=>?_) (fun q c=>?_)
    ·refine aI<|pL [4,17] 4 (vI f)<|aa<|ai ?_
     cases c;replace j:=congrArg some (m _ rfl);cases j;replace h:=aZ h;obtain rfl:=sj h;refine au (aj [vI f] rfl ⟨kr,trivial⟩ ?_);exact ⟨ab i,rfl⟩
    ·refine ay<|bB<|az<|pL [8,18] 8 (vI (wI (f+1)))<|aa ?_;cases c;exact gq fun a hq=>have r:=n;⟨(wI (f+1)),rfl,i,r,hq⟩
   ·refine bm<|bG rfl ?_
    cases c;replace j:=congrArg some (m _ rfl);cases j;exact gq fun a hq=>have s:=n;⟨(),rfl,i,s,hq⟩
 ·rintro a o ⟨x,e,t,C,hd,hs,bk⟩;subst e;refine b9 ?_ hd hs bk;replace h:=bP h;refine aI<|p1 4 (vI (-1))<|aa<|ai ?_
  cases h;refine au (aj [vI (-1)] rfl ⟨kr,trivial⟩ ?_);exact ⟨ab t,rfl⟩

theorem zxR (af:Nat) (ac:bh) (ae:Nat) (a:List Int) (b:Int) (c:World) (g:Nat->Prop) (f:Lw g c) (aw:Rd (iE .i64) c g ac ae a) (i:Bool) (e:zzO af a b=some i):
    Cs 136 [vL ac a ae,vI b] c (G1 c [vB i]):=by
 have d:Bl c c:=Below.refl _ _;unfold zzO at e;refine aL Tryz.func136 rfl Tryz.ntmps136 kr<|bQ [(0,vL ac a ae),(1,vI b)]<|aI<|pN 1 [4] []<|bL<|pN 2 [5,6] [(5,vL ac a ae),(6,vI b)]<|ad e<|fun h j e=>ar kr rfl kr zny (zwh af ac ae a b c g (aW f d.size) (aw.below d f) h j) ?_;rintro l m ⟨k,rfl⟩;refine pL [4,8] 4 (vB (decide (h>=0)))<|aa<|ai ?_
 cases e;refine au (aj [vB (decide (h>=0))] rfl ⟨kr,trivial⟩ ?_);exact ⟨ab (bg d k nb),rfl⟩

theorem zvN (af:Nat) (ac:bh) (ae:Nat) (b:bh) (c:Nat) (d:cn) (g:Nat) (am:bh) (aC:Nat) (a:List Int) (e:World) (h:Nat->Prop) (j:Lw h e) (k:aV e g 27 #[vL am a aC]) (aw:Rd bK e h ac ae d.2.2.2.2.2.1) (o:Rd pcE e h b c d.2.2.2.2.2.2) (aS:Rd (iE .i64) e h am aC a) (p:Bool) (i:zyT af d a=some p):
    Cs 135 [.agg (bj d ac ae b c),bp g] e (G1 e [vB p]):=by
 have q:Bl e e:=Below.refl _ _;unfold zyT at i;refine aL Tryz.func135 rfl Tryz.ntmps135 kr<|bQ [(0,.agg (bj d ac ae b c)),(1,bp g)]<|have t:=k.lt;aI<|aD bp (bj d ac ae b c) 25 kr kr ?_
 intro u v l r w x;refine pN 1 [3] []<|bL<|bu 27 (k.grown l nb) 0 rfl<|p1 5 (bp u)<|bu 3 r 0 rfl<|ad i<|fun m s i=>have f:=bg q l nb;ar kr rfl kr zoD (zxR af am aC a d.1 v h (aW j f.size) (aS.below f j) m s) ?_;rintro y z ⟨n,rfl⟩;refine p1 3 (vB m)<|aa<|ai ?_
 obtain rfl:=sj i;refine au (aj [vB m] rfl ⟨kr,trivial⟩ ?_);exact ⟨ab (bg f n nb),rfl⟩

theorem zv2 (af:Nat) (ac:bh) (ae:Nat) (h:List Pc) (b:Nat) (c:bh) (d:Nat) (g:List Int) (l:World) (D:Nat->Prop) (n:Lw D l) (r:aV l b 27 #[vL c g d]) (aw:Rd pcE l D ac ae h) (p:Rd (iE .i64) l D c d g) (Q:Int) (o:zyJ af h g=some Q):
    Cs 144 [vL ac h ae,.func (.func 135) #[] #[bp b]] l (G1 l [vI Q]):=by
 have R:Bl l l:=Below.refl _ _;unfold zyJ at o;refine aL Tryz.func144 rfl Tryz.ntmps144 kr<|bQ [(0,vL ac h ae),(1,.func (.func 135) #[] #[bp b])]<|have S:=r.lt;aI<|pN 1 [4] []<|cg<|aI<|pN 3 [6,7,8] [(7,vI (lz h)),(8,vI 0)]<|aa<|ad o ?_;intro W t o
 refine aA (J:=fun a E=>∃ T:Unit,W= .inl T∧Bl l E∧Sz l E∧aV E b 27 #[vL c g d]∧Qa a 19 []) ?_ ?_
 ·refine aG<|bN (A:=fun (m:Int) a s=>Bl l s∧Sz l s∧aV s b 27 #[vL c g d]∧Qa a 19 [(0,vL ac h ae),(1,.func (.func 135) #[] #[bp b]),(7,vI (lz h)),(8,vI m)]) t ?_ ?_
  ·intro a hd hs bk;exact ⟨R,bJ,r,hd,hs,dx bk⟩
  ·rintro m r2 i F a s ⟨j,G,u,hq⟩;refine gi hq<|aI<|p1 9 (vB (decide (m<(lz h))))<|cg<|bC i (fun U i=>?_) (fun U i=>?_)
   ·refine ay<|aE<|aG<|aI<|pL [5,10] 5 (vI m)<|bL<|pN 3 [11,12,13] [(11,.func (.func 135) #[] #[bp b]),(12,vL ac h ae),(13,vI m)] ?_
    refine ad i<|fun v w i=>cz .i64 7 (aw.below j n) w aT ?_;obtain ⟨_,⟨_,_,rfl,rfl,⟨_,_,rfl,rfl,⟨_,_,rfl,rfl,⟨_,_,rfl,rfl,⟨_,_,rfl,rfl,⟨_,_,rfl,⟨x,y,rfl,H⟩,⟨z,B,rfl,I⟩⟩⟩⟩⟩⟩⟩,K⟩:=zzS (aw.cellsK w);refine laq 25 (aq ac ((m:Int).toNat*7)) (dm (Pc.un v) x y z B) (bD (K s (fun k hk=>j.block k (n k hk))))<|ad i<|fun V L i=>cE (f:=135) (vs:=[.agg (dm (Pc.un v) x y z B)]) (cap:=[bp b]) _ ci rfl rfl rfl kr kr znh (zvN af x y z B (Pc.un v) b c d g s D (aW n j.size) u (H.below j n) (I.below j n) (p.below j n) V L) ?_;rintro Z ah ⟨q,rfl⟩;refine ⟨nofun,?_⟩;refine aa<|have C:=bg j q nb;bC i (fun M i=>?_) (fun M i=>?_)
    ·refine aI<|pL [4,17] 4 (vI m)<|aa<|ai ?_
     cases i;replace t:=congrArg some (F _ rfl);cases t;replace o:=aZ o;obtain rfl:=sj o;refine au (aj [vI m] rfl ⟨kr,trivial⟩ ?_);exact ⟨ab C,rfl⟩
    ·refine ay<|bB<|az<|pL [8,18] 8 (vI (wI (m+1)))<|aa ?_;cases i;exact gq fun a hq=>have N:=(nt G q.size);⟨(wI (m+1)),rfl,C,N,(u.grown q nb),hq⟩
   ·refine bm<|bG rfl ?_
    cases i;replace t:=congrArg some (F _ rfl);cases t;exact gq fun a hq=>have O:=G;⟨(),rfl,j,O,u,hq⟩
 ·rintro a E ⟨T,e,P,X,Y,hd,hs,bk⟩;subst e;refine b9 ?_ hd hs bk;replace o:=bP o;refine aI<|p1 4 (vI (-1))<|aa<|ai ?_
  cases o;refine au (aj [vI (-1)] rfl ⟨kr,trivial⟩ ?_);exact ⟨ab P,rfl⟩

theorem zu0 (af:Nat) (ac:bh) (ae:Nat) (e:List Pc) (a:Nat) (b:bh) (c:Nat) (d:List Int) (f:World) (k:Nat->Prop) (j:Lw k f) (h:aV f a 27 #[vL b d c]) (aw:Rd pcE f k ac ae e) (g:Rd (iE .i64) f k b c d) (n:Bool) (l:zxd af e d=some n):
    Cs 120 [vL ac e ae,.func (.func 135) #[] #[bp a]] f (G1 f [vB n]):=by
 have i:Bl f f:=Below.refl _ _;unfold zxd at l;refine aL Tryz.func120 rfl Tryz.ntmps120 kr<|bQ [(0,vL ac e ae),(1,.func (.func 135) #[] #[bp a])]<|have o:=h.lt;aI<|pN 1 [4] []<|bL<|pN 2 [5,6] [(5,vL ac e ae),(6,.func (.func 135) #[] #[bp a])] ?_
 refine ad l<|fun m p l=>ar kr rfl kr ztE (zv2 af ac ae e a b c d f k (aW j i.size) h (aw.below i j) (g.below i j) m p) ?_;rintro r s ⟨q,rfl⟩;refine pL [4,8] 4 (vB (decide (m>=0)))<|aa<|ai ?_
 cases l;refine au (aj [vB (decide (m>=0))] rfl ⟨kr,trivial⟩ ?_);exact ⟨ab (bg i q nb),rfl⟩

theorem di (af:Nat) (ac:bh) (ae:Nat) (a:List Int) (g:Nat) (am:bh) (aC:Nat) (c:bh) (d:Nat) (b:cn) (e:World) (h:Nat->Prop) (i:Lw h e) (l:aV e g 25 (bj b am aC c d)) (aw:Rd (iE .i64) e h ac ae a) (aS:Rd bK e h am aC b.2.2.2.2.2.1) (j:Rd pcE e h c d b.2.2.2.2.2.2) (p:Bool) (k:zyk af a b=some p):
    Cs 134 [vL ac a ae,bp g] e (G1 e [vB p]):=by
 have q:Bl e e:=Below.refl _ _;unfold zyk at k;refine aL Tryz.func134 rfl Tryz.ntmps134 kr<|bQ [(0,vL ac a ae),(1,bp g)]<|have u:=l.lt;aI<|aD bp #[vL ac a ae] 27 kr kr ?_
 intro r v m s w x;refine pN 1 [3] []<|bL<|p1 4 (pt g 6)<|bu 23 (l.grown m nb) 6 rfl<|p1 6 (.func (.func 135) #[] #[bp r])<|ad k<|fun n t k=>have f:=bg q m nb;ar kr rfl kr ztI (zu0 af c d b.2.2.2.2.2.2 r ac ae a v h (aW i f.size) s (j.below f i) (aw.below f i) n t) ?_;rintro y z ⟨o,rfl⟩;refine pL [3,8] 3 (vB (!n))<|aa<|ai ?_
 cases k;refine au (aj [vB (!n)] rfl ⟨kr,trivial⟩ ?_);exact ⟨ab (bg f o nb),rfl⟩

theorem ztT (af:Nat) (ac:bh) (ae:Nat) (j:bh) (l:Nat) (d:cn) (p:World) (H:Nat->Prop) (q:Lw H p) (aw:Rd bK p H ac ae d.2.2.2.2.2.1) (z:Rd pcE p H j l d.2.2.2.2.2.2) (r0:Bool) (i:zxn af d=some r0):
    Cs 115 [.agg (bj d ac ae j l)] p (G1 p [vB r0]):=by
 have dY:Bl p p:=Below.refl _ _;unfold zxn at i;refine aL Tryz.func115 rfl Tryz.ntmps115 kr<|bQ [(0,.agg (bj d ac ae j l))]<|aI<|aD bp (bj d ac ae j l) 25 kr kr ?_
 intro m Q dZ w d8 en;refine pN 1 [2] []<|bL<|p1 5 (pt m 6)<|bu 23 w 6 rfl<|pL [3,7] 3 (vI (lz d.2.2.2.2.2.2))<|ad i<|fun t d0 i=>bO (s:=3) (v:=(vI (lz d.2.2.2.2.2.2))) (v':=(vI t)) kr (congrArg (Value.int .i64) (sj d0))<|bL<|pL [4,8] 4 (.func (.func 134) #[] #[bp m]) ?_
 refine cg<|aI<|p1 9 (bp m)<|bu 3 w 0 rfl<|aa<|aG<|aI<|pL [11,12] 11 (vB (d.1==1))<|aa<|have n:=bg dY dZ nb;bC i (fun d1 i=>?_) (fun d1 i=>?_)
 ·refine aI<|ad i ?_;intro bE c i
  refine aM (J:=fun a R=>Bl p R∧Sz Q R∧Qa a 80 [(2,vB bE)]) ?_ ?_
  ·refine pL [13,14,15] 15 (vB (t==0))<|ce 15 c (fun cb c=>?_) (fun cb c=>?_)
   ·refine p1 16 (pt m 1)<|bu 3 w 1 rfl<|ad c<|fun S cc c=>ar kr rfl kr ztV (zxO af d.2.1 Q S cc) ?_;rintro eo ep ⟨T,rfl⟩;refine pL [2,19] 2 (vB S)<|bQ [(2,vB S)]<|aa ?_;obtain rfl:=sj c;exact gq fun a hq=>have ch:=bg n T nb;⟨ch,T.size,hq⟩
   ·refine pL [2,16,17,18,19] 2 (vB false)<|aa ?_;obtain rfl:=sj c;exact gq fun a hq=>⟨n,bJ,hq⟩
  ·rintro a R ⟨ck,d9,hq⟩;refine gi hq<|ai ?_;obtain rfl:=sj i;refine au (aj [vB bE] rfl ⟨kr,trivial⟩ ?_);exact ⟨ab ck,rfl⟩
 ·refine aI<|pL [20,21] 20 (vB (d.1==3))<|aa<|bC i (fun cs i=>?_) (fun cs i=>?_)
  ·refine aI<|ad i ?_;intro b0 c i
   refine aM (J:=fun a U=>Bl p U∧Sz Q U∧Qa a 80 [(2,vB b0)]) ?_ ?_
   ·refine pL [22,23,24] 24 (vB (t==0))<|ce 24 c (fun cv c=>?_) (fun cv c=>?_)
    ·refine p1 25 (pt m 5)<|bu 22 w 5 rfl<|ad c<|fun V cw c=>ar kr rfl kr zo7 (zu1 af ac ae d.2.2.2.2.2.1 Q H (aW q n.size) (aw.below n q) V cw) ?_;rintro eq er ⟨W,rfl⟩;refine pL [2,28] 2 (vB V)<|bQ [(2,vB V)]<|aa ?_;obtain rfl:=sj c;exact gq fun a hq=>have cx:=bg n W nb;⟨cx,W.size,hq⟩
    ·refine pL [2,25,26,27,28] 2 (vB false)<|aa ?_;obtain rfl:=sj c;exact gq fun a hq=>⟨n,bJ,hq⟩
   ·rintro a U ⟨c0,ea,hq⟩;refine gi hq<|ai ?_;obtain rfl:=sj i;refine au (aj [vB b0] rfl ⟨kr,trivial⟩ ?_);exact ⟨ab c0,rfl⟩
  ·refine aE<|aI<|pL [29,30] 29 (vB (d.1==2))<|aa<|ad i ?_;intro d2 c i
   refine aA (J:=fun a D=>Bl p D∧Sz Q D∧aV D m 25 (bj d ac ae j l)∧Qa a 80 [(1,bp m),(3,vI t),(4,.func (.func 134) #[] #[bp m]),(10,vI d.1),(29,vB d2)]) ?_ ?_
   ·refine bC c (fun c1 c=>?_) (fun c1 c=>?_)
    ·refine ay ?_;cases c;exact gq fun a hq=>⟨n,bJ,w,hq⟩
    ·refine aI<|pL [29,31] 29 (vB (d.1==4))<|aa<|bC c (fun c2 c=>?_) (fun c2 c=>?_)
     ·refine ay ?_;cases c;exact gq fun a hq=>⟨n,bJ,w,hq⟩
     ·refine aI<|pL [29,32] 29 (vB (d.1==5))<|aa<|bC c (fun c3 c=>?_) (fun c3 c=>?_)
      ·refine ay ?_;cases c;exact gq fun a hq=>⟨n,bJ,w,hq⟩
      ·refine az<|pL [29,33] 29 (vB (d.1==6))<|bQ [(1,bp m),(3,vI t),(4,.func (.func 134) #[] #[bp m]),(10,vI d.1),(29,vB (d.1==6))]<|aa ?_;cases c;exact gq fun a hq=>⟨n,bJ,w,hq⟩
   ·rintro a D ⟨u,eb,E,hq⟩;refine gi hq<|bC i (fun c4 i=>?_) (fun c4 i=>?_)
    ·refine aI<|pL [2,34,35] 2 (vB (t==0))<|aa<|ai ?_
     cases i;refine au (aj [vB (t==0)] rfl ⟨kr,trivial⟩ ?_);exact ⟨ab u,rfl⟩
    ·refine aI<|pL [36,37] 36 (vB (d.1==12))<|aa<|bC i (fun c5 i=>?_) (fun c5 i=>?_)
     ·refine aI<|ad i ?_;intro b2 c i
      refine aM (J:=fun a X=>Bl p X∧Sz D X∧Qa a 80 [(2,vB b2)]) ?_ ?_
      ·refine pL [38,39,40] 40 (vB (t==0))<|ce 40 c (fun c7 c=>?_) (fun c7 c=>?_)
       ·refine p1 41 (pt m 1)<|bu 3 E 1 rfl<|pL [43,44,45] 45 (vB (decide (d.2.1>=1)))<|ce 45 c (fun c8 c=>?_) (fun c8 c=>?_)
        ·refine p1 46 (pt m 1)<|bu 3 E 1 rfl<|pL [2,48,49] 2 (vB (decide (d.2.1<=9)))<|aa ?_;cases c;exact gq fun a hq=>⟨u,bJ,hq⟩
        ·refine pL [2,46,47,48,49] 2 (vB false)<|aa ?_;obtain rfl:=sj c;exact gq fun a hq=>⟨u,bJ,hq⟩
       ·refine pL [2,41,42,43,44,45,46,47,48,49] 2 (vB false)<|aa ?_;obtain rfl:=sj c;exact gq fun a hq=>⟨u,bJ,hq⟩
      ·rintro a X ⟨c9,ec,hq⟩;refine gi hq<|ai ?_;obtain rfl:=sj i;refine au (aj [vB b2] rfl ⟨kr,trivial⟩ ?_);exact ⟨ab c9,rfl⟩
     ·refine aE<|aI<|pL [50,51] 50 (vB (d.1==7))<|aa<|ad i ?_;intro d3 c i
      refine aA (J:=fun a A=>Bl p A∧Sz D A∧aV A m 25 (bj d ac ae j l)∧Qa a 80 [(3,vI t),(4,.func (.func 134) #[] #[bp m]),(10,vI d.1),(50,vB d3)]) ?_ ?_
      ·refine bC c (fun ds c=>?_) (fun ds c=>?_)
       ·refine ay ?_;cases c;exact gq fun a hq=>⟨u,bJ,E,hq⟩
       ·refine az<|pL [50,52] 50 (vB (d.1==11))<|aa ?_;cases c;exact gq fun a hq=>⟨u,bJ,E,hq⟩
      ·rintro a A ⟨o,ed,I,hq⟩;refine gi hq<|bC i (fun dN i=>?_) (fun dN i=>?_)
       ·refine aI<|pL [2,53,54] 2 (vB (t==1))<|aa<|ai ?_
        cases i;refine au (aj [vB (t==1)] rfl ⟨kr,trivial⟩ ?_);exact ⟨ab o,rfl⟩
       ·refine aI<|pL [55,56] 55 (vB (d.1==8))<|aa<|bC i (fun dO i=>?_) (fun dO i=>?_)
        ·refine aI<|ad i ?_;intro b3 c i
         refine aM (J:=fun a Z=>Bl p Z∧Sz A Z∧Qa a 80 [(2,vB b3)]) ?_ ?_
         ·refine pL [57,58,59] 59 (vB (t !=1))<|ce 59 c (fun dP c=>?_) (fun dP c=>?_)
          ·refine p1 60 (.func (.func 134) #[] #[bp m])<|aD (fun b=>.slice (ro b) 2 2) #[vI 8,vI 9] 3 kr kr ?_;intro B b4 K dQ a6 ee;have ah:ag (iE .i64) 3 b4 nXq (ro B) 2 ([8,9]:List Int):=bF dQ ⟨[vI 8],[vI 9],rfl,rfl,⟨[vI 9],[],rfl,rfl,rfl⟩⟩ (show 2<=maxLen by decide) (fun h=>h);have ef:Lo p (ro B):=dw a6 o.size;refine ad c<|fun b5 dR c=>have F:=bg o K nb;cE (f:=134) (vs:=[vL (ro B) ([8,9]:List Int) 2]) (cap:=[bp m]) _ ci rfl rfl rfl kr kr ztn (di af (ro B) 2 ([8,9]:List Int) m ac ae j l d b4 (fun k=>(fun k=>aJ (ro B)=some k) k∨H k) (fun k hk=>(hk).elim (fun h=>(fun k (hk:aJ (ro B)=some k)=>ah.lt k hk) k h) (fun h=>(aW q F.size) k h)) (I.grown K nb) ((ah.rd (Y:=fun k=>aJ (ro B)=some k) fe (fun g e=>e)).wide (fun k hk=>(.inl hk))) ((aw.below F q).wide (fun k hk=>(.inr hk))) ((z.below F q).wide (fun k hk=>(.inr hk))) b5 dR) ?_;rintro es et ⟨an,rfl⟩;refine ⟨nofun,?_⟩;refine pL [2,63] 2 (vB b5)<|aa ?_;obtain rfl:=sj c;exact gq fun a hq=>have dS:=bg F an nb;⟨dS,(nt K.size an.size),hq⟩
          ·refine pL [2,60,61,62,63] 2 (vB false)<|aa ?_;obtain rfl:=sj c;exact gq fun a hq=>⟨o,bJ,hq⟩
         ·rintro a Z ⟨dT,eg,hq⟩;refine gi hq<|ai ?_;obtain rfl:=sj i;refine au (aj [vB b3] rfl ⟨kr,trivial⟩ ?_);exact ⟨ab dT,rfl⟩
        ·refine aI<|pL [64,65] 64 (vB (d.1==9))<|aa<|bC i (fun dU i=>?_) (fun dU i=>?_)
         ·refine aI<|ad i ?_;intro b7 c i
          refine aM (J:=fun a ax=>Bl p ax∧Sz A ax∧Qa a 80 [(2,vB b7)]) ?_ ?_
          ·refine pL [66,67,68] 68 (vB (decide (t>=2)))<|ce 68 c (fun dV c=>?_) (fun dV c=>?_)
           ·refine p1 69 (.func (.func 134) #[] #[bp m])<|aD (fun b=>.slice (ro b) 1 1) #[vI 9] 3 kr kr ?_;intro C ca L dW a7 eh;have a0:ag (iE .i64) 3 ca nXq (ro C) 1 ([9]:List Int):=bF dW ⟨[vI 9],[],rfl,rfl,rfl⟩ (show 1<=maxLen by decide) (fun h=>h);have ei:Lo p (ro C):=dw a7 o.size;refine ad c<|fun a1 a8 c=>have x:=bg o L nb;cE (f:=134) (vs:=[vL (ro C) ([9]:List Int) 1]) (cap:=[bp m]) _ ci rfl rfl rfl kr kr ztn (di af (ro C) 1 ([9]:List Int) m ac ae j l d ca (fun k=>(fun k=>aJ (ro C)=some k) k∨H k) (fun k hk=>(hk).elim (fun h=>(fun k (hk:aJ (ro C)=some k)=>a0.lt k hk) k h) (fun h=>(aW q x.size) k h)) (I.grown L nb) ((a0.rd (Y:=fun k=>aJ (ro C)=some k) fe (fun g e=>e)).wide (fun k hk=>(.inl hk))) ((aw.below x q).wide (fun k hk=>(.inr hk))) ((z.below x q).wide (fun k hk=>(.inr hk))) a1 a8) ?_;rintro ej ek ⟨N,rfl⟩;refine ⟨nofun,?_⟩;refine pL [2,72] 2 (vB a1)<|aa ?_;obtain rfl:=sj c;exact gq fun a hq=>have a9:=bg x N nb;⟨a9,(nt L.size N.size),hq⟩
           ·refine pL [2,69,70,71,72] 2 (vB false)<|aa ?_;obtain rfl:=sj c;exact gq fun a hq=>⟨o,bJ,hq⟩
          ·rintro a ax ⟨bd,d4,hq⟩;refine gi hq<|ai ?_;obtain rfl:=sj i;refine au (aj [vB b7] rfl ⟨kr,trivial⟩ ?_);exact ⟨ab bd,rfl⟩
         ·refine ay<|bB<|aI<|ad i ?_;intro a2 c i
          refine aM (J:=fun a M=>Bl p M∧Sz A M∧Qa a 80 [(2,vB a2)]) ?_ ?_
          ·refine pL [73,74,75] 75 (vB (t==1))<|ce 75 c (fun be c=>?_) (fun be c=>?_)
           ·refine p1 76 (.func (.func 134) #[] #[bp m])<|aD (fun b=>.slice (ro b) 7 7) #[vI 8,vI 9,vI 10,vI 4,vI 5,vI 6,vI 11] 3 kr kr ?_;intro r a3 G bl a4 d5;have O:ag (iE .i64) 3 a3 nXq (ro r) 7 ([8,9,10,4,5,6,11]:List Int):=bF bl ⟨[vI 8],[vI 9,vI 10,vI 4,vI 5,vI 6,vI 11],rfl,rfl,⟨[vI 9],[vI 10,vI 4,vI 5,vI 6,vI 11],rfl,rfl,⟨[vI 10],[vI 4,vI 5,vI 6,vI 11],rfl,rfl,⟨[vI 4],[vI 5,vI 6,vI 11],rfl,rfl,⟨[vI 5],[vI 6,vI 11],rfl,rfl,⟨[vI 6],[vI 11],rfl,rfl,⟨[vI 11],[],rfl,rfl,rfl⟩⟩⟩⟩⟩⟩⟩ (show 7<=maxLen by decide) (fun h=>h);have d6:Lo p (ro r):=dw a4 o.size;refine ad c<|fun a5 bn c=>have y:=bg o G nb;cE (f:=134) (vs:=[vL (ro r) ([8,9,10,4,5,6,11]:List Int) 7]) (cap:=[bp m]) _ ci rfl rfl rfl kr kr ztn (di af (ro r) 7 ([8,9,10,4,5,6,11]:List Int) m ac ae j l d a3 (fun k=>(fun k=>aJ (ro r)=some k) k∨H k) (fun k hk=>(hk).elim (fun h=>(fun k (hk:aJ (ro r)=some k)=>O.lt k hk) k h) (fun h=>(aW q y.size) k h)) (I.grown G nb) ((O.rd (Y:=fun k=>aJ (ro r)=some k) fe (fun g e=>e)).wide (fun k hk=>(.inl hk))) ((aw.below y q).wide (fun k hk=>(.inr hk))) ((z.below y q).wide (fun k hk=>(.inr hk))) a5 bn) ?_;rintro el em ⟨P,rfl⟩;refine ⟨nofun,?_⟩;refine pL [2,79] 2 (vB a5)<|aa ?_;obtain rfl:=sj c;exact gq fun a hq=>have bs:=bg y P nb;⟨bs,(nt G.size P.size),hq⟩
           ·refine pL [2,76,77,78,79] 2 (vB false)<|aa ?_;obtain rfl:=sj c;exact gq fun a hq=>⟨o,bJ,hq⟩
          ·rintro a M ⟨bA,d7,hq⟩;refine gi hq<|ai ?_;obtain rfl:=sj i;refine au (aj [vB a2] rfl ⟨kr,trivial⟩ ?_);exact ⟨ab bA,rfl⟩

end Go.Proofs.YtmpmeiihjnnomaaGreatDoor
