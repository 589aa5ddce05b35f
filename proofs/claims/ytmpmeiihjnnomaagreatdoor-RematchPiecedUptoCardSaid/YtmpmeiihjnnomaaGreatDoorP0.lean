import Derived.Test.YtmpmeiihjnnomaaGreatDoorRows
import Derived.Test.YtmpmeiihjnnomaaGreatDoorGh
import Derived.Test.YtmpmeiihjnnomaaGreatDoorD
import Derived.Test.YtmpmeiihjnnomaaGreatDoorGpc
import Derived.Test.YtmpmeiihjnnomaaGreatDoorGal
import Derived.Test.YtmpmeiihjnnomaaGreatDoorGso
import Derived.Test.YtmpmeiihjnnomaaGreatDoorGcp
import Derived.Test.YtmpmeiihjnnomaaGreatDoorGrs
import Derived.Test.YtmpmeiihjnnomaaGreatDoorRc
import Derived.Test.YtmpmeiihjnnomaaGreatDoorRd
import Derived.Test.YtmpmeiihjnnomaaGreatDoorRs
import Derived.Test.YtmpmeiihjnnomaaGreatDoorRm
import Derived.Test.YtmpmeiihjnnomaaGreatDoorSr
import Derived.Test.YtmpmeiihjnnomaaGreatDoorVs
import Derived.Test.YtmpmeiihjnnomaaGreatDoorSt
set_option linter.all false
set_option maxHeartbeats 4000000
set_option maxRecDepth 100000
/- Own work, printed by a program of mine: the walk of each function: a call returns what the plain function says. -/
namespace Go.Proofs.YtmpmeiihjnnomaaGreatDoor
open Go.Gv Go.Gv.D Go.RowKit
open Go.Gv renaming gv_nil→aa,grown_trans→ab,grown_of_below→ac,gv_goal→ad,grown_step→ae,rowne→ai,bindE→aj,gv_goA→al,gv_cret→am,Cls.refl→ao,gv_done→ap,gv_call0→au,gv_ret→av,Own→ay,gv_new0→az,gv_stage→aA,gv_region→aB,gv_store0→aC,gv_skip→aD,gv_cut_code→aE,ltx→aF,blk→aJ,calls_run→aK,elemAddr→aL,gv_seq→aM,gv_pre→aN,gv_stageE→aQ,gv_block→aR,gv_in→aT,rowlo→aU,nm_nil→aV,gv_cut_ops→aX,lowb→aZ,Box→a9,strOf→bb,rowpp→bh,gv_sub→bi,cont_inr→bk,inw1→bu,gv_drawA→bw,gv_split→bB,blk_neX→bC,gv_cexit→bI,cont_inl→bJ,gv_blk→bM,inw0→bN,lob→bR,Box.ownE→bS,gv_exit→bU,utf8First→bZ,blk_rev→b8,ltb→b9,gv_loop→cf,lowo→ci,nmx_nil→cj,gv_append→cn,gv_call→cp,gv_name→cq,rowppr→cr,rdnx→ct,rdnn→cB,blk_step→cC,utf8Acc→cD,grown_refl→cL,Cls→cQ,gv_pureNC→cS,pow10C→c6,gv_store→dc,gv_cond→de,gv_new→dk
open Go.Proofs.Tryz renaming prog→ar,underlying31→aI,underlying22→aO,underlying9→ba,underlying23→bo,underlying25→bL,underlying54→cg,underlying27→cP
open List (length)
abbrev bm:=Option Addr
theorem cl {p : Prop} (h : p := by decide) : p := h
abbrev wI (x:Int):Int:=IntKind.i64.wrap x
abbrev wU (x:Int):Int:=IntKind.u64.wrap x
abbrev wT (x:Int):Int:=IntKind.u32.wrap x
abbrev wB (x:Int):Int:=IntKind.u8.wrap x
abbrev wR (x:Int):Int:=IntKind.i32.wrap x
abbrev vI (x:Int):Value:=.int .i64 x
abbrev vW (x:Int):Value:=.int .u64 x
abbrev vT (x:Int):Value:=.int .u32 x
abbrev vU (x:Int):Value:=.int .u8 x
abbrev vR (x:Int):Value:=.int .i32 x
abbrev vB (x:Bool):Value:=.bool x
abbrev vS (x:ByteArray):Value:=.string x
abbrev vL {α:Type} (a:bm) (x:List α) (c:Nat):Value:=.slice a x.length c
abbrev ro (b:Nat):bm:=some ⟨b,0,none⟩
abbrev lz {α:Type} (x:List α):Int:=((x.length:Nat):Int)
abbrev bz (x:ByteArray):Int:=((x.size:Nat):Int)
abbrev Ap (a b:bm):Prop:=∀ g,aJ a=some g→¬ (fun k=>aJ b=some k) g
abbrev Lo (w:World) (a:bm):Prop:=∀ g,aJ a=some g→w.heap.size≤g
abbrev Bl (w w':World):Prop:=Below w.heap.size w w'
abbrev Sz (w w':World):Prop:=w.heap.size≤w'.heap.size
abbrev Qa (a:Act) (n:Nat) (σ:List (Nat × Value)):Prop:=a.defers=[]∧a.tmps.size=n∧Ok σ a.tmps
abbrev bj (x:Int × Int × Int × Bool × Bool × (List (Int × Int)) × (List Pc)) (a0:bm) (c0:Nat) (a1:bm) (c1:Nat):Array Value:= #[vI x.1,vI x.2.1,vI x.2.2.1,vB x.2.2.2.1,vB x.2.2.2.2.1,vL a0 x.2.2.2.2.2.1 c0,vL a1 x.2.2.2.2.2.2 c1]
abbrev cF (x:ByteArray × Int × Int × Bool × Bool):Array Value:= #[vS x.1,vI x.2.1,vI x.2.2.1,vB x.2.2.2.1,vB x.2.2.2.2]
abbrev bP (x:Int × Int):Array Value:= #[vI x.1,vI x.2]
abbrev S102 (x:ByteArray × Int):Array Value:= #[vS x.1,vI x.2]
theorem xq {X c:Nat→Prop} {a:World} {b:Nat} (hs:∀ k,X k→c k∨a.heap.size≤k) (d:∀ k,c k→k<a.heap.size∧k≠b) (hp:b<a.heap.size):¬ X b:=fun h=>(hs _ h).elim (fun h=>(d _ h).2 rfl) (fun h=>Nat.not_lt_of_le h hp)
theorem rg {α:Type} {E:Enc α} {w w':World} {X:Nat→Prop} {a:bm} {cap b:Nat} {xs:List α} (h:Rd E w X a cap xs) (g:w.grownBy w' (some b)) (c:∀ k,X k→k<w.heap.size∧k≠b):Rd E w' X a cap xs:=h.grown g (fun k hk=>(c k hk).1) (fun g e hk=>by cases e;exact (c _ hk).2 rfl)
theorem jg {a:Nat→Prop} {c w:World} {b:Nat} {r:Option Nat} (d:∀ k,a k→k<c.heap.size∧k≠b) (g:c.grownBy w r):∀ k,a k→k<w.heap.size∧k≠b:=fun k hk=>⟨Nat.lt_of_lt_of_le (d k hk).1 g.size,(d k hk).2⟩
abbrev Sxb (X:Nat→Prop) (w':World) (a:Nat→Prop) (b:World):Prop:=∀ k,X k→k<w'.heap.size∧(a k∨b.heap.size≤k)
theorem sxq {X a:Nat→Prop} {w' b:World} (c:∀ k,X k→k<w'.heap.size) (d:∀ k,X k→a k∨b.heap.size≤k):Sxb X w' a b:=fun k hk=>⟨c k hk,d k hk⟩
abbrev bG:Type:=(List Int) × (List (Int × Int)) × Int
abbrev cu:Type:=Int × Int × Int × Bool × Bool × (List (Int × Int)) × (List Pc)
abbrev cY:Type:=ByteArray × Int × Int × Bool × Bool
abbrev cA:Type:=(Bool × bG) ⊕ Unit
abbrev bQ:Type:=Int × Int
abbrev dp:Array Value:= #[vI 0,vI 0,vI 0,vB false,vB false,vL none ([]:List (Int × Int)) 0,vL none ([]:List Pc) 0]
abbrev zQ1:Array Value:= #[vL none ([]:List (Int × Int)) 0]
theorem npb {p:Nat} {a:bm} (h:aJ a≠some p):∀ g,aJ a=some g→¬ (g=p):=fun g e e'=>h (e.trans (congrArg some e'))
theorem nrb {b p:Nat} {a:bm} (h:¬ (b=p∨aJ a=some b)):∀ g,aJ a=some g→¬ (g=b):=fun g e e'=>h (Or.inr (e' ▸ e))
theorem jsr {X S:Nat→Prop} {n m:Nat} (h:∀ k,X k→k<n∧¬ S k) (z:n≤m):∀ k,X k→k<m∧¬ S k:=fun k hk=>⟨Nat.lt_of_lt_of_le (h k hk).1 z,(h k hk).2⟩
theorem cd {α:Type} {E:Enc α} {w w':World} {X T:Nat→Prop} {a:bm} {cap:Nat} {xs:List α} (h:Rd E w X a cap xs) (hg:GF w w' T) (b:∀ k,X k→k<w.heap.size∧¬ T k):Rd E w' X a cap xs:=h.gf hg (fun k hk=>(b k hk).1) (fun k hk=>(b k hk).2)
theorem cM {a b c:World} {S:Nat→Prop} (h:GF a b S) (h':GF b c S):GF a c S:=gf_stepF h h' (fun _ h=>.inl h)
theorem dn {b p:Nat} {r:bm} (a:¬ (p=b)) (c:∀ g,aJ r=some g→¬ (g=b)):¬ (b=p∨aJ r=some b):=fun h=>h.elim (fun e=>a e.symm) (fun e=>c _ e rfl)
theorem nto {T:Nat→Prop} {b:Nat} (h:¬ T b):∀ x,x=b→¬ T x:=fun _ e=>e ▸ h
theorem ntp {b p:Nat} {r:bm} (a:¬ (p=b)) (c:∀ g,aJ r=some g→¬ (g=b)):∀ x,x=b→¬ (x=p∨aJ r=some x):=fun x e h=>h.elim (fun e'=>a (e'.symm.trans e)) (fun e'=>c _ e' e)
theorem lz1 {X:Nat→Prop} {Q:Nat→Prop} {n m:Nat} (h:∀ k,X k→k<n∧Q k) (z:n≤m):∀ k,X k→k<m:=fun k hk=>Nat.lt_of_lt_of_le (h k hk).1 z
theorem fe {Q:Nat→Prop}:∀ k,(fun _:Nat=>False) k→Q k:=fun _ h=>h.elim
abbrev pt (b j:Nat):Value:=.pointer (some ⟨b,j,none⟩)
abbrev bK:Enc (Int × Int):=prE (iE .i64) (iE .i64)
abbrev dq (x:PcT) (a:bm) (c:Nat) (b:bm) (d:Nat):Array Value:= #[.int .i64 x.1,.int .i64 x.2.1,.int .i64 x.2.2.1,.bool x.2.2.2.1,.bool x.2.2.2.2.1,.slice a x.2.2.2.2.2.1.length c,.slice b x.2.2.2.2.2.2.length d]
theorem da {b n:Nat} {a:bm} (hb:b=n) (ho:∀ g,aJ a=some g→g<n):∀ g,aJ a=some g→¬ (· =b) g:=fun g e hx=>Nat.not_lt_of_le (aZ hb _ hx) (ho g e)
theorem cH {w:World} {b p:Nat} {t:TypeId} {cs:Array Value} (hb:b=w.heap.size) (hp:a9 w p t cs):¬ (· =b) p:=fun hx=>Nat.not_lt_of_le (aZ hb _ hx) (b9 hp _ rfl)
theorem apC {b n:Nat} {a:bm} (hb:b=n) (ho:∀ g,aJ a=some g→g<n):¬ (fun k=>aJ a=some k) b:=fun hx=>Nat.not_lt_of_le (aZ hb _ rfl) (ho _ hx)
theorem apD {w:World} {b p:Nat} {t:TypeId} {cs:Array Value} (hb:b=w.heap.size) (hp:a9 w p t cs):∀ g,aJ (some ⟨b,0,none⟩)=some g→¬ (· =p) g:=fun g e hx=>Nat.not_lt_of_le (ci hb g e) (b9 hp _ hx)
theorem apF {X:Nat→Prop} {b n:Nat} (hb:b=n) (hx:∀ k,X k→k<n):¬ X b:=fun h=>Nat.not_lt_of_le (aZ hb _ rfl) (hx _ h)
theorem apH {w:World} {b p:Nat} {t:TypeId} {cs:Array Value} (hb:b=w.heap.size) (hp:a9 w p t cs):¬ (· =p) b:=fun hx=>Nat.not_lt_of_le (aZ hb _ rfl) (b9 hp _ hx)
theorem apI {w:World} {p:Nat} {a:bm} {t:TypeId} {cs:Array Value} (hl:∀ k,aJ a=some k→w.heap.size≤k) (hp:a9 w p t cs):¬ (fun k=>aJ a=some k) p:=fun hx=>Nat.not_lt_of_le (hl _ hx) (b9 hp _ rfl)
theorem apG {w:World} {b p:Nat} {t:TypeId} {cs:Array Value} {X:Nat→Prop} (hb:b=w.heap.size) (hp:a9 w p t cs) (hx:¬ X p):¬ (fun k=>aJ (some ⟨b,0,none⟩)=some k∨X k) p:=fun h=>h.elim (fun h=>Nat.not_lt_of_le (ci hb _ h) (b9 hp _ rfl)) hx
theorem apE {X a Q:Nat→Prop} {b n:Nat} (h:∀ k,X k→Q k∧(a k∨n≤k)) (c:¬ a b) (hb:b<n):¬ X b:=fun hx=>(h _ hx).2.elim c (fun h=>Nat.not_lt_of_le h hb)
theorem xlo {a Q:Nat→Prop} {b n:Nat} (hl:n≤b) (h:∀ k,a k→k<n∧Q k):¬ a b:=fun hx=>Nat.not_lt_of_le hl (h _ hx).1
abbrev dm (b:Nat) (a:bm) (c:Nat) (tx:List Int) (a':bm) (c':Nat) (w:World) (r:(Bool × bG) ⊕ Unit):Ending→World→Prop:=RetP (fun (r0:Bool × bG) v w'=>GF w w' (SrS b a')∧v=tup [.bool r0.1]∧a9 w' b 129 #[.slice a tx.length c,.slice a' r0.2.2.1.length c',.int .i64 r0.2.2.2]∧ay bK 37 w' (fun _=>False) a' c' r0.2.2.1) (fun _:Unit=>Value.iface 125 (.agg #[])) (fun w'=>GF w w' (SrS b a')) r
def qB (n:Nat) (all:Array Oper) (σ:List (Nat × Value)) (o:Oper):Bool:=match o.dst with
  | some d=>Nat.blt d n&&((match guardB all σ o with | some true=>true | _=>false)&&(noSel o.op&&known σ o.op.operands.toList))
  | none=>false
theorem qB_spec {n:Nat} {all:Array Oper} {σ:List (Nat × Value)} {o:Oper} (h:qB n all σ o=true):∃ d,o.dst=some d∧Nat.blt d n=true∧guardB all σ o=some true∧(noSel o.op&&known σ o.op.operands.toList)=true:=by
  unfold qB at h
  cases hd:o.dst with
  | none=>rw[hd]at h;cases h
  | some d=>
    rw[hd]at h
    simp only[Bool.and_eq_true]at h
    refine ⟨d,rfl,h.1,?_,by simp only[Bool.and_eq_true];exact h.2.2⟩
    cases hg:guardB all σ o with
    | none=>rw[hg]at h;cases h.2.1
    | some b=>cases b with
      | true=>rfl
      | false=>rw[hg]at h;cases h.2.1
section
variable {P:Program} {R:RR} {n:Nat} {k:List It} {σ:List (Nat × Value)} {w:World} {all:Array Oper} {C:World→Prop} {o:Oper} {m:Mk} {rest:List (Oper × Mk)}
theorem cm (t:TypeId) (A:Addr) (v:Value) (hc:∀ w',Inw m C w w'→w'.cell? A=some v) (h:Run P R n (.ops all C rest::k) .normal (putO σ o.dst v) w) (hm:m=some false→C w:=by nofun) (hq:qB n all σ o=true:=by kernel_rfl) (hop:execOp (evr σ) o=(do pure (.value (← Instr.loadAt t (.pointer (some A))))):=by kernel_rfl) (ht:aggB P t=some false:=by kernel_rfl):Run P R n (.ops all C ((o,m)::rest)::k) .normal σ w:=by
  obtain ⟨d,a,b,c,e⟩:=qB_spec hq
  rw[a]at h
  exact gv_load v [] hm a b c e hop ht hc rfl h
theorem laq (t:TypeId) (A:Addr) (cs:Array Value) (hc:∀ w',Inw m C w w'→cellsAt w' A cs.toList) (h:Run P R n (.ops all C rest::k) .normal (putO σ o.dst (.agg cs)) w) (hm:m=some false→C w:=by nofun) (hq:qB n all σ o=true:=by kernel_rfl) (hop:execOp (evr σ) o=(do pure (.value (← Instr.loadAt t (.pointer (some A))))):=by kernel_rfl) (ht:aggB P t=some true:=by kernel_rfl) (hsz:(P.info? t).map (·.size)=some cs.size:=by kernel_rfl):Run P R n (.ops all C ((o,m)::rest)::k) .normal σ w:=by
  obtain ⟨d,a,b,c,e⟩:=qB_spec hq
  rw[a]at h
  exact gv_loadAgg cs [] hm a b c e hop ht hsz hc rfl h
theorem dd (t:TypeId) (b:Nat) (cs:Array Value) (hc:∀ w',Inw m C w w'→w'.heap[b]? =some (.cells cs t (0,0))) (h:Run P R n (.ops all C rest::k) .normal (putO σ o.dst (.agg cs)) w) (hm:m=some false→C w:=by nofun) (hq:qB n all σ o=true:=by kernel_rfl) (hop:execOp (evr σ) o=(do pure (.value (← Instr.loadAt t (.pointer (some ⟨b,0,none⟩))))):=by kernel_rfl) (ht:aggB P t=some true:=by kernel_rfl) (hsz:(P.info? t).map (·.size)=some cs.size:=by kernel_rfl):Run P R n (.ops all C ((o,m)::rest)::k) .normal σ w:=by
  obtain ⟨d,a,c,e,f⟩:=qB_spec hq
  rw[a]at h
  exact gv_loadBox cs [] hm a c e f hop ht hsz hc rfl h
theorem cW {α:Type} {E:Enc α} {X:Nat→Prop} {c:World} {t e:TypeId} {a:bm} {cap:Nat} {xs:List α} {x:α} {i:Int} (kk:IntKind) (sz:Nat) (hR:Rd E c X a cap xs) (hx:idx xs i=some x) (ht:P.underlying t=some (.slice e)) (h:Run P R n (.ops all C rest::k) .normal (putO σ o.dst (.pointer (some (aL a (i.toNat*sz))))) w) (hm:m=some false→C w:=by nofun) (hq:qB n all σ o=true:=by kernel_rfl) (hop:execOp (evr σ) o=(do pure (.value (← Instr.indexAt t (.slice a xs.length cap) (.int kk i)))):=by kernel_rfl) (hsz:(P.info? e).map (·.size)=some sz:=by kernel_rfl):Run P R n (.ops all C ((o,m)::rest)::k) .normal σ w:=by
  obtain ⟨d,b,f,g,j⟩:=qB_spec hq
  rw[b]at h
  exact gv_idxaddr [] hm b f g j hop ht hsz (hR.has hx) (idx_spec hx).1 (idx_spec hx).2.1 rfl h
theorem siq {t:TypeId} {s:ByteArray} {i c:Int} (kk:IntKind) (hx:sidx s i=some c) (ht:P.underlying t=some .string) (h:Run P R n (.ops all C rest::k) .normal (putO σ o.dst (.int .u8 c)) w) (hm:m=some false→C w:=by nofun) (hq:qB n all σ o=true:=by kernel_rfl) (hop:execOp (evr σ) o=(do pure (.value (← Instr.index t (.string s) (.int kk i)))):=by kernel_rfl):Run P R n (.ops all C ((o,m)::rest)::k) .normal σ w:=by
  obtain ⟨d,a,b,e,f⟩:=qB_spec hq
  rw[a]at h
  exact gv_sindex c [] hm a b e f hop ht hx rfl h
theorem caq {s u r:ByteArray} (t:TypeId) (hr:cat s u=some r) (h:Run P R n (.ops all C rest::k) .normal (putO σ o.dst (.string r)) w) (hm:m=some false→C w:=by nofun) (hq:qB n all σ o=true:=by kernel_rfl) (hop:execOp (evr σ) o=(do pure (.value (← binOp .add t (.string s) (.string u)))):=by kernel_rfl):Run P R n (.ops all C ((o,m)::rest)::k) .normal σ w:=by
  obtain ⟨d,a,b,c,e⟩:=qB_spec hq
  rw[a]at h
  exact gv_cat r [] hm a b c e hop hr rfl h
theorem aP {id:Nat} {l:List Oper} {y:Code} (h:Run P R n (.ops l.toArray (fun _=>True) (mk0 l):: .code y::k) .normal σ w) (hr:R.r=none:=by rfl):Run P R n (.code (.seq (.region id l.toArray false) y)::k) .normal σ w:=aM (aB h hr)
theorem cz {x y:Code} (h:Run P R n (.code x:: .code y::k) .normal σ w):Run P R n (.ops all C []:: .code (.seq x y)::k) .normal σ w:=aa (aM h)
theorem bF {id:Nat} {l:List Oper} {y:Code} (h:Run P R n (.ops l.toArray (fun _=>True) (mk0 l):: .code y::k) .normal σ w) (hr:R.r=none:=by rfl):Run P R n (.ops all C []:: .code (.seq (.region id l.toArray false) y)::k) .normal σ w:=aa (aM (aB h hr))
theorem clq {x:Operand} {xs:Array Operand} {tys:Array TypeId} {f:FuncId} {vs:List Value} {S:Value→World→Prop} (hf:Go.Gv.Enters P f) (hc:Calls P f vs.toArray w (Ret S)) (h:∀ v w',S v w'→(m=some false→C w')∧Run P R n (.ops all C rest::k) .normal (putO σ o.dst v) w') (hm:m≠some true:=by decide) (hdn:dstOk n o.dst=true:=by kernel_rfl) (hg:guardB all σ o=some true:=by kernel_rfl) (ho:o.op= .call { callee:=.value x,args:=xs,argTypes:=tys}:=by rfl) (hx:ev σ x=some (.func (.func f) #[] ([]:List Value).toArray):=by kernel_rfl) (hxs:evs σ xs.toList=some vs:=by kernel_rfl):Run P R n (.ops all C ((o,m)::rest)::k) .normal σ w:=
  cp (cap:=[]) S hm hdn hg ho hx hxs hf (by rw[List.append_nil];exact hc) h
end
abbrev Lw (X:Nat→Prop) (w:World):Prop:=∀ k,X k→k<w.heap.size
abbrev Cs (f:Nat) (l:List Value) (w:World) (R:Ending→World→Prop):Prop:=Calls ar f l.toArray w R
abbrev G1 (w:World) (r:List Value):Ending→World→Prop:=Ret fun v w'=>w.grownBy w' none∧v=tup r
theorem nl {a b:Nat} (h:a≤b):¬ b<a:=Nat.not_lt_of_le h
theorem sj {α:Type _} {a b:α} (h:some a=some b):a=b:=Option.some.inj h
theorem ng {a b:Nat} (h:b<a):a≠b:=Nat.ne_of_gt h
theorem bV {a b c:Nat} (h:a<b) (h':b≤c):a<c:=Nat.lt_of_lt_of_le h h'
theorem db {a b c:Nat} (h:a<b) (h':b<c):a<c:=Nat.lt_trans h h'
section
variable {P:Program} {R:RR} {n:Nat} {k:List It} {σ σ':List (Nat × Value)} {w:World} {all:Array Oper} {C:World→Prop}
theorem pN (c:Nat) (ds:List Nat) (news:List (Nat × Value)) {l:List (Oper × Mk)} (h:Run P R n (.ops all C (drops c l)::k) .normal (nw news ds σ) w) (hp:(match stepsP false P n all c l σ with | some σ1=>picks ((nw news ds σ).map (·.1)) σ1 | none=>none)=some (nw news ds σ):=by kernel_rfl):Run P R n (.ops all C l::k) .normal σ w:=gv_pureN c ds news hp h
theorem okp (ss:List Nat) {t:Array Value} (h:Ok σ t) (hp:picks ss σ=some σ':=by kernel_rfl):Ok σ' t:=ok_pick ss h hp
theorem bc {σ':List (Nat × Value)} {t:Array Value} (h:Ok σ t) (hp:picks (σ'.map (·.1)) σ=some σ':=by kernel_rfl):Ok σ' t:=ok_pick _ h hp
theorem vLc {α:Type} {x y:List α} {a:bm} {c:Nat} (h:x.length=y.length):vL a x c=vL a y c:=by unfold vL;rw[h]
theorem bO (σ':List (Nat × Value)) {e:Exit} (h:Run P R n k e σ' w) (hp:picks (σ'.map (·.1)) σ=some σ':=by kernel_rfl):Run P R n k e σ w:=bi _ hp h
theorem bX {a:Nat}:a≤a:=Nat.le_refl a
theorem kr {p:Prop} (h:p:=by kernel_rfl):p:=h
end
open List (length)
section
variable {P:Program} {R:RR} {n:Nat} {k:List It} {σ:List (Nat × Value)} {w:World}
theorem bH {α:Type} {c:Operand} {b:Bool} {x y:Code} {p q r:α} (h:(if b=true then p else q)=r) (ht:b=true→p=r→Run P R n (.code x::k) .normal σ w) (hf:b=false→q=r→Run P R n (.code y::k) .normal σ w) (hc:ev σ c=some (.bool b):=by kernel_rfl):Run P R n (.code (.cond c x y)::k) .normal σ w:=de hc (fun e=>ht e (ite_t e h)) (fun e=>hf e (ite_f e h))
theorem cy {α:Type} (s:Nat) {g:Bool} {e:Exit} {p q r:α} (h:(if g=true then p else q)=r) (ht:g=true→p=r→Run P R n k e (put σ s (.bool true)) w) (hf:g=false→q=r→Run P R n k e (put σ s (.bool false)) w) (hl:Go.Gv.look σ s=some (.bool g):=by kernel_rfl):Run P R n k e σ w:=bB hl (fun e=>ht e (ite_t e h)) (fun e=>hf e (ite_f e h))
end
section
variable {P:Program} {R:RR} {n:Nat} {k:List It} {σ σ':List (Nat × Value)} {w:World} {all:Array Oper} {C:World→Prop}
theorem pL (ds:List Nat) (d:Nat) (v:Value) {l:List (Oper × Mk)} (h:Run P R n (.ops all C (drops ds.length l)::k) .normal (nw [(d,v)] ds σ) w) (hp:(match stepsP false P n all ds.length l σ with | some σ1=>picks ((nw [(d,v)] ds σ).map (·.1)) σ1 | none=>none)=some (nw [(d,v)] ds σ):=by kernel_rfl):Run P R n (.ops all C l::k) .normal σ w:=gv_pureN ds.length ds [(d,v)] hp h
theorem p1 (d:Nat) (v:Value) {l:List (Oper × Mk)} (h:Run P R n (.ops all C (drops 1 l)::k) .normal (nw [(d,v)] [d] σ) w) (hp:(match stepsP false P n all 1 l σ with | some σ1=>picks ((nw [(d,v)] [d] σ).map (·.1)) σ1 | none=>none)=some (nw [(d,v)] [d] σ):=by kernel_rfl):Run P R n (.ops all C l::k) .normal σ w:=gv_pureN 1 [d] [(d,v)] hp h
theorem bt (t:TypeId) {b:Nat} {ty:TypeId} {cs:Array Value} {v:Value} {o:Oper} {rest:List (Oper × Mk)} (hb:a9 w b ty cs) (j:Nat) (hv:cs[j]? =some v) (h:Run P R n (.ops all C rest::k) .normal (putO σ o.dst v) w) (hq:qB n all σ o=true:=by kernel_rfl) (hop:execOp (evr σ) o=(do pure (.value (← Instr.loadAt t (.pointer (some ⟨b,j,none⟩))))):=by kernel_rfl) (ht:aggB P t=some false:=by kernel_rfl):Run P R n (.ops all C ((o,none)::rest)::k) .normal σ w:=cm t ⟨b,j,none⟩ v (bN (hb.cell j hv)) h nofun hq hop ht
end
theorem cI {P : Program} {f : FuncId} {fn : Func} (h : P.funcs[f]? = some fn) (a : (fn.name == "runtime.NumGoroutine") = false := by kernel_rfl) (b : fn.body.isNone = false := by kernel_rfl) : Go.Gv.Enters P f := ⟨fn, h, a, b⟩
theorem enters9:Go.Gv.Enters ar 9:=cI Tryz.func9
theorem enters10:Go.Gv.Enters ar 10:=cI Tryz.func10
theorem enters13:Go.Gv.Enters ar 13:=cI Tryz.func13
theorem enters17:Go.Gv.Enters ar 17:=cI Tryz.func17
theorem enters21:Go.Gv.Enters ar 21:=cI Tryz.func21
theorem enters22:Go.Gv.Enters ar 22:=cI Tryz.func22
theorem enters23:Go.Gv.Enters ar 23:=cI Tryz.func23
theorem enters25:Go.Gv.Enters ar 25:=cI Tryz.func25
theorem enters30:Go.Gv.Enters ar 30:=cI Tryz.func30
theorem enters31:Go.Gv.Enters ar 31:=cI Tryz.func31
theorem enters35:Go.Gv.Enters ar 35:=cI Tryz.func35
theorem enters36:Go.Gv.Enters ar 36:=cI Tryz.func36
theorem enters38:Go.Gv.Enters ar 38:=cI Tryz.func38
theorem enters39:Go.Gv.Enters ar 39:=cI Tryz.func39
theorem enters40:Go.Gv.Enters ar 40:=cI Tryz.func40
theorem enters41:Go.Gv.Enters ar 41:=cI Tryz.func41
theorem dl:Go.Gv.Enters ar 42:=cI Tryz.func42
theorem enters43:Go.Gv.Enters ar 43:=cI Tryz.func43
theorem enters44:Go.Gv.Enters ar 44:=cI Tryz.func44
theorem enters45:Go.Gv.Enters ar 45:=cI Tryz.func45
theorem enters46:Go.Gv.Enters ar 46:=cI Tryz.func46
theorem enters47:Go.Gv.Enters ar 47:=cI Tryz.func47
theorem enters52:Go.Gv.Enters ar 52:=cI Tryz.func52
theorem enters54:Go.Gv.Enters ar 54:=cI Tryz.func54
theorem enters56:Go.Gv.Enters ar 56:=cI Tryz.func56
theorem enters58:Go.Gv.Enters ar 58:=cI Tryz.func58
theorem enters59:Go.Gv.Enters ar 59:=cI Tryz.func59
theorem enters64:Go.Gv.Enters ar 64:=cI Tryz.func64
theorem enters66:Go.Gv.Enters ar 66:=cI Tryz.func66
theorem enters73:Go.Gv.Enters ar 73:=cI Tryz.func73
theorem enters74:Go.Gv.Enters ar 74:=cI Tryz.func74
theorem enters83:Go.Gv.Enters ar 83:=cI Tryz.func83
theorem bW:Go.Gv.Enters ar 84:=cI Tryz.func84
theorem enters85:Go.Gv.Enters ar 85:=cI Tryz.func85
theorem enters86:Go.Gv.Enters ar 86:=cI Tryz.func86
theorem enters87:Go.Gv.Enters ar 87:=cI Tryz.func87
theorem enters88:Go.Gv.Enters ar 88:=cI Tryz.func88
theorem enters89:Go.Gv.Enters ar 89:=cI Tryz.func89
theorem enters90:Go.Gv.Enters ar 90:=cI Tryz.func90
theorem enters91:Go.Gv.Enters ar 91:=cI Tryz.func91
theorem enters95:Go.Gv.Enters ar 95:=cI Tryz.func95
theorem co:Go.Gv.Enters ar 96:=cI Tryz.func96
theorem enters97:Go.Gv.Enters ar 97:=cI Tryz.func97
theorem enters101:Go.Gv.Enters ar 101:=cI Tryz.func101
theorem enters106:Go.Gv.Enters ar 106:=cI Tryz.func106
theorem enters107:Go.Gv.Enters ar 107:=cI Tryz.func107
theorem enters108:Go.Gv.Enters ar 108:=cI Tryz.func108
theorem enters109:Go.Gv.Enters ar 109:=cI Tryz.func109
theorem enters114:Go.Gv.Enters ar 114:=cI Tryz.func114
theorem enters115:Go.Gv.Enters ar 115:=cI Tryz.func115
theorem enters116:Go.Gv.Enters ar 116:=cI Tryz.func116
theorem enters117:Go.Gv.Enters ar 117:=cI Tryz.func117
theorem enters118:Go.Gv.Enters ar 118:=cI Tryz.func118
theorem enters119:Go.Gv.Enters ar 119:=cI Tryz.func119
theorem enters120:Go.Gv.Enters ar 120:=cI Tryz.func120
theorem enters121:Go.Gv.Enters ar 121:=cI Tryz.func121
theorem dj:Go.Gv.Enters ar 122:=cI Tryz.func122
theorem enters123:Go.Gv.Enters ar 123:=cI Tryz.func123
theorem enters124:Go.Gv.Enters ar 124:=cI Tryz.func124
theorem enters127:Go.Gv.Enters ar 127:=cI Tryz.func127
theorem enters128:Go.Gv.Enters ar 128:=cI Tryz.func128
theorem enters129:Go.Gv.Enters ar 129:=cI Tryz.func129
theorem enters134:Go.Gv.Enters ar 134:=cI Tryz.func134
theorem enters135:Go.Gv.Enters ar 135:=cI Tryz.func135
theorem enters136:Go.Gv.Enters ar 136:=cI Tryz.func136
theorem enters137:Go.Gv.Enters ar 137:=cI Tryz.func137
theorem enters138:Go.Gv.Enters ar 138:=cI Tryz.func138
theorem enters139:Go.Gv.Enters ar 139:=cI Tryz.func139
theorem enters140:Go.Gv.Enters ar 140:=cI Tryz.func140
theorem enters141:Go.Gv.Enters ar 141:=cI Tryz.func141
theorem enters142:Go.Gv.Enters ar 142:=cI Tryz.func142
theorem enters143:Go.Gv.Enters ar 143:=cI Tryz.func143
theorem enters144:Go.Gv.Enters ar 144:=cI Tryz.func144
theorem di:Go.Gv.Enters ar 145:=cI Tryz.func145
theorem enters146:Go.Gv.Enters ar 146:=cI Tryz.func146
theorem enters147:Go.Gv.Enters ar 147:=cI Tryz.func147
theorem enters148:Go.Gv.Enters ar 148:=cI Tryz.func148
theorem enters149:Go.Gv.Enters ar 149:=cI Tryz.func149
theorem enters150:Go.Gv.Enters ar 150:=cI Tryz.func150
theorem enters153:Go.Gv.Enters ar 153:=cI Tryz.func153
theorem enters155:Go.Gv.Enters ar 155:=cI Tryz.func155
theorem enters161:Go.Gv.Enters ar 161:=cI Tryz.func161
theorem enters162:Go.Gv.Enters ar 162:=cI Tryz.func162
theorem enters163:Go.Gv.Enters ar 163:=cI Tryz.func163
theorem enters168:Go.Gv.Enters ar 168:=cI Tryz.func168
theorem native125:Go.Gv.Native ar 125 Extern.BytealgIndexByte.indexByte:=⟨Tryz.f125,Tryz.func125,by kernel_rfl,by kernel_rfl,by kernel_rfl,by kernel_rfl⟩
theorem info3:InfoOk ar 3 1:=infoOk (z:=(.int .i64 0)) (bytes:=8) (by kernel_rfl) (by kernel_rfl) (by kernel_rfl) (by kernel_rfl)
theorem info5:InfoOk ar 5 1:=infoOk (z:=(.int .u8 0)) (bytes:=1) (by kernel_rfl) (by kernel_rfl) (by kernel_rfl) (by kernel_rfl)
theorem info9:InfoOk ar 9 1:=infoOk (z:=(.string ⟨#[]⟩)) (bytes:=16) (by kernel_rfl) (by kernel_rfl) (by kernel_rfl) (by kernel_rfl)
theorem info25:InfoOk ar 25 7:=infoOk (z:=(.agg #[.int .i64 0,(.int .i64 0),(.int .i64 0),(.bool false),(.bool false),(.slice none 0 0),(.slice none 0 0)])) (bytes:=80) (by kernel_rfl) (by kernel_rfl) (by kernel_rfl) (by kernel_rfl)
theorem info34:InfoOk ar 34 1:=infoOk (z:=(.agg #[.slice none 0 0])) (bytes:=24) (by kernel_rfl) (by kernel_rfl) (by kernel_rfl) (by kernel_rfl)
theorem info37:InfoOk ar 37 2:=infoOk (z:=(.agg #[.int .i64 0,(.int .i64 0)])) (bytes:=16) (by kernel_rfl) (by kernel_rfl) (by kernel_rfl) (by kernel_rfl)
theorem info103:InfoOk ar 103 2:=infoOk (z:=(.agg #[.string ⟨#[]⟩,(.int .i64 0)])) (bytes:=24) (by kernel_rfl) (by kernel_rfl) (by kernel_rfl) (by kernel_rfl)
theorem eqs37neq (a:Int) (b:Int) (c:Int) (d:Int) (x y:Operand) (w:World):(do eqGuard .neq 37 x y (.agg #[.int .i64 a,.int .i64 b]) (.agg #[.int .i64 c,.int .i64 d]);binOp .neq 37 (.agg #[.int .i64 a,.int .i64 b]) (.agg #[.int .i64 c,.int .i64 d]):Sem Value).run ar w= .ok (.bool (!((a==c)&&(b==d)))) w:=by
  have e:ar.eqGuardType ar.depth 37=false:=by kernel_rfl
  obtain ⟨i,hi⟩:∃ i,ar.info? 3=some i:=Option.isSome_iff_exists.1 (by kernel_rfl)
  have hc:ar.cellsOf 3=1:=by kernel_rfl
  rw[Sem.run_bind,run_eqGuard_agg w .neq 37 x y _ _ e,Result.andThen_ok,run_neq_struct,run_equalIn_array w 9999 _ _ Tryz.underlying37 hi,hc]
  by_cases g0:a=c<;>by_cases g1:b=d<;>simp[List.range,List.range.loop,Op.eqItems,part,isAgg,run_underlying Tryz.underlying3,run_equalIn_int _ _ _ _ _ _ _ Tryz.underlying3,g0,g1]

theorem stringslite_IndexByte_ok (ak:Nat) (a:ByteArray) (b:Int) (c:World) (d:Int) (e:stringslite_IndexByte ak a b=some d):
    Cs 101 [vS a,vU b] c (G1 c [vI d]):=by
 have g:Bl c c:=Below.refl _ _;unfold stringslite_IndexByte at e;refine aK Tryz.func101 rfl Tryz.ntmps101 kr ?_;refine bO [(0,vS a),(1,vU b)]<|aP<|pN 1 [4] []<|bF<|pN 2 [5,6] [(5,vS a),(6,vU b)]<|gv_nat (f:=125) (vs:=[vS a,vU b]) (vI (nIdxB (bytesOf a) b)) [] nofun rfl rfl rfl kr rfl kr kr native125 (fun w' _=>nat_idxS _ _ w') rfl ?_;refine p1 4 (vI (nIdxB (bytesOf a) b))<|aa<|am ?_
 obtain rfl:=sj e;refine av (ap [vI (nIdxB (bytesOf a) b)] rfl ⟨kr,trivial⟩ ?_);exact ⟨ac g,rfl⟩

theorem strings_IndexByte_ok (ak:Nat) (a:ByteArray) (b:Int) (c:World) (f:Int) (d:strings_IndexByte ak a b=some f):
    Cs 109 [vS a,vU b] c (G1 c [vI f]):=by
 have g:Bl c c:=Below.refl _ _;unfold strings_IndexByte at d;refine aK Tryz.func109 rfl Tryz.ntmps109 kr ?_;refine bO [(0,vS a),(1,vU b)]<|aP<|pN 1 [4] []<|bF<|pN 2 [5,6] [(5,vS a),(6,vU b)]<|aj d ?_;intro e h d;refine au kr rfl kr enters101 (stringslite_IndexByte_ok ak a b c e h) ?_;rintro j k ⟨i,rfl⟩;refine p1 4 (vI e)<|aa<|am ?_
 obtain rfl:=sj d;refine av (ap [vI e] rfl ⟨kr,trivial⟩ ?_);exact ⟨ac (bg g i nb),rfl⟩

theorem cN (ak:Nat) (c:Nat) (g:cY) (b:ByteArray) (e:World) (f:a9 e c 117 (cF g)) (m:Bool) (i:regex_parser_ahead ak g b=some m):
    Cs 106 [bp c,vS b] e (G1 e [vB m]):=by
 have k:Bl e e:=Below.refl _ _;unfold regex_parser_ahead at i;refine aK Tryz.func106 rfl Tryz.ntmps106 kr ?_;refine bO [(0,bp c),(1,vS b)] ?_;have s:=f.lt;refine aP<|pN 1 [4] []<|bF<|aj i ?_;intro n d i
 refine aX (J:=fun a j=>Bl e j∧Sz e j∧a9 j c 117 (cF g)∧Qa a 20 [(4,vB n)]) ?_ ?_
 ·refine pL [5,6,7] 7 (bp c)<|bt 9 f 0 rfl<|pL [9,10] 10 (vB (!(g.1.toList==(bb []).toList)))<|cy 10 d (fun o d=>?_) (fun o d=>?_)
  ·refine pN 4 [11,12,13,14] [(11,vS b),(14,bp c)]<|bt 9 f 0 rfl<|aj d ?_;intro t p d;refine siq .i64 p ba<|aj d ?_;intro q r d;refine au kr rfl kr enters109 (strings_IndexByte_ok ak b t e q r) ?_;rintro w x ⟨h,rfl⟩;refine pL [4,18,19] 4 (vB (decide (q≥0)))<|aa ?_;obtain rfl:=sj d;refine ad fun a hd hs aq=>?_;exact ⟨(bg k h nb),h.size,(f.grown h nb),hd,hs,bc aq⟩
  ·refine pL [4,11,12,13,14,15,16,17,18,19] 4 (vB false)<|aa ?_;obtain rfl:=sj d;exact ad fun a hd hs aq=>⟨k,bX,f,hd,hs,bc aq⟩
 ·rintro a j ⟨l,u,v,hd,hs,aq⟩;refine aT ?_ hd hs aq;refine am ?_;obtain rfl:=sj i;refine av (ap [vB n] rfl ⟨kr,trivial⟩ ?_);exact ⟨ac l,rfl⟩

theorem stringslite_HasPrefix_ok (ak:Nat) (c:ByteArray) (b:ByteArray) (e:World) (i:Bool) (f:stringslite_HasPrefix ak c b=some i):
    Cs 155 [vS c,vS b] e (G1 e [vB i]):=by
 have g:Bl e e:=Below.refl _ _;unfold stringslite_HasPrefix at f;refine aK Tryz.func155 rfl Tryz.ntmps155 kr ?_;refine bO [(0,vS c),(1,vS b)]<|aP<|pN 1 [4] []<|bF<|aj f ?_;intro j d f
 refine aX (J:=fun a h=>Bl e h∧Sz e h∧Qa a 18 [(4,vB j)]) ?_ ?_
 ·refine pL [5,6,7,8,9,10] 10 (vB (decide ((bz c)≥(bz b))))<|cy 10 d (fun k d=>?_) (fun k d=>?_)
  ·refine pN 3 [11,12,13] [(11,vS c),(13,vI (bz b))]<|aj d ?_;intro l m d;refine gv_ssub (t:=9) (s:=c) (lo:=none) (hi:=(some (vI (bz b)))) 0 (bz b) l [] nofun rfl rfl rfl kr kr ba (.inl ⟨rfl,rfl⟩) (.inr ⟨_,rfl⟩) m rfl ?_;refine pL [4,15,16,17] 4 (vB (l.toList==b.toList))<|aa ?_;obtain rfl:=sj d;exact ad fun a hd hs aq=>⟨g,bX,hd,hs,bc aq⟩
  ·refine pL [4,11,12,13,14,15,16,17] 4 (vB false)<|aa ?_;obtain rfl:=sj d;exact ad fun a hd hs aq=>⟨g,bX,hd,hs,bc aq⟩
 ·rintro a h ⟨n,o,hd,hs,aq⟩;refine aT ?_ hd hs aq;refine am ?_;obtain rfl:=sj f;refine av (ap [vB j] rfl ⟨kr,trivial⟩ ?_);exact ⟨ac n,rfl⟩

theorem stringslite_CutPrefix_ok (ak:Nat) (b:ByteArray) (a:ByteArray) (d:World) (g:ByteArray × Bool) (c:stringslite_CutPrefix ak b a=some g):
    Cs 129 [vS b,vS a] d (G1 d [vS g.1,vB g.2]):=by
 have e:Bl d d:=Below.refl _ _;unfold stringslite_CutPrefix at c;refine aK Tryz.func129 rfl Tryz.ntmps129 kr ?_;refine bO [(0,vS b),(1,vS a)]<|aP<|pN 2 [4,5] []<|cz<|aP<|pN 2 [6,7] [(6,vS b),(7,vS a)]<|aj c ?_;intro i j c;refine au kr rfl kr enters155 (stringslite_HasPrefix_ok ak b a d i j) ?_;rintro m n ⟨f,rfl⟩;refine p1 9 (vB (!i))<|aa<|bH c (fun k c=>?_) (fun k c=>?_)
 ·refine aP<|pN 3 [4,5,10] [(4,vS b),(5,vB false)]<|aa<|am ?_
  obtain rfl:=sj c;refine av (ap [vS b,vB false] rfl ⟨kr,kr,trivial⟩ ?_);exact ⟨ac (bg e f nb),rfl⟩
 ·refine aD<|aP<|pN 3 [11,12,13] [(11,vS b),(13,vI (bz a))]<|aj c ?_;intro h l c;refine gv_ssub (t:=9) (s:=b) (lo:=(some (vI (bz a)))) (hi:=none) (bz a) (bz b) h [] nofun rfl rfl rfl kr kr ba (.inr ⟨_,rfl⟩) (.inl ⟨rfl,rfl⟩) l rfl ?_;refine pN 2 [4,5] [(4,vS h),(5,vB true)]<|aa<|am ?_
  obtain rfl:=sj c;refine av (ap [vS h,vB true] rfl ⟨kr,kr,trivial⟩ ?_);exact ⟨ac (bg e f nb),rfl⟩

theorem strings_CutPrefix_ok (ak:Nat) (b:ByteArray) (a:ByteArray) (c:World) (f:ByteArray × Bool) (e:strings_CutPrefix ak b a=some f):
    Cs 108 [vS b,vS a] c (G1 c [vS f.1,vB f.2]):=by
 have g:Bl c c:=Below.refl _ _;unfold strings_CutPrefix at e;refine aK Tryz.func108 rfl Tryz.ntmps108 kr ?_;refine bO [(0,vS b),(1,vS a)]<|aP<|pN 2 [4,5] []<|bF<|pN 2 [6,7] [(6,vS b),(7,vS a)]<|aj e ?_;intro d h e;refine au kr rfl kr enters129 (stringslite_CutPrefix_ok ak b a c d h) ?_;rintro j k ⟨i,rfl⟩;refine pN 4 [4,5,9,10] [(4,vS d.1),(5,vB d.2)]<|aa<|am ?_
 obtain rfl:=sj e;refine av (ap [vS d.1,vB d.2] rfl ⟨kr,kr,trivial⟩ ?_);exact ⟨ac (bg g i nb),rfl⟩

theorem aS (ak:Nat) (a:Nat) (b:cY) (c:ByteArray) (e:World) (f:a9 e a 117 (cF b)) (i:Bool × cY) (g:regex_parser_eat ak b c=some i):
    Cs 84 [bp a,vS c] e (Ret fun v w'=>e.grownBy w' (some a)∧v=tup [vB i.1]∧a9 w' a 117 (cF i.2)):=by
 have j:e.grownBy e (some a):=cL _ _;unfold regex_parser_eat at g;refine aK Tryz.func84 rfl Tryz.ntmps84 kr ?_;refine bO [(0,bp a),(1,vS c)] ?_;have n:=f.lt;refine aP<|pN 1 [4] []<|bF<|pL [8,9,10] 10 (bp a)<|bt 9 f 0 rfl<|p1 12 (vS c)<|aj g ?_;intro d k g;refine au kr rfl kr enters108 (strings_CutPrefix_ok ak b.1 c e d k) ?_;rintro p q ⟨h,rfl⟩;refine pN 5 [5,6,7,14,15] [(5,vS d.1),(6,vB d.2)]<|bF<|pN 4 [16,17,18,19] [(17,vS d.1),(19,bp a)]<|aC 9 0 (vS d.1) #[vS d.1,vI b.2.1,vI b.2.2.1,vB b.2.2.2.1,vB b.2.2.2.2] (f.grown h nb) kr kr kr ?_;intro r l m o;refine bF<|pL [4,20] 4 (vB d.2)<|aa<|am ?_
 obtain rfl:=sj g;refine av (ap [vB d.2] rfl ⟨kr,trivial⟩ ?_);exact ⟨(ae (ae j h nb) l bh),rfl,m⟩

theorem b6 (ak:Nat) (c:Nat) (e:cY) (aG:bm) (aH:Nat) (a:bm) (b:Nat) (d:cu) (f:World) (h:Nat→Prop) (l:∀ k,h k→k<f.heap.size∧k≠c) (m:a9 f c 117 (cF e)) (bv:Rd bK f h aG aH d.2.2.2.2.2.1) (r:Rd pcE f h a b d.2.2.2.2.2.2) (s:cu × cY) (H:regex_parser_made ak e d=some s):
    Cs 85 [bp c,.agg (bj d aG aH a b)] f (Ret fun v w'=>f.grownBy w' (some c)∧∃ (bx:bm) (bD:Nat),∃ (n:Nat→Prop),∃ (o:bm) (p:Nat),∃ (q:Nat→Prop),v=tup [.agg (bj s.1 bx bD o p)]∧Rd bK w' n bx bD s.1.2.2.2.2.2.1∧(Sxb n w' h f)∧Rd pcE w' q o p s.1.2.2.2.2.2.2∧(Sxb q w' h f)∧a9 w' c 117 (cF s.2)):=by
 have A:f.grownBy f (some c):=cL _ _;unfold regex_parser_made at H;refine aK Tryz.func85 rfl Tryz.ntmps85 kr ?_;refine bO [(0,bp c),(1,.agg (bj d aG aH a b))] ?_;have K:=m.lt;refine aP<|az bp (bj d aG aH a b) 25 kr kr ?_
 intro L R t I C P;refine az bp dp 25 kr kr ?_;intro D S B E i M;refine bF<|pN 3 [5,6,7] [(5,bp c),(7,pt c 1)] ?_
 have u:=(ab t B);have w:=m.grown u nb;refine bt 3 w 1 rfl<|pN 3 [9,10,11] [(9,vI (wI (e.2.1+1))),(11,pt c 1)]<|aC 3 1 (vI (wI (e.2.1+1))) #[vS e.1,vI (wI (e.2.1+1)),vI e.2.2.1,vB e.2.2.2.1,vB e.2.2.2.2] w kr kr kr ?_;intro Q j F N;refine bF<|dd 25 L (bj d aG aH a b) (bN ((I.grown B nb).grown j (ai (cH C m)))) ?_;have x:=m.grown t nb;refine aC 25 0 (.agg (bj d aG aH a b)) (bj d aG aH a b) (E.grown j (ai (cH i x))) kr kr kr ?_;intro J y G O;refine aa<|am ?_
 obtain rfl:=sj H;refine av (ap [.agg (bj d aG aH a b)] rfl ⟨⟨⟨D,0,none⟩,kr,run_loadVar_row J D _ 25 _ _ _ G bL rfl kr⟩,trivial⟩ ?_);have z:f.heap.size≤D:=bR i (ae A t nb).size;have g:=ae (ae (ae A u nb) j bh) y (cr z);exact ⟨g,aG,aH,h,a,b,h,rfl,rg bv g l,(fun k hk=>⟨(lz1 l g.size) k hk,(fun k (hk:h k)=>Or.inl hk) k hk⟩),rg r g l,(fun k hk=>⟨(lz1 l g.size) k hk,(fun k (hk:h k)=>Or.inl hk) k hk⟩),(F.grown y (ai (apH i x)))⟩

theorem regex_parser_bounds_ok (ak:Nat) (b:Nat) (d:cY) (c:World) (j:a9 c b 117 (cF d)) (e:Int × Int × Bool × cY) (a:regex_parser_bounds ak d=some e):
    Cs 128 [bp b] c (Ret fun v w'=>c.grownBy w' (some b)∧v=tup [vI e.1,vI e.2.1,vB e.2.2.1]∧a9 w' b 117 (cF e.2.2.2)):=by
 have k:c.grownBy c (some b):=cL _ _;unfold regex_parser_bounds at a;refine aK Tryz.func128 rfl Tryz.ntmps128 kr ?_;refine bO [(0,bp b)] ?_;have E:=j.lt;refine aP<|pN 3 [2,3,4] []<|cz<|aR<|aP<|p1 6 (bp b)<|aj a ?_;intro n y a;refine au kr rfl kr bW (aS ak b d (bb [42]) c j n y) ?_;rintro K F ⟨l,rfl,z⟩;refine p1 5 (vB n.1)<|aa<|bH a (fun A a=>?_) (fun A a=>?_)
 ·cases a
 ·refine aP<|p1 9 (bp b)<|aj a ?_;intro o B a;refine au kr rfl kr bW (aS ak b n.2 (bb [43]) F z o B) ?_;rintro G C ⟨f,rfl,p⟩;refine p1 8 (vB o.1)<|aa<|bH a (fun q a=>?_) (fun q a=>?_)
  ·cases a
  ·refine aP<|p1 12 (bp b)<|aj a ?_;intro g r a;refine au kr rfl kr bW (aS ak b o.2 (bb [63]) C p g r) ?_;rintro H D ⟨h,rfl,i⟩;refine p1 11 (vB g.1)<|aa<|bH a (fun s a=>?_) (fun s a=>?_)
   ·refine aP<|pN 3 [2,3,4] [(2,vI 0),(3,vI 1),(4,vB true)]<|aa<|am ?_
    obtain rfl:=sj a;refine av (ap [vI 0,vI 1,vB true] rfl ⟨kr,kr,kr,trivial⟩ ?_);exact ⟨(ae (ae (ae k l bh) f bh) h bh),rfl,i⟩
   ·refine aP<|p1 15 (bp b)<|aj a ?_;intro m t a;refine au kr rfl kr bW (aS ak b g.2 (bb [123]) D i m t) ?_;rintro I J ⟨u,rfl,w⟩;refine pL [14,17] 14 (vB (!m.1))<|aa<|bH a (fun x a=>?_) (fun x a=>?_)
    ·refine aP<|pN 3 [2,3,4] [(2,vI 0),(3,vI 0),(4,vB false)]<|bO [(2,vI 0),(3,vI 0),(4,vB false)]<|aa<|am ?_
     obtain rfl:=sj a;refine av (ap [vI 0,vI 0,vB false] rfl ⟨kr,kr,kr,trivial⟩ ?_);exact ⟨(ae (ae (ae (ae k l bh) f bh) h bh) u bh),rfl,w⟩
    ·cases a

theorem regex_parser_next_ok (ak:Nat) (a:Nat) (b:cY) (d:World) (i:Nat→Prop) (g:∀ k,i k→k<d.heap.size∧k≠a) (h:a9 d a 117 (cF b)) (q:Rd bE d i (ro 0) 256 bZ) (r:Rd (prE (iE .u8) (iE .u8)) d i (ro 1) 16 cD) (m:Int × cY) (c:regex_parser_next ak b=some m):
    Cs 153 [bp a] d (Ret fun v w'=>d.grownBy w' (some a)∧v=tup [vI m.1]∧a9 w' a 117 (cF m.2)):=by
 have f:d.grownBy d (some a):=cL _ _;unfold regex_parser_next at c;refine aK Tryz.func153 rfl Tryz.ntmps153 kr ?_;refine bO [(0,bp a)] ?_;have y:=h.lt;refine aP<|pN 1 [2] []<|bF<|pL [6,7,8] 8 (bp a)<|bt 9 h 0 rfl<|aj c ?_;intro e u c;refine au kr rfl kr enters168 (utf8_DecodeRuneInString_ok ak b.1 d i (lz1 g f.size) (rg q f g) (rg r f g) e u) ?_;rintro B C ⟨j,rfl⟩;refine pN 5 [3,4,5,11,12] [(3,vR e.1),(4,vI e.2)]<|cz<|aP<|pL [13,14] 14 (vB (e.2==0))<|aa<|bH c (fun w c=>?_) (fun w c=>?_)
 ·cases c
 ·refine aD<|aP<|pN 4 [17,18,19,20] [(17,bp a),(20,bp a)] ?_
  have l:=h.grown j nb;refine bt 9 l 0 rfl<|p1 22 (vI e.2)<|aj c ?_;intro n x c;refine gv_ssub (t:=9) (s:=b.1) (lo:=(some (vI e.2))) (hi:=none) e.2 (bz b.1) n [] nofun rfl rfl rfl kr kr ba (.inr ⟨_,rfl⟩) (.inl ⟨rfl,rfl⟩) x rfl ?_;refine pL [24,25] 25 (bp a)<|aC 9 0 (vS n) #[vS n,vI b.2.1,vI b.2.2.1,vB b.2.2.2.1,vB b.2.2.2.2] l kr kr kr ?_;intro A o p z;refine bF<|pL [2,26,27] 2 (vI (wI (e.1)))<|aa<|am ?_
  obtain rfl:=sj c;refine av (ap [vI (wI (e.1))] rfl ⟨kr,trivial⟩ ?_);exact ⟨(ae (ae f j nb) o bh),rfl,p⟩

abbrev gC56 (ak:Nat):Prop:=∀ (a:Nat) (i:cY) (b:World) (g:Nat→Prop) (j:∀ k,g k→k<b.heap.size∧k≠a) (l:a9 b a 117 (cF i)) (m:Rd bE b g (ro 0) 256 bZ) (n:Rd (prE (iE .u8) (iE .u8)) b g (ro 1) 16 cD) (h:cu × cY),regex_parser_alternatives ak i=some h→Calls ar 56 ([bp a]:List Value).toArray b (Ret fun v w'=>b.grownBy w' (some a)∧∃ (bx:bm) (bD:Nat),∃ (c:Nat→Prop),∃ (d:bm) (e:Nat),∃ (f:Nat→Prop),v=tup [.agg (bj h.1 bx bD d e)]∧Rd bK w' c bx bD h.1.2.2.2.2.2.1∧(Sxb c w' g b)∧Rd pcE w' f d e h.1.2.2.2.2.2.2∧(Sxb f w' g b)∧a9 w' a 117 (cF h.2))
abbrev gC83 (ak:Nat):Prop:=∀ (a:Nat) (i:cY) (b:World) (g:Nat→Prop) (j:∀ k,g k→k<b.heap.size∧k≠a) (l:a9 b a 117 (cF i)) (m:Rd bE b g (ro 0) 256 bZ) (n:Rd (prE (iE .u8) (iE .u8)) b g (ro 1) 16 cD) (h:cu × cY),regex_parser_sequence ak i=some h→Calls ar 83 ([bp a]:List Value).toArray b (Ret fun v w'=>b.grownBy w' (some a)∧∃ (bx:bm) (bD:Nat),∃ (c:Nat→Prop),∃ (d:bm) (e:Nat),∃ (f:Nat→Prop),v=tup [.agg (bj h.1 bx bD d e)]∧Rd bK w' c bx bD h.1.2.2.2.2.2.1∧(Sxb c w' g b)∧Rd pcE w' f d e h.1.2.2.2.2.2.2∧(Sxb f w' g b)∧a9 w' a 117 (cF h.2))
abbrev gC107 (ak:Nat):Prop:=∀ (a:Nat) (i:cY) (b:World) (g:Nat→Prop) (j:∀ k,g k→k<b.heap.size∧k≠a) (l:a9 b a 117 (cF i)) (m:Rd bE b g (ro 0) 256 bZ) (n:Rd (prE (iE .u8) (iE .u8)) b g (ro 1) 16 cD) (h:cu × cY),regex_parser_repeated ak i=some h→Calls ar 107 ([bp a]:List Value).toArray b (Ret fun v w'=>b.grownBy w' (some a)∧∃ (bx:bm) (bD:Nat),∃ (c:Nat→Prop),∃ (d:bm) (e:Nat),∃ (f:Nat→Prop),v=tup [.agg (bj h.1 bx bD d e)]∧Rd bK w' c bx bD h.1.2.2.2.2.2.1∧(Sxb c w' g b)∧Rd pcE w' f d e h.1.2.2.2.2.2.2∧(Sxb f w' g b)∧a9 w' a 117 (cF h.2))
abbrev gC127 (ak:Nat):Prop:=∀ (a:Nat) (i:cY) (b:World) (g:Nat→Prop) (j:∀ k,g k→k<b.heap.size∧k≠a) (l:a9 b a 117 (cF i)) (m:Rd bE b g (ro 0) 256 bZ) (n:Rd (prE (iE .u8) (iE .u8)) b g (ro 1) 16 cD) (h:cu × cY),regex_parser_atom ak i=some h→Calls ar 127 ([bp a]:List Value).toArray b (Ret fun v w'=>b.grownBy w' (some a)∧∃ (bx:bm) (bD:Nat),∃ (c:Nat→Prop),∃ (d:bm) (e:Nat),∃ (f:Nat→Prop),v=tup [.agg (bj h.1 bx bD d e)]∧Rd bK w' c bx bD h.1.2.2.2.2.2.1∧(Sxb c w' g b)∧Rd pcE w' f d e h.1.2.2.2.2.2.2∧(Sxb f w' g b)∧a9 w' a 117 (cF h.2))
abbrev gC150 (ak:Nat):Prop:=∀ (b:Nat) (m:cY) (aG:bm) (aH:Nat) (d:bm) (e:Nat) (f:cu) (a:World) (c:Nat→Prop) (o:∀ k,c k→k<a.heap.size∧k≠b) (p:a9 a b 117 (cF m)) (bv:Rd bK a c aG aH f.2.2.2.2.2.1) (n:Rd pcE a c d e f.2.2.2.2.2.2) (q:Rd bE a c (ro 0) 256 bZ) (r:Rd (prE (iE .u8) (iE .u8)) a c (ro 1) 16 cD) (l:cu × cY),regex_parser_inside ak m f=some l→Calls ar 150 ([bp b,.agg (bj f aG aH d e)]:List Value).toArray a (Ret fun v w'=>a.grownBy w' (some b)∧∃ (bx:bm) (bD:Nat),∃ (g:Nat→Prop),∃ (h:bm) (i:Nat),∃ (j:Nat→Prop),v=tup [.agg (bj l.1 bx bD h i)]∧Rd bK w' g bx bD l.1.2.2.2.2.2.1∧(Sxb g w' c a)∧Rd pcE w' j h i l.1.2.2.2.2.2.2∧(Sxb j w' c a)∧a9 w' b 117 (cF l.2))
set_option maxHeartbeats 4000000 in
set_option maxRecDepth 100000 in
theorem regex_parser_alternatives_step (ak:Nat) (R:gC56 ak) (c:gC83 ak) (a6:gC107 ak) (b5:gC127 ak) (b0:gC150 ak):gC56 (ak+1):=by
 intro l ff v y f dt eJ eK r0 M;have eL:v.grownBy v (some l):=cL _ _;rw[regex_parser_alternatives.eq_2]at M;refine aK Tryz.func56 rfl Tryz.ntmps56 kr ?_;refine bO [(0,bp l)] ?_;have w:=dt.lt;refine aP<|az bp dp 25 kr kr ?_
 intro z w2 eM d4 b7 fF;refine bF<|p1 4 (bp l)<|aj M ?_;intro r7 fg M;have b2:=ae eL eM nb;refine au kr rfl kr enters83 (c l ff w2 y (jg f b2) (dt.grown eM nb) (rg eJ b2 f) (rg eK b2 f) r7 fg) ?_;rintro fG d5 ⟨d6,eN,eO,du,eP,eQ,dv,rfl,eW,dw,eX,dx,dy⟩;have dz:∀ k,du k→k<d5.heap.size:=fun k hk=>(dw k hk).1;have d7:∀ k,du k→y k∨v.heap.size≤k:=fun k hk=>(dw k hk).2.elim (fun h=>(fun k (hk:y k)=>Or.inl hk) k h) (fun h=>.inr (Nat.le_trans b2.size h));have dA:∀ k,dv k→k<d5.heap.size:=fun k hk=>(dx k hk).1;have d8:∀ k,dv k→y k∨v.heap.size≤k:=fun k hk=>(dx k hk).2.elim (fun h=>(fun k (hk:y k)=>Or.inl hk) k h) (fun h=>.inr (Nat.le_trans b2.size h));refine az (fun b=>.slice (ro b) 1 1) (bj r7.1 eN eO eP eQ) 25 kr kr ?_;intro b3 dJ S eY u fz;obtain ⟨b4,e⟩:∃ X:Nat→Prop,X=(fun k=>du k∨dv k):=⟨_,rfl⟩;have d9:∀ k,b4 k→k<d5.heap.size:=fun k h=>by rw[e]at h;exact (h).elim (fun h=>dz k h) (fun h=>dA k h)
 have eZ:∀ k,b4 k→k<dJ.heap.size:=fun k h=>bV (d9 k h) S.size;have e0:∀ k,b4 k→y k∨v.heap.size≤k:=fun k h=>by rw[e]at h;exact (h).elim (fun h=>d7 k h) (fun h=>d8 k h)
 have e2:ay pcE 25 dJ b4 (ro b3) 1 ([Pc.of r7.1]:List Pc):=bS eY (by rw[e];exact ⟨[vI r7.1.1,vI r7.1.2.1,vI r7.1.2.2.1,vB r7.1.2.2.2.1,vB r7.1.2.2.2.2.1,vL eN r7.1.2.2.2.2.2.1 eO,vL eP r7.1.2.2.2.2.2.2 eQ],[],rfl,pc_mk7 ((eW.grown S dz nb).wide (fun _ h=>(.inl h))) ((eX.grown S dA nb).wide (fun _ h=>(.inr h))),rfl⟩) (show 1≤maxLen by decide) (fun h=>noteq u (d9 _ h));have ea:∀ k,b4 k→(fun k=>du k∨dv k) k:=fun k h=>by rw[e]at h;exact h
 clear e;have eb:=ae b2 d6 bh;have e3:Lo v (ro b3):=loo u eb.size;have fA:=apD u dy;have fB:=apG (p:=l) u dy (fun h=>(ea _ h).elim (xq d7 f w) (xq d8 f w));have T:=cH b7 dt;have dB:=d4.grown d6 (ai T);have F:v.heap.size≤z:=bR b7 eL.size;have fC:∀ g,aJ (ro b3)=some g→¬ du g:=fun g e hx=>nl (ci u g e) (dz _ hx);have fD:∀ g,aJ (ro b3)=some g→¬ dv g:=fun g e hx=>nl (ci u g e) (dA _ hx);refine p1 3 (vL (ro b3) ([Pc.of r7.1]:List Pc) 1)<|cz<|aj M ?_;intro W h1 M
 refine aE (J:=fun a K=>∃ (m:bm) (N:Nat),∃ (r:Nat→Prop),v.grownBy K (some l)∧Sz dJ K∧ay pcE 25 K r m N W.1∧(Lo v m)∧(∀ k,r k→k<K.heap.size)∧(∀ k,r k→y k∨v.heap.size≤k)∧(∀ g,aJ m=some g→¬ (· =z) g)∧¬ (fun k=>aJ m=some k∨r k) z∧a9 K l 117 (cF W.2)∧a9 K z 25 dp∧Qa a 24 [(0,bp l),(2,bp z),(3,vL m W.1 N)]) ?_ ?_
 ·refine aR<|cf (A:=fun (Z:(List Pc) × cY) a ah=>∃ (m:bm) (N:Nat),∃ (r:Nat→Prop),v.grownBy ah (some l)∧Sz dJ ah∧ay pcE 25 ah r m N Z.1∧(Lo v m)∧(∀ k,r k→k<ah.heap.size)∧(∀ k,r k→y k∨v.heap.size≤k)∧(∀ g,aJ m=some g→¬ (· =z) g)∧¬ (fun k=>aJ m=some k∨r k) z∧a9 ah l 117 (cF Z.2)∧a9 ah z 25 dp∧Qa a 24 [(0,bp l),(2,bp z),(3,vL m Z.1 N)]) h1 ?_ ?_
  ·intro a hd hs aq;exact ⟨(ro b3),1,b4,(ae eb S nb),bX,e2,e3,eZ,e0,(apD u dB),(apG (p:=z) u dB (fun h=>(ea _ h).elim (apE dw (xlo F f) d4.lt) (apE dx (xlo F f) d4.lt))),(dy.grown S nb),(dB.grown S nb),hd,hs,bc aq⟩
  ·rintro Z r2 h2 fh a ah ⟨o,dK,L,ec,ed,dC,x,bd,U,dD,dE,e5,dF,hd,hs,aq⟩;refine aT ?_ hd hs aq;refine aM<|aP<|p1 7 (bp l)<|aj h2 ?_;intro eR e6 h2;refine au kr rfl kr bW (aS ak l Z.2 (bb [124]) ah e5 eR e6) ?_;rintro fH fi ⟨q,rfl,ee⟩;refine aa<|bH h2 (fun e7 h2=>?_) (fun e7 h2=>?_)
   ·refine aD<|aR<|aB<|pN 2 [9,10] [(9,vL o Z.1 dK),(10,bp l)]<|aj h2 ?_;intro D e8 h2;have V:=ae ec q bh;refine au kr rfl kr enters83 (c l eR.2 fi y (jg f V) ee (rg eJ V f) (rg eK V f) D e8) ?_;rintro fI ef ⟨be,eS,eT,bg,eU,eV,bl,rfl,e9,ca,fa,cb,dG⟩;have an:∀ k,bg k→k<ef.heap.size:=fun k hk=>(ca k hk).1;have dL:∀ k,bg k→y k∨v.heap.size≤k:=fun k hk=>(ca k hk).2.elim (fun h=>(fun k (hk:y k)=>Or.inl hk) k h) (fun h=>.inr (Nat.le_trans V.size h));have a0:∀ k,bl k→k<ef.heap.size:=fun k hk=>(cb k hk).1;have dM:∀ k,bl k→y k∨v.heap.size≤k:=fun k hk=>(cb k hk).2.elim (fun h=>(fun k (hk:y k)=>Or.inl hk) k h) (fun h=>.inr (Nat.le_trans V.size h));refine az (fun b=>.slice (ro b) 1 1) (bj D.1 eS eT eU eV) 25 kr kr ?_;intro d cc n ei i fk;obtain ⟨j,e⟩:∃ X:Nat→Prop,X=(fun k=>bg k∨bl k):=⟨_,rfl⟩;have dN:∀ k,j k→k<ef.heap.size:=fun k h=>by rw[e]at h;exact (h).elim (fun h=>an k h) (fun h=>a0 k h)
    have dO:∀ k,j k→k<cc.heap.size:=fun k h=>bV (dN k h) n.size;have ej:∀ k,j k→y k∨v.heap.size≤k:=fun k h=>by rw[e]at h;exact (h).elim (fun h=>dL k h) (fun h=>dM k h)
    have ch:ay pcE 25 cc j (ro d) 1 ([Pc.of D.1]:List Pc):=bS ei (by rw[e];exact ⟨[vI D.1.1,vI D.1.2.1,vI D.1.2.2.1,vB D.1.2.2.2.1,vB D.1.2.2.2.2.1,vL eS D.1.2.2.2.2.2.1 eT,vL eU D.1.2.2.2.2.2.2 eV],[],rfl,pc_mk7 ((e9.grown n an nb).wide (fun _ h=>(.inl h))) ((fa.grown n a0 nb).wide (fun _ h=>(.inr h))),rfl⟩) (show 1≤maxLen by decide) (fun h=>noteq i (dN _ h));have ck:∀ k,j k→(fun k=>bg k∨bl k) k:=fun k h=>by rw[e]at h;exact h
    clear e;have dP:=ae V be bh;have ek:Lo v (ro d):=loo i dP.size;have dQ:=aF bd q.size;have cs:=(dC.grown q bd (ct (ai (xq (fun k (hk:aJ o=some k∨L k)=>hk.elim (fun h=>Or.inr (x k h)) (fun h=>U k h)) f w)))).grown be dQ (ct (ai (xq (fun k (hk:aJ o=some k∨L k)=>hk.elim (fun h=>Or.inr (x k h)) (fun h=>U k h)) f w)));have a1:=aF dQ be.size;have fl:∀ g,aJ (ro d)=some g→¬ (fun k=>aJ o=some k∨L k) g:=fun g e hx=>nl (ci i g e) ((fun k (hk:aJ o=some k∨L k)=>hk.elim (fun h=>cs.lt k h) (fun h=>a1 k h)) _ hx);have dR:=dC.grown q bd (ct (ai (xq (fun k (hk:aJ o=some k∨L k)=>hk.elim (fun h=>Or.inr (x k h)) (fun h=>U k h)) f w)));have dS:∀ g,aJ o=some g→¬ bg g:=fun g e h=>((ca _ h).2.elim (fun h=>((fun g (e:aJ o=some g) (hx:y g)=>nl (x g e) (f _ hx).1)) g e h) (fun h=>nl h (dR.lt g e)));have dT:∀ g,aJ o=some g→¬ bl g:=fun g e h=>((cb _ h).2.elim (fun h=>((fun g (e:aJ o=some g) (hx:y g)=>nl (x g e) (f _ hx).1)) g e h) (fun h=>nl h (dR.lt g e)));have dU:∀ g,aJ o=some g→¬ (fun k=>aJ (ro d)=some k∨j k) g:=fun g e h=>h.elim (fun h=>nl (ci i _ h) ((fun k (hk:aJ o=some k∨L k)=>hk.elim (fun h=>cs.lt k h) (fun h=>a1 k h)) g (.inl e))) (fun h=>((ck _ h)).elim (fun h=>(dS) g e h) (fun h=>(dT) g e h));have fm:=apD i dG;have fn:=apG (p:=l) i dG (fun h=>(ck _ h).elim (xq dL f w) (xq dM f w));have cv:=(dF.grown q (ai T)).grown be (ai T);have fo:=apD i cv;have dV:=dF.grown q (ai T);have fp:∀ g,aJ (ro d)=some g→¬ bg g:=fun g e hx=>nl (ci i g e) (an _ hx);have fq:∀ g,aJ (ro d)=some g→¬ bl g:=fun g e hx=>nl (ci i g e) (a0 _ hx);refine aj h2 ?_;intro dH el h2;obtain ⟨B,e⟩:∃ X:Nat→Prop,X=fun k=>L k∨(fun k=>aJ (ro d)=some k∨j k) k:=⟨_,rfl⟩;have dW:∀ k,B k→k<cc.heap.size:=fun k hk=>by rw[e]at hk;exact hk.elim (fun h=>(aF a1 n.size) k h) (fun h=>(fun k (hk:aJ (ro d)=some k∨j k)=>hk.elim (fun h=>ch.lt k h) (fun h=>dO k h)) k h)
    have em:∀ k,B k→y k∨v.heap.size≤k:=fun k hk=>by rw[e]at hk;exact hk.elim (fun h=>U k h) (fun h=>(fun k (hk:aJ (ro d)=some k∨j k)=>hk.elim (fun h=>Or.inr (ek k h)) (fun h=>ej k h)) k h)
    have dX:=cs.grown n a1 nb;have en:ay pcE 25 cc B o dK Z.1:=(dX).wide (fun k hk=>by rw[e];exact .inl hk) (fun g e1 hk=>by rw[e]at hk;exact hk.elim (fun h=>(dX).out g e1 h) (fun h=>dU g e1 h));have eo:∀ k,(fun k=>aJ (ro d)=some k∨j k) k→B k:=fun k hk=>by rw[e];exact .inr hk
    have ep:∀ k,B k→L k∨(fun k=>aJ (ro d)=some k∨j k) k:=fun k hk=>by rw[e]at hk;exact hk
    clear e;refine cn pcE (t:=23) (ty:=23) (e:=25) (a:=o) (ax:=(ro d)) (cap:=dK) (cx:=1) (xs:=Z.1) (ys:=([Pc.of D.1]:List Pc)) dH (X:=B) (Y:=(fun k=>aJ (ro d)=some k∨j k)) cl rfl rfl kr kr bo info25 en (ch.rd (Y:=fun k=>aJ (ro d)=some k∨j k) (fun _ h=>.inr h) (fun g e=>.inl e)) el (.inl eo) dW ?_;intro E eg fb O eq G;refine ⟨nofun,?_⟩;have dY:=ae dP n nb;have er:Lo v E:=cC G x dY.size;have es:∀ k,B k→k<fb.heap.size:=fun k hk=>bV (dW k hk) O.size;have cw:=cv.grown n nb;have et:∀ g,aJ E=some g→¬ (· =z) g:=bC G dD (b9 cw);have eu:¬ (fun k=>aJ E=some k∨B k) z:=fun h=>h.elim (fun h=>b8 G (fun h=>(dE) (.inl h)) (cw.lt) h) (fun h=>(ep _ h).elim (fun h=>(dE) (.inr h)) (fun h=>((apG (p:=z) i cv (fun h=>(ck _ h).elim (apE ca (xlo F f) dV.lt) (apE cb (xlo F f) dV.lt)))) h));have fr:∀ g,aJ E=some g→¬ bg g:=bC G dS (aF an n.size);have fs:∀ g,aJ E=some g→¬ bl g:=bC G dT (aF a0 n.size);have ft:∀ g,aJ E=some g→¬ (fun k=>aJ (ro d)=some k∨j k) g:=bC G dU (fun k (hk:aJ (ro d)=some k∨j k)=>hk.elim (fun h=>ch.lt k h) (fun h=>dO k h));refine p1 3 (vL E dH eg)<|aa<|bM ?_
    obtain rfl:=sj h2;refine ad fun a hd hs aq=>?_;exact ⟨(dH,D.2),rfl,E,eg,B,(ae dY O (fun g e=>.inr (x g e))),(nt (nt (nt (nt ed q.size) be.size) n.size) O.size),eq,er,es,em,et,eu,((dG.grown n nb).grown O (fun g (e:aJ o=some g) (h:g=l)=>negt w (x g e) h)),(cw.grown O dD),hd,hs,bc aq⟩
   ·refine bI<|bU rfl ?_
    obtain rfl:=sj h2;replace h1:=congrArg some (fh _ rfl);obtain rfl:=sj h1;refine ad fun a hd hs aq=>?_;exact ⟨o,dK,L,(ae ec q bh),(nt ed q.size),(dC.grown q bd (ct (ai (xq (fun k (hk:aJ o=some k∨L k)=>hk.elim (fun h=>Or.inr (x k h)) (fun h=>U k h)) f w)))),x,(aF bd q.size),U,dD,dE,ee,(dF.grown q (ai T)),hd,hs,bc aq⟩
 ·rintro a K ⟨s,dI,C,a2,fu,a3,c0,P,Q,fv,a4,dZ,a5,hd,hs,aq⟩;refine aT ?_ hd hs aq;refine aM<|aP<|pL [14,15,16] 16 (vB ((lz W.1)==1))<|aa<|bH M (fun ev M=>?_) (fun ev M=>?_)
  ·refine aP<|p1 17 (vL s W.1 dI)<|aj M ?_;intro c1 d0 M;refine cW .i64 7 (a3.rd (Y:=fun k=>aJ s=some k∨C k) (fun _ h=>.inr h) (fun g e=>.inl e)) d0 bo ?_;obtain ⟨_,⟨_,_,rfl,rfl,⟨_,_,rfl,rfl,⟨_,_,rfl,rfl,⟨_,_,rfl,rfl,⟨_,_,rfl,rfl,⟨_,_,rfl,⟨bn,bs,rfl,ew⟩,⟨bA,bE,rfl,ex⟩⟩⟩⟩⟩⟩⟩,ey⟩:=cells_un (a3.cellsK d0);refine laq 25 (aL s ((0:Int).toNat*7)) (dq (Pc.un c1) bn bs bA bE) (bN (ey K (fun _ _=>rfl))) ?_;refine aC 25 0 (.agg (dq (Pc.un c1) bn bs bA bE)) (dq (Pc.un c1) bn bs bA bE) a5 kr kr kr ?_;intro fc H ez fw;refine aa<|am ?_
   obtain rfl:=sj M;refine av (ap [.agg (dq (Pc.un c1) bn bs bA bE)] rfl ⟨⟨⟨z,0,none⟩,kr,run_loadVar_row fc z _ 25 _ _ _ ez bL rfl kr⟩,trivial⟩ ?_);exact ⟨(ae a2 H (cr F)),bn,bs,C,bA,bE,C,rfl,(ew.grown H P (ai (fun h=>a4 (.inr h)))),sxq (aF P H.size) Q,(ex.grown H P (ai (fun h=>a4 (.inr h)))),sxq (aF P H.size) Q,(dZ.grown H (ai (apH b7 dt)))⟩
  ·refine aD<|aP<|pN 3 [20,21,22] [(20,bp l),(22,.agg #[vI 9,vI 0,vI 0,vB false,vB false,vL none ([]:List bQ) 0,vL s W.1 dI])]<|aj M ?_;intro c2 eA M;refine au kr rfl kr enters85 (b6 ak l W.2 none 0 s dI (9,0,0,false,false,([]:List bQ),W.1) K (fun k=>(fun _=>False) k∨(fun k=>aJ s=some k∨C k) k) (fun k hk=>⟨(hk).elim (fun h=>h.elim) (fun h=>(fun k (hk:aJ s=some k∨C k)=>hk.elim (fun h=>a3.lt k h) (fun h=>P k h)) k h),fun e=>(hk).elim (fun h=>((h:False).elim)) (fun h=>(xq (fun k (hk:aJ s=some k∨C k)=>hk.elim (fun h=>Or.inr (c0 k h)) (fun h=>Q k h)) f w) (e ▸ h))⟩) dZ ((Rd.nil bK K (fun _=>False) none 0).wide (fun k hk=>(.inl hk))) ((a3.rd (Y:=fun k=>aJ s=some k∨C k) (fun _ h=>.inr h) (fun g e=>.inl e)).wide (fun k hk=>(.inr hk))) c2 eA) ?_;rintro fE eh ⟨d1,c3,c4,c5,c7,c8,c9,rfl,eB,dr,eC,ds,eD⟩;have d2:∀ k,c5 k→k<eh.heap.size:=fun k hk=>(dr k hk).1;have eE:∀ k,c5 k→y k∨v.heap.size≤k:=fun k hk=>(dr k hk).2.elim (fun h=>(h).elim (fun h=>h.elim) (fun h=>(fun k (hk:aJ s=some k∨C k)=>hk.elim (fun h=>Or.inr (c0 k h)) (fun h=>Q k h)) k h)) (fun h=>.inr (Nat.le_trans a2.size h));have d3:∀ k,c9 k→k<eh.heap.size:=fun k hk=>(ds k hk).1;have eF:∀ k,c9 k→y k∨v.heap.size≤k:=fun k hk=>(ds k hk).2.elim (fun h=>(h).elim (fun h=>h.elim) (fun h=>(fun k (hk:aJ s=some k∨C k)=>hk.elim (fun h=>Or.inr (c0 k h)) (fun h=>Q k h)) k h)) (fun h=>.inr (Nat.le_trans a2.size h));refine aC 25 0 (.agg (bj c2.1 c3 c4 c7 c8)) (bj c2.1 c3 c4 c7 c8) (a5.grown d1 (ai T)) kr kr kr ?_;intro fd I eG fx;refine aa<|am ?_
   obtain rfl:=sj M;refine av (ap [.agg (bj c2.1 c3 c4 c7 c8)] rfl ⟨⟨⟨z,0,none⟩,kr,run_loadVar_row fd z _ 25 _ _ _ eG bL rfl kr⟩,trivial⟩ ?_);have eH:¬ c5 z:=fun h=>((dr _ h).2.elim (fun h=>(h).elim (fun h=>by cases h) (fun h=>(a4) h)) (fun h=>nl h (a5.lt)));have eI:¬ c9 z:=fun h=>((ds _ h).2.elim (fun h=>(h).elim (fun h=>by cases h) (fun h=>(a4) h)) (fun h=>nl h (a5.lt)));exact ⟨(ae (ae a2 d1 bh) I (cr F)),c3,c4,c5,c7,c8,c9,rfl,(eB.grown I d2 (ai eH)),sxq (aF d2 I.size) eE,(eC.grown I d3 (ai eI)),sxq (aF d3 I.size) eF,(eD.grown I (ai (apH b7 dt)))⟩
set_option maxHeartbeats 4000000 in
set_option maxRecDepth 100000 in
theorem regex_parser_sequence_step (ak:Nat) (O:gC56 ak) (V:gC83 ak) (n:gC107 ak) (bl:gC127 ak) (a8:gC150 ak) (c:Nat) (ew:cY) (f:World) (y:Nat→Prop) (z:∀ k,y k→k<f.heap.size∧k≠c) (be:a9 f c 117 (cF ew)) (eS:Rd bE f y (ro 0) 256 bZ) (eT:Rd (prE (iE .u8) (iE .u8)) f y (ro 1) 16 cD) (r0:cu × cY) (Q:regex_parser_sequence (ak+1) ew=some r0):
    Cs 83 [bp c] f (Ret fun v w'=>f.grownBy w' (some c)∧∃ (bx:bm) (bD:Nat),∃ (dy:Nat→Prop),∃ (dz:bm) (dA:Nat),∃ (dB:Nat→Prop),v=tup [.agg (bj r0.1 bx bD dz dA)]∧Rd bK w' dy bx bD r0.1.2.2.2.2.2.1∧(Sxb dy w' y f)∧Rd pcE w' dB dz dA r0.1.2.2.2.2.2.2∧(Sxb dB w' y f)∧a9 w' c 117 (cF r0.2)):=by
 have dC:f.grownBy f (some c):=cL _ _;rw[regex_parser_sequence.eq_2]at Q;refine aK Tryz.func83 rfl Tryz.ntmps83 kr ?_;refine bO [(0,bp c)] ?_;have W:=be.lt;refine aP<|az bp dp 25 kr kr ?_
 intro s w2 ex eU F fd;refine bF<|p1 3 (vL none ([]:List Pc) 0)<|cz<|aj Q ?_;intro j7 h1 Q
 refine aE (J:=fun a w8=>∃ (d:bm) (I:Nat),∃ (m:Nat→Prop),f.grownBy w8 (some c)∧Sz w2 w8∧ay pcE 25 w8 m d I j7.1∧(Lo f d)∧(∀ k,m k→k<w8.heap.size)∧(∀ k,m k→y k∨f.heap.size≤k)∧(∀ g,aJ d=some g→¬ (· =s) g)∧¬ (fun k=>aJ d=some k∨m k) s∧a9 w8 c 117 (cF j7.2)∧a9 w8 s 25 dp∧Qa a 29 [(0,bp c),(2,bp s),(3,vL d j7.1 I)]) ?_ ?_
 ·refine aR<|cf (A:=fun (Z:(List Pc) × cY) a K=>∃ (d:bm) (I:Nat),∃ (m:Nat→Prop),f.grownBy K (some c)∧Sz w2 K∧ay pcE 25 K m d I Z.1∧(Lo f d)∧(∀ k,m k→k<K.heap.size)∧(∀ k,m k→y k∨f.heap.size≤k)∧(∀ g,aJ d=some g→¬ (· =s) g)∧¬ (fun k=>aJ d=some k∨m k) s∧a9 K c 117 (cF Z.2)∧a9 K s 25 dp∧Qa a 29 [(0,bp c),(2,bp s),(3,vL d Z.1 I)]) h1 ?_ ?_
  ·intro a hd hs aq;exact ⟨none,0,(fun _=>False),(ae dC ex nb),bX,ay.nil pcE 25 w2 (fun _=>False),nofun,fe,fe,nofun,(fun h=>h.elim nofun (fun e=>e)),(be.grown ex nb),eU,hd,hs,bc aq⟩
  ·rintro Z r2 h2 eV a K ⟨j,bg,P,dO,eF,dP,G,bn,c7,c8,c9,bs,dQ,hd,hs,aq⟩;refine aT ?_ hd hs aq;refine aM<|aP<|aj h2 ?_;intro dR h3 h2
   refine aX (J:=fun a an=>f.grownBy an (some c)∧Sz K an∧a9 an c 117 (cF dR.2)∧a9 an s 25 dp∧ay pcE 25 an P j bg Z.1∧Qa a 29 [(0,bp c),(2,bp s),(3,vL j Z.1 bg),(13,vB dR.1)]) ?_ ?_
   ·refine pL [4,5,6] 6 (bp c)<|bt 9 bs 0 rfl<|pL [8,9] 9 (vB (!(Z.2.1.toList==(bb []).toList)))<|cy 9 h3 (fun eG h3=>?_) (fun eG h3=>?_)
    ·refine p1 10 (bp c)<|aj h3 ?_;intro ey eH h3;refine au kr rfl kr enters106 (cN ak c Z.2 (bb [124,41]) K bs ey eH) ?_;rintro ff fg ⟨a0,rfl⟩;refine pL [12,13] 13 (vB (!ey))<|aa ?_;obtain rfl:=sj h3;refine ad fun a hd hs aq=>?_;exact ⟨(ae dO a0 nb),a0.size,(bs.grown a0 nb),(dQ.grown a0 nb),(dP.grown a0 bn nb),hd,hs,bc aq⟩
    ·refine pL [10,11,12,13] 13 (vB false)<|aa ?_;obtain rfl:=sj h3;exact ad fun a hd hs aq=>⟨dO,bX,bs,dQ,dP,hd,hs,bc aq⟩
   ·rintro a an ⟨H,bA,dS,b0,b2,hd,hs,aq⟩;refine aT ?_ hd hs aq;have dT:=(nt eF bA);refine bH h2 (fun eI h2=>?_) (fun eI h2=>?_)
    ·refine aD<|aR<|aB<|pN 2 [14,15] [(14,vL j Z.1 bg),(15,bp c)]<|aj h2 ?_;intro x eJ h2;refine au kr rfl kr enters107 (n c dR.2 an y (jg z H) dS (rg eS H z) (rg eT H z) x eJ) ?_;rintro fh dU ⟨a1,ez,eA,a2,eB,eC,a3,rfl,eK,b3,eL,b4,ds⟩;have b5:∀ k,a2 k→k<dU.heap.size:=fun k hk=>(b3 k hk).1;have dV:∀ k,a2 k→y k∨f.heap.size≤k:=fun k hk=>(b3 k hk).2.elim (fun h=>(fun k (hk:y k)=>Or.inl hk) k h) (fun h=>.inr (Nat.le_trans H.size h));have b7:∀ k,a3 k→k<dU.heap.size:=fun k hk=>(b4 k hk).1;have dW:∀ k,a3 k→y k∨f.heap.size≤k:=fun k hk=>(b4 k hk).2.elim (fun h=>(fun k (hk:y k)=>Or.inl hk) k h) (fun h=>.inr (Nat.le_trans H.size h));refine az (fun b=>.slice (ro b) 1 1) (bj x.1 ez eA eB eC) 25 kr kr ?_;intro l dD o eM i e5;obtain ⟨q,e⟩:∃ X:Nat→Prop,X=(fun k=>a2 k∨a3 k):=⟨_,rfl⟩;have dX:∀ k,q k→k<dU.heap.size:=fun k h=>by rw[e]at h;exact (h).elim (fun h=>b5 k h) (fun h=>b7 k h)
     have dY:∀ k,q k→k<dD.heap.size:=fun k h=>bV (dX k h) o.size;have eN:∀ k,q k→y k∨f.heap.size≤k:=fun k h=>by rw[e]at h;exact (h).elim (fun h=>dV k h) (fun h=>dW k h)
     have dt:ay pcE 25 dD q (ro l) 1 ([Pc.of x.1]:List Pc):=bS eM (by rw[e];exact ⟨[vI x.1.1,vI x.1.2.1,vI x.1.2.2.1,vB x.1.2.2.2.1,vB x.1.2.2.2.2.1,vL ez x.1.2.2.2.2.2.1 eA,vL eB x.1.2.2.2.2.2.2 eC],[],rfl,pc_mk7 ((eK.grown o b5 nb).wide (fun _ h=>(.inl h))) ((eL.grown o b7 nb).wide (fun _ h=>(.inr h))),rfl⟩) (show 1≤maxLen by decide) (fun h=>noteq i (dX _ h));have du:∀ k,q k→(fun k=>a2 k∨a3 k) k:=fun k h=>by rw[e]at h;exact h
     clear e;have dZ:=ae H a1 bh;have eO:Lo f (ro l):=loo i dZ.size;have e6:=apD i ds;have e7:=apG (p:=c) i ds (fun h=>(du _ h).elim (xq dV z W) (xq dW z W));have dv:=b0.grown a1 (ai (cH F be));have e8:=apD i dv;have dE:f.heap.size≤s:=bR F dC.size;have dw:=b2.grown a1 (aF bn bA) (ct (ai (xq (fun k (hk:aJ j=some k∨P k)=>hk.elim (fun h=>Or.inr (G k h)) (fun h=>c7 k h)) z W)));have ca:=aF (aF bn bA) a1.size;have e9:∀ g,aJ (ro l)=some g→¬ (fun k=>aJ j=some k∨P k) g:=fun g e hx=>nl (ci i g e) ((fun k (hk:aJ j=some k∨P k)=>hk.elim (fun h=>dw.lt k h) (fun h=>ca k h)) _ hx);have d0:∀ g,aJ j=some g→¬ a2 g:=fun g e h=>((b3 _ h).2.elim (fun h=>((fun g (e:aJ j=some g) (hx:y g)=>nl (G g e) (z _ hx).1)) g e h) (fun h=>nl h (b2.lt g e)));have d1:∀ g,aJ j=some g→¬ a3 g:=fun g e h=>((b4 _ h).2.elim (fun h=>((fun g (e:aJ j=some g) (hx:y g)=>nl (G g e) (z _ hx).1)) g e h) (fun h=>nl h (b2.lt g e)));have d2:∀ g,aJ j=some g→¬ (fun k=>aJ (ro l)=some k∨q k) g:=fun g e h=>h.elim (fun h=>nl (ci i _ h) ((fun k (hk:aJ j=some k∨P k)=>hk.elim (fun h=>dw.lt k h) (fun h=>ca k h)) g (.inl e))) (fun h=>((du _ h)).elim (fun h=>(d0) g e h) (fun h=>(d1) g e h));have fa:∀ g,aJ (ro l)=some g→¬ a2 g:=fun g e hx=>nl (ci i g e) (b5 _ hx);have fb:∀ g,aJ (ro l)=some g→¬ a3 g:=fun g e hx=>nl (ci i g e) (b7 _ hx);refine aj h2 ?_;intro d3 d8 h2;obtain ⟨u,e⟩:∃ X:Nat→Prop,X=fun k=>P k∨(fun k=>aJ (ro l)=some k∨q k) k:=⟨_,rfl⟩;have dF:∀ k,u k→k<dD.heap.size:=fun k hk=>by rw[e]at hk;exact hk.elim (fun h=>(aF ca o.size) k h) (fun h=>(fun k (hk:aJ (ro l)=some k∨q k)=>hk.elim (fun h=>dt.lt k h) (fun h=>dY k h)) k h)
     have d9:∀ k,u k→y k∨f.heap.size≤k:=fun k hk=>by rw[e]at hk;exact hk.elim (fun h=>c7 k h) (fun h=>(fun k (hk:aJ (ro l)=some k∨q k)=>hk.elim (fun h=>Or.inr (eO k h)) (fun h=>eN k h)) k h)
     have dG:=dw.grown o ca nb;have ea:ay pcE 25 dD u j bg Z.1:=(dG).wide (fun k hk=>by rw[e];exact .inl hk) (fun g e1 hk=>by rw[e]at hk;exact hk.elim (fun h=>(dG).out g e1 h) (fun h=>d2 g e1 h));have eb:∀ k,(fun k=>aJ (ro l)=some k∨q k) k→u k:=fun k hk=>by rw[e];exact .inr hk
     have ec:∀ k,u k→P k∨(fun k=>aJ (ro l)=some k∨q k) k:=fun k hk=>by rw[e]at hk;exact hk
     clear e;refine cn pcE (t:=23) (ty:=23) (e:=25) (a:=j) (ax:=(ro l)) (cap:=bg) (cx:=1) (xs:=Z.1) (ys:=([Pc.of x.1]:List Pc)) d3 (X:=u) (Y:=(fun k=>aJ (ro l)=some k∨q k)) cl rfl rfl kr kr bo info25 ea (dt.rd (Y:=fun k=>aJ (ro l)=some k∨q k) (fun _ h=>.inr h) (fun g e=>.inl e)) d8 (.inl eb) dF ?_;intro B d4 eP L ed C;refine ⟨nofun,?_⟩;have dH:=ae dZ o nb;have ee:Lo f B:=cC C G dH.size;have ef:∀ k,u k→k<eP.heap.size:=fun k hk=>bV (dF k hk) L.size;have cb:=dv.grown o nb;have eg:∀ g,aJ B=some g→¬ (· =s) g:=bC C c8 (b9 cb);have eh:¬ (fun k=>aJ B=some k∨u k) s:=fun h=>h.elim (fun h=>b8 C (fun h=>(c9) (.inl h)) (cb.lt) h) (fun h=>(ec _ h).elim (fun h=>(c9) (.inr h)) (fun h=>((apG (p:=s) i dv (fun h=>(du _ h).elim (apE b3 (xlo dE z) b0.lt) (apE b4 (xlo dE z) b0.lt)))) h));have eX:∀ g,aJ B=some g→¬ a2 g:=bC C d0 (aF b5 o.size);have eY:∀ g,aJ B=some g→¬ a3 g:=bC C d1 (aF b7 o.size);have eZ:∀ g,aJ B=some g→¬ (fun k=>aJ (ro l)=some k∨q k) g:=bC C d2 (fun k (hk:aJ (ro l)=some k∨q k)=>hk.elim (fun h=>dt.lt k h) (fun h=>dY k h));refine p1 3 (vL B d3 d4)<|aa<|bM ?_
     obtain rfl:=sj h2;refine ad fun a hd hs aq=>?_;exact ⟨(d3,x.2),rfl,B,d4,u,(ae dH L (fun g e=>.inr (G g e))),(nt (nt (nt dT a1.size) o.size) L.size),ed,ee,ef,d9,eg,eh,((ds.grown o nb).grown L (fun g (e:aJ j=some g) (h:g=c)=>negt W (G g e) h)),(cb.grown L c8),hd,hs,bc aq⟩
    ·refine bI<|bU rfl ?_
     obtain rfl:=sj h2;replace h1:=congrArg some (eV _ rfl);obtain rfl:=sj h1;refine ad fun a hd hs aq=>?_;exact ⟨j,bg,P,H,dT,b2,G,aF bn bA,c7,c8,c9,dS,b0,hd,hs,bc aq⟩
 ·rintro a w8 ⟨r,dx,w,R,e0,S,cc,M,N,e2,T,dI,U,hd,hs,aq⟩;refine aT ?_ hd hs aq;refine aM<|aP<|pL [19,20,21] 21 (vB ((lz j7.1)==1))<|aa<|bH Q (fun ei Q=>?_) (fun ei Q=>?_)
  ·refine aP<|p1 22 (vL r j7.1 dx)<|aj Q ?_;intro ch dJ Q;refine cW .i64 7 (S.rd (Y:=fun k=>aJ r=some k∨w k) (fun _ h=>.inr h) (fun g e=>.inl e)) dJ bo ?_;obtain ⟨_,⟨_,_,rfl,rfl,⟨_,_,rfl,rfl,⟨_,_,rfl,rfl,⟨_,_,rfl,rfl,⟨_,_,rfl,rfl,⟨_,_,rfl,⟨a4,a5,rfl,ej⟩,⟨a6,a7,rfl,ek⟩⟩⟩⟩⟩⟩⟩,el⟩:=cells_un (S.cellsK dJ);refine laq 25 (aL r ((0:Int).toNat*7)) (dq (Pc.un ch) a4 a5 a6 a7) (bN (el w8 (fun _ _=>rfl))) ?_;refine aC 25 0 (.agg (dq (Pc.un ch) a4 a5 a6 a7)) (dq (Pc.un ch) a4 a5 a6 a7) U kr kr kr ?_;intro eQ D em e3;refine aa<|am ?_
   obtain rfl:=sj Q;refine av (ap [.agg (dq (Pc.un ch) a4 a5 a6 a7)] rfl ⟨⟨⟨s,0,none⟩,kr,run_loadVar_row eQ s _ 25 _ _ _ em bL rfl kr⟩,trivial⟩ ?_);have d5:f.heap.size≤s:=bR F dC.size;exact ⟨(ae R D (cr d5)),a4,a5,w,a6,a7,w,rfl,(ej.grown D M (ai (fun h=>T (.inr h)))),sxq (aF M D.size) N,(ek.grown D M (ai (fun h=>T (.inr h)))),sxq (aF M D.size) N,(dI.grown D (ai (apH F be)))⟩
  ·refine aD<|aP<|pN 3 [25,26,27] [(25,bp c),(27,.agg #[vI 8,vI 0,vI 0,vB false,vB false,vL none ([]:List bQ) 0,vL r j7.1 dx])]<|aj Q ?_;intro ck en Q;refine au kr rfl kr enters85 (b6 ak c j7.2 none 0 r dx (8,0,0,false,false,([]:List bQ),j7.1) w8 (fun k=>(fun _=>False) k∨(fun k=>aJ r=some k∨w k) k) (fun k hk=>⟨(hk).elim (fun h=>h.elim) (fun h=>(fun k (hk:aJ r=some k∨w k)=>hk.elim (fun h=>S.lt k h) (fun h=>M k h)) k h),fun e=>(hk).elim (fun h=>((h:False).elim)) (fun h=>(xq (fun k (hk:aJ r=some k∨w k)=>hk.elim (fun h=>Or.inr (cc k h)) (fun h=>N k h)) z W) (e ▸ h))⟩) dI ((Rd.nil bK w8 (fun _=>False) none 0).wide (fun k hk=>(.inl hk))) ((S.rd (Y:=fun k=>aJ r=some k∨w k) (fun _ h=>.inr h) (fun g e=>.inl e)).wide (fun k hk=>(.inr hk))) ck en) ?_;rintro fc d6 ⟨dK,cs,cv,cw,c0,c1,c2,rfl,eo,c3,ep,c4,eq⟩;have dL:∀ k,cw k→k<d6.heap.size:=fun k hk=>(c3 k hk).1;have er:∀ k,cw k→y k∨f.heap.size≤k:=fun k hk=>(c3 k hk).2.elim (fun h=>(h).elim (fun h=>h.elim) (fun h=>(fun k (hk:aJ r=some k∨w k)=>hk.elim (fun h=>Or.inr (cc k h)) (fun h=>N k h)) k h)) (fun h=>.inr (Nat.le_trans R.size h));have dM:∀ k,c2 k→k<d6.heap.size:=fun k hk=>(c4 k hk).1;have es:∀ k,c2 k→y k∨f.heap.size≤k:=fun k hk=>(c4 k hk).2.elim (fun h=>(h).elim (fun h=>h.elim) (fun h=>(fun k (hk:aJ r=some k∨w k)=>hk.elim (fun h=>Or.inr (cc k h)) (fun h=>N k h)) k h)) (fun h=>.inr (Nat.le_trans R.size h));refine aC 25 0 (.agg (bj ck.1 cs cv c0 c1)) (bj ck.1 cs cv c0 c1) (U.grown dK (ai (cH F be))) kr kr kr ?_;intro eR E et e4;refine aa<|am ?_
   obtain rfl:=sj Q;refine av (ap [.agg (bj ck.1 cs cv c0 c1)] rfl ⟨⟨⟨s,0,none⟩,kr,run_loadVar_row eR s _ 25 _ _ _ et bL rfl kr⟩,trivial⟩ ?_);have d7:f.heap.size≤s:=bR F dC.size;have eu:¬ cw s:=fun h=>((c3 _ h).2.elim (fun h=>(h).elim (fun h=>by cases h) (fun h=>(T) h)) (fun h=>nl h (U.lt)));have ev:¬ c2 s:=fun h=>((c4 _ h).2.elim (fun h=>(h).elim (fun h=>by cases h) (fun h=>(T) h)) (fun h=>nl h (U.lt)));exact ⟨(ae (ae R dK bh) E (cr d7)),cs,cv,cw,c0,c1,c2,rfl,(eo.grown E dL (ai eu)),sxq (aF dL E.size) er,(ep.grown E dM (ai ev)),sxq (aF dM E.size) es,(eq.grown E (ai (apH F be)))⟩
set_option maxHeartbeats 4000000 in
set_option maxRecDepth 100000 in
theorem regex_parser_repeated_step (ak:Nat) (d4:gC56 ak) (ez:gC83 ak) (eA:gC107 ak) (c9:gC127 ak) (eK:gC150 ak) (c:Nat) (hF:cY) (r:World) (X0:Nat→Prop) (s:∀ k,X0 k→k<r.heap.size∧k≠c) (be:a9 r c 117 (cF hF)) (k5:Rd bE r X0 (ro 0) 256 bZ) (k6:Rd (prE (iE .u8) (iE .u8)) r X0 (ro 1) 16 cD) (r0:cu × cY) (W:regex_parser_repeated (ak+1) hF=some r0):
    Cs 107 [bp c] r (Ret fun v w'=>r.grownBy w' (some c)∧∃ (bx:bm) (bD:Nat),∃ (fF:Nat→Prop),∃ (fG:bm) (fH:Nat),∃ (fI:Nat→Prop),v=tup [.agg (bj r0.1 bx bD fG fH)]∧Rd bK w' fF bx bD r0.1.2.2.2.2.2.1∧(Sxb fF w' X0 r)∧Rd pcE w' fI fG fH r0.1.2.2.2.2.2.2∧(Sxb fI w' X0 r)∧a9 w' c 117 (cF r0.2)):=by
 have eB:r.grownBy r (some c):=cL _ _;rw[regex_parser_repeated.eq_2]at W;refine aK Tryz.func107 rfl Tryz.ntmps107 kr ?_;refine bO [(0,bp c)] ?_;have w:=be.lt;refine aP<|az bp dp 25 kr kr ?_
 intro q w2 hH L M k7;refine bF<|p1 8 (bp c)<|aj W ?_;intro m kV W;have Z:=ae eB hH nb;refine au kr rfl kr enters127 (c9 c hF w2 X0 (jg s Z) (be.grown hH nb) (rg k5 Z s) (rg k6 Z s) m kV) ?_;rintro l8 kW ⟨x,C,D,P,E,F,Q,rfl,dr,dD,ds,dE,eC⟩;have A:∀ k,P k→k<kW.heap.size:=fun k hk=>(dD k hk).1;have H:∀ k,P k→X0 k∨r.heap.size≤k:=fun k hk=>(dD k hk).2.elim (fun h=>(fun k (hk:X0 k)=>Or.inl hk) k h) (fun h=>.inr (Nat.le_trans Z.size h));have B:∀ k,Q k→k<kW.heap.size:=fun k hk=>(dE k hk).1;have I:∀ k,Q k→X0 k∨r.heap.size≤k:=fun k hk=>(dE k hk).2.elim (fun h=>(fun k (hk:X0 k)=>Or.inl hk) k h) (fun h=>.inr (Nat.le_trans Z.size h));refine az bp dp 25 kr kr ?_;intro ah l9 f hI n kX;refine aC 25 0 (.agg (bj m.1 C D E F)) (bj m.1 C D E F) hI kr kr kr ?_;intro k8 i fB kY;refine bF<|p1 11 (bp c)<|aj W ?_;intro j hJ W;refine au kr rfl kr enters128 (regex_parser_bounds_ok ak c m.2 k8 ((eC.grown f nb).grown i (ai (apH n eC))) j hJ) ?_;rintro ma k9 ⟨d,rfl,bn⟩;refine pN 7 [4,5,6,10,13,14,15] [(4,vI j.1),(5,vI j.2.1),(6,vB j.2.2.1)]<|cz<|aP<|pL [16,17] 17 (vB (!j.2.2.1))<|aa<|bH W (fun hK W=>?_) (fun hK W=>?_)
 ·refine aP<|dd 25 ah (bj m.1 C D E F) (bN (fB.grown d (ai (cH n eC)))) ?_;have fC:=cH M be;refine aC 25 0 (.agg (bj m.1 C D E F)) (bj m.1 C D E F) ((((L.grown x (ai fC)).grown f nb).grown i (ai (ng (bV ((b9 (L.grown x (ai fC))) _ rfl) ((aZ n) _ rfl))))).grown d (ai fC)) kr kr kr ?_;intro la d5 kZ lM;refine aa<|am ?_
  obtain rfl:=sj W;refine av (ap [.agg (bj m.1 C D E F)] rfl ⟨⟨⟨q,0,none⟩,kr,run_loadVar_row la q _ 25 _ _ _ kZ bL rfl kr⟩,trivial⟩ ?_);have iA:r.heap.size≤ah:=bR n (ae Z x bh).size;have eL:r.heap.size≤q:=bR M eB.size;have hL:=aF A f.size;have hM:=aF hL i.size;have hN:=aF hM d.size;have hO:=aF B f.size;have hP:=aF hO i.size;have hQ:=aF hP d.size;exact ⟨(ae (ae (ae (ae (ae Z x bh) f nb) i (cr iA)) d bh) d5 (cr eL)),C,D,P,E,F,Q,rfl,((((dr.grown f A nb).grown i hL (ai (apF n A))).grown d hM (ai (xq H s w))).grown d5 hN (ai (apE dD (xlo eL s) L.lt))),sxq (aF hN d5.size) H,((((ds.grown f B nb).grown i hO (ai (apF n B))).grown d hP (ai (xq I s w))).grown d5 hQ (ai (apE dE (xlo eL s) L.lt))),sxq (aF hQ d5.size) I,(bn.grown d5 (ai (apH M be)))⟩
 ·refine aD<|aM<|aP<|p1 19 (bp ah) ?_
  have d6:=cH n eC;have cv:=fB.grown d (ai d6);refine bt 3 cv 0 rfl<|aa<|aR<|aM<|aP<|pL [21,22] 21 (vB (m.1.1==4))<|aa<|bH W (fun hR W=>?_) (fun hR W=>?_)
  ·cases W
  ·refine aP<|pL [21,23] 21 (vB (m.1.1==5))<|aa<|bH W (fun hS W=>?_) (fun hS W=>?_)
   ·cases W
   ·refine aP<|pL [21,24] 21 (vB (m.1.1==6))<|bO [(0,bp c),(2,bp q),(3,bp ah),(4,vI j.1),(5,vI j.2.1),(20,vI m.1.1),(21,vB (m.1.1==6))]<|aa<|bH W (fun hT W=>?_) (fun hT W=>?_)
    ·cases W
    ·refine aB<|pL [21,25] 21 (vB (m.1.1==11))<|aa<|de (b:=(m.1.1==11)) kr (fun eM=>?_) (fun eM=>?_)
     ·replace W:=ite_t eM W;cases W
     ·replace W:=ite_f eM W;refine aD<|bM<|aM<|aj W ?_;intro dU h1 W
      refine aE (J:=fun a dF=>∃ (ed:bm) (ee:Nat),∃ (a5:Nat→Prop),∃ (ef:bm) (eg:Nat),∃ (a6:Nat→Prop),∃ (b2:Nat),r.grownBy dF (some c)∧Sz k9 dF∧Rd bK dF a5 ed ee dU.2.2.2.2.2.2.1∧(∀ k,a5 k→k<dF.heap.size)∧(∀ k,a5 k→X0 k∨r.heap.size≤k)∧Rd pcE dF a6 ef eg dU.2.2.2.2.2.2.2∧(∀ k,a6 k→k<dF.heap.size)∧(∀ k,a6 k→X0 k∨r.heap.size≤k)∧¬ a5 q∧¬ a5 b2∧¬ a6 q∧¬ a6 b2∧¬ (· =q) b2∧a9 dF c 117 (cF dU.1)∧a9 dF q 25 dp∧a9 dF b2 25 (bj dU.2 ed ee ef eg)∧r.heap.size≤b2∧Qa a 42 [(0,bp c),(2,bp q),(7,bp b2)]) ?_ ?_
      ·refine bw kr ?_;intro dC l;refine aj h1 ?_;intro z d7 h1;refine aj h1 ?_;intro K fJ h1;refine gv_shareA (fun σ cw=>∃ (an:Nat),∃ (dt:bm),∃ (du:Nat),∃ (dS:Nat→Prop),∃ (dv:bm),∃ (dw:Nat),∃ (dT:Nat→Prop),σ=[(0,bp c),(2,bp q),(7,bp an),(36,.agg (bj K.1 dt du dv dw))]∧r.grownBy cw (some c)∧Sz dC cw∧a9 cw c 117 (cF K.2)∧a9 cw q 25 dp∧a9 cw an 25 dp∧r.heap.size≤an∧Rd bK cw dS dt du K.1.2.2.2.2.2.1∧(∀ k,dS k→k<cw.heap.size)∧(∀ k,dS k→X0 k∨r.heap.size≤k)∧Rd pcE cw dT dv dw K.1.2.2.2.2.2.2∧(∀ k,dT k→k<cw.heap.size)∧(∀ k,dT k→X0 k∨r.heap.size≤k)∧(¬ (· =an) c)∧(¬ dS q)∧(¬ dT q)∧(¬ (· =an) q)∧(¬ (· =c) an)∧(¬ (· =q) an)∧(¬ dS an)∧(¬ dT an)) (bA 11 [0,1,2,3,4,5,6,7,8,9]) 1 ?_ fun hV=>?_
       ·rintro σ cw ⟨an,dt,du,dS,dv,dw,dT,rfl,iB,iC,iD,iF,iG,fp,iH,fK,iI,iJ,fL,iK,lc,iL,iM,ld,iN,fM,fN,fO⟩;refine gv_alt [(10,bA 11 [0,1,2,3,4,5,6,7,8,9,10])] 0 kr kr ⟨?_,trivial⟩;refine dc (t:=25) (b:=an) (off:=0) (v:=(.agg #[.int .i64 K.1.1,.int .i64 K.1.2.1,.int .i64 K.1.2.2.1,.bool K.1.2.2.2.1,.bool K.1.2.2.2.2.1,.slice dt (length K.1.2.2.2.2.2.1) du,.slice dv (length K.1.2.2.2.2.2.2) dw])) (t':=25) (cs:=#[.int .i64 0,.int .i64 0,.int .i64 0,.bool false,.bool false,.slice none (length ([]:List bQ)) 0,.slice none (length ([]:List Pc)) 0]) #[.int .i64 K.1.1,.int .i64 K.1.2.1,.int .i64 K.1.2.2.1,.bool K.1.2.2.2.1,.bool K.1.2.2.2.2.1,.slice dt (length K.1.2.2.2.2.2.1) du,.slice dv (length K.1.2.2.2.2.2.2) dw] cl rfl rfl kr kr kr (by intro u hu;simp[Value.cells]at hu;rcases hu with rfl | rfl | rfl | rfl | rfl | rfl | rfl<;>rfl) (show 0+7≤7 by decide) (by rfl) iG ?_;intro lN b3 iO le;refine ⟨(fun _=>trivial),?_⟩;refine aa<|al<|aQ kr ?_;obtain rfl:=sj h1;refine ad fun a hd hs aq=>?_;exact ⟨dt,du,dS,dv,dw,dT,an,(ae iB b3 (cr fp)),(nt (nt l.size iC) b3.size),(iH.grown b3 fK (ai fN)),(aF fK b3.size),iI,(iJ.grown b3 fL (ai fO)),(aF fL b3.size),iK,iL,fN,iM,fO,fM,(iD.grown b3 (ai iN)),(iF.grown b3 (ai fM)),iO,fp,hd,hs,bc aq⟩
       refine gv_shareA (fun σ cx=>∃ (N:Nat),∃ (o:Nat),∃ (a8:Nat→Prop),σ=[(0,bp c),(2,bp q),(7,bp N),(28,bp c),(35,.agg #[vI 10,vI j.1,vI j.2.1,vB false,vB z.1,vL none ([]:List bQ) 0,vL (ro o) ([Pc.of m.1]:List Pc) 1])]∧r.grownBy cx (some c)∧Sz dC cx∧a9 cx c 117 (cF z.2)∧a9 cx q 25 dp∧a9 cx N 25 dp∧r.heap.size≤N∧ay pcE 25 cx a8 (ro o) 1 ([Pc.of m.1]:List Pc)∧(∀ k,a8 k→k<cx.heap.size)∧(Lo r (ro o))∧(∀ k,a8 k→X0 k∨r.heap.size≤k)∧(¬ (fun k=>aJ (ro o)=some k∨a8 k) c)∧(¬ (· =N) c)∧(¬ (fun k=>aJ (ro o)=some k∨a8 k) q)∧(¬ (· =N) q)∧(∀ g,aJ (ro o)=some g→¬ (· =c) g)∧(∀ g,aJ (ro o)=some g→¬ (· =q) g)∧(∀ g,aJ (ro o)=some g→¬ (· =N) g)∧(¬ (· =c) N)∧(¬ (· =q) N)∧(¬ (fun k=>aJ (ro o)=some k∨a8 k) N)) (bA 11 [0,1,2,3,4,5,6,7,9]) 2 ?_ fun hW=>?_
       ·rintro σ cx ⟨N,o,a8,rfl,eN,iP,iQ,eO,eP,hX,fP,iR,fq,fQ,iS,fR,fS,iT,lf,lg,lh,iU,iV,fT⟩;refine gv_alt [(8,bA 11 [0,1,2,3,4,5,6,7,8,9])] 1 kr kr ⟨?_,trivial⟩;refine clq enters85 (b6 ak c z.2 none 0 (ro o) 1 (10,j.1,j.2.1,false,z.1,([]:List bQ),([Pc.of m.1]:List Pc)) cx (fun k=>(fun _=>False) k∨(fun k=>aJ (ro o)=some k∨a8 k) k) (fun k hk=>⟨(hk).elim (fun h=>h.elim) (fun h=>(fun k (hk:aJ (ro o)=some k∨a8 k)=>hk.elim (fun h=>fP.lt k h) (fun h=>iR k h)) k h),fun e=>(hk).elim (fun h=>((h:False).elim)) (fun h=>iS (e ▸ h))⟩) iQ ((Rd.nil bK cx (fun _=>False) none 0).wide (fun k hk=>(.inl hk))) ((fP.rd (Y:=fun k=>aJ (ro o)=some k∨a8 k) (fun _ h=>.inr h) (fun g e=>.inl e)).wide (fun k hk=>(.inr hk))) K fJ) ?_;rintro lO hY ⟨eh,hZ,h2,eD,h3,h4,eE,rfl,iW,ei,iX,ej,iY⟩;refine ⟨(fun _=>trivial),?_⟩;have iZ:∀ k,eD k→k<hY.heap.size:=fun k hk=>(ei k hk).1;have i0:∀ k,eD k→X0 k∨r.heap.size≤k:=fun k hk=>(ei k hk).2.elim (fun h=>(h).elim (fun h=>h.elim) (fun h=>(fun k (hk:aJ (ro o)=some k∨a8 k)=>hk.elim (fun h=>Or.inr (fq k h)) (fun h=>fQ k h)) k h)) (fun h=>.inr (Nat.le_trans eN.size h));have i1:∀ k,eE k→k<hY.heap.size:=fun k hk=>(ej k hk).1;have i2:∀ k,eE k→X0 k∨r.heap.size≤k:=fun k hk=>(ej k hk).2.elim (fun h=>(h).elim (fun h=>h.elim) (fun h=>(fun k (hk:aJ (ro o)=some k∨a8 k)=>hk.elim (fun h=>Or.inr (fq k h)) (fun h=>fQ k h)) k h)) (fun h=>.inr (Nat.le_trans eN.size h));refine aa<|bi [0,2,7,36] (σ':=[(0,bp c),(2,bp q),(7,bp N),(36,.agg (bj K.1 hZ h2 h3 h4))]) kr<|al ?_;have i3:¬ eD q:=fun h=>((ei _ h).2.elim (fun h=>(h).elim (fun h=>by cases h) (fun h=>(fS) h)) (fun h=>nl h (eO.lt)));have i4:¬ eE q:=fun h=>((ej _ h).2.elim (fun h=>(h).elim (fun h=>by cases h) (fun h=>(fS) h)) (fun h=>nl h (eO.lt)));have i5:¬ eD N:=fun h=>((ei _ h).2.elim (fun h=>(h).elim (fun h=>by cases h) (fun h=>(fT) h)) (fun h=>nl h (eP.lt)));have i6:¬ eE N:=fun h=>((ej _ h).2.elim (fun h=>(h).elim (fun h=>by cases h) (fun h=>(fT) h)) (fun h=>nl h (eP.lt)));exact hV _ _ ⟨N,hZ,h2,eD,h3,h4,eE,rfl,(ae eN eh bh),(nt iP eh.size),iY,(eO.grown eh (ai (cH M be))),(eP.grown eh (ai fR)),hX,iW,iZ,i0,iX,i1,i2,fR,i3,i4,iT,iU,iV,i5,i6⟩
       refine gv_shareA (fun σ dx=>∃ (o:Nat),∃ (a2:Nat→Prop),σ=[(0,bp c),(2,bp q),(28,bp c),(29,vI j.1),(30,vI j.2.1),(32,vB z.1),(34,vL (ro o) ([Pc.of m.1]:List Pc) 1)]∧r.grownBy dx (some c)∧Sz dC dx∧a9 dx c 117 (cF z.2)∧a9 dx q 25 dp∧ay pcE 25 dx a2 (ro o) 1 ([Pc.of m.1]:List Pc)∧(∀ k,a2 k→k<dx.heap.size)∧(Lo r (ro o))∧(∀ k,a2 k→X0 k∨r.heap.size≤k)∧(¬ (fun k=>aJ (ro o)=some k∨a2 k) c)∧(¬ (fun k=>aJ (ro o)=some k∨a2 k) q)∧(∀ g,aJ (ro o)=some g→¬ (· =c) g)∧(∀ g,aJ (ro o)=some g→¬ (· =q) g)) (bA 11 [0,1,2,3,4,5,6]) 4 ?_ fun h5=>?_
       ·rintro σ dx ⟨o,a2,rfl,dJ,fU,ek,dK,dV,dW,eF,eQ,fV,eR,i7,i8⟩;refine aN [7] (bA 11 [0,1,2,3,4,5,6,7]) 3 kr kr<|p1 35 (.agg #[vI 10,vI j.1,vI j.2.1,vB false,vB z.1,vL none ([]:List bQ) 0,vL (ro o) ([Pc.of m.1]:List Pc) 1])<|aa<|al<|gv_alt [(8,bA 11 [0,1,2,3,4,5,6,7,8]),(9,bA 11 [0,1,2,3,4,5,6,7,9])] 2 kr kr ⟨?_,?_,trivial⟩
        ·refine clq enters85 (b6 ak c z.2 none 0 (ro o) 1 (10,j.1,j.2.1,false,z.1,([]:List bQ),([Pc.of m.1]:List Pc)) dx (fun k=>(fun _=>False) k∨(fun k=>aJ (ro o)=some k∨a2 k) k) (fun k hk=>⟨(hk).elim (fun h=>h.elim) (fun h=>(fun k (hk:aJ (ro o)=some k∨a2 k)=>hk.elim (fun h=>dV.lt k h) (fun h=>dW k h)) k h),fun e=>(hk).elim (fun h=>((h:False).elim)) (fun h=>fV (e ▸ h))⟩) ek ((Rd.nil bK dx (fun _=>False) none 0).wide (fun k hk=>(.inl hk))) ((dV.rd (Y:=fun k=>aJ (ro o)=some k∨a2 k) (fun _ h=>.inr h) (fun g e=>.inl e)).wide (fun k hk=>(.inr hk))) K fJ) ?_;rintro lP h6 ⟨dX,dt,du,eS,dv,dw,eT,rfl,i9,eU,ja,eV,eW⟩;refine ⟨(fun _=>trivial),?_⟩;have eX:∀ k,eS k→k<h6.heap.size:=fun k hk=>(eU k hk).1;have jb:∀ k,eS k→X0 k∨r.heap.size≤k:=fun k hk=>(eU k hk).2.elim (fun h=>(h).elim (fun h=>h.elim) (fun h=>(fun k (hk:aJ (ro o)=some k∨a2 k)=>hk.elim (fun h=>Or.inr (eF k h)) (fun h=>eQ k h)) k h)) (fun h=>.inr (Nat.le_trans dJ.size h));have eY:∀ k,eT k→k<h6.heap.size:=fun k hk=>(eV k hk).1;have jc:∀ k,eT k→X0 k∨r.heap.size≤k:=fun k hk=>(eV k hk).2.elim (fun h=>(h).elim (fun h=>h.elim) (fun h=>(fun k (hk:aJ (ro o)=some k∨a2 k)=>hk.elim (fun h=>Or.inr (eF k h)) (fun h=>eQ k h)) k h)) (fun h=>.inr (Nat.le_trans dJ.size h));refine aa<|al<|gv_alt [(9,bA 11 [0,1,2,3,4,5,6,7,8,9])] 1 kr kr ⟨?_,trivial⟩;refine dk bp dp 25 cl rfl rfl kr kr ?_;intro an lQ b4 jd c2 li;refine ⟨(fun _=>trivial),?_⟩;refine aa<|bi [0,2,7,36] (σ':=[(0,bp c),(2,bp q),(7,bp an),(36,.agg (bj K.1 dt du dv dw))]) kr<|al ?_;have fW:=cH M be;have h7:r.heap.size≤an:=bR c2 (ae dJ dX bh).size;have je:¬ eS q:=fun h=>((eU _ h).2.elim (fun h=>(h).elim (fun h=>by cases h) (fun h=>(eR) h)) (fun h=>nl h (dK.lt)));have jf:¬ eT q:=fun h=>((eV _ h).2.elim (fun h=>(h).elim (fun h=>by cases h) (fun h=>(eR) h)) (fun h=>nl h (dK.lt)));have fX:=bV ((b9 (dK.grown dX (ai fW))) _ rfl) ((aZ c2) _ rfl);exact hV _ _ ⟨an,dt,du,eS,dv,dw,eT,rfl,(ae (ae dJ dX bh) b4 nb),(nt (nt fU dX.size) b4.size),(eW.grown b4 nb),((dK.grown dX (ai fW)).grown b4 nb),jd,h7,(i9.grown b4 eX nb),(aF eX b4.size),jb,(ja.grown b4 eY nb),(aF eY b4.size),jc,(cH c2 eW),je,jf,Nat.ne_of_lt fX,(apH c2 eW),ng fX,(apF c2 eX),(apF c2 eY)⟩
        ·refine dk bp dp 25 cl rfl rfl kr kr ?_;intro N lR dL jh c3 lj;refine ⟨(fun _=>trivial),?_⟩;refine aa<|bi [0,2,7,28,35] (σ':=[(0,bp c),(2,bp q),(7,bp N),(28,bp c),(35,.agg #[vI 10,vI j.1,vI j.2.1,vB false,vB z.1,vL none ([]:List bQ) 0,vL (ro o) ([Pc.of m.1]:List Pc) 1])]) kr<|al ?_;have h8:r.heap.size≤N:=bR c3 dJ.size;have fY:=bV ((b9 dK) _ rfl) ((aZ c3) _ rfl);have ji:∀ g,aJ (ro o)=some g→¬ (· =N) g:=fun g e hx=>nl ((aZ c3) _ hx) ((fun k (hk:aJ (ro o)=some k∨a2 k)=>hk.elim (fun h=>dV.lt k h) (fun h=>dW k h)) g (.inl e));have jj:¬ (fun k=>aJ (ro o)=some k∨a2 k) N:=fun hx=>nl ((aZ c3) _ rfl) ((fun k (hk:aJ (ro o)=some k∨a2 k)=>hk.elim (fun h=>dV.lt k h) (fun h=>dW k h)) _ hx);exact hW _ _ ⟨N,o,a2,rfl,(ae dJ dL nb),(nt fU dL.size),(ek.grown dL nb),(dK.grown dL nb),jh,h8,(dV.grown dL dW nb),(aF dW dL.size),eF,eQ,fV,(cH c3 ek),eR,Nat.ne_of_lt fY,i7,i8,ji,(apH c3 ek),ng fY,jj⟩
       refine gv_shareA (fun σ dG=>∃ (y:Nat),∃ (O:Nat),∃ (dH:Nat→Prop),σ=[(0,bp c),(2,bp q),(7,bp y),(28,bp c),(29,vI j.1),(30,vI j.2.1),(32,vB z.1),(34,vL (ro O) ([Pc.of m.1]:List Pc) 1)]∧r.grownBy dG (some c)∧Sz dC dG∧a9 dG c 117 (cF z.2)∧a9 dG q 25 dp∧a9 dG y 25 dp∧r.heap.size≤y∧ay pcE 25 dG dH (ro O) 1 ([Pc.of m.1]:List Pc)∧(∀ k,dH k→k<dG.heap.size)∧(Lo r (ro O))∧(∀ k,dH k→X0 k∨r.heap.size≤k)∧(¬ (· =y) c)∧(¬ (fun k=>aJ (ro O)=some k∨dH k) c)∧(¬ (· =y) q)∧(¬ (fun k=>aJ (ro O)=some k∨dH k) q)∧(¬ (· =c) y)∧(¬ (· =q) y)∧(¬ (fun k=>aJ (ro O)=some k∨dH k) y)∧(∀ g,aJ (ro O)=some g→¬ (· =c) g)∧(∀ g,aJ (ro O)=some g→¬ (· =q) g)∧(∀ g,aJ (ro O)=some g→¬ (· =y) g)) (bA 11 [0,1,2,3,4,5,6,9]) 3 ?_ fun h9=>?_
       ·rintro σ dG ⟨y,O,dH,rfl,jk,jl,jm,jn,jo,ia,jp,jq,ib,jr,js,jt,ju,jv,jw,jx,jy,jz,jA,jB⟩;refine aN [7] (bA 11 [0,1,2,3,4,5,6,7,9]) 2 kr kr<|p1 35 (.agg #[vI 10,vI j.1,vI j.2.1,vB false,vB z.1,vL none ([]:List bQ) 0,vL (ro O) ([Pc.of m.1]:List Pc) 1])<|aa<|bi [0,2,7,28,35] (σ':=[(0,bp c),(2,bp q),(7,bp y),(28,bp c),(35,.agg #[vI 10,vI j.1,vI j.2.1,vB false,vB z.1,vL none ([]:List bQ) 0,vL (ro O) ([Pc.of m.1]:List Pc) 1])]) kr<|al ?_;exact hW _ _ ⟨y,O,dH,rfl,jk,jl,jm,jn,jo,ia,jp,jq,ib,jr,jt,js,jv,ju,jz,jA,jB,jw,jx,jy⟩
       refine gv_shareA (fun σ bs=>∃ (y:Nat),σ=[(0,bp c),(2,bp q),(7,bp y),(28,bp c),(29,vI j.1),(30,vI j.2.1),(32,vB z.1),(33,.agg (bj m.1 C D E F))]∧r.grownBy bs (some c)∧Sz dC bs∧a9 bs c 117 (cF z.2)∧a9 bs q 25 dp∧Rd bK bs P C D m.1.2.2.2.2.2.1∧(∀ k,P k→k<bs.heap.size)∧Rd pcE bs Q E F m.1.2.2.2.2.2.2∧(∀ k,Q k→k<bs.heap.size)∧a9 bs y 25 dp∧r.heap.size≤y∧(¬ (· =y) c)∧(¬ (· =y) q)∧(¬ (· =c) y)∧(¬ (· =q) y)∧(¬ P y)∧(¬ Q y)) (bA 11 [0,1,2,3,4,5,9]) 4 ?_ fun fD=>?_
       ·rintro σ bs ⟨y,rfl,fZ,jC,eZ,e0,jD,e1,jE,e2,e3,ic,jF,jG,jH,jI,jJ,jK⟩;refine gv_alt [(6,bA 11 [0,1,2,3,4,5,6,9])] 3 kr kr ⟨?_,trivial⟩;refine dk (fun b=>.slice (ro b) 1 1) (bj m.1 C D E F) 25 cl rfl rfl kr kr ?_;intro O id b5 jL ax lk;refine ⟨(fun _=>trivial),?_⟩;obtain ⟨d8,e⟩:∃ X:Nat→Prop,X=(fun k=>P k∨Q k):=⟨_,rfl⟩;have f0:∀ k,d8 k→k<bs.heap.size:=fun k h=>by rw[e]at h;exact (h).elim (fun h=>e1 k h) (fun h=>e2 k h)
        have jM:∀ k,d8 k→k<id.heap.size:=fun k h=>bV (f0 k h) b5.size;have jN:∀ k,d8 k→X0 k∨r.heap.size≤k:=fun k h=>by rw[e]at h;exact (h).elim (fun h=>H k h) (fun h=>I k h)
        have jO:ay pcE 25 id d8 (ro O) 1 ([Pc.of m.1]:List Pc):=bS jL (by rw[e];exact ⟨[vI m.1.1,vI m.1.2.1,vI m.1.2.2.1,vB m.1.2.2.2.1,vB m.1.2.2.2.2.1,vL C m.1.2.2.2.2.2.1 D,vL E m.1.2.2.2.2.2.2 F],[],rfl,pc_mk7 ((jD.grown b5 e1 nb).wide (fun _ h=>(.inl h))) ((jE.grown b5 e2 nb).wide (fun _ h=>(.inr h))),rfl⟩) (show 1≤maxLen by decide) (fun h=>noteq ax (f0 _ h));have e4:∀ k,d8 k→(fun k=>P k∨Q k) k:=fun k h=>by rw[e]at h;exact h
        clear e;have jP:Lo r (ro O):=loo ax fZ.size;have fs:r.heap.size≤q:=bR M eB.size;have ll:∀ g,aJ (ro O)=some g→¬ P g:=fun g e hx=>nl (ci ax g e) (e1 _ hx);have lm:∀ g,aJ (ro O)=some g→¬ Q g:=fun g e hx=>nl (ci ax g e) (e2 _ hx);refine aa<|bi [0,2,7,28,29,30,32,34] (σ':=[(0,bp c),(2,bp q),(7,bp y),(28,bp c),(29,vI j.1),(30,vI j.2.1),(32,vB z.1),(34,vL (ro O) ([Pc.of m.1]:List Pc) 1)]) kr<|al ?_;exact h9 _ _ ⟨y,O,d8,rfl,(ae fZ b5 nb),(nt jC b5.size),(eZ.grown b5 nb),(e0.grown b5 nb),(e3.grown b5 nb),ic,jO,jM,jP,jN,jF,(apG (p:=c) ax eZ (fun h=>(e4 _ h).elim (xq H s w) (xq I s w))),jG,(apG (p:=q) ax e0 (fun h=>(e4 _ h).elim (apE dD (xlo fs s) L.lt) (apE dE (xlo fs s) L.lt))),jH,jI,(apG (p:=y) ax e3 (fun h=>(e4 _ h).elim jJ jK)),(apD ax eZ),(apD ax e0),(apD ax e3)⟩
       refine gv_shareA (fun σ c0=>σ=[(0,bp c),(2,bp q),(28,bp c),(29,vI j.1),(30,vI j.2.1),(32,vB z.1),(33,.agg (bj m.1 C D E F))]∧r.grownBy c0 (some c)∧Sz dC c0∧a9 c0 c 117 (cF z.2)∧a9 c0 q 25 dp∧Rd bK c0 P C D m.1.2.2.2.2.2.1∧(∀ k,P k→k<c0.heap.size)∧Rd pcE c0 Q E F m.1.2.2.2.2.2.2∧(∀ k,Q k→k<c0.heap.size)) (bA 11 [0,1,2,3,4,5]) 5 ?_ fun ie=>?_
       ·rintro σ c0 ⟨rfl,el,f1,dM,dY,f2,dN,f3,dO⟩;refine gv_alt [(6,bA 11 [0,1,2,3,4,5,6]),(9,bA 11 [0,1,2,3,4,5,9])] 4 kr kr ⟨?_,?_,trivial⟩
        ·refine dk (fun b=>.slice (ro b) 1 1) (bj m.1 C D E F) 25 cl rfl rfl kr kr ?_;intro o ig dy jQ a7 ln;refine ⟨(fun _=>trivial),?_⟩;obtain ⟨d9,e⟩:∃ X:Nat→Prop,X=(fun k=>P k∨Q k):=⟨_,rfl⟩;have f4:∀ k,d9 k→k<c0.heap.size:=fun k h=>by rw[e]at h;exact (h).elim (fun h=>dN k h) (fun h=>dO k h)
         have jR:∀ k,d9 k→k<ig.heap.size:=fun k h=>bV (f4 k h) dy.size;have jS:∀ k,d9 k→X0 k∨r.heap.size≤k:=fun k h=>by rw[e]at h;exact (h).elim (fun h=>H k h) (fun h=>I k h)
         have jT:ay pcE 25 ig d9 (ro o) 1 ([Pc.of m.1]:List Pc):=bS jQ (by rw[e];exact ⟨[vI m.1.1,vI m.1.2.1,vI m.1.2.2.1,vB m.1.2.2.2.1,vB m.1.2.2.2.2.1,vL C m.1.2.2.2.2.2.1 D,vL E m.1.2.2.2.2.2.2 F],[],rfl,pc_mk7 ((f2.grown dy dN nb).wide (fun _ h=>(.inl h))) ((f3.grown dy dO nb).wide (fun _ h=>(.inr h))),rfl⟩) (show 1≤maxLen by decide) (fun h=>noteq a7 (f4 _ h));have f5:∀ k,d9 k→(fun k=>P k∨Q k) k:=fun k h=>by rw[e]at h;exact h
         clear e;have jU:Lo r (ro o):=loo a7 el.size;have ft:r.heap.size≤q:=bR M eB.size;have lo:∀ g,aJ (ro o)=some g→¬ P g:=fun g e hx=>nl (ci a7 g e) (dN _ hx);have lp:∀ g,aJ (ro o)=some g→¬ Q g:=fun g e hx=>nl (ci a7 g e) (dO _ hx);refine aa<|bi [0,2,28,29,30,32,34] (σ':=[(0,bp c),(2,bp q),(28,bp c),(29,vI j.1),(30,vI j.2.1),(32,vB z.1),(34,vL (ro o) ([Pc.of m.1]:List Pc) 1)]) kr<|al ?_;exact h5 _ _ ⟨o,d9,rfl,(ae el dy nb),(nt f1 dy.size),(dM.grown dy nb),(dY.grown dy nb),jT,jR,jU,jS,(apG (p:=c) a7 dM (fun h=>(f5 _ h).elim (xq H s w) (xq I s w))),(apG (p:=q) a7 dY (fun h=>(f5 _ h).elim (apE dD (xlo ft s) L.lt) (apE dE (xlo ft s) L.lt))),(apD a7 dM),(apD a7 dY)⟩
        ·refine dk bp dp 25 cl rfl rfl kr kr ?_;intro y lS b7 jV c4 lq;refine ⟨(fun _=>trivial),?_⟩;refine aa<|bi [0,2,7,28,29,30,32,33] (σ':=[(0,bp c),(2,bp q),(7,bp y),(28,bp c),(29,vI j.1),(30,vI j.2.1),(32,vB z.1),(33,.agg (bj m.1 C D E F))]) kr<|al ?_;have ih:r.heap.size≤y:=bR c4 el.size;have f6:=bV ((b9 dY) _ rfl) ((aZ c4) _ rfl);exact fD _ _ ⟨y,rfl,(ae el b7 nb),(nt f1 b7.size),(dM.grown b7 nb),(dY.grown b7 nb),(f2.grown b7 dN nb),(aF dN b7.size),(f3.grown b7 dO nb),(aF dO b7.size),jV,ih,(cH c4 dM),Nat.ne_of_lt f6,(apH c4 dM),ng f6,(apF c4 dN),(apF c4 dO)⟩
       refine gv_shareA (fun σ b0=>∃ (T:Nat),σ=[(0,bp c),(2,bp q),(3,bp ah),(7,bp T),(28,bp c),(29,vI j.1),(30,vI j.2.1),(32,vB z.1)]∧r.grownBy b0 (some c)∧Sz dC b0∧a9 b0 c 117 (cF z.2)∧a9 b0 q 25 dp∧Rd bK b0 P C D m.1.2.2.2.2.2.1∧(∀ k,P k→k<b0.heap.size)∧Rd pcE b0 Q E F m.1.2.2.2.2.2.2∧(∀ k,Q k→k<b0.heap.size)∧a9 b0 ah 25 (bj m.1 C D E F)∧a9 b0 T 25 dp∧r.heap.size≤T∧(¬ (· =T) c)∧(¬ (· =T) q)∧(¬ (· =T) ah)∧(¬ (· =c) T)∧(¬ (· =q) T)∧(¬ P T)∧(¬ Q T)∧(¬ (· =ah) T)) (bA 11 [0,1,2,3,4,9]) 5 ?_ fun ii=>?_
       ·rintro σ b0 ⟨T,rfl,jW,jX,jY,jZ,j0,j1,j2,j3,j4,j5,ij,j6,j7,lr,j8,j9,ka,kb,ls⟩;refine gv_alt [(5,bA 11 [0,1,2,3,4,5,9])] 4 kr kr ⟨?_,trivial⟩;refine gv_loadBox (t:=25) (b:=ah) (t':=25) (fr:=(0,0)) (bj m.1 C D E F) [] (fun _=>trivial) rfl rfl rfl kr kr kr kr (inwF j4) rfl ?_;refine aa<|bi [0,2,7,28,29,30,32,33] (σ':=[(0,bp c),(2,bp q),(7,bp T),(28,bp c),(29,vI j.1),(30,vI j.2.1),(32,vB z.1),(33,.agg (bj m.1 C D E F))]) kr<|al ?_;exact fD _ _ ⟨T,rfl,jW,jX,jY,jZ,j0,j1,j2,j3,j5,ij,j6,j7,j8,j9,ka,kb⟩
       refine gv_shareA (fun σ dz=>∃ (U:Nat),∃ (G:Nat),∃ (dI:Nat→Prop),σ=[(0,bp c),(2,bp q),(7,bp U),(28,bp c),(29,vI j.1),(30,vI j.2.1),(31,bp c),(34,vL (ro G) ([Pc.of m.1]:List Pc) 1)]∧r.grownBy dz (some c)∧Sz dC dz∧a9 dz c 117 (cF j.2.2.2)∧a9 dz q 25 dp∧a9 dz U 25 dp∧r.heap.size≤U∧ay pcE 25 dz dI (ro G) 1 ([Pc.of m.1]:List Pc)∧(∀ k,dI k→k<dz.heap.size)∧(Lo r (ro G))∧(∀ k,dI k→X0 k∨r.heap.size≤k)∧(¬ (fun k=>aJ (ro G)=some k∨dI k) c)∧(¬ (· =U) c)∧(¬ (fun k=>aJ (ro G)=some k∨dI k) q)∧(¬ (· =U) q)∧(∀ g,aJ (ro G)=some g→¬ (· =c) g)∧(∀ g,aJ (ro G)=some g→¬ (· =q) g)∧(∀ g,aJ (ro G)=some g→¬ (· =U) g)∧(¬ (· =c) U)∧(¬ (· =q) U)∧(¬ (fun k=>aJ (ro G)=some k∨dI k) U)) (bA 11 [0,1,2,3,5,6,9]) 4 ?_ fun ik=>?_
       ·rintro σ dz ⟨U,G,dI,rfl,kc,kd,ke,kf,kg,il,kh,f7,im,ki,f8,f9,kj,kk,kl,km,kn,ko,kp,kq⟩;refine gv_alt [(4,bA 11 [0,1,2,3,4,5,6,9])] 3 kr kr ⟨?_,trivial⟩;refine clq bW (aS ak c j.2.2.2 (bb [63]) dz ke z d7) ?_;rintro lT lU ⟨dP,rfl,ks⟩;refine ⟨(fun _=>trivial),?_⟩;refine aa<|bi [0,2,7,28,29,30,32,34] (σ':=[(0,bp c),(2,bp q),(7,bp U),(28,bp c),(29,vI j.1),(30,vI j.2.1),(32,vB z.1),(34,vL (ro G) ([Pc.of m.1]:List Pc) 1)]) kr<|al ?_;exact h9 _ _ ⟨U,G,dI,rfl,(ae kc dP bh),(nt kd dP.size),ks,(kf.grown dP (ai (cH M be))),(kg.grown dP (ai f9)),il,(kh.grown dP f7 (ct (ai f8))),(aF f7 dP.size),im,ki,f9,f8,kk,kj,ko,kp,kq,kl,km,kn⟩
       refine gv_shareA (fun σ bd=>∃ (R:Nat),σ=[(0,bp c),(2,bp q),(7,bp R),(28,bp c),(29,vI j.1),(30,vI j.2.1),(31,bp c),(33,.agg (bj m.1 C D E F))]∧r.grownBy bd (some c)∧Sz dC bd∧a9 bd c 117 (cF j.2.2.2)∧a9 bd q 25 dp∧Rd bK bd P C D m.1.2.2.2.2.2.1∧(∀ k,P k→k<bd.heap.size)∧Rd pcE bd Q E F m.1.2.2.2.2.2.2∧(∀ k,Q k→k<bd.heap.size)∧a9 bd R 25 dp∧r.heap.size≤R∧(¬ (· =R) c)∧(¬ (· =R) q)∧(¬ (· =c) R)∧(¬ (· =q) R)∧(¬ P R)∧(¬ Q R)) (bA 11 [0,1,2,3,5,9]) 5 ?_ fun io=>?_
       ·rintro σ bd ⟨R,rfl,e5,ga,em,en,gb,dZ,gc,d0,eo,fu,e6,gd,ge,gf,gg,gh⟩;refine gv_alt [(4,bA 11 [0,1,2,3,4,5,9]),(6,bA 11 [0,1,2,3,5,6,9])] 4 kr kr ⟨?_,?_,trivial⟩
        ·refine clq bW (aS ak c j.2.2.2 (bb [63]) bd em z d7) ?_;rintro lV lW ⟨ca,rfl,kt⟩;refine ⟨(fun _=>trivial),?_⟩;refine aa<|bi [0,2,7,28,29,30,32,33] (σ':=[(0,bp c),(2,bp q),(7,bp R),(28,bp c),(29,vI j.1),(30,vI j.2.1),(32,vB z.1),(33,.agg (bj m.1 C D E F))]) kr<|al ?_;exact fD _ _ ⟨R,rfl,(ae e5 ca bh),(nt ga ca.size),kt,(en.grown ca (ai (cH M be))),(gb.grown ca dZ (ai (xq H s w))),(aF dZ ca.size),(gc.grown ca d0 (ai (xq I s w))),(aF d0 ca.size),(eo.grown ca (ai e6)),fu,e6,gd,ge,gf,gg,gh⟩
        ·refine dk (fun b=>.slice (ro b) 1 1) (bj m.1 C D E F) 25 cl rfl rfl kr kr ?_;intro ea ip cb ku a0 lu;refine ⟨(fun _=>trivial),?_⟩;obtain ⟨eb,e⟩:∃ X:Nat→Prop,X=(fun k=>P k∨Q k):=⟨_,rfl⟩;have gi:∀ k,eb k→k<bd.heap.size:=fun k h=>by rw[e]at h;exact (h).elim (fun h=>dZ k h) (fun h=>d0 k h)
         have kv:∀ k,eb k→k<ip.heap.size:=fun k h=>bV (gi k h) cb.size;have kw:∀ k,eb k→X0 k∨r.heap.size≤k:=fun k h=>by rw[e]at h;exact (h).elim (fun h=>H k h) (fun h=>I k h)
         have kx:ay pcE 25 ip eb (ro ea) 1 ([Pc.of m.1]:List Pc):=bS ku (by rw[e];exact ⟨[vI m.1.1,vI m.1.2.1,vI m.1.2.2.1,vB m.1.2.2.2.1,vB m.1.2.2.2.2.1,vL C m.1.2.2.2.2.2.1 D,vL E m.1.2.2.2.2.2.2 F],[],rfl,pc_mk7 ((gb.grown cb dZ nb).wide (fun _ h=>(.inl h))) ((gc.grown cb d0 nb).wide (fun _ h=>(.inr h))),rfl⟩) (show 1≤maxLen by decide) (fun h=>noteq a0 (gi _ h));have e7:∀ k,eb k→(fun k=>P k∨Q k) k:=fun k h=>by rw[e]at h;exact h
         clear e;have ky:Lo r (ro ea):=loo a0 e5.size;have fv:r.heap.size≤q:=bR M eB.size;have lv:∀ g,aJ (ro ea)=some g→¬ P g:=fun g e hx=>nl (ci a0 g e) (dZ _ hx);have lw:∀ g,aJ (ro ea)=some g→¬ Q g:=fun g e hx=>nl (ci a0 g e) (d0 _ hx);refine aa<|bi [0,2,7,28,29,30,31,34] (σ':=[(0,bp c),(2,bp q),(7,bp R),(28,bp c),(29,vI j.1),(30,vI j.2.1),(31,bp c),(34,vL (ro ea) ([Pc.of m.1]:List Pc) 1)]) kr<|al ?_;exact ik _ _ ⟨R,ea,eb,rfl,(ae e5 cb nb),(nt ga cb.size),(em.grown cb nb),(en.grown cb nb),(eo.grown cb nb),fu,kx,kv,ky,kw,(apG (p:=c) a0 em (fun h=>(e7 _ h).elim (xq H s w) (xq I s w))),e6,(apG (p:=q) a0 en (fun h=>(e7 _ h).elim (apE dD (xlo fv s) L.lt) (apE dE (xlo fv s) L.lt))),gd,(apD a0 em),(apD a0 en),(apD a0 eo),ge,gf,(apG (p:=R) a0 eo (fun h=>(e7 _ h).elim gg gh))⟩
       refine aN [0,1,2,3] (bA 11 [0,1,2,3]) 7 kr kr<|pN 4 [28,29,30,31] [(28,bp c),(29,vI j.1),(30,vI j.2.1),(31,bp c)]<|aa<|al<|gv_alt [(4,bA 11 [0,1,2,3,4]),(5,bA 11 [0,1,2,3,5]),(9,bA 11 [0,1,2,3,9])] 6 kr kr ⟨?_,?_,?_,trivial⟩
       ·refine clq bW (aS ak c j.2.2.2 (bb [63]) dC (bn.grown l nb) z d7) ?_;rintro mb mc ⟨V,rfl,e8⟩;refine ⟨(fun _=>trivial),?_⟩;refine aa<|al<|gv_alt [(5,bA 11 [0,1,2,3,4,5]),(9,bA 11 [0,1,2,3,4,9])] 5 kr kr ⟨?_,?_,trivial⟩
        ·refine gv_loadBox (t:=25) (b:=ah) (t':=25) (fr:=(0,0)) (bj m.1 C D E F) [] (fun _=>trivial) rfl rfl rfl kr kr kr kr (inwF ((cv.grown l nb).grown V (ai d6))) rfl ?_;refine aa<|bi [0,2,28,29,30,32,33] (σ':=[(0,bp c),(2,bp q),(28,bp c),(29,vI j.1),(30,vI j.2.1),(32,vB z.1),(33,.agg (bj m.1 C D E F))]) kr<|al ?_;have iq:r.heap.size≤ah:=bR n (ae Z x bh).size;have ep:=cH M be;have gj:=aF A f.size;have gk:=aF gj i.size;have gl:=aF gk d.size;have gm:=aF gl l.size;have gn:=aF B f.size;have go:=aF gn i.size;have gp:=aF go d.size;have gq:=aF gp l.size;exact ie _ _ ⟨rfl,(ae (ae (ae (ae (ae (ae Z x bh) f nb) i (cr iq)) d bh) l nb) V bh),V.size,e8,((((((L.grown x (ai ep)).grown f nb).grown i (ai (ng (bV ((b9 (L.grown x (ai ep))) _ rfl) ((aZ n) _ rfl))))).grown d (ai ep)).grown l nb).grown V (ai ep)),(((((dr.grown f A nb).grown i gj (ai (apF n A))).grown d gk (ai (xq H s w))).grown l gl nb).grown V gm (ai (xq H s w))),(aF gm V.size),(((((ds.grown f B nb).grown i gn (ai (apF n B))).grown d go (ai (xq I s w))).grown l gp nb).grown V gq (ai (xq I s w))),(aF gq V.size)⟩
        ·refine dk bp dp 25 cl rfl rfl kr kr ?_;intro T lX bg kz c5 lx;refine ⟨(fun _=>trivial),?_⟩;refine aa<|bi [0,2,3,7,28,29,30,32] (σ':=[(0,bp c),(2,bp q),(3,bp ah),(7,bp T),(28,bp c),(29,vI j.1),(30,vI j.2.1),(32,vB z.1)]) kr<|al ?_;have gr:=ae Z x bh;have fw:r.heap.size≤ah:=bR n gr.size;have eq:=cH M be;have gs:=bV ((b9 (L.grown x (ai eq))) _ rfl) ((aZ n) _ rfl);have gt:=aF A f.size;have gu:=aF gt i.size;have gv:=aF gu d.size;have gw:=aF gv l.size;have e9:=aF gw V.size;have gx:=aF B f.size;have gy:=aF gx i.size;have gz:=aF gy d.size;have gA:=aF gz l.size;have fa:=aF gA V.size;have ir:r.heap.size≤T:=bR c5 (ae (ae (ae (ae (ae gr f nb) i (cr fw)) d bh) l nb) V bh).size;have fb:=bV ((b9 ((cv.grown l nb).grown V (ai d6))) _ rfl) ((aZ c5) _ rfl);have gB:=db gs fb;exact ii _ _ ⟨T,rfl,(ae (ae (ae (ae (ae (ae (ae Z x bh) f nb) i (cr fw)) d bh) l nb) V bh) bg nb),(nt V.size bg.size),(e8.grown bg nb),(((((((L.grown x (ai eq)).grown f nb).grown i (ai (ng gs))).grown d (ai eq)).grown l nb).grown V (ai eq)).grown bg nb),((((((dr.grown f A nb).grown i gt (ai (apF n A))).grown d gu (ai (xq H s w))).grown l gv nb).grown V gw (ai (xq H s w))).grown bg e9 nb),(aF e9 bg.size),((((((ds.grown f B nb).grown i gx (ai (apF n B))).grown d gy (ai (xq I s w))).grown l gz nb).grown V gA (ai (xq I s w))).grown bg fa nb),(aF fa bg.size),(((cv.grown l nb).grown V (ai d6)).grown bg nb),kz,ir,(cH c5 e8),Nat.ne_of_lt gB,Nat.ne_of_lt fb,(apH c5 e8),ng gB,(apF c5 e9),(apF c5 fa),ng fb⟩
       ·have d1:=cv.grown l nb;refine gv_loadBox (t:=25) (b:=ah) (t':=25) (fr:=(0,0)) (bj m.1 C D E F) [] (fun _=>trivial) rfl rfl rfl kr kr kr kr (inwF d1) rfl ?_;refine aa<|al<|gv_alt [(4,bA 11 [0,1,2,3,4,5]),(6,bA 11 [0,1,2,3,5,6]),(9,bA 11 [0,1,2,3,5,9])] 5 kr kr ⟨?_,?_,?_,trivial⟩
        ·refine clq bW (aS ak c j.2.2.2 (bb [63]) dC (bn.grown l nb) z d7) ?_;rintro lY lZ ⟨dA,rfl,kA⟩;refine ⟨(fun _=>trivial),?_⟩;refine aa<|bi [0,2,28,29,30,32,33] (σ':=[(0,bp c),(2,bp q),(28,bp c),(29,vI j.1),(30,vI j.2.1),(32,vB z.1),(33,.agg (bj m.1 C D E F))]) kr<|al ?_;have it:r.heap.size≤ah:=bR n (ae Z x bh).size;have er:=cH M be;have gC:=aF A f.size;have gD:=aF gC i.size;have gE:=aF gD d.size;have gF:=aF gE l.size;have gG:=aF B f.size;have gH:=aF gG i.size;have gI:=aF gH d.size;have gJ:=aF gI l.size;exact ie _ _ ⟨rfl,(ae (ae (ae (ae (ae (ae Z x bh) f nb) i (cr it)) d bh) l nb) dA bh),dA.size,kA,((((((L.grown x (ai er)).grown f nb).grown i (ai (ng (bV ((b9 (L.grown x (ai er))) _ rfl) ((aZ n) _ rfl))))).grown d (ai er)).grown l nb).grown dA (ai er)),(((((dr.grown f A nb).grown i gC (ai (apF n A))).grown d gD (ai (xq H s w))).grown l gE nb).grown dA gF (ai (xq H s w))),(aF gF dA.size),(((((ds.grown f B nb).grown i gG (ai (apF n B))).grown d gH (ai (xq I s w))).grown l gI nb).grown dA gJ (ai (xq I s w))),(aF gJ dA.size)⟩
        ·refine dk (fun b=>.slice (ro b) 1 1) (bj m.1 C D E F) 25 cl rfl rfl kr kr ?_;intro G fE a3 kB a1 ly;refine ⟨(fun _=>trivial),?_⟩;obtain ⟨c1,e⟩:∃ X:Nat→Prop,X=(fun k=>P k∨Q k):=⟨_,rfl⟩;have gK:=aF (aF (aF (aF A f.size) i.size) d.size) l.size;have gL:=aF (aF (aF (aF B f.size) i.size) d.size) l.size;have gM:∀ k,c1 k→k<dC.heap.size:=fun k h=>by rw[e]at h;exact (h).elim (fun h=>gK k h) (fun h=>gL k h)
         have dQ:∀ k,c1 k→k<fE.heap.size:=fun k h=>bV (gM k h) a3.size;have gN:∀ k,c1 k→X0 k∨r.heap.size≤k:=fun k h=>by rw[e]at h;exact (h).elim (fun h=>H k h) (fun h=>I k h)
         have gO:=apF n A;have gP:=aF A f.size;have gQ:=aF gP i.size;have gR:=(ab l a3);have gS:=apF n B;have gT:=aF B f.size;have gU:=aF gT i.size;have es:ay pcE 25 fE c1 (ro G) 1 ([Pc.of m.1]:List Pc):=bS kB (by rw[e];exact ⟨[vI m.1.1,vI m.1.2.1,vI m.1.2.2.1,vB m.1.2.2.2.1,vB m.1.2.2.2.2.1,vL C m.1.2.2.2.2.2.1 D,vL E m.1.2.2.2.2.2.2 F],[],rfl,pc_mk7 (((((dr.grown f A nb).grown i gP (ai gO)).grown d gQ (ai (xq H s w))).grown gR (aF gQ d.size) nb).wide (fun _ h=>(.inl h))) (((((ds.grown f B nb).grown i gT (ai gS)).grown d gU (ai (xq I s w))).grown gR (aF gU d.size) nb).wide (fun _ h=>(.inr h))),rfl⟩) (show 1≤maxLen by decide) (fun h=>noteq a1 (gM _ h));have fc:∀ k,c1 k→(fun k=>P k∨Q k) k:=fun k h=>by rw[e]at h;exact h
         clear e;have iu:r.heap.size≤ah:=bR n (ae Z x bh).size;have et:=ae (ae (ae (ae (ae Z x bh) f nb) i (cr iu)) d bh) l nb;have gV:Lo r (ro G):=loo a1 et.size;have d2:=bn.grown l nb;have gW:=apD a1 d2;have fd:=apG (p:=c) a1 d2 (fun h=>(fc _ h).elim (xq H s w) (xq I s w));have eu:=cH M be;have gX:=bV ((b9 (L.grown x (ai eu))) _ rfl) ((aZ n) _ rfl);have ev:=((((L.grown x (ai eu)).grown f nb).grown i (ai (ng gX))).grown d (ai eu)).grown l nb;have gY:=apD a1 ev;have fx:r.heap.size≤q:=bR M eB.size;have gZ:=apG (p:=q) a1 ev (fun h=>(fc _ h).elim (apE dD (xlo fx s) L.lt) (apE dE (xlo fx s) L.lt));have lA:∀ g,aJ (ro G)=some g→¬ P g:=fun g e hx=>nl (ci a1 g e) (gK _ hx);have lB:∀ g,aJ (ro G)=some g→¬ Q g:=fun g e hx=>nl (ci a1 g e) (gL _ hx);have lC:=apD a1 d1;have lD:=apG (p:=ah) a1 d1 (fun h=>(fc _ h).elim gO gS);refine aa<|al<|gv_alt [(4,bA 11 [0,1,2,3,4,5,6]),(9,bA 11 [0,1,2,3,5,6,9])] 4 kr kr ⟨?_,?_,trivial⟩
         ·refine clq bW (aS ak c j.2.2.2 (bb [63]) fE (d2.grown a3 nb) z d7) ?_;rintro l0 l1 ⟨d3,rfl,kC⟩;refine ⟨(fun _=>trivial),?_⟩;refine aa<|bi [0,2,28,29,30,32,34] (σ':=[(0,bp c),(2,bp q),(28,bp c),(29,vI j.1),(30,vI j.2.1),(32,vB z.1),(34,vL (ro G) ([Pc.of m.1]:List Pc) 1)]) kr<|al ?_;exact h5 _ _ ⟨G,c1,rfl,(ae (ae et a3 nb) d3 bh),(nt a3.size d3.size),kC,((ev.grown a3 nb).grown d3 (ai eu)),(es.grown d3 dQ (ct (ai fd))),(aF dQ d3.size),gV,gN,fd,gZ,gW,gY⟩
         ·refine dk bp dp 25 cl rfl rfl kr kr ?_;intro U l2 ew kD c7 lE;refine ⟨(fun _=>trivial),?_⟩;refine aa<|bi [0,2,7,28,29,30,31,34] (σ':=[(0,bp c),(2,bp q),(7,bp U),(28,bp c),(29,vI j.1),(30,vI j.2.1),(31,bp c),(34,vL (ro G) ([Pc.of m.1]:List Pc) 1)]) kr<|al ?_;have ff:=(ab a3 ew);have iv:r.heap.size≤U:=bR c7 (ae et a3 nb).size;have g0:=d2.grown a3 nb;have g1:=db gX (bV ((b9 (d1.grown a3 nb)) _ rfl) ((aZ c7) _ rfl));have kE:∀ g,aJ (ro G)=some g→¬ (· =U) g:=fun g e hx=>nl ((aZ c7) _ hx) ((fun k (hk:aJ (ro G)=some k∨c1 k)=>hk.elim (fun h=>es.lt k h) (fun h=>dQ k h)) g (.inl e));have kF:¬ (fun k=>aJ (ro G)=some k∨c1 k) U:=fun hx=>nl ((aZ c7) _ rfl) ((fun k (hk:aJ (ro G)=some k∨c1 k)=>hk.elim (fun h=>es.lt k h) (fun h=>dQ k h)) _ hx);exact ik _ _ ⟨U,G,c1,rfl,(ae et ff nb),(nt a3.size ew.size),(d2.grown ff nb),(ev.grown ff nb),kD,iv,(es.grown ew dQ nb),(aF dQ ew.size),gV,gN,fd,(cH c7 g0),gZ,Nat.ne_of_lt g1,gW,gY,kE,(apH c7 g0),ng g1,kF⟩
        ·refine dk bp dp 25 cl rfl rfl kr kr ?_;intro R l3 g2 kG c8 lF;refine ⟨(fun _=>trivial),?_⟩;refine aa<|bi [0,2,7,28,29,30,31,33] (σ':=[(0,bp c),(2,bp q),(7,bp R),(28,bp c),(29,vI j.1),(30,vI j.2.1),(31,bp c),(33,.agg (bj m.1 C D E F))]) kr<|al ?_;have g3:=ae Z x bh;have fy:r.heap.size≤ah:=bR n g3.size;have dB:=(ab l g2);have fg:=cH M be;have g4:=bV ((b9 (L.grown x (ai fg))) _ rfl) ((aZ n) _ rfl);have g5:=aF A f.size;have g6:=aF g5 i.size;have fh:=aF g6 d.size;have g7:=aF B f.size;have g8:=aF g7 i.size;have fi:=aF g8 d.size;have iw:r.heap.size≤R:=bR c8 (ae (ae (ae (ae g3 f nb) i (cr fy)) d bh) l nb).size;have g9:=bn.grown l nb;have ha:=db g4 (bV ((b9 d1) _ rfl) ((aZ c8) _ rfl));exact io _ _ ⟨R,rfl,(ae (ae (ae (ae (ae Z x bh) f nb) i (cr fy)) d bh) dB nb),g2.size,(bn.grown dB nb),(((((L.grown x (ai fg)).grown f nb).grown i (ai (ng g4))).grown d (ai fg)).grown dB nb),((((dr.grown f A nb).grown i g5 (ai (apF n A))).grown d g6 (ai (xq H s w))).grown dB fh nb),(aF fh dB.size),((((ds.grown f B nb).grown i g7 (ai (apF n B))).grown d g8 (ai (xq I s w))).grown dB fi nb),(aF fi dB.size),kG,iw,(cH c8 g9),Nat.ne_of_lt ha,(apH c8 g9),ng ha,(apF c8 (aF fh l.size)),(apF c8 (aF fi l.size))⟩
       ·refine dk bp dp 25 cl rfl rfl kr kr ?_;intro ec k0 ex hb S lG;refine ⟨(fun _=>trivial),?_⟩;refine aa<|al<|gv_alt [(4,bA 11 [0,1,2,3,4,9]),(5,bA 11 [0,1,2,3,5,9])] 5 kr kr ⟨?_,?_,trivial⟩
        ·have cc:=(ab l ex);refine clq bW (aS ak c j.2.2.2 (bb [63]) k0 (bn.grown cc nb) z d7) ?_;rintro l4 l5 ⟨bl,rfl,kH⟩;refine ⟨(fun _=>trivial),?_⟩;refine aa<|bi [0,2,3,7,28,29,30,32] (σ':=[(0,bp c),(2,bp q),(3,bp ah),(7,bp ec),(28,bp c),(29,vI j.1),(30,vI j.2.1),(32,vB z.1)]) kr<|al ?_;have hc:=ae Z x bh;have fz:r.heap.size≤ah:=bR n hc.size;have ey:=cH M be;have he:=bV ((b9 (L.grown x (ai ey))) _ rfl) ((aZ n) _ rfl);have hf:=aF A f.size;have hg:=aF hf i.size;have fj:=aF hg d.size;have hh:=aF fj cc.size;have hi:=aF B f.size;have hj:=aF hi i.size;have fk:=aF hj d.size;have hl:=aF fk cc.size;have hm:=bn.grown l nb;have hn:=cH S hm;have ix:r.heap.size≤ec:=bR S (ae (ae (ae (ae hc f nb) i (cr fz)) d bh) l nb).size;have fl:=bV ((b9 (cv.grown l nb)) _ rfl) ((aZ S) _ rfl);have ho:=db he fl;exact ii _ _ ⟨ec,rfl,(ae (ae (ae (ae (ae (ae Z x bh) f nb) i (cr fz)) d bh) cc nb) bl bh),(nt ex.size bl.size),kH,((((((L.grown x (ai ey)).grown f nb).grown i (ai (ng he))).grown d (ai ey)).grown cc nb).grown bl (ai ey)),(((((dr.grown f A nb).grown i hf (ai (apF n A))).grown d hg (ai (xq H s w))).grown cc fj nb).grown bl hh (ai (xq H s w))),(aF hh bl.size),(((((ds.grown f B nb).grown i hi (ai (apF n B))).grown d hj (ai (xq I s w))).grown cc fk nb).grown bl hl (ai (xq I s w))),(aF hl bl.size),((cv.grown cc nb).grown bl (ai d6)),(hb.grown bl (ai hn)),ix,hn,Nat.ne_of_lt ho,Nat.ne_of_lt fl,(apH S hm),ng ho,(apF S (aF fj l.size)),(apF S (aF fk l.size)),ng fl⟩
        ·have ch:=(ab l ex);refine gv_loadBox (t:=25) (b:=ah) (t':=25) (fr:=(0,0)) (bj m.1 C D E F) [] (fun _=>trivial) rfl rfl rfl kr kr kr kr (inwF (cv.grown ch nb)) rfl ?_;refine aa<|bi [0,2,7,28,29,30,31,33] (σ':=[(0,bp c),(2,bp q),(7,bp ec),(28,bp c),(29,vI j.1),(30,vI j.2.1),(31,bp c),(33,.agg (bj m.1 C D E F))]) kr<|al ?_;have hp:=ae Z x bh;have fA:r.heap.size≤ah:=bR n hp.size;have fm:=cH M be;have hq:=bV ((b9 (L.grown x (ai fm))) _ rfl) ((aZ n) _ rfl);have hr:=aF A f.size;have ht:=aF hr i.size;have fn:=aF ht d.size;have hv:=aF B f.size;have hw:=aF hv i.size;have fo:=aF hw d.size;have iy:r.heap.size≤ec:=bR S (ae (ae (ae (ae hp f nb) i (cr fA)) d bh) l nb).size;have hy:=bn.grown l nb;have hz:=db hq (bV ((b9 (cv.grown l nb)) _ rfl) ((aZ S) _ rfl));exact io _ _ ⟨ec,rfl,(ae (ae (ae (ae (ae Z x bh) f nb) i (cr fA)) d bh) ch nb),ex.size,(bn.grown ch nb),(((((L.grown x (ai fm)).grown f nb).grown i (ai (ng hq))).grown d (ai fm)).grown ch nb),((((dr.grown f A nb).grown i hr (ai (apF n A))).grown d ht (ai (xq H s w))).grown ch fn nb),(aF fn ch.size),((((ds.grown f B nb).grown i hv (ai (apF n B))).grown d hw (ai (xq I s w))).grown ch fo nb),(aF fo ch.size),hb,iy,(cH S hy),Nat.ne_of_lt hz,(apH S hy),ng hz,(apF S (aF fn l.size)),(apF S (aF fo l.size))⟩
      ·rintro a dF ⟨eG,eH,k1,eI,eJ,k2,b2,kI,kJ,kK,hA,kL,kM,hB,kN,kO,lH,kP,lI,lJ,hC,kQ,kR,lb,hd,hs,aq⟩;refine aT ?_ hd hs aq;clear kJ eM hT hS hR cv d6 hK bn d hJ kY fB i kX n hI f I B H A eC dE ds dD dr x Z kV k7 L hH;refine aM<|aP<|p1 37 (bp c)<|aj W ?_;intro k3 kS W;refine au kr rfl kr enters106 (cN ak c dU.1 (bb [42,43,63,123]) dF hC k3 kS) ?_;rintro l6 l7 ⟨ck,rfl⟩;refine aa<|bH W (fun kT W=>?_) (fun kT W=>?_)
       ·cases W
       ·refine aD<|aP<|dd 25 b2 (bj dU.2 eG eH eI eJ) (bN (kR.grown ck nb))<|aC 25 0 (.agg (bj dU.2 eG eH eI eJ)) (bj dU.2 eG eH eI eJ) (kQ.grown ck nb) kr kr kr ?_;intro k4 dR kU lK;refine aa<|am ?_
        obtain rfl:=sj W;refine av (ap [.agg (bj dU.2 eG eH eI eJ)] rfl ⟨⟨⟨q,0,none⟩,kr,run_loadVar_row k4 q _ 25 _ _ _ kU bL rfl kr⟩,trivial⟩ ?_);have iz:r.heap.size≤q:=bR M eB.size;have hD:=aF hA ck.size;have hE:=aF hB ck.size;exact ⟨(ae (ae kI ck nb) dR (cr iz)),eG,eH,k1,eI,eJ,k2,rfl,((kK.grown ck hA nb).grown dR hD (ai kO)),sxq (aF hD dR.size) kL,((kM.grown ck hB nb).grown dR hE (ai kP)),sxq (aF hE dR.size) kN,((hC.grown ck nb).grown dR (ai (apH M be)))⟩
set_option maxHeartbeats 4000000 in
set_option maxRecDepth 100000 in
theorem regex_parser_atom_step (ak:Nat) (o:gC56 ak) (A:gC83 ak) (B:gC107 ak) (D:gC127 ak) (g:gC150 ak) (b:Nat) (b4:cY) (j:World) (l:Nat→Prop) (m:∀ k,l k→k<j.heap.size∧k≠b) (C:a9 j b 117 (cF b4)) (dL:Rd bE j l (ro 0) 256 bZ) (dM:Rd (prE (iE .u8) (iE .u8)) j l (ro 1) 16 cD) (r0:cu × cY) (a:regex_parser_atom (ak+1) b4=some r0):
    Cs 127 [bp b] j (Ret fun v w'=>j.grownBy w' (some b)∧∃ (bx:bm) (bD:Nat),∃ (a1:Nat→Prop),∃ (a2:bm) (a3:Nat),∃ (a4:Nat→Prop),v=tup [.agg (bj r0.1 bx bD a2 a3)]∧Rd bK w' a1 bx bD r0.1.2.2.2.2.2.1∧(Sxb a1 w' l j)∧Rd pcE w' a4 a2 a3 r0.1.2.2.2.2.2.2∧(Sxb a4 w' l j)∧a9 w' b 117 (cF r0.2)):=by
 have a5:j.grownBy j (some b):=cL _ _;rw[regex_parser_atom.eq_2]at a;refine aK Tryz.func127 rfl Tryz.ntmps127 kr ?_;refine bO [(0,bp b)] ?_;have et:=C.lt;refine aP<|az bp dp 25 kr kr ?_
 intro n w2 b7 a6 p eE;refine cz<|aR<|aP<|p1 4 (bp b)<|aj a ?_;intro r7 ek a;refine au kr rfl kr bW (aS ak b b4 (bb [40,63,58]) w2 (C.grown b7 nb) r7 ek) ?_;rintro eF el ⟨q,rfl,dP⟩;refine p1 3 (vB r7.1)<|aa<|bH a (fun dQ a=>?_) (fun dQ a=>?_)
 ·cases a
 ·refine aP<|p1 10 (bp b)<|aj a ?_;intro ca dR a;refine au kr rfl kr bW (aS ak b r7.2 (bb [40,63,61]) el dP ca dR) ?_;rintro eG em ⟨r,rfl,dS⟩;refine p1 9 (vB ca.1)<|aa<|bH a (fun dT a=>?_) (fun dT a=>?_)
  ·cases a
  ·refine aP<|p1 16 (bp b)<|aj a ?_;intro cb dU a;refine au kr rfl kr bW (aS ak b ca.2 (bb [40,63,33]) em dS cb dU) ?_;rintro eH en ⟨s,rfl,dV⟩;refine p1 15 (vB cb.1)<|aa<|bH a (fun dW a=>?_) (fun dW a=>?_)
   ·cases a
   ·refine aP<|p1 22 (bp b)<|aj a ?_;intro cc dX a;refine au kr rfl kr bW (aS ak b cb.2 (bb [40,63]) en dV cc dX) ?_;rintro eI eo ⟨t,rfl,dY⟩;refine p1 21 (vB cc.1)<|aa<|bH a (fun dZ a=>?_) (fun dZ a=>?_)
    ·cases a
    ·refine aP<|p1 27 (bp b)<|bO [(0,bp b),(2,bp n),(27,bp b)]<|aj a ?_;intro f d0 a;refine au kr rfl kr bW (aS ak b cc.2 (bb [40]) eo dY f d0) ?_;rintro eJ ep ⟨u,rfl,X⟩;refine p1 26 (vB f.1)<|aa<|bH a (fun d1 a=>?_) (fun d1 a=>?_)
     ·refine aP<|pN 3 [29,30,31] [(29,bp b),(31,pt b 2)]<|bt 3 X 2 rfl<|pN 3 [33,34,35] [(33,vI (wI (f.2.2.2.1+1))),(35,pt b 2)]<|aC 3 2 (vI (wI (f.2.2.2.1+1))) #[vS f.2.1,vI f.2.2.1,vI (wI (f.2.2.2.1+1)),vB f.2.2.2.2.1,vB f.2.2.2.2.2] X kr kr kr ?_;intro ch Y ck ev;refine bF<|pN 4 [36,37,38,39] [(36,bp b),(39,pt b 2)]<|bt 3 ck 2 rfl<|p1 41 (.agg #[vI 7,vI (wI (f.2.2.2.1+1)),vI 0,vB false,vB false,vL none ([]:List bQ) 0,vL none ([]:List Pc) 0])<|aj a ?_;intro a7 d2 a;have w:=ae (ae (ae (ae (ae (ae (ae a5 b7 nb) q bh) r bh) s bh) t bh) u bh) Y bh;refine au kr rfl kr enters150 (g b (f.2.1,f.2.2.1,wI (f.2.2.2.1+1),f.2.2.2.2.1,f.2.2.2.2.2) none 0 none 0 (7,wI (f.2.2.2.1+1),0,false,false,([]:List bQ),([]:List Pc)) ch (fun k=>(fun _=>False) k∨l k) (fun k hk=>⟨(hk).elim (fun h=>h.elim) (fun h=>(lz1 m w.size) k h),fun e=>(hk).elim (fun h=>((h:False).elim)) (fun h=>(fun (hx:l b)=>(m _ hx).2 rfl) (e ▸ h))⟩) ck ((Rd.nil bK ch (fun _=>False) none 0).wide (fun k hk=>(.inl hk))) ((Rd.nil pcE ch (fun _=>False) none 0).wide (fun k hk=>(.inl hk))) ((rg dL w m).wide (fun k hk=>(.inr hk))) ((rg dM w m).wide (fun k hk=>(.inr hk))) a7 d2) ?_;rintro eK dN ⟨cs,a8,bd,be,bg,bl,bn,rfl,d3,Z,d4,ah,d5⟩;have cv:∀ k,be k→k<dN.heap.size:=fun k hk=>(Z k hk).1;have d6:∀ k,be k→l k∨j.heap.size≤k:=fun k hk=>(Z k hk).2.elim (fun h=>(h).elim (fun h=>h.elim) (fun h=>(fun k (hk:l k)=>Or.inl hk) k h)) (fun h=>.inr (Nat.le_trans w.size h));have cw:∀ k,bn k→k<dN.heap.size:=fun k hk=>(ah k hk).1;have d7:∀ k,bn k→l k∨j.heap.size≤k:=fun k hk=>(ah k hk).2.elim (fun h=>(h).elim (fun h=>h.elim) (fun h=>(fun k (hk:l k)=>Or.inl hk) k h)) (fun h=>.inr (Nat.le_trans w.size h));have d:=cH p C;refine aC 25 0 (.agg (bj a7.1 a8 bd bg bl)) (bj a7.1 a8 bd bg bl) (((((((a6.grown q (ai d)).grown r (ai d)).grown s (ai d)).grown t (ai d)).grown u (ai d)).grown Y (ai d)).grown cs (ai d)) kr kr kr ?_;intro eq x d8 ew;refine aa<|am ?_
      obtain rfl:=sj a;refine av (ap [.agg (bj a7.1 a8 bd bg bl)] rfl ⟨⟨⟨n,0,none⟩,kr,run_loadVar_row eq n _ 25 _ _ _ d8 bL rfl kr⟩,trivial⟩ ?_);have E:j.heap.size≤n:=bR p a5.size;have cx:=(((((a6.grown q (ai d)).grown r (ai d)).grown s (ai d)).grown t (ai d)).grown u (ai d)).grown Y (ai d);have d9:¬ be n:=fun h=>((Z _ h).2.elim (fun h=>(h).elim (fun h=>by cases h) (fun h=>((fun (hx:l n)=>nl E (m _ hx).1)) h)) (fun h=>nl h (cx.lt)));have ea:¬ bn n:=fun h=>((ah _ h).2.elim (fun h=>(h).elim (fun h=>by cases h) (fun h=>((fun (hx:l n)=>nl E (m _ hx).1)) h)) (fun h=>nl h (cx.lt)));exact ⟨(ae (ae w cs bh) x (cr E)),a8,bd,be,bg,bl,bn,rfl,(d3.grown x cv (ai d9)),sxq (aF cv x.size) d6,(d4.grown x cw (ai ea)),sxq (aF cw x.size) d7,(d5.grown x (ai (apH p C)))⟩
     ·refine aP<|p1 44 (bp b)<|aj a ?_;intro c0 eb a;refine au kr rfl kr bW (aS ak b f.2 (bb [91]) ep X c0 eb) ?_;rintro eL er ⟨an,rfl,ec⟩;refine p1 43 (vB c0.1)<|aa<|bH a (fun ed a=>?_) (fun ed a=>?_)
      ·cases a
      ·refine aP<|p1 49 (bp b)<|aj a ?_;intro c1 c5 a;refine au kr rfl kr bW (aS ak b c0.2 (bb [92]) er ec c1 c5) ?_;rintro ex ee ⟨F,rfl,c7⟩;refine p1 48 (vB c1.1)<|aa<|bH a (fun c8 a=>?_) (fun c8 a=>?_)
       ·cases a
       ·refine aP<|p1 54 (bp b)<|aj a ?_;intro ax c9 a;refine au kr rfl kr bW (aS ak b c1.2 (bb [46]) ee c7 ax c9) ?_;rintro ey ef ⟨G,rfl,dr⟩;refine p1 53 (vB ax.1)<|aa<|bH a (fun ds a=>?_) (fun ds a=>?_)
        ·cases a
        ·refine aP<|p1 60 (bp b)<|aj a ?_;intro H dt a;refine au kr rfl kr bW (aS ak b ax.2 (bb [94]) ef dr H dt) ?_;rintro ez eg ⟨I,rfl,du⟩;refine p1 59 (vB H.1)<|bO [(0,bp b),(2,bp n),(59,vB H.1)]<|aa<|bH a (fun dv a=>?_) (fun dv a=>?_)
         ·cases a
         ·refine aP<|p1 66 (bp b)<|aj a ?_;intro J dw a;refine au kr rfl kr bW (aS ak b H.2 (bb [36]) eg du J dw) ?_;rintro eA eh ⟨K,rfl,bs⟩;refine p1 65 (vB J.1)<|aa<|bH a (fun dx a=>?_) (fun dx a=>?_)
          ·cases a
          ·refine aP<|p1 72 (bp b)<|aj a ?_;intro c2 dy a;refine au kr rfl kr enters106 (cN ak b J.2 (bb [42,43,63,123,125,93]) eh bs c2 dy) ?_;rintro eB ei ⟨y,rfl⟩;refine p1 71 (vB c2)<|aa<|bH a (fun dz a=>?_) (fun dz a=>?_)
           ·cases a
           ·refine aD<|bM<|aP<|pN 2 [76,77] [(76,bp b),(77,bp b)]<|aj a ?_;intro L dA a;have z:=ae (ae (ae (ae (ae (ae (ae (ae (ae (ae (ae (ae a5 b7 nb) q bh) r bh) s bh) t bh) u bh) an bh) F bh) G bh) I bh) K bh) y nb;refine au kr rfl kr enters153 (regex_parser_next_ok ak b J.2 ei l (jg m z) (bs.grown y nb) (rg dL z m) (rg dM z m) L dA) ?_;rintro eC a0 ⟨M,rfl,dB⟩;refine p1 79 (.agg #[vI 1,vI L.1,vI 0,vB false,vB false,vL none ([]:List bQ) 0,vL none ([]:List Pc) 0])<|aj a ?_;intro N dC a;refine au kr rfl kr enters85 (b6 ak b L.2 none 0 none 0 (1,L.1,0,false,false,([]:List bQ),([]:List Pc)) a0 (fun _=>False) (fun k hk=>⟨hk.elim,fun e=>((hk:False).elim)⟩) dB (Rd.nil bK a0 (fun _=>False) none 0) (Rd.nil pcE a0 (fun _=>False) none 0) N dC) ?_;rintro eD c3 ⟨bA,O,P,Q,R,S,T,rfl,dD,U,dE,V,dF⟩;have b0:∀ k,Q k→k<c3.heap.size:=fun k hk=>(U k hk).1;have W:=ae z M bh;have dG:∀ k,Q k→l k∨j.heap.size≤k:=fun k hk=>(U k hk).2.elim (fun h=>h.elim) (fun h=>.inr (Nat.le_trans W.size h));have b2:∀ k,T k→k<c3.heap.size:=fun k hk=>(V k hk).1;have dH:∀ k,T k→l k∨j.heap.size≤k:=fun k hk=>(V k hk).2.elim (fun h=>h.elim) (fun h=>.inr (Nat.le_trans W.size h));have c:=cH p C;refine aC 25 0 (.agg (bj N.1 O P R S)) (bj N.1 O P R S) (((((((((((((a6.grown q (ai c)).grown r (ai c)).grown s (ai c)).grown t (ai c)).grown u (ai c)).grown an (ai c)).grown F (ai c)).grown G (ai c)).grown I (ai c)).grown K (ai c)).grown y nb).grown M (ai c)).grown bA (ai c)) kr kr kr ?_;intro ej i dI es;refine aa<|am ?_
            obtain rfl:=sj a;refine av (ap [.agg (bj N.1 O P R S)] rfl ⟨⟨⟨n,0,none⟩,kr,run_loadVar_row ej n _ 25 _ _ _ dI bL rfl kr⟩,trivial⟩ ?_);have c4:j.heap.size≤n:=bR p a5.size;have b3:=(((((((((((a6.grown q (ai c)).grown r (ai c)).grown s (ai c)).grown t (ai c)).grown u (ai c)).grown an (ai c)).grown F (ai c)).grown G (ai c)).grown I (ai c)).grown K (ai c)).grown y nb).grown M (ai c);have dJ:¬ Q n:=fun h=>((U _ h).2.elim (fun h=>by cases h) (fun h=>nl h (b3.lt)));have dK:¬ T n:=fun h=>((V _ h).2.elim (fun h=>by cases h) (fun h=>nl h (b3.lt)));exact ⟨(ae (ae W bA bh) i (cr c4)),O,P,Q,R,S,T,rfl,(dD.grown i b0 (ai dJ)),sxq (aF b0 i.size) dG,(dE.grown i b2 (ai dK)),sxq (aF b2 i.size) dH,(dF.grown i (ai (apH p C)))⟩
set_option maxHeartbeats 4000000 in
set_option maxRecDepth 100000 in
theorem regex_parser_inside_step (ak:Nat) (c:gC56 ak) (B:gC83 ak) (C:gC107 ak) (F:gC127 ak) (E:gC150 ak) (f:Nat) (bA:cY) (aG:bm) (aH:Nat) (y:bm) (z:Nat) (a:cu) (m:World) (l:Nat→Prop) (j:∀ k,l k→k<m.heap.size∧k≠f) (T:a9 m f 117 (cF bA)) (bv:Rd bK m l aG aH a.2.2.2.2.2.1) (dQ:Rd pcE m l y z a.2.2.2.2.2.2) (dR:Rd bE m l (ro 0) 256 bZ) (dS:Rd (prE (iE .u8) (iE .u8)) m l (ro 1) 16 cD) (r0:cu × cY) (t:regex_parser_inside (ak+1) bA a=some r0):
    Cs 150 [bp f,.agg (bj a aG aH y z)] m (Ret fun v w'=>m.grownBy w' (some f)∧∃ (bx:bm) (bD:Nat),∃ (a5:Nat→Prop),∃ (a6:bm) (a7:Nat),∃ (a8:Nat→Prop),v=tup [.agg (bj r0.1 bx bD a6 a7)]∧Rd bK w' a5 bx bD r0.1.2.2.2.2.2.1∧(Sxb a5 w' l m)∧Rd pcE w' a8 a6 a7 r0.1.2.2.2.2.2.2∧(Sxb a8 w' l m)∧a9 w' f 117 (cF r0.2)):=by
 have b2:m.grownBy m (some f):=cL _ _;rw[regex_parser_inside.eq_2]at t;refine aK Tryz.func150 rfl Tryz.ntmps150 kr ?_;refine bO [(0,bp f),(1,.agg (bj a aG aH y z))] ?_;have b3:=T.lt;refine aP<|az bp (bj a aG aH y z) 25 kr kr ?_
 intro b1 w2 b4 b5 Z d5;refine az bp dp 25 kr kr ?_;intro U w8 ca ah A dX;refine bF<|p1 5 (bp f)<|aj t ?_;intro i dG t;have cb:=(ab b4 ca);have u:=ae b2 cb nb;refine au kr rfl kr enters56 (c f bA w8 l (jg j u) (T.grown cb nb) (rg dR u j) (rg dS u j) i dG) ?_;rintro d6 cc ⟨an,dA,dB,V,dC,dD,W,rfl,dH,G,dI,H,ax⟩;have a0:∀ k,V k→k<cc.heap.size:=fun k hk=>(G k hk).1;have ch:∀ k,V k→l k∨m.heap.size≤k:=fun k hk=>(G k hk).2.elim (fun h=>(fun k (hk:l k)=>Or.inl hk) k h) (fun h=>.inr (Nat.le_trans u.size h));have a1:∀ k,W k→k<cc.heap.size:=fun k hk=>(H k hk).1;have ck:∀ k,W k→l k∨m.heap.size≤k:=fun k hk=>(H k hk).2.elim (fun h=>(fun k (hk:l k)=>Or.inl hk) k h) (fun h=>.inr (Nat.le_trans u.size h));refine az (fun b=>.slice (ro b) 1 1) (bj i.1 dA dB dC dD) 25 kr kr ?_;intro n dE o dJ d dY;obtain ⟨r,e⟩:∃ X:Nat→Prop,X=(fun k=>V k∨W k):=⟨_,rfl⟩;have cs:∀ k,r k→k<cc.heap.size:=fun k h=>by rw[e]at h;exact (h).elim (fun h=>a0 k h) (fun h=>a1 k h)
 have cv:∀ k,r k→k<dE.heap.size:=fun k h=>bV (cs k h) o.size;have cw:∀ k,r k→l k∨m.heap.size≤k:=fun k h=>by rw[e]at h;exact (h).elim (fun h=>ch k h) (fun h=>ck k h)
 have dK:ay pcE 25 dE r (ro n) 1 ([Pc.of i.1]:List Pc):=bS dJ (by rw[e];exact ⟨[vI i.1.1,vI i.1.2.1,vI i.1.2.2.1,vB i.1.2.2.2.1,vB i.1.2.2.2.2.1,vL dA i.1.2.2.2.2.2.1 dB,vL dC i.1.2.2.2.2.2.2 dD],[],rfl,pc_mk7 ((dH.grown o a0 nb).wide (fun _ h=>(.inl h))) ((dI.grown o a1 nb).wide (fun _ h=>(.inr h))),rfl⟩) (show 1≤maxLen by decide) (fun h=>noteq d (cs _ h));have a2:∀ k,r k→(fun k=>V k∨W k) k:=fun k h=>by rw[e]at h;exact h
 clear e;have cx:=ae u an bh;have c0:Lo m (ro n):=loo d cx.size;have dZ:=apD d ax;have c1:=apG (p:=f) d ax (fun h=>(a2 _ h).elim (xq ch j b3) (xq ck j b3));have c2:=cH Z T;have a3:=(b5.grown ca nb).grown an (ai c2);have d0:=apD d a3;have I:m.heap.size≤b1:=bR Z b2.size;have c3:=b5.grown ca nb;have c4:=T.grown b4 nb;have J:=cH A c4;have K:=ah.grown an (ai J);have d1:=apD d K;have s:m.heap.size≤U:=bR A (ae b2 b4 nb).size;have c5:=apG (p:=U) d K (fun h=>(a2 _ h).elim (apE G (xlo s j) ah.lt) (apE H (xlo s j) ah.lt));have d2:∀ g,aJ (ro n)=some g→¬ V g:=fun g e hx=>nl (ci d g e) (a0 _ hx);have d3:∀ g,aJ (ro n)=some g→¬ W g:=fun g e hx=>nl (ci d g e) (a1 _ hx);refine p1 8 (pt b1 6)<|aC 23 6 (vL (ro n) ([Pc.of i.1]:List Pc) 1) #[vI a.1,vI a.2.1,vI a.2.2.1,vB a.2.2.2.1,vB a.2.2.2.2.1,vL aG a.2.2.2.2.2.1 aH,vL (ro n) ([Pc.of i.1]:List Pc) 1] (a3.grown o nb) kr kr kr ?_;intro dT w dL d4;refine cz<|aP<|p1 9 (bp f)<|aj t ?_;intro bd dM t;refine au kr rfl kr bW (aS ak f i.2 (bb [41]) dT ((ax.grown o nb).grown w (ai (apH Z T))) bd dM) ?_;rintro d7 dU ⟨x,rfl,dN⟩;refine p1 11 (vB (!bd.1))<|aa<|de (b:=(!bd.1)) kr (fun a4=>?_) (fun a4=>?_)
 ·replace t:=ite_t a4 t;cases t
 ·replace t:=ite_f a4 t;refine aD<|aP<|p1 14 (bp f)<|dd 25 b1 #[vI a.1,vI a.2.1,vI a.2.2.1,vB a.2.2.2.1,vB a.2.2.2.2.1,vL aG a.2.2.2.2.2.1 aH,vL (ro n) ([Pc.of i.1]:List Pc) 1] (bN (dL.grown x (ai c2)))<|aj t ?_;intro be dO t;have D:=ae (ae (ae cx o nb) w (cr I)) x bh;have c7:=aF cv w.size;have c8:=(dK.grown w cv (ct (ai (apG (p:=b1) d a3 (fun h=>(a2 _ h).elim (apE G (xlo I j) c3.lt) (apE H (xlo I j) c3.lt)))))).grown x c7 (ct (ai c1));refine au kr rfl kr enters85 (b6 ak f bd.2 aG aH (ro n) 1 (a.1,a.2.1,a.2.2.1,a.2.2.2.1,a.2.2.2.2.1,a.2.2.2.2.2.1,([Pc.of i.1]:List Pc)) dU (fun k=>l k∨(fun k=>aJ (ro n)=some k∨r k) k) (fun k hk=>⟨(hk).elim (fun h=>(lz1 j D.size) k h) (fun h=>(fun k (hk:aJ (ro n)=some k∨r k)=>hk.elim (fun h=>c8.lt k h) (fun h=>(aF c7 x.size) k h)) k h),fun e=>(hk).elim (fun h=>(fun (hx:l f)=>(j _ hx).2 rfl) (e ▸ h)) (fun h=>c1 (e ▸ h))⟩) dN ((rg bv D j).wide (fun k hk=>(.inl hk))) ((c8.rd (Y:=fun k=>aJ (ro n)=some k∨r k) (fun _ h=>.inr h) (fun g e=>.inl e)).wide (fun k hk=>(.inr hk))) be dO) ?_;rintro d8 dF ⟨c9,L,M,N,O,P,Q,rfl,ds,R,dt,S,du⟩;have bg:∀ k,N k→k<dF.heap.size:=fun k hk=>(R k hk).1;have dv:∀ k,N k→l k∨m.heap.size≤k:=fun k hk=>(R k hk).2.elim (fun h=>(h).elim (fun h=>(fun k (hk:l k)=>Or.inl hk) k h) (fun h=>(fun k (hk:aJ (ro n)=some k∨r k)=>hk.elim (fun h=>Or.inr (c0 k h)) (fun h=>cw k h)) k h)) (fun h=>.inr (Nat.le_trans D.size h));have bl:∀ k,Q k→k<dF.heap.size:=fun k hk=>(S k hk).1;have dw:∀ k,Q k→l k∨m.heap.size≤k:=fun k hk=>(S k hk).2.elim (fun h=>(h).elim (fun h=>(fun k (hk:l k)=>Or.inl hk) k h) (fun h=>(fun k (hk:aJ (ro n)=some k∨r k)=>hk.elim (fun h=>Or.inr (c0 k h)) (fun h=>cw k h)) k h)) (fun h=>.inr (Nat.le_trans D.size h));have bn:=bV ((b9 b5) _ rfl) ((aZ A) _ rfl);refine aC 25 0 (.agg (bj be.1 L M O P)) (bj be.1 L M O P) ((((K.grown o nb).grown w (ai (Nat.ne_of_lt bn))).grown x (ai J)).grown c9 (ai J)) kr kr kr ?_;intro dP q dx dV;refine aa<|am ?_
  obtain rfl:=sj t;refine av (ap [.agg (bj be.1 L M O P)] rfl ⟨⟨⟨U,0,none⟩,kr,run_loadVar_row dP U _ 25 _ _ _ dx bL rfl kr⟩,trivial⟩ ?_);have bs:=((K.grown o nb).grown w (ai (Nat.ne_of_lt bn))).grown x (ai J);have dy:¬ N U:=fun h=>((R _ h).2.elim (fun h=>(h).elim (fun h=>((fun (hx:l U)=>nl s (j _ hx).1)) h) (fun h=>(c5) h)) (fun h=>nl h (bs.lt)));have dz:¬ Q U:=fun h=>((S _ h).2.elim (fun h=>(h).elim (fun h=>((fun (hx:l U)=>nl s (j _ hx).1)) h) (fun h=>(c5) h)) (fun h=>nl h (bs.lt)));exact ⟨(ae (ae D c9 bh) q (cr s)),L,M,N,O,P,Q,rfl,(ds.grown q bg (ai dy)),sxq (aF bg q.size) dv,(dt.grown q bl (ai dz)),sxq (aF bl q.size) dw,(du.grown q (ai (apH A c4)))⟩
theorem grp_regex_parser_alternatives_ok:∀ (ak:Nat),gC56 ak∧gC83 ak∧gC107 ak∧gC127 ak∧gC150 ak:=by
  intro ak
  induction ak with
  | zero=>refine ⟨?_,?_,?_,?_,?_⟩<;>first | (unfold gC56;intros;rename_i a;rw[regex_parser_alternatives.eq_1]at a;cases a) | (unfold gC83;intros;rename_i a;rw[regex_parser_sequence.eq_1]at a;cases a) | (unfold gC107;intros;rename_i a;rw[regex_parser_repeated.eq_1]at a;cases a) | (unfold gC127;intros;rename_i a;rw[regex_parser_atom.eq_1]at a;cases a) | (unfold gC150;intros;rename_i a;rw[regex_parser_inside.eq_1]at a;cases a)
  | succ ak ih=>obtain ⟨i0,i1,i2,i3,i4⟩:=ih;exact ⟨regex_parser_alternatives_step ak i0 i1 i2 i3 i4,regex_parser_sequence_step ak i0 i1 i2 i3 i4,regex_parser_repeated_step ak i0 i1 i2 i3 i4,regex_parser_atom_step ak i0 i1 i2 i3 i4,regex_parser_inside_step ak i0 i1 i2 i3 i4⟩

theorem regex_parser_alternatives_ok (ak:Nat):
    gC56 ak:=
  (grp_regex_parser_alternatives_ok ak).1

theorem regex_spell_ok (ak:Nat) (b:Int) (d:ByteArray) (e:World) (n:ByteArray) (c:regex_spell ak b d=some n):
    Cs 86 [vI b,vS d] e (G1 e [vS n]):=by
 have g:Bl e e:=Below.refl _ _;unfold regex_spell at c;refine aK Tryz.func86 rfl Tryz.ntmps86 kr ?_;refine bO [(0,vI b),(1,vS d)]<|aP<|pN 1 [4] []<|cz<|aR<|aP<|pL [5,6,7] 5 (vB (b==10))<|aa<|bH c (fun o c=>?_) (fun o c=>?_)
 ·refine aP<|p1 4 (vS (bb [92,110]))<|aa<|am ?_
  obtain rfl:=sj c;refine av (ap [vS (bb [92,110])] rfl ⟨kr,trivial⟩ ?_);exact ⟨ac g,rfl⟩
 ·refine aP<|pL [8,9,10] 8 (vB (b==9))<|aa<|bH c (fun p c=>?_) (fun p c=>?_)
  ·refine aP<|p1 4 (vS (bb [92,116]))<|aa<|am ?_
   obtain rfl:=sj c;refine av (ap [vS (bb [92,116])] rfl ⟨kr,trivial⟩ ?_);exact ⟨ac g,rfl⟩
  ·refine aP<|aj c ?_;intro t f c
   refine aX (J:=fun a k=>Bl e k∧Sz e k∧Qa a 28 [(0,vI b),(11,vB t)]) ?_ ?_
   ·refine pL [12,13,14] 14 (vB (decide (b<128)))<|cy 14 f (fun q f=>?_) (fun q f=>?_)
    ·refine pN 3 [15,16,17] [(15,vS d),(17,vU (wB (b)))]<|aj f ?_;intro r s f;refine au kr rfl kr enters109 (strings_IndexByte_ok ak d (wB (b)) e r s) ?_;rintro v w ⟨i,rfl⟩;refine pL [11,19,20] 11 (vB (decide (r≥0)))<|aa ?_;obtain rfl:=sj f;refine ad fun a hd hs aq=>?_;exact ⟨(bg g i nb),i.size,hd,hs,bc aq⟩
    ·refine pL [11,15,16,17,18,19,20] 11 (vB false)<|aa ?_;obtain rfl:=sj f;exact ad fun a hd hs aq=>⟨g,bX,hd,hs,bc aq⟩
   ·rintro a k ⟨h,u,hd,hs,aq⟩;refine aT ?_ hd hs aq;refine bH c (fun l c=>?_) (fun l c=>?_)
    ·refine aP<|pL [21,22] 22 (vR (wR (b)))<|gv_i2s (src:=21) (dst:=9) (kk:=.i32) (x:=(wR (b))) [] nofun rfl rfl rfl kr kr kr ba rfl ?_;refine aj c ?_;intro j m c;refine caq 9 m<|p1 4 (vS j)<|aa<|am ?_
     obtain rfl:=sj c;refine av (ap [vS j] rfl ⟨kr,trivial⟩ ?_);exact ⟨ac h,rfl⟩
    ·refine aD<|bM<|aP<|pL [25,26] 26 (vR (wR (b)))<|gv_i2s (src:=21) (dst:=9) (kk:=.i32) (x:=(wR (b))) [] nofun rfl rfl rfl kr kr kr ba rfl ?_;refine p1 4 (vS (Utf8.encode (wR (b))))<|aa<|am ?_
     obtain rfl:=sj c;refine av (ap [vS (Utf8.encode (wR (b)))] rfl ⟨kr,trivial⟩ ?_);exact ⟨ac h,rfl⟩

theorem regex_class_ok (ak:Nat) (af:bm) (ag:Nat) (e:bm) (f:Nat) (b:cu) (h:World) (P:Nat→Prop) (H:Lw P h) (aw:Rd bK h P af ag b.2.2.2.2.2.1) (a4:Rd pcE h P e f b.2.2.2.2.2.2) (r0:ByteArray) (o:regex_class ak b=some r0):
    Cs 87 [.agg (bj b af ag e f)] h (G1 h [vS r0]):=by
 have I:Bl h h:=Below.refl _ _;unfold regex_class at o;refine aK Tryz.func87 rfl Tryz.ntmps87 kr ?_;refine bO [(0,.agg (bj b af ag e f))]<|aP<|az bp (bj b af ag e f) 25 kr kr ?_
 intro E w2 K v bA b5;refine pN 1 [2] []<|bF<|p1 3 (vS (bb [91]))<|cz<|aP<|p1 6 (pt E 3)<|bt 4 v 3 rfl<|aa<|aj o ?_;intro j7 j o
 refine aE (J:=fun a u=>Bl h u∧Sz w2 u∧a9 u E 25 (bj b af ag e f)∧Qa a 36 [(1,bp E),(3,vS j7)]) ?_ ?_
 ·refine bH j (fun a6 j=>?_) (fun a6 j=>?_)
  ·refine aB<|p1 8 (vS (bb [91]))<|aj j ?_;intro a7 Q j;refine caq 9 Q<|p1 3 (vS a7)<|aa ?_;obtain rfl:=sj j;refine ad fun a hd hs aq=>?_;exact ⟨(bg I K nb),bX,v,hd,hs,bc aq⟩
  ·refine aD ?_;obtain rfl:=sj j;refine ad fun a hd hs aq=>?_;exact ⟨(bg I K nb),bX,v,hd,hs,bc aq⟩
 ·rintro a u ⟨R,b0,S,hd,hs,aq⟩;refine aT ?_ hd hs aq;refine aM<|aP<|p1 10 (pt E 5)<|bt 22 S 5 rfl<|pN 2 [12,13] [(12,vI (lz b.2.2.2.2.2.1)),(13,vI 0)]<|aa<|aj o ?_;intro L j o
  refine aE (J:=fun a w=>Bl h w∧Sz u w∧Qa a 36 [(3,vS L)]) ?_ ?_
  ·refine aR<|cf (A:=fun (c:ByteArray × Int) a s=>Bl h s∧Sz u s∧Qa a 36 [(3,vS c.1),(11,vL af b.2.2.2.2.2.1 ag),(12,vI (lz b.2.2.2.2.2.1)),(13,vI c.2)]) j ?_ ?_
   ·intro a hd hs aq;exact ⟨R,bX,hd,hs,bc aq⟩
   ·rintro c r2 i a8 a s ⟨d,x,hd,hs,aq⟩;refine aT ?_ hd hs aq;refine aP<|p1 14 (vB (decide (c.2<(lz b.2.2.2.2.2.1))))<|cz<|bH i (fun T i=>?_) (fun T i=>?_)
    ·refine aD<|aM<|aR<|aP<|aj i ?_;intro g y i
     refine cW .i64 2 (aw.below d H) y aO ?_;obtain ⟨_,⟨_,_,rfl,rfl,rfl⟩,U⟩:=aw.cellsK y;refine laq 37 (aL af ((c.2:Int).toNat*2)) (bP g) (bN (U s (fun k hk=>d.block k (H k hk)))) ?_;refine az bp #[vI 0,vI 0] 37 kr kr ?_;intro l b7 p V t b2;refine aC 37 0 (.agg (bP g)) (bP g) V kr kr kr ?_;intro bd q z b3;refine bF<|pN 2 [17,18] [(17,vS c.1),(18,bp l)]<|bt 3 z 0 rfl<|aj i ?_;intro be W i;refine au kr rfl kr enters86 (regex_spell_ok ak g.1 (bb [92,93,94,45,91]) bd be W) ?_;rintro ca M ⟨n,rfl⟩;refine aj i ?_;intro B X i;refine caq 9 X<|p1 3 (vS B)<|bF<|p1 22 (pt l 1) ?_
     have r:=z.grown n nb;refine bt 3 r 1 rfl<|p1 24 (bp l)<|bt 3 r 0 rfl<|p1 26 (vB (decide (g.2>g.1)))<|bO [(3,vS B),(5,bp l),(11,vL af b.2.2.2.2.2.1 ag),(12,vI (lz b.2.2.2.2.2.1)),(13,vI c.2),(26,vB (decide (g.2>g.1)))]<|aa<|aj i ?_;intro N m i
     refine aE (J:=fun a C=>Bl h C∧Sz M C∧Qa a 36 [(3,vS N),(11,vL af b.2.2.2.2.2.1 ag),(12,vI (lz b.2.2.2.2.2.1)),(13,vI c.2)]) ?_ ?_
     ·refine bH m (fun Y m=>?_) (fun Y m=>?_)
      ·refine aB<|pN 2 [27,28] [(27,vS B),(28,pt l 1)]<|bt 3 r 1 rfl<|aj m ?_;intro bl Z m;refine au kr rfl kr enters86 (regex_spell_ok ak g.2 (bb [92,93,94,45,91]) M bl Z) ?_;rintro cb cc ⟨D,rfl⟩;refine aj m ?_;intro ch ah m;refine caq 9 ah<|aj m ?_;intro bn an m;refine caq 9 an<|p1 3 (vS bn)<|aa ?_;obtain rfl:=sj m;refine ad fun a hd hs aq=>?_;have F:h.heap.size≤l:=bR t d.size;exact ⟨(bg (bg (bg d p nb) q (aU F)) (ab n D) nb),D.size,hd,hs,bc aq⟩
      ·refine aD ?_;obtain rfl:=sj m;refine ad fun a hd hs aq=>?_;have G:h.heap.size≤l:=bR t d.size;exact ⟨(bg (bg (bg d p nb) q (aU G)) n nb),bX,hd,hs,bc aq⟩
     ·rintro a C ⟨ax,a0,hd,hs,aq⟩;refine aT ?_ hd hs aq;have a1:=(nt (nt (nt (nt x p.size) q.size) n.size) a0);refine bM<|aB<|pL [13,33] 13 (vI (wI (c.2+1)))<|aa ?_;obtain rfl:=sj i;refine ad fun a hd hs aq=>?_;exact ⟨(N,wI (c.2+1)),rfl,ax,a1,hd,hs,bc aq⟩
    ·refine bI<|bU rfl ?_
     obtain rfl:=sj i;replace j:=congrArg some (a8 _ rfl);obtain rfl:=sj j;refine ad fun a hd hs aq=>?_;exact ⟨d,x,hd,hs,bc aq⟩
  ·rintro a w ⟨a2,b4,hd,hs,aq⟩;refine aT ?_ hd hs aq;refine aP<|p1 34 (vS L)<|aj o ?_;intro O a3 o;refine caq 9 a3<|p1 2 (vS O)<|aa<|am ?_
   obtain rfl:=sj o;refine av (ap [vS O] rfl ⟨kr,trivial⟩ ?_);exact ⟨ac a2,rfl⟩

theorem regex_pick_ok (ak:Nat) (c:Bool) (b:ByteArray) (a:ByteArray) (e:World) (g:ByteArray) (d:regex_pick ak c b a=some g):
    Cs 88 [vB c,vS b,vS a] e (G1 e [vS g]):=by
 have f:Bl e e:=Below.refl _ _;unfold regex_pick at d;refine aK Tryz.func88 rfl Tryz.ntmps88 kr ?_;refine bO [(0,vB c),(1,vS b),(2,vS a)]<|aP<|pN 1 [6] []<|cz<|aP<|p1 7 (vB c)<|aa<|bH d (fun h d=>?_) (fun h d=>?_)
 ·refine aP<|pL [6,8] 6 (vS a)<|aa<|am ?_
  obtain rfl:=sj d;refine av (ap [vS a] rfl ⟨kr,trivial⟩ ?_);exact ⟨ac f,rfl⟩
 ·refine aD<|aP<|pL [6,9] 6 (vS b)<|aa<|am ?_
  obtain rfl:=sj d;refine av (ap [vS b] rfl ⟨kr,trivial⟩ ?_);exact ⟨ac f,rfl⟩

theorem regex_times_ok (ak:Nat) (af:bm) (ag:Nat) (d:bm) (e:Nat) (c:cu) (h:World) (A:Nat→Prop) (y:Lw A h) (aw:Rd bK h A af ag c.2.2.2.2.2.1) (a3:Rd pcE h A d e c.2.2.2.2.2.2) (F:Rd (tabE 3 c6) h A (ro 3) 1 [vW 1]) (r0:ByteArray) (m:regex_times ak c=some r0):
    Cs 90 [.agg (bj c af ag d e)] h (G1 h [vS r0]):=by
 have a5:Bl h h:=Below.refl _ _;unfold regex_times at m;refine aK Tryz.func90 rfl Tryz.ntmps90 kr ?_;refine bO [(0,.agg (bj c af ag d e))]<|aP<|az bp (bj c af ag d e) 25 kr kr ?_
 intro f w2 a6 G b3 ca;refine pN 1 [2] []<|bF<|pN 1 [3] []<|cz<|aP<|p1 5 (pt f 1)<|bt 3 G 1 rfl<|aj m ?_;intro q a7 m;have z:=bg a5 a6 nb;refine au kr rfl kr enters91 (strconv_Itoa_ok ak c.2.1 w2 A (aF y z.size) (F.below z y) q a7) ?_;rintro cb a8 ⟨u,rfl⟩;refine p1 4 (vS q)<|aa<|aR<|aP<|aj m ?_;intro bd b m
 refine aX (J:=fun a n=>Bl h n∧Sz a8 n∧a9 n f 25 (bj c af ag d e)∧Qa a 64 [(1,bp f),(4,vS q),(16,vB bd)]) ?_ ?_
 ·refine p1 17 (pt f 2) ?_;have o:=G.grown u nb;refine bt 3 o 2 rfl<|pL [19,20] 20 (vB (c.2.2.1==(-1)))<|cy 20 b (fun K b=>?_) (fun K b=>?_)
  ·refine p1 21 (pt f 1)<|bt 3 o 1 rfl<|pL [16,23,24] 16 (vB (c.2.1==0))<|aa ?_;obtain rfl:=sj b;refine ad fun a hd hs aq=>?_;exact ⟨(bg z u nb),bX,o,hd,hs,bc aq⟩
  ·refine pL [16,21,22,23,24] 16 (vB false)<|aa ?_;obtain rfl:=sj b;refine ad fun a hd hs aq=>?_;exact ⟨(bg z u nb),bX,o,hd,hs,bc aq⟩
 ·rintro a n ⟨v,b4,j,hd,hs,aq⟩;refine aT ?_ hd hs aq;refine aj m ?_;intro H b m;refine aE (J:=fun a r=>Bl h r∧Sz n r∧a9 r f 25 (bj c af ag d e)∧Qa a 64 [(1,bp f),(3,vS H)]) ?_ ?_
  ·refine bH b (fun L b=>?_) (fun L b=>?_)
   ·refine aB<|p1 3 (vS (bb [42]))<|aa ?_;obtain rfl:=sj b;exact ad fun a hd hs aq=>⟨v,bX,j,hd,hs,bc aq⟩
   ·refine aP<|aj b ?_;intro be k b
    refine aX (J:=fun a s=>Bl h s∧Sz n s∧a9 s f 25 (bj c af ag d e)∧Qa a 64 [(1,bp f),(4,vS q),(25,vB be)]) ?_ ?_
    ·refine p1 26 (pt f 2)<|bt 3 j 2 rfl<|pL [28,29] 29 (vB (c.2.2.1==(-1)))<|cy 29 k (fun M k=>?_) (fun M k=>?_)
     ·refine p1 30 (pt f 1)<|bt 3 j 1 rfl<|pL [25,32,33] 25 (vB (c.2.1==1))<|aa ?_;obtain rfl:=sj k;exact ad fun a hd hs aq=>⟨v,bX,j,hd,hs,bc aq⟩
     ·refine pL [25,30,31,32,33] 25 (vB false)<|aa ?_;obtain rfl:=sj k;exact ad fun a hd hs aq=>⟨v,bX,j,hd,hs,bc aq⟩
    ·rintro a s ⟨w,B,l,hd,hs,aq⟩;refine aT ?_ hd hs aq;refine bH b (fun N b=>?_) (fun N b=>?_)
     ·refine aB<|p1 3 (vS (bb [43]))<|aa ?_;obtain rfl:=sj b;refine ad fun a hd hs aq=>?_;exact ⟨w,B,l,hd,hs,bc aq⟩
     ·refine aP<|aj b ?_;intro bl k b
      refine aX (J:=fun a t=>Bl h t∧Sz s t∧a9 t f 25 (bj c af ag d e)∧Qa a 64 [(1,bp f),(4,vS q),(34,vB bl)]) ?_ ?_
      ·refine p1 35 (pt f 1)<|bt 3 l 1 rfl<|pL [37,38] 38 (vB (c.2.1==0))<|cy 38 k (fun O k=>?_) (fun O k=>?_)
       ·refine p1 39 (pt f 2)<|bt 3 l 2 rfl<|pL [34,41,42] 34 (vB (c.2.2.1==1))<|aa ?_;obtain rfl:=sj k;exact ad fun a hd hs aq=>⟨w,bX,l,hd,hs,bc aq⟩
       ·refine pL [34,39,40,41,42] 34 (vB false)<|aa ?_;obtain rfl:=sj k;exact ad fun a hd hs aq=>⟨w,bX,l,hd,hs,bc aq⟩
      ·rintro a t ⟨i,P,g,hd,hs,aq⟩;refine aT ?_ hd hs aq;have p:=(nt B P);refine bH b (fun Q b=>?_) (fun Q b=>?_)
       ·refine aB<|p1 3 (vS (bb [63]))<|aa ?_;obtain rfl:=sj b;refine ad fun a hd hs aq=>?_;exact ⟨i,p,g,hd,hs,bc aq⟩
       ·refine aP<|p1 44 (pt f 2)<|bt 3 g 2 rfl<|pL [43,46] 43 (vB (c.2.2.1==(-1)))<|aa<|bH b (fun R b=>?_) (fun R b=>?_)
        ·refine aB<|p1 47 (vS q)<|aj b ?_;intro cc S b;refine caq 9 S<|aj b ?_;intro bn T b;refine caq 9 T<|p1 3 (vS bn)<|aa ?_;obtain rfl:=sj b;refine ad fun a hd hs aq=>?_;exact ⟨i,p,g,hd,hs,bc aq⟩
        ·refine aP<|p1 51 (pt f 2)<|bt 3 g 2 rfl<|p1 53 (pt f 1)<|bt 3 g 1 rfl<|pL [50,55] 50 (vB (c.2.2.1==c.2.1))<|aa<|bH b (fun U b=>?_) (fun U b=>?_)
         ·refine aB<|p1 56 (vS q)<|aj b ?_;intro ch V b;refine caq 9 V<|aj b ?_;intro bs W b;refine caq 9 W<|p1 3 (vS bs)<|aa ?_;obtain rfl:=sj b;refine ad fun a hd hs aq=>?_;exact ⟨i,p,g,hd,hs,bc aq⟩
         ·refine aB<|p1 8 (vS q)<|aj b ?_;intro ck X b;refine caq 9 X<|aj b ?_;intro bA Y b;refine caq 9 Y<|p1 11 (pt f 2)<|bt 3 g 2 rfl<|aj b ?_;intro I Z b;refine au kr rfl kr enters91 (strconv_Itoa_ok ak c.2.2.1 t A (aF y i.size) (F.below i y) I Z) ?_;rintro cs cv ⟨x,rfl⟩;refine bO [(1,bp f),(10,vS bA),(13,vS I)]<|aj b ?_;intro cw ah b;refine caq 9 ah<|aj b ?_;intro bE an b;refine caq 9 an<|p1 3 (vS bE)<|aa ?_;obtain rfl:=sj b;refine ad fun a hd hs aq=>?_;exact ⟨(bg i x nb),(nt p x.size),(g.grown x nb),hd,hs,bc aq⟩
  ·rintro a r ⟨C,b5,ax,hd,hs,aq⟩;refine aT ?_ hd hs aq;refine bM<|aM<|aP<|p1 59 (pt f 4)<|bt 4 ax 4 rfl<|aa<|aj m ?_;intro D b m
   refine aE (J:=fun a E=>Bl h E∧Sz r E∧Qa a 64 [(3,vS D)]) ?_ ?_
   ·refine bH b (fun a0 b=>?_) (fun a0 b=>?_)
    ·refine aB<|p1 61 (vS H)<|aj b ?_;intro b0 a1 b;refine caq 9 a1<|p1 3 (vS b0)<|aa ?_;obtain rfl:=sj b;exact ad fun a hd hs aq=>⟨C,bX,hd,hs,bc aq⟩
    ·refine aD ?_;obtain rfl:=sj b;exact ad fun a hd hs aq=>⟨C,bX,hd,hs,bc aq⟩
   ·rintro a E ⟨a2,b7,hd,hs,aq⟩;refine aT ?_ hd hs aq;refine aP<|pL [2,63] 2 (vS D)<|aa<|am ?_
    obtain rfl:=sj m;refine av (ap [vS D] rfl ⟨kr,trivial⟩ ?_);exact ⟨ac a2,rfl⟩

abbrev gC58 (ak:Nat):Prop:=∀ (af:bm) (ag:Nat) (a:bm) (b:Nat) (c:cu) (d:World) (e:Nat→Prop) (h:Lw e d) (aw:Rd bK d e af ag c.2.2.2.2.2.1) (f:Rd pcE d e a b c.2.2.2.2.2.2) (i:Rd (tabE 3 c6) d e (ro 3) 1 [vW 1]) (g:ByteArray),regex_text ak c=some g→Calls ar 58 ([.agg (bj c af ag a b)]:List Value).toArray d (Ret fun v w'=>d.grownBy w' none∧v=tup [vS g])
set_option maxHeartbeats 4000000 in
set_option maxRecDepth 100000 in
theorem regex_text_step (ak:Nat) (z:gC58 ak):gC58 (ak+1):=by
 intro af ag j l d N X0 n aw u cv r0 c;have es:Bl N N:=Below.refl _ _;rw[regex_text.eq_2]at c;refine aK Tryz.func58 rfl Tryz.ntmps58 kr ?_;refine bO [(0,.agg (bj d af ag j l))]<|aP<|az bp (bj d af ag j l) 25 kr kr ?_
 intro m w2 et d4 ex e4;refine pN 1 [2] []<|bF<|p1 3 (vL none ([]:List ByteArray) 0)<|cz<|aP<|p1 6 (pt m 6)<|bt 23 d4 6 rfl<|pN 2 [8,9] [(8,vI (lz d.2.2.2.2.2.2)),(9,vI 0)]<|aa<|aj c ?_;intro K h1 c
 refine aE (J:=fun a C=>∃ (i:bm) (v:Nat),Bl N C∧Sz w2 C∧ay sE 9 C (fun _=>False) i v K∧(Lo N i)∧(∀ g,aJ i=some g→¬ (· =m) g)∧¬ (fun k=>aJ i=some k) m∧a9 C m 25 (bj d af ag j l)∧Qa a 82 [(1,bp m),(3,vL i K v)]) ?_ ?_
 ·refine aR<|cf (A:=fun (L:(List ByteArray) × Int) a M=>∃ (i:bm) (v:Nat),Bl N M∧Sz w2 M∧ay sE 9 M (fun _=>False) i v L.1∧(Lo N i)∧(∀ g,aJ i=some g→¬ (· =m) g)∧¬ (fun k=>aJ i=some k) m∧a9 M m 25 (bj d af ag j l)∧Qa a 82 [(1,bp m),(3,vL i L.1 v),(7,vL j d.2.2.2.2.2.2 l),(8,vI (lz d.2.2.2.2.2.2)),(9,vI L.2)]) h1 ?_ ?_
  ·intro a hd hs aq;exact ⟨none,0,(bg es et nb),bX,ay.nil sE 9 w2 (fun _=>False),nofun,nofun,nofun,d4,hd,hs,bc aq⟩
  ·rintro L r2 D eu a M ⟨Z,cw,E,c0,F,a4,a5,c1,a6,hd,hs,aq⟩;refine aT ?_ hd hs aq;refine aP<|p1 10 (vB (decide (L.2<(lz d.2.2.2.2.2.2))))<|cz<|bH D (fun d8 D=>?_) (fun d8 D=>?_)
   ·refine aD<|aM<|aR<|aP<|aj D ?_;intro ah c2 D
    refine cW .i64 7 (u.below E n) c2 bo ?_;obtain ⟨_,⟨_,_,rfl,rfl,⟨_,_,rfl,rfl,⟨_,_,rfl,rfl,⟨_,_,rfl,rfl,⟨_,_,rfl,rfl,⟨_,_,rfl,⟨an,a0,rfl,d9⟩,⟨a1,a2,rfl,ea⟩⟩⟩⟩⟩⟩⟩,eb⟩:=cells_un (u.cellsK c2);refine laq 25 (aL j ((L.2:Int).toNat*7)) (dq (Pc.un ah) an a0 a1 a2) (bN (eb M (fun k hk=>E.block k (n k hk)))) ?_;refine az bp dp 25 kr kr ?_;intro b7 e5 G ec B ey;refine aC 25 0 (.agg (dq (Pc.un ah) an a0 a1 a2)) (dq (Pc.un ah) an a0 a1 a2) ec kr kr kr ?_;intro ev H c3 ez;refine aa<|aB<|p1 13 (vL Z L.1 cw)<|dd 25 b7 (dq (Pc.un ah) an a0 a1 a2) (bN c3)<|aj D ?_;intro a3 ed D;have dx:N.heap.size≤b7:=bR B E.size;have I:=bg (bg E G nb) H (aU dx);refine au kr rfl kr enters58 (z an a0 a1 a2 (Pc.un ah) ev X0 (aF n I.size) (d9.below I n) (ea.below I n) (cv.below I n) a3 ed) ?_;rintro e6 e7 ⟨O,rfl⟩;refine az (fun b=>.slice (ro b) 1 1) #[vS a3] 9 kr kr ?_;intro q ew a7 ee P eA;have a8:ay sE 9 ew (fun _=>False) (ro q) 1 ([a3]:List ByteArray):=bS ee ⟨[vS a3],[],rfl,rfl,rfl⟩ (show 1≤maxLen by decide) (fun h=>h);have c4:=bg I O nb;have eB:Lo N (ro q):=loo P c4.size;refine aj D ?_;intro c5 ef D;have bd:=apC B F.lt;have be:=(ab O a7);refine cn sE (t:=54) (ty:=54) (e:=9) (a:=Z) (ax:=(ro q)) (cap:=cw) (cx:=1) (xs:=L.1) (ys:=([a3]:List ByteArray)) c5 (X:=(fun _=>False)) (Y:=(fun k=>aJ (ro q)=some k)) cl rfl rfl kr kr cg info9 (((F.grown G fe nb).grown H fe (cB (ai bd))).grown be fe nb) (a8.rd (Y:=fun k=>aJ (ro q)=some k) fe (fun g e=>e)) ef (.inr fun _ _ _ _ _ h=>h) fe ?_;intro w d5 e8 bl eg r;refine ⟨nofun,?_⟩;have c7:=bg c4 a7 nb;have eh:Lo N w:=cC r a4 c7.size;have bn:=((a6.grown G nb).grown H (ai (ng (bV ((b9 a6) _ rfl) ((aZ B) _ rfl))))).grown be nb;have ei:∀ g,aJ w=some g→¬ (· =m) g:=bC r a5 (b9 bn);have ej:¬ (fun k=>aJ w=some k) m:=fun h=>b8 r (fun h=>(c1) h) (bn.lt) h;have c8:=c3.grown be nb;have eC:∀ g,aJ w=some g→¬ (· =b7) g:=bC r (da B F.lt) (b9 c8);have eD:¬ (fun k=>aJ w=some k) b7:=fun h=>b8 r (fun h=>(bd) h) (c8.lt) h;have c9:=((F.grown G fe nb).grown H fe (cB (ai bd))).grown O fe nb;have ek:Ap Z (ro q):=fun g e hx=>nl ((ci P) _ hx) (c9.lt g e);have eE:Ap w (ro q):=bC r ek (fun k (hk:aJ (ro q)=some k)=>a8.lt k hk);have el:Ap (ro q) Z:=fun g e hx=>nl ((ci P) g e) (c9.lt _ hx);have eF:Ap (ro q) w:=fun g e h=>b8 r (fun h=>((el) g e) h) (a8.lt g e) h;refine p1 3 (vL w c5 d5)<|aa<|bM<|aB<|pL [9,18] 9 (vI (wI (L.2+1)))<|aa ?_;obtain rfl:=sj D;refine ad fun a hd hs aq=>?_;exact ⟨(c5,wI (L.2+1)),rfl,w,d5,(bg c7 bl a4),(nt (nt (nt (nt (nt c0 G.size) H.size) O.size) a7.size) bl.size),eg,eh,ei,ej,(bn.grown bl a5),hd,hs,bc aq⟩
   ·refine bI<|bU rfl ?_
    obtain rfl:=sj D;replace h1:=congrArg some (eu _ rfl);obtain rfl:=sj h1;refine ad fun a hd hs aq=>?_;exact ⟨Z,cw,E,c0,F,a4,a5,c1,a6,hd,hs,bc aq⟩
 ·rintro a C ⟨o,y,f,eG,s,eH,eI,eJ,p,hd,hs,aq⟩;refine aT ?_ hd hs aq;refine aM<|aP<|p1 19 (bp m)<|bt 3 p 0 rfl<|aa<|aR<|aP<|pL [21,22] 21 (vB (d.1==1))<|aa<|bH c (fun dy c=>?_) (fun dy c=>?_)
  ·refine aP<|p1 23 (pt m 1)<|bt 3 p 1 rfl<|aj c ?_;intro bs dz c;refine au kr rfl kr enters86 (regex_spell_ok ak d.2.1 (bb [92,46,94,36,42,43,63,40,41,91,93,123,125,124]) C bs dz) ?_;rintro eK eL ⟨dA,rfl⟩;refine p1 2 (vS bs)<|aa<|am ?_
   obtain rfl:=sj c;refine av (ap [vS bs] rfl ⟨kr,trivial⟩ ?_);exact ⟨ac (bg f dA nb),rfl⟩
  ·refine aP<|pL [26,27] 26 (vB (d.1==2))<|aa<|bH c (fun dB c=>?_) (fun dB c=>?_)
   ·refine aP<|p1 2 (vS (bb [46]))<|aa<|am ?_
    obtain rfl:=sj c;refine av (ap [vS (bb [46])] rfl ⟨kr,trivial⟩ ?_);exact ⟨ac f,rfl⟩
   ·refine aP<|pL [28,29] 28 (vB (d.1==3))<|aa<|bH c (fun dC c=>?_) (fun dC c=>?_)
    ·refine aP<|dd 25 m (bj d af ag j l) (bN p)<|aj c ?_;intro bE dD c;refine au kr rfl kr enters87 (regex_class_ok ak af ag j l d C X0 (aF n f.size) (aw.below f n) (u.below f n) bE dD) ?_;rintro eM eN ⟨dE,rfl⟩;refine p1 2 (vS bE)<|aa<|am ?_
     obtain rfl:=sj c;refine av (ap [vS bE] rfl ⟨kr,trivial⟩ ?_);exact ⟨ac (bg f dE nb),rfl⟩
    ·refine aP<|pL [32,33] 32 (vB (d.1==4))<|aa<|bH c (fun dF c=>?_) (fun dF c=>?_)
     ·refine aP<|p1 2 (vS (bb [94]))<|aa<|am ?_
      obtain rfl:=sj c;refine av (ap [vS (bb [94])] rfl ⟨kr,trivial⟩ ?_);exact ⟨ac f,rfl⟩
     ·refine aP<|pL [34,35] 34 (vB (d.1==5))<|aa<|bH c (fun dG c=>?_) (fun dG c=>?_)
      ·refine aP<|p1 2 (vS (bb [36]))<|aa<|am ?_
       obtain rfl:=sj c;refine av (ap [vS (bb [36])] rfl ⟨kr,trivial⟩ ?_);exact ⟨ac f,rfl⟩
      ·refine aP<|pL [36,37] 36 (vB (d.1==6))<|aa<|bH c (fun dH c=>?_) (fun dH c=>?_)
       ·refine aP<|p1 38 (pt m 3)<|bt 4 p 3 rfl<|aj c ?_;intro b0 dI c;refine au kr rfl kr enters88 (regex_pick_ok ak d.2.2.2.1 (bb [92,98]) (bb [92,66]) C b0 dI) ?_;rintro eO eP ⟨dJ,rfl⟩;refine p1 2 (vS b0)<|aa<|am ?_
        obtain rfl:=sj c;refine av (ap [vS b0] rfl ⟨kr,trivial⟩ ?_);exact ⟨ac (bg f dJ nb),rfl⟩
       ·refine aP<|pL [41,42] 41 (vB (d.1==7))<|aa<|bH c (fun dK c=>?_) (fun dK c=>?_)
        ·refine aM<|bw kr ?_
         intro b2 Q;refine aN [0,4,5] (bA 10 [0,4,5]) 7 kr kr<|pN 2 [43,47] [(43,pt m 1),(47,vL o K y)]<|aj c ?_;intro dr ca c;have R:=s.grown Q fe nb;refine cW .i64 1 R.rdF ca cg<|aa<|al<|aA (cQ b2 []) [1,2,3,6] [(1,some true),(2,some true),(6,some true),(3,some false)] (bA 10 [0,1,2,3,4,5,6]) 3 kr kr (ao _ _)<|cm 3 ⟨m,1,none⟩ (vI d.2.1) (bu fun w' hC'=>((hC'.box (p.grown Q nb) aV).cell 1 rfl)) ?_;refine p1 45 (vB (d.2.1==0))<|cm 9 (aL o ((0:Int).toNat*1)) (vS dr) (bu fun w' hC'=>((hC'.rd R.rdF R.lt cj).cell ca)) ?_;refine bO [(45,vB (d.2.1==0)),(49,vS dr)]<|aj c ?_;intro em dL c;refine clq enters88 (regex_pick_ok ak (d.2.1==0) (bb [40]) (bb [40,63,58]) b2 em dL) ?_;rintro eQ eR ⟨cb,rfl⟩;refine ⟨(fun _=>(ao b2 []).grown cb nb),?_⟩;refine aa<|al<|aN [7,8,9] (bA 10 [0,1,2,3,4,5,6,7,8,9]) 0 kr kr<|aj c ?_;intro eS dM c;refine caq 9 dM<|aj c ?_;intro ds dN c;refine caq 9 dN<|p1 2 (vS ds)<|aa<|al<|aQ kr<|am ?_;obtain rfl:=sj c;refine av (ap [vS ds] rfl ⟨kr,trivial⟩ ?_);exact ⟨ac (bg f (ab Q cb) nb),rfl⟩
        ·refine aP<|pL [52,53] 52 (vB (d.1==8))<|aa<|bH c (fun dO c=>?_) (fun dO c=>?_)
         ·refine aP<|p1 54 (vL o K y)<|aj c ?_;intro b3 dP c;refine au kr rfl kr enters89 (strings_Join_ok ak o y K (bb []) C (fun k=>aJ o=some k) s.lt s.rdF b3 dP) ?_;rintro eT eU ⟨dQ,rfl⟩;refine p1 2 (vS b3)<|aa<|am ?_
          obtain rfl:=sj c;refine av (ap [vS b3] rfl ⟨kr,trivial⟩ ?_);exact ⟨ac (bg f dQ nb),rfl⟩
         ·refine aP<|pL [56,57] 56 (vB (d.1==9))<|aa<|bH c (fun dR c=>?_) (fun dR c=>?_)
          ·refine aP<|p1 58 (vL o K y)<|aj c ?_;intro S dS c;refine au kr rfl kr enters89 (strings_Join_ok ak o y K (bb [124]) C (fun k=>aJ o=some k) s.lt s.rdF S dS) ?_;rintro eV eW ⟨dT,rfl⟩;refine p1 2 (vS S)<|bO [(2,vS S)]<|aa<|am ?_
           obtain rfl:=sj c;refine av (ap [vS S] rfl ⟨kr,trivial⟩ ?_);exact ⟨ac (bg f dT nb),rfl⟩
          ·refine aP<|pL [60,61] 60 (vB (d.1==10))<|aa<|bH c (fun dU c=>?_) (fun dU c=>?_)
           ·refine aM<|bw kr ?_
            intro b4 T;refine aN [0,1] (bA 7 [0,1]) 5 kr kr<|p1 62 (vL o K y)<|aj c ?_;intro en cc c;have U:=s.grown T fe nb;refine cW .i64 1 U.rdF cc cg<|aa<|al<|aA (cQ b4 []) [2,3,4] [(2,some true),(3,some true),(4,some false)] (bA 7 [0,1,2,3,4]) 2 kr kr (ao _ _)<|bO [(1,bp m),(63,.pointer (some (aL o ((0:Int).toNat*1))))]<|cm 9 (aL o ((0:Int).toNat*1)) (vS en) (bu fun w' hC'=>((hC'.rd U.rdF U.lt cj).cell cc)) ?_;refine dd 25 m (bj d af ag j l) (bu fun w' hC'=>(hC'.box (p.grown T nb) aV)) ?_;refine aj c ?_;intro eo dV c;have x:=bg f T nb;refine clq enters90 (regex_times_ok ak af ag j l d b4 X0 (aF n x.size) (aw.below x n) (u.below x n) (cv.below x n) eo dV) ?_;rintro eX eY ⟨ch,rfl⟩;refine ⟨(fun _=>(ao b4 []).grown ch nb),?_⟩;refine aa<|al<|aN [5,6] (bA 7 [0,1,2,3,4,5,6]) 0 kr kr<|aj c ?_;intro dt dW c;refine caq 9 dW<|p1 2 (vS dt)<|aa<|al<|aQ kr<|am ?_;obtain rfl:=sj c;refine av (ap [vS dt] rfl ⟨kr,trivial⟩ ?_);exact ⟨ac (bg x ch nb),rfl⟩
           ·refine aP<|pL [68,69] 68 (vB (d.1==11))<|aa<|bH c (fun dX c=>?_) (fun dX c=>?_)
            ·refine aM<|bw kr ?_
             intro b5 V;refine aN [0,3,4] (bA 9 [0,3,4]) 6 kr kr<|pN 2 [70,73] [(70,pt m 3),(73,vL o K y)]<|bO [(70,pt m 3),(73,vL o K y)]<|aj c ?_;intro ep ck c;have W:=s.grown V fe nb;refine cW .i64 1 W.rdF ck cg<|aa<|al<|aA (cQ b5 []) [1,2,5] [(1,some true),(5,some true),(2,some false)] (bA 9 [0,1,2,3,4,5]) 3 kr kr (ao _ _)<|cm 4 ⟨m,3,none⟩ (vB d.2.2.2.1) (bu fun w' hC'=>((hC'.box (p.grown V nb) aV).cell 3 rfl)) ?_;refine cm 9 (aL o ((0:Int).toNat*1)) (vS ep) (bu fun w' hC'=>((hC'.rd W.rdF W.lt cj).cell ck)) ?_;refine aj c ?_;intro eq dY c;refine clq enters88 (regex_pick_ok ak d.2.2.2.1 (bb [40,63,61]) (bb [40,63,33]) b5 eq dY) ?_;rintro eZ e0 ⟨cs,rfl⟩;refine ⟨(fun _=>(ao b5 []).grown cs nb),?_⟩;refine aa<|al<|aN [6,7,8] (bA 9 [0,1,2,3,4,5,6,7,8]) 0 kr kr<|aj c ?_;intro e1 dZ c;refine caq 9 dZ<|aj c ?_;intro du d0 c;refine caq 9 d0<|p1 2 (vS du)<|aa<|al<|aQ kr<|am ?_;obtain rfl:=sj c;refine av (ap [vS du] rfl ⟨kr,trivial⟩ ?_);exact ⟨ac (bg f (ab V cs) nb),rfl⟩
            ·refine aD<|bM<|aP<|p1 78 (pt m 1)<|bO [(78,pt m 1)]<|bt 3 p 1 rfl<|aj c ?_;intro er d1 c;refine au kr rfl kr enters91 (strconv_Itoa_ok ak d.2.1 C X0 (aF n f.size) (cv.below f n) er d1) ?_;rintro e2 e3 ⟨d2,rfl⟩;refine aj c ?_;intro dv d3 c;refine caq 9 d3<|p1 2 (vS dv)<|aa<|am ?_
             obtain rfl:=sj c;refine av (ap [vS dv] rfl ⟨kr,trivial⟩ ?_);exact ⟨ac (bg f d2 nb),rfl⟩
theorem grp_regex_text_ok:∀ (ak:Nat),gC58 ak:=by
  intro ak
  induction ak with
  | zero=>unfold gC58;intros;rename_i a;rw[regex_text.eq_1]at a;cases a
  | succ ak ih=>exact regex_text_step ak ih

theorem regex_text_ok (ak:Nat):
    gC58 ak:=
  grp_regex_text_ok ak

theorem regex_Parse_ok (ak:Nat) (w:ByteArray) (n:World) (j:Nat→Prop) (f:Lw j n) (c7:Rd bE n j (ro 0) 256 bZ) (c8:Rd (prE (iE .u8) (iE .u8)) n j (ro 1) 16 cD) (dQ:Rd (tabE 3 c6) n j (ro 3) 1 [vW 1]) (r0:cu × bQ) (b:regex_Parse ak w=some r0):
    Cs 30 [vS w] n (Ret fun v w'=>n.grownBy w' none∧∃ (bx:bm) (bD:Nat),∃ (ax:Nat→Prop),∃ (a0:bm) (a1:Nat),∃ (a2:Nat→Prop),v=tup [.agg (bj r0.1 bx bD a0 a1),.agg (bP r0.2)]∧Rd bK w' ax bx bD r0.1.2.2.2.2.2.1∧(Sxb ax w' j n)∧Rd pcE w' a2 a0 a1 r0.1.2.2.2.2.2.2∧(Sxb a2 w' j n)):=by
 have T:Bl n n:=Below.refl _ _;unfold regex_Parse at b;refine calls_runM Tryz.func30 rfl Tryz.ntmps30 kr ?_;refine bO [(0,vS w)]<|aP<|az bp dp 25 kr kr ?_
 intro g w2 c9 U V d4;refine az bp #[vI 0,vI 0] 31 kr kr ?_;intro B w8 bs dt a3 dY;refine cz<|aR<|aP<|pL [5,6,7,8] 5 (vB (decide ((bz w)>200)))<|aj b ?_;intro dR du b;refine cq (s:=5) (v:=(vB (decide ((bz w)>200)))) (v':=(vB dR)) kr (congrArg (Value.bool) (sj du))<|aa<|bH b (fun dv b=>?_) (fun dv b=>?_)
 ·cases b
 ·refine aP<|p1 12 (vS w)<|aj b ?_;intro dr dw b;have G:=bg T (ab c9 bs) nb;refine au kr rfl kr enters41 (utf8_ValidString_ok ak w w8 j (aF f G.size) (c7.below G f) (c8.below G f) dr dw) ?_;rintro d5 d6 ⟨N,rfl⟩;refine pL [11,14] 11 (vB (!dr))<|aa<|bH b (fun dx b=>?_) (fun dx b=>?_)
  ·cases b
  ·refine aD<|bM<|aP<|p1 17 (.func (.func 55) #[] #[bp g,bp B]) ?_
   refine gv_defer (d:=⟨.fn (.func 55) #[bp g,bp B],#[]⟩) rfl kr kr kr ?_;refine bF<|pL [18,19] 19 (.agg #[vS w,vI 0,vI 0,vB false,vB false])<|az bp #[vS w,vI 0,vI 0,vB false,vB false] 117 kr kr ?_;intro l dS H dy a4 dZ;refine p1 4 (bp l)<|bF<|p1 21 (bp l)<|aj b ?_;intro c dz b;have bA:=(ab N H);have x:=bg G bA nb;have O:n.heap.size≤l:=bR a4 (bg G N nb).size;refine au kr rfl kr enters56 (regex_parser_alternatives_ok ak l (w,0,0,false,false) dS j (fun k hk=>⟨(aF f x.size) k hk,fun e=>(fun (hx:j l)=>nl O (f _ hx)) (e ▸ hk)⟩) dy (c7.below x f) (c8.below x f) c dz) ?_;rintro d7 ds ⟨I,o,p,y,q,r,z,rfl,b0,C,b2,D,dA⟩;have W:∀ k,y k→k<ds.heap.size:=fun k hk=>(C k hk).1;have dB:∀ k,y k→j k∨n.heap.size≤k:=fun k hk=>(C k hk).2.elim (fun h=>(fun k (hk:j k)=>Or.inl hk) k h) (fun h=>.inr (Nat.le_trans x.size h));have X:∀ k,z k→k<ds.heap.size:=fun k hk=>(D k hk).1;have dC:∀ k,z k→j k∨n.heap.size≤k:=fun k hk=>(D k hk).2.elim (fun h=>(fun k (hk:j k)=>Or.inl hk) k h) (fun h=>.inr (Nat.le_trans x.size h));have Y:=(ab bs bA);have K:=bV ((b9 U) _ rfl) ((aZ a3) _ rfl);have P:=dt.grown N nb;have Z:=bV ((b9 P) _ rfl) ((aZ a4) _ rfl);have b3:=db K Z;refine aC 25 0 (.agg (bj c.1 o p q r)) (bj c.1 o p q r) ((U.grown Y nb).grown I (ai (ng b3))) kr kr kr ?_;intro dT i b4 d0;refine cz<|aR<|aP<|pL [24,25,26] 26 (bp l)<|bO [(2,bp g),(3,bp B),(4,bp l),(26,bp l)] ?_;have E:=dA.grown i (ai (Nat.ne_of_lt b3));refine bt 9 E 0 rfl<|pL [23,28] 23 (vB (!(c.2.1.toList==(bb []).toList)))<|aa<|bH b (fun dD b=>?_) (fun dD b=>?_)
   ·cases b
   ·refine aP<|pL [32,33,34] 34 (pt l 3)<|bt 4 E 3 rfl<|p1 31 (vB c.2.2.2.2.1)<|aa<|bH b (fun dE b=>?_) (fun dE b=>?_)
    ·cases b
    ·refine aP<|aj b ?_;intro dU h1 b
     refine aX (J:=fun a A=>Bl n A∧Sz dT A∧a9 A g 25 (bj c.1 o p q r)∧a9 A B 31 #[vI 0,vI 0]∧a9 A l 117 (cF c.2)∧Rd bK A y o p c.1.2.2.2.2.2.1∧Rd pcE A z q r c.1.2.2.2.2.2.2∧a.defers=[{ target:=.fn (.func 55) #[bp g,bp B],args:=#[]}]∧a.tmps.size=69∧Ok [(2,bp g),(3,bp B),(4,bp l),(38,vB dU)] a.tmps) ?_ ?_
     ·refine pL [39,40,41] 41 (pt l 1)<|bt 3 E 1 rfl<|pL [43,44] 44 (vB (decide (c.2.2.1>60)))<|cy 44 h1 (fun dF h1=>?_) (fun dF h1=>?_)
      ·refine pL [38,45,46,47,48,49,50] 38 (vB true)<|aa ?_;obtain rfl:=sj h1;refine ad fun a hd hs aq=>?_;have Q:n.heap.size≤g:=bR V T.size;have ca:=U.grown Y nb;have dG:¬ y g:=fun h=>((C _ h).2.elim (fun h=>((fun (hx:j g)=>nl Q (f _ hx))) h) (fun h=>nl h (ca.lt)));have dH:¬ z g:=fun h=>((D _ h).2.elim (fun h=>((fun (hx:j g)=>nl Q (f _ hx))) h) (fun h=>nl h (ca.lt)));exact ⟨(bg (bg x I (aU O)) i (aU Q)),bX,b4,(((P.grown H nb).grown I (ai (ng Z))).grown i (ai (Nat.ne_of_lt K))),E,(b0.grown i W (ai dG)),(b2.grown i X (ai dH)),hd,hs,bc aq⟩
      ·refine pL [45,46,47] 47 (pt l 2)<|bt 3 E 2 rfl<|pL [38,49,50] 38 (vB (decide (c.2.2.2.1>9)))<|aa ?_;obtain rfl:=sj h1;refine ad fun a hd hs aq=>?_;have R:n.heap.size≤g:=bR V T.size;have cb:=U.grown Y nb;have dI:¬ y g:=fun h=>((C _ h).2.elim (fun h=>((fun (hx:j g)=>nl R (f _ hx))) h) (fun h=>nl h (cb.lt)));have dJ:¬ z g:=fun h=>((D _ h).2.elim (fun h=>((fun (hx:j g)=>nl R (f _ hx))) h) (fun h=>nl h (cb.lt)));exact ⟨(bg (bg x I (aU O)) i (aU R)),bX,b4,(((P.grown H nb).grown I (ai (ng Z))).grown i (ai (Nat.ne_of_lt K))),E,(b0.grown i W (ai dI)),(b2.grown i X (ai dJ)),hd,hs,bc aq⟩
     ·rintro a A ⟨ah,F,cc,dK,dL,ch,ck,hd,hs,aq⟩;refine aT ?_ hd hs aq;refine bH b (fun dM b=>?_) (fun dM b=>?_)
      ·cases b
      ·refine aP<|pL [54,55,56] 56 (pt l 4)<|bt 4 dL 4 rfl<|p1 53 (vB c.2.2.2.2.2)<|aa<|bH b (fun dN b=>?_) (fun dN b=>?_)
       ·cases b
       ·refine aP<|dd 25 g (bj c.1 o p q r) (bN cc)<|aj b ?_;intro cs dO b;have an:=aF W i.size;have S:=aF X i.size;refine au kr rfl kr enters58 (regex_text_ok ak o p q r c.1 A (fun k=>y k∨z k∨j k) (fun k hk=>(hk).elim (fun h=>(aF an F) k h) (fun h=>(h).elim (fun h=>(aF S F) k h) (fun h=>(aF f ah.size) k h))) (ch.wide (fun k hk=>(.inl hk))) (ck.wide (fun k hk=>(.inr (.inl hk)))) ((dQ.below ah f).wide (fun k hk=>(.inr (.inr hk)))) cs dO) ?_;rintro d1 d2 ⟨m,rfl⟩;refine pL [60,63,64] 60 (vB (decide ((bz cs)>200)))<|aj b ?_;intro dP cw b;refine cq (s:=60) (v:=(vB (decide ((bz cs)>200)))) (v':=(vB dP)) kr (congrArg (Value.bool) (sj cw))<|aa<|bH b (fun cx b=>?_) (fun cx b=>?_)
        ·cases b
        ·refine aD<|bM<|aM<|aB ?_
         have a5:=cc.grown m nb;refine dd 25 g (bj c.1 o p q r) (bN a5)<|p1 68 (.agg #[vI 0,vI 0])<|aC 25 0 (.agg (bj c.1 o p q r)) (bj c.1 o p q r) a5 kr kr kr ?_;intro d3 t c0 dV;refine aC 31 0 (.agg #[vI 0,vI 0]) #[vI 0,vI 0] ((dK.grown m nb).grown t (ai (Nat.ne_of_lt K))) kr kr kr ?_;intro cv u c1 dW;refine aa<|am ?_
         obtain rfl:=sj b;refine av (gv_left (invoke55 _) (inert55 _ _)<|gv_doneM [.agg (bj c.1 o p q r),.agg #[vI 0,vI 0]] rfl ⟨⟨⟨g,0,none⟩,kr,run_loadVar_row cv g _ 25 _ _ _ (c0.grown u (ai (ng K))) bL rfl kr⟩,⟨⟨B,0,none⟩,kr,run_loadVar_row cv B _ 31 _ _ _ c1 aI rfl kr⟩,trivial⟩ ?_);have L:n.heap.size≤g:=bR V T.size;have M:n.heap.size≤B:=bR a3 (bg T c9 nb).size;have a6:=U.grown (ab (ab bs N) H) nb;have c2:¬ y g:=fun h=>((C _ h).2.elim (fun h=>((fun (hx:j g)=>nl L (f _ hx))) h) (fun h=>nl h (a6.lt)));have a7:=aF (aF an F) m.size;have a8:=P.grown H nb;have c3:¬ y B:=fun h=>((C _ h).2.elim (fun h=>((fun (hx:j B)=>nl M (f _ hx))) h) (fun h=>nl h (a8.lt)));have bd:=aF a7 t.size;have c4:¬ z g:=fun h=>((D _ h).2.elim (fun h=>((fun (hx:j g)=>nl L (f _ hx))) h) (fun h=>nl h (a6.lt)));have be:=aF (aF S F) m.size;have c5:¬ z B:=fun h=>((D _ h).2.elim (fun h=>((fun (hx:j B)=>nl M (f _ hx))) h) (fun h=>nl h (a8.lt)));have bl:=aF be t.size;exact ⟨ac (bg (bg (bg ah m nb) t (aU L)) u (aU M)),o,p,y,q,r,z,rfl,(((ch.grown m (aF an F) nb).grown t a7 (ai c2)).grown u bd (ai c3)),sxq (aF bd u.size) dB,(((ck.grown m (aF S F) nb).grown t be (ai c4)).grown u bl (ai c5)),sxq (aF bl u.size) dC⟩

theorem regex_flat_ok (ak:Nat) (af:bm) (ag:Nat) (g:bm) (h:Nat) (c:cu) (k:World) (w:Nat→Prop) (cb:Lw w k) (aw:Rd bK k w af ag c.2.2.2.2.2.1) (a7:Rd pcE k w g h c.2.2.2.2.2.2) (r0:Bool) (m:regex_flat ak c=some r0):
    Cs 114 [.agg (bj c af ag g h)] k (G1 k [vB r0]):=by
 have p:Bl k k:=Below.refl _ _;unfold regex_flat at m;refine aK Tryz.func114 rfl Tryz.ntmps114 kr ?_;refine bO [(0,.agg (bj c af ag g h))]<|aP<|az bp (bj c af ag g h) 25 kr kr ?_
 intro f w2 q j b4 cc;refine pN 1 [2] []<|bF<|aj m ?_;intro x b m
 refine aX (J:=fun a r=>Bl k r∧Sz w2 r∧a9 r f 25 (bj c af ag g h)∧Qa a 76 [(1,bp f),(3,vB x)]) ?_ ?_
 ·refine p1 5 (bp f)<|bt 3 j 0 rfl<|pL [7,8] 8 (vB (c.1==1))<|cy 8 b (fun bd b=>?_) (fun bd b=>?_)
  ·refine pL [3,9,10,11,12,13,14,15,16,17,18,19,20,21,22] 3 (vB true)<|aa ?_;obtain rfl:=sj b;refine ad fun a hd hs aq=>?_;exact ⟨(bg p q nb),bX,j,hd,hs,bc aq⟩
  ·refine p1 9 (bp f)<|bt 3 j 0 rfl<|pL [11,12,13] 13 (vB (c.1==7))<|cy 13 b (fun y b=>?_) (fun y b=>?_)
   ·refine pL [3,14,15,16,17,18,19,20,21,22] 3 (vB true)<|aa ?_;obtain rfl:=sj b;refine ad fun a hd hs aq=>?_;exact ⟨(bg p q nb),bX,j,hd,hs,bc aq⟩
   ·refine p1 14 (bp f)<|bt 3 j 0 rfl<|pL [16,17,18] 18 (vB (c.1==10))<|cy 18 b (fun z b=>?_) (fun z b=>?_)
    ·refine pL [3,19,20,21,22] 3 (vB true)<|aa ?_;obtain rfl:=sj b;refine ad fun a hd hs aq=>?_;exact ⟨(bg p q nb),bX,j,hd,hs,bc aq⟩
    ·refine p1 19 (bp f)<|bt 3 j 0 rfl<|pL [3,21,22] 3 (vB (c.1==12))<|bO [(1,bp f),(3,vB (c.1==12))]<|aa ?_;obtain rfl:=sj b;refine ad fun a hd hs aq=>?_;exact ⟨(bg p q nb),bX,j,hd,hs,bc aq⟩
 ·rintro a r ⟨o,b5,i,hd,hs,aq⟩;refine aT ?_ hd hs aq;refine aP<|aj m ?_;intro l b m
  refine aX (J:=fun a n=>Bl k n∧Sz r n∧a9 n f 25 (bj c af ag g h)∧Qa a 76 [(1,bp f),(3,vB x),(4,vB l)]) ?_ ?_
  ·refine p1 23 (bp f)<|bt 3 i 0 rfl<|pL [25,26] 26 (vB (c.1==3))<|cy 26 b (fun A b=>?_) (fun A b=>?_)
   ·refine pL [4,27,28,29,30,31,32,33,34,35] 4 (vB true)<|aa ?_;obtain rfl:=sj b;exact ad fun a hd hs aq=>⟨o,bX,i,hd,hs,bc aq⟩
   ·refine p1 27 (bp f)<|bt 3 i 0 rfl<|pL [29,30,31] 31 (vB (c.1==6))<|cy 31 b (fun B b=>?_) (fun B b=>?_)
    ·refine pL [4,32,33,34,35] 4 (vB true)<|aa ?_;obtain rfl:=sj b;exact ad fun a hd hs aq=>⟨o,bX,i,hd,hs,bc aq⟩
    ·refine p1 32 (bp f)<|bt 3 i 0 rfl<|pL [4,34,35] 4 (vB (c.1==11))<|aa ?_;obtain rfl:=sj b;exact ad fun a hd hs aq=>⟨o,bX,i,hd,hs,bc aq⟩
  ·rintro a n ⟨e,b7,d,hd,hs,aq⟩;refine aT ?_ hd hs aq;refine aP<|aj m ?_;intro u b m
   refine aX (J:=fun a t=>Bl k t∧Sz n t∧Qa a 76 [(2,vB u)]) ?_ ?_
   ·refine pL [36,37] 37 (vB x)<|cy 37 b (fun C b=>?_) (fun C b=>?_)
    ·refine pN 6 [38,39,40,41,42,43] [(42,vB true),(43,bp f)]<|bt 3 d 0 rfl<|pL [45,46] 46 (vB (c.1==10))<|cy 46 b (fun D b=>?_) (fun D b=>?_)
     ·refine pN 13 [47,48,49,50,51,52,53,54,55,56,57,58,59] [(57,vB true),(59,vB l)]<|cy 59 b (fun E b=>?_) (fun E b=>?_)
      ·refine pN 7 [60,61,62,63,64,65,66] [(65,vB true),(66,bp f)]<|bt 3 d 0 rfl<|pL [68,69] 69 (vB (c.1==3))<|cy 69 b (fun F b=>?_) (fun F b=>?_)
       ·refine pL [2,70,71,72,73,74,75] 2 (vB true)<|aa ?_;obtain rfl:=sj b;exact ad fun a hd hs aq=>⟨e,bX,hd,hs,bc aq⟩
       ·refine p1 70 (pt f 5)<|bt 22 d 5 rfl<|pL [2,72,73,74,75] 2 (vB ((lz c.2.2.2.2.2.1)==0))<|aj b ?_;intro be G b;refine cq (s:=2) (v:=(vB ((lz c.2.2.2.2.2.1)==0))) (v':=(vB be)) kr (congrArg (Value.bool) (sj G))<|aa ?_;obtain rfl:=sj b;exact ad fun a hd hs aq=>⟨e,bX,hd,hs,bc aq⟩
      ·refine p1 60 (pt f 3)<|bt 4 d 3 rfl<|pL [62,63,64,65] 65 (vB (!c.2.2.2.1))<|cy 65 b (fun H b=>?_) (fun H b=>?_)
       ·refine p1 66 (bp f)<|bt 3 d 0 rfl<|pL [68,69] 69 (vB (c.1==3))<|cy 69 b (fun I b=>?_) (fun I b=>?_)
        ·refine pL [2,70,71,72,73,74,75] 2 (vB true)<|aa ?_;obtain rfl:=sj b;exact ad fun a hd hs aq=>⟨e,bX,hd,hs,bc aq⟩
        ·refine p1 70 (pt f 5)<|bt 22 d 5 rfl<|pL [2,72,73,74,75] 2 (vB ((lz c.2.2.2.2.2.1)==0))<|bO [(2,vB ((lz c.2.2.2.2.2.1)==0))]<|aj b ?_;intro bl K b;refine cq (s:=2) (v:=(vB ((lz c.2.2.2.2.2.1)==0))) (v':=(vB bl)) kr (congrArg (Value.bool) (sj K))<|aa ?_;obtain rfl:=sj b;exact ad fun a hd hs aq=>⟨e,bX,hd,hs,bc aq⟩
       ·refine pL [2,66,67,68,69,70,71,72,73,74,75] 2 (vB false)<|aa ?_;obtain rfl:=sj b;exact ad fun a hd hs aq=>⟨e,bX,hd,hs,bc aq⟩
     ·refine p1 47 (pt f 2)<|bt 3 d 2 rfl<|pL [49,50] 50 (vB (c.2.2.1==0))<|cy 50 b (fun L b=>?_) (fun L b=>?_)
      ·refine p1 51 (pt f 4)<|bt 4 d 4 rfl<|pL [53,54,55,56,57] 57 (vB (!c.2.2.2.2.1))<|cy 57 b (fun M b=>?_) (fun M b=>?_)
       ·refine pL [58,59] 59 (vB l)<|cy 59 b (fun N b=>?_) (fun N b=>?_)
        ·refine pN 7 [60,61,62,63,64,65,66] [(65,vB true),(66,bp f)]<|bt 3 d 0 rfl<|pL [68,69] 69 (vB (c.1==3))<|bO [(1,bp f),(65,vB true),(69,vB (c.1==3))]<|cy 69 b (fun O b=>?_) (fun O b=>?_)
         ·refine pL [2,70,71,72,73,74,75] 2 (vB true)<|aa ?_;obtain rfl:=sj b;exact ad fun a hd hs aq=>⟨e,bX,hd,hs,bc aq⟩
         ·refine p1 70 (pt f 5)<|bt 22 d 5 rfl<|pL [2,72,73,74,75] 2 (vB ((lz c.2.2.2.2.2.1)==0))<|aj b ?_;intro bn P b;refine cq (s:=2) (v:=(vB ((lz c.2.2.2.2.2.1)==0))) (v':=(vB bn)) kr (congrArg (Value.bool) (sj P))<|aa ?_;obtain rfl:=sj b;exact ad fun a hd hs aq=>⟨e,bX,hd,hs,bc aq⟩
        ·refine p1 60 (pt f 3)<|bt 4 d 3 rfl<|pL [62,63,64,65] 65 (vB (!c.2.2.2.1))<|bO [(1,bp f),(65,vB (!c.2.2.2.1))]<|cy 65 b (fun Q b=>?_) (fun Q b=>?_)
         ·refine p1 66 (bp f)<|bt 3 d 0 rfl<|pL [68,69] 69 (vB (c.1==3))<|cy 69 b (fun R b=>?_) (fun R b=>?_)
          ·refine pL [2,70,71,72,73,74,75] 2 (vB true)<|aa ?_;obtain rfl:=sj b;exact ad fun a hd hs aq=>⟨e,bX,hd,hs,bc aq⟩
          ·refine p1 70 (pt f 5)<|bt 22 d 5 rfl<|pL [2,72,73,74,75] 2 (vB ((lz c.2.2.2.2.2.1)==0))<|aj b ?_;intro bs S b;refine cq (s:=2) (v:=(vB ((lz c.2.2.2.2.2.1)==0))) (v':=(vB bs)) kr (congrArg (Value.bool) (sj S))<|aa ?_;obtain rfl:=sj b;exact ad fun a hd hs aq=>⟨e,bX,hd,hs,bc aq⟩
         ·refine pL [2,66,67,68,69,70,71,72,73,74,75] 2 (vB false)<|aa ?_;obtain rfl:=sj b;exact ad fun a hd hs aq=>⟨e,bX,hd,hs,bc aq⟩
       ·refine pL [2,58,59,60,61,62,63,64,65,66,67,68,69,70,71,72,73,74,75] 2 (vB false)<|aa ?_;obtain rfl:=sj b;exact ad fun a hd hs aq=>⟨e,bX,hd,hs,bc aq⟩
      ·refine pL [2,51,52,53,54,55,56,57,58,59,60,61,62,63,64,65,66,67,68,69,70,71,72,73,74,75] 2 (vB false)<|aa ?_;obtain rfl:=sj b;exact ad fun a hd hs aq=>⟨e,bX,hd,hs,bc aq⟩
    ·refine p1 38 (pt f 1)<|bt 3 d 1 rfl<|pL [40,41,42] 42 (vB (c.2.1==0))<|cy 42 b (fun T b=>?_) (fun T b=>?_)
     ·refine p1 43 (bp f)<|bt 3 d 0 rfl<|pL [45,46] 46 (vB (c.1==10))<|cy 46 b (fun U b=>?_) (fun U b=>?_)
      ·refine pN 13 [47,48,49,50,51,52,53,54,55,56,57,58,59] [(57,vB true),(59,vB l)]<|cy 59 b (fun V b=>?_) (fun V b=>?_)
       ·refine pN 7 [60,61,62,63,64,65,66] [(65,vB true),(66,bp f)]<|bt 3 d 0 rfl<|pL [68,69] 69 (vB (c.1==3))<|cy 69 b (fun W b=>?_) (fun W b=>?_)
        ·refine pL [2,70,71,72,73,74,75] 2 (vB true)<|aa ?_;obtain rfl:=sj b;exact ad fun a hd hs aq=>⟨e,bX,hd,hs,bc aq⟩
        ·refine p1 70 (pt f 5)<|bt 22 d 5 rfl<|pL [2,72,73,74,75] 2 (vB ((lz c.2.2.2.2.2.1)==0))<|bO [(2,vB ((lz c.2.2.2.2.2.1)==0))]<|aj b ?_;intro bA X b;refine cq (s:=2) (v:=(vB ((lz c.2.2.2.2.2.1)==0))) (v':=(vB bA)) kr (congrArg (Value.bool) (sj X))<|aa ?_;obtain rfl:=sj b;exact ad fun a hd hs aq=>⟨e,bX,hd,hs,bc aq⟩
       ·refine p1 60 (pt f 3)<|bt 4 d 3 rfl<|pL [62,63,64,65] 65 (vB (!c.2.2.2.1))<|cy 65 b (fun Y b=>?_) (fun Y b=>?_)
        ·refine p1 66 (bp f)<|bt 3 d 0 rfl<|pL [68,69] 69 (vB (c.1==3))<|bO [(1,bp f),(65,vB true),(69,vB (c.1==3))]<|cy 69 b (fun Z b=>?_) (fun Z b=>?_)
         ·refine pL [2,70,71,72,73,74,75] 2 (vB true)<|aa ?_;obtain rfl:=sj b;exact ad fun a hd hs aq=>⟨e,bX,hd,hs,bc aq⟩
         ·refine p1 70 (pt f 5)<|bt 22 d 5 rfl<|pL [2,72,73,74,75] 2 (vB ((lz c.2.2.2.2.2.1)==0))<|aj b ?_;intro bE ah b;refine cq (s:=2) (v:=(vB ((lz c.2.2.2.2.2.1)==0))) (v':=(vB bE)) kr (congrArg (Value.bool) (sj ah))<|aa ?_;obtain rfl:=sj b;exact ad fun a hd hs aq=>⟨e,bX,hd,hs,bc aq⟩
        ·refine pL [2,66,67,68,69,70,71,72,73,74,75] 2 (vB false)<|aa ?_;obtain rfl:=sj b;exact ad fun a hd hs aq=>⟨e,bX,hd,hs,bc aq⟩
      ·refine p1 47 (pt f 2)<|bt 3 d 2 rfl<|pL [49,50] 50 (vB (c.2.2.1==0))<|cy 50 b (fun an b=>?_) (fun an b=>?_)
       ·refine p1 51 (pt f 4)<|bt 4 d 4 rfl<|pL [53,54,55,56,57] 57 (vB (!c.2.2.2.2.1))<|cy 57 b (fun ax b=>?_) (fun ax b=>?_)
        ·refine pL [58,59] 59 (vB l)<|bO [(1,bp f),(57,vB true),(59,vB l)]<|cy 59 b (fun a0 b=>?_) (fun a0 b=>?_)
         ·refine pN 7 [60,61,62,63,64,65,66] [(65,vB true),(66,bp f)]<|bt 3 d 0 rfl<|pL [68,69] 69 (vB (c.1==3))<|cy 69 b (fun a1 b=>?_) (fun a1 b=>?_)
          ·refine pL [2,70,71,72,73,74,75] 2 (vB true)<|aa ?_;obtain rfl:=sj b;exact ad fun a hd hs aq=>⟨e,bX,hd,hs,bc aq⟩
          ·refine p1 70 (pt f 5)<|bt 22 d 5 rfl<|pL [2,72,73,74,75] 2 (vB ((lz c.2.2.2.2.2.1)==0))<|aj b ?_;intro b0 a2 b;refine cq (s:=2) (v:=(vB ((lz c.2.2.2.2.2.1)==0))) (v':=(vB b0)) kr (congrArg (Value.bool) (sj a2))<|aa ?_;obtain rfl:=sj b;exact ad fun a hd hs aq=>⟨e,bX,hd,hs,bc aq⟩
         ·refine p1 60 (pt f 3)<|bt 4 d 3 rfl<|pL [62,63,64,65] 65 (vB (!c.2.2.2.1))<|cy 65 b (fun a3 b=>?_) (fun a3 b=>?_)
          ·refine p1 66 (bp f)<|bt 3 d 0 rfl<|pL [68,69] 69 (vB (c.1==3))<|cy 69 b (fun a4 b=>?_) (fun a4 b=>?_)
           ·refine pL [2,70,71,72,73,74,75] 2 (vB true)<|aa ?_;obtain rfl:=sj b;exact ad fun a hd hs aq=>⟨e,bX,hd,hs,bc aq⟩
           ·refine p1 70 (pt f 5)<|bt 22 d 5 rfl<|pL [2,72,73,74,75] 2 (vB ((lz c.2.2.2.2.2.1)==0))<|aj b ?_;intro b2 a5 b;refine cq (s:=2) (v:=(vB ((lz c.2.2.2.2.2.1)==0))) (v':=(vB b2)) kr (congrArg (Value.bool) (sj a5))<|aa ?_;obtain rfl:=sj b;exact ad fun a hd hs aq=>⟨e,bX,hd,hs,bc aq⟩
          ·refine pL [2,66,67,68,69,70,71,72,73,74,75] 2 (vB false)<|aa ?_;obtain rfl:=sj b;exact ad fun a hd hs aq=>⟨e,bX,hd,hs,bc aq⟩
        ·refine pL [2,58,59,60,61,62,63,64,65,66,67,68,69,70,71,72,73,74,75] 2 (vB false)<|bO [(2,vB false)]<|aa ?_;obtain rfl:=sj b;exact ad fun a hd hs aq=>⟨e,bX,hd,hs,bc aq⟩
       ·refine pL [2,51,52,53,54,55,56,57,58,59,60,61,62,63,64,65,66,67,68,69,70,71,72,73,74,75] 2 (vB false)<|aa ?_;obtain rfl:=sj b;exact ad fun a hd hs aq=>⟨e,bX,hd,hs,bc aq⟩
     ·refine pL [2,43,44,45,46,47,48,49,50,51,52,53,54,55,56,57,58,59,60,61,62,63,64,65,66,67,68,69,70,71,72,73,74,75] 2 (vB false)<|aa ?_;obtain rfl:=sj b;exact ad fun a hd hs aq=>⟨e,bX,hd,hs,bc aq⟩
   ·rintro a t ⟨a6,ca,hd,hs,aq⟩;refine aT ?_ hd hs aq;refine am ?_;obtain rfl:=sj m;refine av (ap [vB u] rfl ⟨kr,trivial⟩ ?_);exact ⟨ac a6,rfl⟩

theorem utf8_ValidRune_ok (ak:Nat) (b:Int) (d:World) (m:Bool) (c:utf8_ValidRune ak b=some m):
    Cs 162 [vR b] d (G1 d [vB m]):=by
 have f:Bl d d:=Below.refl _ _;unfold utf8_ValidRune at c;refine aK Tryz.func162 rfl Tryz.ntmps162 kr ?_;refine bO [(0,vR b)]<|aP<|pN 1 [2] []<|cz<|aR<|aP<|aX (J:=fun a n=>d=n∧Qa a 17 [(0,vR b),(3,vB ((decide (0≤b))&&(decide (b<55296))))]) ?_ ?_
 ·refine pL [4,5,6] 6 (vB (decide (0≤b)))<|bB (s:=6) (g:=(decide (0≤b))) kr (fun h=>?_) (fun h=>?_)
  ·refine pL [3,7,8,9] 3 (vB (decide (b<55296)))<|aa<|bi [0,3] (σ':=[(0,vR b),(3,vB (decide (b<55296)))]) kr<|ad fun a hd hs aq=>⟨rfl,hd,hs,?_⟩;obtain ⟨k,l,_⟩:=aq;exact ⟨k,(by rw[h];exact l),trivial⟩
  ·refine pL [3,7,8,9] 3 (vB false)<|aa<|bi [0,3] (σ':=[(0,vR b),(3,vB false)]) kr<|ad fun a hd hs aq=>⟨rfl,hd,hs,?_⟩;obtain ⟨k,l,_⟩:=aq;exact ⟨k,(by rw[h];exact l),trivial⟩
 ·rintro a n ⟨e,hd,hs,aq⟩;subst e;refine aT ?_ hd hs aq;refine bH c (fun o c=>?_) (fun o c=>?_)
  ·refine aP<|p1 2 (vB true)<|aa<|am ?_
   obtain rfl:=sj c;refine av (ap [vB true] rfl ⟨kr,trivial⟩ ?_);exact ⟨ac f,rfl⟩
  ·refine aP<|aX (J:=fun a p=>d=p∧Qa a 17 [(10,vB ((decide (57343<b))&&(decide (b≤1114111))))]) ?_ ?_
   ·refine pL [11,12,13] 13 (vB (decide (57343<b)))<|bB (s:=13) (g:=(decide (57343<b))) kr (fun i=>?_) (fun i=>?_)
    ·refine pL [10,14,15,16] 10 (vB (decide (b≤1114111)))<|aa<|bi [10] (σ':=[(10,vB (decide (b≤1114111)))]) kr<|ad fun a hd hs aq=>⟨rfl,hd,hs,?_⟩;obtain ⟨j,_⟩:=aq;exact ⟨(by rw[i];exact j),trivial⟩
    ·refine pL [10,14,15,16] 10 (vB false)<|aa<|bi [10] (σ':=[(10,vB false)]) kr<|ad fun a hd hs aq=>⟨rfl,hd,hs,?_⟩;obtain ⟨j,_⟩:=aq;exact ⟨(by rw[i];exact j),trivial⟩
   ·rintro a p ⟨e,hd,hs,aq⟩;subst e;refine aT ?_ hd hs aq;refine bH c (fun q c=>?_) (fun q c=>?_)
    ·refine aP<|p1 2 (vB true)<|aa<|am ?_
     obtain rfl:=sj c;refine av (ap [vB true] rfl ⟨kr,trivial⟩ ?_);exact ⟨ac f,rfl⟩
    ·refine aD<|bM<|aP<|p1 2 (vB false)<|aa<|am ?_
     obtain rfl:=sj c;refine av (ap [vB false] rfl ⟨kr,trivial⟩ ?_);exact ⟨ac f,rfl⟩

theorem regex_scalar_ok (ak:Nat) (b:Int) (d:World) (j:Bool) (f:regex_scalar ak b=some j):
    Cs 137 [vI b] d (G1 d [vB j]):=by
 have e:Bl d d:=Below.refl _ _;unfold regex_scalar at f;refine aK Tryz.func137 rfl Tryz.ntmps137 kr ?_;refine bO [(0,vI b)]<|aP<|pN 1 [2] []<|bF<|aj f ?_;intro k c f
 refine aX (J:=fun a h=>Bl d h∧Sz d h∧Qa a 14 [(2,vB k)]) ?_ ?_
 ·refine pL [3,4,5] 5 (vB (decide (b≥0)))<|cy 5 c (fun l c=>?_) (fun l c=>?_)
  ·refine pL [6,7,8,9] 9 (vB (decide (b≤1114111)))<|cy 9 c (fun m c=>?_) (fun m c=>?_)
   ·refine pL [10,11] 11 (vR (wR (b)))<|aj c ?_;intro n o c;refine au kr rfl kr enters162 (utf8_ValidRune_ok ak (wR (b)) d n o) ?_;rintro q r ⟨g,rfl⟩;refine pL [2,13] 2 (vB n)<|aa ?_;obtain rfl:=sj c;refine ad fun a hd hs aq=>?_;exact ⟨(bg e g nb),g.size,hd,hs,bc aq⟩
   ·refine pL [2,10,11,12,13] 2 (vB false)<|aa ?_;obtain rfl:=sj c;exact ad fun a hd hs aq=>⟨e,bX,hd,hs,bc aq⟩
  ·refine pL [2,6,7,8,9,10,11,12,13] 2 (vB false)<|aa ?_;obtain rfl:=sj c;exact ad fun a hd hs aq=>⟨e,bX,hd,hs,bc aq⟩
 ·rintro a h ⟨i,p,hd,hs,aq⟩;refine aT ?_ hd hs aq;refine am ?_;obtain rfl:=sj f;refine av (ap [vB k] rfl ⟨kr,trivial⟩ ?_);exact ⟨ac i,rfl⟩

theorem regex_ordered_ok (ak:Nat) (af:bm) (ag:Nat) (b:List bQ) (m:World) (X0:Nat→Prop) (x:Lw X0 m) (aw:Rd bK m X0 af ag b) (r0:Bool) (u:regex_ordered ak b=some r0):
    Cs 138 [vL af b ag] m (G1 m [vB r0]):=by
 have be:Bl m m:=Below.refl _ _;unfold regex_ordered at u;refine aK Tryz.func138 rfl Tryz.ntmps138 kr ?_;refine bO [(0,vL af b ag)]<|aP<|pN 1 [2] []<|cz<|aP<|pN 3 [5,6,7] [(5,vL af b ag),(6,vI (lz b)),(7,vI 0)]<|aa<|aj u ?_;intro j1 z u
 refine aE (J:=fun a V=>∃ s2:Unit,j1= .inl s2∧Bl m V∧Sz m V∧Qa a 49 [(0,vL af b ag)]) ?_ ?_
 ·refine aR<|cf (A:=fun (l:Int) a L=>Bl m L∧Sz m L∧Qa a 49 [(0,vL af b ag),(5,vL af b ag),(6,vI (lz b)),(7,vI l)]) z ?_ ?_
  ·intro a hd hs aq;exact ⟨be,bX,hd,hs,bc aq⟩
  ·rintro l r2 p R a L ⟨h,S,hd,hs,aq⟩;refine aT ?_ hd hs aq;refine aP<|p1 8 (vB (decide (l<(lz b))))<|cz<|bH p (fun bn p=>?_) (fun bn p=>?_)
   ·refine aD<|aM<|aR<|aP<|p1 9 (vI l)<|aj p ?_;intro q B p;refine cW .i64 2 (aw.below h x) B aO ?_;obtain ⟨_,⟨_,_,rfl,rfl,rfl⟩,W⟩:=aw.cellsK B;refine laq 37 (aL af ((l:Int).toNat*2)) (bP q) (bN (W L (fun k hk=>h.block k (x k hk)))) ?_;refine az bp #[vI 0,vI 0] 37 kr kr ?_;intro c cx r X n b1;refine p1 3 (vI l)<|aC 37 0 (.agg (bP q)) (bP q) X kr kr kr ?_;intro bs t Y b2;refine cz<|aj p ?_;intro bE d p
    refine aE (J:=fun a C=>Bl m C∧Sz bs C∧Qa a 49 [(0,vL af b ag),(5,vL af b ag),(6,vI (lz b)),(7,vI l),(44,vB bE)]) ?_ ?_
    ·refine bw kr ?_;intro D f;refine aN [0] (bA 33 [0]) 32 kr kr<|p1 12 (bp c)<|aa<|al<|aA (cQ D []) [1] [(1,some true)] (bA 33 [0,1]) 31 kr kr (ao _ _) ?_;have b3:=ao D [];have E:=Y.grown f nb;refine cm 3 ⟨c,0,none⟩ (vI q.1) (bu fun w' hC'=>((hC'.box E aV).cell 0 rfl)) ?_;refine aa<|al<|aA (fun _=>True) [2] [(2,some false)] (bA 33 [0,1,2]) 30 kr kr trivial ?_;refine aj d ?_;intro T Z d;refine clq enters137 (regex_scalar_ok ak q.1 D T Z) ?_;rintro c0 o ⟨g,rfl⟩;refine ⟨(fun _=>trivial),?_⟩;refine aa<|al<|aN [3,4,5] (bA 33 [0,1,2,3,4,5]) 27 kr kr<|pL [15,16] 16 (vB (!T))<|cy 16 d (fun ah d=>?_) (fun ah d=>?_)
     ·refine p1 17 undef<|aa<|al<|aA (cQ o []) [6] [(6,some true)] (bA 33 [0,1,2,3,4,5,6]) 26 kr kr (ao _ _) ?_;have b4:=ao o [];refine p1 18 undef<|aa<|al<|aA (fun _=>True) [7] [(7,some false)] (bA 33 [0,1,2,3,4,5,6,7]) 25 kr kr trivial ?_;refine cS trivial 1 [19] [(19,undef)] kr<|bO [(0,vL af b ag),(3,vI l),(4,bp c),(5,vL af b ag),(6,vI (lz b)),(7,vI l),(16,vB true),(19,undef)]<|aa<|al<|aN [8,9,10,11,13] (bA 33 [0,1,2,3,4,5,6,7,8,9,10,11,13]) 20 kr kr<|pN 5 [20,21,22,23,25] [(22,vB true),(23,undef),(25,undef)]<|aa<|al<|aA (cQ o []) [12,14] [(12,some true),(14,some true)] (bA 33 [0,1,2,3,4,5,6,7,8,9,10,11,12,13,14]) 18 kr kr (ao _ _) ?_;have b5:=ao o [];refine pN 2 [24,26] [(24,undef),(26,undef)]<|aa<|al<|aN [15,16,17,18,19,20,21,23,24,25,26,27] (bA 33 [0,1,2,3,4,5,6,7,8,9,10,11,12,13,14,15,16,17,18,19,20,21,23,24,25,26,27]) 6 kr kr<|pN 12 [27,28,29,30,31,32,33,35,36,37,38,39] [(29,vB true),(32,undef),(33,undef),(39,undef)]<|aa<|al<|aA (cQ o []) [22,28,29] [(22,some true),(28,some true),(29,some true)] (bA 33 [0,1,2,3,4,5,6,7,8,9,10,11,12,13,14,15,16,17,18,19,20,21,22,23,24,25,26,27,28,29]) 3 kr kr (ao _ _) ?_;have b7:=ao o [];refine pN 3 [34,40,41] [(34,undef),(41,undef)]<|aa<|al<|aN [30,31,32] (bA 33 [0,1,2,3,4,5,6,7,8,9,10,11,12,13,14,15,16,17,18,19,20,21,22,23,24,25,26,27,28,29,30,31,32]) 0 kr kr<|pL [42,43,44] 44 (vB true)<|aa<|al<|aQ kr ?_;obtain rfl:=sj d;refine ad fun a hd hs aq=>?_;have M:m.heap.size≤c:=bR n h.size;exact ⟨(bg (bg (bg h r nb) t (aU M)) (ab f g) nb),(nt f.size g.size),hd,hs,bc aq⟩
     ·refine p1 17 (pt c 1)<|aa<|al<|aA (cQ o []) [6] [(6,some true)] (bA 33 [0,1,2,3,4,5,6]) 26 kr kr (ao _ _) ?_;have ca:=ao o [];have F:=E.grown g nb;refine cm 3 ⟨c,1,none⟩ (vI q.2) (bu fun w' hC'=>((hC'.box F aV).cell 1 rfl)) ?_;refine aa<|al<|aA (fun _=>True) [7] [(7,some false)] (bA 33 [0,1,2,3,4,5,6,7]) 25 kr kr trivial ?_;refine aj d ?_;intro G an d;refine clq enters137 (regex_scalar_ok ak q.2 o G an) ?_;rintro c1 j ⟨i,rfl⟩;refine ⟨(fun _=>trivial),?_⟩;refine aa<|al<|aN [8,9,10,11,13] (bA 33 [0,1,2,3,4,5,6,7,8,9,10,11,13]) 20 kr kr<|pL [20,21,22] 22 (vB (!G))<|bO [(0,vL af b ag),(3,vI l),(4,bp c),(5,vL af b ag),(6,vI (lz b)),(7,vI l),(22,vB (!G))]<|cy 22 d (fun ax d=>?_) (fun ax d=>?_)
      ·refine pN 2 [23,25] [(23,undef),(25,undef)]<|aa<|al<|aA (cQ j []) [12,14] [(12,some true),(14,some true)] (bA 33 [0,1,2,3,4,5,6,7,8,9,10,11,12,13,14]) 18 kr kr (ao _ _) ?_;have cb:=ao j [];refine pN 2 [24,26] [(24,undef),(26,undef)]<|aa<|al<|aN [15,16,17,18,19,20,21,23,24,25,26,27] (bA 33 [0,1,2,3,4,5,6,7,8,9,10,11,12,13,14,15,16,17,18,19,20,21,23,24,25,26,27]) 6 kr kr<|pN 12 [27,28,29,30,31,32,33,35,36,37,38,39] [(29,vB true),(32,undef),(33,undef),(39,undef)]<|aa<|al<|aA (cQ j []) [22,28,29] [(22,some true),(28,some true),(29,some true)] (bA 33 [0,1,2,3,4,5,6,7,8,9,10,11,12,13,14,15,16,17,18,19,20,21,22,23,24,25,26,27,28,29]) 3 kr kr (ao _ _) ?_;have cc:=ao j [];refine pN 3 [34,40,41] [(34,undef),(41,undef)]<|aa<|al<|aN [30,31,32] (bA 33 [0,1,2,3,4,5,6,7,8,9,10,11,12,13,14,15,16,17,18,19,20,21,22,23,24,25,26,27,28,29,30,31,32]) 0 kr kr<|pL [42,43,44] 44 (vB true)<|aa<|al<|aQ kr ?_;obtain rfl:=sj d;refine ad fun a hd hs aq=>?_;have N:m.heap.size≤c:=bR n h.size;exact ⟨(bg (bg (bg h r nb) t (aU N)) (ab (ab f g) i) nb),(nt (nt f.size g.size) i.size),hd,hs,bc aq⟩
      ·refine pN 2 [23,25] [(23,bp c),(25,pt c 1)]<|aa<|al<|aA (cQ j []) [12,14] [(12,some true),(14,some true)] (bA 33 [0,1,2,3,4,5,6,7,8,9,10,11,12,13,14]) 18 kr kr (ao _ _) ?_;have ch:=ao j [];have y:=F.grown i nb;refine cm 3 ⟨c,0,none⟩ (vI q.1) (bu fun w' hC'=>((hC'.box y aV).cell 0 rfl)) ?_;refine cm 3 ⟨c,1,none⟩ (vI q.2) (bu fun w' hC'=>((hC'.box y aV).cell 1 rfl)) ?_;refine aa<|al<|aN [15,16,17,18,19,20,21,23,24,25,26,27] (bA 33 [0,1,2,3,4,5,6,7,8,9,10,11,12,13,14,15,16,17,18,19,20,21,23,24,25,26,27]) 6 kr kr<|pL [27,28,29] 29 (vB (decide (q.1>q.2)))<|cy 29 d (fun a0 d=>?_) (fun a0 d=>?_)
       ·refine pN 9 [30,31,32,33,35,36,37,38,39] [(32,undef),(33,undef),(39,undef)]<|aa<|al<|aA (cQ j []) [22,28,29] [(22,some true),(28,some true),(29,some true)] (bA 33 [0,1,2,3,4,5,6,7,8,9,10,11,12,13,14,15,16,17,18,19,20,21,22,23,24,25,26,27,28,29]) 3 kr kr (ao _ _) ?_;have ck:=ao j [];refine pN 3 [34,40,41] [(34,undef),(41,undef)]<|aa<|al<|aN [30,31,32] (bA 33 [0,1,2,3,4,5,6,7,8,9,10,11,12,13,14,15,16,17,18,19,20,21,22,23,24,25,26,27,28,29,30,31,32]) 0 kr kr<|pL [42,43,44] 44 (vB true)<|aa<|al<|aQ kr ?_;obtain rfl:=sj d;refine ad fun a hd hs aq=>?_;have O:m.heap.size≤c:=bR n h.size;exact ⟨(bg (bg (bg h r nb) t (aU O)) (ab (ab f g) i) nb),(nt (nt f.size g.size) i.size),hd,hs,bc aq⟩
       ·refine pL [30,31,32] 32 (vB (decide (l>0)))<|cy 32 d (fun a1 d=>?_) (fun a1 d=>?_)
        ·refine pN 4 [33,35,36,37] [(33,bp c),(35,vL af b ag),(37,vI (wI (l-1)))]<|aj d ?_;intro H I d;have P:m.heap.size≤c:=bR n h.size;have w:=bg (bg (bg h r nb) t (aU P)) (ab (ab f g) i) nb;refine cW .i64 2 (aw.below w x) I aO<|p1 39 (.pointer (some (Addr.add (aL af (((wI (l-1)):Int).toNat*2)) 1)))<|aa<|al<|aA (cQ j []) [22,28,29] [(22,some true),(28,some true),(29,some true)] (bA 33 [0,1,2,3,4,5,6,7,8,9,10,11,12,13,14,15,16,17,18,19,20,21,22,23,24,25,26,27,28,29]) 3 kr kr (ao _ _) ?_;have cs:=ao j [];refine cm 3 ⟨c,0,none⟩ (vI q.1) (bu fun w' hC'=>((hC'.box y aV).cell 0 rfl)) ?_;obtain ⟨_,⟨_,_,rfl,rfl,rfl⟩,a2⟩:=aw.cellsK I;refine cm 3 (Addr.add (aL af (((wI (l-1)):Int).toNat*2)) 1) (vI H.2) (bu fun w' hC'=>((a2 w' (fun k hk=>(hC'.2 k ((aF x w.size) k hk) (fun hg=>cj k hg hk)).trans (w.block k (x k hk)))) 1 _ rfl)) ?_;refine p1 41 (vI (wI (H.2+1)))<|aa<|al<|aN [30,31,32] (bA 33 [0,1,2,3,4,5,6,7,8,9,10,11,12,13,14,15,16,17,18,19,20,21,22,23,24,25,26,27,28,29,30,31,32]) 0 kr kr<|pL [42,43,44] 44 (vB (decide (q.1≤(wI (H.2+1)))))<|aa<|al<|aQ kr ?_;obtain rfl:=sj d;refine ad fun a hd hs aq=>?_;exact ⟨w,(nt (nt f.size g.size) i.size),hd,hs,bc aq⟩
        ·refine pN 6 [33,35,36,37,38,39] [(33,undef),(39,undef)]<|aa<|al<|aA (cQ j []) [22,28,29] [(22,some true),(28,some true),(29,some true)] (bA 33 [0,1,2,3,4,5,6,7,8,9,10,11,12,13,14,15,16,17,18,19,20,21,22,23,24,25,26,27,28,29]) 3 kr kr (ao _ _) ?_;have cv:=ao j [];refine pN 3 [34,40,41] [(34,undef),(41,undef)]<|aa<|al<|aN [30,31,32] (bA 33 [0,1,2,3,4,5,6,7,8,9,10,11,12,13,14,15,16,17,18,19,20,21,22,23,24,25,26,27,28,29,30,31,32]) 0 kr kr<|pL [42,43,44] 44 (vB false)<|aa<|al<|aQ kr ?_;obtain rfl:=sj d;refine ad fun a hd hs aq=>?_;have Q:m.heap.size≤c:=bR n h.size;exact ⟨(bg (bg (bg h r nb) t (aU Q)) (ab (ab f g) i) nb),(nt (nt f.size g.size) i.size),hd,hs,bc aq⟩
    ·rintro a C ⟨K,a3,hd,hs,aq⟩;refine aT ?_ hd hs aq;have a4:=(nt (nt (nt S r.size) t.size) a3);refine bH p (fun a5 p=>?_) (fun a5 p=>?_)
     ·refine aP<|p1 2 (vB false)<|aa<|am ?_
      obtain rfl:=sj p;replace z:=congrArg some (R _ rfl);obtain rfl:=sj z;replace u:=bk u;obtain rfl:=sj u;refine av (ap [vB false] rfl ⟨kr,trivial⟩ ?_);exact ⟨ac K,rfl⟩
     ·refine aD<|bM<|aB<|pL [7,45] 7 (vI (wI (l+1)))<|aa ?_;obtain rfl:=sj p;refine ad fun a hd hs aq=>?_;exact ⟨(wI (l+1)),rfl,K,a4,hd,hs,bc aq⟩
   ·refine bI<|bU rfl ?_
    obtain rfl:=sj p;replace z:=congrArg some (R _ rfl);obtain rfl:=sj z;refine ad fun a hd hs aq=>?_;exact ⟨(),rfl,h,S,hd,hs,bc aq⟩
 ·rintro a V ⟨s2,e,a6,cw,hd,hs,aq⟩;subst e;refine aT ?_ hd hs aq;replace u:=bJ u;refine aP<|pL [2,46,47,48] 2 (vB (decide ((lz b)>0)))<|aj u ?_;intro U a7 u;refine cq (s:=2) (v:=(vB (decide ((lz b)>0)))) (v':=(vB U)) kr (congrArg (Value.bool) (sj a7))<|aa<|am ?_
  obtain rfl:=sj u;refine av (ap [vB U] rfl ⟨kr,trivial⟩ ?_);exact ⟨ac a6,rfl⟩

theorem slices_Index_sint_int_ok (ak:Nat) (af:bm) (ag:Nat) (b:List Int) (g:Int) (d:World) (s:Nat→Prop) (l:Lw s d) (aw:Rd (iE .i64) d s af ag b) (t:Int) (h:slices_Index_sint_int ak b g=some t):
    Cs 161 [vL af b ag,vI g] d (G1 d [vI t]):=by
 have u:Bl d d:=Below.refl _ _;unfold slices_Index_sint_int at h;refine aK Tryz.func161 rfl Tryz.ntmps161 kr ?_;refine bO [(0,vL af b ag),(1,vI g)]<|aP<|pN 1 [4] []<|cz<|aP<|pN 3 [6,7,8] [(7,vI (lz b)),(8,vI 0)]<|aa<|aj h ?_;intro y j h
 refine aE (J:=fun a o=>∃ v:Unit,y= .inl v∧Bl d o∧Sz d o∧Qa a 19 []) ?_ ?_
 ·refine aR<|cf (A:=fun (f:Int) a p=>Bl d p∧Sz d p∧Qa a 19 [(0,vL af b ag),(1,vI g),(7,vI (lz b)),(8,vI f)]) j ?_ ?_
  ·intro a hd hs aq;exact ⟨u,bX,hd,hs,bc aq⟩
  ·rintro f B c m a p ⟨i,n,hd,hs,aq⟩;refine aT ?_ hd hs aq;refine aP<|p1 9 (vB (decide (f<(lz b))))<|cz<|bH c (fun w c=>?_) (fun w c=>?_)
   ·refine aD<|aM<|aR<|aP<|pL [5,10] 5 (vI f)<|bF<|pN 3 [11,12,13] [(11,vI g),(12,vL af b ag),(13,vI f)]<|aj c ?_;intro x k c;refine cW .i64 1 (aw.below i l) k cP<|cm 3 (aL af ((f:Int).toNat*1)) (vI x) (bN ((aw.below i l).cell k))<|p1 16 (vB (g==x))<|aa<|bH c (fun q c=>?_) (fun q c=>?_)
    ·refine aP<|pL [4,17] 4 (vI f)<|aa<|am ?_
     obtain rfl:=sj c;replace j:=congrArg some (m _ rfl);obtain rfl:=sj j;replace h:=bk h;obtain rfl:=sj h;refine av (ap [vI f] rfl ⟨kr,trivial⟩ ?_);exact ⟨ac i,rfl⟩
    ·refine aD<|bM<|aB<|pL [8,18] 8 (vI (wI (f+1)))<|aa ?_;obtain rfl:=sj c;refine ad fun a hd hs aq=>?_;exact ⟨(wI (f+1)),rfl,i,n,hd,hs,bc aq⟩
   ·refine bI<|bU rfl ?_
    obtain rfl:=sj c;replace j:=congrArg some (m _ rfl);obtain rfl:=sj j;refine ad fun a hd hs aq=>?_;exact ⟨(),rfl,i,n,hd,hs,bc aq⟩
 ·rintro a o ⟨v,e,r,z,hd,hs,aq⟩;subst e;refine aT ?_ hd hs aq;replace h:=bJ h;refine aP<|p1 4 (vI (-1))<|aa<|am ?_
  obtain rfl:=sj h;refine av (ap [vI (-1)] rfl ⟨kr,trivial⟩ ?_);exact ⟨ac r,rfl⟩

theorem slices_Contains_sint_int_ok (ak:Nat) (af:bm) (ag:Nat) (a:List Int) (b:Int) (c:World) (g:Nat→Prop) (f:Lw g c) (aw:Rd (iE .i64) c g af ag a) (i:Bool) (e:slices_Contains_sint_int ak a b=some i):
    Cs 136 [vL af a ag,vI b] c (G1 c [vB i]):=by
 have d:Bl c c:=Below.refl _ _;unfold slices_Contains_sint_int at e;refine aK Tryz.func136 rfl Tryz.ntmps136 kr ?_;refine bO [(0,vL af a ag),(1,vI b)]<|aP<|pN 1 [4] []<|bF<|pN 2 [5,6] [(5,vL af a ag),(6,vI b)]<|aj e ?_;intro h j e;refine au kr rfl kr enters161 (slices_Index_sint_int_ok ak af ag a b c g (aF f d.size) (aw.below d f) h j) ?_;rintro l m ⟨k,rfl⟩;refine pL [4,8] 4 (vB (decide (h≥0)))<|aa<|am ?_
 obtain rfl:=sj e;refine av (ap [vB (decide (h≥0))] rfl ⟨kr,trivial⟩ ?_);exact ⟨ac (bg d k nb),rfl⟩

theorem regex_formed_1_1_ok (ak:Nat) (af:bm) (ag:Nat) (b:bm) (c:Nat) (d:cu) (g:Nat) (aG:bm) (aH:Nat) (a:List Int) (e:World) (h:Nat→Prop) (j:Lw h e) (k:a9 e g 27 #[vL aG a aH]) (aw:Rd bK e h af ag d.2.2.2.2.2.1) (o:Rd pcE e h b c d.2.2.2.2.2.2) (bv:Rd (iE .i64) e h aG aH a) (p:Bool) (i:regex_formed_1_1 ak d a=some p):
    Cs 135 [.agg (bj d af ag b c),bp g] e (G1 e [vB p]):=by
 have q:Bl e e:=Below.refl _ _;unfold regex_formed_1_1 at i;refine aK Tryz.func135 rfl Tryz.ntmps135 kr ?_;refine bO [(0,.agg (bj d af ag b c)),(1,bp g)] ?_;have t:=k.lt;refine aP<|az bp (bj d af ag b c) 25 kr kr ?_
 intro u v l r w x;refine pN 1 [3] []<|bF<|bt 27 (k.grown l nb) 0 rfl<|p1 5 (bp u)<|bt 3 r 0 rfl<|aj i ?_;intro m s i;have f:=bg q l nb;refine au kr rfl kr enters136 (slices_Contains_sint_int_ok ak aG aH a d.1 v h (aF j f.size) (bv.below f j) m s) ?_;rintro y z ⟨n,rfl⟩;refine p1 3 (vB m)<|aa<|am ?_
 obtain rfl:=sj i;refine av (ap [vB m] rfl ⟨kr,trivial⟩ ?_);exact ⟨ac (bg f n nb),rfl⟩

theorem api_Piece_1_1_3_ok (ak:Nat) (af:bm) (ag:Nat) (h:List Pc) (b:Nat) (c:bm) (d:Nat) (g:List Int) (l:World) (C:Nat→Prop) (n:Lw C l) (r:a9 l b 27 #[vL c g d]) (aw:Rd pcE l C af ag h) (q:Rd (iE .i64) l C c d g) (N:Int) (o:api_Piece_1_1_3 ak h g=some N):
    Cs 144 [vL af h ag,.func (.func 135) #[] #[bp b]] l (G1 l [vI N]):=by
 have O:Bl l l:=Below.refl _ _;unfold api_Piece_1_1_3 at o;refine aK Tryz.func144 rfl Tryz.ntmps144 kr ?_;refine bO [(0,vL af h ag),(1,.func (.func 135) #[] #[bp b])] ?_;have P:=r.lt;refine aP<|pN 1 [4] []<|cz<|aP<|pN 3 [6,7,8] [(7,vI (lz h)),(8,vI 0)]<|aa<|aj o ?_;intro T t o
 refine aE (J:=fun a D=>∃ Q:Unit,T= .inl Q∧Bl l D∧Sz l D∧a9 D b 27 #[vL c g d]∧Qa a 19 []) ?_ ?_
 ·refine aR<|cf (A:=fun (m:Int) a s=>Bl l s∧Sz l s∧a9 s b 27 #[vL c g d]∧Qa a 19 [(0,vL af h ag),(1,.func (.func 135) #[] #[bp b]),(7,vI (lz h)),(8,vI m)]) t ?_ ?_
  ·intro a hd hs aq;exact ⟨O,bX,r,hd,hs,bc aq⟩
  ·rintro m Y j E a s ⟨i,F,u,hd,hs,aq⟩;refine aT ?_ hd hs aq;refine aP<|p1 9 (vB (decide (m<(lz h))))<|cz<|bH j (fun R j=>?_) (fun R j=>?_)
   ·refine aD<|aM<|aR<|aP<|pL [5,10] 5 (vI m)<|bF<|pN 3 [11,12,13] [(11,.func (.func 135) #[] #[bp b]),(12,vL af h ag),(13,vI m)] ?_
    refine aj j ?_;intro v w j;refine cW .i64 7 (aw.below i n) w bo ?_;obtain ⟨_,⟨_,_,rfl,rfl,⟨_,_,rfl,rfl,⟨_,_,rfl,rfl,⟨_,_,rfl,rfl,⟨_,_,rfl,rfl,⟨_,_,rfl,⟨x,y,rfl,G⟩,⟨z,B,rfl,H⟩⟩⟩⟩⟩⟩⟩,I⟩:=cells_un (aw.cellsK w);refine laq 25 (aL af ((m:Int).toNat*7)) (dq (Pc.un v) x y z B) (bN (I s (fun k hk=>i.block k (n k hk)))) ?_;refine aj j ?_;intro S K j;refine cp (f:=135) (vs:=[.agg (dq (Pc.un v) x y z B)]) (cap:=[bp b]) _ cl rfl rfl rfl kr kr enters135 (regex_formed_1_1_ok ak x y z B (Pc.un v) b c d g s C (aF n i.size) u (G.below i n) (H.below i n) (q.below i n) S K) ?_;rintro W X ⟨p,rfl⟩;refine ⟨nofun,?_⟩;refine aa<|bH j (fun L j=>?_) (fun L j=>?_)
    ·refine aP<|pL [4,17] 4 (vI m)<|aa<|am ?_
     obtain rfl:=sj j;replace t:=congrArg some (E _ rfl);obtain rfl:=sj t;replace o:=bk o;obtain rfl:=sj o;refine av (ap [vI m] rfl ⟨kr,trivial⟩ ?_);exact ⟨ac (bg i p nb),rfl⟩
    ·refine aD<|bM<|aB<|pL [8,18] 8 (vI (wI (m+1)))<|aa ?_;obtain rfl:=sj j;refine ad fun a hd hs aq=>?_;exact ⟨(wI (m+1)),rfl,(bg i p nb),(nt F p.size),(u.grown p nb),hd,hs,bc aq⟩
   ·refine bI<|bU rfl ?_
    obtain rfl:=sj j;replace t:=congrArg some (E _ rfl);obtain rfl:=sj t;refine ad fun a hd hs aq=>?_;exact ⟨(),rfl,i,F,u,hd,hs,bc aq⟩
 ·rintro a D ⟨Q,e,M,U,V,hd,hs,aq⟩;subst e;refine aT ?_ hd hs aq;replace o:=bJ o;refine aP<|p1 4 (vI (-1))<|aa<|am ?_
  obtain rfl:=sj o;refine av (ap [vI (-1)] rfl ⟨kr,trivial⟩ ?_);exact ⟨ac M,rfl⟩

theorem api_Piece_1_1_ok (ak:Nat) (af:bm) (ag:Nat) (e:List Pc) (a:Nat) (b:bm) (c:Nat) (d:List Int) (f:World) (k:Nat→Prop) (j:Lw k f) (h:a9 f a 27 #[vL b d c]) (aw:Rd pcE f k af ag e) (g:Rd (iE .i64) f k b c d) (n:Bool) (l:api_Piece_1_1 ak e d=some n):
    Cs 120 [vL af e ag,.func (.func 135) #[] #[bp a]] f (G1 f [vB n]):=by
 have i:Bl f f:=Below.refl _ _;unfold api_Piece_1_1 at l;refine aK Tryz.func120 rfl Tryz.ntmps120 kr ?_;refine bO [(0,vL af e ag),(1,.func (.func 135) #[] #[bp a])] ?_;have o:=h.lt;refine aP<|pN 1 [4] []<|bF<|pN 2 [5,6] [(5,vL af e ag),(6,.func (.func 135) #[] #[bp a])] ?_
 refine aj l ?_;intro m p l;refine au kr rfl kr enters144 (api_Piece_1_1_3_ok ak af ag e a b c d f k (aF j i.size) h (aw.below i j) (g.below i j) m p) ?_;rintro r s ⟨q,rfl⟩;refine pL [4,8] 4 (vB (decide (m≥0)))<|aa<|am ?_
 obtain rfl:=sj l;refine av (ap [vB (decide (m≥0))] rfl ⟨kr,trivial⟩ ?_);exact ⟨ac (bg i q nb),rfl⟩

theorem cZ (ak:Nat) (af:bm) (ag:Nat) (a:List Int) (g:Nat) (aG:bm) (aH:Nat) (c:bm) (d:Nat) (b:cu) (e:World) (h:Nat→Prop) (i:Lw h e) (l:a9 e g 25 (bj b aG aH c d)) (aw:Rd (iE .i64) e h af ag a) (bv:Rd bK e h aG aH b.2.2.2.2.2.1) (j:Rd pcE e h c d b.2.2.2.2.2.2) (p:Bool) (k:regex_formed_1 ak a b=some p):
    Cs 134 [vL af a ag,bp g] e (G1 e [vB p]):=by
 have q:Bl e e:=Below.refl _ _;unfold regex_formed_1 at k;refine aK Tryz.func134 rfl Tryz.ntmps134 kr ?_;refine bO [(0,vL af a ag),(1,bp g)] ?_;have u:=l.lt;refine aP<|az bp #[vL af a ag] 27 kr kr ?_
 intro r v m s w x;refine pN 1 [3] []<|bF<|p1 4 (pt g 6)<|bt 23 (l.grown m nb) 6 rfl<|p1 6 (.func (.func 135) #[] #[bp r]) ?_;refine aj k ?_;intro n t k;have f:=bg q m nb;refine au kr rfl kr enters120 (api_Piece_1_1_ok ak c d b.2.2.2.2.2.2 r af ag a v h (aF i f.size) s (j.below f i) (aw.below f i) n t) ?_;rintro y z ⟨o,rfl⟩;refine pL [3,8] 3 (vB (!n))<|aa<|am ?_
 obtain rfl:=sj k;refine av (ap [vB (!n)] rfl ⟨kr,trivial⟩ ?_);exact ⟨ac (bg f o nb),rfl⟩

theorem regex_formed_ok (ak:Nat) (af:bm) (ag:Nat) (j:bm) (l:Nat) (d:cu) (o:World) (I:Nat→Prop) (p:Lw I o) (aw:Rd bK o I af ag d.2.2.2.2.2.1) (A:Rd pcE o I j l d.2.2.2.2.2.2) (r0:Bool) (i:regex_formed ak d=some r0):
    Cs 115 [.agg (bj d af ag j l)] o (G1 o [vB r0]):=by
 have u:Bl o o:=Below.refl _ _;unfold regex_formed at i;refine aK Tryz.func115 rfl Tryz.ntmps115 kr ?_;refine bO [(0,.agg (bj d af ag j l))]<|aP<|az bp (bj d af ag j l) 25 kr kr ?_
 intro m T w x dL dY;refine pN 1 [2] []<|bF<|p1 5 (pt m 6)<|bt 23 x 6 rfl<|pL [3,7] 3 (vI (lz d.2.2.2.2.2.2))<|aj i ?_;intro r dB i;refine cq (s:=3) (v:=(vI (lz d.2.2.2.2.2.2))) (v':=(vI r)) kr (congrArg (Value.int .i64) (sj dB))<|bF<|pL [4,8] 4 (.func (.func 134) #[] #[bp m]) ?_
 refine cz<|aP<|p1 9 (bp m)<|bt 3 x 0 rfl<|aa<|aR<|aP<|pL [11,12] 11 (vB (d.1==1))<|aa<|bH i (fun dC i=>?_) (fun dC i=>?_)
 ·refine aP<|aj i ?_;intro b0 c i
  refine aX (J:=fun a U=>Bl o U∧Sz T U∧Qa a 80 [(2,vB b0)]) ?_ ?_
  ·refine pL [13,14,15] 15 (vB (r==0))<|cy 15 c (fun cc c=>?_) (fun cc c=>?_)
   ·refine p1 16 (pt m 1)<|bt 3 x 1 rfl<|aj c ?_;intro V ch c;refine au kr rfl kr enters137 (regex_scalar_ok ak d.2.1 T V ch) ?_;rintro dZ d0 ⟨W,rfl⟩;refine pL [2,19] 2 (vB V)<|bO [(2,vB V)]<|aa ?_;obtain rfl:=sj c;refine ad fun a hd hs aq=>?_;exact ⟨(bg u (ab w W) nb),W.size,hd,hs,bc aq⟩
   ·refine pL [2,16,17,18,19] 2 (vB false)<|aa ?_;obtain rfl:=sj c;refine ad fun a hd hs aq=>?_;exact ⟨(bg u w nb),bX,hd,hs,bc aq⟩
  ·rintro a U ⟨ck,dM,hd,hs,aq⟩;refine aT ?_ hd hs aq;refine am ?_;obtain rfl:=sj i;refine av (ap [vB b0] rfl ⟨kr,trivial⟩ ?_);exact ⟨ac ck,rfl⟩
 ·refine aP<|pL [20,21] 20 (vB (d.1==3))<|aa<|bH i (fun cs i=>?_) (fun cs i=>?_)
  ·refine aP<|aj i ?_;intro b2 c i
   refine aX (J:=fun a X=>Bl o X∧Sz T X∧Qa a 80 [(2,vB b2)]) ?_ ?_
   ·refine pL [22,23,24] 24 (vB (r==0))<|cy 24 c (fun cv c=>?_) (fun cv c=>?_)
    ·refine p1 25 (pt m 5)<|bt 22 x 5 rfl<|aj c ?_;intro Z cw c;have K:=bg u w nb;refine au kr rfl kr enters138 (regex_ordered_ok ak af ag d.2.2.2.2.2.1 T I (aF p K.size) (aw.below K p) Z cw) ?_;rintro d1 d2 ⟨ah,rfl⟩;refine pL [2,28] 2 (vB Z)<|bO [(2,vB Z)]<|aa ?_;obtain rfl:=sj c;refine ad fun a hd hs aq=>?_;exact ⟨(bg K ah nb),ah.size,hd,hs,bc aq⟩
    ·refine pL [2,25,26,27,28] 2 (vB false)<|aa ?_;obtain rfl:=sj c;refine ad fun a hd hs aq=>?_;exact ⟨(bg u w nb),bX,hd,hs,bc aq⟩
   ·rintro a X ⟨cx,dN,hd,hs,aq⟩;refine aT ?_ hd hs aq;refine am ?_;obtain rfl:=sj i;refine av (ap [vB b2] rfl ⟨kr,trivial⟩ ?_);exact ⟨ac cx,rfl⟩
  ·refine aM<|aP<|pL [29,30] 29 (vB (d.1==2))<|aa<|aj i ?_;intro dD c i
   refine aE (J:=fun a E=>Bl o E∧Sz T E∧a9 E m 25 (bj d af ag j l)∧Qa a 80 [(1,bp m),(3,vI r),(4,.func (.func 134) #[] #[bp m]),(10,vI d.1),(29,vB dD)]) ?_ ?_
   ·refine bH c (fun c0 c=>?_) (fun c0 c=>?_)
    ·refine aD ?_;obtain rfl:=sj c;refine ad fun a hd hs aq=>?_;exact ⟨(bg u w nb),bX,x,hd,hs,bc aq⟩
    ·refine aP<|pL [29,31] 29 (vB (d.1==4))<|aa<|bH c (fun c1 c=>?_) (fun c1 c=>?_)
     ·refine aD ?_;obtain rfl:=sj c;refine ad fun a hd hs aq=>?_;exact ⟨(bg u w nb),bX,x,hd,hs,bc aq⟩
     ·refine aP<|pL [29,32] 29 (vB (d.1==5))<|aa<|bH c (fun c2 c=>?_) (fun c2 c=>?_)
      ·refine aD ?_;obtain rfl:=sj c;refine ad fun a hd hs aq=>?_;exact ⟨(bg u w nb),bX,x,hd,hs,bc aq⟩
      ·refine aB<|pL [29,33] 29 (vB (d.1==6))<|bO [(1,bp m),(3,vI r),(4,.func (.func 134) #[] #[bp m]),(10,vI d.1),(29,vB (d.1==6))] ?_;refine aa ?_;obtain rfl:=sj c;refine ad fun a hd hs aq=>?_;exact ⟨(bg u w nb),bX,x,hd,hs,bc aq⟩
   ·rintro a E ⟨t,dO,F,hd,hs,aq⟩;refine aT ?_ hd hs aq;refine bH i (fun c3 i=>?_) (fun c3 i=>?_)
    ·refine aP<|pL [2,34,35] 2 (vB (r==0))<|aa<|am ?_
     obtain rfl:=sj i;refine av (ap [vB (r==0)] rfl ⟨kr,trivial⟩ ?_);exact ⟨ac t,rfl⟩
    ·refine aP<|pL [36,37] 36 (vB (d.1==12))<|aa<|bH i (fun c4 i=>?_) (fun c4 i=>?_)
     ·refine aP<|aj i ?_;intro b3 c i
      refine aX (J:=fun a an=>Bl o an∧Sz E an∧Qa a 80 [(2,vB b3)]) ?_ ?_
      ·refine pL [38,39,40] 40 (vB (r==0))<|cy 40 c (fun c5 c=>?_) (fun c5 c=>?_)
       ·refine p1 41 (pt m 1)<|bt 3 F 1 rfl<|pL [43,44,45] 45 (vB (decide (d.2.1≥1)))<|cy 45 c (fun c7 c=>?_) (fun c7 c=>?_)
        ·refine p1 46 (pt m 1)<|bt 3 F 1 rfl<|pL [2,48,49] 2 (vB (decide (d.2.1≤9)))<|aa ?_;obtain rfl:=sj c;exact ad fun a hd hs aq=>⟨t,bX,hd,hs,bc aq⟩
        ·refine pL [2,46,47,48,49] 2 (vB false)<|aa ?_;obtain rfl:=sj c;exact ad fun a hd hs aq=>⟨t,bX,hd,hs,bc aq⟩
       ·refine pL [2,41,42,43,44,45,46,47,48,49] 2 (vB false)<|aa ?_;obtain rfl:=sj c;exact ad fun a hd hs aq=>⟨t,bX,hd,hs,bc aq⟩
      ·rintro a an ⟨c8,dP,hd,hs,aq⟩;refine aT ?_ hd hs aq;refine am ?_;obtain rfl:=sj i;refine av (ap [vB b3] rfl ⟨kr,trivial⟩ ?_);exact ⟨ac c8,rfl⟩
     ·refine aM<|aP<|pL [50,51] 50 (vB (d.1==7))<|aa<|aj i ?_;intro dE c i
      refine aE (J:=fun a B=>Bl o B∧Sz E B∧a9 B m 25 (bj d af ag j l)∧Qa a 80 [(3,vI r),(4,.func (.func 134) #[] #[bp m]),(10,vI d.1),(50,vB dE)]) ?_ ?_
      ·refine bH c (fun c9 c=>?_) (fun c9 c=>?_)
       ·refine aD ?_;obtain rfl:=sj c;exact ad fun a hd hs aq=>⟨t,bX,F,hd,hs,bc aq⟩
       ·refine aB<|pL [50,52] 50 (vB (d.1==11))<|aa ?_;obtain rfl:=sj c;exact ad fun a hd hs aq=>⟨t,bX,F,hd,hs,bc aq⟩
      ·rintro a B ⟨n,dQ,L,hd,hs,aq⟩;refine aT ?_ hd hs aq;refine bH i (fun dr i=>?_) (fun dr i=>?_)
       ·refine aP<|pL [2,53,54] 2 (vB (r==1))<|aa<|am ?_
        obtain rfl:=sj i;refine av (ap [vB (r==1)] rfl ⟨kr,trivial⟩ ?_);exact ⟨ac n,rfl⟩
       ·refine aP<|pL [55,56] 55 (vB (d.1==8))<|aa<|bH i (fun ds i=>?_) (fun ds i=>?_)
        ·refine aP<|aj i ?_;intro b4 c i
         refine aX (J:=fun a ax=>Bl o ax∧Sz B ax∧Qa a 80 [(2,vB b4)]) ?_ ?_
         ·refine pL [57,58,59] 59 (vB (r !=1))<|cy 59 c (fun dt c=>?_) (fun dt c=>?_)
          ·refine p1 60 (.func (.func 134) #[] #[bp m]) ?_;refine az (fun b=>.slice (ro b) 2 2) #[vI 8,vI 9] 3 kr kr ?_;intro C b5 M du bd dR;have a0:ay (iE .i64) 3 b5 (fun _=>False) (ro C) 2 ([8,9]:List Int):=bS du ⟨[vI 8],[vI 9],rfl,rfl,⟨[vI 9],[],rfl,rfl,rfl⟩⟩ (show 2≤maxLen by decide) (fun h=>h);have dS:Lo o (ro C):=loo bd n.size;refine aj c ?_;intro b7 dv c;have G:=bg n M nb;refine cp (f:=134) (vs:=[vL (ro C) ([8,9]:List Int) 2]) (cap:=[bp m]) _ cl rfl rfl rfl kr kr enters134 (cZ ak (ro C) 2 ([8,9]:List Int) m af ag j l d b5 (fun k=>(fun k=>aJ (ro C)=some k) k∨I k) (fun k hk=>(hk).elim (fun h=>(fun k (hk:aJ (ro C)=some k)=>a0.lt k hk) k h) (fun h=>(aF p G.size) k h)) (L.grown M nb) ((a0.rd (Y:=fun k=>aJ (ro C)=some k) fe (fun g e=>e)).wide (fun k hk=>(.inl hk))) ((aw.below G p).wide (fun k hk=>(.inr hk))) ((A.below G p).wide (fun k hk=>(.inr hk))) b7 dv) ?_;rintro d3 d4 ⟨a1,rfl⟩;refine ⟨nofun,?_⟩;refine pL [2,63] 2 (vB b7)<|aa ?_;obtain rfl:=sj c;refine ad fun a hd hs aq=>?_;exact ⟨(bg G a1 nb),(nt M.size a1.size),hd,hs,bc aq⟩
          ·refine pL [2,60,61,62,63] 2 (vB false)<|aa ?_;obtain rfl:=sj c;exact ad fun a hd hs aq=>⟨n,bX,hd,hs,bc aq⟩
         ·rintro a ax ⟨dw,dT,hd,hs,aq⟩;refine aT ?_ hd hs aq;refine am ?_;obtain rfl:=sj i;refine av (ap [vB b4] rfl ⟨kr,trivial⟩ ?_);exact ⟨ac dw,rfl⟩
        ·refine aP<|pL [64,65] 64 (vB (d.1==9))<|aa<|bH i (fun dx i=>?_) (fun dx i=>?_)
         ·refine aP<|aj i ?_;intro ca c i
          refine aX (J:=fun a a2=>Bl o a2∧Sz B a2∧Qa a 80 [(2,vB ca)]) ?_ ?_
          ·refine pL [66,67,68] 68 (vB (decide (r≥2)))<|cy 68 c (fun dy c=>?_) (fun dy c=>?_)
           ·refine p1 69 (.func (.func 134) #[] #[bp m]) ?_;refine az (fun b=>.slice (ro b) 1 1) #[vI 9] 3 kr kr ?_;intro D cb N dz a3 dF;have P:ay (iE .i64) 3 cb (fun _=>False) (ro D) 1 ([9]:List Int):=bS dz ⟨[vI 9],[],rfl,rfl,rfl⟩ (show 1≤maxLen by decide) (fun h=>h);have dG:Lo o (ro D):=loo a3 n.size;refine aj c ?_;intro a4 be c;have y:=bg n N nb;refine cp (f:=134) (vs:=[vL (ro D) ([9]:List Int) 1]) (cap:=[bp m]) _ cl rfl rfl rfl kr kr enters134 (cZ ak (ro D) 1 ([9]:List Int) m af ag j l d cb (fun k=>(fun k=>aJ (ro D)=some k) k∨I k) (fun k hk=>(hk).elim (fun h=>(fun k (hk:aJ (ro D)=some k)=>P.lt k hk) k h) (fun h=>(aF p y.size) k h)) (L.grown N nb) ((P.rd (Y:=fun k=>aJ (ro D)=some k) fe (fun g e=>e)).wide (fun k hk=>(.inl hk))) ((aw.below y p).wide (fun k hk=>(.inr hk))) ((A.below y p).wide (fun k hk=>(.inr hk))) a4 be) ?_;rintro dU dV ⟨Q,rfl⟩;refine ⟨nofun,?_⟩;refine pL [2,72] 2 (vB a4)<|aa ?_;obtain rfl:=sj c;refine ad fun a hd hs aq=>?_;exact ⟨(bg y Q nb),(nt N.size Q.size),hd,hs,bc aq⟩
           ·refine pL [2,69,70,71,72] 2 (vB false)<|aa ?_;obtain rfl:=sj c;exact ad fun a hd hs aq=>⟨n,bX,hd,hs,bc aq⟩
          ·rintro a a2 ⟨bl,dH,hd,hs,aq⟩;refine aT ?_ hd hs aq;refine am ?_;obtain rfl:=sj i;refine av (ap [vB ca] rfl ⟨kr,trivial⟩ ?_);exact ⟨ac bl,rfl⟩
         ·refine aD<|bM<|aP<|aj i ?_;intro a5 c i
          refine aX (J:=fun a O=>Bl o O∧Sz B O∧Qa a 80 [(2,vB a5)]) ?_ ?_
          ·refine pL [73,74,75] 75 (vB (r==1))<|cy 75 c (fun bn c=>?_) (fun bn c=>?_)
           ·refine p1 76 (.func (.func 134) #[] #[bp m]) ?_;refine az (fun b=>.slice (ro b) 7 7) #[vI 8,vI 9,vI 10,vI 4,vI 5,vI 6,vI 11] 3 kr kr ?_;intro q a6 H bs a7 dI;have R:ay (iE .i64) 3 a6 (fun _=>False) (ro q) 7 ([8,9,10,4,5,6,11]:List Int):=bS bs ⟨[vI 8],[vI 9,vI 10,vI 4,vI 5,vI 6,vI 11],rfl,rfl,⟨[vI 9],[vI 10,vI 4,vI 5,vI 6,vI 11],rfl,rfl,⟨[vI 10],[vI 4,vI 5,vI 6,vI 11],rfl,rfl,⟨[vI 4],[vI 5,vI 6,vI 11],rfl,rfl,⟨[vI 5],[vI 6,vI 11],rfl,rfl,⟨[vI 6],[vI 11],rfl,rfl,⟨[vI 11],[],rfl,rfl,rfl⟩⟩⟩⟩⟩⟩⟩ (show 7≤maxLen by decide) (fun h=>h);have dJ:Lo o (ro q):=loo a7 n.size;refine aj c ?_;intro a8 bA c;have z:=bg n H nb;refine cp (f:=134) (vs:=[vL (ro q) ([8,9,10,4,5,6,11]:List Int) 7]) (cap:=[bp m]) _ cl rfl rfl rfl kr kr enters134 (cZ ak (ro q) 7 ([8,9,10,4,5,6,11]:List Int) m af ag j l d a6 (fun k=>(fun k=>aJ (ro q)=some k) k∨I k) (fun k hk=>(hk).elim (fun h=>(fun k (hk:aJ (ro q)=some k)=>R.lt k hk) k h) (fun h=>(aF p z.size) k h)) (L.grown H nb) ((R.rd (Y:=fun k=>aJ (ro q)=some k) fe (fun g e=>e)).wide (fun k hk=>(.inl hk))) ((aw.below z p).wide (fun k hk=>(.inr hk))) ((A.below z p).wide (fun k hk=>(.inr hk))) a8 bA) ?_;rintro dW dX ⟨S,rfl⟩;refine ⟨nofun,?_⟩;refine pL [2,79] 2 (vB a8)<|aa ?_;obtain rfl:=sj c;refine ad fun a hd hs aq=>?_;exact ⟨(bg z S nb),(nt H.size S.size),hd,hs,bc aq⟩
           ·refine pL [2,76,77,78,79] 2 (vB false)<|aa ?_;obtain rfl:=sj c;exact ad fun a hd hs aq=>⟨n,bX,hd,hs,bc aq⟩
          ·rintro a O ⟨bE,dK,hd,hs,aq⟩;refine aT ?_ hd hs aq;refine am ?_;obtain rfl:=sj i;refine av (ap [vB a5] rfl ⟨kr,trivial⟩ ?_);exact ⟨ac bE,rfl⟩

end Go.Proofs.YtmpmeiihjnnomaaGreatDoor
