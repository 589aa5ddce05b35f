import Derived.Test.YtmpmeiihjnnomaaGreatDoorRows
import Derived.Test.YtmpmeiihjnnomaaGreatDoorGh
import Derived.Test.YtmpmeiihjnnomaaGreatDoorD
import Derived.Test.YtmpmeiihjnnomaaGreatDoorGpc
import Derived.Test.YtmpmeiihjnnomaaGreatDoorGal
import Derived.Test.YtmpmeiihjnnomaaGreatDoorGso
import Derived.Test.YtmpmeiihjnnomaaGreatDoorGcp
import Derived.Test.YtmpmeiihjnnomaaGreatDoorGrs
import Derived.Test.YtmpmeiihjnnomaaGreatDoorRc
import Derived.Test.YtmpmeiihjnnomaaGreatDoorRd
import Derived.Test.YtmpmeiihjnnomaaGreatDoorRs
import Derived.Test.YtmpmeiihjnnomaaGreatDoorRm
import Derived.Test.YtmpmeiihjnnomaaGreatDoorSr
import Derived.Test.YtmpmeiihjnnomaaGreatDoorVs
import Derived.Test.YtmpmeiihjnnomaaGreatDoorSt
set_option linter.all false
set_option maxHeartbeats 4000000
set_option maxRecDepth 100000
/- Own work, printed by a program of mine: the walk of each function: a call returns what the plain function says. -/
namespace Go.Proofs.YtmpmeiihjnnomaaGreatDoor
open Go.Gv Go.Gv.D Go.RowKit
open Go.Gv renaming gv_nil→ac,grown_trans→ad,gv_goal→ae,grown_of_below→af,rowne→ag,bindE→ak,grown_step→al,gv_cret→aq,gv_done→ar,gv_call0→av,gv_goA→aw,Own→ay,gv_ret→az,gv_region→aA,Cls.refl→aB,gv_skip→aD,gv_new0→aE,gv_store0→aF,gv_cut_code→aG,gv_block→aH,gv_seq→aJ,gv_stage→aK,calls_run→aM,gv_in→aO,blk→aQ,elemAddr→aR,gv_cut_ops→aT,rowlo→aU,ltx→aV,gv_pre→aW,nm_nil→aZ,gv_stageE→bc,Box→bh,lowb→bj,strOf→bk,gv_sub→bt,gv_blk→bu,rowpp→bw,cont_inr→bC,gv_cexit→bG,inw1→bJ,gv_split→bL,rdnn→bM,Box.ownE→bQ,inw0→bR,gv_exit→bS,gv_loop→bT,gv_drawA→bU,blk_neX→bZ,lob→b8,cont_inl→ce,gv_name→cf,lowo→cg,ltb→cl,gv_append→co,blk_rev→cq,nmx_nil→cu,utf8First→cz,blk_step→cF,gv_call→cH,rowppr→cI,grown_refl→cP,utf8Acc→cR,rdnx→cV,gv_pureNC→c6,Cls→da,pow10C→dr,gv_cond→dt,Rd.nil→dz,gv_new→dA,gv_store→dB
open Go.Proofs.Tryz renaming prog→au,underlying31→aP,underlying22→aS,underlying23→bf,underlying9→bo,underlying25→cd,underlying27→cy,underlying3→cS,underlying54→df
open List (length)
abbrev bq:=Option Addr
theorem cC {p : Prop} (h : p := by decide) : p := h
abbrev wI (x:Int):Int:=IntKind.i64.wrap x
abbrev wU (x:Int):Int:=IntKind.u64.wrap x
abbrev wT (x:Int):Int:=IntKind.u32.wrap x
abbrev wB (x:Int):Int:=IntKind.u8.wrap x
abbrev wR (x:Int):Int:=IntKind.i32.wrap x
abbrev vI (x:Int):Value:=.int .i64 x
abbrev vW (x:Int):Value:=.int .u64 x
abbrev vT (x:Int):Value:=.int .u32 x
abbrev vU (x:Int):Value:=.int .u8 x
abbrev vR (x:Int):Value:=.int .i32 x
abbrev vB (x:Bool):Value:=.bool x
abbrev vS (x:ByteArray):Value:=.string x
abbrev vL {α:Type} (a:bq) (x:List α) (c:Nat):Value:=.slice a x.length c
abbrev ro (b:Nat):bq:=some ⟨b,0,none⟩
abbrev lz {α:Type} (x:List α):Int:=((x.length:Nat):Int)
abbrev bz (x:ByteArray):Int:=((x.size:Nat):Int)
abbrev Ap (a b:bq):Prop:=∀ g,aQ a=some g→¬ (fun k=>aQ b=some k) g
abbrev Lo (w:World) (a:bq):Prop:=∀ g,aQ a=some g→w.heap.size≤g
abbrev Bl (w w':World):Prop:=Below w.heap.size w w'
abbrev Sz (w w':World):Prop:=w.heap.size≤w'.heap.size
abbrev Qa (a:Act) (n:Nat) (σ:List (Nat × Value)):Prop:=a.defers=[]∧a.tmps.size=n∧Ok σ a.tmps
abbrev bm (x:Int × Int × Int × Bool × Bool × (List (Int × Int)) × (List Pc)) (a0:bq) (c0:Nat) (a1:bq) (c1:Nat):Array Value:= #[vI x.1,vI x.2.1,vI x.2.2.1,vB x.2.2.2.1,vB x.2.2.2.2.1,vL a0 x.2.2.2.2.2.1 c0,vL a1 x.2.2.2.2.2.2 c1]
abbrev cO (x:ByteArray × Int × Int × Bool × Bool):Array Value:= #[vS x.1,vI x.2.1,vI x.2.2.1,vB x.2.2.2.1,vB x.2.2.2.2]
abbrev bY (x:Int × Int):Array Value:= #[vI x.1,vI x.2]
abbrev S102 (x:ByteArray × Int):Array Value:= #[vS x.1,vI x.2]
abbrev S153 (x:Bool × (List Int)) (a0:bq) (c0:Nat):Array Value:= #[vB x.1,vL a0 x.2 c0]
theorem xq {X c:Nat→Prop} {a:World} {b:Nat} (hs:∀ k,X k→c k∨a.heap.size≤k) (d:∀ k,c k→k<a.heap.size∧k≠b) (hp:b<a.heap.size):¬ X b:=fun h=>(hs _ h).elim (fun h=>(d _ h).2 rfl) (fun h=>Nat.not_lt_of_le h hp)
theorem rg {α:Type} {E:Enc α} {w w':World} {X:Nat→Prop} {a:bq} {cap b:Nat} {xs:List α} (h:Rd E w X a cap xs) (g:w.grownBy w' (some b)) (c:∀ k,X k→k<w.heap.size∧k≠b):Rd E w' X a cap xs:=h.grown g (fun k hk=>(c k hk).1) (fun g e hk=>by cases e;exact (c _ hk).2 rfl)
theorem jg {a:Nat→Prop} {c w:World} {b:Nat} {r:Option Nat} (d:∀ k,a k→k<c.heap.size∧k≠b) (g:c.grownBy w r):∀ k,a k→k<w.heap.size∧k≠b:=fun k hk=>⟨Nat.lt_of_lt_of_le (d k hk).1 g.size,(d k hk).2⟩
abbrev Sxb (X:Nat→Prop) (w':World) (a:Nat→Prop) (b:World):Prop:=∀ k,X k→k<w'.heap.size∧(a k∨b.heap.size≤k)
theorem sxq {X a:Nat→Prop} {w' b:World} (c:∀ k,X k→k<w'.heap.size) (d:∀ k,X k→a k∨b.heap.size≤k):Sxb X w' a b:=fun k hk=>⟨c k hk,d k hk⟩
abbrev b9:Type:=(List Int) × (List (Int × Int)) × Int
abbrev cD:Type:=Int × Int × Int × Bool × Bool × (List (Int × Int)) × (List Pc)
abbrev dh:Type:=ByteArray × Int × Int × Bool × Bool
abbrev cL:Type:=(Bool × b9) ⊕ Unit
abbrev bO:Type:=Int × Int
abbrev dE:Array Value:= #[vI 0,vI 0,vI 0,vB false,vB false,vL none ([]:List (Int × Int)) 0,vL none ([]:List Pc) 0]
abbrev zQ1:Array Value:= #[vL none ([]:List (Int × Int)) 0]
theorem npb {p:Nat} {a:bq} (h:aQ a≠some p):∀ g,aQ a=some g→¬ (g=p):=fun g e e'=>h (e.trans (congrArg some e'))
theorem nrb {b p:Nat} {a:bq} (h:¬ (b=p∨aQ a=some b)):∀ g,aQ a=some g→¬ (g=b):=fun g e e'=>h (Or.inr (e' ▸ e))
theorem jsr {X S:Nat→Prop} {n m:Nat} (h:∀ k,X k→k<n∧¬ S k) (z:n≤m):∀ k,X k→k<m∧¬ S k:=fun k hk=>⟨Nat.lt_of_lt_of_le (h k hk).1 z,(h k hk).2⟩
theorem cr {α:Type} {E:Enc α} {w w':World} {X T:Nat→Prop} {a:bq} {cap:Nat} {xs:List α} (h:Rd E w X a cap xs) (hg:GF w w' T) (b:∀ k,X k→k<w.heap.size∧¬ T k):Rd E w' X a cap xs:=h.gf hg (fun k hk=>(b k hk).1) (fun k hk=>(b k hk).2)
theorem cW {a b c:World} {S:Nat→Prop} (h:GF a b S) (h':GF b c S):GF a c S:=gf_stepF h h' (fun _ h=>.inl h)
theorem dF {b p:Nat} {r:bq} (a:¬ (p=b)) (c:∀ g,aQ r=some g→¬ (g=b)):¬ (b=p∨aQ r=some b):=fun h=>h.elim (fun e=>a e.symm) (fun e=>c _ e rfl)
theorem nto {T:Nat→Prop} {b:Nat} (h:¬ T b):∀ x,x=b→¬ T x:=fun _ e=>e ▸ h
theorem ntp {b p:Nat} {r:bq} (a:¬ (p=b)) (c:∀ g,aQ r=some g→¬ (g=b)):∀ x,x=b→¬ (x=p∨aQ r=some x):=fun x e h=>h.elim (fun e'=>a (e'.symm.trans e)) (fun e'=>c _ e' e)
theorem lz1 {X:Nat→Prop} {Q:Nat→Prop} {n m:Nat} (h:∀ k,X k→k<n∧Q k) (z:n≤m):∀ k,X k→k<m:=fun k hk=>Nat.lt_of_lt_of_le (h k hk).1 z
theorem fe {Q:Nat→Prop}:∀ k,(fun _:Nat=>False) k→Q k:=fun _ h=>h.elim
abbrev pt (b j:Nat):Value:=.pointer (some ⟨b,j,none⟩)
abbrev bX:Enc (Int × Int):=prE (iE .i64) (iE .i64)
abbrev dC (x:PcT) (a:bq) (c:Nat) (b:bq) (d:Nat):Array Value:= #[.int .i64 x.1,.int .i64 x.2.1,.int .i64 x.2.2.1,.bool x.2.2.2.1,.bool x.2.2.2.2.1,.slice a x.2.2.2.2.2.1.length c,.slice b x.2.2.2.2.2.2.length d]
theorem dq {b n:Nat} {a:bq} (hb:b=n) (ho:∀ g,aQ a=some g→g<n):∀ g,aQ a=some g→¬ (· =b) g:=fun g e hx=>Nat.not_lt_of_le (bj hb _ hx) (ho g e)
theorem cQ {w:World} {b p:Nat} {t:TypeId} {cs:Array Value} (hb:b=w.heap.size) (hp:bh w p t cs):¬ (· =b) p:=fun hx=>Nat.not_lt_of_le (bj hb _ hx) (cl hp _ rfl)
theorem dj {b n:Nat} {a:bq} (hb:b=n) (ho:∀ g,aQ a=some g→g<n):¬ (fun k=>aQ a=some k) b:=fun hx=>Nat.not_lt_of_le (bj hb _ rfl) (ho _ hx)
theorem apD {w:World} {b p:Nat} {t:TypeId} {cs:Array Value} (hb:b=w.heap.size) (hp:bh w p t cs):∀ g,aQ (some ⟨b,0,none⟩)=some g→¬ (· =p) g:=fun g e hx=>Nat.not_lt_of_le (cg hb g e) (cl hp _ hx)
theorem apF {X:Nat→Prop} {b n:Nat} (hb:b=n) (hx:∀ k,X k→k<n):¬ X b:=fun h=>Nat.not_lt_of_le (bj hb _ rfl) (hx _ h)
theorem apH {w:World} {b p:Nat} {t:TypeId} {cs:Array Value} (hb:b=w.heap.size) (hp:bh w p t cs):¬ (· =p) b:=fun hx=>Nat.not_lt_of_le (bj hb _ rfl) (cl hp _ hx)
theorem apI {w:World} {p:Nat} {a:bq} {t:TypeId} {cs:Array Value} (hl:∀ k,aQ a=some k→w.heap.size≤k) (hp:bh w p t cs):¬ (fun k=>aQ a=some k) p:=fun hx=>Nat.not_lt_of_le (hl _ hx) (cl hp _ rfl)
theorem apG {w:World} {b p:Nat} {t:TypeId} {cs:Array Value} {X:Nat→Prop} (hb:b=w.heap.size) (hp:bh w p t cs) (hx:¬ X p):¬ (fun k=>aQ (some ⟨b,0,none⟩)=some k∨X k) p:=fun h=>h.elim (fun h=>Nat.not_lt_of_le (cg hb _ h) (cl hp _ rfl)) hx
theorem apE {X a Q:Nat→Prop} {b n:Nat} (h:∀ k,X k→Q k∧(a k∨n≤k)) (c:¬ a b) (hb:b<n):¬ X b:=fun hx=>(h _ hx).2.elim c (fun h=>Nat.not_lt_of_le h hb)
theorem xlo {a Q:Nat→Prop} {b n:Nat} (hl:n≤b) (h:∀ k,a k→k<n∧Q k):¬ a b:=fun hx=>Nat.not_lt_of_le hl (h _ hx).1
abbrev dD (b:Nat) (a:bq) (c:Nat) (tx:List Int) (a':bq) (c':Nat) (w:World) (r:(Bool × b9) ⊕ Unit):Ending→World→Prop:=RetP (fun (r0:Bool × b9) v w'=>GF w w' (SrS b a')∧v=tup [.bool r0.1]∧bh w' b 129 #[.slice a tx.length c,.slice a' r0.2.2.1.length c',.int .i64 r0.2.2.2]∧ay bX 37 w' (fun _=>False) a' c' r0.2.2.1) (fun _:Unit=>Value.iface 125 (.agg #[])) (fun w'=>GF w w' (SrS b a')) r
def qB (n:Nat) (all:Array Oper) (σ:List (Nat × Value)) (o:Oper):Bool:=match o.dst with
  | some d=>Nat.blt d n&&((match guardB all σ o with | some true=>true | _=>false)&&(noSel o.op&&known σ o.op.operands.toList))
  | none=>false
theorem qB_spec {n:Nat} {all:Array Oper} {σ:List (Nat × Value)} {o:Oper} (h:qB n all σ o=true):∃ d,o.dst=some d∧Nat.blt d n=true∧guardB all σ o=some true∧(noSel o.op&&known σ o.op.operands.toList)=true:=by
  unfold qB at h
  cases hd:o.dst with
  | none=>rw[hd]at h;cases h
  | some d=>
    rw[hd]at h
    simp only[Bool.and_eq_true]at h
    refine ⟨d,rfl,h.1,?_,by simp only[Bool.and_eq_true];exact h.2.2⟩
    cases hg:guardB all σ o with
    | none=>rw[hg]at h;cases h.2.1
    | some b=>cases b with
      | true=>rfl
      | false=>rw[hg]at h;cases h.2.1
section
variable {P:Program} {R:RR} {n:Nat} {k:List It} {σ:List (Nat × Value)} {w:World} {all:Array Oper} {C:World→Prop} {o:Oper} {m:Mk} {rest:List (Oper × Mk)}
theorem cB (t:TypeId) (A:Addr) (v:Value) (hc:∀ w',Inw m C w w'→w'.cell? A=some v) (h:Run P R n (.ops all C rest::k) .normal (putO σ o.dst v) w) (hm:m=some false→C w:=by nofun) (hq:qB n all σ o=true:=by kernel_rfl) (hop:execOp (evr σ) o=(do pure (.value (← Instr.loadAt t (.pointer (some A))))):=by kernel_rfl) (ht:aggB P t=some false:=by kernel_rfl):Run P R n (.ops all C ((o,m)::rest)::k) .normal σ w:=by
  obtain ⟨d,a,b,c,e⟩:=qB_spec hq
  rw[a]at h
  exact gv_load v [] hm a b c e hop ht hc rfl h
theorem laq (t:TypeId) (A:Addr) (cs:Array Value) (hc:∀ w',Inw m C w w'→cellsAt w' A cs.toList) (h:Run P R n (.ops all C rest::k) .normal (putO σ o.dst (.agg cs)) w) (hm:m=some false→C w:=by nofun) (hq:qB n all σ o=true:=by kernel_rfl) (hop:execOp (evr σ) o=(do pure (.value (← Instr.loadAt t (.pointer (some A))))):=by kernel_rfl) (ht:aggB P t=some true:=by kernel_rfl) (hsz:(P.info? t).map (·.size)=some cs.size:=by kernel_rfl):Run P R n (.ops all C ((o,m)::rest)::k) .normal σ w:=by
  obtain ⟨d,a,b,c,e⟩:=qB_spec hq
  rw[a]at h
  exact gv_loadAgg cs [] hm a b c e hop ht hsz hc rfl h
theorem dc (t:TypeId) (b:Nat) (cs:Array Value) (hc:∀ w',Inw m C w w'→w'.heap[b]? =some (.cells cs t (0,0))) (h:Run P R n (.ops all C rest::k) .normal (putO σ o.dst (.agg cs)) w) (hm:m=some false→C w:=by nofun) (hq:qB n all σ o=true:=by kernel_rfl) (hop:execOp (evr σ) o=(do pure (.value (← Instr.loadAt t (.pointer (some ⟨b,0,none⟩))))):=by kernel_rfl) (ht:aggB P t=some true:=by kernel_rfl) (hsz:(P.info? t).map (·.size)=some cs.size:=by kernel_rfl):Run P R n (.ops all C ((o,m)::rest)::k) .normal σ w:=by
  obtain ⟨d,a,c,e,f⟩:=qB_spec hq
  rw[a]at h
  exact gv_loadBox cs [] hm a c e f hop ht hsz hc rfl h
theorem db {α:Type} {E:Enc α} {X:Nat→Prop} {c:World} {t e:TypeId} {a:bq} {cap:Nat} {xs:List α} {x:α} {i:Int} (kk:IntKind) (sz:Nat) (hR:Rd E c X a cap xs) (hx:idx xs i=some x) (ht:P.underlying t=some (.slice e)) (h:Run P R n (.ops all C rest::k) .normal (putO σ o.dst (.pointer (some (aR a (i.toNat*sz))))) w) (hm:m=some false→C w:=by nofun) (hq:qB n all σ o=true:=by kernel_rfl) (hop:execOp (evr σ) o=(do pure (.value (← Instr.indexAt t (.slice a xs.length cap) (.int kk i)))):=by kernel_rfl) (hsz:(P.info? e).map (·.size)=some sz:=by kernel_rfl):Run P R n (.ops all C ((o,m)::rest)::k) .normal σ w:=by
  obtain ⟨d,b,f,g,j⟩:=qB_spec hq
  rw[b]at h
  exact gv_idxaddr [] hm b f g j hop ht hsz (hR.has hx) (idx_spec hx).1 (idx_spec hx).2.1 rfl h
theorem siq {t:TypeId} {s:ByteArray} {i c:Int} (kk:IntKind) (hx:sidx s i=some c) (ht:P.underlying t=some .string) (h:Run P R n (.ops all C rest::k) .normal (putO σ o.dst (.int .u8 c)) w) (hm:m=some false→C w:=by nofun) (hq:qB n all σ o=true:=by kernel_rfl) (hop:execOp (evr σ) o=(do pure (.value (← Instr.index t (.string s) (.int kk i)))):=by kernel_rfl):Run P R n (.ops all C ((o,m)::rest)::k) .normal σ w:=by
  obtain ⟨d,a,b,e,f⟩:=qB_spec hq
  rw[a]at h
  exact gv_sindex c [] hm a b e f hop ht hx rfl h
theorem dx {s u r:ByteArray} (t:TypeId) (hr:cat s u=some r) (h:Run P R n (.ops all C rest::k) .normal (putO σ o.dst (.string r)) w) (hm:m=some false→C w:=by nofun) (hq:qB n all σ o=true:=by kernel_rfl) (hop:execOp (evr σ) o=(do pure (.value (← binOp .add t (.string s) (.string u)))):=by kernel_rfl):Run P R n (.ops all C ((o,m)::rest)::k) .normal σ w:=by
  obtain ⟨d,a,b,c,e⟩:=qB_spec hq
  rw[a]at h
  exact gv_cat r [] hm a b c e hop hr rfl h
theorem aL {id:Nat} {l:List Oper} {y:Code} (h:Run P R n (.ops l.toArray (fun _=>True) (mk0 l):: .code y::k) .normal σ w) (hr:R.r=none:=by rfl):Run P R n (.code (.seq (.region id l.toArray false) y)::k) .normal σ w:=aJ (aA h hr)
theorem cA {x y:Code} (h:Run P R n (.code x:: .code y::k) .normal σ w):Run P R n (.ops all C []:: .code (.seq x y)::k) .normal σ w:=ac (aJ h)
theorem bN {id:Nat} {l:List Oper} {y:Code} (h:Run P R n (.ops l.toArray (fun _=>True) (mk0 l):: .code y::k) .normal σ w) (hr:R.r=none:=by rfl):Run P R n (.ops all C []:: .code (.seq (.region id l.toArray false) y)::k) .normal σ w:=ac (aJ (aA h hr))
theorem clq {x:Operand} {xs:Array Operand} {tys:Array TypeId} {f:FuncId} {vs:List Value} {S:Value→World→Prop} (hf:Go.Gv.Enters P f) (hc:Calls P f vs.toArray w (Ret S)) (h:∀ v w',S v w'→(m=some false→C w')∧Run P R n (.ops all C rest::k) .normal (putO σ o.dst v) w') (hm:m≠some true:=by decide) (hdn:dstOk n o.dst=true:=by kernel_rfl) (hg:guardB all σ o=some true:=by kernel_rfl) (ho:o.op= .call { callee:=.value x,args:=xs,argTypes:=tys}:=by rfl) (hx:ev σ x=some (.func (.func f) #[] ([]:List Value).toArray):=by kernel_rfl) (hxs:evs σ xs.toList=some vs:=by kernel_rfl):Run P R n (.ops all C ((o,m)::rest)::k) .normal σ w:=
  cH (cap:=[]) S hm hdn hg ho hx hxs hf (by rw[List.append_nil];exact hc) h
end
abbrev Lw (X:Nat→Prop) (w:World):Prop:=∀ k,X k→k<w.heap.size
abbrev Cs (f:Nat) (l:List Value) (w:World) (R:Ending→World→Prop):Prop:=Calls au f l.toArray w R
abbrev G1 (w:World) (r:List Value):Ending→World→Prop:=Ret fun v w'=>w.grownBy w' none∧v=tup r
theorem nl {a b:Nat} (h:a≤b):¬ b<a:=Nat.not_lt_of_le h
theorem sj {α:Type _} {a b:α} (h:some a=some b):a=b:=Option.some.inj h
theorem ng {a b:Nat} (h:b<a):a≠b:=Nat.ne_of_gt h
theorem cn {a b c:Nat} (h:a<b) (h':b≤c):a<c:=Nat.lt_of_lt_of_le h h'
theorem cm {a b c:Nat} (h:a<b) (h':b<c):a<c:=Nat.lt_trans h h'
section
variable {P:Program} {R:RR} {n:Nat} {k:List It} {σ σ':List (Nat × Value)} {w:World} {all:Array Oper} {C:World→Prop}
theorem pN (c:Nat) (ds:List Nat) (news:List (Nat × Value)) {l:List (Oper × Mk)} (h:Run P R n (.ops all C (drops c l)::k) .normal (nw news ds σ) w) (hp:(match stepsP false P n all c l σ with | some σ1=>picks ((nw news ds σ).map (·.1)) σ1 | none=>none)=some (nw news ds σ):=by kernel_rfl):Run P R n (.ops all C l::k) .normal σ w:=gv_pureN c ds news hp h
theorem okp (ss:List Nat) {t:Array Value} (h:Ok σ t) (hp:picks ss σ=some σ':=by kernel_rfl):Ok σ' t:=ok_pick ss h hp
theorem aX {σ':List (Nat × Value)} {t:Array Value} (h:Ok σ t) (hp:picks (σ'.map (·.1)) σ=some σ':=by kernel_rfl):Ok σ' t:=ok_pick _ h hp
theorem vLc {α:Type} {x y:List α} {a:bq} {c:Nat} (h:x.length=y.length):vL a x c=vL a y c:=by unfold vL;rw[h]
theorem bV (σ':List (Nat × Value)) {e:Exit} (h:Run P R n k e σ' w) (hp:picks (σ'.map (·.1)) σ=some σ':=by kernel_rfl):Run P R n k e σ w:=bt _ hp h
theorem bP {a:Nat}:a≤a:=Nat.le_refl a
theorem kr {p:Prop} (h:p:=by kernel_rfl):p:=h
end
open List (length)
section
variable {P:Program} {R:RR} {n:Nat} {k:List It} {σ:List (Nat × Value)} {w:World}
theorem bF {α:Type} {c:Operand} {b:Bool} {x y:Code} {p q r:α} (h:(if b=true then p else q)=r) (ht:b=true→p=r→Run P R n (.code x::k) .normal σ w) (hf:b=false→q=r→Run P R n (.code y::k) .normal σ w) (hc:ev σ c=some (.bool b):=by kernel_rfl):Run P R n (.code (.cond c x y)::k) .normal σ w:=dt hc (fun e=>ht e (ite_t e h)) (fun e=>hf e (ite_f e h))
theorem cj {α:Type} (s:Nat) {g:Bool} {e:Exit} {p q r:α} (h:(if g=true then p else q)=r) (ht:g=true→p=r→Run P R n k e (put σ s (.bool true)) w) (hf:g=false→q=r→Run P R n k e (put σ s (.bool false)) w) (hl:Go.Gv.look σ s=some (.bool g):=by kernel_rfl):Run P R n k e σ w:=bL hl (fun e=>ht e (ite_t e h)) (fun e=>hf e (ite_f e h))
end
section
variable {P:Program} {R:RR} {n:Nat} {k:List It} {σ σ':List (Nat × Value)} {w:World} {all:Array Oper} {C:World→Prop}
theorem pL (ds:List Nat) (d:Nat) (v:Value) {l:List (Oper × Mk)} (h:Run P R n (.ops all C (drops ds.length l)::k) .normal (nw [(d,v)] ds σ) w) (hp:(match stepsP false P n all ds.length l σ with | some σ1=>picks ((nw [(d,v)] ds σ).map (·.1)) σ1 | none=>none)=some (nw [(d,v)] ds σ):=by kernel_rfl):Run P R n (.ops all C l::k) .normal σ w:=gv_pureN ds.length ds [(d,v)] hp h
theorem p1 (d:Nat) (v:Value) {l:List (Oper × Mk)} (h:Run P R n (.ops all C (drops 1 l)::k) .normal (nw [(d,v)] [d] σ) w) (hp:(match stepsP false P n all 1 l σ with | some σ1=>picks ((nw [(d,v)] [d] σ).map (·.1)) σ1 | none=>none)=some (nw [(d,v)] [d] σ):=by kernel_rfl):Run P R n (.ops all C l::k) .normal σ w:=gv_pureN 1 [d] [(d,v)] hp h
theorem br (t:TypeId) {b:Nat} {ty:TypeId} {cs:Array Value} {v:Value} {o:Oper} {rest:List (Oper × Mk)} (hb:bh w b ty cs) (j:Nat) (hv:cs[j]? =some v) (h:Run P R n (.ops all C rest::k) .normal (putO σ o.dst v) w) (hq:qB n all σ o=true:=by kernel_rfl) (hop:execOp (evr σ) o=(do pure (.value (← Instr.loadAt t (.pointer (some ⟨b,j,none⟩))))):=by kernel_rfl) (ht:aggB P t=some false:=by kernel_rfl):Run P R n (.ops all C ((o,none)::rest)::k) .normal σ w:=cB t ⟨b,j,none⟩ v (bR (hb.cell j hv)) h nofun hq hop ht
end
theorem cE {P : Program} {f : FuncId} {fn : Func} (h : P.funcs[f]? = some fn) (a : (fn.name == "runtime.NumGoroutine") = false := by kernel_rfl) (b : fn.body.isNone = false := by kernel_rfl) : Go.Gv.Enters P f := ⟨fn, h, a, b⟩
theorem enters9:Go.Gv.Enters au 9:=cE Tryz.func9
theorem enters10:Go.Gv.Enters au 10:=cE Tryz.func10
theorem enters11:Go.Gv.Enters au 11:=cE Tryz.func11
theorem enters12:Go.Gv.Enters au 12:=cE Tryz.func12
theorem enters13:Go.Gv.Enters au 13:=cE Tryz.func13
theorem enters14:Go.Gv.Enters au 14:=cE Tryz.func14
theorem cZ:Go.Gv.Enters au 15:=cE Tryz.func15
theorem enters16:Go.Gv.Enters au 16:=cE Tryz.func16
theorem enters17:Go.Gv.Enters au 17:=cE Tryz.func17
theorem enters22:Go.Gv.Enters au 22:=cE Tryz.func22
theorem enters25:Go.Gv.Enters au 25:=cE Tryz.func25
theorem enters30:Go.Gv.Enters au 30:=cE Tryz.func30
theorem enters31:Go.Gv.Enters au 31:=cE Tryz.func31
theorem enters32:Go.Gv.Enters au 32:=cE Tryz.func32
theorem enters33:Go.Gv.Enters au 33:=cE Tryz.func33
theorem enters34:Go.Gv.Enters au 34:=cE Tryz.func34
theorem enters35:Go.Gv.Enters au 35:=cE Tryz.func35
theorem enters36:Go.Gv.Enters au 36:=cE Tryz.func36
theorem enters38:Go.Gv.Enters au 38:=cE Tryz.func38
theorem enters39:Go.Gv.Enters au 39:=cE Tryz.func39
theorem enters40:Go.Gv.Enters au 40:=cE Tryz.func40
theorem enters41:Go.Gv.Enters au 41:=cE Tryz.func41
theorem enters42:Go.Gv.Enters au 42:=cE Tryz.func42
theorem enters43:Go.Gv.Enters au 43:=cE Tryz.func43
theorem enters44:Go.Gv.Enters au 44:=cE Tryz.func44
theorem enters45:Go.Gv.Enters au 45:=cE Tryz.func45
theorem enters46:Go.Gv.Enters au 46:=cE Tryz.func46
theorem enters47:Go.Gv.Enters au 47:=cE Tryz.func47
theorem enters52:Go.Gv.Enters au 52:=cE Tryz.func52
theorem enters54:Go.Gv.Enters au 54:=cE Tryz.func54
theorem enters56:Go.Gv.Enters au 56:=cE Tryz.func56
theorem enters58:Go.Gv.Enters au 58:=cE Tryz.func58
theorem enters59:Go.Gv.Enters au 59:=cE Tryz.func59
theorem enters60:Go.Gv.Enters au 60:=cE Tryz.func60
theorem enters61:Go.Gv.Enters au 61:=cE Tryz.func61
theorem enters62:Go.Gv.Enters au 62:=cE Tryz.func62
theorem enters63:Go.Gv.Enters au 63:=cE Tryz.func63
theorem enters64:Go.Gv.Enters au 64:=cE Tryz.func64
theorem enters66:Go.Gv.Enters au 66:=cE Tryz.func66
theorem enters73:Go.Gv.Enters au 73:=cE Tryz.func73
theorem enters74:Go.Gv.Enters au 74:=cE Tryz.func74
theorem enters83:Go.Gv.Enters au 83:=cE Tryz.func83
theorem ci:Go.Gv.Enters au 84:=cE Tryz.func84
theorem enters85:Go.Gv.Enters au 85:=cE Tryz.func85
theorem enters86:Go.Gv.Enters au 86:=cE Tryz.func86
theorem enters87:Go.Gv.Enters au 87:=cE Tryz.func87
theorem enters88:Go.Gv.Enters au 88:=cE Tryz.func88
theorem enters89:Go.Gv.Enters au 89:=cE Tryz.func89
theorem enters90:Go.Gv.Enters au 90:=cE Tryz.func90
theorem enters91:Go.Gv.Enters au 91:=cE Tryz.func91
theorem enters92:Go.Gv.Enters au 92:=cE Tryz.func92
theorem enters93:Go.Gv.Enters au 93:=cE Tryz.func93
theorem enters94:Go.Gv.Enters au 94:=cE Tryz.func94
theorem enters95:Go.Gv.Enters au 95:=cE Tryz.func95
theorem cG:Go.Gv.Enters au 96:=cE Tryz.func96
theorem enters97:Go.Gv.Enters au 97:=cE Tryz.func97
theorem enters101:Go.Gv.Enters au 101:=cE Tryz.func101
theorem enters106:Go.Gv.Enters au 106:=cE Tryz.func106
theorem enters107:Go.Gv.Enters au 107:=cE Tryz.func107
theorem enters108:Go.Gv.Enters au 108:=cE Tryz.func108
theorem enters109:Go.Gv.Enters au 109:=cE Tryz.func109
theorem enters112:Go.Gv.Enters au 112:=cE Tryz.func112
theorem enters113:Go.Gv.Enters au 113:=cE Tryz.func113
theorem enters114:Go.Gv.Enters au 114:=cE Tryz.func114
theorem enters115:Go.Gv.Enters au 115:=cE Tryz.func115
theorem enters116:Go.Gv.Enters au 116:=cE Tryz.func116
theorem enters117:Go.Gv.Enters au 117:=cE Tryz.func117
theorem enters118:Go.Gv.Enters au 118:=cE Tryz.func118
theorem enters119:Go.Gv.Enters au 119:=cE Tryz.func119
theorem enters120:Go.Gv.Enters au 120:=cE Tryz.func120
theorem enters121:Go.Gv.Enters au 121:=cE Tryz.func121
theorem dy:Go.Gv.Enters au 122:=cE Tryz.func122
theorem enters123:Go.Gv.Enters au 123:=cE Tryz.func123
theorem enters124:Go.Gv.Enters au 124:=cE Tryz.func124
theorem enters127:Go.Gv.Enters au 127:=cE Tryz.func127
theorem enters128:Go.Gv.Enters au 128:=cE Tryz.func128
theorem enters129:Go.Gv.Enters au 129:=cE Tryz.func129
theorem enters132:Go.Gv.Enters au 132:=cE Tryz.func132
theorem enters133:Go.Gv.Enters au 133:=cE Tryz.func133
theorem enters134:Go.Gv.Enters au 134:=cE Tryz.func134
theorem enters135:Go.Gv.Enters au 135:=cE Tryz.func135
theorem enters136:Go.Gv.Enters au 136:=cE Tryz.func136
theorem enters137:Go.Gv.Enters au 137:=cE Tryz.func137
theorem enters138:Go.Gv.Enters au 138:=cE Tryz.func138
theorem enters139:Go.Gv.Enters au 139:=cE Tryz.func139
theorem enters140:Go.Gv.Enters au 140:=cE Tryz.func140
theorem enters141:Go.Gv.Enters au 141:=cE Tryz.func141
theorem enters142:Go.Gv.Enters au 142:=cE Tryz.func142
theorem enters143:Go.Gv.Enters au 143:=cE Tryz.func143
theorem enters144:Go.Gv.Enters au 144:=cE Tryz.func144
theorem dw:Go.Gv.Enters au 145:=cE Tryz.func145
theorem enters146:Go.Gv.Enters au 146:=cE Tryz.func146
theorem enters147:Go.Gv.Enters au 147:=cE Tryz.func147
theorem enters148:Go.Gv.Enters au 148:=cE Tryz.func148
theorem enters149:Go.Gv.Enters au 149:=cE Tryz.func149
theorem enters150:Go.Gv.Enters au 150:=cE Tryz.func150
theorem enters153:Go.Gv.Enters au 153:=cE Tryz.func153
theorem enters155:Go.Gv.Enters au 155:=cE Tryz.func155
theorem enters161:Go.Gv.Enters au 161:=cE Tryz.func161
theorem enters162:Go.Gv.Enters au 162:=cE Tryz.func162
theorem enters163:Go.Gv.Enters au 163:=cE Tryz.func163
theorem enters168:Go.Gv.Enters au 168:=cE Tryz.func168
theorem native125:Go.Gv.Native au 125 Extern.BytealgIndexByte.indexByte:=⟨Tryz.f125,Tryz.func125,by kernel_rfl,by kernel_rfl,by kernel_rfl,by kernel_rfl⟩
theorem info3:InfoOk au 3 1:=infoOk (z:=(.int .i64 0)) (bytes:=8) (by kernel_rfl) (by kernel_rfl) (by kernel_rfl) (by kernel_rfl)
theorem info4:InfoOk au 4 1:=infoOk (z:=(.bool false)) (bytes:=1) (by kernel_rfl) (by kernel_rfl) (by kernel_rfl) (by kernel_rfl)
theorem info5:InfoOk au 5 1:=infoOk (z:=(.int .u8 0)) (bytes:=1) (by kernel_rfl) (by kernel_rfl) (by kernel_rfl) (by kernel_rfl)
theorem info9:InfoOk au 9 1:=infoOk (z:=(.string ⟨#[]⟩)) (bytes:=16) (by kernel_rfl) (by kernel_rfl) (by kernel_rfl) (by kernel_rfl)
theorem info25:InfoOk au 25 7:=infoOk (z:=(.agg #[.int .i64 0,(.int .i64 0),(.int .i64 0),(.bool false),(.bool false),(.slice none 0 0),(.slice none 0 0)])) (bytes:=80) (by kernel_rfl) (by kernel_rfl) (by kernel_rfl) (by kernel_rfl)
theorem info34:InfoOk au 34 1:=infoOk (z:=(.agg #[.slice none 0 0])) (bytes:=24) (by kernel_rfl) (by kernel_rfl) (by kernel_rfl) (by kernel_rfl)
theorem info37:InfoOk au 37 2:=infoOk (z:=(.agg #[.int .i64 0,(.int .i64 0)])) (bytes:=16) (by kernel_rfl) (by kernel_rfl) (by kernel_rfl) (by kernel_rfl)
theorem info103:InfoOk au 103 2:=infoOk (z:=(.agg #[.string ⟨#[]⟩,(.int .i64 0)])) (bytes:=24) (by kernel_rfl) (by kernel_rfl) (by kernel_rfl) (by kernel_rfl)
theorem eqs31eql (a:Int) (b:Int) (c:Int) (d:Int) (x y:Operand) (w:World):(do eqGuard .eql 31 x y (.agg #[.int .i64 a,.int .i64 b]) (.agg #[.int .i64 c,.int .i64 d]);binOp .eql 31 (.agg #[.int .i64 a,.int .i64 b]) (.agg #[.int .i64 c,.int .i64 d]):Sem Value).run au w= .ok (.bool ((a==c)&&(b==d))) w:=by
  have e:au.eqGuardType au.depth 31=false:=by kernel_rfl
  have f:au.stoodInHeld 31=false:=by kernel_rfl
  have g:au.underlying 31=some (.struct (au.fieldsOf 31)):=by kernel_rfl
  have h:=aP
  rw[Sem.run_bind,run_eqGuard_agg w .eql 31 x y _ _ e,Result.andThen_ok,run_eql_struct,run_equalIn_struct w 9999 31 _ _ g f]
  by_cases g0:a=c<;>by_cases g1:b=d<;>simp[Program.fieldsOf,h,Op.eqFields,part,isAgg,run_underlying cS,run_equalIn_int _ _ _ _ _ _ _ cS,g0,g1]
theorem eqs37eql (a:Int) (b:Int) (c:Int) (d:Int) (x y:Operand) (w:World):(do eqGuard .eql 37 x y (.agg #[.int .i64 a,.int .i64 b]) (.agg #[.int .i64 c,.int .i64 d]);binOp .eql 37 (.agg #[.int .i64 a,.int .i64 b]) (.agg #[.int .i64 c,.int .i64 d]):Sem Value).run au w= .ok (.bool ((a==c)&&(b==d))) w:=by
  have e:au.eqGuardType au.depth 37=false:=by kernel_rfl
  obtain ⟨i,hi⟩:∃ i,au.info? 3=some i:=Option.isSome_iff_exists.1 (by kernel_rfl)
  have hc:au.cellsOf 3=1:=by kernel_rfl
  rw[Sem.run_bind,run_eqGuard_agg w .eql 37 x y _ _ e,Result.andThen_ok,run_eql_struct,run_equalIn_array w 9999 _ _ Tryz.underlying37 hi,hc]
  by_cases g0:a=c<;>by_cases g1:b=d<;>simp[List.range,List.range.loop,Op.eqItems,part,isAgg,run_underlying cS,run_equalIn_int _ _ _ _ _ _ _ cS,g0,g1]
theorem eqs37neq (a:Int) (b:Int) (c:Int) (d:Int) (x y:Operand) (w:World):(do eqGuard .neq 37 x y (.agg #[.int .i64 a,.int .i64 b]) (.agg #[.int .i64 c,.int .i64 d]);binOp .neq 37 (.agg #[.int .i64 a,.int .i64 b]) (.agg #[.int .i64 c,.int .i64 d]):Sem Value).run au w= .ok (.bool (!((a==c)&&(b==d)))) w:=by
  have e:au.eqGuardType au.depth 37=false:=by kernel_rfl
  obtain ⟨i,hi⟩:∃ i,au.info? 3=some i:=Option.isSome_iff_exists.1 (by kernel_rfl)
  have hc:au.cellsOf 3=1:=by kernel_rfl
  rw[Sem.run_bind,run_eqGuard_agg w .neq 37 x y _ _ e,Result.andThen_ok,run_neq_struct,run_equalIn_array w 9999 _ _ Tryz.underlying37 hi,hc]
  by_cases g0:a=c<;>by_cases g1:b=d<;>simp[List.range,List.range.loop,Op.eqItems,part,isAgg,run_underlying cS,run_equalIn_int _ _ _ _ _ _ _ cS,g0,g1]

theorem stringslite_IndexByte_ok (am:Nat) (a:ByteArray) (b:Int) (c:World) (d:Int) (e:stringslite_IndexByte am a b=some d):
    Cs 101 [vS a,vU b] c (G1 c [vI d]):=by
 have g:Bl c c:=Below.refl _ _;unfold stringslite_IndexByte at e;refine aM Tryz.func101 rfl Tryz.ntmps101 kr ?_;refine bV [(0,vS a),(1,vU b)]<|aL<|pN 1 [4] []<|bN<|pN 2 [5,6] [(5,vS a),(6,vU b)]<|gv_nat (f:=125) (vs:=[vS a,vU b]) (vI (nIdxB (bytesOf a) b)) [] nofun rfl rfl rfl kr rfl kr kr native125 (fun w' _=>nat_idxS _ _ w') rfl ?_;refine p1 4 (vI (nIdxB (bytesOf a) b))<|ac<|aq ?_
 obtain rfl:=sj e;refine az (ar [vI (nIdxB (bytesOf a) b)] rfl ⟨kr,trivial⟩ ?_);exact ⟨af g,rfl⟩

theorem strings_IndexByte_ok (am:Nat) (a:ByteArray) (b:Int) (c:World) (f:Int) (d:strings_IndexByte am a b=some f):
    Cs 109 [vS a,vU b] c (G1 c [vI f]):=by
 have g:Bl c c:=Below.refl _ _;unfold strings_IndexByte at d;refine aM Tryz.func109 rfl Tryz.ntmps109 kr ?_;refine bV [(0,vS a),(1,vU b)]<|aL<|pN 1 [4] []<|bN<|pN 2 [5,6] [(5,vS a),(6,vU b)]<|ak d ?_;intro e h d;refine av kr rfl kr enters101 (stringslite_IndexByte_ok am a b c e h) ?_;rintro j k ⟨i,rfl⟩;refine p1 4 (vI e)<|ac<|aq ?_
 obtain rfl:=sj d;refine az (ar [vI e] rfl ⟨kr,trivial⟩ ?_);exact ⟨af (bg g i nb),rfl⟩

theorem cX (am:Nat) (c:Nat) (g:dh) (b:ByteArray) (e:World) (f:bh e c 117 (cO g)) (m:Bool) (i:regex_parser_ahead am g b=some m):
    Cs 106 [bp c,vS b] e (G1 e [vB m]):=by
 have k:Bl e e:=Below.refl _ _;unfold regex_parser_ahead at i;refine aM Tryz.func106 rfl Tryz.ntmps106 kr ?_;refine bV [(0,bp c),(1,vS b)] ?_;have s:=f.lt;refine aL<|pN 1 [4] []<|bN<|ak i ?_;intro n d i
 refine aT (J:=fun a j=>Bl e j∧Sz e j∧bh j c 117 (cO g)∧Qa a 20 [(4,vB n)]) ?_ ?_
 ·refine pL [5,6,7] 7 (bp c)<|br 9 f 0 rfl<|pL [9,10] 10 (vB (!(g.1.toList==(bk []).toList)))<|cj 10 d (fun o d=>?_) (fun o d=>?_)
  ·refine pN 4 [11,12,13,14] [(11,vS b),(14,bp c)]<|br 9 f 0 rfl<|ak d ?_;intro t p d;refine siq .i64 p bo<|ak d ?_;intro q r d;refine av kr rfl kr enters109 (strings_IndexByte_ok am b t e q r) ?_;rintro w x ⟨h,rfl⟩;refine pL [4,18,19] 4 (vB (decide (q≥0)))<|ac ?_;obtain rfl:=sj d;refine ae fun a hd hs ao=>?_;exact ⟨(bg k h nb),h.size,(f.grown h nb),hd,hs,aX ao⟩
  ·refine pL [4,11,12,13,14,15,16,17,18,19] 4 (vB false)<|ac ?_;obtain rfl:=sj d;exact ae fun a hd hs ao=>⟨k,bP,f,hd,hs,aX ao⟩
 ·rintro a j ⟨l,u,v,hd,hs,ao⟩;refine aO ?_ hd hs ao;refine aq ?_;obtain rfl:=sj i;refine az (ar [vB n] rfl ⟨kr,trivial⟩ ?_);exact ⟨af l,rfl⟩

theorem stringslite_HasPrefix_ok (am:Nat) (c:ByteArray) (b:ByteArray) (e:World) (i:Bool) (f:stringslite_HasPrefix am c b=some i):
    Cs 155 [vS c,vS b] e (G1 e [vB i]):=by
 have g:Bl e e:=Below.refl _ _;unfold stringslite_HasPrefix at f;refine aM Tryz.func155 rfl Tryz.ntmps155 kr ?_;refine bV [(0,vS c),(1,vS b)]<|aL<|pN 1 [4] []<|bN<|ak f ?_;intro j d f
 refine aT (J:=fun a h=>Bl e h∧Sz e h∧Qa a 18 [(4,vB j)]) ?_ ?_
 ·refine pL [5,6,7,8,9,10] 10 (vB (decide ((bz c)≥(bz b))))<|cj 10 d (fun k d=>?_) (fun k d=>?_)
  ·refine pN 3 [11,12,13] [(11,vS c),(13,vI (bz b))]<|ak d ?_;intro l m d;refine gv_ssub (t:=9) (s:=c) (lo:=none) (hi:=(some (vI (bz b)))) 0 (bz b) l [] nofun rfl rfl rfl kr kr bo (.inl ⟨rfl,rfl⟩) (.inr ⟨_,rfl⟩) m rfl ?_;refine pL [4,15,16,17] 4 (vB (l.toList==b.toList))<|ac ?_;obtain rfl:=sj d;exact ae fun a hd hs ao=>⟨g,bP,hd,hs,aX ao⟩
  ·refine pL [4,11,12,13,14,15,16,17] 4 (vB false)<|ac ?_;obtain rfl:=sj d;exact ae fun a hd hs ao=>⟨g,bP,hd,hs,aX ao⟩
 ·rintro a h ⟨n,o,hd,hs,ao⟩;refine aO ?_ hd hs ao;refine aq ?_;obtain rfl:=sj f;refine az (ar [vB j] rfl ⟨kr,trivial⟩ ?_);exact ⟨af n,rfl⟩

theorem stringslite_CutPrefix_ok (am:Nat) (b:ByteArray) (a:ByteArray) (d:World) (g:ByteArray × Bool) (c:stringslite_CutPrefix am b a=some g):
    Cs 129 [vS b,vS a] d (G1 d [vS g.1,vB g.2]):=by
 have e:Bl d d:=Below.refl _ _;unfold stringslite_CutPrefix at c;refine aM Tryz.func129 rfl Tryz.ntmps129 kr ?_;refine bV [(0,vS b),(1,vS a)]<|aL<|pN 2 [4,5] []<|cA<|aL<|pN 2 [6,7] [(6,vS b),(7,vS a)]<|ak c ?_;intro i j c;refine av kr rfl kr enters155 (stringslite_HasPrefix_ok am b a d i j) ?_;rintro m n ⟨f,rfl⟩;refine p1 9 (vB (!i))<|ac<|bF c (fun k c=>?_) (fun k c=>?_)
 ·refine aL<|pN 3 [4,5,10] [(4,vS b),(5,vB false)]<|ac<|aq ?_
  obtain rfl:=sj c;refine az (ar [vS b,vB false] rfl ⟨kr,kr,trivial⟩ ?_);exact ⟨af (bg e f nb),rfl⟩
 ·refine aD<|aL<|pN 3 [11,12,13] [(11,vS b),(13,vI (bz a))]<|ak c ?_;intro h l c;refine gv_ssub (t:=9) (s:=b) (lo:=(some (vI (bz a)))) (hi:=none) (bz a) (bz b) h [] nofun rfl rfl rfl kr kr bo (.inr ⟨_,rfl⟩) (.inl ⟨rfl,rfl⟩) l rfl ?_;refine pN 2 [4,5] [(4,vS h),(5,vB true)]<|ac<|aq ?_
  obtain rfl:=sj c;refine az (ar [vS h,vB true] rfl ⟨kr,kr,trivial⟩ ?_);exact ⟨af (bg e f nb),rfl⟩

theorem strings_CutPrefix_ok (am:Nat) (b:ByteArray) (a:ByteArray) (c:World) (f:ByteArray × Bool) (e:strings_CutPrefix am b a=some f):
    Cs 108 [vS b,vS a] c (G1 c [vS f.1,vB f.2]):=by
 have g:Bl c c:=Below.refl _ _;unfold strings_CutPrefix at e;refine aM Tryz.func108 rfl Tryz.ntmps108 kr ?_;refine bV [(0,vS b),(1,vS a)]<|aL<|pN 2 [4,5] []<|bN<|pN 2 [6,7] [(6,vS b),(7,vS a)]<|ak e ?_;intro d h e;refine av kr rfl kr enters129 (stringslite_CutPrefix_ok am b a c d h) ?_;rintro j k ⟨i,rfl⟩;refine pN 4 [4,5,9,10] [(4,vS d.1),(5,vB d.2)]<|ac<|aq ?_
 obtain rfl:=sj e;refine az (ar [vS d.1,vB d.2] rfl ⟨kr,kr,trivial⟩ ?_);exact ⟨af (bg g i nb),rfl⟩

theorem aY (am:Nat) (a:Nat) (b:dh) (c:ByteArray) (e:World) (f:bh e a 117 (cO b)) (i:Bool × dh) (g:regex_parser_eat am b c=some i):
    Cs 84 [bp a,vS c] e (Ret fun v w'=>e.grownBy w' (some a)∧v=tup [vB i.1]∧bh w' a 117 (cO i.2)):=by
 have j:e.grownBy e (some a):=cP _ _;unfold regex_parser_eat at g;refine aM Tryz.func84 rfl Tryz.ntmps84 kr ?_;refine bV [(0,bp a),(1,vS c)] ?_;have n:=f.lt;refine aL<|pN 1 [4] []<|bN<|pL [8,9,10] 10 (bp a)<|br 9 f 0 rfl<|p1 12 (vS c)<|ak g ?_;intro d k g;refine av kr rfl kr enters108 (strings_CutPrefix_ok am b.1 c e d k) ?_;rintro p q ⟨h,rfl⟩;refine pN 5 [5,6,7,14,15] [(5,vS d.1),(6,vB d.2)]<|bN<|pN 4 [16,17,18,19] [(17,vS d.1),(19,bp a)]<|aF 9 0 (vS d.1) #[vS d.1,vI b.2.1,vI b.2.2.1,vB b.2.2.2.1,vB b.2.2.2.2] (f.grown h nb) kr kr kr ?_;intro r l m o;refine bN<|pL [4,20] 4 (vB d.2)<|ac<|aq ?_
 obtain rfl:=sj g;refine az (ar [vB d.2] rfl ⟨kr,trivial⟩ ?_);exact ⟨(al (al j h nb) l bw),rfl,m⟩

theorem cp (am:Nat) (c:Nat) (e:dh) (aI:bq) (aN:Nat) (a:bq) (b:Nat) (d:cD) (f:World) (h:Nat→Prop) (l:∀ k,h k→k<f.heap.size∧k≠c) (m:bh f c 117 (cO e)) (bD:Rd bX f h aI aN d.2.2.2.2.2.1) (r:Rd pcE f h a b d.2.2.2.2.2.2) (s:cD × dh) (H:regex_parser_made am e d=some s):
    Cs 85 [bp c,.agg (bm d aI aN a b)] f (Ret fun v w'=>f.grownBy w' (some c)∧∃ (bB:bq) (bK:Nat),∃ (n:Nat→Prop),∃ (o:bq) (p:Nat),∃ (q:Nat→Prop),v=tup [.agg (bm s.1 bB bK o p)]∧Rd bX w' n bB bK s.1.2.2.2.2.2.1∧(Sxb n w' h f)∧Rd pcE w' q o p s.1.2.2.2.2.2.2∧(Sxb q w' h f)∧bh w' c 117 (cO s.2)):=by
 have A:f.grownBy f (some c):=cP _ _;unfold regex_parser_made at H;refine aM Tryz.func85 rfl Tryz.ntmps85 kr ?_;refine bV [(0,bp c),(1,.agg (bm d aI aN a b))] ?_;have K:=m.lt;refine aL<|aE bp (bm d aI aN a b) 25 kr kr ?_
 intro L R t I C P;refine aE bp dE 25 kr kr ?_;intro D S B E i M;refine bN<|pN 3 [5,6,7] [(5,bp c),(7,pt c 1)] ?_
 have u:=(ad t B);have w:=m.grown u nb;refine br 3 w 1 rfl<|pN 3 [9,10,11] [(9,vI (wI (e.2.1+1))),(11,pt c 1)]<|aF 3 1 (vI (wI (e.2.1+1))) #[vS e.1,vI (wI (e.2.1+1)),vI e.2.2.1,vB e.2.2.2.1,vB e.2.2.2.2] w kr kr kr ?_;intro Q j F N;refine bN<|dc 25 L (bm d aI aN a b) (bR ((I.grown B nb).grown j (ag (cQ C m)))) ?_;have x:=m.grown t nb;refine aF 25 0 (.agg (bm d aI aN a b)) (bm d aI aN a b) (E.grown j (ag (cQ i x))) kr kr kr ?_;intro J y G O;refine ac<|aq ?_
 obtain rfl:=sj H;refine az (ar [.agg (bm d aI aN a b)] rfl ⟨⟨⟨D,0,none⟩,kr,run_loadVar_row J D _ 25 _ _ _ G cd rfl kr⟩,trivial⟩ ?_);have z:f.heap.size≤D:=b8 i (al A t nb).size;have g:=al (al (al A u nb) j bw) y (cI z);exact ⟨g,aI,aN,h,a,b,h,rfl,rg bD g l,(fun k hk=>⟨(lz1 l g.size) k hk,(fun k (hk:h k)=>Or.inl hk) k hk⟩),rg r g l,(fun k hk=>⟨(lz1 l g.size) k hk,(fun k (hk:h k)=>Or.inl hk) k hk⟩),(F.grown y (ag (apH i x)))⟩

theorem regex_parser_bounds_ok (am:Nat) (b:Nat) (d:dh) (c:World) (j:bh c b 117 (cO d)) (e:Int × Int × Bool × dh) (a:regex_parser_bounds am d=some e):
    Cs 128 [bp b] c (Ret fun v w'=>c.grownBy w' (some b)∧v=tup [vI e.1,vI e.2.1,vB e.2.2.1]∧bh w' b 117 (cO e.2.2.2)):=by
 have k:c.grownBy c (some b):=cP _ _;unfold regex_parser_bounds at a;refine aM Tryz.func128 rfl Tryz.ntmps128 kr ?_;refine bV [(0,bp b)] ?_;have E:=j.lt;refine aL<|pN 3 [2,3,4] []<|cA<|aH<|aL<|p1 6 (bp b)<|ak a ?_;intro n y a;refine av kr rfl kr ci (aY am b d (bk [42]) c j n y) ?_;rintro K F ⟨l,rfl,z⟩;refine p1 5 (vB n.1)<|ac<|bF a (fun A a=>?_) (fun A a=>?_)
 ·cases a
 ·refine aL<|p1 9 (bp b)<|ak a ?_;intro o B a;refine av kr rfl kr ci (aY am b n.2 (bk [43]) F z o B) ?_;rintro G C ⟨f,rfl,p⟩;refine p1 8 (vB o.1)<|ac<|bF a (fun q a=>?_) (fun q a=>?_)
  ·cases a
  ·refine aL<|p1 12 (bp b)<|ak a ?_;intro g r a;refine av kr rfl kr ci (aY am b o.2 (bk [63]) C p g r) ?_;rintro H D ⟨h,rfl,i⟩;refine p1 11 (vB g.1)<|ac<|bF a (fun s a=>?_) (fun s a=>?_)
   ·refine aL<|pN 3 [2,3,4] [(2,vI 0),(3,vI 1),(4,vB true)]<|ac<|aq ?_
    obtain rfl:=sj a;refine az (ar [vI 0,vI 1,vB true] rfl ⟨kr,kr,kr,trivial⟩ ?_);exact ⟨(al (al (al k l bw) f bw) h bw),rfl,i⟩
   ·refine aL<|p1 15 (bp b)<|ak a ?_;intro m t a;refine av kr rfl kr ci (aY am b g.2 (bk [123]) D i m t) ?_;rintro I J ⟨u,rfl,w⟩;refine pL [14,17] 14 (vB (!m.1))<|ac<|bF a (fun x a=>?_) (fun x a=>?_)
    ·refine aL<|pN 3 [2,3,4] [(2,vI 0),(3,vI 0),(4,vB false)]<|bV [(2,vI 0),(3,vI 0),(4,vB false)]<|ac<|aq ?_
     obtain rfl:=sj a;refine az (ar [vI 0,vI 0,vB false] rfl ⟨kr,kr,kr,trivial⟩ ?_);exact ⟨(al (al (al (al k l bw) f bw) h bw) u bw),rfl,w⟩
    ·cases a

theorem regex_parser_next_ok (am:Nat) (a:Nat) (b:dh) (d:World) (i:Nat→Prop) (g:∀ k,i k→k<d.heap.size∧k≠a) (h:bh d a 117 (cO b)) (q:Rd bE d i (ro 0) 256 cz) (r:Rd (prE (iE .u8) (iE .u8)) d i (ro 1) 16 cR) (m:Int × dh) (c:regex_parser_next am b=some m):
    Cs 153 [bp a] d (Ret fun v w'=>d.grownBy w' (some a)∧v=tup [vI m.1]∧bh w' a 117 (cO m.2)):=by
 have f:d.grownBy d (some a):=cP _ _;unfold regex_parser_next at c;refine aM Tryz.func153 rfl Tryz.ntmps153 kr ?_;refine bV [(0,bp a)] ?_;have y:=h.lt;refine aL<|pN 1 [2] []<|bN<|pL [6,7,8] 8 (bp a)<|br 9 h 0 rfl<|ak c ?_;intro e u c;refine av kr rfl kr enters168 (utf8_DecodeRuneInString_ok am b.1 d i (lz1 g f.size) (rg q f g) (rg r f g) e u) ?_;rintro B C ⟨j,rfl⟩;refine pN 5 [3,4,5,11,12] [(3,vR e.1),(4,vI e.2)]<|cA<|aL<|pL [13,14] 14 (vB (e.2==0))<|ac<|bF c (fun w c=>?_) (fun w c=>?_)
 ·cases c
 ·refine aD<|aL<|pN 4 [17,18,19,20] [(17,bp a),(20,bp a)] ?_
  have l:=h.grown j nb;refine br 9 l 0 rfl<|p1 22 (vI e.2)<|ak c ?_;intro n x c;refine gv_ssub (t:=9) (s:=b.1) (lo:=(some (vI e.2))) (hi:=none) e.2 (bz b.1) n [] nofun rfl rfl rfl kr kr bo (.inr ⟨_,rfl⟩) (.inl ⟨rfl,rfl⟩) x rfl ?_;refine pL [24,25] 25 (bp a)<|aF 9 0 (vS n) #[vS n,vI b.2.1,vI b.2.2.1,vB b.2.2.2.1,vB b.2.2.2.2] l kr kr kr ?_;intro A o p z;refine bN<|pL [2,26,27] 2 (vI (wI (e.1)))<|ac<|aq ?_
  obtain rfl:=sj c;refine az (ar [vI (wI (e.1))] rfl ⟨kr,trivial⟩ ?_);exact ⟨(al (al f j nb) o bw),rfl,p⟩

abbrev gC56 (am:Nat):Prop:=∀ (a:Nat) (i:dh) (b:World) (g:Nat→Prop) (j:∀ k,g k→k<b.heap.size∧k≠a) (l:bh b a 117 (cO i)) (m:Rd bE b g (ro 0) 256 cz) (n:Rd (prE (iE .u8) (iE .u8)) b g (ro 1) 16 cR) (h:cD × dh),regex_parser_alternatives am i=some h→Calls au 56 ([bp a]:List Value).toArray b (Ret fun v w'=>b.grownBy w' (some a)∧∃ (bB:bq) (bK:Nat),∃ (c:Nat→Prop),∃ (d:bq) (e:Nat),∃ (f:Nat→Prop),v=tup [.agg (bm h.1 bB bK d e)]∧Rd bX w' c bB bK h.1.2.2.2.2.2.1∧(Sxb c w' g b)∧Rd pcE w' f d e h.1.2.2.2.2.2.2∧(Sxb f w' g b)∧bh w' a 117 (cO h.2))
abbrev gC83 (am:Nat):Prop:=∀ (a:Nat) (i:dh) (b:World) (g:Nat→Prop) (j:∀ k,g k→k<b.heap.size∧k≠a) (l:bh b a 117 (cO i)) (m:Rd bE b g (ro 0) 256 cz) (n:Rd (prE (iE .u8) (iE .u8)) b g (ro 1) 16 cR) (h:cD × dh),regex_parser_sequence am i=some h→Calls au 83 ([bp a]:List Value).toArray b (Ret fun v w'=>b.grownBy w' (some a)∧∃ (bB:bq) (bK:Nat),∃ (c:Nat→Prop),∃ (d:bq) (e:Nat),∃ (f:Nat→Prop),v=tup [.agg (bm h.1 bB bK d e)]∧Rd bX w' c bB bK h.1.2.2.2.2.2.1∧(Sxb c w' g b)∧Rd pcE w' f d e h.1.2.2.2.2.2.2∧(Sxb f w' g b)∧bh w' a 117 (cO h.2))
abbrev gC107 (am:Nat):Prop:=∀ (a:Nat) (i:dh) (b:World) (g:Nat→Prop) (j:∀ k,g k→k<b.heap.size∧k≠a) (l:bh b a 117 (cO i)) (m:Rd bE b g (ro 0) 256 cz) (n:Rd (prE (iE .u8) (iE .u8)) b g (ro 1) 16 cR) (h:cD × dh),regex_parser_repeated am i=some h→Calls au 107 ([bp a]:List Value).toArray b (Ret fun v w'=>b.grownBy w' (some a)∧∃ (bB:bq) (bK:Nat),∃ (c:Nat→Prop),∃ (d:bq) (e:Nat),∃ (f:Nat→Prop),v=tup [.agg (bm h.1 bB bK d e)]∧Rd bX w' c bB bK h.1.2.2.2.2.2.1∧(Sxb c w' g b)∧Rd pcE w' f d e h.1.2.2.2.2.2.2∧(Sxb f w' g b)∧bh w' a 117 (cO h.2))
abbrev gC127 (am:Nat):Prop:=∀ (a:Nat) (i:dh) (b:World) (g:Nat→Prop) (j:∀ k,g k→k<b.heap.size∧k≠a) (l:bh b a 117 (cO i)) (m:Rd bE b g (ro 0) 256 cz) (n:Rd (prE (iE .u8) (iE .u8)) b g (ro 1) 16 cR) (h:cD × dh),regex_parser_atom am i=some h→Calls au 127 ([bp a]:List Value).toArray b (Ret fun v w'=>b.grownBy w' (some a)∧∃ (bB:bq) (bK:Nat),∃ (c:Nat→Prop),∃ (d:bq) (e:Nat),∃ (f:Nat→Prop),v=tup [.agg (bm h.1 bB bK d e)]∧Rd bX w' c bB bK h.1.2.2.2.2.2.1∧(Sxb c w' g b)∧Rd pcE w' f d e h.1.2.2.2.2.2.2∧(Sxb f w' g b)∧bh w' a 117 (cO h.2))
abbrev gC150 (am:Nat):Prop:=∀ (b:Nat) (m:dh) (aI:bq) (aN:Nat) (d:bq) (e:Nat) (f:cD) (a:World) (c:Nat→Prop) (o:∀ k,c k→k<a.heap.size∧k≠b) (p:bh a b 117 (cO m)) (bD:Rd bX a c aI aN f.2.2.2.2.2.1) (n:Rd pcE a c d e f.2.2.2.2.2.2) (q:Rd bE a c (ro 0) 256 cz) (r:Rd (prE (iE .u8) (iE .u8)) a c (ro 1) 16 cR) (l:cD × dh),regex_parser_inside am m f=some l→Calls au 150 ([bp b,.agg (bm f aI aN d e)]:List Value).toArray a (Ret fun v w'=>a.grownBy w' (some b)∧∃ (bB:bq) (bK:Nat),∃ (g:Nat→Prop),∃ (h:bq) (i:Nat),∃ (j:Nat→Prop),v=tup [.agg (bm l.1 bB bK h i)]∧Rd bX w' g bB bK l.1.2.2.2.2.2.1∧(Sxb g w' c a)∧Rd pcE w' j h i l.1.2.2.2.2.2.2∧(Sxb j w' c a)∧bh w' b 117 (cO l.2))
set_option maxHeartbeats 4000000 in
set_option maxRecDepth 100000 in
theorem regex_parser_alternatives_step (am:Nat) (R:gC56 am) (c:gC83 am) (a3:gC107 am) (bA:gC127 am) (bg:gC150 am):gC56 (am+1):=by
 intro l fn v y f c4 eR eS r0 M;have eT:v.grownBy v (some l):=cP _ _;rw[regex_parser_alternatives.eq_2]at M;refine aM Tryz.func56 rfl Tryz.ntmps56 kr ?_;refine bV [(0,bp l)] ?_;have w:=c4.lt;refine aL<|aE bp dE 25 kr kr ?_
 intro z w2 eU ec bE fN;refine bN<|p1 4 (bp l)<|ak M ?_;intro r7 fo M;have bl:=al eT eU nb;refine av kr rfl kr enters83 (c l fn w2 y (jg f bl) (c4.grown eU nb) (rg eR bl f) (rg eS bl f) r7 fo) ?_;rintro fO ed ⟨ee,eV,eW,c5,eX,eY,c7,rfl,e5,c8,e6,c9,ds⟩;have dH:∀ k,c5 k→k<ed.heap.size:=fun k hk=>(c8 k hk).1;have ef:∀ k,c5 k→y k∨v.heap.size≤k:=fun k hk=>(c8 k hk).2.elim (fun h=>(fun k (hk:y k)=>Or.inl hk) k h) (fun h=>.inr (Nat.le_trans bl.size h));have dI:∀ k,c7 k→k<ed.heap.size:=fun k hk=>(c9 k hk).1;have eg:∀ k,c7 k→y k∨v.heap.size≤k:=fun k hk=>(c9 k hk).2.elim (fun h=>(fun k (hk:y k)=>Or.inl hk) k h) (fun h=>.inr (Nat.le_trans bl.size h));refine aE (fun b=>.slice (ro b) 1 1) (bm r7.1 eV eW eX eY) 25 kr kr ?_;intro bn dR S e7 u fH;obtain ⟨bs,e⟩:∃ X:Nat→Prop,X=(fun k=>c5 k∨c7 k):=⟨_,rfl⟩;have eh:∀ k,bs k→k<ed.heap.size:=fun k h=>by rw[e]at h;exact (h).elim (fun h=>dH k h) (fun h=>dI k h)
 have e8:∀ k,bs k→k<dR.heap.size:=fun k h=>cn (eh k h) S.size;have e9:∀ k,bs k→y k∨v.heap.size≤k:=fun k h=>by rw[e]at h;exact (h).elim (fun h=>ef k h) (fun h=>eg k h)
 have fa:ay pcE 25 dR bs (ro bn) 1 ([Pc.of r7.1]:List Pc):=bQ e7 (by rw[e];exact ⟨[vI r7.1.1,vI r7.1.2.1,vI r7.1.2.2.1,vB r7.1.2.2.2.1,vB r7.1.2.2.2.2.1,vL eV r7.1.2.2.2.2.2.1 eW,vL eX r7.1.2.2.2.2.2.2 eY],[],rfl,pc_mk7 ((e5.grown S dH nb).wide (fun _ h=>(.inl h))) ((e6.grown S dI nb).wide (fun _ h=>(.inr h))),rfl⟩) (show 1≤maxLen by decide) (fun h=>noteq u (eh _ h));have ei:∀ k,bs k→(fun k=>c5 k∨c7 k) k:=fun k h=>by rw[e]at h;exact h
 clear e;have ej:=al bl ee bw;have fb:Lo v (ro bn):=loo u ej.size;have fI:=apD u ds;have fJ:=apG (p:=l) u ds (fun h=>(ei _ h).elim (xq ef f w) (xq eg f w));have T:=cQ bE c4;have dJ:=ec.grown ee (ag T);have F:v.heap.size≤z:=b8 bE eT.size;have fK:∀ g,aQ (ro bn)=some g→¬ c5 g:=fun g e hx=>nl (cg u g e) (dH _ hx);have fL:∀ g,aQ (ro bn)=some g→¬ c7 g:=fun g e hx=>nl (cg u g e) (dI _ hx);refine p1 3 (vL (ro bn) ([Pc.of r7.1]:List Pc) 1)<|cA<|ak M ?_;intro W h1 M
 refine aG (J:=fun a K=>∃ (m:bq) (N:Nat),∃ (r:Nat→Prop),v.grownBy K (some l)∧Sz dR K∧ay pcE 25 K r m N W.1∧(Lo v m)∧(∀ k,r k→k<K.heap.size)∧(∀ k,r k→y k∨v.heap.size≤k)∧(∀ g,aQ m=some g→¬ (· =z) g)∧¬ (fun k=>aQ m=some k∨r k) z∧bh K l 117 (cO W.2)∧bh K z 25 dE∧Qa a 24 [(0,bp l),(2,bp z),(3,vL m W.1 N)]) ?_ ?_
 ·refine aH<|bT (A:=fun (Z:(List Pc) × dh) a aa=>∃ (m:bq) (N:Nat),∃ (r:Nat→Prop),v.grownBy aa (some l)∧Sz dR aa∧ay pcE 25 aa r m N Z.1∧(Lo v m)∧(∀ k,r k→k<aa.heap.size)∧(∀ k,r k→y k∨v.heap.size≤k)∧(∀ g,aQ m=some g→¬ (· =z) g)∧¬ (fun k=>aQ m=some k∨r k) z∧bh aa l 117 (cO Z.2)∧bh aa z 25 dE∧Qa a 24 [(0,bp l),(2,bp z),(3,vL m Z.1 N)]) h1 ?_ ?_
  ·intro a hd hs ao;exact ⟨(ro bn),1,bs,(al ej S nb),bP,fa,fb,e8,e9,(apD u dJ),(apG (p:=z) u dJ (fun h=>(ei _ h).elim (apE c8 (xlo F f) ec.lt) (apE c9 (xlo F f) ec.lt))),(ds.grown S nb),(dJ.grown S nb),hd,hs,aX ao⟩
  ·rintro Z r2 h2 fp a aa ⟨o,dS,L,ek,el,dK,x,a6,U,dL,dM,fd,dN,hd,hs,ao⟩;refine aO ?_ hd hs ao;refine aJ<|aL<|p1 7 (bp l)<|ak h2 ?_;intro eZ ff h2;refine av kr rfl kr ci (aY am l Z.2 (bk [124]) aa fd eZ ff) ?_;rintro fP fq ⟨q,rfl,em⟩;refine ac<|bF h2 (fun fg h2=>?_) (fun fg h2=>?_)
   ·refine aD<|aH<|aA<|pN 2 [9,10] [(9,vL o Z.1 dS),(10,bp l)]<|ak h2 ?_;intro D fh h2;have V:=al ek q bw;refine av kr rfl kr enters83 (c l eZ.2 fq y (jg f V) em (rg eR V f) (rg eS V f) D fh) ?_;rintro fQ en ⟨a7,e0,e2,a8,e3,e4,a9,rfl,fi,b0,fj,b2,dO⟩;have ab:∀ k,a8 k→k<en.heap.size:=fun k hk=>(b0 k hk).1;have dT:∀ k,a8 k→y k∨v.heap.size≤k:=fun k hk=>(b0 k hk).2.elim (fun h=>(fun k (hk:y k)=>Or.inl hk) k h) (fun h=>.inr (Nat.le_trans V.size h));have ah:∀ k,a9 k→k<en.heap.size:=fun k hk=>(b2 k hk).1;have dU:∀ k,a9 k→y k∨v.heap.size≤k:=fun k hk=>(b2 k hk).2.elim (fun h=>(fun k (hk:y k)=>Or.inl hk) k h) (fun h=>.inr (Nat.le_trans V.size h));refine aE (fun b=>.slice (ro b) 1 1) (bm D.1 e0 e2 e3 e4) 25 kr kr ?_;intro d b3 n eq i fs;obtain ⟨j,e⟩:∃ X:Nat→Prop,X=(fun k=>a8 k∨a9 k):=⟨_,rfl⟩;have dV:∀ k,j k→k<en.heap.size:=fun k h=>by rw[e]at h;exact (h).elim (fun h=>ab k h) (fun h=>ah k h)
    have dW:∀ k,j k→k<b3.heap.size:=fun k h=>cn (dV k h) n.size;have er:∀ k,j k→y k∨v.heap.size≤k:=fun k h=>by rw[e]at h;exact (h).elim (fun h=>dT k h) (fun h=>dU k h)
    have b4:ay pcE 25 b3 j (ro d) 1 ([Pc.of D.1]:List Pc):=bQ eq (by rw[e];exact ⟨[vI D.1.1,vI D.1.2.1,vI D.1.2.2.1,vB D.1.2.2.2.1,vB D.1.2.2.2.2.1,vL e0 D.1.2.2.2.2.2.1 e2,vL e3 D.1.2.2.2.2.2.2 e4],[],rfl,pc_mk7 ((fi.grown n ab nb).wide (fun _ h=>(.inl h))) ((fj.grown n ah nb).wide (fun _ h=>(.inr h))),rfl⟩) (show 1≤maxLen by decide) (fun h=>noteq i (dV _ h));have b5:∀ k,j k→(fun k=>a8 k∨a9 k) k:=fun k h=>by rw[e]at h;exact h
    clear e;have dX:=al V a7 bw;have es:Lo v (ro d):=loo i dX.size;have dY:=aV a6 q.size;have b6:=(dK.grown q a6 (cV (ag (xq (fun k (hk:aQ o=some k∨L k)=>hk.elim (fun h=>Or.inr (x k h)) (fun h=>U k h)) f w)))).grown a7 dY (cV (ag (xq (fun k (hk:aQ o=some k∨L k)=>hk.elim (fun h=>Or.inr (x k h)) (fun h=>U k h)) f w)));have an:=aV dY a7.size;have ft:∀ g,aQ (ro d)=some g→¬ (fun k=>aQ o=some k∨L k) g:=fun g e hx=>nl (cg i g e) ((fun k (hk:aQ o=some k∨L k)=>hk.elim (fun h=>b6.lt k h) (fun h=>an k h)) _ hx);have dZ:=dK.grown q a6 (cV (ag (xq (fun k (hk:aQ o=some k∨L k)=>hk.elim (fun h=>Or.inr (x k h)) (fun h=>U k h)) f w)));have d0:∀ g,aQ o=some g→¬ a8 g:=fun g e h=>((b0 _ h).2.elim (fun h=>((fun g (e:aQ o=some g) (hx:y g)=>nl (x g e) (f _ hx).1)) g e h) (fun h=>nl h (dZ.lt g e)));have d1:∀ g,aQ o=some g→¬ a9 g:=fun g e h=>((b2 _ h).2.elim (fun h=>((fun g (e:aQ o=some g) (hx:y g)=>nl (x g e) (f _ hx).1)) g e h) (fun h=>nl h (dZ.lt g e)));have d2:∀ g,aQ o=some g→¬ (fun k=>aQ (ro d)=some k∨j k) g:=fun g e h=>h.elim (fun h=>nl (cg i _ h) ((fun k (hk:aQ o=some k∨L k)=>hk.elim (fun h=>b6.lt k h) (fun h=>an k h)) g (.inl e))) (fun h=>((b5 _ h)).elim (fun h=>(d0) g e h) (fun h=>(d1) g e h));have fu:=apD i dO;have fv:=apG (p:=l) i dO (fun h=>(b5 _ h).elim (xq dT f w) (xq dU f w));have b7:=(dN.grown q (ag T)).grown a7 (ag T);have fw:=apD i b7;have d3:=dN.grown q (ag T);have fx:∀ g,aQ (ro d)=some g→¬ a8 g:=fun g e hx=>nl (cg i g e) (ab _ hx);have fy:∀ g,aQ (ro d)=some g→¬ a9 g:=fun g e hx=>nl (cg i g e) (ah _ hx);refine ak h2 ?_;intro dP et h2;obtain ⟨B,e⟩:∃ X:Nat→Prop,X=fun k=>L k∨(fun k=>aQ (ro d)=some k∨j k) k:=⟨_,rfl⟩;have d4:∀ k,B k→k<b3.heap.size:=fun k hk=>by rw[e]at hk;exact hk.elim (fun h=>(aV an n.size) k h) (fun h=>(fun k (hk:aQ (ro d)=some k∨j k)=>hk.elim (fun h=>b4.lt k h) (fun h=>dW k h)) k h)
    have eu:∀ k,B k→y k∨v.heap.size≤k:=fun k hk=>by rw[e]at hk;exact hk.elim (fun h=>U k h) (fun h=>(fun k (hk:aQ (ro d)=some k∨j k)=>hk.elim (fun h=>Or.inr (es k h)) (fun h=>er k h)) k h)
    have d5:=b6.grown n an nb;have ev:ay pcE 25 b3 B o dS Z.1:=(d5).wide (fun k hk=>by rw[e];exact .inl hk) (fun g e1 hk=>by rw[e]at hk;exact hk.elim (fun h=>(d5).out g e1 h) (fun h=>d2 g e1 h));have ew:∀ k,(fun k=>aQ (ro d)=some k∨j k) k→B k:=fun k hk=>by rw[e];exact .inr hk
    have ex:∀ k,B k→L k∨(fun k=>aQ (ro d)=some k∨j k) k:=fun k hk=>by rw[e]at hk;exact hk
    clear e;refine co pcE (t:=23) (ty:=23) (e:=25) (a:=o) (ax:=(ro d)) (cap:=dS) (cx:=1) (xs:=Z.1) (ys:=([Pc.of D.1]:List Pc)) dP (X:=B) (Y:=(fun k=>aQ (ro d)=some k∨j k)) cC rfl rfl kr kr bf info25 ev (b4.rd (Y:=fun k=>aQ (ro d)=some k∨j k) (fun _ h=>.inr h) (fun g e=>.inl e)) et (.inl ew) d4 ?_;intro E eo fk O ey G;refine ⟨nofun,?_⟩;have d6:=al dX n nb;have ez:Lo v E:=cF G x d6.size;have eA:∀ k,B k→k<fk.heap.size:=fun k hk=>cn (d4 k hk) O.size;have ca:=b7.grown n nb;have eB:∀ g,aQ E=some g→¬ (· =z) g:=bZ G dL (cl ca);have eC:¬ (fun k=>aQ E=some k∨B k) z:=fun h=>h.elim (fun h=>cq G (fun h=>(dM) (.inl h)) (ca.lt) h) (fun h=>(ex _ h).elim (fun h=>(dM) (.inr h)) (fun h=>((apG (p:=z) i b7 (fun h=>(b5 _ h).elim (apE b0 (xlo F f) d3.lt) (apE b2 (xlo F f) d3.lt)))) h));have fz:∀ g,aQ E=some g→¬ a8 g:=bZ G d0 (aV ab n.size);have fA:∀ g,aQ E=some g→¬ a9 g:=bZ G d1 (aV ah n.size);have fB:∀ g,aQ E=some g→¬ (fun k=>aQ (ro d)=some k∨j k) g:=bZ G d2 (fun k (hk:aQ (ro d)=some k∨j k)=>hk.elim (fun h=>b4.lt k h) (fun h=>dW k h));refine p1 3 (vL E dP eo)<|ac<|bu ?_
    obtain rfl:=sj h2;refine ae fun a hd hs ao=>?_;exact ⟨(dP,D.2),rfl,E,eo,B,(al d6 O (fun g e=>.inr (x g e))),(nt (nt (nt (nt el q.size) a7.size) n.size) O.size),ey,ez,eA,eu,eB,eC,((dO.grown n nb).grown O (fun g (e:aQ o=some g) (h:g=l)=>negt w (x g e) h)),(ca.grown O dL),hd,hs,aX ao⟩
   ·refine bG<|bS rfl ?_
    obtain rfl:=sj h2;replace h1:=congrArg some (fp _ rfl);obtain rfl:=sj h1;refine ae fun a hd hs ao=>?_;exact ⟨o,dS,L,(al ek q bw),(nt el q.size),(dK.grown q a6 (cV (ag (xq (fun k (hk:aQ o=some k∨L k)=>hk.elim (fun h=>Or.inr (x k h)) (fun h=>U k h)) f w)))),x,(aV a6 q.size),U,dL,dM,em,(dN.grown q (ag T)),hd,hs,aX ao⟩
 ·rintro a K ⟨s,dQ,C,ap,fC,a0,cb,P,Q,fD,a1,d7,a2,hd,hs,ao⟩;refine aO ?_ hd hs ao;refine aJ<|aL<|pL [14,15,16] 16 (vB ((lz W.1)==1))<|ac<|bF M (fun eD M=>?_) (fun eD M=>?_)
  ·refine aL<|p1 17 (vL s W.1 dQ)<|ak M ?_;intro cc d8 M;refine db .i64 7 (a0.rd (Y:=fun k=>aQ s=some k∨C k) (fun _ h=>.inr h) (fun g e=>.inl e)) d8 bf ?_;obtain ⟨_,⟨_,_,rfl,rfl,⟨_,_,rfl,rfl,⟨_,_,rfl,rfl,⟨_,_,rfl,rfl,⟨_,_,rfl,rfl,⟨_,_,rfl,⟨ba,bb,rfl,eE⟩,⟨bd,be,rfl,eF⟩⟩⟩⟩⟩⟩⟩,eG⟩:=cells_un (a0.cellsK d8);refine laq 25 (aR s ((0:Int).toNat*7)) (dC (Pc.un cc) ba bb bd be) (bR (eG K (fun _ _=>rfl))) ?_;refine aF 25 0 (.agg (dC (Pc.un cc) ba bb bd be)) (dC (Pc.un cc) ba bb bd be) a2 kr kr kr ?_;intro fl H eH fE;refine ac<|aq ?_
   obtain rfl:=sj M;refine az (ar [.agg (dC (Pc.un cc) ba bb bd be)] rfl ⟨⟨⟨z,0,none⟩,kr,run_loadVar_row fl z _ 25 _ _ _ eH cd rfl kr⟩,trivial⟩ ?_);exact ⟨(al ap H (cI F)),ba,bb,C,bd,be,C,rfl,(eE.grown H P (ag (fun h=>a1 (.inr h)))),sxq (aV P H.size) Q,(eF.grown H P (ag (fun h=>a1 (.inr h)))),sxq (aV P H.size) Q,(d7.grown H (ag (apH bE c4)))⟩
  ·refine aD<|aL<|pN 3 [20,21,22] [(20,bp l),(22,.agg #[vI 9,vI 0,vI 0,vB false,vB false,vL none ([]:List bO) 0,vL s W.1 dQ])]<|ak M ?_;intro ch eI M;refine av kr rfl kr enters85 (cp am l W.2 none 0 s dQ (9,0,0,false,false,([]:List bO),W.1) K (fun k=>(fun _=>False) k∨(fun k=>aQ s=some k∨C k) k) (fun k hk=>⟨(hk).elim (fun h=>h.elim) (fun h=>(fun k (hk:aQ s=some k∨C k)=>hk.elim (fun h=>a0.lt k h) (fun h=>P k h)) k h),fun e=>(hk).elim (fun h=>((h:False).elim)) (fun h=>(xq (fun k (hk:aQ s=some k∨C k)=>hk.elim (fun h=>Or.inr (cb k h)) (fun h=>Q k h)) f w) (e ▸ h))⟩) d7 ((dz bX K (fun _=>False) none 0).wide (fun k hk=>(.inl hk))) ((a0.rd (Y:=fun k=>aQ s=some k∨C k) (fun _ h=>.inr h) (fun g e=>.inl e)).wide (fun k hk=>(.inr hk))) ch eI) ?_;rintro fM ep ⟨d9,ck,cs,cv,cw,c0,c1,rfl,eJ,c2,eK,c3,eL⟩;have ea:∀ k,cv k→k<ep.heap.size:=fun k hk=>(c2 k hk).1;have eM:∀ k,cv k→y k∨v.heap.size≤k:=fun k hk=>(c2 k hk).2.elim (fun h=>(h).elim (fun h=>h.elim) (fun h=>(fun k (hk:aQ s=some k∨C k)=>hk.elim (fun h=>Or.inr (cb k h)) (fun h=>Q k h)) k h)) (fun h=>.inr (Nat.le_trans ap.size h));have eb:∀ k,c1 k→k<ep.heap.size:=fun k hk=>(c3 k hk).1;have eN:∀ k,c1 k→y k∨v.heap.size≤k:=fun k hk=>(c3 k hk).2.elim (fun h=>(h).elim (fun h=>h.elim) (fun h=>(fun k (hk:aQ s=some k∨C k)=>hk.elim (fun h=>Or.inr (cb k h)) (fun h=>Q k h)) k h)) (fun h=>.inr (Nat.le_trans ap.size h));refine aF 25 0 (.agg (bm ch.1 ck cs cw c0)) (bm ch.1 ck cs cw c0) (a2.grown d9 (ag T)) kr kr kr ?_;intro fm I eO fF;refine ac<|aq ?_
   obtain rfl:=sj M;refine az (ar [.agg (bm ch.1 ck cs cw c0)] rfl ⟨⟨⟨z,0,none⟩,kr,run_loadVar_row fm z _ 25 _ _ _ eO cd rfl kr⟩,trivial⟩ ?_);have eP:¬ cv z:=fun h=>((c2 _ h).2.elim (fun h=>(h).elim (fun h=>by cases h) (fun h=>(a1) h)) (fun h=>nl h (a2.lt)));have eQ:¬ c1 z:=fun h=>((c3 _ h).2.elim (fun h=>(h).elim (fun h=>by cases h) (fun h=>(a1) h)) (fun h=>nl h (a2.lt)));exact ⟨(al (al ap d9 bw) I (cI F)),ck,cs,cv,cw,c0,c1,rfl,(eJ.grown I ea (ag eP)),sxq (aV ea I.size) eM,(eK.grown I eb (ag eQ)),sxq (aV eb I.size) eN,(eL.grown I (ag (apH bE c4)))⟩
set_option maxHeartbeats 4000000 in
set_option maxRecDepth 100000 in
theorem regex_parser_sequence_step (am:Nat) (O:gC56 am) (V:gC83 am) (n:gC107 am) (a9:gC127 am) (a5:gC150 am) (c:Nat) (eE:dh) (f:World) (y:Nat→Prop) (z:∀ k,y k→k<f.heap.size∧k≠c) (a7:bh f c 117 (cO eE)) (e0:Rd bE f y (ro 0) 256 cz) (e2:Rd (prE (iE .u8) (iE .u8)) f y (ro 1) 16 cR) (r0:cD × dh) (Q:regex_parser_sequence (am+1) eE=some r0):
    Cs 83 [bp c] f (Ret fun v w'=>f.grownBy w' (some c)∧∃ (bB:bq) (bK:Nat),∃ (ds:Nat→Prop),∃ (dH:bq) (dI:Nat),∃ (dJ:Nat→Prop),v=tup [.agg (bm r0.1 bB bK dH dI)]∧Rd bX w' ds bB bK r0.1.2.2.2.2.2.1∧(Sxb ds w' y f)∧Rd pcE w' dJ dH dI r0.1.2.2.2.2.2.2∧(Sxb dJ w' y f)∧bh w' c 117 (cO r0.2)):=by
 have dK:f.grownBy f (some c):=cP _ _;rw[regex_parser_sequence.eq_2]at Q;refine aM Tryz.func83 rfl Tryz.ntmps83 kr ?_;refine bV [(0,bp c)] ?_;have W:=a7.lt;refine aL<|aE bp dE 25 kr kr ?_
 intro s w2 eF e3 F fm;refine bN<|p1 3 (vL none ([]:List Pc) 0)<|cA<|ak Q ?_;intro j7 h1 Q
 refine aG (J:=fun a w8=>∃ (d:bq) (I:Nat),∃ (m:Nat→Prop),f.grownBy w8 (some c)∧Sz w2 w8∧ay pcE 25 w8 m d I j7.1∧(Lo f d)∧(∀ k,m k→k<w8.heap.size)∧(∀ k,m k→y k∨f.heap.size≤k)∧(∀ g,aQ d=some g→¬ (· =s) g)∧¬ (fun k=>aQ d=some k∨m k) s∧bh w8 c 117 (cO j7.2)∧bh w8 s 25 dE∧Qa a 29 [(0,bp c),(2,bp s),(3,vL d j7.1 I)]) ?_ ?_
 ·refine aH<|bT (A:=fun (Z:(List Pc) × dh) a K=>∃ (d:bq) (I:Nat),∃ (m:Nat→Prop),f.grownBy K (some c)∧Sz w2 K∧ay pcE 25 K m d I Z.1∧(Lo f d)∧(∀ k,m k→k<K.heap.size)∧(∀ k,m k→y k∨f.heap.size≤k)∧(∀ g,aQ d=some g→¬ (· =s) g)∧¬ (fun k=>aQ d=some k∨m k) s∧bh K c 117 (cO Z.2)∧bh K s 25 dE∧Qa a 29 [(0,bp c),(2,bp s),(3,vL d Z.1 I)]) h1 ?_ ?_
  ·intro a hd hs ao;exact ⟨none,0,(fun _=>False),(al dK eF nb),bP,ay.nil pcE 25 w2 (fun _=>False),nofun,fe,fe,nofun,(fun h=>h.elim nofun (fun e=>e)),(a7.grown eF nb),e3,hd,hs,aX ao⟩
  ·rintro Z r2 h2 e4 a K ⟨j,a8,P,dW,eN,dX,G,ba,cw,c0,c1,bb,dY,hd,hs,ao⟩;refine aO ?_ hd hs ao;refine aJ<|aL<|ak h2 ?_;intro dZ h3 h2
   refine aT (J:=fun a ab=>f.grownBy ab (some c)∧Sz K ab∧bh ab c 117 (cO dZ.2)∧bh ab s 25 dE∧ay pcE 25 ab P j a8 Z.1∧Qa a 29 [(0,bp c),(2,bp s),(3,vL j Z.1 a8),(13,vB dZ.1)]) ?_ ?_
   ·refine pL [4,5,6] 6 (bp c)<|br 9 bb 0 rfl<|pL [8,9] 9 (vB (!(Z.2.1.toList==(bk []).toList)))<|cj 9 h3 (fun eO h3=>?_) (fun eO h3=>?_)
    ·refine p1 10 (bp c)<|ak h3 ?_;intro eG eP h3;refine av kr rfl kr enters106 (cX am c Z.2 (bk [124,41]) K bb eG eP) ?_;rintro fn fo ⟨ah,rfl⟩;refine pL [12,13] 13 (vB (!eG))<|ac ?_;obtain rfl:=sj h3;refine ae fun a hd hs ao=>?_;exact ⟨(al dW ah nb),ah.size,(bb.grown ah nb),(dY.grown ah nb),(dX.grown ah ba nb),hd,hs,aX ao⟩
    ·refine pL [10,11,12,13] 13 (vB false)<|ac ?_;obtain rfl:=sj h3;exact ae fun a hd hs ao=>⟨dW,bP,bb,dY,dX,hd,hs,aX ao⟩
   ·rintro a ab ⟨H,bd,d0,be,bg,hd,hs,ao⟩;refine aO ?_ hd hs ao;have d1:=(nt eN bd);refine bF h2 (fun eQ h2=>?_) (fun eQ h2=>?_)
    ·refine aD<|aH<|aA<|pN 2 [14,15] [(14,vL j Z.1 a8),(15,bp c)]<|ak h2 ?_;intro x eR h2;refine av kr rfl kr enters107 (n c dZ.2 ab y (jg z H) d0 (rg e0 H z) (rg e2 H z) x eR) ?_;rintro fp d2 ⟨an,eH,eI,ap,eJ,eK,a0,rfl,eS,bl,eT,bn,c3⟩;have bs:∀ k,ap k→k<d2.heap.size:=fun k hk=>(bl k hk).1;have d3:∀ k,ap k→y k∨f.heap.size≤k:=fun k hk=>(bl k hk).2.elim (fun h=>(fun k (hk:y k)=>Or.inl hk) k h) (fun h=>.inr (Nat.le_trans H.size h));have bA:∀ k,a0 k→k<d2.heap.size:=fun k hk=>(bn k hk).1;have d4:∀ k,a0 k→y k∨f.heap.size≤k:=fun k hk=>(bn k hk).2.elim (fun h=>(fun k (hk:y k)=>Or.inl hk) k h) (fun h=>.inr (Nat.le_trans H.size h));refine aE (fun b=>.slice (ro b) 1 1) (bm x.1 eH eI eJ eK) 25 kr kr ?_;intro l dL o eU i fd;obtain ⟨q,e⟩:∃ X:Nat→Prop,X=(fun k=>ap k∨a0 k):=⟨_,rfl⟩;have d5:∀ k,q k→k<d2.heap.size:=fun k h=>by rw[e]at h;exact (h).elim (fun h=>bs k h) (fun h=>bA k h)
     have d6:∀ k,q k→k<dL.heap.size:=fun k h=>cn (d5 k h) o.size;have eV:∀ k,q k→y k∨f.heap.size≤k:=fun k h=>by rw[e]at h;exact (h).elim (fun h=>d3 k h) (fun h=>d4 k h)
     have c4:ay pcE 25 dL q (ro l) 1 ([Pc.of x.1]:List Pc):=bQ eU (by rw[e];exact ⟨[vI x.1.1,vI x.1.2.1,vI x.1.2.2.1,vB x.1.2.2.2.1,vB x.1.2.2.2.2.1,vL eH x.1.2.2.2.2.2.1 eI,vL eJ x.1.2.2.2.2.2.2 eK],[],rfl,pc_mk7 ((eS.grown o bs nb).wide (fun _ h=>(.inl h))) ((eT.grown o bA nb).wide (fun _ h=>(.inr h))),rfl⟩) (show 1≤maxLen by decide) (fun h=>noteq i (d5 _ h));have c5:∀ k,q k→(fun k=>ap k∨a0 k) k:=fun k h=>by rw[e]at h;exact h
     clear e;have d7:=al H an bw;have eW:Lo f (ro l):=loo i d7.size;have ff:=apD i c3;have fg:=apG (p:=c) i c3 (fun h=>(c5 _ h).elim (xq d3 z W) (xq d4 z W));have c7:=be.grown an (ag (cQ F a7));have fh:=apD i c7;have dM:f.heap.size≤s:=b8 F dK.size;have c8:=bg.grown an (aV ba bd) (cV (ag (xq (fun k (hk:aQ j=some k∨P k)=>hk.elim (fun h=>Or.inr (G k h)) (fun h=>cw k h)) z W)));have b0:=aV (aV ba bd) an.size;have fi:∀ g,aQ (ro l)=some g→¬ (fun k=>aQ j=some k∨P k) g:=fun g e hx=>nl (cg i g e) ((fun k (hk:aQ j=some k∨P k)=>hk.elim (fun h=>c8.lt k h) (fun h=>b0 k h)) _ hx);have d8:∀ g,aQ j=some g→¬ ap g:=fun g e h=>((bl _ h).2.elim (fun h=>((fun g (e:aQ j=some g) (hx:y g)=>nl (G g e) (z _ hx).1)) g e h) (fun h=>nl h (bg.lt g e)));have d9:∀ g,aQ j=some g→¬ a0 g:=fun g e h=>((bn _ h).2.elim (fun h=>((fun g (e:aQ j=some g) (hx:y g)=>nl (G g e) (z _ hx).1)) g e h) (fun h=>nl h (bg.lt g e)));have ea:∀ g,aQ j=some g→¬ (fun k=>aQ (ro l)=some k∨q k) g:=fun g e h=>h.elim (fun h=>nl (cg i _ h) ((fun k (hk:aQ j=some k∨P k)=>hk.elim (fun h=>c8.lt k h) (fun h=>b0 k h)) g (.inl e))) (fun h=>((c5 _ h)).elim (fun h=>(d8) g e h) (fun h=>(d9) g e h));have fj:∀ g,aQ (ro l)=some g→¬ ap g:=fun g e hx=>nl (cg i g e) (bs _ hx);have fk:∀ g,aQ (ro l)=some g→¬ a0 g:=fun g e hx=>nl (cg i g e) (bA _ hx);refine ak h2 ?_;intro eb eg h2;obtain ⟨u,e⟩:∃ X:Nat→Prop,X=fun k=>P k∨(fun k=>aQ (ro l)=some k∨q k) k:=⟨_,rfl⟩;have dN:∀ k,u k→k<dL.heap.size:=fun k hk=>by rw[e]at hk;exact hk.elim (fun h=>(aV b0 o.size) k h) (fun h=>(fun k (hk:aQ (ro l)=some k∨q k)=>hk.elim (fun h=>c4.lt k h) (fun h=>d6 k h)) k h)
     have eh:∀ k,u k→y k∨f.heap.size≤k:=fun k hk=>by rw[e]at hk;exact hk.elim (fun h=>cw k h) (fun h=>(fun k (hk:aQ (ro l)=some k∨q k)=>hk.elim (fun h=>Or.inr (eW k h)) (fun h=>eV k h)) k h)
     have dO:=c8.grown o b0 nb;have ei:ay pcE 25 dL u j a8 Z.1:=(dO).wide (fun k hk=>by rw[e];exact .inl hk) (fun g e1 hk=>by rw[e]at hk;exact hk.elim (fun h=>(dO).out g e1 h) (fun h=>ea g e1 h));have ej:∀ k,(fun k=>aQ (ro l)=some k∨q k) k→u k:=fun k hk=>by rw[e];exact .inr hk
     have ek:∀ k,u k→P k∨(fun k=>aQ (ro l)=some k∨q k) k:=fun k hk=>by rw[e]at hk;exact hk
     clear e;refine co pcE (t:=23) (ty:=23) (e:=25) (a:=j) (ax:=(ro l)) (cap:=a8) (cx:=1) (xs:=Z.1) (ys:=([Pc.of x.1]:List Pc)) eb (X:=u) (Y:=(fun k=>aQ (ro l)=some k∨q k)) cC rfl rfl kr kr bf info25 ei (c4.rd (Y:=fun k=>aQ (ro l)=some k∨q k) (fun _ h=>.inr h) (fun g e=>.inl e)) eg (.inl ej) dN ?_;intro B ec eX L el C;refine ⟨nofun,?_⟩;have dP:=al d7 o nb;have em:Lo f B:=cF C G dP.size;have en:∀ k,u k→k<eX.heap.size:=fun k hk=>cn (dN k hk) L.size;have b2:=c7.grown o nb;have eo:∀ g,aQ B=some g→¬ (· =s) g:=bZ C c0 (cl b2);have ep:¬ (fun k=>aQ B=some k∨u k) s:=fun h=>h.elim (fun h=>cq C (fun h=>(c1) (.inl h)) (b2.lt) h) (fun h=>(ek _ h).elim (fun h=>(c1) (.inr h)) (fun h=>((apG (p:=s) i c7 (fun h=>(c5 _ h).elim (apE bl (xlo dM z) be.lt) (apE bn (xlo dM z) be.lt)))) h));have e6:∀ g,aQ B=some g→¬ ap g:=bZ C d8 (aV bs o.size);have e7:∀ g,aQ B=some g→¬ a0 g:=bZ C d9 (aV bA o.size);have e8:∀ g,aQ B=some g→¬ (fun k=>aQ (ro l)=some k∨q k) g:=bZ C ea (fun k (hk:aQ (ro l)=some k∨q k)=>hk.elim (fun h=>c4.lt k h) (fun h=>d6 k h));refine p1 3 (vL B eb ec)<|ac<|bu ?_
     obtain rfl:=sj h2;refine ae fun a hd hs ao=>?_;exact ⟨(eb,x.2),rfl,B,ec,u,(al dP L (fun g e=>.inr (G g e))),(nt (nt (nt d1 an.size) o.size) L.size),el,em,en,eh,eo,ep,((c3.grown o nb).grown L (fun g (e:aQ j=some g) (h:g=c)=>negt W (G g e) h)),(b2.grown L c0),hd,hs,aX ao⟩
    ·refine bG<|bS rfl ?_
     obtain rfl:=sj h2;replace h1:=congrArg some (e4 _ rfl);obtain rfl:=sj h1;refine ae fun a hd hs ao=>?_;exact ⟨j,a8,P,H,d1,bg,G,aV ba bd,cw,c0,c1,d0,be,hd,hs,aX ao⟩
 ·rintro a w8 ⟨r,c9,w,R,e9,S,b3,M,N,fa,T,dQ,U,hd,hs,ao⟩;refine aO ?_ hd hs ao;refine aJ<|aL<|pL [19,20,21] 21 (vB ((lz j7.1)==1))<|ac<|bF Q (fun eq Q=>?_) (fun eq Q=>?_)
  ·refine aL<|p1 22 (vL r j7.1 c9)<|ak Q ?_;intro b4 dR Q;refine db .i64 7 (S.rd (Y:=fun k=>aQ r=some k∨w k) (fun _ h=>.inr h) (fun g e=>.inl e)) dR bf ?_;obtain ⟨_,⟨_,_,rfl,rfl,⟨_,_,rfl,rfl,⟨_,_,rfl,rfl,⟨_,_,rfl,rfl,⟨_,_,rfl,rfl,⟨_,_,rfl,⟨a1,a2,rfl,er⟩,⟨a3,a4,rfl,es⟩⟩⟩⟩⟩⟩⟩,et⟩:=cells_un (S.cellsK dR);refine laq 25 (aR r ((0:Int).toNat*7)) (dC (Pc.un b4) a1 a2 a3 a4) (bR (et w8 (fun _ _=>rfl))) ?_;refine aF 25 0 (.agg (dC (Pc.un b4) a1 a2 a3 a4)) (dC (Pc.un b4) a1 a2 a3 a4) U kr kr kr ?_;intro eY D eu fb;refine ac<|aq ?_
   obtain rfl:=sj Q;refine az (ar [.agg (dC (Pc.un b4) a1 a2 a3 a4)] rfl ⟨⟨⟨s,0,none⟩,kr,run_loadVar_row eY s _ 25 _ _ _ eu cd rfl kr⟩,trivial⟩ ?_);have ed:f.heap.size≤s:=b8 F dK.size;exact ⟨(al R D (cI ed)),a1,a2,w,a3,a4,w,rfl,(er.grown D M (ag (fun h=>T (.inr h)))),sxq (aV M D.size) N,(es.grown D M (ag (fun h=>T (.inr h)))),sxq (aV M D.size) N,(dQ.grown D (ag (apH F a7)))⟩
  ·refine aD<|aL<|pN 3 [25,26,27] [(25,bp c),(27,.agg #[vI 8,vI 0,vI 0,vB false,vB false,vL none ([]:List bO) 0,vL r j7.1 c9])]<|ak Q ?_;intro b5 ev Q;refine av kr rfl kr enters85 (cp am c j7.2 none 0 r c9 (8,0,0,false,false,([]:List bO),j7.1) w8 (fun k=>(fun _=>False) k∨(fun k=>aQ r=some k∨w k) k) (fun k hk=>⟨(hk).elim (fun h=>h.elim) (fun h=>(fun k (hk:aQ r=some k∨w k)=>hk.elim (fun h=>S.lt k h) (fun h=>M k h)) k h),fun e=>(hk).elim (fun h=>((h:False).elim)) (fun h=>(xq (fun k (hk:aQ r=some k∨w k)=>hk.elim (fun h=>Or.inr (b3 k h)) (fun h=>N k h)) z W) (e ▸ h))⟩) dQ ((dz bX w8 (fun _=>False) none 0).wide (fun k hk=>(.inl hk))) ((S.rd (Y:=fun k=>aQ r=some k∨w k) (fun _ h=>.inr h) (fun g e=>.inl e)).wide (fun k hk=>(.inr hk))) b5 ev) ?_;rintro fl ee ⟨dS,b6,b7,ca,cb,cc,ch,rfl,ew,ck,ex,cs,ey⟩;have dT:∀ k,ca k→k<ee.heap.size:=fun k hk=>(ck k hk).1;have ez:∀ k,ca k→y k∨f.heap.size≤k:=fun k hk=>(ck k hk).2.elim (fun h=>(h).elim (fun h=>h.elim) (fun h=>(fun k (hk:aQ r=some k∨w k)=>hk.elim (fun h=>Or.inr (b3 k h)) (fun h=>N k h)) k h)) (fun h=>.inr (Nat.le_trans R.size h));have dU:∀ k,ch k→k<ee.heap.size:=fun k hk=>(cs k hk).1;have eA:∀ k,ch k→y k∨f.heap.size≤k:=fun k hk=>(cs k hk).2.elim (fun h=>(h).elim (fun h=>h.elim) (fun h=>(fun k (hk:aQ r=some k∨w k)=>hk.elim (fun h=>Or.inr (b3 k h)) (fun h=>N k h)) k h)) (fun h=>.inr (Nat.le_trans R.size h));refine aF 25 0 (.agg (bm b5.1 b6 b7 cb cc)) (bm b5.1 b6 b7 cb cc) (U.grown dS (ag (cQ F a7))) kr kr kr ?_;intro eZ E eB fc;refine ac<|aq ?_
   obtain rfl:=sj Q;refine az (ar [.agg (bm b5.1 b6 b7 cb cc)] rfl ⟨⟨⟨s,0,none⟩,kr,run_loadVar_row eZ s _ 25 _ _ _ eB cd rfl kr⟩,trivial⟩ ?_);have ef:f.heap.size≤s:=b8 F dK.size;have eC:¬ ca s:=fun h=>((ck _ h).2.elim (fun h=>(h).elim (fun h=>by cases h) (fun h=>(T) h)) (fun h=>nl h (U.lt)));have eD:¬ ch s:=fun h=>((cs _ h).2.elim (fun h=>(h).elim (fun h=>by cases h) (fun h=>(T) h)) (fun h=>nl h (U.lt)));exact ⟨(al (al R dS bw) E (cI ef)),b6,b7,ca,cb,cc,ch,rfl,(ew.grown E dT (ag eC)),sxq (aV dT E.size) ez,(ex.grown E dU (ag eD)),sxq (aV dU E.size) eA,(ey.grown E (ag (apH F a7)))⟩
set_option maxHeartbeats 4000000 in
set_option maxRecDepth 100000 in
theorem regex_parser_repeated_step (am:Nat) (ec:gC56 am) (eH:gC83 am) (eI:gC107 am) (c1:gC127 am) (eS:gC150 am) (c:Nat) (hN:dh) (r:World) (X0:Nat→Prop) (s:∀ k,X0 k→k<r.heap.size∧k≠c) (a7:bh r c 117 (cO hN)) (ld:Rd bE r X0 (ro 0) 256 cz) (le:Rd (prE (iE .u8) (iE .u8)) r X0 (ro 1) 16 cR) (r0:cD × dh) (W:regex_parser_repeated (am+1) hN=some r0):
    Cs 107 [bp c] r (Ret fun v w'=>r.grownBy w' (some c)∧∃ (bB:bq) (bK:Nat),∃ (fN:Nat→Prop),∃ (fO:bq) (fP:Nat),∃ (fQ:Nat→Prop),v=tup [.agg (bm r0.1 bB bK fO fP)]∧Rd bX w' fN bB bK r0.1.2.2.2.2.2.1∧(Sxb fN w' X0 r)∧Rd pcE w' fQ fO fP r0.1.2.2.2.2.2.2∧(Sxb fQ w' X0 r)∧bh w' c 117 (cO r0.2)):=by
 have eJ:r.grownBy r (some c):=cP _ _;rw[regex_parser_repeated.eq_2]at W;refine aM Tryz.func107 rfl Tryz.ntmps107 kr ?_;refine bV [(0,bp c)] ?_;have w:=a7.lt;refine aL<|aE bp dE 25 kr kr ?_
 intro q w2 hP L M lf;refine bN<|p1 8 (bp c)<|ak W ?_;intro m k3 W;have Z:=al eJ hP nb;refine av kr rfl kr enters127 (c1 c hN w2 X0 (jg s Z) (a7.grown hP nb) (rg ld Z s) (rg le Z s) m k3) ?_;rintro mg k4 ⟨x,C,D,P,E,F,Q,rfl,c2,dL,c3,dM,eK⟩;have A:∀ k,P k→k<k4.heap.size:=fun k hk=>(dL k hk).1;have H:∀ k,P k→X0 k∨r.heap.size≤k:=fun k hk=>(dL k hk).2.elim (fun h=>(fun k (hk:X0 k)=>Or.inl hk) k h) (fun h=>.inr (Nat.le_trans Z.size h));have B:∀ k,Q k→k<k4.heap.size:=fun k hk=>(dM k hk).1;have I:∀ k,Q k→X0 k∨r.heap.size≤k:=fun k hk=>(dM k hk).2.elim (fun h=>(fun k (hk:X0 k)=>Or.inl hk) k h) (fun h=>.inr (Nat.le_trans Z.size h));refine aE bp dE 25 kr kr ?_;intro aa mh f hQ n k5;refine aF 25 0 (.agg (bm m.1 C D E F)) (bm m.1 C D E F) hQ kr kr kr ?_;intro lg i fJ k6;refine bN<|p1 11 (bp c)<|ak W ?_;intro j hR W;refine av kr rfl kr enters128 (regex_parser_bounds_ok am c m.2 lg ((eK.grown f nb).grown i (ag (apH n eK))) j hR) ?_;rintro mi lh ⟨d,rfl,ba⟩;refine pN 7 [4,5,6,10,13,14,15] [(4,vI j.1),(5,vI j.2.1),(6,vB j.2.2.1)]<|cA<|aL<|pL [16,17] 17 (vB (!j.2.2.1))<|ac<|bF W (fun hS W=>?_) (fun hS W=>?_)
 ·refine aL<|dc 25 aa (bm m.1 C D E F) (bR (fJ.grown d (ag (cQ n eK)))) ?_;have fK:=cQ M a7;refine aF 25 0 (.agg (bm m.1 C D E F)) (bm m.1 C D E F) ((((L.grown x (ag fK)).grown f nb).grown i (ag (ng (cn ((cl (L.grown x (ag fK))) _ rfl) ((bj n) _ rfl))))).grown d (ag fK)) kr kr kr ?_;intro li ed k7 lU;refine ac<|aq ?_
  obtain rfl:=sj W;refine az (ar [.agg (bm m.1 C D E F)] rfl ⟨⟨⟨q,0,none⟩,kr,run_loadVar_row li q _ 25 _ _ _ k7 cd rfl kr⟩,trivial⟩ ?_);have iJ:r.heap.size≤aa:=b8 n (al Z x bw).size;have eT:r.heap.size≤q:=b8 M eJ.size;have hT:=aV A f.size;have hU:=aV hT i.size;have hV:=aV hU d.size;have hW:=aV B f.size;have hX:=aV hW i.size;have hY:=aV hX d.size;exact ⟨(al (al (al (al (al Z x bw) f nb) i (cI iJ)) d bw) ed (cI eT)),C,D,P,E,F,Q,rfl,((((c2.grown f A nb).grown i hT (ag (apF n A))).grown d hU (ag (xq H s w))).grown ed hV (ag (apE dL (xlo eT s) L.lt))),sxq (aV hV ed.size) H,((((c3.grown f B nb).grown i hW (ag (apF n B))).grown d hX (ag (xq I s w))).grown ed hY (ag (apE dM (xlo eT s) L.lt))),sxq (aV hY ed.size) I,(ba.grown ed (ag (apH M a7)))⟩
 ·refine aD<|aJ<|aL<|p1 19 (bp aa) ?_
  have ee:=cQ n eK;have b6:=fJ.grown d (ag ee);refine br 3 b6 0 rfl<|ac<|aH<|aJ<|aL<|pL [21,22] 21 (vB (m.1.1==4))<|ac<|bF W (fun hZ W=>?_) (fun hZ W=>?_)
  ·cases W
  ·refine aL<|pL [21,23] 21 (vB (m.1.1==5))<|ac<|bF W (fun h2 W=>?_) (fun h2 W=>?_)
   ·cases W
   ·refine aL<|pL [21,24] 21 (vB (m.1.1==6))<|bV [(0,bp c),(2,bp q),(3,bp aa),(4,vI j.1),(5,vI j.2.1),(20,vI m.1.1),(21,vB (m.1.1==6))]<|ac<|bF W (fun h3 W=>?_) (fun h3 W=>?_)
    ·cases W
    ·refine aA<|pL [21,25] 21 (vB (m.1.1==11))<|ac<|dt (b:=(m.1.1==11)) kr (fun eU=>?_) (fun eU=>?_)
     ·replace W:=ite_t eU W;cases W
     ·replace W:=ite_f eU W;refine aD<|bu<|aJ<|ak W ?_;intro d2 h1 W
      refine aG (J:=fun a dN=>∃ (el:bq) (em:Nat),∃ (a2:Nat→Prop),∃ (en:bq) (eo:Nat),∃ (a3:Nat→Prop),∃ (be:Nat),r.grownBy dN (some c)∧Sz lh dN∧Rd bX dN a2 el em d2.2.2.2.2.2.2.1∧(∀ k,a2 k→k<dN.heap.size)∧(∀ k,a2 k→X0 k∨r.heap.size≤k)∧Rd pcE dN a3 en eo d2.2.2.2.2.2.2.2∧(∀ k,a3 k→k<dN.heap.size)∧(∀ k,a3 k→X0 k∨r.heap.size≤k)∧¬ a2 q∧¬ a2 be∧¬ a3 q∧¬ a3 be∧¬ (· =q) be∧bh dN c 117 (cO d2.1)∧bh dN q 25 dE∧bh dN be 25 (bm d2.2 el em en eo)∧r.heap.size≤be∧Qa a 42 [(0,bp c),(2,bp q),(7,bp be)]) ?_ ?_
      ·refine bU kr ?_;intro dK l;refine ak h1 ?_;intro z ef h1;refine ak h1 ?_;intro K fR h1;refine gv_shareA (fun σ b7=>∃ (ab:Nat),∃ (c4:bq),∃ (c5:Nat),∃ (d0:Nat→Prop),∃ (c7:bq),∃ (c8:Nat),∃ (d1:Nat→Prop),σ=[(0,bp c),(2,bp q),(7,bp ab),(36,.agg (bm K.1 c4 c5 c7 c8))]∧r.grownBy b7 (some c)∧Sz dK b7∧bh b7 c 117 (cO K.2)∧bh b7 q 25 dE∧bh b7 ab 25 dE∧r.heap.size≤ab∧Rd bX b7 d0 c4 c5 K.1.2.2.2.2.2.1∧(∀ k,d0 k→k<b7.heap.size)∧(∀ k,d0 k→X0 k∨r.heap.size≤k)∧Rd pcE b7 d1 c7 c8 K.1.2.2.2.2.2.2∧(∀ k,d1 k→k<b7.heap.size)∧(∀ k,d1 k→X0 k∨r.heap.size≤k)∧(¬ (· =ab) c)∧(¬ d0 q)∧(¬ d1 q)∧(¬ (· =ab) q)∧(¬ (· =c) ab)∧(¬ (· =q) ab)∧(¬ d0 ab)∧(¬ d1 ab)) (bA 11 [0,1,2,3,4,5,6,7,8,9]) 1 ?_ fun h5=>?_
       ·rintro σ b7 ⟨ab,c4,c5,d0,c7,c8,d1,rfl,iK,iL,iM,iN,iO,fy,iP,fS,iQ,iR,fT,iS,lk,iT,iU,ll,iV,fU,fV,fW⟩;refine gv_alt [(10,bA 11 [0,1,2,3,4,5,6,7,8,9,10])] 0 kr kr ⟨?_,trivial⟩;refine dB (t:=25) (b:=ab) (off:=0) (v:=(.agg #[.int .i64 K.1.1,.int .i64 K.1.2.1,.int .i64 K.1.2.2.1,.bool K.1.2.2.2.1,.bool K.1.2.2.2.2.1,.slice c4 (length K.1.2.2.2.2.2.1) c5,.slice c7 (length K.1.2.2.2.2.2.2) c8])) (t':=25) (cs:=#[.int .i64 0,.int .i64 0,.int .i64 0,.bool false,.bool false,.slice none (length ([]:List bO)) 0,.slice none (length ([]:List Pc)) 0]) #[.int .i64 K.1.1,.int .i64 K.1.2.1,.int .i64 K.1.2.2.1,.bool K.1.2.2.2.1,.bool K.1.2.2.2.2.1,.slice c4 (length K.1.2.2.2.2.2.1) c5,.slice c7 (length K.1.2.2.2.2.2.2) c8] cC rfl rfl kr kr kr (by intro u hu;simp[Value.cells]at hu;rcases hu with rfl | rfl | rfl | rfl | rfl | rfl | rfl<;>rfl) (show 0+7≤7 by decide) (by rfl) iO ?_;intro lV bg iW lm;refine ⟨(fun _=>trivial),?_⟩;refine ac<|aw<|bc kr ?_;obtain rfl:=sj h1;refine ae fun a hd hs ao=>?_;exact ⟨c4,c5,d0,c7,c8,d1,ab,(al iK bg (cI fy)),(nt (nt l.size iL) bg.size),(iP.grown bg fS (ag fV)),(aV fS bg.size),iQ,(iR.grown bg fT (ag fW)),(aV fT bg.size),iS,iT,fV,iU,fW,fU,(iM.grown bg (ag iV)),(iN.grown bg (ag fU)),iW,fy,hd,hs,aX ao⟩
       refine gv_shareA (fun σ ca=>∃ (N:Nat),∃ (o:Nat),∃ (a5:Nat→Prop),σ=[(0,bp c),(2,bp q),(7,bp N),(28,bp c),(35,.agg #[vI 10,vI j.1,vI j.2.1,vB false,vB z.1,vL none ([]:List bO) 0,vL (ro o) ([Pc.of m.1]:List Pc) 1])]∧r.grownBy ca (some c)∧Sz dK ca∧bh ca c 117 (cO z.2)∧bh ca q 25 dE∧bh ca N 25 dE∧r.heap.size≤N∧ay pcE 25 ca a5 (ro o) 1 ([Pc.of m.1]:List Pc)∧(∀ k,a5 k→k<ca.heap.size)∧(Lo r (ro o))∧(∀ k,a5 k→X0 k∨r.heap.size≤k)∧(¬ (fun k=>aQ (ro o)=some k∨a5 k) c)∧(¬ (· =N) c)∧(¬ (fun k=>aQ (ro o)=some k∨a5 k) q)∧(¬ (· =N) q)∧(∀ g,aQ (ro o)=some g→¬ (· =c) g)∧(∀ g,aQ (ro o)=some g→¬ (· =q) g)∧(∀ g,aQ (ro o)=some g→¬ (· =N) g)∧(¬ (· =c) N)∧(¬ (· =q) N)∧(¬ (fun k=>aQ (ro o)=some k∨a5 k) N)) (bA 11 [0,1,2,3,4,5,6,7,9]) 2 ?_ fun h6=>?_
       ·rintro σ ca ⟨N,o,a5,rfl,eV,iX,iY,eW,eX,h7,fX,iZ,fz,fY,i0,fZ,f0,i1,ln,lo,lp,i2,i3,f1⟩;refine gv_alt [(8,bA 11 [0,1,2,3,4,5,6,7,8,9])] 1 kr kr ⟨?_,trivial⟩;refine clq enters85 (cp am c z.2 none 0 (ro o) 1 (10,j.1,j.2.1,false,z.1,([]:List bO),([Pc.of m.1]:List Pc)) ca (fun k=>(fun _=>False) k∨(fun k=>aQ (ro o)=some k∨a5 k) k) (fun k hk=>⟨(hk).elim (fun h=>h.elim) (fun h=>(fun k (hk:aQ (ro o)=some k∨a5 k)=>hk.elim (fun h=>fX.lt k h) (fun h=>iZ k h)) k h),fun e=>(hk).elim (fun h=>((h:False).elim)) (fun h=>i0 (e ▸ h))⟩) iY ((dz bX ca (fun _=>False) none 0).wide (fun k hk=>(.inl hk))) ((fX.rd (Y:=fun k=>aQ (ro o)=some k∨a5 k) (fun _ h=>.inr h) (fun g e=>.inl e)).wide (fun k hk=>(.inr hk))) K fR) ?_;rintro lW h8 ⟨ep,h9,ia,eL,ib,ic,eM,rfl,i4,eq,i5,er,i6⟩;refine ⟨(fun _=>trivial),?_⟩;have i7:∀ k,eL k→k<h8.heap.size:=fun k hk=>(eq k hk).1;have i8:∀ k,eL k→X0 k∨r.heap.size≤k:=fun k hk=>(eq k hk).2.elim (fun h=>(h).elim (fun h=>h.elim) (fun h=>(fun k (hk:aQ (ro o)=some k∨a5 k)=>hk.elim (fun h=>Or.inr (fz k h)) (fun h=>fY k h)) k h)) (fun h=>.inr (Nat.le_trans eV.size h));have i9:∀ k,eM k→k<h8.heap.size:=fun k hk=>(er k hk).1;have ja:∀ k,eM k→X0 k∨r.heap.size≤k:=fun k hk=>(er k hk).2.elim (fun h=>(h).elim (fun h=>h.elim) (fun h=>(fun k (hk:aQ (ro o)=some k∨a5 k)=>hk.elim (fun h=>Or.inr (fz k h)) (fun h=>fY k h)) k h)) (fun h=>.inr (Nat.le_trans eV.size h));refine ac<|bt [0,2,7,36] (σ':=[(0,bp c),(2,bp q),(7,bp N),(36,.agg (bm K.1 h9 ia ib ic))]) kr<|aw ?_;have jb:¬ eL q:=fun h=>((eq _ h).2.elim (fun h=>(h).elim (fun h=>by cases h) (fun h=>(f0) h)) (fun h=>nl h (eW.lt)));have jc:¬ eM q:=fun h=>((er _ h).2.elim (fun h=>(h).elim (fun h=>by cases h) (fun h=>(f0) h)) (fun h=>nl h (eW.lt)));have jd:¬ eL N:=fun h=>((eq _ h).2.elim (fun h=>(h).elim (fun h=>by cases h) (fun h=>(f1) h)) (fun h=>nl h (eX.lt)));have je:¬ eM N:=fun h=>((er _ h).2.elim (fun h=>(h).elim (fun h=>by cases h) (fun h=>(f1) h)) (fun h=>nl h (eX.lt)));exact h5 _ _ ⟨N,h9,ia,eL,ib,ic,eM,rfl,(al eV ep bw),(nt iX ep.size),i6,(eW.grown ep (ag (cQ M a7))),(eX.grown ep (ag fZ)),h7,i4,i7,i8,i5,i9,ja,fZ,jb,jc,i1,i2,i3,jd,je⟩
       refine gv_shareA (fun σ c9=>∃ (o:Nat),∃ (ax:Nat→Prop),σ=[(0,bp c),(2,bp q),(28,bp c),(29,vI j.1),(30,vI j.2.1),(32,vB z.1),(34,vL (ro o) ([Pc.of m.1]:List Pc) 1)]∧r.grownBy c9 (some c)∧Sz dK c9∧bh c9 c 117 (cO z.2)∧bh c9 q 25 dE∧ay pcE 25 c9 ax (ro o) 1 ([Pc.of m.1]:List Pc)∧(∀ k,ax k→k<c9.heap.size)∧(Lo r (ro o))∧(∀ k,ax k→X0 k∨r.heap.size≤k)∧(¬ (fun k=>aQ (ro o)=some k∨ax k) c)∧(¬ (fun k=>aQ (ro o)=some k∨ax k) q)∧(∀ g,aQ (ro o)=some g→¬ (· =c) g)∧(∀ g,aQ (ro o)=some g→¬ (· =q) g)) (bA 11 [0,1,2,3,4,5,6]) 4 ?_ fun id=>?_
       ·rintro σ c9 ⟨o,ax,rfl,dR,f2,es,dS,d3,d4,eN,eY,f3,eZ,jf,jh⟩;refine aW [7] (bA 11 [0,1,2,3,4,5,6,7]) 3 kr kr<|p1 35 (.agg #[vI 10,vI j.1,vI j.2.1,vB false,vB z.1,vL none ([]:List bO) 0,vL (ro o) ([Pc.of m.1]:List Pc) 1])<|ac<|aw<|gv_alt [(8,bA 11 [0,1,2,3,4,5,6,7,8]),(9,bA 11 [0,1,2,3,4,5,6,7,9])] 2 kr kr ⟨?_,?_,trivial⟩
        ·refine clq enters85 (cp am c z.2 none 0 (ro o) 1 (10,j.1,j.2.1,false,z.1,([]:List bO),([Pc.of m.1]:List Pc)) c9 (fun k=>(fun _=>False) k∨(fun k=>aQ (ro o)=some k∨ax k) k) (fun k hk=>⟨(hk).elim (fun h=>h.elim) (fun h=>(fun k (hk:aQ (ro o)=some k∨ax k)=>hk.elim (fun h=>d3.lt k h) (fun h=>d4 k h)) k h),fun e=>(hk).elim (fun h=>((h:False).elim)) (fun h=>f3 (e ▸ h))⟩) es ((dz bX c9 (fun _=>False) none 0).wide (fun k hk=>(.inl hk))) ((d3.rd (Y:=fun k=>aQ (ro o)=some k∨ax k) (fun _ h=>.inr h) (fun g e=>.inl e)).wide (fun k hk=>(.inr hk))) K fR) ?_;rintro lX ie ⟨d5,c4,c5,e0,c7,c8,e1,rfl,ji,e2,jj,e3,e4⟩;refine ⟨(fun _=>trivial),?_⟩;have e5:∀ k,e0 k→k<ie.heap.size:=fun k hk=>(e2 k hk).1;have jk:∀ k,e0 k→X0 k∨r.heap.size≤k:=fun k hk=>(e2 k hk).2.elim (fun h=>(h).elim (fun h=>h.elim) (fun h=>(fun k (hk:aQ (ro o)=some k∨ax k)=>hk.elim (fun h=>Or.inr (eN k h)) (fun h=>eY k h)) k h)) (fun h=>.inr (Nat.le_trans dR.size h));have e6:∀ k,e1 k→k<ie.heap.size:=fun k hk=>(e3 k hk).1;have jl:∀ k,e1 k→X0 k∨r.heap.size≤k:=fun k hk=>(e3 k hk).2.elim (fun h=>(h).elim (fun h=>h.elim) (fun h=>(fun k (hk:aQ (ro o)=some k∨ax k)=>hk.elim (fun h=>Or.inr (eN k h)) (fun h=>eY k h)) k h)) (fun h=>.inr (Nat.le_trans dR.size h));refine ac<|aw<|gv_alt [(9,bA 11 [0,1,2,3,4,5,6,7,8,9])] 1 kr kr ⟨?_,trivial⟩;refine dA bp dE 25 cC rfl rfl kr kr ?_;intro ab lY bl jm ch lq;refine ⟨(fun _=>trivial),?_⟩;refine ac<|bt [0,2,7,36] (σ':=[(0,bp c),(2,bp q),(7,bp ab),(36,.agg (bm K.1 c4 c5 c7 c8))]) kr<|aw ?_;have f4:=cQ M a7;have ig:r.heap.size≤ab:=b8 ch (al dR d5 bw).size;have jn:¬ e0 q:=fun h=>((e2 _ h).2.elim (fun h=>(h).elim (fun h=>by cases h) (fun h=>(eZ) h)) (fun h=>nl h (dS.lt)));have jo:¬ e1 q:=fun h=>((e3 _ h).2.elim (fun h=>(h).elim (fun h=>by cases h) (fun h=>(eZ) h)) (fun h=>nl h (dS.lt)));have f5:=cn ((cl (dS.grown d5 (ag f4))) _ rfl) ((bj ch) _ rfl);exact h5 _ _ ⟨ab,c4,c5,e0,c7,c8,e1,rfl,(al (al dR d5 bw) bl nb),(nt (nt f2 d5.size) bl.size),(e4.grown bl nb),((dS.grown d5 (ag f4)).grown bl nb),jm,ig,(ji.grown bl e5 nb),(aV e5 bl.size),jk,(jj.grown bl e6 nb),(aV e6 bl.size),jl,(cQ ch e4),jn,jo,Nat.ne_of_lt f5,(apH ch e4),ng f5,(apF ch e5),(apF ch e6)⟩
        ·refine dA bp dE 25 cC rfl rfl kr kr ?_;intro N lZ dT jp ck lr;refine ⟨(fun _=>trivial),?_⟩;refine ac<|bt [0,2,7,28,35] (σ':=[(0,bp c),(2,bp q),(7,bp N),(28,bp c),(35,.agg #[vI 10,vI j.1,vI j.2.1,vB false,vB z.1,vL none ([]:List bO) 0,vL (ro o) ([Pc.of m.1]:List Pc) 1])]) kr<|aw ?_;have ih:r.heap.size≤N:=b8 ck dR.size;have f6:=cn ((cl dS) _ rfl) ((bj ck) _ rfl);have jq:∀ g,aQ (ro o)=some g→¬ (· =N) g:=fun g e hx=>nl ((bj ck) _ hx) ((fun k (hk:aQ (ro o)=some k∨ax k)=>hk.elim (fun h=>d3.lt k h) (fun h=>d4 k h)) g (.inl e));have jr:¬ (fun k=>aQ (ro o)=some k∨ax k) N:=fun hx=>nl ((bj ck) _ rfl) ((fun k (hk:aQ (ro o)=some k∨ax k)=>hk.elim (fun h=>d3.lt k h) (fun h=>d4 k h)) _ hx);exact h6 _ _ ⟨N,o,ax,rfl,(al dR dT nb),(nt f2 dT.size),(es.grown dT nb),(dS.grown dT nb),jp,ih,(d3.grown dT d4 nb),(aV d4 dT.size),eN,eY,f3,(cQ ck es),eZ,Nat.ne_of_lt f6,jf,jh,jq,(apH ck es),ng f6,jr⟩
       refine gv_shareA (fun σ dO=>∃ (y:Nat),∃ (O:Nat),∃ (dP:Nat→Prop),σ=[(0,bp c),(2,bp q),(7,bp y),(28,bp c),(29,vI j.1),(30,vI j.2.1),(32,vB z.1),(34,vL (ro O) ([Pc.of m.1]:List Pc) 1)]∧r.grownBy dO (some c)∧Sz dK dO∧bh dO c 117 (cO z.2)∧bh dO q 25 dE∧bh dO y 25 dE∧r.heap.size≤y∧ay pcE 25 dO dP (ro O) 1 ([Pc.of m.1]:List Pc)∧(∀ k,dP k→k<dO.heap.size)∧(Lo r (ro O))∧(∀ k,dP k→X0 k∨r.heap.size≤k)∧(¬ (· =y) c)∧(¬ (fun k=>aQ (ro O)=some k∨dP k) c)∧(¬ (· =y) q)∧(¬ (fun k=>aQ (ro O)=some k∨dP k) q)∧(¬ (· =c) y)∧(¬ (· =q) y)∧(¬ (fun k=>aQ (ro O)=some k∨dP k) y)∧(∀ g,aQ (ro O)=some g→¬ (· =c) g)∧(∀ g,aQ (ro O)=some g→¬ (· =q) g)∧(∀ g,aQ (ro O)=some g→¬ (· =y) g)) (bA 11 [0,1,2,3,4,5,6,9]) 3 ?_ fun ii=>?_
       ·rintro σ dO ⟨y,O,dP,rfl,js,jt,ju,jv,jw,ij,jx,jy,ik,jz,jA,jB,jC,jD,jE,jF,jG,jH,jI,jJ⟩;refine aW [7] (bA 11 [0,1,2,3,4,5,6,7,9]) 2 kr kr<|p1 35 (.agg #[vI 10,vI j.1,vI j.2.1,vB false,vB z.1,vL none ([]:List bO) 0,vL (ro O) ([Pc.of m.1]:List Pc) 1])<|ac<|bt [0,2,7,28,35] (σ':=[(0,bp c),(2,bp q),(7,bp y),(28,bp c),(35,.agg #[vI 10,vI j.1,vI j.2.1,vB false,vB z.1,vL none ([]:List bO) 0,vL (ro O) ([Pc.of m.1]:List Pc) 1])]) kr<|aw ?_;exact h6 _ _ ⟨y,O,dP,rfl,js,jt,ju,jv,jw,ij,jx,jy,ik,jz,jB,jA,jD,jC,jH,jI,jJ,jE,jF,jG⟩
       refine gv_shareA (fun σ bb=>∃ (y:Nat),σ=[(0,bp c),(2,bp q),(7,bp y),(28,bp c),(29,vI j.1),(30,vI j.2.1),(32,vB z.1),(33,.agg (bm m.1 C D E F))]∧r.grownBy bb (some c)∧Sz dK bb∧bh bb c 117 (cO z.2)∧bh bb q 25 dE∧Rd bX bb P C D m.1.2.2.2.2.2.1∧(∀ k,P k→k<bb.heap.size)∧Rd pcE bb Q E F m.1.2.2.2.2.2.2∧(∀ k,Q k→k<bb.heap.size)∧bh bb y 25 dE∧r.heap.size≤y∧(¬ (· =y) c)∧(¬ (· =y) q)∧(¬ (· =c) y)∧(¬ (· =q) y)∧(¬ P y)∧(¬ Q y)) (bA 11 [0,1,2,3,4,5,9]) 4 ?_ fun fL=>?_
       ·rintro σ bb ⟨y,rfl,f7,jK,e7,e8,jL,e9,jM,fa,fb,il,jN,jO,jP,jQ,jR,jS⟩;refine gv_alt [(6,bA 11 [0,1,2,3,4,5,6,9])] 3 kr kr ⟨?_,trivial⟩;refine dA (fun b=>.slice (ro b) 1 1) (bm m.1 C D E F) 25 cC rfl rfl kr kr ?_;intro O im bn jT ah ls;refine ⟨(fun _=>trivial),?_⟩;obtain ⟨eg,e⟩:∃ X:Nat→Prop,X=(fun k=>P k∨Q k):=⟨_,rfl⟩;have f8:∀ k,eg k→k<bb.heap.size:=fun k h=>by rw[e]at h;exact (h).elim (fun h=>e9 k h) (fun h=>fa k h)
        have jU:∀ k,eg k→k<im.heap.size:=fun k h=>cn (f8 k h) bn.size;have jV:∀ k,eg k→X0 k∨r.heap.size≤k:=fun k h=>by rw[e]at h;exact (h).elim (fun h=>H k h) (fun h=>I k h)
        have jW:ay pcE 25 im eg (ro O) 1 ([Pc.of m.1]:List Pc):=bQ jT (by rw[e];exact ⟨[vI m.1.1,vI m.1.2.1,vI m.1.2.2.1,vB m.1.2.2.2.1,vB m.1.2.2.2.2.1,vL C m.1.2.2.2.2.2.1 D,vL E m.1.2.2.2.2.2.2 F],[],rfl,pc_mk7 ((jL.grown bn e9 nb).wide (fun _ h=>(.inl h))) ((jM.grown bn fa nb).wide (fun _ h=>(.inr h))),rfl⟩) (show 1≤maxLen by decide) (fun h=>noteq ah (f8 _ h));have fc:∀ k,eg k→(fun k=>P k∨Q k) k:=fun k h=>by rw[e]at h;exact h
        clear e;have jX:Lo r (ro O):=loo ah f7.size;have fA:r.heap.size≤q:=b8 M eJ.size;have lu:∀ g,aQ (ro O)=some g→¬ P g:=fun g e hx=>nl (cg ah g e) (e9 _ hx);have lv:∀ g,aQ (ro O)=some g→¬ Q g:=fun g e hx=>nl (cg ah g e) (fa _ hx);refine ac<|bt [0,2,7,28,29,30,32,34] (σ':=[(0,bp c),(2,bp q),(7,bp y),(28,bp c),(29,vI j.1),(30,vI j.2.1),(32,vB z.1),(34,vL (ro O) ([Pc.of m.1]:List Pc) 1)]) kr<|aw ?_;exact ii _ _ ⟨y,O,eg,rfl,(al f7 bn nb),(nt jK bn.size),(e7.grown bn nb),(e8.grown bn nb),(fb.grown bn nb),il,jW,jU,jX,jV,jN,(apG (p:=c) ah e7 (fun h=>(fc _ h).elim (xq H s w) (xq I s w))),jO,(apG (p:=q) ah e8 (fun h=>(fc _ h).elim (apE dL (xlo fA s) L.lt) (apE dM (xlo fA s) L.lt))),jP,jQ,(apG (p:=y) ah fb (fun h=>(fc _ h).elim jR jS)),(apD ah e7),(apD ah e8),(apD ah fb)⟩
       refine gv_shareA (fun σ cb=>σ=[(0,bp c),(2,bp q),(28,bp c),(29,vI j.1),(30,vI j.2.1),(32,vB z.1),(33,.agg (bm m.1 C D E F))]∧r.grownBy cb (some c)∧Sz dK cb∧bh cb c 117 (cO z.2)∧bh cb q 25 dE∧Rd bX cb P C D m.1.2.2.2.2.2.1∧(∀ k,P k→k<cb.heap.size)∧Rd pcE cb Q E F m.1.2.2.2.2.2.2∧(∀ k,Q k→k<cb.heap.size)) (bA 11 [0,1,2,3,4,5]) 5 ?_ fun io=>?_
       ·rintro σ cb ⟨rfl,et,f9,dU,d6,ga,dV,gb,dW⟩;refine gv_alt [(6,bA 11 [0,1,2,3,4,5,6]),(9,bA 11 [0,1,2,3,4,5,9])] 4 kr kr ⟨?_,?_,trivial⟩
        ·refine dA (fun b=>.slice (ro b) 1 1) (bm m.1 C D E F) 25 cC rfl rfl kr kr ?_;intro o ip ds jY a4 lw;refine ⟨(fun _=>trivial),?_⟩;obtain ⟨eh,e⟩:∃ X:Nat→Prop,X=(fun k=>P k∨Q k):=⟨_,rfl⟩;have gc:∀ k,eh k→k<cb.heap.size:=fun k h=>by rw[e]at h;exact (h).elim (fun h=>dV k h) (fun h=>dW k h)
         have jZ:∀ k,eh k→k<ip.heap.size:=fun k h=>cn (gc k h) ds.size;have j0:∀ k,eh k→X0 k∨r.heap.size≤k:=fun k h=>by rw[e]at h;exact (h).elim (fun h=>H k h) (fun h=>I k h)
         have j1:ay pcE 25 ip eh (ro o) 1 ([Pc.of m.1]:List Pc):=bQ jY (by rw[e];exact ⟨[vI m.1.1,vI m.1.2.1,vI m.1.2.2.1,vB m.1.2.2.2.1,vB m.1.2.2.2.2.1,vL C m.1.2.2.2.2.2.1 D,vL E m.1.2.2.2.2.2.2 F],[],rfl,pc_mk7 ((ga.grown ds dV nb).wide (fun _ h=>(.inl h))) ((gb.grown ds dW nb).wide (fun _ h=>(.inr h))),rfl⟩) (show 1≤maxLen by decide) (fun h=>noteq a4 (gc _ h));have gd:∀ k,eh k→(fun k=>P k∨Q k) k:=fun k h=>by rw[e]at h;exact h
         clear e;have j2:Lo r (ro o):=loo a4 et.size;have fB:r.heap.size≤q:=b8 M eJ.size;have lx:∀ g,aQ (ro o)=some g→¬ P g:=fun g e hx=>nl (cg a4 g e) (dV _ hx);have ly:∀ g,aQ (ro o)=some g→¬ Q g:=fun g e hx=>nl (cg a4 g e) (dW _ hx);refine ac<|bt [0,2,28,29,30,32,34] (σ':=[(0,bp c),(2,bp q),(28,bp c),(29,vI j.1),(30,vI j.2.1),(32,vB z.1),(34,vL (ro o) ([Pc.of m.1]:List Pc) 1)]) kr<|aw ?_;exact id _ _ ⟨o,eh,rfl,(al et ds nb),(nt f9 ds.size),(dU.grown ds nb),(d6.grown ds nb),j1,jZ,j2,j0,(apG (p:=c) a4 dU (fun h=>(gd _ h).elim (xq H s w) (xq I s w))),(apG (p:=q) a4 d6 (fun h=>(gd _ h).elim (apE dL (xlo fB s) L.lt) (apE dM (xlo fB s) L.lt))),(apD a4 dU),(apD a4 d6)⟩
        ·refine dA bp dE 25 cC rfl rfl kr kr ?_;intro y l0 bs j3 cv lA;refine ⟨(fun _=>trivial),?_⟩;refine ac<|bt [0,2,7,28,29,30,32,33] (σ':=[(0,bp c),(2,bp q),(7,bp y),(28,bp c),(29,vI j.1),(30,vI j.2.1),(32,vB z.1),(33,.agg (bm m.1 C D E F))]) kr<|aw ?_;have iq:r.heap.size≤y:=b8 cv et.size;have ge:=cn ((cl d6) _ rfl) ((bj cv) _ rfl);exact fL _ _ ⟨y,rfl,(al et bs nb),(nt f9 bs.size),(dU.grown bs nb),(d6.grown bs nb),(ga.grown bs dV nb),(aV dV bs.size),(gb.grown bs dW nb),(aV dW bs.size),j3,iq,(cQ cv dU),Nat.ne_of_lt ge,(apH cv dU),ng ge,(apF cv dV),(apF cv dW)⟩
       refine gv_shareA (fun σ bd=>∃ (T:Nat),σ=[(0,bp c),(2,bp q),(3,bp aa),(7,bp T),(28,bp c),(29,vI j.1),(30,vI j.2.1),(32,vB z.1)]∧r.grownBy bd (some c)∧Sz dK bd∧bh bd c 117 (cO z.2)∧bh bd q 25 dE∧Rd bX bd P C D m.1.2.2.2.2.2.1∧(∀ k,P k→k<bd.heap.size)∧Rd pcE bd Q E F m.1.2.2.2.2.2.2∧(∀ k,Q k→k<bd.heap.size)∧bh bd aa 25 (bm m.1 C D E F)∧bh bd T 25 dE∧r.heap.size≤T∧(¬ (· =T) c)∧(¬ (· =T) q)∧(¬ (· =T) aa)∧(¬ (· =c) T)∧(¬ (· =q) T)∧(¬ P T)∧(¬ Q T)∧(¬ (· =aa) T)) (bA 11 [0,1,2,3,4,9]) 5 ?_ fun ir=>?_
       ·rintro σ bd ⟨T,rfl,j4,j5,j6,j7,j8,j9,ka,kb,kc,kd,it,ke,kf,lB,kg,kh,ki,kj,lC⟩;refine gv_alt [(5,bA 11 [0,1,2,3,4,5,9])] 4 kr kr ⟨?_,trivial⟩;refine gv_loadBox (t:=25) (b:=aa) (t':=25) (fr:=(0,0)) (bm m.1 C D E F) [] (fun _=>trivial) rfl rfl rfl kr kr kr kr (inwF kc) rfl ?_;refine ac<|bt [0,2,7,28,29,30,32,33] (σ':=[(0,bp c),(2,bp q),(7,bp T),(28,bp c),(29,vI j.1),(30,vI j.2.1),(32,vB z.1),(33,.agg (bm m.1 C D E F))]) kr<|aw ?_;exact fL _ _ ⟨T,rfl,j4,j5,j6,j7,j8,j9,ka,kb,kd,it,ke,kf,kg,kh,ki,kj⟩
       refine gv_shareA (fun σ dH=>∃ (U:Nat),∃ (G:Nat),∃ (dQ:Nat→Prop),σ=[(0,bp c),(2,bp q),(7,bp U),(28,bp c),(29,vI j.1),(30,vI j.2.1),(31,bp c),(34,vL (ro G) ([Pc.of m.1]:List Pc) 1)]∧r.grownBy dH (some c)∧Sz dK dH∧bh dH c 117 (cO j.2.2.2)∧bh dH q 25 dE∧bh dH U 25 dE∧r.heap.size≤U∧ay pcE 25 dH dQ (ro G) 1 ([Pc.of m.1]:List Pc)∧(∀ k,dQ k→k<dH.heap.size)∧(Lo r (ro G))∧(∀ k,dQ k→X0 k∨r.heap.size≤k)∧(¬ (fun k=>aQ (ro G)=some k∨dQ k) c)∧(¬ (· =U) c)∧(¬ (fun k=>aQ (ro G)=some k∨dQ k) q)∧(¬ (· =U) q)∧(∀ g,aQ (ro G)=some g→¬ (· =c) g)∧(∀ g,aQ (ro G)=some g→¬ (· =q) g)∧(∀ g,aQ (ro G)=some g→¬ (· =U) g)∧(¬ (· =c) U)∧(¬ (· =q) U)∧(¬ (fun k=>aQ (ro G)=some k∨dQ k) U)) (bA 11 [0,1,2,3,5,6,9]) 4 ?_ fun iu=>?_
       ·rintro σ dH ⟨U,G,dQ,rfl,kk,kl,km,kn,ko,iv,kp,gf,iw,kq,gg,gh,ks,kt,ku,kv,kw,kx,ky,kz⟩;refine gv_alt [(4,bA 11 [0,1,2,3,4,5,6,9])] 3 kr kr ⟨?_,trivial⟩;refine clq ci (aY am c j.2.2.2 (bk [63]) dH km z ef) ?_;rintro l1 l2 ⟨dX,rfl,kA⟩;refine ⟨(fun _=>trivial),?_⟩;refine ac<|bt [0,2,7,28,29,30,32,34] (σ':=[(0,bp c),(2,bp q),(7,bp U),(28,bp c),(29,vI j.1),(30,vI j.2.1),(32,vB z.1),(34,vL (ro G) ([Pc.of m.1]:List Pc) 1)]) kr<|aw ?_;exact ii _ _ ⟨U,G,dQ,rfl,(al kk dX bw),(nt kl dX.size),kA,(kn.grown dX (ag (cQ M a7))),(ko.grown dX (ag gh)),iv,(kp.grown dX gf (cV (ag gg))),(aV gf dX.size),iw,kq,gh,gg,kt,ks,kx,ky,kz,ku,kv,kw⟩
       refine gv_shareA (fun σ a6=>∃ (R:Nat),σ=[(0,bp c),(2,bp q),(7,bp R),(28,bp c),(29,vI j.1),(30,vI j.2.1),(31,bp c),(33,.agg (bm m.1 C D E F))]∧r.grownBy a6 (some c)∧Sz dK a6∧bh a6 c 117 (cO j.2.2.2)∧bh a6 q 25 dE∧Rd bX a6 P C D m.1.2.2.2.2.2.1∧(∀ k,P k→k<a6.heap.size)∧Rd pcE a6 Q E F m.1.2.2.2.2.2.2∧(∀ k,Q k→k<a6.heap.size)∧bh a6 R 25 dE∧r.heap.size≤R∧(¬ (· =R) c)∧(¬ (· =R) q)∧(¬ (· =c) R)∧(¬ (· =q) R)∧(¬ P R)∧(¬ Q R)) (bA 11 [0,1,2,3,5,9]) 5 ?_ fun ix=>?_
       ·rintro σ a6 ⟨R,rfl,fd,gi,eu,ev,gj,d7,gk,d8,ew,fC,ff,gl,gm,gn,go,gp⟩;refine gv_alt [(4,bA 11 [0,1,2,3,4,5,9]),(6,bA 11 [0,1,2,3,5,6,9])] 4 kr kr ⟨?_,?_,trivial⟩
        ·refine clq ci (aY am c j.2.2.2 (bk [63]) a6 eu z ef) ?_;rintro l3 l4 ⟨b0,rfl,kB⟩;refine ⟨(fun _=>trivial),?_⟩;refine ac<|bt [0,2,7,28,29,30,32,33] (σ':=[(0,bp c),(2,bp q),(7,bp R),(28,bp c),(29,vI j.1),(30,vI j.2.1),(32,vB z.1),(33,.agg (bm m.1 C D E F))]) kr<|aw ?_;exact fL _ _ ⟨R,rfl,(al fd b0 bw),(nt gi b0.size),kB,(ev.grown b0 (ag (cQ M a7))),(gj.grown b0 d7 (ag (xq H s w))),(aV d7 b0.size),(gk.grown b0 d8 (ag (xq I s w))),(aV d8 b0.size),(ew.grown b0 (ag ff)),fC,ff,gl,gm,gn,go,gp⟩
        ·refine dA (fun b=>.slice (ro b) 1 1) (bm m.1 C D E F) 25 cC rfl rfl kr kr ?_;intro ei iy b2 kC an lD;refine ⟨(fun _=>trivial),?_⟩;obtain ⟨ej,e⟩:∃ X:Nat→Prop,X=(fun k=>P k∨Q k):=⟨_,rfl⟩;have gq:∀ k,ej k→k<a6.heap.size:=fun k h=>by rw[e]at h;exact (h).elim (fun h=>d7 k h) (fun h=>d8 k h)
         have kD:∀ k,ej k→k<iy.heap.size:=fun k h=>cn (gq k h) b2.size;have kE:∀ k,ej k→X0 k∨r.heap.size≤k:=fun k h=>by rw[e]at h;exact (h).elim (fun h=>H k h) (fun h=>I k h)
         have kF:ay pcE 25 iy ej (ro ei) 1 ([Pc.of m.1]:List Pc):=bQ kC (by rw[e];exact ⟨[vI m.1.1,vI m.1.2.1,vI m.1.2.2.1,vB m.1.2.2.2.1,vB m.1.2.2.2.2.1,vL C m.1.2.2.2.2.2.1 D,vL E m.1.2.2.2.2.2.2 F],[],rfl,pc_mk7 ((gj.grown b2 d7 nb).wide (fun _ h=>(.inl h))) ((gk.grown b2 d8 nb).wide (fun _ h=>(.inr h))),rfl⟩) (show 1≤maxLen by decide) (fun h=>noteq an (gq _ h));have fg:∀ k,ej k→(fun k=>P k∨Q k) k:=fun k h=>by rw[e]at h;exact h
         clear e;have kG:Lo r (ro ei):=loo an fd.size;have fD:r.heap.size≤q:=b8 M eJ.size;have lE:∀ g,aQ (ro ei)=some g→¬ P g:=fun g e hx=>nl (cg an g e) (d7 _ hx);have lF:∀ g,aQ (ro ei)=some g→¬ Q g:=fun g e hx=>nl (cg an g e) (d8 _ hx);refine ac<|bt [0,2,7,28,29,30,31,34] (σ':=[(0,bp c),(2,bp q),(7,bp R),(28,bp c),(29,vI j.1),(30,vI j.2.1),(31,bp c),(34,vL (ro ei) ([Pc.of m.1]:List Pc) 1)]) kr<|aw ?_;exact iu _ _ ⟨R,ei,ej,rfl,(al fd b2 nb),(nt gi b2.size),(eu.grown b2 nb),(ev.grown b2 nb),(ew.grown b2 nb),fC,kF,kD,kG,kE,(apG (p:=c) an eu (fun h=>(fg _ h).elim (xq H s w) (xq I s w))),ff,(apG (p:=q) an ev (fun h=>(fg _ h).elim (apE dL (xlo fD s) L.lt) (apE dM (xlo fD s) L.lt))),gl,(apD an eu),(apD an ev),(apD an ew),gm,gn,(apG (p:=R) an ew (fun h=>(fg _ h).elim go gp))⟩
       refine aW [0,1,2,3] (bA 11 [0,1,2,3]) 7 kr kr<|pN 4 [28,29,30,31] [(28,bp c),(29,vI j.1),(30,vI j.2.1),(31,bp c)]<|ac<|aw<|gv_alt [(4,bA 11 [0,1,2,3,4]),(5,bA 11 [0,1,2,3,5]),(9,bA 11 [0,1,2,3,9])] 6 kr kr ⟨?_,?_,?_,trivial⟩
       ·refine clq ci (aY am c j.2.2.2 (bk [63]) dK (ba.grown l nb) z ef) ?_;rintro mj mk ⟨V,rfl,fh⟩;refine ⟨(fun _=>trivial),?_⟩;refine ac<|aw<|gv_alt [(5,bA 11 [0,1,2,3,4,5]),(9,bA 11 [0,1,2,3,4,9])] 5 kr kr ⟨?_,?_,trivial⟩
        ·refine gv_loadBox (t:=25) (b:=aa) (t':=25) (fr:=(0,0)) (bm m.1 C D E F) [] (fun _=>trivial) rfl rfl rfl kr kr kr kr (inwF ((b6.grown l nb).grown V (ag ee))) rfl ?_;refine ac<|bt [0,2,28,29,30,32,33] (σ':=[(0,bp c),(2,bp q),(28,bp c),(29,vI j.1),(30,vI j.2.1),(32,vB z.1),(33,.agg (bm m.1 C D E F))]) kr<|aw ?_;have iz:r.heap.size≤aa:=b8 n (al Z x bw).size;have ex:=cQ M a7;have gr:=aV A f.size;have gs:=aV gr i.size;have gt:=aV gs d.size;have gu:=aV gt l.size;have gv:=aV B f.size;have gw:=aV gv i.size;have gx:=aV gw d.size;have gy:=aV gx l.size;exact io _ _ ⟨rfl,(al (al (al (al (al (al Z x bw) f nb) i (cI iz)) d bw) l nb) V bw),V.size,fh,((((((L.grown x (ag ex)).grown f nb).grown i (ag (ng (cn ((cl (L.grown x (ag ex))) _ rfl) ((bj n) _ rfl))))).grown d (ag ex)).grown l nb).grown V (ag ex)),(((((c2.grown f A nb).grown i gr (ag (apF n A))).grown d gs (ag (xq H s w))).grown l gt nb).grown V gu (ag (xq H s w))),(aV gu V.size),(((((c3.grown f B nb).grown i gv (ag (apF n B))).grown d gw (ag (xq I s w))).grown l gx nb).grown V gy (ag (xq I s w))),(aV gy V.size)⟩
        ·refine dA bp dE 25 cC rfl rfl kr kr ?_;intro T l5 a8 kH cw lG;refine ⟨(fun _=>trivial),?_⟩;refine ac<|bt [0,2,3,7,28,29,30,32] (σ':=[(0,bp c),(2,bp q),(3,bp aa),(7,bp T),(28,bp c),(29,vI j.1),(30,vI j.2.1),(32,vB z.1)]) kr<|aw ?_;have gz:=al Z x bw;have fE:r.heap.size≤aa:=b8 n gz.size;have ey:=cQ M a7;have gA:=cn ((cl (L.grown x (ag ey))) _ rfl) ((bj n) _ rfl);have gB:=aV A f.size;have gC:=aV gB i.size;have gD:=aV gC d.size;have gE:=aV gD l.size;have fi:=aV gE V.size;have gF:=aV B f.size;have gG:=aV gF i.size;have gH:=aV gG d.size;have gI:=aV gH l.size;have fj:=aV gI V.size;have iA:r.heap.size≤T:=b8 cw (al (al (al (al (al gz f nb) i (cI fE)) d bw) l nb) V bw).size;have fk:=cn ((cl ((b6.grown l nb).grown V (ag ee))) _ rfl) ((bj cw) _ rfl);have gJ:=cm gA fk;exact ir _ _ ⟨T,rfl,(al (al (al (al (al (al (al Z x bw) f nb) i (cI fE)) d bw) l nb) V bw) a8 nb),(nt V.size a8.size),(fh.grown a8 nb),(((((((L.grown x (ag ey)).grown f nb).grown i (ag (ng gA))).grown d (ag ey)).grown l nb).grown V (ag ey)).grown a8 nb),((((((c2.grown f A nb).grown i gB (ag (apF n A))).grown d gC (ag (xq H s w))).grown l gD nb).grown V gE (ag (xq H s w))).grown a8 fi nb),(aV fi a8.size),((((((c3.grown f B nb).grown i gF (ag (apF n B))).grown d gG (ag (xq I s w))).grown l gH nb).grown V gI (ag (xq I s w))).grown a8 fj nb),(aV fj a8.size),(((b6.grown l nb).grown V (ag ee)).grown a8 nb),kH,iA,(cQ cw fh),Nat.ne_of_lt gJ,Nat.ne_of_lt fk,(apH cw fh),ng gJ,(apF cw fi),(apF cw fj),ng fk⟩
       ·have d9:=b6.grown l nb;refine gv_loadBox (t:=25) (b:=aa) (t':=25) (fr:=(0,0)) (bm m.1 C D E F) [] (fun _=>trivial) rfl rfl rfl kr kr kr kr (inwF d9) rfl ?_;refine ac<|aw<|gv_alt [(4,bA 11 [0,1,2,3,4,5]),(6,bA 11 [0,1,2,3,5,6]),(9,bA 11 [0,1,2,3,5,9])] 5 kr kr ⟨?_,?_,?_,trivial⟩
        ·refine clq ci (aY am c j.2.2.2 (bk [63]) dK (ba.grown l nb) z ef) ?_;rintro l6 l7 ⟨dI,rfl,kI⟩;refine ⟨(fun _=>trivial),?_⟩;refine ac<|bt [0,2,28,29,30,32,33] (σ':=[(0,bp c),(2,bp q),(28,bp c),(29,vI j.1),(30,vI j.2.1),(32,vB z.1),(33,.agg (bm m.1 C D E F))]) kr<|aw ?_;have iB:r.heap.size≤aa:=b8 n (al Z x bw).size;have ez:=cQ M a7;have gK:=aV A f.size;have gL:=aV gK i.size;have gM:=aV gL d.size;have gN:=aV gM l.size;have gO:=aV B f.size;have gP:=aV gO i.size;have gQ:=aV gP d.size;have gR:=aV gQ l.size;exact io _ _ ⟨rfl,(al (al (al (al (al (al Z x bw) f nb) i (cI iB)) d bw) l nb) dI bw),dI.size,kI,((((((L.grown x (ag ez)).grown f nb).grown i (ag (ng (cn ((cl (L.grown x (ag ez))) _ rfl) ((bj n) _ rfl))))).grown d (ag ez)).grown l nb).grown dI (ag ez)),(((((c2.grown f A nb).grown i gK (ag (apF n A))).grown d gL (ag (xq H s w))).grown l gM nb).grown dI gN (ag (xq H s w))),(aV gN dI.size),(((((c3.grown f B nb).grown i gO (ag (apF n B))).grown d gP (ag (xq I s w))).grown l gQ nb).grown dI gR (ag (xq I s w))),(aV gR dI.size)⟩
        ·refine dA (fun b=>.slice (ro b) 1 1) (bm m.1 C D E F) 25 cC rfl rfl kr kr ?_;intro G fM a0 kJ ap lH;refine ⟨(fun _=>trivial),?_⟩;obtain ⟨cc,e⟩:∃ X:Nat→Prop,X=(fun k=>P k∨Q k):=⟨_,rfl⟩;have gS:=aV (aV (aV (aV A f.size) i.size) d.size) l.size;have gT:=aV (aV (aV (aV B f.size) i.size) d.size) l.size;have gU:∀ k,cc k→k<dK.heap.size:=fun k h=>by rw[e]at h;exact (h).elim (fun h=>gS k h) (fun h=>gT k h)
         have dY:∀ k,cc k→k<fM.heap.size:=fun k h=>cn (gU k h) a0.size;have gV:∀ k,cc k→X0 k∨r.heap.size≤k:=fun k h=>by rw[e]at h;exact (h).elim (fun h=>H k h) (fun h=>I k h)
         have gW:=apF n A;have gX:=aV A f.size;have gY:=aV gX i.size;have gZ:=(ad l a0);have g0:=apF n B;have g1:=aV B f.size;have g2:=aV g1 i.size;have eA:ay pcE 25 fM cc (ro G) 1 ([Pc.of m.1]:List Pc):=bQ kJ (by rw[e];exact ⟨[vI m.1.1,vI m.1.2.1,vI m.1.2.2.1,vB m.1.2.2.2.1,vB m.1.2.2.2.2.1,vL C m.1.2.2.2.2.2.1 D,vL E m.1.2.2.2.2.2.2 F],[],rfl,pc_mk7 (((((c2.grown f A nb).grown i gX (ag gW)).grown d gY (ag (xq H s w))).grown gZ (aV gY d.size) nb).wide (fun _ h=>(.inl h))) (((((c3.grown f B nb).grown i g1 (ag g0)).grown d g2 (ag (xq I s w))).grown gZ (aV g2 d.size) nb).wide (fun _ h=>(.inr h))),rfl⟩) (show 1≤maxLen by decide) (fun h=>noteq ap (gU _ h));have fl:∀ k,cc k→(fun k=>P k∨Q k) k:=fun k h=>by rw[e]at h;exact h
         clear e;have iC:r.heap.size≤aa:=b8 n (al Z x bw).size;have eB:=al (al (al (al (al Z x bw) f nb) i (cI iC)) d bw) l nb;have g3:Lo r (ro G):=loo ap eB.size;have ea:=ba.grown l nb;have g4:=apD ap ea;have fm:=apG (p:=c) ap ea (fun h=>(fl _ h).elim (xq H s w) (xq I s w));have eC:=cQ M a7;have g5:=cn ((cl (L.grown x (ag eC))) _ rfl) ((bj n) _ rfl);have eD:=((((L.grown x (ag eC)).grown f nb).grown i (ag (ng g5))).grown d (ag eC)).grown l nb;have g6:=apD ap eD;have fF:r.heap.size≤q:=b8 M eJ.size;have g7:=apG (p:=q) ap eD (fun h=>(fl _ h).elim (apE dL (xlo fF s) L.lt) (apE dM (xlo fF s) L.lt));have lI:∀ g,aQ (ro G)=some g→¬ P g:=fun g e hx=>nl (cg ap g e) (gS _ hx);have lJ:∀ g,aQ (ro G)=some g→¬ Q g:=fun g e hx=>nl (cg ap g e) (gT _ hx);have lK:=apD ap d9;have lL:=apG (p:=aa) ap d9 (fun h=>(fl _ h).elim gW g0);refine ac<|aw<|gv_alt [(4,bA 11 [0,1,2,3,4,5,6]),(9,bA 11 [0,1,2,3,5,6,9])] 4 kr kr ⟨?_,?_,trivial⟩
         ·refine clq ci (aY am c j.2.2.2 (bk [63]) fM (ea.grown a0 nb) z ef) ?_;rintro l8 l9 ⟨eb,rfl,kK⟩;refine ⟨(fun _=>trivial),?_⟩;refine ac<|bt [0,2,28,29,30,32,34] (σ':=[(0,bp c),(2,bp q),(28,bp c),(29,vI j.1),(30,vI j.2.1),(32,vB z.1),(34,vL (ro G) ([Pc.of m.1]:List Pc) 1)]) kr<|aw ?_;exact id _ _ ⟨G,cc,rfl,(al (al eB a0 nb) eb bw),(nt a0.size eb.size),kK,((eD.grown a0 nb).grown eb (ag eC)),(eA.grown eb dY (cV (ag fm))),(aV dY eb.size),g3,gV,fm,g7,g4,g6⟩
         ·refine dA bp dE 25 cC rfl rfl kr kr ?_;intro U ma eE kL cx lM;refine ⟨(fun _=>trivial),?_⟩;refine ac<|bt [0,2,7,28,29,30,31,34] (σ':=[(0,bp c),(2,bp q),(7,bp U),(28,bp c),(29,vI j.1),(30,vI j.2.1),(31,bp c),(34,vL (ro G) ([Pc.of m.1]:List Pc) 1)]) kr<|aw ?_;have fn:=(ad a0 eE);have iD:r.heap.size≤U:=b8 cx (al eB a0 nb).size;have g8:=ea.grown a0 nb;have g9:=cm g5 (cn ((cl (d9.grown a0 nb)) _ rfl) ((bj cx) _ rfl));have kM:∀ g,aQ (ro G)=some g→¬ (· =U) g:=fun g e hx=>nl ((bj cx) _ hx) ((fun k (hk:aQ (ro G)=some k∨cc k)=>hk.elim (fun h=>eA.lt k h) (fun h=>dY k h)) g (.inl e));have kN:¬ (fun k=>aQ (ro G)=some k∨cc k) U:=fun hx=>nl ((bj cx) _ rfl) ((fun k (hk:aQ (ro G)=some k∨cc k)=>hk.elim (fun h=>eA.lt k h) (fun h=>dY k h)) _ hx);exact iu _ _ ⟨U,G,cc,rfl,(al eB fn nb),(nt a0.size eE.size),(ea.grown fn nb),(eD.grown fn nb),kL,iD,(eA.grown eE dY nb),(aV dY eE.size),g3,gV,fm,(cQ cx g8),g7,Nat.ne_of_lt g9,g4,g6,kM,(apH cx g8),ng g9,kN⟩
        ·refine dA bp dE 25 cC rfl rfl kr kr ?_;intro R mb ha kO c0 lN;refine ⟨(fun _=>trivial),?_⟩;refine ac<|bt [0,2,7,28,29,30,31,33] (σ':=[(0,bp c),(2,bp q),(7,bp R),(28,bp c),(29,vI j.1),(30,vI j.2.1),(31,bp c),(33,.agg (bm m.1 C D E F))]) kr<|aw ?_;have hb:=al Z x bw;have fG:r.heap.size≤aa:=b8 n hb.size;have dJ:=(ad l ha);have fo:=cQ M a7;have hc:=cn ((cl (L.grown x (ag fo))) _ rfl) ((bj n) _ rfl);have he:=aV A f.size;have hf:=aV he i.size;have fp:=aV hf d.size;have hg:=aV B f.size;have hh:=aV hg i.size;have fq:=aV hh d.size;have iF:r.heap.size≤R:=b8 c0 (al (al (al (al hb f nb) i (cI fG)) d bw) l nb).size;have hi:=ba.grown l nb;have hj:=cm hc (cn ((cl d9) _ rfl) ((bj c0) _ rfl));exact ix _ _ ⟨R,rfl,(al (al (al (al (al Z x bw) f nb) i (cI fG)) d bw) dJ nb),ha.size,(ba.grown dJ nb),(((((L.grown x (ag fo)).grown f nb).grown i (ag (ng hc))).grown d (ag fo)).grown dJ nb),((((c2.grown f A nb).grown i he (ag (apF n A))).grown d hf (ag (xq H s w))).grown dJ fp nb),(aV fp dJ.size),((((c3.grown f B nb).grown i hg (ag (apF n B))).grown d hh (ag (xq I s w))).grown dJ fq nb),(aV fq dJ.size),kO,iF,(cQ c0 hi),Nat.ne_of_lt hj,(apH c0 hi),ng hj,(apF c0 (aV fp l.size)),(apF c0 (aV fq l.size))⟩
       ·refine dA bp dE 25 cC rfl rfl kr kr ?_;intro ek k8 eF hl S lO;refine ⟨(fun _=>trivial),?_⟩;refine ac<|aw<|gv_alt [(4,bA 11 [0,1,2,3,4,9]),(5,bA 11 [0,1,2,3,5,9])] 5 kr kr ⟨?_,?_,trivial⟩
        ·have b3:=(ad l eF);refine clq ci (aY am c j.2.2.2 (bk [63]) k8 (ba.grown b3 nb) z ef) ?_;rintro mc md ⟨a9,rfl,kP⟩;refine ⟨(fun _=>trivial),?_⟩;refine ac<|bt [0,2,3,7,28,29,30,32] (σ':=[(0,bp c),(2,bp q),(3,bp aa),(7,bp ek),(28,bp c),(29,vI j.1),(30,vI j.2.1),(32,vB z.1)]) kr<|aw ?_;have hm:=al Z x bw;have fH:r.heap.size≤aa:=b8 n hm.size;have eG:=cQ M a7;have hn:=cn ((cl (L.grown x (ag eG))) _ rfl) ((bj n) _ rfl);have ho:=aV A f.size;have hp:=aV ho i.size;have fs:=aV hp d.size;have hq:=aV fs b3.size;have hr:=aV B f.size;have ht:=aV hr i.size;have ft:=aV ht d.size;have hv:=aV ft b3.size;have hw:=ba.grown l nb;have hy:=cQ S hw;have iG:r.heap.size≤ek:=b8 S (al (al (al (al hm f nb) i (cI fH)) d bw) l nb).size;have fu:=cn ((cl (b6.grown l nb)) _ rfl) ((bj S) _ rfl);have hz:=cm hn fu;exact ir _ _ ⟨ek,rfl,(al (al (al (al (al (al Z x bw) f nb) i (cI fH)) d bw) b3 nb) a9 bw),(nt eF.size a9.size),kP,((((((L.grown x (ag eG)).grown f nb).grown i (ag (ng hn))).grown d (ag eG)).grown b3 nb).grown a9 (ag eG)),(((((c2.grown f A nb).grown i ho (ag (apF n A))).grown d hp (ag (xq H s w))).grown b3 fs nb).grown a9 hq (ag (xq H s w))),(aV hq a9.size),(((((c3.grown f B nb).grown i hr (ag (apF n B))).grown d ht (ag (xq I s w))).grown b3 ft nb).grown a9 hv (ag (xq I s w))),(aV hv a9.size),((b6.grown b3 nb).grown a9 (ag ee)),(hl.grown a9 (ag hy)),iG,hy,Nat.ne_of_lt hz,Nat.ne_of_lt fu,(apH S hw),ng hz,(apF S (aV fs l.size)),(apF S (aV ft l.size)),ng fu⟩
        ·have b4:=(ad l eF);refine gv_loadBox (t:=25) (b:=aa) (t':=25) (fr:=(0,0)) (bm m.1 C D E F) [] (fun _=>trivial) rfl rfl rfl kr kr kr kr (inwF (b6.grown b4 nb)) rfl ?_;refine ac<|bt [0,2,7,28,29,30,31,33] (σ':=[(0,bp c),(2,bp q),(7,bp ek),(28,bp c),(29,vI j.1),(30,vI j.2.1),(31,bp c),(33,.agg (bm m.1 C D E F))]) kr<|aw ?_;have hA:=al Z x bw;have fI:r.heap.size≤aa:=b8 n hA.size;have fv:=cQ M a7;have hB:=cn ((cl (L.grown x (ag fv))) _ rfl) ((bj n) _ rfl);have hC:=aV A f.size;have hD:=aV hC i.size;have fw:=aV hD d.size;have hE:=aV B f.size;have hF:=aV hE i.size;have fx:=aV hF d.size;have iH:r.heap.size≤ek:=b8 S (al (al (al (al hA f nb) i (cI fI)) d bw) l nb).size;have hG:=ba.grown l nb;have hH:=cm hB (cn ((cl (b6.grown l nb)) _ rfl) ((bj S) _ rfl));exact ix _ _ ⟨ek,rfl,(al (al (al (al (al Z x bw) f nb) i (cI fI)) d bw) b4 nb),eF.size,(ba.grown b4 nb),(((((L.grown x (ag fv)).grown f nb).grown i (ag (ng hB))).grown d (ag fv)).grown b4 nb),((((c2.grown f A nb).grown i hC (ag (apF n A))).grown d hD (ag (xq H s w))).grown b4 fw nb),(aV fw b4.size),((((c3.grown f B nb).grown i hE (ag (apF n B))).grown d hF (ag (xq I s w))).grown b4 fx nb),(aV fx b4.size),hl,iH,(cQ S hG),Nat.ne_of_lt hH,(apH S hG),ng hH,(apF S (aV fw l.size)),(apF S (aV fx l.size))⟩
      ·rintro a dN ⟨eO,eP,k9,eQ,eR,la,be,kQ,kR,kS,hI,kT,kU,hJ,kV,kW,lP,kX,lQ,lR,hK,kY,kZ,lj,hd,hs,ao⟩;refine aO ?_ hd hs ao;clear kR eU h3 h2 hZ b6 ee hS ba d hR k6 fJ i k5 n hQ f I B H A eK dM c3 dL c2 x Z k3 lf L hP;refine aJ<|aL<|p1 37 (bp c)<|ak W ?_;intro lb k0 W;refine av kr rfl kr enters106 (cX am c d2.1 (bk [42,43,63,123]) dN hK lb k0) ?_;rintro me mf ⟨b5,rfl⟩;refine ac<|bF W (fun k1 W=>?_) (fun k1 W=>?_)
       ·cases W
       ·refine aD<|aL<|dc 25 be (bm d2.2 eO eP eQ eR) (bR (kZ.grown b5 nb))<|aF 25 0 (.agg (bm d2.2 eO eP eQ eR)) (bm d2.2 eO eP eQ eR) (kY.grown b5 nb) kr kr kr ?_;intro lc dZ k2 lS;refine ac<|aq ?_
        obtain rfl:=sj W;refine az (ar [.agg (bm d2.2 eO eP eQ eR)] rfl ⟨⟨⟨q,0,none⟩,kr,run_loadVar_row lc q _ 25 _ _ _ k2 cd rfl kr⟩,trivial⟩ ?_);have iI:r.heap.size≤q:=b8 M eJ.size;have hL:=aV hI b5.size;have hM:=aV hJ b5.size;exact ⟨(al (al kQ b5 nb) dZ (cI iI)),eO,eP,k9,eQ,eR,la,rfl,((kS.grown b5 hI nb).grown dZ hL (ag kW)),sxq (aV hL dZ.size) kT,((kU.grown b5 hJ nb).grown dZ hM (ag kX)),sxq (aV hM dZ.size) kV,((hK.grown b5 nb).grown dZ (ag (apH M a7)))⟩
set_option maxHeartbeats 4000000 in
set_option maxRecDepth 100000 in
theorem regex_parser_atom_step (am:Nat) (o:gC56 am) (A:gC83 am) (B:gC107 am) (D:gC127 am) (g:gC150 am) (b:Nat) (bn:dh) (j:World) (l:Nat→Prop) (m:∀ k,l k→k<j.heap.size∧k≠b) (C:bh j b 117 (cO bn)) (dT:Rd bE j l (ro 0) 256 cz) (dU:Rd (prE (iE .u8) (iE .u8)) j l (ro 1) 16 cR) (r0:cD × dh) (a:regex_parser_atom (am+1) bn=some r0):
    Cs 127 [bp b] j (Ret fun v w'=>j.grownBy w' (some b)∧∃ (bB:bq) (bK:Nat),∃ (ap:Nat→Prop),∃ (ax:bq) (a0:Nat),∃ (a1:Nat→Prop),v=tup [.agg (bm r0.1 bB bK ax a0)]∧Rd bX w' ap bB bK r0.1.2.2.2.2.2.1∧(Sxb ap w' l j)∧Rd pcE w' a1 ax a0 r0.1.2.2.2.2.2.2∧(Sxb a1 w' l j)∧bh w' b 117 (cO r0.2)):=by
 have a2:j.grownBy j (some b):=cP _ _;rw[regex_parser_atom.eq_2]at a;refine aM Tryz.func127 rfl Tryz.ntmps127 kr ?_;refine bV [(0,bp b)] ?_;have eB:=C.lt;refine aL<|aE bp dE 25 kr kr ?_
 intro n w2 bA a3 p eM;refine cA<|aH<|aL<|p1 4 (bp b)<|ak a ?_;intro r7 es a;refine av kr rfl kr ci (aY am b bn (bk [40,63,58]) w2 (C.grown bA nb) r7 es) ?_;rintro eN et ⟨q,rfl,dX⟩;refine p1 3 (vB r7.1)<|ac<|bF a (fun dY a=>?_) (fun dY a=>?_)
 ·cases a
 ·refine aL<|p1 10 (bp b)<|ak a ?_;intro b0 dZ a;refine av kr rfl kr ci (aY am b r7.2 (bk [40,63,61]) et dX b0 dZ) ?_;rintro eO eu ⟨r,rfl,d0⟩;refine p1 9 (vB b0.1)<|ac<|bF a (fun d1 a=>?_) (fun d1 a=>?_)
  ·cases a
  ·refine aL<|p1 16 (bp b)<|ak a ?_;intro b2 d2 a;refine av kr rfl kr ci (aY am b b0.2 (bk [40,63,33]) eu d0 b2 d2) ?_;rintro eP ev ⟨s,rfl,d3⟩;refine p1 15 (vB b2.1)<|ac<|bF a (fun d4 a=>?_) (fun d4 a=>?_)
   ·cases a
   ·refine aL<|p1 22 (bp b)<|ak a ?_;intro b3 d5 a;refine av kr rfl kr ci (aY am b b2.2 (bk [40,63]) ev d3 b3 d5) ?_;rintro eQ ew ⟨t,rfl,d6⟩;refine p1 21 (vB b3.1)<|ac<|bF a (fun d7 a=>?_) (fun d7 a=>?_)
    ·cases a
    ·refine aL<|p1 27 (bp b)<|bV [(0,bp b),(2,bp n),(27,bp b)]<|ak a ?_;intro f d8 a;refine av kr rfl kr ci (aY am b b3.2 (bk [40]) ew d6 f d8) ?_;rintro eR ex ⟨u,rfl,X⟩;refine p1 26 (vB f.1)<|ac<|bF a (fun d9 a=>?_) (fun d9 a=>?_)
     ·refine aL<|pN 3 [29,30,31] [(29,bp b),(31,pt b 2)]<|br 3 X 2 rfl<|pN 3 [33,34,35] [(33,vI (wI (f.2.2.2.1+1))),(35,pt b 2)]<|aF 3 2 (vI (wI (f.2.2.2.1+1))) #[vS f.2.1,vI f.2.2.1,vI (wI (f.2.2.2.1+1)),vB f.2.2.2.2.1,vB f.2.2.2.2.2] X kr kr kr ?_;intro b4 Y b5 eD;refine bN<|pN 4 [36,37,38,39] [(36,bp b),(39,pt b 2)]<|br 3 b5 2 rfl<|p1 41 (.agg #[vI 7,vI (wI (f.2.2.2.1+1)),vI 0,vB false,vB false,vL none ([]:List bO) 0,vL none ([]:List Pc) 0])<|ak a ?_;intro a4 ea a;have w:=al (al (al (al (al (al (al a2 bA nb) q bw) r bw) s bw) t bw) u bw) Y bw;refine av kr rfl kr enters150 (g b (f.2.1,f.2.2.1,wI (f.2.2.2.1+1),f.2.2.2.2.1,f.2.2.2.2.2) none 0 none 0 (7,wI (f.2.2.2.1+1),0,false,false,([]:List bO),([]:List Pc)) b4 (fun k=>(fun _=>False) k∨l k) (fun k hk=>⟨(hk).elim (fun h=>h.elim) (fun h=>(lz1 m w.size) k h),fun e=>(hk).elim (fun h=>((h:False).elim)) (fun h=>(fun (hx:l b)=>(m _ hx).2 rfl) (e ▸ h))⟩) b5 ((dz bX b4 (fun _=>False) none 0).wide (fun k hk=>(.inl hk))) ((dz pcE b4 (fun _=>False) none 0).wide (fun k hk=>(.inl hk))) ((rg dT w m).wide (fun k hk=>(.inr hk))) ((rg dU w m).wide (fun k hk=>(.inr hk))) a4 ea) ?_;rintro eS dV ⟨b6,a5,a6,a7,a8,a9,ba,rfl,eb,Z,ec,aa,ed⟩;have b7:∀ k,a7 k→k<dV.heap.size:=fun k hk=>(Z k hk).1;have ee:∀ k,a7 k→l k∨j.heap.size≤k:=fun k hk=>(Z k hk).2.elim (fun h=>(h).elim (fun h=>h.elim) (fun h=>(fun k (hk:l k)=>Or.inl hk) k h)) (fun h=>.inr (Nat.le_trans w.size h));have ca:∀ k,ba k→k<dV.heap.size:=fun k hk=>(aa k hk).1;have ef:∀ k,ba k→l k∨j.heap.size≤k:=fun k hk=>(aa k hk).2.elim (fun h=>(h).elim (fun h=>h.elim) (fun h=>(fun k (hk:l k)=>Or.inl hk) k h)) (fun h=>.inr (Nat.le_trans w.size h));have d:=cQ p C;refine aF 25 0 (.agg (bm a4.1 a5 a6 a8 a9)) (bm a4.1 a5 a6 a8 a9) (((((((a3.grown q (ag d)).grown r (ag d)).grown s (ag d)).grown t (ag d)).grown u (ag d)).grown Y (ag d)).grown b6 (ag d)) kr kr kr ?_;intro ey x eg eE;refine ac<|aq ?_
      obtain rfl:=sj a;refine az (ar [.agg (bm a4.1 a5 a6 a8 a9)] rfl ⟨⟨⟨n,0,none⟩,kr,run_loadVar_row ey n _ 25 _ _ _ eg cd rfl kr⟩,trivial⟩ ?_);have E:j.heap.size≤n:=b8 p a2.size;have cb:=(((((a3.grown q (ag d)).grown r (ag d)).grown s (ag d)).grown t (ag d)).grown u (ag d)).grown Y (ag d);have eh:¬ a7 n:=fun h=>((Z _ h).2.elim (fun h=>(h).elim (fun h=>by cases h) (fun h=>((fun (hx:l n)=>nl E (m _ hx).1)) h)) (fun h=>nl h (cb.lt)));have ei:¬ ba n:=fun h=>((aa _ h).2.elim (fun h=>(h).elim (fun h=>by cases h) (fun h=>((fun (hx:l n)=>nl E (m _ hx).1)) h)) (fun h=>nl h (cb.lt)));exact ⟨(al (al w b6 bw) x (cI E)),a5,a6,a7,a8,a9,ba,rfl,(eb.grown x b7 (ag eh)),sxq (aV b7 x.size) ee,(ec.grown x ca (ag ei)),sxq (aV ca x.size) ef,(ed.grown x (ag (apH p C)))⟩
     ·refine aL<|p1 44 (bp b)<|ak a ?_;intro cc ej a;refine av kr rfl kr ci (aY am b f.2 (bk [91]) ex X cc ej) ?_;rintro eT ez ⟨ab,rfl,ek⟩;refine p1 43 (vB cc.1)<|ac<|bF a (fun el a=>?_) (fun el a=>?_)
      ·cases a
      ·refine aL<|p1 49 (bp b)<|ak a ?_;intro ch cw a;refine av kr rfl kr ci (aY am b cc.2 (bk [92]) ez ek ch cw) ?_;rintro eF em ⟨F,rfl,cx⟩;refine p1 48 (vB ch.1)<|ac<|bF a (fun c0 a=>?_) (fun c0 a=>?_)
       ·cases a
       ·refine aL<|p1 54 (bp b)<|ak a ?_;intro ah c1 a;refine av kr rfl kr ci (aY am b ch.2 (bk [46]) em cx ah c1) ?_;rintro eG en ⟨G,rfl,c2⟩;refine p1 53 (vB ah.1)<|ac<|bF a (fun c3 a=>?_) (fun c3 a=>?_)
        ·cases a
        ·refine aL<|p1 60 (bp b)<|ak a ?_;intro H c4 a;refine av kr rfl kr ci (aY am b ah.2 (bk [94]) en c2 H c4) ?_;rintro eH eo ⟨I,rfl,c5⟩;refine p1 59 (vB H.1)<|bV [(0,bp b),(2,bp n),(59,vB H.1)]<|ac<|bF a (fun c7 a=>?_) (fun c7 a=>?_)
         ·cases a
         ·refine aL<|p1 66 (bp b)<|ak a ?_;intro J c8 a;refine av kr rfl kr ci (aY am b H.2 (bk [36]) eo c5 J c8) ?_;rintro eI ep ⟨K,rfl,bb⟩;refine p1 65 (vB J.1)<|ac<|bF a (fun c9 a=>?_) (fun c9 a=>?_)
          ·cases a
          ·refine aL<|p1 72 (bp b)<|ak a ?_;intro ck ds a;refine av kr rfl kr enters106 (cX am b J.2 (bk [42,43,63,123,125,93]) ep bb ck ds) ?_;rintro eJ eq ⟨y,rfl⟩;refine p1 71 (vB ck)<|ac<|bF a (fun dH a=>?_) (fun dH a=>?_)
           ·cases a
           ·refine aD<|bu<|aL<|pN 2 [76,77] [(76,bp b),(77,bp b)]<|ak a ?_;intro L dI a;have z:=al (al (al (al (al (al (al (al (al (al (al (al a2 bA nb) q bw) r bw) s bw) t bw) u bw) ab bw) F bw) G bw) I bw) K bw) y nb;refine av kr rfl kr enters153 (regex_parser_next_ok am b J.2 eq l (jg m z) (bb.grown y nb) (rg dT z m) (rg dU z m) L dI) ?_;rintro eK an ⟨M,rfl,dJ⟩;refine p1 79 (.agg #[vI 1,vI L.1,vI 0,vB false,vB false,vL none ([]:List bO) 0,vL none ([]:List Pc) 0])<|ak a ?_;intro N dK a;refine av kr rfl kr enters85 (cp am b L.2 none 0 none 0 (1,L.1,0,false,false,([]:List bO),([]:List Pc)) an (fun _=>False) (fun k hk=>⟨hk.elim,fun e=>((hk:False).elim)⟩) dJ (dz bX an (fun _=>False) none 0) (dz pcE an (fun _=>False) none 0) N dK) ?_;rintro eL cs ⟨bd,O,P,Q,R,S,T,rfl,dL,U,dM,V,dN⟩;have be:∀ k,Q k→k<cs.heap.size:=fun k hk=>(U k hk).1;have W:=al z M bw;have dO:∀ k,Q k→l k∨j.heap.size≤k:=fun k hk=>(U k hk).2.elim (fun h=>h.elim) (fun h=>.inr (Nat.le_trans W.size h));have bg:∀ k,T k→k<cs.heap.size:=fun k hk=>(V k hk).1;have dP:∀ k,T k→l k∨j.heap.size≤k:=fun k hk=>(V k hk).2.elim (fun h=>h.elim) (fun h=>.inr (Nat.le_trans W.size h));have c:=cQ p C;refine aF 25 0 (.agg (bm N.1 O P R S)) (bm N.1 O P R S) (((((((((((((a3.grown q (ag c)).grown r (ag c)).grown s (ag c)).grown t (ag c)).grown u (ag c)).grown ab (ag c)).grown F (ag c)).grown G (ag c)).grown I (ag c)).grown K (ag c)).grown y nb).grown M (ag c)).grown bd (ag c)) kr kr kr ?_;intro er i dQ eA;refine ac<|aq ?_
            obtain rfl:=sj a;refine az (ar [.agg (bm N.1 O P R S)] rfl ⟨⟨⟨n,0,none⟩,kr,run_loadVar_row er n _ 25 _ _ _ dQ cd rfl kr⟩,trivial⟩ ?_);have cv:j.heap.size≤n:=b8 p a2.size;have bl:=(((((((((((a3.grown q (ag c)).grown r (ag c)).grown s (ag c)).grown t (ag c)).grown u (ag c)).grown ab (ag c)).grown F (ag c)).grown G (ag c)).grown I (ag c)).grown K (ag c)).grown y nb).grown M (ag c);have dR:¬ Q n:=fun h=>((U _ h).2.elim (fun h=>by cases h) (fun h=>nl h (bl.lt)));have dS:¬ T n:=fun h=>((V _ h).2.elim (fun h=>by cases h) (fun h=>nl h (bl.lt)));exact ⟨(al (al W bd bw) i (cI cv)),O,P,Q,R,S,T,rfl,(dL.grown i be (ag dR)),sxq (aV be i.size) dO,(dM.grown i bg (ag dS)),sxq (aV bg i.size) dP,(dN.grown i (ag (apH p C)))⟩
set_option maxHeartbeats 4000000 in
set_option maxRecDepth 100000 in
theorem regex_parser_inside_step (am:Nat) (c:gC56 am) (B:gC83 am) (C:gC107 am) (F:gC127 am) (E:gC150 am) (f:Nat) (bd:dh) (aI:bq) (aN:Nat) (y:bq) (z:Nat) (a:cD) (m:World) (l:Nat→Prop) (j:∀ k,l k→k<m.heap.size∧k≠f) (T:bh m f 117 (cO bd)) (bD:Rd bX m l aI aN a.2.2.2.2.2.1) (dY:Rd pcE m l y z a.2.2.2.2.2.2) (dZ:Rd bE m l (ro 0) 256 cz) (d0:Rd (prE (iE .u8) (iE .u8)) m l (ro 1) 16 cR) (r0:cD × dh) (t:regex_parser_inside (am+1) bd a=some r0):
    Cs 150 [bp f,.agg (bm a aI aN y z)] m (Ret fun v w'=>m.grownBy w' (some f)∧∃ (bB:bq) (bK:Nat),∃ (a2:Nat→Prop),∃ (a3:bq) (a4:Nat),∃ (a5:Nat→Prop),v=tup [.agg (bm r0.1 bB bK a3 a4)]∧Rd bX w' a2 bB bK r0.1.2.2.2.2.2.1∧(Sxb a2 w' l m)∧Rd pcE w' a5 a3 a4 r0.1.2.2.2.2.2.2∧(Sxb a5 w' l m)∧bh w' f 117 (cO r0.2)):=by
 have bg:m.grownBy m (some f):=cP _ _;rw[regex_parser_inside.eq_2]at t;refine aM Tryz.func150 rfl Tryz.ntmps150 kr ?_;refine bV [(0,bp f),(1,.agg (bm a aI aN y z))] ?_;have bl:=T.lt;refine aL<|aE bp (bm a aI aN y z) 25 kr kr ?_
 intro b1 w2 bn bs Z ed;refine aE bp dE 25 kr kr ?_;intro U w8 bA aa A d5;refine bN<|p1 5 (bp f)<|ak t ?_;intro i dO t;have b0:=(ad bn bA);have u:=al bg b0 nb;refine av kr rfl kr enters56 (c f bd w8 l (jg j u) (T.grown b0 nb) (rg dZ u j) (rg d0 u j) i dO) ?_;rintro ee b2 ⟨ab,dI,dJ,V,dK,dL,W,rfl,dP,G,dQ,H,ah⟩;have an:∀ k,V k→k<b2.heap.size:=fun k hk=>(G k hk).1;have b3:∀ k,V k→l k∨m.heap.size≤k:=fun k hk=>(G k hk).2.elim (fun h=>(fun k (hk:l k)=>Or.inl hk) k h) (fun h=>.inr (Nat.le_trans u.size h));have ap:∀ k,W k→k<b2.heap.size:=fun k hk=>(H k hk).1;have b4:∀ k,W k→l k∨m.heap.size≤k:=fun k hk=>(H k hk).2.elim (fun h=>(fun k (hk:l k)=>Or.inl hk) k h) (fun h=>.inr (Nat.le_trans u.size h));refine aE (fun b=>.slice (ro b) 1 1) (bm i.1 dI dJ dK dL) 25 kr kr ?_;intro n dM o dR d d6;obtain ⟨r,e⟩:∃ X:Nat→Prop,X=(fun k=>V k∨W k):=⟨_,rfl⟩;have b5:∀ k,r k→k<b2.heap.size:=fun k h=>by rw[e]at h;exact (h).elim (fun h=>an k h) (fun h=>ap k h)
 have b6:∀ k,r k→k<dM.heap.size:=fun k h=>cn (b5 k h) o.size;have ca:∀ k,r k→l k∨m.heap.size≤k:=fun k h=>by rw[e]at h;exact (h).elim (fun h=>b3 k h) (fun h=>b4 k h)
 have dS:ay pcE 25 dM r (ro n) 1 ([Pc.of i.1]:List Pc):=bQ dR (by rw[e];exact ⟨[vI i.1.1,vI i.1.2.1,vI i.1.2.2.1,vB i.1.2.2.2.1,vB i.1.2.2.2.2.1,vL dI i.1.2.2.2.2.2.1 dJ,vL dK i.1.2.2.2.2.2.2 dL],[],rfl,pc_mk7 ((dP.grown o an nb).wide (fun _ h=>(.inl h))) ((dQ.grown o ap nb).wide (fun _ h=>(.inr h))),rfl⟩) (show 1≤maxLen by decide) (fun h=>noteq d (b5 _ h));have ax:∀ k,r k→(fun k=>V k∨W k) k:=fun k h=>by rw[e]at h;exact h
 clear e;have cb:=al u ab bw;have cc:Lo m (ro n):=loo d cb.size;have d7:=apD d ah;have ch:=apG (p:=f) d ah (fun h=>(ax _ h).elim (xq b3 j bl) (xq b4 j bl));have ck:=cQ Z T;have a0:=(bs.grown bA nb).grown ab (ag ck);have d8:=apD d a0;have I:m.heap.size≤b1:=b8 Z bg.size;have cs:=bs.grown bA nb;have cv:=T.grown bn nb;have J:=cQ A cv;have K:=aa.grown ab (ag J);have d9:=apD d K;have s:m.heap.size≤U:=b8 A (al bg bn nb).size;have cw:=apG (p:=U) d K (fun h=>(ax _ h).elim (apE G (xlo s j) aa.lt) (apE H (xlo s j) aa.lt));have ea:∀ g,aQ (ro n)=some g→¬ V g:=fun g e hx=>nl (cg d g e) (an _ hx);have eb:∀ g,aQ (ro n)=some g→¬ W g:=fun g e hx=>nl (cg d g e) (ap _ hx);refine p1 8 (pt b1 6)<|aF 23 6 (vL (ro n) ([Pc.of i.1]:List Pc) 1) #[vI a.1,vI a.2.1,vI a.2.2.1,vB a.2.2.2.1,vB a.2.2.2.2.1,vL aI a.2.2.2.2.2.1 aN,vL (ro n) ([Pc.of i.1]:List Pc) 1] (a0.grown o nb) kr kr kr ?_;intro d1 w dT ec;refine cA<|aL<|p1 9 (bp f)<|ak t ?_;intro a6 dU t;refine av kr rfl kr ci (aY am f i.2 (bk [41]) d1 ((ah.grown o nb).grown w (ag (apH Z T))) a6 dU) ?_;rintro ef d2 ⟨x,rfl,dV⟩;refine p1 11 (vB (!a6.1))<|ac<|dt (b:=(!a6.1)) kr (fun a1=>?_) (fun a1=>?_)
 ·replace t:=ite_t a1 t;cases t
 ·replace t:=ite_f a1 t;refine aD<|aL<|p1 14 (bp f)<|dc 25 b1 #[vI a.1,vI a.2.1,vI a.2.2.1,vB a.2.2.2.1,vB a.2.2.2.2.1,vL aI a.2.2.2.2.2.1 aN,vL (ro n) ([Pc.of i.1]:List Pc) 1] (bR (dT.grown x (ag ck)))<|ak t ?_;intro a7 dW t;have D:=al (al (al cb o nb) w (cI I)) x bw;have cx:=aV b6 w.size;have c0:=(dS.grown w b6 (cV (ag (apG (p:=b1) d a0 (fun h=>(ax _ h).elim (apE G (xlo I j) cs.lt) (apE H (xlo I j) cs.lt)))))).grown x cx (cV (ag ch));refine av kr rfl kr enters85 (cp am f a6.2 aI aN (ro n) 1 (a.1,a.2.1,a.2.2.1,a.2.2.2.1,a.2.2.2.2.1,a.2.2.2.2.2.1,([Pc.of i.1]:List Pc)) d2 (fun k=>l k∨(fun k=>aQ (ro n)=some k∨r k) k) (fun k hk=>⟨(hk).elim (fun h=>(lz1 j D.size) k h) (fun h=>(fun k (hk:aQ (ro n)=some k∨r k)=>hk.elim (fun h=>c0.lt k h) (fun h=>(aV cx x.size) k h)) k h),fun e=>(hk).elim (fun h=>(fun (hx:l f)=>(j _ hx).2 rfl) (e ▸ h)) (fun h=>ch (e ▸ h))⟩) dV ((rg bD D j).wide (fun k hk=>(.inl hk))) ((c0.rd (Y:=fun k=>aQ (ro n)=some k∨r k) (fun _ h=>.inr h) (fun g e=>.inl e)).wide (fun k hk=>(.inr hk))) a7 dW) ?_;rintro eg dN ⟨c1,L,M,N,O,P,Q,rfl,c3,R,c4,S,c5⟩;have a8:∀ k,N k→k<dN.heap.size:=fun k hk=>(R k hk).1;have c7:∀ k,N k→l k∨m.heap.size≤k:=fun k hk=>(R k hk).2.elim (fun h=>(h).elim (fun h=>(fun k (hk:l k)=>Or.inl hk) k h) (fun h=>(fun k (hk:aQ (ro n)=some k∨r k)=>hk.elim (fun h=>Or.inr (cc k h)) (fun h=>ca k h)) k h)) (fun h=>.inr (Nat.le_trans D.size h));have a9:∀ k,Q k→k<dN.heap.size:=fun k hk=>(S k hk).1;have c8:∀ k,Q k→l k∨m.heap.size≤k:=fun k hk=>(S k hk).2.elim (fun h=>(h).elim (fun h=>(fun k (hk:l k)=>Or.inl hk) k h) (fun h=>(fun k (hk:aQ (ro n)=some k∨r k)=>hk.elim (fun h=>Or.inr (cc k h)) (fun h=>ca k h)) k h)) (fun h=>.inr (Nat.le_trans D.size h));have ba:=cn ((cl bs) _ rfl) ((bj A) _ rfl);refine aF 25 0 (.agg (bm a7.1 L M O P)) (bm a7.1 L M O P) ((((K.grown o nb).grown w (ag (Nat.ne_of_lt ba))).grown x (ag J)).grown c1 (ag J)) kr kr kr ?_;intro dX q c9 d3;refine ac<|aq ?_
  obtain rfl:=sj t;refine az (ar [.agg (bm a7.1 L M O P)] rfl ⟨⟨⟨U,0,none⟩,kr,run_loadVar_row dX U _ 25 _ _ _ c9 cd rfl kr⟩,trivial⟩ ?_);have bb:=((K.grown o nb).grown w (ag (Nat.ne_of_lt ba))).grown x (ag J);have ds:¬ N U:=fun h=>((R _ h).2.elim (fun h=>(h).elim (fun h=>((fun (hx:l U)=>nl s (j _ hx).1)) h) (fun h=>(cw) h)) (fun h=>nl h (bb.lt)));have dH:¬ Q U:=fun h=>((S _ h).2.elim (fun h=>(h).elim (fun h=>((fun (hx:l U)=>nl s (j _ hx).1)) h) (fun h=>(cw) h)) (fun h=>nl h (bb.lt)));exact ⟨(al (al D c1 bw) q (cI s)),L,M,N,O,P,Q,rfl,(c3.grown q a8 (ag ds)),sxq (aV a8 q.size) c7,(c4.grown q a9 (ag dH)),sxq (aV a9 q.size) c8,(c5.grown q (ag (apH A cv)))⟩
theorem grp_regex_parser_alternatives_ok:∀ (am:Nat),gC56 am∧gC83 am∧gC107 am∧gC127 am∧gC150 am:=by
  intro am
  induction am with
  | zero=>refine ⟨?_,?_,?_,?_,?_⟩<;>first | (unfold gC56;intros;rename_i a;rw[regex_parser_alternatives.eq_1]at a;cases a) | (unfold gC83;intros;rename_i a;rw[regex_parser_sequence.eq_1]at a;cases a) | (unfold gC107;intros;rename_i a;rw[regex_parser_repeated.eq_1]at a;cases a) | (unfold gC127;intros;rename_i a;rw[regex_parser_atom.eq_1]at a;cases a) | (unfold gC150;intros;rename_i a;rw[regex_parser_inside.eq_1]at a;cases a)
  | succ am ih=>obtain ⟨i0,i1,i2,i3,i4⟩:=ih;exact ⟨regex_parser_alternatives_step am i0 i1 i2 i3 i4,regex_parser_sequence_step am i0 i1 i2 i3 i4,regex_parser_repeated_step am i0 i1 i2 i3 i4,regex_parser_atom_step am i0 i1 i2 i3 i4,regex_parser_inside_step am i0 i1 i2 i3 i4⟩

theorem regex_parser_alternatives_ok (am:Nat):
    gC56 am:=
  (grp_regex_parser_alternatives_ok am).1

theorem regex_spell_ok (am:Nat) (b:Int) (d:ByteArray) (e:World) (n:ByteArray) (c:regex_spell am b d=some n):
    Cs 86 [vI b,vS d] e (G1 e [vS n]):=by
 have g:Bl e e:=Below.refl _ _;unfold regex_spell at c;refine aM Tryz.func86 rfl Tryz.ntmps86 kr ?_;refine bV [(0,vI b),(1,vS d)]<|aL<|pN 1 [4] []<|cA<|aH<|aL<|pL [5,6,7] 5 (vB (b==10))<|ac<|bF c (fun o c=>?_) (fun o c=>?_)
 ·refine aL<|p1 4 (vS (bk [92,110]))<|ac<|aq ?_
  obtain rfl:=sj c;refine az (ar [vS (bk [92,110])] rfl ⟨kr,trivial⟩ ?_);exact ⟨af g,rfl⟩
 ·refine aL<|pL [8,9,10] 8 (vB (b==9))<|ac<|bF c (fun p c=>?_) (fun p c=>?_)
  ·refine aL<|p1 4 (vS (bk [92,116]))<|ac<|aq ?_
   obtain rfl:=sj c;refine az (ar [vS (bk [92,116])] rfl ⟨kr,trivial⟩ ?_);exact ⟨af g,rfl⟩
  ·refine aL<|ak c ?_;intro t f c
   refine aT (J:=fun a k=>Bl e k∧Sz e k∧Qa a 28 [(0,vI b),(11,vB t)]) ?_ ?_
   ·refine pL [12,13,14] 14 (vB (decide (b<128)))<|cj 14 f (fun q f=>?_) (fun q f=>?_)
    ·refine pN 3 [15,16,17] [(15,vS d),(17,vU (wB (b)))]<|ak f ?_;intro r s f;refine av kr rfl kr enters109 (strings_IndexByte_ok am d (wB (b)) e r s) ?_;rintro v w ⟨i,rfl⟩;refine pL [11,19,20] 11 (vB (decide (r≥0)))<|ac ?_;obtain rfl:=sj f;refine ae fun a hd hs ao=>?_;exact ⟨(bg g i nb),i.size,hd,hs,aX ao⟩
    ·refine pL [11,15,16,17,18,19,20] 11 (vB false)<|ac ?_;obtain rfl:=sj f;exact ae fun a hd hs ao=>⟨g,bP,hd,hs,aX ao⟩
   ·rintro a k ⟨h,u,hd,hs,ao⟩;refine aO ?_ hd hs ao;refine bF c (fun l c=>?_) (fun l c=>?_)
    ·refine aL<|pL [21,22] 22 (vR (wR (b)))<|gv_i2s (src:=21) (dst:=9) (kk:=.i32) (x:=(wR (b))) [] nofun rfl rfl rfl kr kr kr bo rfl ?_;refine ak c ?_;intro j m c;refine dx 9 m<|p1 4 (vS j)<|ac<|aq ?_
     obtain rfl:=sj c;refine az (ar [vS j] rfl ⟨kr,trivial⟩ ?_);exact ⟨af h,rfl⟩
    ·refine aD<|bu<|aL<|pL [25,26] 26 (vR (wR (b)))<|gv_i2s (src:=21) (dst:=9) (kk:=.i32) (x:=(wR (b))) [] nofun rfl rfl rfl kr kr kr bo rfl ?_;refine p1 4 (vS (Utf8.encode (wR (b))))<|ac<|aq ?_
     obtain rfl:=sj c;refine az (ar [vS (Utf8.encode (wR (b)))] rfl ⟨kr,trivial⟩ ?_);exact ⟨af h,rfl⟩

theorem regex_class_ok (am:Nat) (ai:bq) (aj:Nat) (e:bq) (f:Nat) (b:cD) (h:World) (P:Nat→Prop) (H:Lw P h) (aC:Rd bX h P ai aj b.2.2.2.2.2.1) (a1:Rd pcE h P e f b.2.2.2.2.2.2) (r0:ByteArray) (o:regex_class am b=some r0):
    Cs 87 [.agg (bm b ai aj e f)] h (G1 h [vS r0]):=by
 have I:Bl h h:=Below.refl _ _;unfold regex_class at o;refine aM Tryz.func87 rfl Tryz.ntmps87 kr ?_;refine bV [(0,.agg (bm b ai aj e f))]<|aL<|aE bp (bm b ai aj e f) 25 kr kr ?_
 intro E w2 K v bb bA;refine pN 1 [2] []<|bN<|p1 3 (vS (bk [91]))<|cA<|aL<|p1 6 (pt E 3)<|br 4 v 3 rfl<|ac<|ak o ?_;intro j7 j o
 refine aG (J:=fun a u=>Bl h u∧Sz w2 u∧bh u E 25 (bm b ai aj e f)∧Qa a 36 [(1,bp E),(3,vS j7)]) ?_ ?_
 ·refine bF j (fun a3 j=>?_) (fun a3 j=>?_)
  ·refine aA<|p1 8 (vS (bk [91]))<|ak j ?_;intro a4 Q j;refine dx 9 Q<|p1 3 (vS a4)<|ac ?_;obtain rfl:=sj j;refine ae fun a hd hs ao=>?_;exact ⟨(bg I K nb),bP,v,hd,hs,aX ao⟩
  ·refine aD ?_;obtain rfl:=sj j;refine ae fun a hd hs ao=>?_;exact ⟨(bg I K nb),bP,v,hd,hs,aX ao⟩
 ·rintro a u ⟨R,be,S,hd,hs,ao⟩;refine aO ?_ hd hs ao;refine aJ<|aL<|p1 10 (pt E 5)<|br 22 S 5 rfl<|pN 2 [12,13] [(12,vI (lz b.2.2.2.2.2.1)),(13,vI 0)]<|ac<|ak o ?_;intro L j o
  refine aG (J:=fun a w=>Bl h w∧Sz u w∧Qa a 36 [(3,vS L)]) ?_ ?_
  ·refine aH<|bT (A:=fun (c:ByteArray × Int) a s=>Bl h s∧Sz u s∧Qa a 36 [(3,vS c.1),(11,vL ai b.2.2.2.2.2.1 aj),(12,vI (lz b.2.2.2.2.2.1)),(13,vI c.2)]) j ?_ ?_
   ·intro a hd hs ao;exact ⟨R,bP,hd,hs,aX ao⟩
   ·rintro c r2 i a5 a s ⟨d,x,hd,hs,ao⟩;refine aO ?_ hd hs ao;refine aL<|p1 14 (vB (decide (c.2<(lz b.2.2.2.2.2.1))))<|cA<|bF i (fun T i=>?_) (fun T i=>?_)
    ·refine aD<|aJ<|aH<|aL<|ak i ?_;intro g y i
     refine db .i64 2 (aC.below d H) y aS ?_;obtain ⟨_,⟨_,_,rfl,rfl,rfl⟩,U⟩:=aC.cellsK y;refine laq 37 (aR ai ((c.2:Int).toNat*2)) (bY g) (bR (U s (fun k hk=>d.block k (H k hk)))) ?_;refine aE bp #[vI 0,vI 0] 37 kr kr ?_;intro l bE p V t bl;refine aF 37 0 (.agg (bY g)) (bY g) V kr kr kr ?_;intro a6 q z bn;refine bN<|pN 2 [17,18] [(17,vS c.1),(18,bp l)]<|br 3 z 0 rfl<|ak i ?_;intro a7 W i;refine av kr rfl kr enters86 (regex_spell_ok am g.1 (bk [92,93,94,45,91]) a6 a7 W) ?_;rintro b0 M ⟨n,rfl⟩;refine ak i ?_;intro B X i;refine dx 9 X<|p1 3 (vS B)<|bN<|p1 22 (pt l 1) ?_
     have r:=z.grown n nb;refine br 3 r 1 rfl<|p1 24 (bp l)<|br 3 r 0 rfl<|p1 26 (vB (decide (g.2>g.1)))<|bV [(3,vS B),(5,bp l),(11,vL ai b.2.2.2.2.2.1 aj),(12,vI (lz b.2.2.2.2.2.1)),(13,vI c.2),(26,vB (decide (g.2>g.1)))]<|ac<|ak i ?_;intro N m i
     refine aG (J:=fun a C=>Bl h C∧Sz M C∧Qa a 36 [(3,vS N),(11,vL ai b.2.2.2.2.2.1 aj),(12,vI (lz b.2.2.2.2.2.1)),(13,vI c.2)]) ?_ ?_
     ·refine bF m (fun Y m=>?_) (fun Y m=>?_)
      ·refine aA<|pN 2 [27,28] [(27,vS B),(28,pt l 1)]<|br 3 r 1 rfl<|ak m ?_;intro a8 Z m;refine av kr rfl kr enters86 (regex_spell_ok am g.2 (bk [92,93,94,45,91]) M a8 Z) ?_;rintro b2 b3 ⟨D,rfl⟩;refine ak m ?_;intro b4 aa m;refine dx 9 aa<|ak m ?_;intro a9 ab m;refine dx 9 ab<|p1 3 (vS a9)<|ac ?_;obtain rfl:=sj m;refine ae fun a hd hs ao=>?_;have F:h.heap.size≤l:=b8 t d.size;exact ⟨(bg (bg (bg d p nb) q (aU F)) (ad n D) nb),D.size,hd,hs,aX ao⟩
      ·refine aD ?_;obtain rfl:=sj m;refine ae fun a hd hs ao=>?_;have G:h.heap.size≤l:=b8 t d.size;exact ⟨(bg (bg (bg d p nb) q (aU G)) n nb),bP,hd,hs,aX ao⟩
     ·rintro a C ⟨ah,an,hd,hs,ao⟩;refine aO ?_ hd hs ao;have ap:=(nt (nt (nt (nt x p.size) q.size) n.size) an);refine bu<|aA<|pL [13,33] 13 (vI (wI (c.2+1)))<|ac ?_;obtain rfl:=sj i;refine ae fun a hd hs ao=>?_;exact ⟨(N,wI (c.2+1)),rfl,ah,ap,hd,hs,aX ao⟩
    ·refine bG<|bS rfl ?_
     obtain rfl:=sj i;replace j:=congrArg some (a5 _ rfl);obtain rfl:=sj j;refine ae fun a hd hs ao=>?_;exact ⟨d,x,hd,hs,aX ao⟩
  ·rintro a w ⟨ax,bs,hd,hs,ao⟩;refine aO ?_ hd hs ao;refine aL<|p1 34 (vS L)<|ak o ?_;intro O a0 o;refine dx 9 a0<|p1 2 (vS O)<|ac<|aq ?_
   obtain rfl:=sj o;refine az (ar [vS O] rfl ⟨kr,trivial⟩ ?_);exact ⟨af ax,rfl⟩

theorem regex_pick_ok (am:Nat) (c:Bool) (b:ByteArray) (a:ByteArray) (e:World) (g:ByteArray) (d:regex_pick am c b a=some g):
    Cs 88 [vB c,vS b,vS a] e (G1 e [vS g]):=by
 have f:Bl e e:=Below.refl _ _;unfold regex_pick at d;refine aM Tryz.func88 rfl Tryz.ntmps88 kr ?_;refine bV [(0,vB c),(1,vS b),(2,vS a)]<|aL<|pN 1 [6] []<|cA<|aL<|p1 7 (vB c)<|ac<|bF d (fun h d=>?_) (fun h d=>?_)
 ·refine aL<|pL [6,8] 6 (vS a)<|ac<|aq ?_
  obtain rfl:=sj d;refine az (ar [vS a] rfl ⟨kr,trivial⟩ ?_);exact ⟨af f,rfl⟩
 ·refine aD<|aL<|pL [6,9] 6 (vS b)<|ac<|aq ?_
  obtain rfl:=sj d;refine az (ar [vS b] rfl ⟨kr,trivial⟩ ?_);exact ⟨af f,rfl⟩

theorem regex_times_ok (am:Nat) (ai:bq) (aj:Nat) (d:bq) (e:Nat) (c:cD) (h:World) (A:Nat→Prop) (y:Lw A h) (aC:Rd bX h A ai aj c.2.2.2.2.2.1) (a0:Rd pcE h A d e c.2.2.2.2.2.2) (F:Rd (tabE 3 dr) h A (ro 3) 1 [vW 1]) (r0:ByteArray) (m:regex_times am c=some r0):
    Cs 90 [.agg (bm c ai aj d e)] h (G1 h [vS r0]):=by
 have a2:Bl h h:=Below.refl _ _;unfold regex_times at m;refine aM Tryz.func90 rfl Tryz.ntmps90 kr ?_;refine bV [(0,.agg (bm c ai aj d e))]<|aL<|aE bp (bm c ai aj d e) 25 kr kr ?_
 intro f w2 a3 G bn b0;refine pN 1 [2] []<|bN<|pN 1 [3] []<|cA<|aL<|p1 5 (pt f 1)<|br 3 G 1 rfl<|ak m ?_;intro q a4 m;have z:=bg a2 a3 nb;refine av kr rfl kr enters91 (strconv_Itoa_ok am c.2.1 w2 A (aV y z.size) (F.below z y) q a4) ?_;rintro b2 a5 ⟨u,rfl⟩;refine p1 4 (vS q)<|ac<|aH<|aL<|ak m ?_;intro a6 b m
 refine aT (J:=fun a n=>Bl h n∧Sz a5 n∧bh n f 25 (bm c ai aj d e)∧Qa a 64 [(1,bp f),(4,vS q),(16,vB a6)]) ?_ ?_
 ·refine p1 17 (pt f 2) ?_;have o:=G.grown u nb;refine br 3 o 2 rfl<|pL [19,20] 20 (vB (c.2.2.1==(-1)))<|cj 20 b (fun K b=>?_) (fun K b=>?_)
  ·refine p1 21 (pt f 1)<|br 3 o 1 rfl<|pL [16,23,24] 16 (vB (c.2.1==0))<|ac ?_;obtain rfl:=sj b;refine ae fun a hd hs ao=>?_;exact ⟨(bg z u nb),bP,o,hd,hs,aX ao⟩
  ·refine pL [16,21,22,23,24] 16 (vB false)<|ac ?_;obtain rfl:=sj b;refine ae fun a hd hs ao=>?_;exact ⟨(bg z u nb),bP,o,hd,hs,aX ao⟩
 ·rintro a n ⟨v,bs,j,hd,hs,ao⟩;refine aO ?_ hd hs ao;refine ak m ?_;intro H b m;refine aG (J:=fun a r=>Bl h r∧Sz n r∧bh r f 25 (bm c ai aj d e)∧Qa a 64 [(1,bp f),(3,vS H)]) ?_ ?_
  ·refine bF b (fun L b=>?_) (fun L b=>?_)
   ·refine aA<|p1 3 (vS (bk [42]))<|ac ?_;obtain rfl:=sj b;exact ae fun a hd hs ao=>⟨v,bP,j,hd,hs,aX ao⟩
   ·refine aL<|ak b ?_;intro a7 k b
    refine aT (J:=fun a s=>Bl h s∧Sz n s∧bh s f 25 (bm c ai aj d e)∧Qa a 64 [(1,bp f),(4,vS q),(25,vB a7)]) ?_ ?_
    ·refine p1 26 (pt f 2)<|br 3 j 2 rfl<|pL [28,29] 29 (vB (c.2.2.1==(-1)))<|cj 29 k (fun M k=>?_) (fun M k=>?_)
     ·refine p1 30 (pt f 1)<|br 3 j 1 rfl<|pL [25,32,33] 25 (vB (c.2.1==1))<|ac ?_;obtain rfl:=sj k;exact ae fun a hd hs ao=>⟨v,bP,j,hd,hs,aX ao⟩
     ·refine pL [25,30,31,32,33] 25 (vB false)<|ac ?_;obtain rfl:=sj k;exact ae fun a hd hs ao=>⟨v,bP,j,hd,hs,aX ao⟩
    ·rintro a s ⟨w,B,l,hd,hs,ao⟩;refine aO ?_ hd hs ao;refine bF b (fun N b=>?_) (fun N b=>?_)
     ·refine aA<|p1 3 (vS (bk [43]))<|ac ?_;obtain rfl:=sj b;refine ae fun a hd hs ao=>?_;exact ⟨w,B,l,hd,hs,aX ao⟩
     ·refine aL<|ak b ?_;intro a8 k b
      refine aT (J:=fun a t=>Bl h t∧Sz s t∧bh t f 25 (bm c ai aj d e)∧Qa a 64 [(1,bp f),(4,vS q),(34,vB a8)]) ?_ ?_
      ·refine p1 35 (pt f 1)<|br 3 l 1 rfl<|pL [37,38] 38 (vB (c.2.1==0))<|cj 38 k (fun O k=>?_) (fun O k=>?_)
       ·refine p1 39 (pt f 2)<|br 3 l 2 rfl<|pL [34,41,42] 34 (vB (c.2.2.1==1))<|ac ?_;obtain rfl:=sj k;exact ae fun a hd hs ao=>⟨w,bP,l,hd,hs,aX ao⟩
       ·refine pL [34,39,40,41,42] 34 (vB false)<|ac ?_;obtain rfl:=sj k;exact ae fun a hd hs ao=>⟨w,bP,l,hd,hs,aX ao⟩
      ·rintro a t ⟨i,P,g,hd,hs,ao⟩;refine aO ?_ hd hs ao;have p:=(nt B P);refine bF b (fun Q b=>?_) (fun Q b=>?_)
       ·refine aA<|p1 3 (vS (bk [63]))<|ac ?_;obtain rfl:=sj b;refine ae fun a hd hs ao=>?_;exact ⟨i,p,g,hd,hs,aX ao⟩
       ·refine aL<|p1 44 (pt f 2)<|br 3 g 2 rfl<|pL [43,46] 43 (vB (c.2.2.1==(-1)))<|ac<|bF b (fun R b=>?_) (fun R b=>?_)
        ·refine aA<|p1 47 (vS q)<|ak b ?_;intro b3 S b;refine dx 9 S<|ak b ?_;intro a9 T b;refine dx 9 T<|p1 3 (vS a9)<|ac ?_;obtain rfl:=sj b;refine ae fun a hd hs ao=>?_;exact ⟨i,p,g,hd,hs,aX ao⟩
        ·refine aL<|p1 51 (pt f 2)<|br 3 g 2 rfl<|p1 53 (pt f 1)<|br 3 g 1 rfl<|pL [50,55] 50 (vB (c.2.2.1==c.2.1))<|ac<|bF b (fun U b=>?_) (fun U b=>?_)
         ·refine aA<|p1 56 (vS q)<|ak b ?_;intro b4 V b;refine dx 9 V<|ak b ?_;intro ba W b;refine dx 9 W<|p1 3 (vS ba)<|ac ?_;obtain rfl:=sj b;refine ae fun a hd hs ao=>?_;exact ⟨i,p,g,hd,hs,aX ao⟩
         ·refine aA<|p1 8 (vS q)<|ak b ?_;intro b5 X b;refine dx 9 X<|ak b ?_;intro bb Y b;refine dx 9 Y<|p1 11 (pt f 2)<|br 3 g 2 rfl<|ak b ?_;intro I Z b;refine av kr rfl kr enters91 (strconv_Itoa_ok am c.2.2.1 t A (aV y i.size) (F.below i y) I Z) ?_;rintro b6 b7 ⟨x,rfl⟩;refine bV [(1,bp f),(10,vS bb),(13,vS I)]<|ak b ?_;intro ca aa b;refine dx 9 aa<|ak b ?_;intro bd ab b;refine dx 9 ab<|p1 3 (vS bd)<|ac ?_;obtain rfl:=sj b;refine ae fun a hd hs ao=>?_;exact ⟨(bg i x nb),(nt p x.size),(g.grown x nb),hd,hs,aX ao⟩
  ·rintro a r ⟨C,bA,ah,hd,hs,ao⟩;refine aO ?_ hd hs ao;refine bu<|aJ<|aL<|p1 59 (pt f 4)<|br 4 ah 4 rfl<|ac<|ak m ?_;intro D b m
   refine aG (J:=fun a E=>Bl h E∧Sz r E∧Qa a 64 [(3,vS D)]) ?_ ?_
   ·refine bF b (fun an b=>?_) (fun an b=>?_)
    ·refine aA<|p1 61 (vS H)<|ak b ?_;intro be ap b;refine dx 9 ap<|p1 3 (vS be)<|ac ?_;obtain rfl:=sj b;exact ae fun a hd hs ao=>⟨C,bP,hd,hs,aX ao⟩
    ·refine aD ?_;obtain rfl:=sj b;exact ae fun a hd hs ao=>⟨C,bP,hd,hs,aX ao⟩
   ·rintro a E ⟨ax,bE,hd,hs,ao⟩;refine aO ?_ hd hs ao;refine aL<|pL [2,63] 2 (vS D)<|ac<|aq ?_
    obtain rfl:=sj m;refine az (ar [vS D] rfl ⟨kr,trivial⟩ ?_);exact ⟨af ax,rfl⟩

abbrev gC58 (am:Nat):Prop:=∀ (ai:bq) (aj:Nat) (a:bq) (b:Nat) (c:cD) (d:World) (e:Nat→Prop) (h:Lw e d) (aC:Rd bX d e ai aj c.2.2.2.2.2.1) (f:Rd pcE d e a b c.2.2.2.2.2.2) (i:Rd (tabE 3 dr) d e (ro 3) 1 [vW 1]) (g:ByteArray),regex_text am c=some g→Calls au 58 ([.agg (bm c ai aj a b)]:List Value).toArray d (Ret fun v w'=>d.grownBy w' none∧v=tup [vS g])
set_option maxHeartbeats 4000000 in
set_option maxRecDepth 100000 in
theorem regex_text_step (am:Nat) (z:gC58 am):gC58 (am+1):=by
 intro ai aj j l d N X0 n aC u b7 r0 c;have eA:Bl N N:=Below.refl _ _;rw[regex_text.eq_2]at c;refine aM Tryz.func58 rfl Tryz.ntmps58 kr ?_;refine bV [(0,.agg (bm d ai aj j l))]<|aL<|aE bp (bm d ai aj j l) 25 kr kr ?_
 intro m w2 eB ec eF fc;refine pN 1 [2] []<|bN<|p1 3 (vL none ([]:List ByteArray) 0)<|cA<|aL<|p1 6 (pt m 6)<|br 23 ec 6 rfl<|pN 2 [8,9] [(8,vI (lz d.2.2.2.2.2.2)),(9,vI 0)]<|ac<|ak c ?_;intro K h1 c
 refine aG (J:=fun a C=>∃ (i:bq) (v:Nat),Bl N C∧Sz w2 C∧ay sE 9 C (fun _=>False) i v K∧(Lo N i)∧(∀ g,aQ i=some g→¬ (· =m) g)∧¬ (fun k=>aQ i=some k) m∧bh C m 25 (bm d ai aj j l)∧Qa a 82 [(1,bp m),(3,vL i K v)]) ?_ ?_
 ·refine aH<|bT (A:=fun (L:(List ByteArray) × Int) a M=>∃ (i:bq) (v:Nat),Bl N M∧Sz w2 M∧ay sE 9 M (fun _=>False) i v L.1∧(Lo N i)∧(∀ g,aQ i=some g→¬ (· =m) g)∧¬ (fun k=>aQ i=some k) m∧bh M m 25 (bm d ai aj j l)∧Qa a 82 [(1,bp m),(3,vL i L.1 v),(7,vL j d.2.2.2.2.2.2 l),(8,vI (lz d.2.2.2.2.2.2)),(9,vI L.2)]) h1 ?_ ?_
  ·intro a hd hs ao;exact ⟨none,0,(bg eA eB nb),bP,ay.nil sE 9 w2 (fun _=>False),nofun,nofun,nofun,ec,hd,hs,aX ao⟩
  ·rintro L r2 D eC a M ⟨Z,ca,E,cb,F,a1,a2,cc,a3,hd,hs,ao⟩;refine aO ?_ hd hs ao;refine aL<|p1 10 (vB (decide (L.2<(lz d.2.2.2.2.2.2))))<|cA<|bF D (fun eg D=>?_) (fun eg D=>?_)
   ·refine aD<|aJ<|aH<|aL<|ak D ?_;intro aa ch D
    refine db .i64 7 (u.below E n) ch bf ?_;obtain ⟨_,⟨_,_,rfl,rfl,⟨_,_,rfl,rfl,⟨_,_,rfl,rfl,⟨_,_,rfl,rfl,⟨_,_,rfl,rfl,⟨_,_,rfl,⟨ab,ah,rfl,eh⟩,⟨an,ap,rfl,ei⟩⟩⟩⟩⟩⟩⟩,ej⟩:=cells_un (u.cellsK ch);refine laq 25 (aR j ((L.2:Int).toNat*7)) (dC (Pc.un aa) ab ah an ap) (bR (ej M (fun k hk=>E.block k (n k hk)))) ?_;refine aE bp dE 25 kr kr ?_;intro bE fd G ek B eG;refine aF 25 0 (.agg (dC (Pc.un aa) ab ah an ap)) (dC (Pc.un aa) ab ah an ap) ek kr kr kr ?_;intro eD H ck eH;refine ac<|aA<|p1 13 (vL Z L.1 ca)<|dc 25 bE (dC (Pc.un aa) ab ah an ap) (bR ck)<|ak D ?_;intro a0 el D;have c9:N.heap.size≤bE:=b8 B E.size;have I:=bg (bg E G nb) H (aU c9);refine av kr rfl kr enters58 (z ab ah an ap (Pc.un aa) eD X0 (aV n I.size) (eh.below I n) (ei.below I n) (b7.below I n) a0 el) ?_;rintro ff fg ⟨O,rfl⟩;refine aE (fun b=>.slice (ro b) 1 1) #[vS a0] 9 kr kr ?_;intro q eE a4 em P eI;have a5:ay sE 9 eE (fun _=>False) (ro q) 1 ([a0]:List ByteArray):=bQ em ⟨[vS a0],[],rfl,rfl,rfl⟩ (show 1≤maxLen by decide) (fun h=>h);have cs:=bg I O nb;have eJ:Lo N (ro q):=loo P cs.size;refine ak D ?_;intro cv en D;have a6:=dj B F.lt;have a7:=(ad O a4);refine co sE (t:=54) (ty:=54) (e:=9) (a:=Z) (ax:=(ro q)) (cap:=ca) (cx:=1) (xs:=L.1) (ys:=([a0]:List ByteArray)) cv (X:=(fun _=>False)) (Y:=(fun k=>aQ (ro q)=some k)) cC rfl rfl kr kr df info9 (((F.grown G fe nb).grown H fe (bM (ag a6))).grown a7 fe nb) (a5.rd (Y:=fun k=>aQ (ro q)=some k) fe (fun g e=>e)) en (.inr fun _ _ _ _ _ h=>h) fe ?_;intro w ed fh a8 eo r;refine ⟨nofun,?_⟩;have cw:=bg cs a4 nb;have ep:Lo N w:=cF r a1 cw.size;have a9:=((a3.grown G nb).grown H (ag (ng (cn ((cl a3) _ rfl) ((bj B) _ rfl))))).grown a7 nb;have eq:∀ g,aQ w=some g→¬ (· =m) g:=bZ r a2 (cl a9);have er:¬ (fun k=>aQ w=some k) m:=fun h=>cq r (fun h=>(cc) h) (a9.lt) h;have c0:=ck.grown a7 nb;have eK:∀ g,aQ w=some g→¬ (· =bE) g:=bZ r (dq B F.lt) (cl c0);have eL:¬ (fun k=>aQ w=some k) bE:=fun h=>cq r (fun h=>(a6) h) (c0.lt) h;have c1:=((F.grown G fe nb).grown H fe (bM (ag a6))).grown O fe nb;have es:Ap Z (ro q):=fun g e hx=>nl ((cg P) _ hx) (c1.lt g e);have eM:Ap w (ro q):=bZ r es (fun k (hk:aQ (ro q)=some k)=>a5.lt k hk);have et:Ap (ro q) Z:=fun g e hx=>nl ((cg P) g e) (c1.lt _ hx);have eN:Ap (ro q) w:=fun g e h=>cq r (fun h=>((et) g e) h) (a5.lt g e) h;refine p1 3 (vL w cv ed)<|ac<|bu<|aA<|pL [9,18] 9 (vI (wI (L.2+1)))<|ac ?_;obtain rfl:=sj D;refine ae fun a hd hs ao=>?_;exact ⟨(cv,wI (L.2+1)),rfl,w,ed,(bg cw a8 a1),(nt (nt (nt (nt (nt cb G.size) H.size) O.size) a4.size) a8.size),eo,ep,eq,er,(a9.grown a8 a2),hd,hs,aX ao⟩
   ·refine bG<|bS rfl ?_
    obtain rfl:=sj D;replace h1:=congrArg some (eC _ rfl);obtain rfl:=sj h1;refine ae fun a hd hs ao=>?_;exact ⟨Z,ca,E,cb,F,a1,a2,cc,a3,hd,hs,aX ao⟩
 ·rintro a C ⟨o,y,f,eO,s,eP,eQ,eR,p,hd,hs,ao⟩;refine aO ?_ hd hs ao;refine aJ<|aL<|p1 19 (bp m)<|br 3 p 0 rfl<|ac<|aH<|aL<|pL [21,22] 21 (vB (d.1==1))<|ac<|bF c (fun ds c=>?_) (fun ds c=>?_)
  ·refine aL<|p1 23 (pt m 1)<|br 3 p 1 rfl<|ak c ?_;intro ba dH c;refine av kr rfl kr enters86 (regex_spell_ok am d.2.1 (bk [92,46,94,36,42,43,63,40,41,91,93,123,125,124]) C ba dH) ?_;rintro eS eT ⟨dI,rfl⟩;refine p1 2 (vS ba)<|ac<|aq ?_
   obtain rfl:=sj c;refine az (ar [vS ba] rfl ⟨kr,trivial⟩ ?_);exact ⟨af (bg f dI nb),rfl⟩
  ·refine aL<|pL [26,27] 26 (vB (d.1==2))<|ac<|bF c (fun dJ c=>?_) (fun dJ c=>?_)
   ·refine aL<|p1 2 (vS (bk [46]))<|ac<|aq ?_
    obtain rfl:=sj c;refine az (ar [vS (bk [46])] rfl ⟨kr,trivial⟩ ?_);exact ⟨af f,rfl⟩
   ·refine aL<|pL [28,29] 28 (vB (d.1==3))<|ac<|bF c (fun dK c=>?_) (fun dK c=>?_)
    ·refine aL<|dc 25 m (bm d ai aj j l) (bR p)<|ak c ?_;intro bb dL c;refine av kr rfl kr enters87 (regex_class_ok am ai aj j l d C X0 (aV n f.size) (aC.below f n) (u.below f n) bb dL) ?_;rintro eU eV ⟨dM,rfl⟩;refine p1 2 (vS bb)<|ac<|aq ?_
     obtain rfl:=sj c;refine az (ar [vS bb] rfl ⟨kr,trivial⟩ ?_);exact ⟨af (bg f dM nb),rfl⟩
    ·refine aL<|pL [32,33] 32 (vB (d.1==4))<|ac<|bF c (fun dN c=>?_) (fun dN c=>?_)
     ·refine aL<|p1 2 (vS (bk [94]))<|ac<|aq ?_
      obtain rfl:=sj c;refine az (ar [vS (bk [94])] rfl ⟨kr,trivial⟩ ?_);exact ⟨af f,rfl⟩
     ·refine aL<|pL [34,35] 34 (vB (d.1==5))<|ac<|bF c (fun dO c=>?_) (fun dO c=>?_)
      ·refine aL<|p1 2 (vS (bk [36]))<|ac<|aq ?_
       obtain rfl:=sj c;refine az (ar [vS (bk [36])] rfl ⟨kr,trivial⟩ ?_);exact ⟨af f,rfl⟩
      ·refine aL<|pL [36,37] 36 (vB (d.1==6))<|ac<|bF c (fun dP c=>?_) (fun dP c=>?_)
       ·refine aL<|p1 38 (pt m 3)<|br 4 p 3 rfl<|ak c ?_;intro bd dQ c;refine av kr rfl kr enters88 (regex_pick_ok am d.2.2.2.1 (bk [92,98]) (bk [92,66]) C bd dQ) ?_;rintro eW eX ⟨dR,rfl⟩;refine p1 2 (vS bd)<|ac<|aq ?_
        obtain rfl:=sj c;refine az (ar [vS bd] rfl ⟨kr,trivial⟩ ?_);exact ⟨af (bg f dR nb),rfl⟩
       ·refine aL<|pL [41,42] 41 (vB (d.1==7))<|ac<|bF c (fun dS c=>?_) (fun dS c=>?_)
        ·refine aJ<|bU kr ?_
         intro be Q;refine aW [0,4,5] (bA 10 [0,4,5]) 7 kr kr<|pN 2 [43,47] [(43,pt m 1),(47,vL o K y)]<|ak c ?_;intro c2 b0 c;have R:=s.grown Q fe nb;refine db .i64 1 R.rdF b0 df<|ac<|aw<|aK (da be []) [1,2,3,6] [(1,some true),(2,some true),(6,some true),(3,some false)] (bA 10 [0,1,2,3,4,5,6]) 3 kr kr (aB _ _)<|cB 3 ⟨m,1,none⟩ (vI d.2.1) (bJ fun w' hC'=>((hC'.box (p.grown Q nb) aZ).cell 1 rfl)) ?_;refine p1 45 (vB (d.2.1==0))<|cB 9 (aR o ((0:Int).toNat*1)) (vS c2) (bJ fun w' hC'=>((hC'.rd R.rdF R.lt cu).cell b0)) ?_;refine bV [(45,vB (d.2.1==0)),(49,vS c2)]<|ak c ?_;intro eu dT c;refine clq enters88 (regex_pick_ok am (d.2.1==0) (bk [40]) (bk [40,63,58]) be eu dT) ?_;rintro eY eZ ⟨b2,rfl⟩;refine ⟨(fun _=>(aB be []).grown b2 nb),?_⟩;refine ac<|aw<|aW [7,8,9] (bA 10 [0,1,2,3,4,5,6,7,8,9]) 0 kr kr<|ak c ?_;intro e0 dU c;refine dx 9 dU<|ak c ?_;intro c3 dV c;refine dx 9 dV<|p1 2 (vS c3)<|ac<|aw<|bc kr<|aq ?_;obtain rfl:=sj c;refine az (ar [vS c3] rfl ⟨kr,trivial⟩ ?_);exact ⟨af (bg f (ad Q b2) nb),rfl⟩
        ·refine aL<|pL [52,53] 52 (vB (d.1==8))<|ac<|bF c (fun dW c=>?_) (fun dW c=>?_)
         ·refine aL<|p1 54 (vL o K y)<|ak c ?_;intro bl dX c;refine av kr rfl kr enters89 (strings_Join_ok am o y K (bk []) C (fun k=>aQ o=some k) s.lt s.rdF bl dX) ?_;rintro e1 e2 ⟨dY,rfl⟩;refine p1 2 (vS bl)<|ac<|aq ?_
          obtain rfl:=sj c;refine az (ar [vS bl] rfl ⟨kr,trivial⟩ ?_);exact ⟨af (bg f dY nb),rfl⟩
         ·refine aL<|pL [56,57] 56 (vB (d.1==9))<|ac<|bF c (fun dZ c=>?_) (fun dZ c=>?_)
          ·refine aL<|p1 58 (vL o K y)<|ak c ?_;intro S d0 c;refine av kr rfl kr enters89 (strings_Join_ok am o y K (bk [124]) C (fun k=>aQ o=some k) s.lt s.rdF S d0) ?_;rintro e3 e4 ⟨d1,rfl⟩;refine p1 2 (vS S)<|bV [(2,vS S)]<|ac<|aq ?_
           obtain rfl:=sj c;refine az (ar [vS S] rfl ⟨kr,trivial⟩ ?_);exact ⟨af (bg f d1 nb),rfl⟩
          ·refine aL<|pL [60,61] 60 (vB (d.1==10))<|ac<|bF c (fun d2 c=>?_) (fun d2 c=>?_)
           ·refine aJ<|bU kr ?_
            intro bn T;refine aW [0,1] (bA 7 [0,1]) 5 kr kr<|p1 62 (vL o K y)<|ak c ?_;intro ev b3 c;have U:=s.grown T fe nb;refine db .i64 1 U.rdF b3 df<|ac<|aw<|aK (da bn []) [2,3,4] [(2,some true),(3,some true),(4,some false)] (bA 7 [0,1,2,3,4]) 2 kr kr (aB _ _)<|bV [(1,bp m),(63,.pointer (some (aR o ((0:Int).toNat*1))))]<|cB 9 (aR o ((0:Int).toNat*1)) (vS ev) (bJ fun w' hC'=>((hC'.rd U.rdF U.lt cu).cell b3)) ?_;refine dc 25 m (bm d ai aj j l) (bJ fun w' hC'=>(hC'.box (p.grown T nb) aZ)) ?_;refine ak c ?_;intro ew d3 c;have x:=bg f T nb;refine clq enters90 (regex_times_ok am ai aj j l d bn X0 (aV n x.size) (aC.below x n) (u.below x n) (b7.below x n) ew d3) ?_;rintro e5 e6 ⟨b4,rfl⟩;refine ⟨(fun _=>(aB bn []).grown b4 nb),?_⟩;refine ac<|aw<|aW [5,6] (bA 7 [0,1,2,3,4,5,6]) 0 kr kr<|ak c ?_;intro c4 d4 c;refine dx 9 d4<|p1 2 (vS c4)<|ac<|aw<|bc kr<|aq ?_;obtain rfl:=sj c;refine az (ar [vS c4] rfl ⟨kr,trivial⟩ ?_);exact ⟨af (bg x b4 nb),rfl⟩
           ·refine aL<|pL [68,69] 68 (vB (d.1==11))<|ac<|bF c (fun d5 c=>?_) (fun d5 c=>?_)
            ·refine aJ<|bU kr ?_
             intro bs V;refine aW [0,3,4] (bA 9 [0,3,4]) 6 kr kr<|pN 2 [70,73] [(70,pt m 3),(73,vL o K y)]<|bV [(70,pt m 3),(73,vL o K y)]<|ak c ?_;intro ex b5 c;have W:=s.grown V fe nb;refine db .i64 1 W.rdF b5 df<|ac<|aw<|aK (da bs []) [1,2,5] [(1,some true),(5,some true),(2,some false)] (bA 9 [0,1,2,3,4,5]) 3 kr kr (aB _ _)<|cB 4 ⟨m,3,none⟩ (vB d.2.2.2.1) (bJ fun w' hC'=>((hC'.box (p.grown V nb) aZ).cell 3 rfl)) ?_;refine cB 9 (aR o ((0:Int).toNat*1)) (vS ex) (bJ fun w' hC'=>((hC'.rd W.rdF W.lt cu).cell b5)) ?_;refine ak c ?_;intro ey d6 c;refine clq enters88 (regex_pick_ok am d.2.2.2.1 (bk [40,63,61]) (bk [40,63,33]) bs ey d6) ?_;rintro e7 e8 ⟨b6,rfl⟩;refine ⟨(fun _=>(aB bs []).grown b6 nb),?_⟩;refine ac<|aw<|aW [6,7,8] (bA 9 [0,1,2,3,4,5,6,7,8]) 0 kr kr<|ak c ?_;intro e9 d7 c;refine dx 9 d7<|ak c ?_;intro c5 d8 c;refine dx 9 d8<|p1 2 (vS c5)<|ac<|aw<|bc kr<|aq ?_;obtain rfl:=sj c;refine az (ar [vS c5] rfl ⟨kr,trivial⟩ ?_);exact ⟨af (bg f (ad V b6) nb),rfl⟩
            ·refine aD<|bu<|aL<|p1 78 (pt m 1)<|bV [(78,pt m 1)]<|br 3 p 1 rfl<|ak c ?_;intro ez d9 c;refine av kr rfl kr enters91 (strconv_Itoa_ok am d.2.1 C X0 (aV n f.size) (b7.below f n) ez d9) ?_;rintro fa fb ⟨ea,rfl⟩;refine ak c ?_;intro c7 eb c;refine dx 9 eb<|p1 2 (vS c7)<|ac<|aq ?_
             obtain rfl:=sj c;refine az (ar [vS c7] rfl ⟨kr,trivial⟩ ?_);exact ⟨af (bg f ea nb),rfl⟩
theorem grp_regex_text_ok:∀ (am:Nat),gC58 am:=by
  intro am
  induction am with
  | zero=>unfold gC58;intros;rename_i a;rw[regex_text.eq_1]at a;cases a
  | succ am ih=>exact regex_text_step am ih

theorem regex_text_ok (am:Nat):
    gC58 am:=
  grp_regex_text_ok am

theorem regex_Parse_ok (am:Nat) (w:ByteArray) (n:World) (j:Nat→Prop) (f:Lw j n) (cx:Rd bE n j (ro 0) 256 cz) (c0:Rd (prE (iE .u8) (iE .u8)) n j (ro 1) 16 cR) (dY:Rd (tabE 3 dr) n j (ro 3) 1 [vW 1]) (r0:cD × bO) (b:regex_Parse am w=some r0):
    Cs 30 [vS w] n (Ret fun v w'=>n.grownBy w' none∧∃ (bB:bq) (bK:Nat),∃ (ah:Nat→Prop),∃ (an:bq) (ap:Nat),∃ (ax:Nat→Prop),v=tup [.agg (bm r0.1 bB bK an ap),.agg (bY r0.2)]∧Rd bX w' ah bB bK r0.1.2.2.2.2.2.1∧(Sxb ah w' j n)∧Rd pcE w' ax an ap r0.1.2.2.2.2.2.2∧(Sxb ax w' j n)):=by
 have T:Bl n n:=Below.refl _ _;unfold regex_Parse at b;refine calls_runM Tryz.func30 rfl Tryz.ntmps30 kr ?_;refine bV [(0,vS w)]<|aL<|aE bp dE 25 kr kr ?_
 intro g w2 c1 U V ec;refine aE bp #[vI 0,vI 0] 31 kr kr ?_;intro B w8 ba c4 a0 d6;refine cA<|aH<|aL<|pL [5,6,7,8] 5 (vB (decide ((bz w)>200)))<|ak b ?_;intro dZ c5 b;refine cf (s:=5) (v:=(vB (decide ((bz w)>200)))) (v':=(vB dZ)) kr (congrArg (Value.bool) (sj c5))<|ac<|bF b (fun c7 b=>?_) (fun c7 b=>?_)
 ·cases b
 ·refine aL<|p1 12 (vS w)<|ak b ?_;intro c2 c8 b;have G:=bg T (ad c1 ba) nb;refine av kr rfl kr enters41 (utf8_ValidString_ok am w w8 j (aV f G.size) (cx.below G f) (c0.below G f) c2 c8) ?_;rintro ed ee ⟨N,rfl⟩;refine pL [11,14] 11 (vB (!c2))<|ac<|bF b (fun c9 b=>?_) (fun c9 b=>?_)
  ·cases b
  ·refine aD<|bu<|aL<|p1 17 (.func (.func 55) #[] #[bp g,bp B]) ?_
   refine gv_defer (d:=⟨.fn (.func 55) #[bp g,bp B],#[]⟩) rfl kr kr kr ?_;refine bN<|pL [18,19] 19 (.agg #[vS w,vI 0,vI 0,vB false,vB false])<|aE bp #[vS w,vI 0,vI 0,vB false,vB false] 117 kr kr ?_;intro l d0 H ds a1 d7;refine p1 4 (bp l)<|bN<|p1 21 (bp l)<|ak b ?_;intro c dH b;have bb:=(ad N H);have x:=bg G bb nb;have O:n.heap.size≤l:=b8 a1 (bg G N nb).size;refine av kr rfl kr enters56 (regex_parser_alternatives_ok am l (w,0,0,false,false) d0 j (fun k hk=>⟨(aV f x.size) k hk,fun e=>(fun (hx:j l)=>nl O (f _ hx)) (e ▸ hk)⟩) ds (cx.below x f) (c0.below x f) c dH) ?_;rintro ef c3 ⟨I,o,p,y,q,r,z,rfl,bd,C,be,D,dI⟩;have W:∀ k,y k→k<c3.heap.size:=fun k hk=>(C k hk).1;have dJ:∀ k,y k→j k∨n.heap.size≤k:=fun k hk=>(C k hk).2.elim (fun h=>(fun k (hk:j k)=>Or.inl hk) k h) (fun h=>.inr (Nat.le_trans x.size h));have X:∀ k,z k→k<c3.heap.size:=fun k hk=>(D k hk).1;have dK:∀ k,z k→j k∨n.heap.size≤k:=fun k hk=>(D k hk).2.elim (fun h=>(fun k (hk:j k)=>Or.inl hk) k h) (fun h=>.inr (Nat.le_trans x.size h));have Y:=(ad ba bb);have K:=cn ((cl U) _ rfl) ((bj a0) _ rfl);have P:=c4.grown N nb;have Z:=cn ((cl P) _ rfl) ((bj a1) _ rfl);have bl:=cm K Z;refine aF 25 0 (.agg (bm c.1 o p q r)) (bm c.1 o p q r) ((U.grown Y nb).grown I (ag (ng bl))) kr kr kr ?_;intro d1 i bn d8;refine cA<|aH<|aL<|pL [24,25,26] 26 (bp l)<|bV [(2,bp g),(3,bp B),(4,bp l),(26,bp l)] ?_;have E:=dI.grown i (ag (Nat.ne_of_lt bl));refine br 9 E 0 rfl<|pL [23,28] 23 (vB (!(c.2.1.toList==(bk []).toList)))<|ac<|bF b (fun dL b=>?_) (fun dL b=>?_)
   ·cases b
   ·refine aL<|pL [32,33,34] 34 (pt l 3)<|br 4 E 3 rfl<|p1 31 (vB c.2.2.2.2.1)<|ac<|bF b (fun dM b=>?_) (fun dM b=>?_)
    ·cases b
    ·refine aL<|ak b ?_;intro d2 h1 b
     refine aT (J:=fun a A=>Bl n A∧Sz d1 A∧bh A g 25 (bm c.1 o p q r)∧bh A B 31 #[vI 0,vI 0]∧bh A l 117 (cO c.2)∧Rd bX A y o p c.1.2.2.2.2.2.1∧Rd pcE A z q r c.1.2.2.2.2.2.2∧a.defers=[{ target:=.fn (.func 55) #[bp g,bp B],args:=#[]}]∧a.tmps.size=69∧Ok [(2,bp g),(3,bp B),(4,bp l),(38,vB d2)] a.tmps) ?_ ?_
     ·refine pL [39,40,41] 41 (pt l 1)<|br 3 E 1 rfl<|pL [43,44] 44 (vB (decide (c.2.2.1>60)))<|cj 44 h1 (fun dN h1=>?_) (fun dN h1=>?_)
      ·refine pL [38,45,46,47,48,49,50] 38 (vB true)<|ac ?_;obtain rfl:=sj h1;refine ae fun a hd hs ao=>?_;have Q:n.heap.size≤g:=b8 V T.size;have bA:=U.grown Y nb;have dO:¬ y g:=fun h=>((C _ h).2.elim (fun h=>((fun (hx:j g)=>nl Q (f _ hx))) h) (fun h=>nl h (bA.lt)));have dP:¬ z g:=fun h=>((D _ h).2.elim (fun h=>((fun (hx:j g)=>nl Q (f _ hx))) h) (fun h=>nl h (bA.lt)));exact ⟨(bg (bg x I (aU O)) i (aU Q)),bP,bn,(((P.grown H nb).grown I (ag (ng Z))).grown i (ag (Nat.ne_of_lt K))),E,(bd.grown i W (ag dO)),(be.grown i X (ag dP)),hd,hs,aX ao⟩
      ·refine pL [45,46,47] 47 (pt l 2)<|br 3 E 2 rfl<|pL [38,49,50] 38 (vB (decide (c.2.2.2.1>9)))<|ac ?_;obtain rfl:=sj h1;refine ae fun a hd hs ao=>?_;have R:n.heap.size≤g:=b8 V T.size;have b0:=U.grown Y nb;have dQ:¬ y g:=fun h=>((C _ h).2.elim (fun h=>((fun (hx:j g)=>nl R (f _ hx))) h) (fun h=>nl h (b0.lt)));have dR:¬ z g:=fun h=>((D _ h).2.elim (fun h=>((fun (hx:j g)=>nl R (f _ hx))) h) (fun h=>nl h (b0.lt)));exact ⟨(bg (bg x I (aU O)) i (aU R)),bP,bn,(((P.grown H nb).grown I (ag (ng Z))).grown i (ag (Nat.ne_of_lt K))),E,(bd.grown i W (ag dQ)),(be.grown i X (ag dR)),hd,hs,aX ao⟩
     ·rintro a A ⟨aa,F,b2,dS,dT,b3,b4,hd,hs,ao⟩;refine aO ?_ hd hs ao;refine bF b (fun dU b=>?_) (fun dU b=>?_)
      ·cases b
      ·refine aL<|pL [54,55,56] 56 (pt l 4)<|br 4 dT 4 rfl<|p1 53 (vB c.2.2.2.2.2)<|ac<|bF b (fun dV b=>?_) (fun dV b=>?_)
       ·cases b
       ·refine aL<|dc 25 g (bm c.1 o p q r) (bR b2)<|ak b ?_;intro b5 dW b;have ab:=aV W i.size;have S:=aV X i.size;refine av kr rfl kr enters58 (regex_text_ok am o p q r c.1 A (fun k=>y k∨z k∨j k) (fun k hk=>(hk).elim (fun h=>(aV ab F) k h) (fun h=>(h).elim (fun h=>(aV S F) k h) (fun h=>(aV f aa.size) k h))) (b3.wide (fun k hk=>(.inl hk))) (b4.wide (fun k hk=>(.inr (.inl hk)))) ((dY.below aa f).wide (fun k hk=>(.inr (.inr hk)))) b5 dW) ?_;rintro d9 ea ⟨m,rfl⟩;refine pL [60,63,64] 60 (vB (decide ((bz b5)>200)))<|ak b ?_;intro dX ca b;refine cf (s:=60) (v:=(vB (decide ((bz b5)>200)))) (v':=(vB dX)) kr (congrArg (Value.bool) (sj ca))<|ac<|bF b (fun cb b=>?_) (fun cb b=>?_)
        ·cases b
        ·refine aD<|bu<|aJ<|aA ?_
         have a2:=b2.grown m nb;refine dc 25 g (bm c.1 o p q r) (bR a2)<|p1 68 (.agg #[vI 0,vI 0])<|aF 25 0 (.agg (bm c.1 o p q r)) (bm c.1 o p q r) a2 kr kr kr ?_;intro eb t cc d3;refine aF 31 0 (.agg #[vI 0,vI 0]) #[vI 0,vI 0] ((dS.grown m nb).grown t (ag (Nat.ne_of_lt K))) kr kr kr ?_;intro b6 u ch d4;refine ac<|aq ?_
         obtain rfl:=sj b;refine az (gv_left (invoke55 _) (inert55 _ _)<|gv_doneM [.agg (bm c.1 o p q r),.agg #[vI 0,vI 0]] rfl ⟨⟨⟨g,0,none⟩,kr,run_loadVar_row b6 g _ 25 _ _ _ (cc.grown u (ag (ng K))) cd rfl kr⟩,⟨⟨B,0,none⟩,kr,run_loadVar_row b6 B _ 31 _ _ _ ch aP rfl kr⟩,trivial⟩ ?_);have L:n.heap.size≤g:=b8 V T.size;have M:n.heap.size≤B:=b8 a0 (bg T c1 nb).size;have a3:=U.grown (ad (ad ba N) H) nb;have ck:¬ y g:=fun h=>((C _ h).2.elim (fun h=>((fun (hx:j g)=>nl L (f _ hx))) h) (fun h=>nl h (a3.lt)));have a4:=aV (aV ab F) m.size;have a5:=P.grown H nb;have cs:¬ y B:=fun h=>((C _ h).2.elim (fun h=>((fun (hx:j B)=>nl M (f _ hx))) h) (fun h=>nl h (a5.lt)));have a6:=aV a4 t.size;have cv:¬ z g:=fun h=>((D _ h).2.elim (fun h=>((fun (hx:j g)=>nl L (f _ hx))) h) (fun h=>nl h (a3.lt)));have a7:=aV (aV S F) m.size;have cw:¬ z B:=fun h=>((D _ h).2.elim (fun h=>((fun (hx:j B)=>nl M (f _ hx))) h) (fun h=>nl h (a5.lt)));have a8:=aV a7 t.size;exact ⟨af (bg (bg (bg aa m nb) t (aU L)) u (aU M)),o,p,y,q,r,z,rfl,(((b3.grown m (aV ab F) nb).grown t a4 (ag ck)).grown u a6 (ag cs)),sxq (aV a6 u.size) dJ,(((b4.grown m (aV S F) nb).grown t a7 (ag cv)).grown u a8 (ag cw)),sxq (aV a8 u.size) dK⟩

theorem regex_flat_ok (am:Nat) (ai:bq) (aj:Nat) (g:bq) (h:Nat) (c:cD) (k:World) (w:Nat→Prop) (b2:Lw w k) (aC:Rd bX k w ai aj c.2.2.2.2.2.1) (a4:Rd pcE k w g h c.2.2.2.2.2.2) (r0:Bool) (m:regex_flat am c=some r0):
    Cs 114 [.agg (bm c ai aj g h)] k (G1 k [vB r0]):=by
 have p:Bl k k:=Below.refl _ _;unfold regex_flat at m;refine aM Tryz.func114 rfl Tryz.ntmps114 kr ?_;refine bV [(0,.agg (bm c ai aj g h))]<|aL<|aE bp (bm c ai aj g h) 25 kr kr ?_
 intro f w2 q j bs b3;refine pN 1 [2] []<|bN<|ak m ?_;intro x b m
 refine aT (J:=fun a r=>Bl k r∧Sz w2 r∧bh r f 25 (bm c ai aj g h)∧Qa a 76 [(1,bp f),(3,vB x)]) ?_ ?_
 ·refine p1 5 (bp f)<|br 3 j 0 rfl<|pL [7,8] 8 (vB (c.1==1))<|cj 8 b (fun a6 b=>?_) (fun a6 b=>?_)
  ·refine pL [3,9,10,11,12,13,14,15,16,17,18,19,20,21,22] 3 (vB true)<|ac ?_;obtain rfl:=sj b;refine ae fun a hd hs ao=>?_;exact ⟨(bg p q nb),bP,j,hd,hs,aX ao⟩
  ·refine p1 9 (bp f)<|br 3 j 0 rfl<|pL [11,12,13] 13 (vB (c.1==7))<|cj 13 b (fun y b=>?_) (fun y b=>?_)
   ·refine pL [3,14,15,16,17,18,19,20,21,22] 3 (vB true)<|ac ?_;obtain rfl:=sj b;refine ae fun a hd hs ao=>?_;exact ⟨(bg p q nb),bP,j,hd,hs,aX ao⟩
   ·refine p1 14 (bp f)<|br 3 j 0 rfl<|pL [16,17,18] 18 (vB (c.1==10))<|cj 18 b (fun z b=>?_) (fun z b=>?_)
    ·refine pL [3,19,20,21,22] 3 (vB true)<|ac ?_;obtain rfl:=sj b;refine ae fun a hd hs ao=>?_;exact ⟨(bg p q nb),bP,j,hd,hs,aX ao⟩
    ·refine p1 19 (bp f)<|br 3 j 0 rfl<|pL [3,21,22] 3 (vB (c.1==12))<|bV [(1,bp f),(3,vB (c.1==12))]<|ac ?_;obtain rfl:=sj b;refine ae fun a hd hs ao=>?_;exact ⟨(bg p q nb),bP,j,hd,hs,aX ao⟩
 ·rintro a r ⟨o,bA,i,hd,hs,ao⟩;refine aO ?_ hd hs ao;refine aL<|ak m ?_;intro l b m
  refine aT (J:=fun a n=>Bl k n∧Sz r n∧bh n f 25 (bm c ai aj g h)∧Qa a 76 [(1,bp f),(3,vB x),(4,vB l)]) ?_ ?_
  ·refine p1 23 (bp f)<|br 3 i 0 rfl<|pL [25,26] 26 (vB (c.1==3))<|cj 26 b (fun A b=>?_) (fun A b=>?_)
   ·refine pL [4,27,28,29,30,31,32,33,34,35] 4 (vB true)<|ac ?_;obtain rfl:=sj b;exact ae fun a hd hs ao=>⟨o,bP,i,hd,hs,aX ao⟩
   ·refine p1 27 (bp f)<|br 3 i 0 rfl<|pL [29,30,31] 31 (vB (c.1==6))<|cj 31 b (fun B b=>?_) (fun B b=>?_)
    ·refine pL [4,32,33,34,35] 4 (vB true)<|ac ?_;obtain rfl:=sj b;exact ae fun a hd hs ao=>⟨o,bP,i,hd,hs,aX ao⟩
    ·refine p1 32 (bp f)<|br 3 i 0 rfl<|pL [4,34,35] 4 (vB (c.1==11))<|ac ?_;obtain rfl:=sj b;exact ae fun a hd hs ao=>⟨o,bP,i,hd,hs,aX ao⟩
  ·rintro a n ⟨e,bE,d,hd,hs,ao⟩;refine aO ?_ hd hs ao;refine aL<|ak m ?_;intro u b m
   refine aT (J:=fun a t=>Bl k t∧Sz n t∧Qa a 76 [(2,vB u)]) ?_ ?_
   ·refine pL [36,37] 37 (vB x)<|cj 37 b (fun C b=>?_) (fun C b=>?_)
    ·refine pN 6 [38,39,40,41,42,43] [(42,vB true),(43,bp f)]<|br 3 d 0 rfl<|pL [45,46] 46 (vB (c.1==10))<|cj 46 b (fun D b=>?_) (fun D b=>?_)
     ·refine pN 13 [47,48,49,50,51,52,53,54,55,56,57,58,59] [(57,vB true),(59,vB l)]<|cj 59 b (fun E b=>?_) (fun E b=>?_)
      ·refine pN 7 [60,61,62,63,64,65,66] [(65,vB true),(66,bp f)]<|br 3 d 0 rfl<|pL [68,69] 69 (vB (c.1==3))<|cj 69 b (fun F b=>?_) (fun F b=>?_)
       ·refine pL [2,70,71,72,73,74,75] 2 (vB true)<|ac ?_;obtain rfl:=sj b;exact ae fun a hd hs ao=>⟨e,bP,hd,hs,aX ao⟩
       ·refine p1 70 (pt f 5)<|br 22 d 5 rfl<|pL [2,72,73,74,75] 2 (vB ((lz c.2.2.2.2.2.1)==0))<|ak b ?_;intro a7 G b;refine cf (s:=2) (v:=(vB ((lz c.2.2.2.2.2.1)==0))) (v':=(vB a7)) kr (congrArg (Value.bool) (sj G))<|ac ?_;obtain rfl:=sj b;exact ae fun a hd hs ao=>⟨e,bP,hd,hs,aX ao⟩
      ·refine p1 60 (pt f 3)<|br 4 d 3 rfl<|pL [62,63,64,65] 65 (vB (!c.2.2.2.1))<|cj 65 b (fun H b=>?_) (fun H b=>?_)
       ·refine p1 66 (bp f)<|br 3 d 0 rfl<|pL [68,69] 69 (vB (c.1==3))<|cj 69 b (fun I b=>?_) (fun I b=>?_)
        ·refine pL [2,70,71,72,73,74,75] 2 (vB true)<|ac ?_;obtain rfl:=sj b;exact ae fun a hd hs ao=>⟨e,bP,hd,hs,aX ao⟩
        ·refine p1 70 (pt f 5)<|br 22 d 5 rfl<|pL [2,72,73,74,75] 2 (vB ((lz c.2.2.2.2.2.1)==0))<|bV [(2,vB ((lz c.2.2.2.2.2.1)==0))]<|ak b ?_;intro a8 K b;refine cf (s:=2) (v:=(vB ((lz c.2.2.2.2.2.1)==0))) (v':=(vB a8)) kr (congrArg (Value.bool) (sj K))<|ac ?_;obtain rfl:=sj b;exact ae fun a hd hs ao=>⟨e,bP,hd,hs,aX ao⟩
       ·refine pL [2,66,67,68,69,70,71,72,73,74,75] 2 (vB false)<|ac ?_;obtain rfl:=sj b;exact ae fun a hd hs ao=>⟨e,bP,hd,hs,aX ao⟩
     ·refine p1 47 (pt f 2)<|br 3 d 2 rfl<|pL [49,50] 50 (vB (c.2.2.1==0))<|cj 50 b (fun L b=>?_) (fun L b=>?_)
      ·refine p1 51 (pt f 4)<|br 4 d 4 rfl<|pL [53,54,55,56,57] 57 (vB (!c.2.2.2.2.1))<|cj 57 b (fun M b=>?_) (fun M b=>?_)
       ·refine pL [58,59] 59 (vB l)<|cj 59 b (fun N b=>?_) (fun N b=>?_)
        ·refine pN 7 [60,61,62,63,64,65,66] [(65,vB true),(66,bp f)]<|br 3 d 0 rfl<|pL [68,69] 69 (vB (c.1==3))<|bV [(1,bp f),(65,vB true),(69,vB (c.1==3))]<|cj 69 b (fun O b=>?_) (fun O b=>?_)
         ·refine pL [2,70,71,72,73,74,75] 2 (vB true)<|ac ?_;obtain rfl:=sj b;exact ae fun a hd hs ao=>⟨e,bP,hd,hs,aX ao⟩
         ·refine p1 70 (pt f 5)<|br 22 d 5 rfl<|pL [2,72,73,74,75] 2 (vB ((lz c.2.2.2.2.2.1)==0))<|ak b ?_;intro a9 P b;refine cf (s:=2) (v:=(vB ((lz c.2.2.2.2.2.1)==0))) (v':=(vB a9)) kr (congrArg (Value.bool) (sj P))<|ac ?_;obtain rfl:=sj b;exact ae fun a hd hs ao=>⟨e,bP,hd,hs,aX ao⟩
        ·refine p1 60 (pt f 3)<|br 4 d 3 rfl<|pL [62,63,64,65] 65 (vB (!c.2.2.2.1))<|bV [(1,bp f),(65,vB (!c.2.2.2.1))]<|cj 65 b (fun Q b=>?_) (fun Q b=>?_)
         ·refine p1 66 (bp f)<|br 3 d 0 rfl<|pL [68,69] 69 (vB (c.1==3))<|cj 69 b (fun R b=>?_) (fun R b=>?_)
          ·refine pL [2,70,71,72,73,74,75] 2 (vB true)<|ac ?_;obtain rfl:=sj b;exact ae fun a hd hs ao=>⟨e,bP,hd,hs,aX ao⟩
          ·refine p1 70 (pt f 5)<|br 22 d 5 rfl<|pL [2,72,73,74,75] 2 (vB ((lz c.2.2.2.2.2.1)==0))<|ak b ?_;intro ba S b;refine cf (s:=2) (v:=(vB ((lz c.2.2.2.2.2.1)==0))) (v':=(vB ba)) kr (congrArg (Value.bool) (sj S))<|ac ?_;obtain rfl:=sj b;exact ae fun a hd hs ao=>⟨e,bP,hd,hs,aX ao⟩
         ·refine pL [2,66,67,68,69,70,71,72,73,74,75] 2 (vB false)<|ac ?_;obtain rfl:=sj b;exact ae fun a hd hs ao=>⟨e,bP,hd,hs,aX ao⟩
       ·refine pL [2,58,59,60,61,62,63,64,65,66,67,68,69,70,71,72,73,74,75] 2 (vB false)<|ac ?_;obtain rfl:=sj b;exact ae fun a hd hs ao=>⟨e,bP,hd,hs,aX ao⟩
      ·refine pL [2,51,52,53,54,55,56,57,58,59,60,61,62,63,64,65,66,67,68,69,70,71,72,73,74,75] 2 (vB false)<|ac ?_;obtain rfl:=sj b;exact ae fun a hd hs ao=>⟨e,bP,hd,hs,aX ao⟩
    ·refine p1 38 (pt f 1)<|br 3 d 1 rfl<|pL [40,41,42] 42 (vB (c.2.1==0))<|cj 42 b (fun T b=>?_) (fun T b=>?_)
     ·refine p1 43 (bp f)<|br 3 d 0 rfl<|pL [45,46] 46 (vB (c.1==10))<|cj 46 b (fun U b=>?_) (fun U b=>?_)
      ·refine pN 13 [47,48,49,50,51,52,53,54,55,56,57,58,59] [(57,vB true),(59,vB l)]<|cj 59 b (fun V b=>?_) (fun V b=>?_)
       ·refine pN 7 [60,61,62,63,64,65,66] [(65,vB true),(66,bp f)]<|br 3 d 0 rfl<|pL [68,69] 69 (vB (c.1==3))<|cj 69 b (fun W b=>?_) (fun W b=>?_)
        ·refine pL [2,70,71,72,73,74,75] 2 (vB true)<|ac ?_;obtain rfl:=sj b;exact ae fun a hd hs ao=>⟨e,bP,hd,hs,aX ao⟩
        ·refine p1 70 (pt f 5)<|br 22 d 5 rfl<|pL [2,72,73,74,75] 2 (vB ((lz c.2.2.2.2.2.1)==0))<|bV [(2,vB ((lz c.2.2.2.2.2.1)==0))]<|ak b ?_;intro bb X b;refine cf (s:=2) (v:=(vB ((lz c.2.2.2.2.2.1)==0))) (v':=(vB bb)) kr (congrArg (Value.bool) (sj X))<|ac ?_;obtain rfl:=sj b;exact ae fun a hd hs ao=>⟨e,bP,hd,hs,aX ao⟩
       ·refine p1 60 (pt f 3)<|br 4 d 3 rfl<|pL [62,63,64,65] 65 (vB (!c.2.2.2.1))<|cj 65 b (fun Y b=>?_) (fun Y b=>?_)
        ·refine p1 66 (bp f)<|br 3 d 0 rfl<|pL [68,69] 69 (vB (c.1==3))<|bV [(1,bp f),(65,vB true),(69,vB (c.1==3))]<|cj 69 b (fun Z b=>?_) (fun Z b=>?_)
         ·refine pL [2,70,71,72,73,74,75] 2 (vB true)<|ac ?_;obtain rfl:=sj b;exact ae fun a hd hs ao=>⟨e,bP,hd,hs,aX ao⟩
         ·refine p1 70 (pt f 5)<|br 22 d 5 rfl<|pL [2,72,73,74,75] 2 (vB ((lz c.2.2.2.2.2.1)==0))<|ak b ?_;intro bd aa b;refine cf (s:=2) (v:=(vB ((lz c.2.2.2.2.2.1)==0))) (v':=(vB bd)) kr (congrArg (Value.bool) (sj aa))<|ac ?_;obtain rfl:=sj b;exact ae fun a hd hs ao=>⟨e,bP,hd,hs,aX ao⟩
        ·refine pL [2,66,67,68,69,70,71,72,73,74,75] 2 (vB false)<|ac ?_;obtain rfl:=sj b;exact ae fun a hd hs ao=>⟨e,bP,hd,hs,aX ao⟩
      ·refine p1 47 (pt f 2)<|br 3 d 2 rfl<|pL [49,50] 50 (vB (c.2.2.1==0))<|cj 50 b (fun ab b=>?_) (fun ab b=>?_)
       ·refine p1 51 (pt f 4)<|br 4 d 4 rfl<|pL [53,54,55,56,57] 57 (vB (!c.2.2.2.2.1))<|cj 57 b (fun ah b=>?_) (fun ah b=>?_)
        ·refine pL [58,59] 59 (vB l)<|bV [(1,bp f),(57,vB true),(59,vB l)]<|cj 59 b (fun an b=>?_) (fun an b=>?_)
         ·refine pN 7 [60,61,62,63,64,65,66] [(65,vB true),(66,bp f)]<|br 3 d 0 rfl<|pL [68,69] 69 (vB (c.1==3))<|cj 69 b (fun ap b=>?_) (fun ap b=>?_)
          ·refine pL [2,70,71,72,73,74,75] 2 (vB true)<|ac ?_;obtain rfl:=sj b;exact ae fun a hd hs ao=>⟨e,bP,hd,hs,aX ao⟩
          ·refine p1 70 (pt f 5)<|br 22 d 5 rfl<|pL [2,72,73,74,75] 2 (vB ((lz c.2.2.2.2.2.1)==0))<|ak b ?_;intro be ax b;refine cf (s:=2) (v:=(vB ((lz c.2.2.2.2.2.1)==0))) (v':=(vB be)) kr (congrArg (Value.bool) (sj ax))<|ac ?_;obtain rfl:=sj b;exact ae fun a hd hs ao=>⟨e,bP,hd,hs,aX ao⟩
         ·refine p1 60 (pt f 3)<|br 4 d 3 rfl<|pL [62,63,64,65] 65 (vB (!c.2.2.2.1))<|cj 65 b (fun a0 b=>?_) (fun a0 b=>?_)
          ·refine p1 66 (bp f)<|br 3 d 0 rfl<|pL [68,69] 69 (vB (c.1==3))<|cj 69 b (fun a1 b=>?_) (fun a1 b=>?_)
           ·refine pL [2,70,71,72,73,74,75] 2 (vB true)<|ac ?_;obtain rfl:=sj b;exact ae fun a hd hs ao=>⟨e,bP,hd,hs,aX ao⟩
           ·refine p1 70 (pt f 5)<|br 22 d 5 rfl<|pL [2,72,73,74,75] 2 (vB ((lz c.2.2.2.2.2.1)==0))<|ak b ?_;intro bl a2 b;refine cf (s:=2) (v:=(vB ((lz c.2.2.2.2.2.1)==0))) (v':=(vB bl)) kr (congrArg (Value.bool) (sj a2))<|ac ?_;obtain rfl:=sj b;exact ae fun a hd hs ao=>⟨e,bP,hd,hs,aX ao⟩
          ·refine pL [2,66,67,68,69,70,71,72,73,74,75] 2 (vB false)<|ac ?_;obtain rfl:=sj b;exact ae fun a hd hs ao=>⟨e,bP,hd,hs,aX ao⟩
        ·refine pL [2,58,59,60,61,62,63,64,65,66,67,68,69,70,71,72,73,74,75] 2 (vB false)<|bV [(2,vB false)]<|ac ?_;obtain rfl:=sj b;exact ae fun a hd hs ao=>⟨e,bP,hd,hs,aX ao⟩
       ·refine pL [2,51,52,53,54,55,56,57,58,59,60,61,62,63,64,65,66,67,68,69,70,71,72,73,74,75] 2 (vB false)<|ac ?_;obtain rfl:=sj b;exact ae fun a hd hs ao=>⟨e,bP,hd,hs,aX ao⟩
     ·refine pL [2,43,44,45,46,47,48,49,50,51,52,53,54,55,56,57,58,59,60,61,62,63,64,65,66,67,68,69,70,71,72,73,74,75] 2 (vB false)<|ac ?_;obtain rfl:=sj b;exact ae fun a hd hs ao=>⟨e,bP,hd,hs,aX ao⟩
   ·rintro a t ⟨a3,b0,hd,hs,ao⟩;refine aO ?_ hd hs ao;refine aq ?_;obtain rfl:=sj m;refine az (ar [vB u] rfl ⟨kr,trivial⟩ ?_);exact ⟨af a3,rfl⟩

theorem utf8_ValidRune_ok (am:Nat) (b:Int) (d:World) (m:Bool) (c:utf8_ValidRune am b=some m):
    Cs 162 [vR b] d (G1 d [vB m]):=by
 have f:Bl d d:=Below.refl _ _;unfold utf8_ValidRune at c;refine aM Tryz.func162 rfl Tryz.ntmps162 kr ?_;refine bV [(0,vR b)]<|aL<|pN 1 [2] []<|cA<|aH<|aL<|aT (J:=fun a n=>d=n∧Qa a 17 [(0,vR b),(3,vB ((decide (0≤b))&&(decide (b<55296))))]) ?_ ?_
 ·refine pL [4,5,6] 6 (vB (decide (0≤b)))<|bL (s:=6) (g:=(decide (0≤b))) kr (fun h=>?_) (fun h=>?_)
  ·refine pL [3,7,8,9] 3 (vB (decide (b<55296)))<|ac<|bt [0,3] (σ':=[(0,vR b),(3,vB (decide (b<55296)))]) kr<|ae fun a hd hs ao=>⟨rfl,hd,hs,?_⟩;obtain ⟨k,l,_⟩:=ao;exact ⟨k,(by rw[h];exact l),trivial⟩
  ·refine pL [3,7,8,9] 3 (vB false)<|ac<|bt [0,3] (σ':=[(0,vR b),(3,vB false)]) kr<|ae fun a hd hs ao=>⟨rfl,hd,hs,?_⟩;obtain ⟨k,l,_⟩:=ao;exact ⟨k,(by rw[h];exact l),trivial⟩
 ·rintro a n ⟨e,hd,hs,ao⟩;subst e;refine aO ?_ hd hs ao;refine bF c (fun o c=>?_) (fun o c=>?_)
  ·refine aL<|p1 2 (vB true)<|ac<|aq ?_
   obtain rfl:=sj c;refine az (ar [vB true] rfl ⟨kr,trivial⟩ ?_);exact ⟨af f,rfl⟩
  ·refine aL<|aT (J:=fun a p=>d=p∧Qa a 17 [(10,vB ((decide (57343<b))&&(decide (b≤1114111))))]) ?_ ?_
   ·refine pL [11,12,13] 13 (vB (decide (57343<b)))<|bL (s:=13) (g:=(decide (57343<b))) kr (fun i=>?_) (fun i=>?_)
    ·refine pL [10,14,15,16] 10 (vB (decide (b≤1114111)))<|ac<|bt [10] (σ':=[(10,vB (decide (b≤1114111)))]) kr<|ae fun a hd hs ao=>⟨rfl,hd,hs,?_⟩;obtain ⟨j,_⟩:=ao;exact ⟨(by rw[i];exact j),trivial⟩
    ·refine pL [10,14,15,16] 10 (vB false)<|ac<|bt [10] (σ':=[(10,vB false)]) kr<|ae fun a hd hs ao=>⟨rfl,hd,hs,?_⟩;obtain ⟨j,_⟩:=ao;exact ⟨(by rw[i];exact j),trivial⟩
   ·rintro a p ⟨e,hd,hs,ao⟩;subst e;refine aO ?_ hd hs ao;refine bF c (fun q c=>?_) (fun q c=>?_)
    ·refine aL<|p1 2 (vB true)<|ac<|aq ?_
     obtain rfl:=sj c;refine az (ar [vB true] rfl ⟨kr,trivial⟩ ?_);exact ⟨af f,rfl⟩
    ·refine aD<|bu<|aL<|p1 2 (vB false)<|ac<|aq ?_
     obtain rfl:=sj c;refine az (ar [vB false] rfl ⟨kr,trivial⟩ ?_);exact ⟨af f,rfl⟩

theorem regex_scalar_ok (am:Nat) (b:Int) (d:World) (j:Bool) (f:regex_scalar am b=some j):
    Cs 137 [vI b] d (G1 d [vB j]):=by
 have e:Bl d d:=Below.refl _ _;unfold regex_scalar at f;refine aM Tryz.func137 rfl Tryz.ntmps137 kr ?_;refine bV [(0,vI b)]<|aL<|pN 1 [2] []<|bN<|ak f ?_;intro k c f
 refine aT (J:=fun a h=>Bl d h∧Sz d h∧Qa a 14 [(2,vB k)]) ?_ ?_
 ·refine pL [3,4,5] 5 (vB (decide (b≥0)))<|cj 5 c (fun l c=>?_) (fun l c=>?_)
  ·refine pL [6,7,8,9] 9 (vB (decide (b≤1114111)))<|cj 9 c (fun m c=>?_) (fun m c=>?_)
   ·refine pL [10,11] 11 (vR (wR (b)))<|ak c ?_;intro n o c;refine av kr rfl kr enters162 (utf8_ValidRune_ok am (wR (b)) d n o) ?_;rintro q r ⟨g,rfl⟩;refine pL [2,13] 2 (vB n)<|ac ?_;obtain rfl:=sj c;refine ae fun a hd hs ao=>?_;exact ⟨(bg e g nb),g.size,hd,hs,aX ao⟩
   ·refine pL [2,10,11,12,13] 2 (vB false)<|ac ?_;obtain rfl:=sj c;exact ae fun a hd hs ao=>⟨e,bP,hd,hs,aX ao⟩
  ·refine pL [2,6,7,8,9,10,11,12,13] 2 (vB false)<|ac ?_;obtain rfl:=sj c;exact ae fun a hd hs ao=>⟨e,bP,hd,hs,aX ao⟩
 ·rintro a h ⟨i,p,hd,hs,ao⟩;refine aO ?_ hd hs ao;refine aq ?_;obtain rfl:=sj f;refine az (ar [vB k] rfl ⟨kr,trivial⟩ ?_);exact ⟨af i,rfl⟩

theorem regex_ordered_ok (am:Nat) (ai:bq) (aj:Nat) (b:List bO) (m:World) (X0:Nat→Prop) (x:Lw X0 m) (aC:Rd bX m X0 ai aj b) (r0:Bool) (u:regex_ordered am b=some r0):
    Cs 138 [vL ai b aj] m (G1 m [vB r0]):=by
 have a7:Bl m m:=Below.refl _ _;unfold regex_ordered at u;refine aM Tryz.func138 rfl Tryz.ntmps138 kr ?_;refine bV [(0,vL ai b aj)]<|aL<|pN 1 [2] []<|cA<|aL<|pN 3 [5,6,7] [(5,vL ai b aj),(6,vI (lz b)),(7,vI 0)]<|ac<|ak u ?_;intro j1 z u
 refine aG (J:=fun a V=>∃ s2:Unit,j1= .inl s2∧Bl m V∧Sz m V∧Qa a 49 [(0,vL ai b aj)]) ?_ ?_
 ·refine aH<|bT (A:=fun (l:Int) a L=>Bl m L∧Sz m L∧Qa a 49 [(0,vL ai b aj),(5,vL ai b aj),(6,vI (lz b)),(7,vI l)]) z ?_ ?_
  ·intro a hd hs ao;exact ⟨a7,bP,hd,hs,aX ao⟩
  ·rintro l r2 p R a L ⟨h,S,hd,hs,ao⟩;refine aO ?_ hd hs ao;refine aL<|p1 8 (vB (decide (l<(lz b))))<|cA<|bF p (fun a9 p=>?_) (fun a9 p=>?_)
   ·refine aD<|aJ<|aH<|aL<|p1 9 (vI l)<|ak p ?_;intro q B p;refine db .i64 2 (aC.below h x) B aS ?_;obtain ⟨_,⟨_,_,rfl,rfl,rfl⟩,W⟩:=aC.cellsK B;refine laq 37 (aR ai ((l:Int).toNat*2)) (bY q) (bR (W L (fun k hk=>h.block k (x k hk)))) ?_;refine aE bp #[vI 0,vI 0] 37 kr kr ?_;intro c cb r X n be;refine p1 3 (vI l)<|aF 37 0 (.agg (bY q)) (bY q) X kr kr kr ?_;intro ba t Y bl;refine cA<|ak p ?_;intro bb d p
    refine aG (J:=fun a C=>Bl m C∧Sz ba C∧Qa a 49 [(0,vL ai b aj),(5,vL ai b aj),(6,vI (lz b)),(7,vI l),(44,vB bb)]) ?_ ?_
    ·refine bU kr ?_;intro D f;refine aW [0] (bA 33 [0]) 32 kr kr<|p1 12 (bp c)<|ac<|aw<|aK (da D []) [1] [(1,some true)] (bA 33 [0,1]) 31 kr kr (aB _ _) ?_;have bn:=aB D [];have E:=Y.grown f nb;refine cB 3 ⟨c,0,none⟩ (vI q.1) (bJ fun w' hC'=>((hC'.box E aZ).cell 0 rfl)) ?_;refine ac<|aw<|aK (fun _=>True) [2] [(2,some false)] (bA 33 [0,1,2]) 30 kr kr trivial ?_;refine ak d ?_;intro T Z d;refine clq enters137 (regex_scalar_ok am q.1 D T Z) ?_;rintro cc o ⟨g,rfl⟩;refine ⟨(fun _=>trivial),?_⟩;refine ac<|aw<|aW [3,4,5] (bA 33 [0,1,2,3,4,5]) 27 kr kr<|pL [15,16] 16 (vB (!T))<|cj 16 d (fun aa d=>?_) (fun aa d=>?_)
     ·refine p1 17 undef<|ac<|aw<|aK (da o []) [6] [(6,some true)] (bA 33 [0,1,2,3,4,5,6]) 26 kr kr (aB _ _) ?_;have bs:=aB o [];refine p1 18 undef<|ac<|aw<|aK (fun _=>True) [7] [(7,some false)] (bA 33 [0,1,2,3,4,5,6,7]) 25 kr kr trivial ?_;refine c6 trivial 1 [19] [(19,undef)] kr<|bV [(0,vL ai b aj),(3,vI l),(4,bp c),(5,vL ai b aj),(6,vI (lz b)),(7,vI l),(16,vB true),(19,undef)]<|ac<|aw<|aW [8,9,10,11,13] (bA 33 [0,1,2,3,4,5,6,7,8,9,10,11,13]) 20 kr kr<|pN 5 [20,21,22,23,25] [(22,vB true),(23,undef),(25,undef)]<|ac<|aw<|aK (da o []) [12,14] [(12,some true),(14,some true)] (bA 33 [0,1,2,3,4,5,6,7,8,9,10,11,12,13,14]) 18 kr kr (aB _ _) ?_;have bE:=aB o [];refine pN 2 [24,26] [(24,undef),(26,undef)]<|ac<|aw<|aW [15,16,17,18,19,20,21,23,24,25,26,27] (bA 33 [0,1,2,3,4,5,6,7,8,9,10,11,12,13,14,15,16,17,18,19,20,21,23,24,25,26,27]) 6 kr kr<|pN 12 [27,28,29,30,31,32,33,35,36,37,38,39] [(29,vB true),(32,undef),(33,undef),(39,undef)]<|ac<|aw<|aK (da o []) [22,28,29] [(22,some true),(28,some true),(29,some true)] (bA 33 [0,1,2,3,4,5,6,7,8,9,10,11,12,13,14,15,16,17,18,19,20,21,22,23,24,25,26,27,28,29]) 3 kr kr (aB _ _) ?_;have b0:=aB o [];refine pN 3 [34,40,41] [(34,undef),(41,undef)]<|ac<|aw<|aW [30,31,32] (bA 33 [0,1,2,3,4,5,6,7,8,9,10,11,12,13,14,15,16,17,18,19,20,21,22,23,24,25,26,27,28,29,30,31,32]) 0 kr kr<|pL [42,43,44] 44 (vB true)<|ac<|aw<|bc kr ?_;obtain rfl:=sj d;refine ae fun a hd hs ao=>?_;have M:m.heap.size≤c:=b8 n h.size;exact ⟨(bg (bg (bg h r nb) t (aU M)) (ad f g) nb),(nt f.size g.size),hd,hs,aX ao⟩
     ·refine p1 17 (pt c 1)<|ac<|aw<|aK (da o []) [6] [(6,some true)] (bA 33 [0,1,2,3,4,5,6]) 26 kr kr (aB _ _) ?_;have b1:=aB o [];have F:=E.grown g nb;refine cB 3 ⟨c,1,none⟩ (vI q.2) (bJ fun w' hC'=>((hC'.box F aZ).cell 1 rfl)) ?_;refine ac<|aw<|aK (fun _=>True) [7] [(7,some false)] (bA 33 [0,1,2,3,4,5,6,7]) 25 kr kr trivial ?_;refine ak d ?_;intro G ab d;refine clq enters137 (regex_scalar_ok am q.2 o G ab) ?_;rintro ch j ⟨i,rfl⟩;refine ⟨(fun _=>trivial),?_⟩;refine ac<|aw<|aW [8,9,10,11,13] (bA 33 [0,1,2,3,4,5,6,7,8,9,10,11,13]) 20 kr kr<|pL [20,21,22] 22 (vB (!G))<|bV [(0,vL ai b aj),(3,vI l),(4,bp c),(5,vL ai b aj),(6,vI (lz b)),(7,vI l),(22,vB (!G))]<|cj 22 d (fun ah d=>?_) (fun ah d=>?_)
      ·refine pN 2 [23,25] [(23,undef),(25,undef)]<|ac<|aw<|aK (da j []) [12,14] [(12,some true),(14,some true)] (bA 33 [0,1,2,3,4,5,6,7,8,9,10,11,12,13,14]) 18 kr kr (aB _ _) ?_;have b2:=aB j [];refine pN 2 [24,26] [(24,undef),(26,undef)]<|ac<|aw<|aW [15,16,17,18,19,20,21,23,24,25,26,27] (bA 33 [0,1,2,3,4,5,6,7,8,9,10,11,12,13,14,15,16,17,18,19,20,21,23,24,25,26,27]) 6 kr kr<|pN 12 [27,28,29,30,31,32,33,35,36,37,38,39] [(29,vB true),(32,undef),(33,undef),(39,undef)]<|ac<|aw<|aK (da j []) [22,28,29] [(22,some true),(28,some true),(29,some true)] (bA 33 [0,1,2,3,4,5,6,7,8,9,10,11,12,13,14,15,16,17,18,19,20,21,22,23,24,25,26,27,28,29]) 3 kr kr (aB _ _) ?_;have b3:=aB j [];refine pN 3 [34,40,41] [(34,undef),(41,undef)]<|ac<|aw<|aW [30,31,32] (bA 33 [0,1,2,3,4,5,6,7,8,9,10,11,12,13,14,15,16,17,18,19,20,21,22,23,24,25,26,27,28,29,30,31,32]) 0 kr kr<|pL [42,43,44] 44 (vB true)<|ac<|aw<|bc kr ?_;obtain rfl:=sj d;refine ae fun a hd hs ao=>?_;have N:m.heap.size≤c:=b8 n h.size;exact ⟨(bg (bg (bg h r nb) t (aU N)) (ad (ad f g) i) nb),(nt (nt f.size g.size) i.size),hd,hs,aX ao⟩
      ·refine pN 2 [23,25] [(23,bp c),(25,pt c 1)]<|ac<|aw<|aK (da j []) [12,14] [(12,some true),(14,some true)] (bA 33 [0,1,2,3,4,5,6,7,8,9,10,11,12,13,14]) 18 kr kr (aB _ _) ?_;have b4:=aB j [];have y:=F.grown i nb;refine cB 3 ⟨c,0,none⟩ (vI q.1) (bJ fun w' hC'=>((hC'.box y aZ).cell 0 rfl)) ?_;refine cB 3 ⟨c,1,none⟩ (vI q.2) (bJ fun w' hC'=>((hC'.box y aZ).cell 1 rfl)) ?_;refine ac<|aw<|aW [15,16,17,18,19,20,21,23,24,25,26,27] (bA 33 [0,1,2,3,4,5,6,7,8,9,10,11,12,13,14,15,16,17,18,19,20,21,23,24,25,26,27]) 6 kr kr<|pL [27,28,29] 29 (vB (decide (q.1>q.2)))<|cj 29 d (fun an d=>?_) (fun an d=>?_)
       ·refine pN 9 [30,31,32,33,35,36,37,38,39] [(32,undef),(33,undef),(39,undef)]<|ac<|aw<|aK (da j []) [22,28,29] [(22,some true),(28,some true),(29,some true)] (bA 33 [0,1,2,3,4,5,6,7,8,9,10,11,12,13,14,15,16,17,18,19,20,21,22,23,24,25,26,27,28,29]) 3 kr kr (aB _ _) ?_;have b5:=aB j [];refine pN 3 [34,40,41] [(34,undef),(41,undef)]<|ac<|aw<|aW [30,31,32] (bA 33 [0,1,2,3,4,5,6,7,8,9,10,11,12,13,14,15,16,17,18,19,20,21,22,23,24,25,26,27,28,29,30,31,32]) 0 kr kr<|pL [42,43,44] 44 (vB true)<|ac<|aw<|bc kr ?_;obtain rfl:=sj d;refine ae fun a hd hs ao=>?_;have O:m.heap.size≤c:=b8 n h.size;exact ⟨(bg (bg (bg h r nb) t (aU O)) (ad (ad f g) i) nb),(nt (nt f.size g.size) i.size),hd,hs,aX ao⟩
       ·refine pL [30,31,32] 32 (vB (decide (l>0)))<|cj 32 d (fun ap d=>?_) (fun ap d=>?_)
        ·refine pN 4 [33,35,36,37] [(33,bp c),(35,vL ai b aj),(37,vI (wI (l-1)))]<|ak d ?_;intro H I d;have P:m.heap.size≤c:=b8 n h.size;have w:=bg (bg (bg h r nb) t (aU P)) (ad (ad f g) i) nb;refine db .i64 2 (aC.below w x) I aS<|p1 39 (.pointer (some (Addr.add (aR ai (((wI (l-1)):Int).toNat*2)) 1)))<|ac<|aw<|aK (da j []) [22,28,29] [(22,some true),(28,some true),(29,some true)] (bA 33 [0,1,2,3,4,5,6,7,8,9,10,11,12,13,14,15,16,17,18,19,20,21,22,23,24,25,26,27,28,29]) 3 kr kr (aB _ _) ?_;have b6:=aB j [];refine cB 3 ⟨c,0,none⟩ (vI q.1) (bJ fun w' hC'=>((hC'.box y aZ).cell 0 rfl)) ?_;obtain ⟨_,⟨_,_,rfl,rfl,rfl⟩,ax⟩:=aC.cellsK I;refine cB 3 (Addr.add (aR ai (((wI (l-1)):Int).toNat*2)) 1) (vI H.2) (bJ fun w' hC'=>((ax w' (fun k hk=>(hC'.2 k ((aV x w.size) k hk) (fun hg=>cu k hg hk)).trans (w.block k (x k hk)))) 1 _ rfl)) ?_;refine p1 41 (vI (wI (H.2+1)))<|ac<|aw<|aW [30,31,32] (bA 33 [0,1,2,3,4,5,6,7,8,9,10,11,12,13,14,15,16,17,18,19,20,21,22,23,24,25,26,27,28,29,30,31,32]) 0 kr kr<|pL [42,43,44] 44 (vB (decide (q.1≤(wI (H.2+1)))))<|ac<|aw<|bc kr ?_;obtain rfl:=sj d;refine ae fun a hd hs ao=>?_;exact ⟨w,(nt (nt f.size g.size) i.size),hd,hs,aX ao⟩
        ·refine pN 6 [33,35,36,37,38,39] [(33,undef),(39,undef)]<|ac<|aw<|aK (da j []) [22,28,29] [(22,some true),(28,some true),(29,some true)] (bA 33 [0,1,2,3,4,5,6,7,8,9,10,11,12,13,14,15,16,17,18,19,20,21,22,23,24,25,26,27,28,29]) 3 kr kr (aB _ _) ?_;have b7:=aB j [];refine pN 3 [34,40,41] [(34,undef),(41,undef)]<|ac<|aw<|aW [30,31,32] (bA 33 [0,1,2,3,4,5,6,7,8,9,10,11,12,13,14,15,16,17,18,19,20,21,22,23,24,25,26,27,28,29,30,31,32]) 0 kr kr<|pL [42,43,44] 44 (vB false)<|ac<|aw<|bc kr ?_;obtain rfl:=sj d;refine ae fun a hd hs ao=>?_;have Q:m.heap.size≤c:=b8 n h.size;exact ⟨(bg (bg (bg h r nb) t (aU Q)) (ad (ad f g) i) nb),(nt (nt f.size g.size) i.size),hd,hs,aX ao⟩
    ·rintro a C ⟨K,a0,hd,hs,ao⟩;refine aO ?_ hd hs ao;have a1:=(nt (nt (nt S r.size) t.size) a0);refine bF p (fun a2 p=>?_) (fun a2 p=>?_)
     ·refine aL<|p1 2 (vB false)<|ac<|aq ?_
      obtain rfl:=sj p;replace z:=congrArg some (R _ rfl);obtain rfl:=sj z;replace u:=bC u;obtain rfl:=sj u;refine az (ar [vB false] rfl ⟨kr,trivial⟩ ?_);exact ⟨af K,rfl⟩
     ·refine aD<|bu<|aA<|pL [7,45] 7 (vI (wI (l+1)))<|ac ?_;obtain rfl:=sj p;refine ae fun a hd hs ao=>?_;exact ⟨(wI (l+1)),rfl,K,a1,hd,hs,aX ao⟩
   ·refine bG<|bS rfl ?_
    obtain rfl:=sj p;replace z:=congrArg some (R _ rfl);obtain rfl:=sj z;refine ae fun a hd hs ao=>?_;exact ⟨(),rfl,h,S,hd,hs,aX ao⟩
 ·rintro a V ⟨s2,e,a3,ca,hd,hs,ao⟩;subst e;refine aO ?_ hd hs ao;replace u:=ce u;refine aL<|pL [2,46,47,48] 2 (vB (decide ((lz b)>0)))<|ak u ?_;intro U a4 u;refine cf (s:=2) (v:=(vB (decide ((lz b)>0)))) (v':=(vB U)) kr (congrArg (Value.bool) (sj a4))<|ac<|aq ?_
  obtain rfl:=sj u;refine az (ar [vB U] rfl ⟨kr,trivial⟩ ?_);exact ⟨af a3,rfl⟩

theorem slices_Index_sint_int_ok (am:Nat) (ai:bq) (aj:Nat) (b:List Int) (g:Int) (d:World) (s:Nat→Prop) (l:Lw s d) (aC:Rd (iE .i64) d s ai aj b) (t:Int) (h:slices_Index_sint_int am b g=some t):
    Cs 161 [vL ai b aj,vI g] d (G1 d [vI t]):=by
 have u:Bl d d:=Below.refl _ _;unfold slices_Index_sint_int at h;refine aM Tryz.func161 rfl Tryz.ntmps161 kr ?_;refine bV [(0,vL ai b aj),(1,vI g)]<|aL<|pN 1 [4] []<|cA<|aL<|pN 3 [6,7,8] [(7,vI (lz b)),(8,vI 0)]<|ac<|ak h ?_;intro y j h
 refine aG (J:=fun a o=>∃ v:Unit,y= .inl v∧Bl d o∧Sz d o∧Qa a 19 []) ?_ ?_
 ·refine aH<|bT (A:=fun (f:Int) a p=>Bl d p∧Sz d p∧Qa a 19 [(0,vL ai b aj),(1,vI g),(7,vI (lz b)),(8,vI f)]) j ?_ ?_
  ·intro a hd hs ao;exact ⟨u,bP,hd,hs,aX ao⟩
  ·rintro f B c m a p ⟨i,n,hd,hs,ao⟩;refine aO ?_ hd hs ao;refine aL<|p1 9 (vB (decide (f<(lz b))))<|cA<|bF c (fun w c=>?_) (fun w c=>?_)
   ·refine aD<|aJ<|aH<|aL<|pL [5,10] 5 (vI f)<|bN<|pN 3 [11,12,13] [(11,vI g),(12,vL ai b aj),(13,vI f)]<|ak c ?_;intro x k c;refine db .i64 1 (aC.below i l) k cy<|cB 3 (aR ai ((f:Int).toNat*1)) (vI x) (bR ((aC.below i l).cell k))<|p1 16 (vB (g==x))<|ac<|bF c (fun q c=>?_) (fun q c=>?_)
    ·refine aL<|pL [4,17] 4 (vI f)<|ac<|aq ?_
     obtain rfl:=sj c;replace j:=congrArg some (m _ rfl);obtain rfl:=sj j;replace h:=bC h;obtain rfl:=sj h;refine az (ar [vI f] rfl ⟨kr,trivial⟩ ?_);exact ⟨af i,rfl⟩
    ·refine aD<|bu<|aA<|pL [8,18] 8 (vI (wI (f+1)))<|ac ?_;obtain rfl:=sj c;refine ae fun a hd hs ao=>?_;exact ⟨(wI (f+1)),rfl,i,n,hd,hs,aX ao⟩
   ·refine bG<|bS rfl ?_
    obtain rfl:=sj c;replace j:=congrArg some (m _ rfl);obtain rfl:=sj j;refine ae fun a hd hs ao=>?_;exact ⟨(),rfl,i,n,hd,hs,aX ao⟩
 ·rintro a o ⟨v,e,r,z,hd,hs,ao⟩;subst e;refine aO ?_ hd hs ao;replace h:=ce h;refine aL<|p1 4 (vI (-1))<|ac<|aq ?_
  obtain rfl:=sj h;refine az (ar [vI (-1)] rfl ⟨kr,trivial⟩ ?_);exact ⟨af r,rfl⟩

theorem slices_Contains_sint_int_ok (am:Nat) (ai:bq) (aj:Nat) (a:List Int) (b:Int) (c:World) (g:Nat→Prop) (f:Lw g c) (aC:Rd (iE .i64) c g ai aj a) (i:Bool) (e:slices_Contains_sint_int am a b=some i):
    Cs 136 [vL ai a aj,vI b] c (G1 c [vB i]):=by
 have d:Bl c c:=Below.refl _ _;unfold slices_Contains_sint_int at e;refine aM Tryz.func136 rfl Tryz.ntmps136 kr ?_;refine bV [(0,vL ai a aj),(1,vI b)]<|aL<|pN 1 [4] []<|bN<|pN 2 [5,6] [(5,vL ai a aj),(6,vI b)]<|ak e ?_;intro h j e;refine av kr rfl kr enters161 (slices_Index_sint_int_ok am ai aj a b c g (aV f d.size) (aC.below d f) h j) ?_;rintro l m ⟨k,rfl⟩;refine pL [4,8] 4 (vB (decide (h≥0)))<|ac<|aq ?_
 obtain rfl:=sj e;refine az (ar [vB (decide (h≥0))] rfl ⟨kr,trivial⟩ ?_);exact ⟨af (bg d k nb),rfl⟩

theorem regex_formed_1_1_ok (am:Nat) (ai:bq) (aj:Nat) (b:bq) (c:Nat) (d:cD) (g:Nat) (aI:bq) (aN:Nat) (a:List Int) (e:World) (h:Nat→Prop) (j:Lw h e) (k:bh e g 27 #[vL aI a aN]) (aC:Rd bX e h ai aj d.2.2.2.2.2.1) (o:Rd pcE e h b c d.2.2.2.2.2.2) (bD:Rd (iE .i64) e h aI aN a) (p:Bool) (i:regex_formed_1_1 am d a=some p):
    Cs 135 [.agg (bm d ai aj b c),bp g] e (G1 e [vB p]):=by
 have q:Bl e e:=Below.refl _ _;unfold regex_formed_1_1 at i;refine aM Tryz.func135 rfl Tryz.ntmps135 kr ?_;refine bV [(0,.agg (bm d ai aj b c)),(1,bp g)] ?_;have t:=k.lt;refine aL<|aE bp (bm d ai aj b c) 25 kr kr ?_
 intro u v l r w x;refine pN 1 [3] []<|bN<|br 27 (k.grown l nb) 0 rfl<|p1 5 (bp u)<|br 3 r 0 rfl<|ak i ?_;intro m s i;have f:=bg q l nb;refine av kr rfl kr enters136 (slices_Contains_sint_int_ok am aI aN a d.1 v h (aV j f.size) (bD.below f j) m s) ?_;rintro y z ⟨n,rfl⟩;refine p1 3 (vB m)<|ac<|aq ?_
 obtain rfl:=sj i;refine az (ar [vB m] rfl ⟨kr,trivial⟩ ?_);exact ⟨af (bg f n nb),rfl⟩

theorem api_Piece_1_1_3_ok (am:Nat) (ai:bq) (aj:Nat) (h:List Pc) (b:Nat) (c:bq) (d:Nat) (g:List Int) (l:World) (C:Nat→Prop) (n:Lw C l) (r:bh l b 27 #[vL c g d]) (aC:Rd pcE l C ai aj h) (q:Rd (iE .i64) l C c d g) (N:Int) (o:api_Piece_1_1_3 am h g=some N):
    Cs 144 [vL ai h aj,.func (.func 135) #[] #[bp b]] l (G1 l [vI N]):=by
 have O:Bl l l:=Below.refl _ _;unfold api_Piece_1_1_3 at o;refine aM Tryz.func144 rfl Tryz.ntmps144 kr ?_;refine bV [(0,vL ai h aj),(1,.func (.func 135) #[] #[bp b])] ?_;have P:=r.lt;refine aL<|pN 1 [4] []<|cA<|aL<|pN 3 [6,7,8] [(7,vI (lz h)),(8,vI 0)]<|ac<|ak o ?_;intro T t o
 refine aG (J:=fun a D=>∃ Q:Unit,T= .inl Q∧Bl l D∧Sz l D∧bh D b 27 #[vL c g d]∧Qa a 19 []) ?_ ?_
 ·refine aH<|bT (A:=fun (m:Int) a s=>Bl l s∧Sz l s∧bh s b 27 #[vL c g d]∧Qa a 19 [(0,vL ai h aj),(1,.func (.func 135) #[] #[bp b]),(7,vI (lz h)),(8,vI m)]) t ?_ ?_
  ·intro a hd hs ao;exact ⟨O,bP,r,hd,hs,aX ao⟩
  ·rintro m Y j E a s ⟨i,F,u,hd,hs,ao⟩;refine aO ?_ hd hs ao;refine aL<|p1 9 (vB (decide (m<(lz h))))<|cA<|bF j (fun R j=>?_) (fun R j=>?_)
   ·refine aD<|aJ<|aH<|aL<|pL [5,10] 5 (vI m)<|bN<|pN 3 [11,12,13] [(11,.func (.func 135) #[] #[bp b]),(12,vL ai h aj),(13,vI m)] ?_
    refine ak j ?_;intro v w j;refine db .i64 7 (aC.below i n) w bf ?_;obtain ⟨_,⟨_,_,rfl,rfl,⟨_,_,rfl,rfl,⟨_,_,rfl,rfl,⟨_,_,rfl,rfl,⟨_,_,rfl,rfl,⟨_,_,rfl,⟨x,y,rfl,G⟩,⟨z,B,rfl,H⟩⟩⟩⟩⟩⟩⟩,I⟩:=cells_un (aC.cellsK w);refine laq 25 (aR ai ((m:Int).toNat*7)) (dC (Pc.un v) x y z B) (bR (I s (fun k hk=>i.block k (n k hk)))) ?_;refine ak j ?_;intro S K j;refine cH (f:=135) (vs:=[.agg (dC (Pc.un v) x y z B)]) (cap:=[bp b]) _ cC rfl rfl rfl kr kr enters135 (regex_formed_1_1_ok am x y z B (Pc.un v) b c d g s C (aV n i.size) u (G.below i n) (H.below i n) (q.below i n) S K) ?_;rintro W X ⟨p,rfl⟩;refine ⟨nofun,?_⟩;refine ac<|bF j (fun L j=>?_) (fun L j=>?_)
    ·refine aL<|pL [4,17] 4 (vI m)<|ac<|aq ?_
     obtain rfl:=sj j;replace t:=congrArg some (E _ rfl);obtain rfl:=sj t;replace o:=bC o;obtain rfl:=sj o;refine az (ar [vI m] rfl ⟨kr,trivial⟩ ?_);exact ⟨af (bg i p nb),rfl⟩
    ·refine aD<|bu<|aA<|pL [8,18] 8 (vI (wI (m+1)))<|ac ?_;obtain rfl:=sj j;refine ae fun a hd hs ao=>?_;exact ⟨(wI (m+1)),rfl,(bg i p nb),(nt F p.size),(u.grown p nb),hd,hs,aX ao⟩
   ·refine bG<|bS rfl ?_
    obtain rfl:=sj j;replace t:=congrArg some (E _ rfl);obtain rfl:=sj t;refine ae fun a hd hs ao=>?_;exact ⟨(),rfl,i,F,u,hd,hs,aX ao⟩
 ·rintro a D ⟨Q,e,M,U,V,hd,hs,ao⟩;subst e;refine aO ?_ hd hs ao;replace o:=ce o;refine aL<|p1 4 (vI (-1))<|ac<|aq ?_
  obtain rfl:=sj o;refine az (ar [vI (-1)] rfl ⟨kr,trivial⟩ ?_);exact ⟨af M,rfl⟩

theorem api_Piece_1_1_ok (am:Nat) (ai:bq) (aj:Nat) (e:List Pc) (a:Nat) (b:bq) (c:Nat) (d:List Int) (f:World) (k:Nat→Prop) (j:Lw k f) (h:bh f a 27 #[vL b d c]) (aC:Rd pcE f k ai aj e) (g:Rd (iE .i64) f k b c d) (n:Bool) (l:api_Piece_1_1 am e d=some n):
    Cs 120 [vL ai e aj,.func (.func 135) #[] #[bp a]] f (G1 f [vB n]):=by
 have i:Bl f f:=Below.refl _ _;unfold api_Piece_1_1 at l;refine aM Tryz.func120 rfl Tryz.ntmps120 kr ?_;refine bV [(0,vL ai e aj),(1,.func (.func 135) #[] #[bp a])] ?_;have o:=h.lt;refine aL<|pN 1 [4] []<|bN<|pN 2 [5,6] [(5,vL ai e aj),(6,.func (.func 135) #[] #[bp a])] ?_
 refine ak l ?_;intro m p l;refine av kr rfl kr enters144 (api_Piece_1_1_3_ok am ai aj e a b c d f k (aV j i.size) h (aC.below i j) (g.below i j) m p) ?_;rintro r s ⟨q,rfl⟩;refine pL [4,8] 4 (vB (decide (m≥0)))<|ac<|aq ?_
 obtain rfl:=sj l;refine az (ar [vB (decide (m≥0))] rfl ⟨kr,trivial⟩ ?_);exact ⟨af (bg i q nb),rfl⟩

theorem dg (am:Nat) (ai:bq) (aj:Nat) (a:List Int) (g:Nat) (aI:bq) (aN:Nat) (c:bq) (d:Nat) (b:cD) (e:World) (h:Nat→Prop) (i:Lw h e) (l:bh e g 25 (bm b aI aN c d)) (aC:Rd (iE .i64) e h ai aj a) (bD:Rd bX e h aI aN b.2.2.2.2.2.1) (j:Rd pcE e h c d b.2.2.2.2.2.2) (p:Bool) (k:regex_formed_1 am a b=some p):
    Cs 134 [vL ai a aj,bp g] e (G1 e [vB p]):=by
 have q:Bl e e:=Below.refl _ _;unfold regex_formed_1 at k;refine aM Tryz.func134 rfl Tryz.ntmps134 kr ?_;refine bV [(0,vL ai a aj),(1,bp g)] ?_;have u:=l.lt;refine aL<|aE bp #[vL ai a aj] 27 kr kr ?_
 intro r v m s w x;refine pN 1 [3] []<|bN<|p1 4 (pt g 6)<|br 23 (l.grown m nb) 6 rfl<|p1 6 (.func (.func 135) #[] #[bp r]) ?_;refine ak k ?_;intro n t k;have f:=bg q m nb;refine av kr rfl kr enters120 (api_Piece_1_1_ok am c d b.2.2.2.2.2.2 r ai aj a v h (aV i f.size) s (j.below f i) (aC.below f i) n t) ?_;rintro y z ⟨o,rfl⟩;refine pL [3,8] 3 (vB (!n))<|ac<|aq ?_
 obtain rfl:=sj k;refine az (ar [vB (!n)] rfl ⟨kr,trivial⟩ ?_);exact ⟨af (bg f o nb),rfl⟩

end Go.Proofs.YtmpmeiihjnnomaaGreatDoor
