import Derived.Test.YtaeeniomdicclaaDoorGw
set_option linter.all false
namespace Go.Gv
open Go.RowKit
def zqm (P:Program) (t:TypeId):Option Bool:=
 match P.underlying t with
 | some (.struct _) | some (.array _ _)=>some true
 | some _=>some false
 | none=>none
theorem zwF {P:Program} {t:TypeId} {b:Bool} (h:zqm P t=some b) (w:World):(isAgg t).run P w= .ok b w:=by
 unfold zqm at h
 unfold isAgg
 cases hu:P.underlying t with
 | none=>rw[hu]at h;cases h
 | some d=>
   rw[hu]at h
   simp only[run_underlying hu,Sem.run_bind,Result.andThen]
   cases d<;>cases h<;>rfl
theorem zzN {P:Program} {t:TypeId} {k:Nat} (h:(P.info? t).map (·.size)=some k) (w:World):(sizeOf t).run P w= .ok k w:=by
 cases hi:P.info? t with
 | none=>rw[hi]at h;cases h
 | some i=>
   rw[hi]at h
   cases h
   simp[sizeOf,typeInfo,hi]
def Inw (m:Mk) (C:World->Prop) (w w':World):Prop:=
 match m with
 | some true=>C w'
 | _=>w'=w
theorem inw0 {C:World->Prop} {w:World} {p:World->Prop} (h:p w):∀ w',Inw none C w w'->p w':=fun w' e=>by
 have e:w'=w:=e
 rw[e];exact h
theorem zsm {C:World->Prop} {w:World} {p:World->Prop} (h:p w):∀ w',Inw (some false) C w w'->p w':=fun w' e=>by
 cases e;exact h
theorem inw1 {C:World->Prop} {w:World} {p:World->Prop} (h:∀ w',C w'->p w'):∀ w',Inw (some true) C w w'->p w':=fun w' e=>h w' e
def zwT (σ:List (Nat × Value)):Option Nat->Value->List (Nat × Value)
 | some d,v=>put σ d v
 | none,_=>σ
def zy9 (n:Nat):Option Nat->Bool
 | some d=>Nat.blt d n
 | none=>true
theorem zxF {n:Nat} {σ:List (Nat × Value)} {a:Act} {d:Option Nat} {v:Value} {ds:List Deferred} (hd:a.defers=ds) (hs:a.tmps.size=n) (hok:Ok σ a.tmps) (hdn:zy9 n d=true):
 (a.put d v).defers=ds∧(a.put d v).tmps.size=n∧Ok (zwT σ d v) (a.put d v).tmps:=by
 cases d with
 | none=>exact ⟨hd,hs,hok⟩
 | some d=>exact zve hd hs hok (Nat.lt_of_succ_le (by simpa [zy9,Nat.blt] using hdn))
def Enters (P : Program) (f : FuncId) : Prop := ∃ fn, P.funcs[f]? = some fn ∧ (fn.name == "runtime.NumGoroutine") = false ∧ fn.body.isNone = false
def Ret (S:Value->World->Prop):Ending->World->Prop
 | .returned v,w=>S v w
 | _,_=>False
section
variable {P:Program} {R:RR} {n:Nat} {k:List It} {σ σ':List (Nat × Value)} {w:World} {all:Array Oper} {C:World->Prop} {o:Oper} {m:Mk} {rest:List (Oper × Mk)}
theorem zx4 (v:Value) (ss:List Nat) {d:Nat} (hm:m=some false->C w) (hd':o.dst=some d) (hdn:Nat.blt d n=true) (hg:zzl all σ o=some true)
 (hk:(zzB o.op&&zzO σ o.op.operands.toList)=true) (hx:∀ w',Inw m C w w'->(execOp (evr σ) o).run P w'= .ok (.value v) w')
 (hp:pk ss (put σ d v)=some σ') (h:Run P R n (.ops all C rest::k) .normal σ' w):Run P R n (.ops all C ((o,m)::rest)::k) .normal σ w:=by
 simp only[Bool.and_eq_true]at hk
 refine ztk hm hd' hdn hg (fun w' c a b=>?_) (gv_pk ss hp h)
 rw[zxR b hk.1 hk.2]
 exact hx w' c
theorem zsE {t:TypeId} {A:Addr} (v:Value) (ss:List Nat) {d:Nat} (hm:m=some false->C w) (hd':o.dst=some d) (hdn:Nat.blt d n=true) (hg:zzl all σ o=some true)
 (hk:(zzB o.op&&zzO σ o.op.operands.toList)=true) (hop:execOp (evr σ) o=(do pure (.value (<- Instr.loadAt t (.pointer (some A)))))) (ht:zqm P t=some false)
 (hc:∀ w',Inw m C w w'->w'.cell? A=some v)
 (hp:pk ss (put σ d v)=some σ') (h:Run P R n (.ops all C rest::k) .normal σ' w):Run P R n (.ops all C ((o,m)::rest)::k) .normal σ w:=
 zx4 v ss hm hd' hdn hg hk (fun w' a=>by
  rw[hop]
  simp only[Instr.loadAt,Instr.sureAddr,loadVar,Sem.run_bind,zwF ht,Result.andThen,Sem.run_pure,Bool.false_eq_true,if_false]
  have hl:(load A).run P w'= .ok v w':=by simp[hc w' a]
  rw[hl]) hp h
theorem zt8 {t:TypeId} {b:Nat} {t':TypeId} {fr:Nat × Nat} (cs:Array Value) (ss:List Nat) {d:Nat} (hm:m=some false->C w) (hd':o.dst=some d) (hdn:Nat.blt d n=true) (hg:zzl all σ o=some true)
 (hk:(zzB o.op&&zzO σ o.op.operands.toList)=true) (hop:execOp (evr σ) o=(do pure (.value (<- Instr.loadAt t (.pointer (some ⟨b,0,none⟩)))))) (ht:zqm P t=some true) (hsz:(P.info? t).map (·.size)=some cs.size)
 (hc:∀ w',Inw m C w w'->w'.heap[b]? =some (.cells cs t' fr))
 (hp:pk ss (put σ d (.agg cs))=some σ') (h:Run P R n (.ops all C rest::k) .normal σ' w):Run P R n (.ops all C ((o,m)::rest)::k) .normal σ w:=
 zx4 (.agg cs) ss hm hd' hdn hg hk (fun w' a=>by
  rw[hop]
  have hl:(loadCells ⟨b,0,none⟩ cs.size).run P w'= .ok cs w':=by
   have:=run_loadCells_list (P:=P) w' ⟨b,0,none⟩ cs.toList (fun j v hv=>by
    rw[add_lit,Nat.zero_add]
    unfold World.cell?
    rw[hc w' a]
    simpa using hv)
   simpa using this
  simp only[Instr.loadAt,Instr.sureAddr,loadVar,Sem.run_bind,zwF ht,zzN hsz,Result.andThen,Sem.run_pure,if_true,hl]) hp h
theorem zvJ {t e:TypeId} {a:Option Addr} {len cap:Nat} {kk:IntKind} {i:Int} {sz:Nat} (ss:List Nat) {d:Nat} (hm:m=some false->C w) (hd':o.dst=some d) (hdn:Nat.blt d n=true) (hg:zzl all σ o=some true)
 (hk:(zzB o.op&&zzO σ o.op.operands.toList)=true) (hop:execOp (evr σ) o=(do pure (.value (<- Instr.indexAt t (.slice a len cap) (.int kk i))))) (ht:P.underlying t=some (.slice e)) (hsz:(P.info? e).map (·.size)=some sz)
 (ha:a.isSome=true) (h0:0<=i) (h1:i<len)
 (hp:pk ss (put σ d (.pointer (some (elemAddr a (i.toNat*sz)))))=some σ') (h:Run P R n (.ops all C rest::k) .normal σ' w):Run P R n (.ops all C ((o,m)::rest)::k) .normal σ w:=
 zx4 _ ss hm hd' hdn hg hk (fun w' _=>by
  rw[hop]
  cases a with
  | none=>cases ha
  | some A=>
    have hh:0<=i∧i<(len:Int):=⟨h0,h1⟩
    simp[Instr.indexAt,asIntOf,run_underlying ht,zzN hsz,hh,elemAddr]) hp h
theorem zsO {t:TypeId} {s:ByteArray} {kk:IntKind} {i:Int} (c:Int) (ss:List Nat) {d:Nat} (hm:m=some false->C w) (hd':o.dst=some d) (hdn:Nat.blt d n=true) (hg:zzl all σ o=some true)
 (hk:(zzB o.op&&zzO σ o.op.operands.toList)=true) (hop:execOp (evr σ) o=(do pure (.value (<- Instr.index t (.string s) (.int kk i))))) (ht:P.underlying t=some .string)
 (hi:zvo s i=some c)
 (hp:pk ss (put σ d (.int .u8 c))=some σ') (h:Run P R n (.ops all C rest::k) .normal σ' w):Run P R n (.ops all C ((o,m)::rest)::k) .normal σ w:=
 zx4 _ ss hm hd' hdn hg hk (fun w' _=>by
  rw[hop]
  unfold zvo at hi
  split at hi
  ·rename_i h0
   cases hj:s.data.toList[i.toNat]? with
   | none=>rw[hj]at hi;cases hi
   | some b=>
     rw[hj]at hi
     cases hi
     have hs:s[i.toNat]? =some b:=by
      obtain ⟨hl,hb⟩:=List.getElem?_eq_some_iff.1 hj
      have a:i.toNat<s.size:=by simpa using hl
      rw[getElem?_pos s i.toNat a]
      rw[<- hb]
      rfl
     simp[Instr.index,asIntOf,run_underlying ht,h0,hs]
  ·cases hi) hp h
def lowV (lo:Option Value) (l:Int):Prop:=(lo=none∧l=0)∨∃ kk,lo=some (.int kk l)
def zpJ (hi:Option Value) (len:Nat) (h:Int):Prop:=(hi=none∧h=len)∨∃ kk,hi=some (.int kk h)
theorem zuU (isS:Bool) {lo hi:Option Value} {len cap:Nat} {l h:Int} (h1:lowV lo l) (h2:zpJ hi len h) (h0:0<=l) (hlh:l<=h) (hh:h<=len) (hc:len<=cap) (w':World):
 (Instr.sliceBounds isS len cap lo hi none).run P w'= .ok (l.toNat,h.toNat,cap) w':=by
 have a1:0<=h∧h<=(cap:Int):=⟨by omega,by omega⟩
 have a2:0<=l∧l<=(h.toNat:Int):=⟨h0,by omega⟩
 rcases h1 with ⟨rfl,rfl⟩ | ⟨k1,rfl⟩<;>rcases h2 with ⟨rfl,rfl⟩ | ⟨k2,rfl⟩
 ·simp[Instr.sliceBounds]
 ·simp[Instr.sliceBounds,Instr.sliceBound,asIntOf,a1]
 ·have a:0<=l∧l<=(len:Int):=⟨h0,hlh⟩
  simp[Instr.sliceBounds,Instr.sliceBound,asIntOf,a]
 ·have a3:¬ (max h 0<l):=by omega
  simp[Instr.sliceBounds,Instr.sliceBound,asIntOf,a1,h0,a3]
theorem zoe {t:TypeId} {s u:ByteArray} (r:ByteArray) (ss:List Nat) {d:Nat} (hm:m=some false->C w) (hd':o.dst=some d) (hdn:Nat.blt d n=true) (hg:zzl all σ o=some true)
 (hk:(zzB o.op&&zzO σ o.op.operands.toList)=true) (hop:execOp (evr σ) o=(do pure (.value (<- binOp .add t (.string s) (.string u))))) (hr:cat s u=some r)
 (hp:pk ss (put σ d (.string r))=some σ') (hrest:Run P R n (.ops all C rest::k) .normal σ' w):Run P R n (.ops all C ((o,m)::rest)::k) .normal σ w:=
 zx4 _ ss hm hd' hdn hg hk (fun w' _=>by
  rw[hop]
  unfold cat at hr
  split at hr
  ·rename_i hh
   cases hr
   have a:¬ (9223372036854775807<(s.size:Int)+(u.size:Int)):=by omega
   simp[binOp,Op.stringOp,IntKind.max,IntKind.bits,IntKind.signed,a]
  ·cases hr) hp hrest
theorem zs5 {t:TypeId} {kk:IntKind} {x y:Int} (ss:List Nat) {d:Nat} (hm:m=some false->C w) (hd':o.dst=some d) (hdn:Nat.blt d n=true) (hg:zzl all σ o=some true)
 (hk:(zzB o.op&&zzO σ o.op.operands.toList)=true) (hop:execOp (evr σ) o=(do pure (.value (<- binOp .quo t (.int kk x) (.int kk y))))) (hy:y≠0)
 (hp:pk ss (put σ d (.int kk (kk.wrap (x.tdiv y))))=some σ') (hrest:Run P R n (.ops all C rest::k) .normal σ' w):Run P R n (.ops all C ((o,m)::rest)::k) .normal σ w:=
 zx4 _ ss hm hd' hdn hg hk (fun w' _=>by rw[hop];simp[binOp,Op.intDiv,hy]) hp hrest
theorem ztd {t:TypeId} {kk:IntKind} {x y:Int} (ss:List Nat) {d:Nat} (hm:m=some false->C w) (hd':o.dst=some d) (hdn:Nat.blt d n=true) (hg:zzl all σ o=some true)
 (hk:(zzB o.op&&zzO σ o.op.operands.toList)=true) (hop:execOp (evr σ) o=(do pure (.value (<- binOp .rem t (.int kk x) (.int kk y))))) (hy:y≠0)
 (hp:pk ss (put σ d (.int kk (x.tmod y)))=some σ') (hrest:Run P R n (.ops all C rest::k) .normal σ' w):Run P R n (.ops all C ((o,m)::rest)::k) .normal σ w:=
 zx4 _ ss hm hd' hdn hg hk (fun w' _=>by rw[hop];simp[binOp,Op.intDiv,hy]) hp hrest
theorem zwX {src dst e:TypeId} {xs:List UInt8} {a:Option Addr} {cap:Nat} {X:Nat->Prop} (ss:List Nat) {d:Nat} (hm:m=some false->C w) (hd':o.dst=some d) (hdn:Nat.blt d n=true) (hg:zzl all σ o=some true)
 (hk:(zzB o.op&&zzO σ o.op.operands.toList)=true) (hop:execOp (evr σ) o=(do pure (.value (<- convert src dst (.slice a xs.length cap)))))
 (hs:P.underlying src=some (.slice e)) (he:P.underlying e=some (.int .u8)) (hd2:P.underlying dst=some .string)
 (hc:∀ w',Inw m C w w'->Rd bE w' X a cap xs)
 (hp:pk ss (put σ d (.string (strOf xs)))=some σ') (hrest:Run P R n (.ops all C rest::k) .normal σ' w):Run P R n (.ops all C ((o,m)::rest)::k) .normal σ w:=
 zx4 _ ss hm hd' hdn hg hk (fun w' f=>by
  rw[hop]
  have hr:=hc w' f
  cases xs with
  | nil=>
    cases a with
    | none=>simp[convert,run_underlying hs,run_underlying hd2,run_underlying he,Conv.bytesToString];rfl
    | some A=>
      have:=run_convert_bytes_back w' src dst e A cap [] hs he hd2 (fun j hj=>absurd hj (Nat.not_lt_zero _))
      simp only[Sem.run_bind,this,Result.andThen,Sem.run_pure]
      rfl
  | cons x xs=>
    obtain ⟨b,off,c,ha,_⟩:=hr.2 0 x rfl
    subst ha
    have:=run_convert_bytes_back w' src dst e ⟨b,off,none⟩ cap (x::xs) hs he hd2 (fun j hj=>by
     obtain ⟨b',h,c',g,_,e3,e4⟩:=hr.2 j _ (List.getElem?_eq_getElem hj)
     cases g
     have:=e4 0 (.int .u8 ((x::xs)[j]).toNat) (by rw[show c'=[_] from e3];rfl)
     rw[add_lit]at this ⊢
     simpa [bE,flat] using this)
    simp only[Sem.run_bind,this,Result.andThen,Sem.run_pure]
    rfl) hp hrest
theorem zxk (S:Value->World->Prop) (hm:m≠some true) (hdn:zy9 n o.dst=true) (hg:zzl all σ o=some true)
 (hk:(zzB o.op&&zzO σ o.op.operands.toList)=true) (hx:∃ v w',((execOp (evr σ) o).run P w= .ok (.value v) w'∨(execOp (evr σ) o).run P w= .ok .skip w'∧v=undef)∧S v w')
 (h:∀ v w',S v w'->(m=some false->C w')∧Run P R n (.ops all C rest::k) .normal (zwT σ o.dst v) w'):Run P R n (.ops all C ((o,m)::rest)::k) .normal σ w:=fun a hd hs c=>by
 simp only[Bool.and_eq_true]at hk
 obtain ⟨v,w',b,hS⟩:=hx
 obtain ⟨h1,h2,h3⟩:=zxF (v:=v) hd hs c hdn
 obtain ⟨hC,hR⟩:=h v w' hS
 have h4:=hR _ h1 h2 h3
 have f:=zyE c hg
 have d:∀ nx:Act->World->Prop,nx (a.put o.dst v) w'->o.wp P a w nx (nQ (K P R k)):=fun nx e=>by
  unfold Oper.wp
  rw[zxR c hk.1 hk.2]
  rcases b with b | ⟨b,rfl⟩
  ·rw[b];exact e
  ·rw[b];exact e
 cases m with
 | none=>
   show (if Region.wanted o (yielded all a.tmps) then _ else _)
   rw[if_pos f]
   exact d _ h4
 | some q=>
   cases q with
   | true=>exact absurd rfl hm
   | false=>
     show (if Region.wanted o (yielded all a.tmps) then _ else _)
     rw[if_pos f]
     exact d _ ⟨hC rfl,h4⟩
theorem zrh {x:Operand} {xs:Array Operand} {tys:Array TypeId} {f:FuncId} {vs cap:List Value} (S:Value->World->Prop) (hm:m≠some true) (hdn:zy9 n o.dst=true) (hg:zzl all σ o=some true)
 (ho:o.op= .call { callee:=.value x,args:=xs,argTypes:=tys}) (hx:ev σ x=some (.func (.func f) #[] cap.toArray)) (hxs:evs σ xs.toList=some vs) (hf:Enters P f)
 (hc:Calls P f (vs++cap).toArray w (Ret S))
 (h:∀ v w',S v w'->(m=some false->C w')∧Run P R n (.ops all C rest::k) .normal (zwT σ o.dst v) w'):Run P R n (.ops all C ((o,m)::rest)::k) .normal σ w:=fun a hd hs g=>by
 obtain ⟨fn,s,d,b⟩:=hf
 have l:=zyE g hg
 have r:=zsq g hx
 have i:xs.map a.eval=vs.toArray:=by
  have:=ztE g hxs
  rw[<- this,<- Array.toList_map,Array.toArray_toList]
 have d : ¬ (fn.name = "runtime.NumGoroutine") := by simpa using d
 have b:¬ (fn.body=none):=fun e=>(by rw[e]at b;cases b)
 have p:(execOp a.eval o).run P w= .ok (.enter f (vs++cap).toArray) w:=by
  simp[execOp,ho,resolve,r,i,Deferred.ofValue,invoke,callFunc,s,d,b,program,Sem.run]
 have j:∀ nx:Act->World->Prop,(∀ v w',S v w'->nx (a.put o.dst v) w')->o.wp P a w nx (nQ (K P R k)):=fun nx t=>by
  unfold Oper.wp
  rw[p]
  exact Calls.mono hc fun e w' he=>by
   cases e with
   | returned v=>exact t v w' he
   | panicked c=>exact he.elim
   | outgrown=>exact he.elim
 cases m with
 | none=>
   show (if Region.wanted o (yielded all a.tmps) then _ else _)
   rw[if_pos l]
   refine j _ fun v w' hS=>?_
   obtain ⟨h1,h2,h3⟩:=zxF (v:=v) hd hs g hdn
   exact (h v w' hS).2 _ h1 h2 h3
 | some q=>
   cases q with
   | true=>exact absurd rfl hm
   | false=>
     show (if Region.wanted o (yielded all a.tmps) then _ else _)
     rw[if_pos l]
     refine j _ fun v w' hS=>?_
     obtain ⟨h1,h2,h3⟩:=zxF (v:=v) hd hs g hdn
     exact ⟨(h v w' hS).1 rfl,(h v w' hS).2 _ h1 h2 h3⟩
def Pan (p:Value) (T:World->Prop):Ending->World->Prop
 | .panicked [c],w=>c={ v:=p,recovered:=false}∧T w
 | _,_=>False
theorem zu1 {c:List PanicEntry}:∀ {k:List It} {a:Act} {w:World},R.post (.panic c) a w->K P R k (.panic c) a w
 | [],_,_,h=>h
 | .blk _::k,a,w,h=>by show K P R k (.panic c) a w;exact zu1 h
 | .code _::k,a,w,h=>by show K P R k (.panic c) a w;exact zu1 h
 | .ops .. ::k,a,w,h=>by show K P R k (.panic c) a w;exact zu1 h
 | .any .. ::k,a,w,h=>by show K P R k (.panic c) a w;exact zu1 h
 | .goal _::k,a,w,h=>by show K P R k (.panic c) a w;exact zu1 h
def zpD {α ε:Type} (S:α->Value->World->Prop) (E:ε->Value) (T:World->Prop):α ⊕ ε->Ending->World->Prop
 | .inl r=>Ret (S r)
 | .inr p=>Pan (E p) T
theorem ztD {c:List PanicEntry} (hm:m≠some true) (hg:zzl all σ o=some true)
 (ho:∀ (a:Act),a.defers=R.ds->Ok σ a.tmps->∀ (nx:Act->World->Prop) (Q:Exit->Act->World->Prop),(∀ w',(∀ a':Act,a'.defers=R.ds->R.post (.panic c) a' w')->Q (.panic c) a w')->o.wp P a w nx Q):
 Run P R n (.ops all C ((o,m)::rest)::k) .normal σ w:=fun a hd hs b=>by
 have d:=zyE b hg
 have key:∀ nx:Act->World->Prop,o.wp P a w nx (nQ (K P R k)):=fun nx=>
  ho a hd b nx _ fun w' h a' e=>zu1 (h a' (e.trans hd))
 cases m with
 | none=>
   show (if Region.wanted o (yielded all a.tmps) then _ else _)
   rw[if_pos d]
   exact key _
 | some q=>
   cases q with
   | true=>exact absurd rfl hm
   | false=>
     show (if Region.wanted o (yielded all a.tmps) then _ else _)
     rw[if_pos d]
     exact key _
theorem gv_callPan {x:Operand} {xs:Array Operand} {tys:Array TypeId} {f:FuncId} {vs cap:List Value} (p:Value) (T:World->Prop) (hm:m≠some true) (hg:zzl all σ o=some true)
 (ho:o.op= .call { callee:=.value x,args:=xs,argTypes:=tys}) (hx:ev σ x=some (.func (.func f) #[] cap.toArray)) (hxs:evs σ xs.toList=some vs) (hf:Enters P f)
 (hc:Calls P f (vs++cap).toArray w (Pan p T))
 (h:∀ w',T w'->∀ a':Act,a'.defers=R.ds->R.post (.panic [{ v:=p,recovered:=false}]) a' w'):Run P R n (.ops all C ((o,m)::rest)::k) .normal σ w:=
 ztD (c:=[{ v:=p,recovered:=false}]) hm hg fun a hd i nx Q hQ=>by
  obtain ⟨fn,q,d,b⟩:=hf
  have l:=zsq i hx
  have g:xs.map a.eval=vs.toArray:=by
   have:=ztE i hxs
   rw[<- this,<- Array.toList_map,Array.toArray_toList]
  have d : ¬ (fn.name = "runtime.NumGoroutine") := by simpa using d
  have b:¬ (fn.body=none):=fun e=>(by rw[e]at b;cases b)
  have j:(execOp a.eval o).run P w= .ok (.enter f (vs++cap).toArray) w:=by
   simp[execOp,ho,resolve,l,g,Deferred.ofValue,invoke,callFunc,q,d,b,program,Sem.run]
  unfold Oper.wp
  rw[j]
  exact Calls.mono hc fun e w' he=>by
   cases e with
   | returned v=>exact he.elim
   | panicked c=>
     match c,he with
     | [c],he=>
       obtain ⟨rfl,hT⟩:=(show c=_∧T w' from he)
       exact hQ w' (h w' hT)
   | outgrown=>exact he.elim
theorem zqB {t:TypeId} {v:Value} (hm:m≠some true) (hg:zzl all σ o=some true)
 (hk:(zzB o.op&&zzO σ o.op.operands.toList)=true) (hop:(execOp (evr σ) o).run P w= .halt (.panic (.iface t v)) w)
 (h:∀ a':Act,a'.defers=R.ds->R.post (.panic [{ v:=.iface t v,recovered:=false}]) a' w):Run P R n (.ops all C ((o,m)::rest)::k) .normal σ w:=
 ztD (c:=[{ v:=.iface t v,recovered:=false}]) hm hg fun a hd b nx Q hQ=>by
  simp only[Bool.and_eq_true]at hk
  unfold Oper.wp
  rw[zxR b hk.1 hk.2,hop]
  exact hQ w h
theorem zww (w:World) (ob:Obj):w.grownBy (w.alloc ob) none:=World.grownBy_alloc w ob none
theorem grown_refl (w:World) (r:Option Nat):w.grownBy w r:=⟨rfl,rfl,rfl,Nat.le_refl _,fun _ _ _=>rfl⟩
theorem grown_trans {a b c:World} {r:Option Nat} (h:a.grownBy b r) (h':b.grownBy c r):a.grownBy c r:=
 ⟨h'.os.trans h.os,h'.tape.trans h.tape,h'.output.trans h.output,Nat.le_trans h.size h'.size,fun k hk hr=>(h'.block k (Nat.lt_of_lt_of_le hk h.size) hr).trans (h.block k hk hr)⟩
theorem zvn {B:Nat} {a b c:World} {r:Option Nat} (h:Below B a b) (h':b.grownBy c r) (hB:B<=b.heap.size) (hr:∀ g,r=some g->B<=g):Below B a c:=h.grown h' hB hr
theorem grown_of_below {a b:World} (h:Below a.heap.size a b):a.grownBy b none:=⟨h.os,h.tape,h.output,h.size,fun k hk _=>h.block k hk⟩
theorem zxA {a b:World} (h:a.grownBy b none):Below a.heap.size a b:=⟨h.os,h.tape,h.output,h.size,fun k hk=>h.block k hk (by simp)⟩
theorem zvL (w:World):w.grownBy w.drew none:=⟨rfl,rfl,rfl,Nat.le_refl _,fun _ _ _=>rfl⟩
theorem gv_new (f:Nat->Value) (cs:Array Value) (t:TypeId) (hm:m≠some true) (hdn:zy9 n o.dst=true) (hg:zzl all σ o=some true)
 (hk:(zzB o.op&&zzO σ o.op.operands.toList)=true) (hx:(execOp (evr σ) o).run P w= .ok (.value (f w.heap.size)) (w.alloc (.cells cs t)))
 (h:∀ b w',w.grownBy w' none->Box w' b t cs->b=w.heap.size->w'.heap.size=w.heap.size+1->(m=some false->C w')∧Run P R n (.ops all C rest::k) .normal (zwT σ o.dst (f b)) w'):
 Run P R n (.ops all C ((o,m)::rest)::k) .normal σ w:=
 zxk (fun v w'=>v=f w.heap.size∧w'=w.alloc (.cells cs t)) hm hdn hg hk ⟨_,_,.inl hx,rfl,rfl⟩ fun v w' ⟨hv,hw⟩=>by
  subst hv;subst hw
  exact h _ _ (zww w _) (heap_alloc_new w _) rfl (by simp)
def zsF (cs:Array Value) (off:Nat) (v:Value):Array Value:=(cs.toList.take off++v.cells.toList++cs.toList.drop (off+v.cells.toList.length)).toArray
theorem gv_store {t:TypeId} {b off:Nat} {v:Value} {t':TypeId} {cs:Array Value} (cs':Array Value) (hm:m≠some true) (hdn:zy9 n o.dst=true) (hg:zzl all σ o=some true)
 (hk:(zzB o.op&&zzO σ o.op.operands.toList)=true) (hop:execOp (evr σ) o=(do Instr.storeAt t (.pointer (some ⟨b,off,none⟩)) v;pure .skip))
 (hsz:(P.info? t).map (·.size)=some v.cells.size) (hone:∀ u∈v.cells.toList,u.oneCell'=true) (hfit:off+v.cells.toList.length<=cs.size) (hcs:zsF cs off v=cs')
 (hb:Box w b t' cs)
 (h:∀ w',w.grownBy w' (some b)->Box w' b t' cs'->w'.heap.size=w.heap.size->(m=some false->C w')∧Run P R n (.ops all C rest::k) .normal (zwT σ o.dst undef) w'):
 Run P R n (.ops all C ((o,m)::rest)::k) .normal σ w:=
 zxk (fun u w'=>u=undef∧w'=w.setRow b cs') hm hdn hg hk (by
  refine ⟨undef,w.setRow b cs',.inr ⟨?_,rfl⟩,rfl,rfl⟩
  rw[hop]
  have:=run_storeCells_at P b off t' v.cells.toList 0 cs w hb (by simpa using hfit) hone
  simp only[Nat.add_zero]at this
  rw[<- hcs]
  unfold zsF
  simp[Instr.storeAt,Instr.sureAddr,storeVar,zzN hsz,this]) fun u w' ⟨hu,hw⟩=>by
  subst hu;subst hw
  refine h _ ⟨rfl,rfl,rfl,by simp[World.setRow],fun k _ a=>setRow_other w b k _ (fun e=>a (by rw[e]))⟩ (setRow_heap w b cs _ t' _ hb) (by simp[World.setRow])
def zsc (P:Program) (σ:List (Nat × Value)) (w:World):List ResultVar->List Value->Prop
 | [],[]=>True
 | .tmp t::rs,v::vs=>look σ t=some v∧zsc P σ w rs vs
 | .cell s t::rs,v::vs=>(∃ A,look σ s=some (.pointer (some A))∧(loadVar t A).run P w= .ok v w)∧zsc P σ w rs vs
 | _,_=>False
def tup:List Value->Value
 | [v]=>v
 | vs=>.tuple vs.toArray
def zos (t:Array Value):ResultVar->Sem Value
 | .tmp s=>pure (t.getD s undef)
 | .cell s ty=>do loadVar ty (<- asAddr (t.getD s undef))
theorem zwj {t:Array Value} (hok:Ok σ t):∀ {rs:List ResultVar} {vs:List Value},zsc P σ w rs vs->(rs.mapM (zos t)).run P w= .ok vs w
 | [],[],_=>by simp
 | .tmp s::rs,v::vs,⟨h1,h2⟩=>by
   have hl:=hok.look h1
   have hv:(zos t (.tmp s)).run P w= .ok v w:=by simp[zos,hl]
   simp only[List.mapM_cons,Sem.run_bind,hv,Result.andThen,zwj hok h2,Sem.run_pure]
 | .cell s ty::rs,v::vs,⟨⟨A,h1,h3⟩,h2⟩=>by
   have hl:=hok.look h1
   have hv:(zos t (.cell s ty)).run P w= .ok v w:=by simp[zos,hl,asAddr,h3]
   simp only[List.mapM_cons,Sem.run_bind,hv,Result.andThen,zwj hok h2,Sem.run_pure]
theorem zvH (fn:Func) (t:Array Value):results fn t=(do
 let vs <- fn.results.mapM (zos t)
 pure (if h:vs.size=1 then vs[0] else .tuple vs)):=by
 unfold results
 congr 2
theorem gv_done {fn:Func} {Rr:Ending->World->Prop} {rs:List ResultVar} (vs:List Value) (hr:fn.results=rs.toArray) (h:zsc P σ w rs vs) (hR:Rr (.returned (tup vs)) w):
 Run P ⟨none,bodyPost P fn Rr,[]⟩ n [] .ret σ w:=fun a hd hs b=>by
 show bodyPost P fn Rr .ret a w
 refine ⟨hd,tup vs,?_,hR⟩
 have h1:=zwj b h
 rw[zvH,hr]
 simp only[List.mapM_toArray,Sem.run_bind,Sem.run_map,h1,Result.andThen,Sem.run_pure]
 match vs with
 | []=>rfl
 | [v]=>rfl
 | v::u::vs=>simp[tup]
theorem zyA {fn:Func} {Rr:Ending->World->Prop} (h:Run P ⟨none,bodyPost P fn Rr,[]⟩ n [] .ret σ w):Run P ⟨none,bodyPost P fn Rr,[]⟩ n [] .normal σ w:=h
def zt1:Nat->List Value->List (Nat × Value)
 | _,[]=>[]
 | i,v::vs=>(i,v)::zt1 (i+1) vs
theorem zwl (t:Array Value):∀ (i:Nat) (vs:List Value),(∀ j v,vs[j]? =some v->t[i+j]? =some v)->Ok (zt1 i vs) t
 | _,[],_=>trivial
 | i,v::vs,h=>⟨by simpa using h 0 v rfl,zwl t (i+1) vs fun j u hj=>by
     have:=h (j+1) u (by simpa using hj)
     rwa [show i+1+j=i+(j+1) by omega]⟩
theorem calls_run {f:FuncId} {fn:Func} {c:Code} {args:List Value} {S:Value->World->Prop} (hf:P.funcs[f]? =some fn) (hb:fn.body=some c) (hn:fn.ntmps=n) (b:Nat.ble args.length n=true)
 (h:Run P ⟨none,bodyPost P fn (Ret S),[]⟩ n [.code c] .normal (zt1 0 args) w):Calls P f args.toArray w (Ret S):=by
 refine calls_of_wp hf hb ?_
 have b:=Nat.le_of_ble_eq_true b
 refine wp_mono (wpIn_wide.1 (h _ rfl (by simp[hn];omega) (zwl _ 0 args fun j v hj=>?_))) (fun e a w hh=>?_)
 ·obtain ⟨d,_⟩:=List.getElem?_eq_some_iff.1 hj
  rw[Nat.zero_add,Array.getElem?_append_left (by simpa using d)]
  simpa using hj
 ·cases e<;>exact hh
theorem zxH {f:FuncId} {fn:Func} {c:Code} {args:List Value} {Rr:Ending->World->Prop} (hf:P.funcs[f]? =some fn) (hb:fn.body=some c) (hn:fn.ntmps=n) (b:Nat.ble args.length n=true)
 (h:Run P ⟨none,bodyPost P fn Rr,[]⟩ n [.code c] .normal (zt1 0 args) w):Calls P f args.toArray w Rr:=by
 refine calls_of_wp hf hb ?_
 have b:=Nat.le_of_ble_eq_true b
 refine wp_mono (wpIn_wide.1 (h _ rfl (by simp[hn];omega) (zwl _ 0 args fun j v hj=>?_))) (fun e a w hh=>?_)
 ·obtain ⟨d,_⟩:=List.getElem?_eq_some_iff.1 hj
  rw[Nat.zero_add,Array.getElem?_append_left (by simpa using d)]
  simpa using hj
 ·cases e<;>exact hh
end
def Cls (w0:World) (M:List Nat) (w':World):Prop:=w0.heap.size<=w'.heap.size∧∀ k,k<w0.heap.size->k∉M->w'.heap[k]? =w0.heap[k]?
theorem Cls.refl (w:World) (M:List Nat):Cls w M w:=⟨Nat.le_refl _,fun _ _ _=>rfl⟩
theorem Cls.drew (w:World) (M:List Nat):Cls w M w.drew:=⟨Nat.le_refl _,fun _ _ _=>rfl⟩
theorem Cls.grown {w0 w w':World} {M:List Nat} {row:Option Nat} (h:Cls w0 M w) (hg:w.grownBy w' row) (hr:∀ g,row=some g->g∈M∨w0.heap.size<=g):Cls w0 M w':=
 ⟨Nat.le_trans h.1 hg.size,fun k hk hM=>(hg.block k (Nat.lt_of_lt_of_le hk h.1) fun e=>by
   rcases hr k e.symm with h1 | h1
   ·exact hM h1
   ·omega).trans (h.2 k hk hM)⟩
theorem Cls.box {w0 w':World} {M:List Nat} (h:Cls w0 M w') {b:Nat} {t:TypeId} {cs:Array Value} (hb:Box w0 b t cs) (hM:b∉M):Box w' b t cs:=by
 unfold Box
 rw[h.2 b hb.lt hM]
 exact hb
theorem Cls.rd {α:Type} {E:Enc α} {w0 w':World} {M:List Nat} {X:Nat->Prop} {a:Option Addr} {cap:Nat} {xs:List α} (h:Cls w0 M w') (hr:Rd E w0 X a cap xs) (hX:∀ k,X k->k<w0.heap.size) (hM:∀ g∈M,¬ X g):
 Rd E w' X a cap xs:=hr.keep fun k hk=>h.2 k (hX k hk) fun hm=>hM k hm hk
theorem zzU (P:Program) (g o:Nat) (t:TypeId) (fz:Nat × Nat):∀ (vs:List Value) (i:Nat) (cur:Array Value) (w:World),w.heap[g]? =some (.cells cur t fz)->(fz=(0,0)∨o+i+vs.length<=fz.1)->o+i+vs.length<=cur.size->(∀ v∈vs,v.oneCell'=true)->
 (storeCells ⟨g,o,none⟩ vs i).run P w= .ok () (w.setRow g (cur.toList.take (o+i)++vs++cur.toList.drop (o+i+vs.length)).toArray)
 | [],i,cur,w,hg,_,_,_=>by
   simp only[storeCells,List.append_nil,List.length_nil,Nat.add_zero,List.take_append_drop,Array.toArray_toList]
   rw[setRow_self w g cur t fz hg]
   rfl
 | v::rest,i,cur,w,hg,a,hl,h1=>by
   have hi:o+i<cur.size:=by simp at hl;omega
   have d:(⟨g,o,none⟩:Addr).add i=⟨g,o+i,none⟩:=by unfold Addr.add;split<;>simp_all
   have b:w.cell? ⟨g,o+i,none⟩=some cur[o+i]:=by simp[World.cell?,hg,hi]
   have c:w.frozen? ⟨g,o+i,none⟩=false:=by
    obtain ⟨lo,hi'⟩:=fz
    simp only[World.frozen?,hg,Bool.and_eq_false_iff,decide_eq_false_iff_not]
    rcases a with a | a
    ·cases a;right;omega
    ·simp only[List.length_cons]at a;left;omega
   have f:(store ((⟨g,o,none⟩:Addr).add i) v).run P w= .ok () (w.setRow g (cur.setIfInBounds (o+i) v)):=by
    rw[d,run_store P w _ v _ (h1 v (by simp)),b]
    simp[c,setCell_eq_setRow w g (o+i) cur t fz v hg]
   have ih:=zzU P g o t fz rest (i+1) (cur.setIfInBounds (o+i) v) (w.setRow g (cur.setIfInBounds (o+i) v)) (setRow_heap w g cur _ t _ hg) (by rcases a with h | h;· exact .inl h
                                                                                                                                              ·exact .inr (by simp only[List.length_cons]at h;omega)) (by simp at hl ⊢;omega) (fun x hx=>h1 x (by simp[hx]))
   simp only[storeCells,Sem.run_bind,f,Result.andThen_ok,ih,setRow_setRow]
   congr 3
   have e:=list_seg_step cur.toList (o+i) v rest (by simp at hl ⊢;omega)
   simpa [Array.toList_setIfInBounds,Nat.add_assoc] using e
theorem zw5 {P:Program} (w:World) (t ty e:TypeId) (i:TypeInfo) (ht:P.underlying t=some (.slice e)) (hi:P.info? e=some i)
 (g sLen sCap:Nat) (cur:Array Value) {fz:Nat × Nat} (hg:w.heap[g]? =some (.cells cur e fz)) (hfz:fz=(0,0)∨cur.size<=fz.1)
 (a:Addr) (m c:Nat) (news:List Value) (hl:news.length=m*i.size) (hnews:∀ j u,news[j]? =some u->w.cell? (a.add j)=some u) (h1:∀ u∈news,u.oneCell'=true)
 (hroom:sLen+m<=sCap) (hfit:sLen*i.size+news.length<=cur.size):
 (Builtin.append_ #[t,t] ty #[.slice (some ⟨g,0,none⟩) sLen sCap,.slice (some a) m c]).run P w=
   .ok (.slice (some ⟨g,0,none⟩) (sLen+m) sCap) (w.setRow g (cur.toList.take (sLen*i.size)++news++cur.toList.drop (sLen*i.size+news.length)).toArray):=by
 have hf:=run_firstCells_some (P:=P) w i.size m a m c news hl hnews
 have b:=zzU P g (sLen*i.size) e fz news 0 cur w hg (by rcases hfz with h | h;· exact .inl h
                                                        ·exact .inr (by omega)) (by simpa using hfit) h1
 simp only[Nat.add_zero]at b
 simp[Builtin.append_,run_underlying ht,sizeOf,typeInfo,hi,Builtin.lenOf,hroom,hf,Addr.add_lit,b]
theorem zxt {P:Program} (w:World) (t ty e:TypeId) (i:TypeInfo) (z:Value) (ht:P.underlying t=some (.slice e)) (hi:P.info? e=some i) (hz:i.zero=some z) (hzs:z.cells.size=i.size) (hsz:0<i.size)
 (a:Option Addr) (nn cap:Nat) (fl:List Value) (hown:zy0 w e i.size (.slice a nn cap) nn fl)
 (ax:Option Addr) (mm cx:Nat) (news:List Value) (hl:news.length=mm*i.size) (hnews:∀ j u,news[j]? =some u->∃ A,ax=some A∧w.cell? (A.add j)=some u) (h1:∀ u∈news,u.oneCell'=true)
 (h63:nn+mm<=4294967296) (hbytes:i.bytes<=32768):
 ∃ a' f w',(Builtin.append_ #[t,t] ty #[.slice a nn cap,.slice ax mm cx]).run P w= .ok (.slice a' (nn+mm) f) w'∧zy0 w' e i.size (.slice a' (nn+mm) f) (nn+mm) (fl++news)∧
   w.grownBy w' (blk a)∧(blk a'=blk a∨∃ g,blk a'=some g∧w.heap.size<=g):=by
 have ab:(nn+mm)*i.bytes<=140737488355328:=Nat.le_trans (Nat.mul_le_mul h63 hbytes) (by decide)
 have d:(fl++news).length=(nn+mm)*i.size:=by rw[List.length_append,hown.1,hl,Nat.add_mul]
 by_cases aa:mm=0
 ·subst aa
  have hn:news=[]:=List.eq_nil_of_length_eq_zero (by simpa using hl)
  subst hn
  have ae:nn<=cap:=by
   rcases hown.2 with ⟨hv,hn⟩ | ⟨g,f,cur,fz,hv,_,_,x,_⟩
   ·omega
   ·cases hv;exact x
  refine ⟨a,cap,w,?_,by simpa using hown,grown_refl w _,.inl rfl⟩
  cases a<;>cases ax<;>simp[Builtin.append_,run_underlying ht,sizeOf,typeInfo,hi,Builtin.lenOf,ae,Builtin.firstCells,loadCells,loadCellsFrom,storeCells]
 ·have q:0<mm:=Nat.pos_of_ne_zero aa
  have af:0<news.length:=by rw[hl];exact Nat.mul_pos q hsz
  obtain ⟨A,rfl,_⟩:=hnews 0 news[0] (List.getElem?_eq_getElem af)
  have b:∀ j u,news[j]? =some u->w.cell? (A.add j)=some u:=fun j u hj=>by
   obtain ⟨A',e,h⟩:=hnews j u hj
   cases e
   exact h
  have grown:∀ (old:Nat),∀ (y:Option Nat),
   zy0 (w.drew.alloc (.cells (fl.toArray++news.toArray++Builtin.zeroCells z.cells (grownCap w (nn+mm) old e-(nn+mm))) e)) e i.size
    (.slice (some ⟨w.heap.size,0,none⟩) (nn+mm) (grownCap w (nn+mm) old e)) (nn+mm) (fl++news)∧
   w.grownBy (w.drew.alloc (.cells (fl.toArray++news.toArray++Builtin.zeroCells z.cells (grownCap w (nn+mm) old e-(nn+mm))) e)) y:=by
   intro old y
   have ag:=grownCap_ge w (nn+mm) old e
   have p:grownCap w (nn+mm) old e<=maxLen:=grownCap_le_maxLen w (nn+mm) old e (by unfold maxLen;omega)
   refine ⟨⟨d,.inr ⟨w.heap.size,_,_,(0,0),rfl,.inl rfl,heap_alloc_new w.drew _,ag,p,?_,?_⟩⟩,⟨rfl,rfl,rfl,by simp,fun k hk _=>heap_alloc_old w.drew _ hk⟩⟩
   ·simp only[Array.size_append,List.size_toArray,size_zeroCells,hzs,hown.1,hl,<- Nat.add_mul]
    congr 1
    omega
   ·simp only[Array.toList_append,List.append_assoc]
    rw[<- List.append_assoc,<- d]
    exact List.take_left
  rcases hown.2 with ⟨hv,hn0⟩ | ⟨g,f,cur,fz,hv,ac,hg,x,p,v,s⟩
  ·cases hv
   have hx:fl=[]:=List.eq_nil_of_length_eq_zero (by simpa using hown.1)
   subst hx
   have hr:=run_append_nil (P:=P) w t ty e i z ht hi hz A mm cx news hl b q (by omega) (by simp only[Nat.zero_add]at ab;omega)
   have c:=grown 0 (blk none)
   simp only[Nat.zero_add,List.nil_append,Array.empty_append]at c ⊢
   exact ⟨_,_,_,hr,c.1,c.2,.inr ⟨w.heap.size,rfl,Nat.le_refl _⟩⟩
  ·cases hv
   by_cases l:nn+mm<=cap
   ·have ad:nn*i.size+news.length<=cur.size:=by rw[hl,v,<- Nat.add_mul];exact Nat.mul_le_mul_right _ l
    have hr:=zw5 (P:=P) w t ty e i ht hi g nn cap cur hg (by rw[v];exact ac) A mm cx news hl b h1 l ad
    refine ⟨_,_,_,hr,⟨d,.inr ⟨g,cap,_,fz,rfl,ac,setRow_heap w g cur _ e _ hg,l,p,?_,?_⟩⟩,⟨rfl,rfl,rfl,by simp,fun k _ hk=>setRow_other w g k _ (fun e=>hk (by simp[blk,e]))⟩,.inl rfl⟩
    ·simp only[List.size_toArray,List.length_append,List.length_take,List.length_drop,Array.length_toList]
     omega
    ·rw[s,<- d]
     exact List.take_left
   ·have r:∀ j u,fl[j]? =some u->w.cell? ((⟨g,0,none⟩:Addr).add j)=some u:=hown.cells (g:=g) rfl
    have hr:=run_append_grow (P:=P) w t ty e i z ht hi hz ⟨g,0,none⟩ nn cap fl hown.1 r A mm cx news hl b (by omega) (by omega) (growslice_fits (by omega) ab)
    have c:=grown cap (blk (some ⟨g,0,none⟩))
    exact ⟨_,_,_,hr,c.1,c.2,.inr ⟨w.heap.size,rfl,Nat.le_refl _⟩⟩
def zx1 (P:Program) (e:TypeId) (sz:Nat):Prop:=∃ i z,P.info? e=some i∧i.zero=some z∧z.cells.size=sz∧i.size=sz∧0<sz∧i.bytes<=32768
theorem zvR {P:Program} {e:TypeId} {z:Value} {sz bytes:Nat} (h:(P.info? e).map (fun i=>(i.zero,i.size,i.bytes))=some (some z,sz,bytes)) (h1:Nat.beq z.cells.size sz=true) (h2:Nat.blt 0 sz=true) (h3:Nat.ble bytes 32768=true):zx1 P e sz:=by
 obtain ⟨i,hi,hz,hs,hb⟩:=info_parts h
 exact ⟨i,z,hi,hz,Nat.eq_of_beq_eq_true h1,hs,Nat.lt_of_succ_le (Nat.le_of_ble_eq_true h2),by rw[hb];exact Nat.le_of_ble_eq_true h3⟩
theorem zvq {α:Type} {xs ys zs:List α} (h:app xs ys=some zs):xs.length+ys.length<=4294967296∧zs=xs++ys:=by
 unfold app at h
 split at h
 ·rename_i hh;cases h;exact ⟨hh,rfl⟩
 ·cases h
theorem Rd.news {α:Type} {E:Enc α} {w:World} {X:Nat->Prop} {a:Option Addr} {cap:Nat} {ys:List α} (h:Rd E w X a cap ys) (hn:0<E.n):
 ∃ news:List Value,news.length=ys.length*E.n∧(∀ j u,news[j]? =some u->∃ A,a=some A∧w.cell? (A.add j)=some u)∧(∀ u∈news,u.oneCell'=true)∧
   ∀ i x,ys[i]? =some x->E.rep w X ((news.drop (i*E.n)).take E.n) x:=by
 have key:∀ m,m<=ys.length->∃ news:List Value,news.length=m*E.n∧(∀ j u,news[j]? =some u->∃ A,a=some A∧w.cell? (A.add j)=some u)∧(∀ u∈news,u.oneCell'=true)∧
  ∀ i x,i<m->ys[i]? =some x->E.rep w X ((news.drop (i*E.n)).take E.n) x:=by
  intro m
  induction m with
  | zero=>intro _;exact ⟨[],by simp,fun j u hj=>by simp at hj,fun u hu=>(by cases hu),fun i x hi _=>absurd hi (Nat.not_lt_zero _)⟩
  | succ m ih=>
    intro hm
    obtain ⟨news,n1,n2,n3,n4⟩:=ih (by omega)
    have d:m<ys.length:=by omega
    obtain ⟨b,off,c,ea,_,ec,hc⟩:=h.2 m _ (List.getElem?_eq_getElem d)
    have f:=E.len ec
    refine ⟨news++c,by rw[List.length_append,n1,f,Nat.add_mul,Nat.one_mul],fun j u hj=>?_,fun u hu=>?_,fun i x hi hx=>?_⟩
    ·rcases Nat.lt_or_ge j news.length with hj' | hj'
     ·rw[List.getElem?_append_left hj']at hj;exact n2 j u hj
     ·rw[List.getElem?_append_right hj']at hj
      refine ⟨⟨b,off,none⟩,ea,?_⟩
      have:=hc _ _ hj
      rw[add_lit]at this ⊢
      rw[show off+m*E.n+(j-news.length)=off+j by omega]at this
      exact this
    ·rcases List.mem_append.1 hu with hu | hu
     ·exact n3 u hu
     ·exact E.one ec u hu
    ·by_cases g:i=m
     ·subst g
      rw[<- n1,List.drop_left,<- f,List.take_length]
      have:ys[i]=x:=by
       rw[List.getElem?_eq_getElem d]at hx
       exact Option.some.inj hx
      rw[<- this]
      exact ec
     ·have e:i<m:=by omega
      have hle:i*E.n+E.n<=news.length:=by
       rw[n1,<- Nat.succ_mul]
       exact Nat.mul_le_mul_right _ e
      rw[List.drop_append_of_le_length (by omega),List.take_append_of_le_length (by rw[List.length_drop];omega)]
      exact n4 i x e hx
 obtain ⟨news,n1,n2,n3,n4⟩:=key ys.length (Nat.le_refl _)
 exact ⟨news,n1,n2,n3,fun i x hx=>n4 i x (List.getElem?_eq_some_iff.1 hx).1 hx⟩
section
variable {P:Program} {R:RR} {n:Nat} {k:List It} {σ σ':List (Nat × Value)} {w:World} {all:Array Oper} {C:World->Prop} {o:Oper} {m:Mk} {rest:List (Oper × Mk)}
theorem gv_append {α:Type} (E:Enc α) {t ty e:TypeId} {a ax:Option Addr} {cap cx:Nat} {xs ys:List α} (zs:List α) {X Y:Nat->Prop} (hm:m≠some true) (hdn:zy9 n o.dst=true) (hg:zzl all σ o=some true)
 (hk:(zzB o.op&&zzO σ o.op.operands.toList)=true) (hop:execOp (evr σ) o=(do pure (.value (<- Builtin.append_ #[t,t] ty #[.slice a xs.length cap,.slice ax ys.length cx]))))
 (ht:P.underlying t=some (.slice e)) (hi':zx1 P e E.n) (hown:Own E e w X a cap xs) (hx:Rd E w Y ax cx ys) (hr:app xs ys=some zs)
 (h1:(∀ k,Y k->X k)∨(∀ w X Y c x,E.rep w X c x->E.rep w Y c x)) (h2:∀ k,X k->k<w.heap.size)
 (h:∀ a' b w',w.grownBy w' (blk a)->Own E e w' X a' b zs->(blk a'=blk a∨∃ g,blk a'=some g∧w.heap.size<=g)->
   (m=some false->C w')∧Run P R n (.ops all C rest::k) .normal (zwT σ o.dst (.slice a' zs.length b)) w'):
 Run P R n (.ops all C ((o,m)::rest)::k) .normal σ w:=by
 obtain ⟨i,z,g1,g2,g3,g4,g5,g6⟩:=hi'
 obtain ⟨hb,rfl⟩:=zvq hr
 obtain ⟨fl,o1,o2,o3⟩:=hown
 obtain ⟨news,n1,n2,n3,n4⟩:=hx.news g5
 rw[<- g4]at o1 n1
 obtain ⟨a',b,w',ab,aa,y,r⟩:=zxt (P:=P) w t ty e i z ht g1 g2 (by rw[g3,g4]) (by rw[g4];exact g5) a xs.length cap fl o1 ax ys.length cx news n1 n2 n3 hb g6
 refine zxk (fun v s=>v= .slice a' (xs++ys).length b∧s=w') hm hdn hg hk ⟨_,w',.inl ?_,rfl,rfl⟩ fun v s ⟨hv,hw⟩=>?_
 ·rw[hop]
  simp only[Sem.run_bind,ab,Result.andThen,Sem.run_pure,List.length_append]
 ·subst hv;subst hw
  refine h a' b _ y ⟨fl++news,by rw[List.length_append,<- g4];exact aa,fun j x hj=>?_,fun g l=>?_⟩ r
  ·have d:∀ kk,X kk->s.heap[kk]? =w.heap[kk]?:=fun kk h3=>y.block kk (h2 kk h3) fun e=>o3 kk e.symm h3
   have p:fl.length=xs.length*E.n:=by rw[<- g4];exact o1.1
   rcases Nat.lt_or_ge j xs.length with hj' | hj'
   ·rw[List.getElem?_append_left hj']at hj
    have hle:j*E.n+E.n<=fl.length:=by
     rw[p,<- Nat.succ_mul]
     exact Nat.mul_le_mul_right _ hj'
    rw[List.drop_append_of_le_length (by omega),List.take_append_of_le_length (by rw[List.length_drop];omega)]
    exact E.keep (o2 j x hj) d
   ·rw[List.getElem?_append_right hj']at hj
    have q:=n4 _ _ hj
    have u:(fl++news).drop (j*E.n)=news.drop ((j-xs.length)*E.n):=by
     rw[List.drop_append,List.drop_eq_nil_of_le (by rw[p];exact Nat.mul_le_mul_right _ hj'),List.nil_append,p,<- Nat.sub_mul]
    rw[u]
    rcases h1 with f | f
    ·exact E.keep (E.wide q f) d
    ·exact E.keep (f _ _ X _ _ q) d
  ·rcases r with hb' | ⟨g',hb',hge⟩
   ·rw[hb']at l;exact o3 g l
   ·rw[hb']at l;cases l;exact fun hx=>absurd (h2 _ hx) (by omega)
end
end Go.Gv
