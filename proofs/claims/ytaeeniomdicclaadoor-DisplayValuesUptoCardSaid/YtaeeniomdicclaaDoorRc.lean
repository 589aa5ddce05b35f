import Derived.Test.YtaeeniomdicclaaDoorGh
import Derived.RecoverIn
set_option linter.all false
namespace Go.Gv
open Go.RowKit
section
variable {P:Program} {R:RR} {n:Nat} {k:List It} {σ:List (Nat × Value)} {w:World} {all:Array Oper} {C:World->Prop} {rest:List (Oper × Mk)}
theorem zrD {o:Oper} {d:Deferred} (hdst:o.dst=none) (hg:zzl all σ o=some true) (hk:(zzB o.op&&zzO σ o.op.operands.toList)=true) (hx:(execOp (evr σ) o).run P w= .ok (.defer d) w)
 (h:Run P { R with ds:=d::R.ds} n (.ops all C rest::k) .normal σ w):Run P R n (.ops all C ((o,none)::rest)::k) .normal σ w:=fun a hd hs b=>by
 simp only[Bool.and_eq_true]at hk
 have h1:=h { a with defers:=d::a.defers} (by rw[hd]) hs b
 rw[zom]at h1
 show (if Region.wanted o (yielded all a.tmps) then o.wp P a w (wpO P all C (nQ (K P R k)) rest) (nQ (K P R k)) else wpO P all C (nQ (K P R k)) rest (a.put o.dst undef) w)
 rw[if_pos (zyE b hg)]
 unfold Oper.wp
 rw[zxR b hk.1 hk.2,hx,Oper.upon_defer,hdst]
 exact h1
theorem zxS {P:Program} (w:World) (b:Nat) {t ty:TypeId} {v:Value} {d:TypeDesc} (hb:Box w b t #[v]) (hu:P.underlying ty=some d) (hd:(match d with | .struct _ | .array _ _=>true | _=>false)=false):
 (loadVar ty ⟨b,0,none⟩).run P w= .ok v w:=by
 have c:(isAgg ty).run P w= .ok false w:=by
  unfold isAgg
  rw[Sem.run_bind,run_underlying hu w]
  cases d<;>simp_all
 have hc:w.cell? ⟨b,0,none⟩=some v:=hb.cell 0 rfl
 have hl:(load ⟨b,0,none⟩).run P w= .ok v w:=by simp[hc]
 simp only[loadVar,Sem.run_bind,c,Result.andThen,Bool.false_eq_true,if_false]
 rw[hl]
def zov (P:Program) (f:FuncId) (cap:Array Value):Prop:=∀ w,CallsDIn (FR none) 0 P f cap .returning w fun e u' w'=>(∃ v,e= .returned v)∧u'= .returning∧w'=w
theorem zou {fn:Func} {Rr:Ending->World->Prop} {ds:List Deferred} {f g:FuncId} {cap:Array Value} (hi:∀ w,(invoke (.fn (.func f) cap) #[]).run P w= .ok (.enter g cap) w) (hc:zov P g cap)
 (h:Run P ⟨none,bodyPostM (FR none) 0 P fn Rr,ds⟩ n [] .ret σ w):Run P ⟨none,bodyPostM (FR none) 0 P fn Rr,{ target:=.fn (.func f) cap,args:= #[]}::ds⟩ n [] .ret σ w:=fun a hd hs b=>by
 show LeavesInM (FR none) 0 P fn a.tmps Rr a.defers .returning w
 rw[show a.defers={ target:=.fn (.func f) cap,args:= #[]}::ds from hd]
 refine ⟨by simp,.inr ⟨(by intro e;cases e),.func f,cap,g,cap,rfl,hi w,fun _ _=>trivial,(hc w).mono fun e u' w' ⟨⟨v,he⟩,hu,hw⟩=>?_⟩⟩
 subst he;subst hu;subst hw
 exact h { a with defers:=ds} rfl hs b
theorem zrO {f:FuncId} {fn:Func} {id:Nat} {o0 o1:Oper} {rest:Code} {cap:Array Value} {d0 d1 n:Nat} (hf:P.funcs[f]? =some fn) (hb:fn.body=some (.seq (.region id #[o0,o1] false) rest)) (hn:fn.ntmps=n)
 (hcap:cap.size<=n) (g0:o0.guard=none) (g1:o1.guard=none) (e0:o0.dst=some d0) (e1:o1.dst=some d1) (l0:d0<n) (l1:d1<n)
 (h0:∀ ρ w,(execOp ρ o0).run P w= .ok .recover w) (h1:∀ ρ w,(execOp ρ o1).run P w= .ok (.value (ρ (.tmp d0))) w)
 (h:∀ w,Run P ⟨none,bodyPost P fn (fun e w'=>(∃ v,e= .returned v)∧w'=w),[]⟩ n [.code rest] .normal [(d1,.nilIface)] w):zov P f cap:=fun w=>by
 refine callsDIn_of_wpSIn hf hb trivial fun c₀ cs hm=>?_
 have c:({ c₀ with mode:=.returning}:Frame)=c₀:=by cases c₀;cases hm;rfl
 refine wpSIn_seq (wpSIn_region ?_)
 have hr:List.range (#[o0,o1]:Array Oper).size=[0,1]:=rfl
 rw[hr]
 have d:recoverD (c₀::cs)=none:=by simp[recoverD,hm]
 have j:∀ y,Region.wanted o0 y=true:=fun y=>by unfold Region.wanted;rw[g0]
 have g:∀ y,Region.wanted o1 y=true:=fun y=>by unfold Region.wanted;rw[g1]
 simp only[wpOpsSIn,List.getElem?_toArray,List.getElem?_cons_zero,List.getElem?_cons_succ,j,g,if_true,h0,h1,d]
 refine ⟨fun _ _=>trivial,fun _ _=>trivial,?_⟩
 have b:(cap++Array.replicate (fn.ntmps-cap.size) undef).size=n:=by simp[hn];omega
 have i:∀ a:Act,a.tmps.size=n->(a.put o0.dst .nilIface).eval (.tmp d0)= .nilIface:=fun a ha=>by
  rw[e0]
  simp[Act.put,Act.eval,ha,l0]
 refine wpSIn_of_wpIn rfl ?_
 rw[i _ b,e1]
 refine wpIn_mono (h w _ (by rw[e0];rfl) (by rw[e0];simpa [Act.put] using b) ⟨?_,trivial⟩) fun e a w' hh=>?_
 ·rw[e0]
  simp only[Act.put]
  rw[Array.getElem?_setIfInBounds_self_of_lt]
  rw[Array.size_setIfInBounds,b];exact l1
 ·cases e with
  | normal=>obtain ⟨hd,v,hv,hR,hw⟩:=hh;exact ⟨hd,.returning,by rw[c],v,hv,⟨v,rfl⟩,rfl,hw⟩
  | ret=>obtain ⟨hd,v,hv,hR,hw⟩:=hh;exact ⟨hd,.returning,by rw[c],v,hv,⟨v,rfl⟩,rfl,hw⟩
  | panic ch=>obtain ⟨_,⟨v,hv⟩,_⟩:=hh;cases hv
  | outgrown=>obtain ⟨⟨v,hv⟩,_⟩:=hh;cases hv
  | exit _=>exact hh.elim
  | goto _=>exact hh.elim
def zoi (P:Program) (R:RR) (n:Nat) (k:List It) (all:Array Oper) (l:List Oper) (σ:List (Nat × Value)) (w:World):Prop:=
 ∀ a:Act,a.defers=R.ds->a.tmps.size=n->Ok σ a.tmps->wpList P all (K P R k) l a w
theorem zsx {id:Nat} {l:List Oper} (h:zoi P R n k l.toArray l σ w) (hr:R.r=none:=by rfl):Run P R n (.code (.region id l.toArray false)::k) .normal σ w:=
 fun a hd hs b=>zws hr<|wp_region_lit (h a hd hs b)
theorem zwK {Q Q':Exit->Act->World->Prop} {J:Act->World->Prop} {post:List Oper} (hQ:∀ e a w,e≠.normal->Q' e a w->Q e a w) (hJ:∀ a w,Q' .normal a w->J a w) (h2:∀ a w,J a w->wpList P all Q post a w):
 ∀ (l:List Oper) (a:Act) (w:World),wpO P all C Q' (mk0 l) a w->wpList P all Q (l++post) a w
 | [],a,w,h=>h2 a w (hJ a w h)
 | o::l,a,w,h=>by
   unfold mk0 wpO at h
   rw[List.cons_append]
   unfold wpList
   split at h
   ·rename_i hw;rw[if_pos hw];exact .inl (Oper.upon_monoQ (fun a w hh=>zwK hQ hJ h2 l _ _ hh) (fun e a w he h=>hQ e a w he h) h)
   ·rename_i hw;rw[if_neg hw];exact zwK hQ hJ h2 l _ _ h
theorem zpL {l:List Oper} (j:Nat) (h:Run P R n (.ops all (fun _=>True) (mk0 (l.take j)):: .goal (fun a w=>wpList P all (K P R k) (l.drop j) a w)::k) .normal σ w):zoi P R n k all l σ w:=fun a hd hs b=>by
 have hl:l=l.take j++l.drop j:=(List.take_append_drop j l).symm
 generalize l.take j=pre at*
 generalize l.drop j=post at*
 rw[hl]
 refine zwK (Q':=nQ (K P R (.goal (fun a w=>wpList P all (K P R k) post a w)::k))) (fun e a w he h=>?_) (fun a w h=>h) (fun a w h=>h) pre a w (h a hd hs b)
 cases e<;>first | exact absurd rfl he | exact h _ rfl | exact h.elim
theorem zof {post:List Oper} (h:zoi P R n k all post σ w):Run P R n (.goal (fun a w=>wpList P all (K P R k) post a w)::k) .normal σ w:=h
theorem zpk {post:List Oper} (h:Run P R n (.ops all C (mk0 post)::k) .normal σ w):zoi P R n k all post σ w:=fun a hd hs b=>
 zyU post a w (zz4 (fun e a w h=>by cases e<;>first | exact h | exact h _ rfl | exact h.elim) _ _ _ (h a hd hs b))
theorem ztP {o:Oper} {a:Act} {x:Operand} {xs:Array Operand} {tys:Array TypeId} {f:FuncId} {vs:List Value} (hok:Ok σ a.tmps)
 (ho:o.op= .call { callee:=.value x,args:=xs,argTypes:=tys}) (hx:ev σ x=some (.func (.func f) #[] #[])) (hxs:evs σ xs.toList=some vs) (hf:Enters P f):
 (execOp a.eval o).run P w= .ok (.enter f vs.toArray) w:=by
 obtain ⟨fn,h,c,b⟩:=hf
 have g:=zsq hok hx
 have d:xs.map a.eval=vs.toArray:=by
  have:=ztE hok hxs
  rw[<- this,<- Array.toList_map,Array.toArray_toList]
 have c : ¬ (fn.name = "runtime.NumGoroutine") := by simpa using c
 have b:¬ (fn.body=none):=fun e=>(by rw[e]at b;cases b)
 simp[execOp,ho,resolve,g,d,Deferred.ofValue,invoke,callFunc,h,c,b,program,Sem.run]
theorem zuh {o:Oper} {m:Mk} (h2:zsw n all σ o m=true):zy9 n o.dst=true∧zzl all σ o=some true:=by
 simp only[zsw,Bool.and_eq_true,Option.isNone_iff_eq_none]at h2
 obtain ⟨_,h1,h2⟩:=h2
 refine ⟨h1,?_⟩
 split at h2
 ·assumption
 ·cases h2
theorem zr2 {o:Oper} {post:List Oper} {x:Operand} {xs:Array Operand} {tys:Array TypeId} {f:FuncId} {vs:List Value} {S:Value->World->Prop} (hb:zsw n all σ o none=true)
 (ho:o.op= .call { callee:=.value x,args:=xs,argTypes:=tys}) (hx:(ev σ x,evs σ xs.toList)=(some (.func (.func f) #[] #[]),some vs)) (hf:Enters P f)
 (hc:Calls P f vs.toArray w (Ret S)) (h:∀ v w',S v w'->Run P R n (.ops all (fun _=>True) (mk0 post)::k) .normal (zwT σ o.dst v) w'):zoi P R n k all (o::post) σ w:=fun a hd hs b=>by
 obtain ⟨h1,hg⟩:=zuh hb
 obtain ⟨e1,e2⟩:=Prod.mk.inj hx
 unfold wpList
 rw[if_pos (zyE b hg)]
 refine .inl ?_
 unfold Oper.wp
 rw[ztP b ho e1 e2 hf]
 refine Calls.mono hc fun e w' he=>?_
 cases e with
 | returned v=>
   obtain ⟨g1,g2,g3⟩:=zxF (v:=v) hd hs b h1
   exact zpk (h v w' he) _ g1 g2 g3
 | panicked c=>exact he.elim
 | outgrown=>exact he.elim
theorem ztx {o:Oper} {post:List Oper} {x:Operand} {xs:Array Operand} {tys:Array TypeId} {f:FuncId} {vs:List Value} {p:Value} {T:World->Prop} (hb:zsw n all σ o none=true)
 (ho:o.op= .call { callee:=.value x,args:=xs,argTypes:=tys}) (hx:(ev σ x,evs σ xs.toList)=(some (.func (.func f) #[] #[]),some vs)) (hf:Enters P f)
 (hc:Calls P f vs.toArray w (Pan p T)) (h:∀ w',T w'->∀ a:Act,a.defers=R.ds->a.tmps.size=n->Ok σ a.tmps->R.post (.panic [{ v:=p,recovered:=false}]) a w'):zoi P R n k all (o::post) σ w:=fun a hd hs b=>by
 obtain ⟨h1,hg⟩:=zuh hb
 obtain ⟨e1,e2⟩:=Prod.mk.inj hx
 unfold wpList
 rw[if_pos (zyE b hg)]
 refine .inl ?_
 unfold Oper.wp
 rw[ztP b ho e1 e2 hf]
 refine Calls.mono hc fun e w' he=>?_
 cases e with
 | returned v=>exact he.elim
 | panicked c=>
   match c,he with
   | [c],he=>
     obtain ⟨rfl,hT⟩:=(show c=_∧T w' from he)
     exact zu1 (h w' hT a hd hs b)
 | outgrown=>exact he.elim
def zpK (P:Program) (f:FuncId) (cap:Array Value) (p:Value) (w:World) (S:World->Prop):Prop:=
 CallsDIn (FR none) 0 P f cap (.panicking [{ v:=p,recovered:=false}]) w fun e u' w'=>(∃ v,e= .returned v)∧u'= .panicking [{ v:=p,recovered:=true}]∧S w'
theorem zr1 {fn:Func} {Rr:Ending->World->Prop} {ds:List Deferred} {f g:FuncId} {cap:Array Value} {p:Value} {S:World->Prop} {a:Act} (hi:∀ w,(invoke (.fn (.func f) cap) #[]).run P w= .ok (.enter g cap) w) (hc:zpK P g cap p w S)
 (hd:a.defers={ target:=.fn (.func f) cap,args:= #[]}::ds) (hs:a.tmps.size=n) (hok:Ok σ a.tmps)
 (h:∀ w',S w'->Run P ⟨none,bodyPostM (FR none) 0 P fn Rr,ds⟩ n [] .ret σ w'):bodyPostM (FR none) 0 P fn Rr (.panic [{ v:=p,recovered:=false}]) a w:=by
 show LeavesInM (FR none) 0 P fn a.tmps Rr a.defers (.panicking [{ v:=p,recovered:=false}]) w
 rw[hd]
 refine ⟨by simp,.inr ⟨(by intro e;cases e),.func f,cap,g,cap,rfl,hi w,fun _ _=>trivial,hc.mono fun e u' w' ⟨⟨v,he⟩,hu,hS⟩=>?_⟩⟩
 subst he;subst hu
 exact h w' hS { a with defers:=ds} rfl hs hok
theorem zqt {f:FuncId} {fn:Func} {id:Nat} {o0 o1:Oper} {rest:Code} {cap:List Value} {p:Value} {S:World->Prop} {d0 d1 n:Nat} (hf:P.funcs[f]? =some fn) (hb:fn.body=some (.seq (.region id #[o0,o1] false) rest)) (hn:fn.ntmps=n)
 (hcap:cap.length<=n) (g0:o0.guard=none) (g1:o1.guard=none) (e0:o0.dst=some d0) (e1:o1.dst=some d1) (l0:d0<n) (l1:d1<n) (c0:cap.length<=d0) (c1:cap.length<=d1)
 (h0:∀ ρ w,(execOp ρ o0).run P w= .ok .recover w) (h1:∀ ρ w,(execOp ρ o1).run P w= .ok (.value (ρ (.tmp d0))) w)
 (h:Run P ⟨none,bodyPost P fn (fun e w'=>(∃ v,e= .returned v)∧S w'),[]⟩ n [.code rest] .normal ((d1,p)::zt1 0 cap) w):zpK P f cap.toArray p w S:=by
 refine callsDIn_of_wpSIn hf hb trivial fun c₀ cs hm=>?_
 refine wpSIn_seq (wpSIn_region ?_)
 have hr:List.range (#[o0,o1]:Array Oper).size=[0,1]:=rfl
 rw[hr]
 have c:recoverD (c₀::cs)=some (p,{ c₀ with mode:=.panicking [{ v:=p,recovered:=true}]}::cs):=by simp[recoverD,hm]
 have i:∀ y,Region.wanted o0 y=true:=fun y=>by unfold Region.wanted;rw[g0]
 have d:∀ y,Region.wanted o1 y=true:=fun y=>by unfold Region.wanted;rw[g1]
 simp only[wpOpsSIn,List.getElem?_toArray,List.getElem?_cons_zero,List.getElem?_cons_succ,i,d,if_true,h0,h1,c]
 refine ⟨fun _ _=>trivial,fun _ _=>trivial,?_⟩
 have b:(cap.toArray++Array.replicate (fn.ntmps-cap.toArray.size) undef).size=n:=by simp[hn];omega
 have g:∀ a:Act,a.tmps.size=n->(a.put o0.dst p).eval (.tmp d0)=p:=fun a ha=>by
  rw[e0]
  simp[Act.put,Act.eval,ha,l0]
 refine wpSIn_of_wpIn rfl ?_
 rw[g _ b,e1]
 refine wpIn_mono (h _ (by rw[e0];rfl) (by rw[e0];simpa [Act.put] using b) ⟨?_,?_⟩) fun e a w' hh=>?_
 ·rw[e0]
  simp only[Act.put]
  rw[Array.getElem?_setIfInBounds_self_of_lt]
  rw[Array.size_setIfInBounds,b];exact l1
 ·rw[e0]
  simp only[Act.put]
  refine zwl _ 0 cap fun j v hj=>?_
  obtain ⟨l,_⟩:=List.getElem?_eq_some_iff.1 hj
  rw[Nat.zero_add,Array.getElem?_setIfInBounds_ne (by omega),Array.getElem?_setIfInBounds_ne (by omega),Array.getElem?_append_left (by simpa using l)]
  simpa using hj
 ·cases e with
  | normal=>obtain ⟨hd,v,hv,hR,hw⟩:=hh;exact ⟨hd,_,rfl,v,hv,⟨v,rfl⟩,rfl,hw⟩
  | ret=>obtain ⟨hd,v,hv,hR,hw⟩:=hh;exact ⟨hd,_,rfl,v,hv,⟨v,rfl⟩,rfl,hw⟩
  | panic ch=>obtain ⟨_,⟨v,hv⟩,_⟩:=hh;cases hv
  | outgrown=>obtain ⟨⟨v,hv⟩,_⟩:=hh;cases hv
  | exit _=>exact hh.elim
  | goto _=>exact hh.elim
end
end Go.Gv
