import Derived.Test.YtaeeniomdicclaaDoorGh
set_option linter.all false
namespace Go.Gv
open Go
def Tot {α:Type} (f:Nat->Option α) (Q:α->Prop):Prop:=∃ a,Q a∧∃ N,∀ n,N<=n->f n=some a
theorem Tot.ret {α:Type} {Q:α->Prop} {a:α} (h:Q a):Tot (fun _=>some a) Q:=⟨a,h,0,fun _ _=>rfl⟩
theorem Tot.mono {α:Type} {f:Nat->Option α} {Q Q':α->Prop} (h:Tot f Q) (hq:∀ a,Q a->Q' a):Tot f Q':=by
 obtain ⟨a,ha,N,hN⟩:=h
 exact ⟨a,hq a ha,N,hN⟩
theorem Tot.bind {α β:Type} {f:Nat->Option α} {g:Nat->α->Option β} {Q:β->Prop} (h:Tot f (fun a=>Tot (fun n=>g n a) Q)):Tot (fun n=>(f n).bind (g n)) Q:=by
 obtain ⟨a,⟨b,hb,M,hM⟩,N,hN⟩:=h
 refine ⟨b,hb,max M N,fun n hn=>?_⟩
 simp only[hN n (by omega),Option.bind_some]
 exact hM n (by omega)
theorem Tot.bindq {α β:Type} {f:Nat->Option α} {g:Nat->α->Option β} {Q:β->Prop} {P:α->Prop} (h:Tot f P) (k:∀ a,P a->Tot (fun n=>g n a) Q):Tot (fun n=>(f n).bind (g n)) Q:=
 Tot.bind (h.mono k)
theorem Tot.bind0 {α β:Type} {x:Option α} {g:Nat->α->Option β} {Q:β->Prop} {a:α} (h:x=some a) (k:Tot (fun n=>g n a) Q):Tot (fun n=>x.bind (g n)) Q:=by
 subst h;exact k
theorem Tot.some_bind {α β:Type} {g:Nat->α->Option β} {Q:β->Prop} {a:α} (k:Tot (fun n=>g n a) Q):Tot (fun n=>(some a).bind (g n)) Q:=k
theorem Tot.ite {α:Type} {f g:Nat->Option α} {Q:α->Prop} {c:Bool} (ht:c=true->Tot f Q) (hf:c=false->Tot g Q):Tot (fun n=>if c=true then f n else g n) Q:=by
 cases c with
 | true=>exact ht rfl
 | false=>exact hf rfl
theorem Tot.it {α:Type} {f g:Nat->Option α} {Q:α->Prop} {c:Bool} (hc:c=true) (h:Tot f Q):Tot (fun n=>if c=true then f n else g n) Q:=by subst hc;exact h
theorem Tot.if_ {α:Type} {f g:Nat->Option α} {Q:α->Prop} {c:Bool} (hc:c=false) (h:Tot g Q):Tot (fun n=>if c=true then f n else g n) Q:=by subst hc;exact h
theorem zry {τ ρ:Type} {F:τ->Option (τ ⊕ ρ)} {m:Nat} {st st':τ} (h:F st=some (.inl st')):zzj F (m+1) st=zzj F m st':=by
 simp only[zzj,h]
theorem zsG {τ ρ:Type} {F:τ->Option (τ ⊕ ρ)} {m:Nat} {st:τ} {r:ρ} (h:F st=some (.inr r)):zzj F (m+1) st=some r:=by
 simp only[zzj,h]
theorem Tot.loop {τ ρ:Type} {F:Nat->τ->Option (τ ⊕ ρ)} {Q:ρ->Prop} (I:τ->Prop) (μ:τ->Nat) {st0:τ} (h0:I st0)
 (hF:∀ st,I st->Tot (fun n=>F n st) (fun x=>match x with | .inl st'=>I st'∧μ st'<μ st | .inr r=>Q r)):Tot (fun n=>zzj (F n) n st0) Q:=by
 have key:∀ (M:Nat) (st:τ),μ st<M->I st->∃ r,Q r∧∃ N,∀ n,N<=n->∀ m,M<=m->zzj (F n) m st=some r:=by
  intro M
  induction M with
  | zero=>intro st h;omega
  | succ M ih=>
    intro st hm hI
    obtain ⟨x,hx,N,hN⟩:=hF st hI
    cases x with
    | inr r=>
      refine ⟨r,hx,N,fun n hn m a=>?_⟩
      obtain ⟨m',rfl⟩:∃ m',m=m'+1:=⟨m-1,by omega⟩
      exact zsG (hN n hn)
    | inl st'=>
      obtain ⟨b,hlt⟩:=hx
      obtain ⟨r,hr,N',c⟩:=ih st' (by omega) b
      refine ⟨r,hr,max N N',fun n hn m a=>?_⟩
      obtain ⟨m',rfl⟩:∃ m',m=m'+1:=⟨m-1,by omega⟩
      rw[zry (hN n (by omega))]
      exact c n (by omega) m' (by omega)
 obtain ⟨r,hr,N,hN⟩:=key (μ st0+1) st0 (by omega) h0
 exact ⟨r,hr,max N (μ st0+1),fun n hn=>hN n (by omega) n (by omega)⟩
theorem Tot.contl {τ ρ:Type} {f:Nat->τ->Option ρ} {st:τ} {Q:ρ->Prop} (h:Tot (fun n=>f n st) Q):Tot (fun n=>cont (f n) (.inl st)) Q:=h
theorem Tot.contr {τ ρ:Type} {f:Nat->τ->Option ρ} {x:ρ} {Q:ρ->Prop} (h:Q x):Tot (fun n=>cont (f n) (.inr x)) Q:=Tot.ret h
theorem Tot.pcase {τ ε ρ:Type} {f:Nat->τ->Option ρ} {g:Nat->ε->Option ρ} {q:τ ⊕ ε} {Q:ρ->Prop} (hl:∀ x,q= .inl x->Tot (fun n=>f n x) Q) (hr:∀ p,q= .inr p->Tot (fun n=>g n p) Q):Tot (fun n=>Gv.pcase (f n) (g n) q) Q:=by
 cases q with
 | inl x=>exact hl x rfl
 | inr p=>exact hr p rfl
theorem Tot.of_all {α:Type} {f:Nat->Option α} {Q:α->Prop} {a:α} (N:Nat) (h:∀ k,f (k+N)=some a) (hq:Q a):Tot f Q:=
 ⟨a,hq,N,fun n hn=>by have:=h (n-N);rwa [Nat.sub_add_cancel hn]at this⟩
theorem Tot.some {α:Type} {f:Nat->Option α} {a:α} (h:Tot f (· =a)):∃ N,f N=some a:=by
 obtain ⟨b,rfl,N,hN⟩:=h
 exact ⟨N,hN N (Nat.le_refl _)⟩
theorem Tot.and {α:Type} {f:Nat->Option α} {P Q:α->Prop} (h:Tot f P) (h':Tot f Q):Tot f (fun a=>P a∧Q a):=by
 obtain ⟨a,ha,N,hN⟩:=h
 obtain ⟨b,hb,M,hM⟩:=h'
 have e1:=hN (max N M) (by omega)
 have e2:=hM (max N M) (by omega)
 rw[e1]at e2
 cases e2
 exact ⟨a,⟨ha,hb⟩,N,hN⟩
theorem Tot.foldO {A τ:Type} {F:Nat->τ->A->Option τ} {l:List A} (J:List A->τ->Prop)
 (hF:∀ m st x,(∀ y∈m,y∈l)->J m st->x∈l->m.length<l.length->Tot (fun n=>F n st x) (J (m++[x]))):
 ∀ (r pre:List A) (st:τ),J pre st->(∀ y∈pre,y∈l)->(∀ y∈r,y∈l)->pre.length+r.length<=l.length->Tot (fun n=>foldO (F n) st r) (J (pre++r))
 | [],pre,st,h,_,_,_=>Tot.ret (by simpa using h)
 | x::r,pre,st,h,hp,hr,hl=>by
   simp only[List.length_cons]at hl
   show Tot (fun n=>(F n st x).bind fun a=>Gv.foldO (F n) a r) _
   refine Tot.bindq (hF pre st x hp h (hr x (List.mem_cons_self ..)) (by omega)) fun a h'=>?_
   have:=Tot.foldO J hF r (pre++[x]) a h' (fun y hy=>(List.mem_append.1 hy).elim (hp y) (fun e=>by simp at e;subst e;exact hr _ (List.mem_cons_self ..))) (fun y hy=>hr y (List.mem_cons_of_mem _ hy)) (by simp;omega)
   simpa using this
def inK (k:IntKind) (n:Int):Prop:=(Lit.int k n).wf=true
theorem zvw (x:Int):IntKind.u64.wrap x=x%18446744073709551616:=by
 simp[IntKind.wrap,IntKind.signed,IntKind.bits]
theorem zte (x:Int):IntKind.u32.wrap x=x%4294967296:=by
 simp[IntKind.wrap,IntKind.signed,IntKind.bits]
theorem zsN (x:Int):IntKind.u8.wrap x=x%256:=by
 simp[IntKind.wrap,IntKind.signed,IntKind.bits]
theorem zxG {x:Int} (h: -9223372036854775808<=x) (h':x<=9223372036854775807):IntKind.i64.wrap x=x:=by
 simp[IntKind.wrap,IntKind.signed,IntKind.bits]
 omega
theorem ztZ {α:Type} {xs:List α} {i:Int} (h0:0<=i) (h1:i<xs.length):idx xs i=some (xs[i.toNat]'(by omega)):=by
 unfold idx
 rw[if_pos h0]
 exact List.getElem?_eq_getElem _
theorem zzt {α:Type} {xs ys:List α} (h:xs.length+ys.length<=4294967296):app xs ys=some (xs++ys):=by
 unfold app;rw[if_pos h]
theorem zpz {α:Type} {xs:List α} {l h:Int} (h0:0<=l) (h1:l<=h) (h2:h<=xs.length):sub xs l h=some ((xs.take h.toNat).drop l.toNat):=by
 unfold sub;rw[if_pos ⟨h0,h1,h2⟩]
theorem om {p:Prop} (h:p:=by omega):p:=h
theorem ddc {p:Prop} (h:p:=by decide):p:=h
theorem osm {p:Prop} (h:p:=by simp only;omega):p:=h
theorem oss {p:Prop} (h:p:=by simp;omega):p:=h
theorem odt {p:Prop} [Decidable p] (h:decide p=true):p:=of_decide_eq_true h
theorem odf {p:Prop} [Decidable p] (h:decide p=false):¬ p:=of_decide_eq_false h
theorem dtt {p:Prop} [Decidable p] (h:p):decide p=true:=decide_eq_true h
theorem dff {p:Prop} [Decidable p] (h:¬ p):decide p=false:=decide_eq_false h
end Go.Gv
