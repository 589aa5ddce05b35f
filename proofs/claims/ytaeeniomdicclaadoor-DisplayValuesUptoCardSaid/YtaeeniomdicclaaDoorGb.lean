import Derived.Test.YtaeeniomdicclaaDoorGa
set_option linter.all false
namespace Go.Gv
open Go.RowKit
structure Thr where
 i:Nat
 d:Nat
 ty:TypeId
 z:Array Value
 s:Option (Nat × Nat)
def zv6:List Thr->List Nat->List Nat
 | t::ts,u::us=>(match u with
   | 0=>[]
   | 1=>[t.i]
   | _=>match t.s with
     | some (s,_)=>[t.i,s]
     | none=>[t.i])++zv6 ts us
 | _,_=>[]
def zus:List (Nat × List Nat)->List Nat
 | []=>[]
 | (m,qs)::r=>m::(qs++zus r)
def zrY (len:Nat) (q0:List Nat) (mains:List (Nat × List Nat)) (thr:List Thr) (p:Nat) (us:List Nat):Array Bool:=
 ztb (q0++(zus (mains.take p)++zv6 thr us)) (Array.replicate len false)
def zsu (last:Bool):List Thr->List (List Nat)
 | []=>[[]]
 | t::ts=>(zsu last ts).flatMap fun us=>(if last&&t.s.isSome then [[0],[1],[2]] else [[0],[1]]).map fun h=>h++us
def cnt (A:Array Bool):Nat:=(A.toList.filter id).length
def zv5 (all:List (List Nat)) (len:Nat) (q0:List Nat) (mains:List (Nat × List Nat)) (thr:List Thr) (p:Nat) (us:List Nat) (A':Array Bool) (i:Nat):List Thr->Nat->Bool
 | [],_=>false
 | t::ts,j=>(match us[j]? with
   | some 0=>Nat.beq i t.i&&(all.contains (us.set j 1)&&A'==zrY len q0 mains thr p (us.set j 1))
   | some 1=>match t.s with
     | some (s,_)=>Nat.beq i s&&(Nat.beq p mains.length&&(all.contains (us.set j 2)&&A'==zrY len q0 mains thr p (us.set j 2)))
     | none=>false
   | _=>false)||zv5 all len q0 mains thr p us A' i ts (j+1)
def zoK (thr:List Thr) (us:List Nat):Bool:=(thr.zip us).all fun x=>match x.2 with
    | 1=>x.1.s.isNone
    | 2=>true
    | _=>false
def okAt (l:List Oper) (heads:List Nat) (ts:List (Nat × Mk)) (qe:List Nat) (q0:List Nat) (mains:List (Nat × List Nat)) (thr:List Thr) (p:Nat) (us:List Nat):Bool:=
 let A:=zrY l.length q0 mains thr p us
 bif Nat.beq p mains.length&&zoK thr us then
  okQ l heads qe A&&(zu6 l A&&(heads.all ((ztb qe A).getD · false)&&(Nat.beq (cnt (ztb qe A)) heads.length&&(Nat.beq (cnt (ztb qe A)) (cnt A+qe.length)&&okT l.toArray ts (ztb qe A)))))
 else !(heads.all (A.getD · false))&&(Nat.blt (cnt A) heads.length&&(!(Region.ready .any l.toArray A).isEmpty&&(Region.ready .any l.toArray A).all fun i=>
  let A':=A.setIfInBounds i true
  (Nat.beq (cnt A') (cnt A+1))&&((match mains[p]? with
    | some (m,qs)=>(Nat.beq i m&&us.all fun u=>Nat.blt u 2)&&((zsu (Nat.beq (p+1) mains.length) thr).contains us&&(okQ l heads qs A'&&(zu6 l A'&&(ztb qs A'==zrY l.length q0 mains thr (p+1) us&&(Nat.beq (cnt (ztb qs A')) (cnt A+1+qs.length)&&Nat.ble (cnt (ztb qs A')) heads.length)))))
    | none=>false)||zv5 (zsu (Nat.beq p mains.length) thr) l.length q0 mains thr p us A' i thr 0)))
def thrB (l:List Oper) (heads:List Nat) (ts:List (Nat × Mk)) (qe:List Nat) (q0:List Nat) (mains:List (Nat × List Nat)) (thr:List Thr):Bool:=
 zqd l heads&&((Nat.ble q0.length heads.length&&(zsu (Nat.beq 0 mains.length) thr).contains (List.replicate thr.length 0))&&(okQ l heads q0 (Array.replicate l.length false)&&(Nat.beq (cnt (ztb q0 (Array.replicate l.length false))) q0.length&&
 (List.range (mains.length+1)).all fun p=>(zsu (Nat.beq p mains.length) thr).all fun us=>okAt l heads ts qe q0 mains thr p us)))
def zre:List Thr->(Nat->Value)->Nat->List (Nat × Value)
 | [],_,_=>[]
 | t::ts,es,j=>(t.d,es j)::zre ts es (j+1)
theorem zty {tm:Array Value} {es:Nat->Value}:∀ {ts:List Thr} {j:Nat},(∀ i t,ts[i]? =some t->tm[t.d]? =some (es (j+i)))->Ok (zre ts es j) tm
 | [],_,_=>trivial
 | t::ts,j,h=>⟨h 0 t rfl,zty fun i u hu=>by
    have:=h (i+1) u (by simpa using hu)
    rwa [show j+(i+1)=j+1+i by omega]at this⟩
theorem zs6 {tm:Array Value} {es:Nat->Value}:∀ {ts:List Thr} {j:Nat},Ok (zre ts es j) tm->∀ i t,ts[i]? =some t->tm[t.d]? =some (es (j+i))
 | t::ts,j,h,0,u,hu=>by cases hu;exact h.1
 | t::ts,j,h,i+1,u,hu=>by
    have:=zs6 h.2 i u (by simpa using hu)
    rwa [show j+(i+1)=j+1+i by omega]
theorem Ok.app {σ τ:List (Nat × Value)} {tm:Array Value} (h:Ok σ tm) (h':Ok τ tm):Ok (σ++τ) tm:=by
 induction σ with
 | nil=>exact h'
 | cons p σ ih=>exact ⟨h.1,ih h.2⟩
theorem Ok.left {σ τ:List (Nat × Value)} {tm:Array Value} (h:Ok (σ++τ) tm):Ok σ tm:=by
 induction σ with
 | nil=>trivial
 | cons p σ ih=>exact ⟨h.1,ih h.2⟩
theorem Ok.right {σ τ:List (Nat × Value)} {tm:Array Value} (h:Ok (σ++τ) tm):Ok τ tm:=by
 induction σ with
 | nil=>exact h
 | cons p σ ih=>exact ih h.2
theorem Ok.aside {σ:List (Nat × Value)} {tm:Array Value} (h:Ok σ tm) {d:Nat} (hd:∀ p∈σ,p.1≠d) (v:Value):Ok σ (tm.setIfInBounds d v):=by
 induction σ with
 | nil=>trivial
 | cons p σ ih=>
   refine ⟨?_,ih h.2 fun q hq=>hd q (List.mem_cons_of_mem _ hq)⟩
   rw[Array.getElem?_setIfInBounds_ne (fun e=>hd p (List.mem_cons_self ..) e.symm)]
   exact h.1
def Thr.fin (t:Thr) (σ:List (Nat × Value)):Array Value:=
 match t.s with
 | some (_,x)=>match look σ x with
   | some v=>v.cells
   | none=> #[]
 | none=>t.z
theorem zrv {P:Program} {all:Array Oper} {C:World->Prop} {Q:Exit->Act->World->Prop} {o:Oper} {a:Act} {w:World} {rest:List (Oper × Mk)} (hg:o.guard=none) (v:Value) (w':World)
 (hx:(execOp a.eval o).run P w= .ok (.value v) w'∨(execOp a.eval o).run P w= .ok .skip w'∧v=undef) (h:C w'∧wpO P all C Q rest (a.put o.dst v) w'):
 wpO P all C Q ((o,some false)::rest) a w:=by
 have b:Region.wanted o (yielded all a.tmps)=true:=by unfold Region.wanted;rw[hg]
 show (if Region.wanted o (yielded all a.tmps) then _ else _)
 rw[if_pos b]
 unfold Oper.wp
 rcases hx with hx | ⟨hx,rfl⟩
 ·rw[hx];exact h
 ·rw[hx];exact h
theorem zxo {P:Program} {l:List Oper} {C:World->Prop} {Q:Exit->Act->World->Prop} {rest:List (Oper × Mk)} {i:Nat} {G:Act->World->Prop} {a:Act} {w:World} (hi:i<l.length) (hC:C w)
 (h:wpO P l.toArray C (nQ Q) ((nth l i,some false)::rest) a w) (hG:∀ a' w',C w'->wpO P l.toArray C (nQ Q) rest a' w'->G a' w') {R':Exit->Act->World->Prop} (hp:∀ c a w,Q (.panic c) a w->R' (.panic c) a w:=by exact fun _ _ _ h=>h):
 wpOp P l.toArray (nQ R') i (fun a w=>C w∧G a w) a w:=by
 have hn:l.toArray[i]? =some (nth l i):=by simpa using zyf l i hi
 unfold wpOp
 simp only[hn]
 have h2:(if Region.wanted (nth l i) (yielded l.toArray a.tmps) then (nth l i).wp P a w (fun a' w'=>C w'∧wpO P l.toArray C (nQ Q) rest a' w') (nQ Q) else wpO P l.toArray C (nQ Q) rest (a.put (nth l i).dst undef) w):=h
 split at h2
 ·rename_i hw
  rw[if_pos hw]
  refine .inl (Oper.upon_monoQ (fun a w hh=>⟨hh.1,hG a w hh.1 hh.2⟩) (fun e a w he hh=>?_) h2)
  cases e<;>first | exact hh.elim | exact fun a' ha=>hp _ _ _ (hh a' ha) | exact absurd rfl he
 ·rename_i hw;rw[if_neg hw];exact ⟨hC,hG _ _ hC h2⟩
section
variable {P:Program} {R:RR} {n:Nat} {k:List It} {l:List Oper} {M:World} {Ml:List Nat} {q0:List Nat} {mains:List (Nat × List Nat)} {thr:List Thr} {kp:Nat->List Nat}
structure ThrInv (ds:List Deferred) (n:Nat) (M:World) (Ml:List Nat) (thr:List Thr) (kp:Nat->List Nat) (JM:Nat->List (Nat × Value)->(Nat->Prop)->World->Prop) (p:Nat) (us:List Nat) (b:Nat->Nat) (B:Nat->Prop) (σ:List (Nat × Value)) (a:Act) (w:World):Prop where
 hd:a.defers=ds
 hs:a.tmps.size=n
 len:us.length=thr.length
 ok:Ok σ a.tmps
 keys:σ.map (·.1)=kp p
 main:JM p σ B w
 cls:Cls M Ml w
 lt:∀ q,B q->M.heap.size<=q∧q<w.heap.size
 at':∀ (j:Nat) (t:Thr),thr[j]? =some t->us[j]? =some 0∨(a.tmps[t.d]? =some (.pointer (some ⟨b j,0,none⟩))∧B (b j)∧((us[j]? =some 1∧Box w (b j) t.ty t.z)∨(us[j]? =some 2∧Box w (b j) t.ty (t.fin σ))))
 ne:∀ i j:Nat,i≠j->us[i]? ≠some 0->us[j]? ≠some 0->i<us.length->j<us.length->b i≠b j
theorem zw1 {all:List (List Nat)} {len:Nat} {p:Nat} {us:List Nat} {A':Array Bool} {i:Nat}:∀ {ts:List Thr} {j:Nat},zv5 all len q0 mains thr p us A' i ts j=true->
 ∃ e t,ts[e]? =some t∧((us[j+e]? =some 0∧i=t.i∧us.set (j+e) 1∈all∧A'=zrY len q0 mains thr p (us.set (j+e) 1))∨
   (us[j+e]? =some 1∧p=mains.length∧(∃ s x,t.s=some (s,x)∧i=s)∧us.set (j+e) 2∈all∧A'=zrY len q0 mains thr p (us.set (j+e) 2)))
 | t::ts,j,h=>by
   unfold zv5 at h
   rw[Bool.or_eq_true]at h
   rcases h with h | h
   ·refine ⟨0,t,rfl,?_⟩
    split at h
    ·rename_i hu
     simp only[Bool.and_eq_true,beq_iff_eq,List.contains_iff_mem]at h
     exact .inl ⟨hu,Nat.eq_of_beq_eq_true h.1,h.2.1,h.2.2⟩
    ·rename_i hu
     split at h
     ·rename_i s x a
      simp only[Bool.and_eq_true,beq_iff_eq,List.contains_iff_mem]at h
      exact .inr ⟨hu,Nat.eq_of_beq_eq_true h.2.1,⟨s,x,a,Nat.eq_of_beq_eq_true h.1⟩,h.2.2.1,h.2.2.2⟩
     ·cases h
    ·cases h
   ·obtain ⟨e,t',h1,h2⟩:=zw1 h
    refine ⟨e+1,t',by simpa using h1,?_⟩
    rwa [show j+(e+1)=j+1+e by omega]
theorem zwB:∀ ts:List Thr,zv6 ts (List.replicate ts.length 0)=[]
 | []=>rfl
 | t::ts=>by
   rw[List.length_cons,List.replicate_succ]
   show []++zv6 ts (List.replicate ts.length 0)=[]
   rw[zwB ts];rfl
theorem zo5 {σ:List (Nat × Value)} (heads:List Nat) (ts:List (Nat × Mk)) (qe:List Nat) (kp:Nat->List Nat) (JM:Nat->List (Nat × Value)->(Nat->Prop)->World->Prop) (hB:thrB l heads ts qe q0 mains thr=true)
 (hkey:(thr.all fun t=>(List.range (mains.length+1)).all fun p=> !(kp p).contains t.d)=true)
 (hdd:∀ (i j:Nat) (t u:Thr),i≠j->thr[i]? =some t->thr[j]? =some u->t.d≠u.d)
 (hal:∀ (j:Nat) (t:Thr),thr[j]? =some t->(nth l t.i).guard=none∧(nth l t.i).dst=some t.d∧t.d<n∧∀ e w,(execOp e (nth l t.i)).run P w= .ok (.value (.pointer (some ⟨w.heap.size,0,none⟩))) (w.alloc (.cells t.z t.ty)))
 (hst:∀ (j:Nat) (t:Thr) (s x:Nat),thr[j]? =some t->t.s=some (s,x)->(nth l s).guard=none∧(nth l s).dst=none∧(P.info? t.ty).map (·.size)=some t.z.size∧zzB (nth l s).op=true∧∀ b v,zzO [(t.d,.pointer (some ⟨b,0,none⟩)),(x,v)] (nth l s).op.operands.toList=true∧
   execOp (evr [(t.d,.pointer (some ⟨b,0,none⟩)),(x,v)]) (nth l s)=(do Instr.storeAt t.ty (.pointer (some ⟨b,0,none⟩)) v;pure .skip))
 (hval:∀ σ B w,JM mains.length σ B w->∀ (j:Nat) (t:Thr) (s x:Nat),thr[j]? =some t->t.s=some (s,x)->∃ v,look σ x=some v∧v.cells.size=t.z.size∧∀ u∈v.cells.toList,u.oneCell'=true)
 (hgrow:∀ p σ B w w' b,p<=mains.length->JM p σ B w->(∀ q,B q->M.heap.size<=q∧q<w.heap.size)->Cls M Ml w->b=w.heap.size->w.grownBy w' none->w'.heap.size=b+1->JM p σ (fun q=>B q∨q=b) w')
 (hwrite:∀ σ B w w' b,JM mains.length σ B w->(∀ q,B q->M.heap.size<=q∧q<w.heap.size)->Cls M Ml w->B b->w.grownBy w' (some b)->w'.heap.size=w.heap.size->JM mains.length σ B w')
 (hmain:∀ (p m:Nat) (ae:List Nat),mains[p]? =some (m,ae)->∀ σ B w es,JM p σ B w->(∀ q,B q->M.heap.size<=q∧q<w.heap.size)->Cls M Ml w->
   Run P R n (.ops l.toArray (Cls M Ml) (zvP l ((m,some false)::qs ae)):: .goal (fun a' w'=>(∃ al,w.grownBy w' al∧∀ g,al=some g->g∈Ml∧g<M.heap.size)∧a'.defers=R.ds∧a'.tmps.size=n∧∃ σ',σ'.map (·.1)=kp (p+1)∧JM (p+1) σ' B w'∧Ok (σ'++zre thr es 0) a'.tmps)::k) .normal (σ++zre thr es 0) w)
 (hq:Run P R n (.ops l.toArray (Cls M Ml) (zvP l (qs q0)):: .goal (fun a' w'=>w'=M∧a'.defers=R.ds∧a'.tmps.size=n∧∃ σ',σ'.map (·.1)=kp 0∧JM 0 σ' (fun _=>False) M∧Ok σ' a'.tmps)::k) .normal σ M)
 (hend:∀ σ B w (b:Nat->Nat),JM mains.length σ B w->(∀ q,B q->M.heap.size<=q∧q<w.heap.size)->Cls M Ml w->(∀ (j:Nat) (t:Thr),thr[j]? =some t->B (b j)∧Box w (b j) t.ty (t.fin σ))->(∀ i j:Nat,i≠j->i<thr.length->j<thr.length->b i≠b j)->
   Run P R n (.ops l.toArray (Cls M Ml) (zvP l (qs qe)):: .ops l.toArray (Cls M Ml) (zvP l ts)::k) .normal (σ++zre thr (fun j=>.pointer (some ⟨b j,0,none⟩)) 0) w):
 Run P R n (.any l (Cls M Ml) heads ts heads.length (Array.replicate l.length false)::k) .normal σ M:=by
 simp only[thrB,Bool.and_eq_true,List.contains_iff_mem]at hB
 obtain ⟨ap,⟨bd,hz⟩,b4,ao,b1⟩:=hB
 have bs:∀ (j:Nat) (t:Thr),thr[j]? =some t->∀ p,p<=mains.length->t.d∉kp p:=fun j t ht p hp=>by
  have h1:=List.all_eq_true.1 hkey t (List.mem_of_getElem? ht)
  have h2:=List.all_eq_true.1 h1 p (List.mem_range.2 (by omega))
  simpa using h2
 have key:∀ f p us b B σ a w,p<=mains.length->us∈zsu (Nat.beq p mains.length) thr->ThrInv R.ds n M Ml thr kp JM p us b B σ a w->f+cnt (zrY l.length q0 mains thr p us)=heads.length->
  wpI P l (Cls M Ml) (K P R k) heads ts f (zrY l.length q0 mains thr p us) a w:=by
  intro f
  induction f using Nat.strongRecOn with
  | _ f ih=>
  intro p us b B σ a w hp cb I hf
  have ad:=List.all_eq_true.1 (List.all_eq_true.1 b1 p (List.mem_range.2 (by omega))) us cb
  unfold okAt at ad
  simp only[]at ad
  cases av:(Nat.beq p mains.length&&zoK thr us) with
  | true=>
    rw[av]at ad
    simp only[cond_true,Bool.and_eq_true]at ad av
    obtain ⟨az,au,hh,ah,ak,ci⟩:=ad
    have ah:=Nat.eq_of_beq_eq_true ah
    have ak:=Nat.eq_of_beq_eq_true ak
    have ch:=Nat.eq_of_beq_eq_true av.1
    subst ch
    have hu:∀ (j:Nat) (t:Thr),thr[j]? =some t->us[j]? ≠some 0∧(us[j]? =some 1->t.s=none):=fun j t ht=>by
     have hj:j<us.length:=by rw[I.len];exact (List.getElem?_eq_some_iff.1 ht).1
     have h1:=List.all_eq_true.1 av.2 (t,us[j]) (List.mem_of_getElem? (i:=j) (List.getElem?_zip_eq_some.2 ⟨ht,List.getElem?_eq_getElem hj⟩))
     rw[List.getElem?_eq_getElem hj]
     revert h1
     cases hv:us[j] with
     | zero=>simp
     | succ v=>cases v<;>simp
    have af:=hend σ B w b I.main I.lt I.cls (fun j t ht=>by
     obtain ⟨h0,h1⟩:=hu j t ht
     rcases I.at' j t ht with h | ⟨_,hb,h | h⟩
     ·exact absurd h h0
     ·refine ⟨hb,?_⟩
      unfold Thr.fin
      rw[h1 h.1]
      exact h.2
     ·exact ⟨hb,h.2⟩) (fun i j ai hi hj=>by
     have b9:=(hu i _ (List.getElem?_eq_getElem hi)).1
     have ce:=(hu j _ (List.getElem?_eq_getElem hj)).1
     exact I.ne i j ai b9 ce (by rw[I.len];exact hi) (by rw[I.len];exact hj)) a I.hd I.hs (I.ok.app (zty fun j t ht=>by
     rw[Nat.zero_add]
     rcases I.at' j t ht with h | ⟨h,_⟩
     ·exact absurd h (hu j t ht).1
     ·exact h))
    obtain rfl:f=0+qe.length:=by omega
    refine zwn ap qe _ a w az (zug au) I.cls (zz4 (fun e a2 w2 aw=>?_) _ _ _ af)
    cases e<;>first | exact fun _=>⟨hh,ci,aw⟩ | exact fun he=>by cases he
  | false=>
    rw[av]at ad
    simp only[cond_false,Bool.and_eq_true,Bool.not_eq_true']at ad
    obtain ⟨hh,bb,ay,bf⟩:=ad
    have bb:=Nat.le_of_ble_eq_true bb
    cases f with
    | zero=>omega
    | succ f=>
      refine ⟨hh,fun e=>(by rw[e]at ay;cases ay),fun i hi=>?_⟩
      have aq:=List.all_eq_true.1 bf i hi
      simp only[Bool.and_eq_true,Bool.or_eq_true]at aq
      obtain ⟨ah,aq⟩:=aq
      have ah:=Nat.eq_of_beq_eq_true ah
      obtain ⟨_,o,ho,_⟩:=mem_ready.1 hi
      have a8:i<l.length:=by have:=(Array.getElem?_eq_some_iff.1 ho).1;simpa using this
      rcases aq with ax | ca
      · -- the chain goes on
        cases a5:mains[p]? with
        | none=>rw[a5]at ax;cases ax
        | some mq=>
          obtain ⟨m,ae⟩:=mq
          rw[a5]at ax
          simp only[Bool.and_eq_true,beq_iff_eq,List.contains_iff_mem]at ax
          obtain ⟨⟨bn,cg⟩,y,az,au,r,ak,bw⟩:=ax
          have bn:=Nat.eq_of_beq_eq_true bn
          have ak:=Nat.eq_of_beq_eq_true ak
          subst bn
          have cf:p<mains.length:=(List.getElem?_eq_some_iff.1 a5).1
          let es:Nat->Value:=fun j=>match thr[j]? with
           | some t=>(a.tmps[t.d]?).getD undef
           | none=>undef
          have b5:Ok (zre thr es 0) a.tmps:=zty fun j t ht=>by
           have hd:=(hal j t ht).2.2.1
           have:a.tmps[t.d]? =some (a.tmps[t.d]'(by rw[I.hs];exact hd)):=Array.getElem?_eq_getElem _
           simp only[es,Nat.zero_add,ht,this,Option.getD_some]
          have af:=hmain p i ae a5 σ B w es I.main I.lt I.cls a I.hd I.hs (I.ok.app b5)
          refine zxo a8 I.cls af fun a1 w1 b7 h1=>?_
          have bw:=Nat.le_of_ble_eq_true bw
          obtain ⟨f',rfl⟩:∃ f',f=f'+ae.length:=⟨f-ae.length,by omega⟩
          refine zwn ap ae _ a1 w1 az (zug au) b7 (zz4 (fun e a2 w2 aw=>?_) _ _ _ h1)
          cases e with
          | normal=>
            obtain ⟨⟨al,hg,bj⟩,a9,be,σ',a7,bm,an⟩:=(show (∃ al,w.grownBy w2 al∧∀ g,al=some g->g∈Ml∧g<M.heap.size)∧a2.defers=R.ds∧a2.tmps.size=n∧∃ σ',σ'.map (·.1)=kp (p+1)∧JM (p+1) σ' B w2∧Ok (σ'++zre thr es 0) a2.tmps from aw)
            intro _
            rw[r]
            refine ih f' (by omega) (p+1) us b B σ' a2 w2 cf y ⟨a9,be,I.len,an.left,a7,bm,I.cls.grown hg (fun g e=>.inl (bj g e).1),fun q hq=>⟨(I.lt q hq).1,Nat.lt_of_lt_of_le (I.lt q hq).2 hg.size⟩,fun j t ht=>?_,I.ne⟩ (by rw[<- r,ak];omega)
            rcases I.at' j t ht with h | ⟨h,hb,h2⟩
            ·exact .inl h
            ·have h3:=zs6 an.right j t ht
             simp only[es,Nat.zero_add,ht,h,Option.getD_some]at h3
             refine .inr ⟨h3,hb,?_⟩
             rcases h2 with ⟨h4,h5⟩ | ⟨h4,_⟩
             ·exact .inl ⟨h4,h5.grown hg (fun g e=>by have:=(bj g e).2;have:=(I.lt _ hb).1;omega)⟩
             ·have:=List.all_eq_true.1 cg 2 (List.mem_of_getElem? h4)
              exact absurd this (by decide)
          | _=>exact fun he=>by cases he
      ·obtain ⟨e,t,ab,h1 | h1⟩:=zw1 ca
       · -- a box is laid
         obtain ⟨bv,rfl,y,r⟩:=h1
         rw[Nat.zero_add]at bv y r
         obtain ⟨g1,g2,g3,g4⟩:=hal e t ab
         have a4:e<us.length:=(List.getElem?_eq_some_iff.1 bv).1
         have hg:w.grownBy (w.alloc (.cells t.z t.ty)) none:=zww w _
         have ar:Cls M Ml (w.alloc (.cells t.z t.ty)):=I.cls.grown hg (fun _ e=>by cases e)
         refine zxo (rest:=[]) (Q:=fun e a' w'=>e= .normal∧a'=a.put (some t.d) (.pointer (some ⟨w.heap.size,0,none⟩))∧w'=w.alloc (.cells t.z t.ty)) (hp:=fun _ _ _ h=>by cases h.1) a8 I.cls
          (zrv g1 _ _ (.inl (g4 _ _)) ⟨ar,by rw[g2];exact ⟨rfl,rfl,rfl⟩⟩) fun a1 w1 _ h1=>?_
         obtain ⟨bc,a6⟩:=(show a1=_∧w1=_ from h1.2)
         subst bc;subst a6
         rw[r]
         have am:Box (w.alloc (.cells t.z t.ty)) w.heap.size t.ty t.z:=heap_alloc_new w _
         have a0:(w.alloc (.cells t.z t.ty)).heap.size=w.heap.size+1:=by simp
         refine ih f (Nat.lt_succ_self f) p (us.set e 1) (fun j=>if j=e then w.heap.size else b j) (fun q=>B q∨q=w.heap.size) σ _ _ hp y
          ⟨I.hd,by simpa [Act.put] using I.hs,by rw[List.length_set];exact I.len,?_,I.keys,hgrow p σ B w _ _ hp I.main I.lt I.cls rfl hg a0,ar,fun q hq=>?_,fun j u hj=>?_,fun i j ai hi hj aa aj=>?_⟩ (by rw[<- r,ah];omega)
         ·refine I.ok.aside (fun q hq=>?_) _
          have h2:=bs e t ab p hp
          rw[<- I.keys]at h2
          exact fun e=>h2 (by rw[<- e];exact List.mem_map_of_mem hq)
         ·rcases hq with hq | rfl
          ·exact ⟨(I.lt q hq).1,by have:=(I.lt q hq).2;omega⟩
          ·exact ⟨I.cls.1,by omega⟩
         ·by_cases c:j=e
          ·subst c
           rw[ab]at hj;cases hj
           refine .inr ⟨?_,by simp,.inl ⟨by rw[List.getElem?_set_self a4],by simpa using am⟩⟩
           simp only[if_true]
           exact Array.getElem?_setIfInBounds_self_of_lt (by rw[I.hs];exact g3)
          ·rw[List.getElem?_set_ne (Ne.symm c)]
           rcases I.at' j u hj with h | ⟨h,hb,h2⟩
           ·exact .inl h
           ·refine .inr ⟨?_,by simp only[if_neg c];exact .inl hb,?_⟩
            ·simp only[if_neg c]
             show (a.tmps.setIfInBounds t.d _)[u.d]? =_
             rw[Array.getElem?_setIfInBounds_ne (hdd e j t u (Ne.symm c) ab hj)]
             exact h
            ·simp only[if_neg c]
             rcases h2 with ⟨h4,h5⟩ | ⟨h4,h5⟩
             ·exact .inl ⟨h4,h5.grown hg (fun _ e=>by cases e)⟩
             ·exact .inr ⟨h4,h5.grown hg (fun _ e=>by cases e)⟩
         ·rw[List.length_set]at aa aj
          have hB:∀ q:Nat,q≠e->us[q]? ≠some 0->q<us.length->b q<w.heap.size:=fun q hq h0 hl=>by
           rcases I.at' q (thr[q]'(by rw[<- I.len];exact hl)) (List.getElem?_eq_getElem _) with h | ⟨_,hb,_⟩
           ·exact absurd h h0
           ·exact (I.lt _ hb).2
          by_cases ac:i=e
          ·subst ac
           have bu:j≠i:=Ne.symm ai
           rw[List.getElem?_set_ne ai]at hj
           have:=hB j bu hj aj
           simp only[if_true,if_neg bu]
           omega
          ·rw[List.getElem?_set_ne (Ne.symm ac)]at hi
           have h3:=hB i ac hi aa
           by_cases c:j=e
           ·subst c
            simp only[if_true,if_neg ac]
            omega
           ·rw[List.getElem?_set_ne (Ne.symm c)]at hj
            simp only[if_neg ac,if_neg c]
            exact I.ne i j ai hi hj aa aj
       · -- a box is written
         obtain ⟨ag,rfl,⟨s,x,bi,rfl⟩,y,r⟩:=h1
         rw[Nat.zero_add]at ag y r
         obtain ⟨g1,g2,g3,g4,g5⟩:=hst e t i x ab bi
         have a4:e<us.length:=(List.getElem?_eq_some_iff.1 ag).1
         obtain ⟨v,hv,ba,bx⟩:=hval σ B w I.main e t i x ab bi
         rcases I.at' e t ab with h | ⟨bh,hb,h2⟩
         ·rw[ag]at h;cases h
         rcases h2 with ⟨_,am⟩ | ⟨h4,_⟩
         case inr=>rw[ag]at h4;cases h4
         obtain ⟨g6,g7⟩:=g5 (b e) v
         have b3:Ok [(t.d,.pointer (some ⟨b e,0,none⟩)),(x,v)] a.tmps:=⟨bh,I.ok.look hv,trivial⟩
         have af:(execOp a.eval (nth l i)).run P w= .ok .skip (w.setRow (b e) v.cells):=by
          rw[zxR b3 g4 g6,g7]
          have h5:=run_storeCells_at P (b e) 0 t.ty v.cells.toList 0 t.z w am (by simp[ba]) bx
          have h6:(t.z.toList.take (0+0)++v.cells.toList++t.z.toList.drop (0+0+v.cells.toList.length)).toArray=v.cells:=by
           have h7:t.z.toList.drop v.cells.toList.length=[]:=List.drop_eq_nil_of_le (by simp[ba])
           simp only[Nat.add_zero,Nat.zero_add,List.take_zero,List.nil_append,h7,List.append_nil]
          rw[h6]at h5
          have ck:(P.info? t.ty).map (·.size)=some v.cells.size:=by rw[ba];exact g3
          simp[Instr.storeAt,Instr.sureAddr,storeVar,zzN ck,h5]
         have hg:w.grownBy (w.setRow (b e) v.cells) (some (b e)):=⟨rfl,rfl,rfl,by simp[World.setRow],fun k _ cd=>setRow_other w (b e) k _ (fun e=>cd (by rw[e]))⟩
         have ar:Cls M Ml (w.setRow (b e) v.cells):=I.cls.grown hg (fun g e'=>by cases e';exact .inr (I.lt _ hb).1)
         have a0:(w.setRow (b e) v.cells).heap.size=w.heap.size:=by simp[World.setRow]
         have b0:Box (w.setRow (b e) v.cells) (b e) t.ty v.cells:=setRow_heap w (b e) t.z _ t.ty _ am
         refine zxo (rest:=[]) (Q:=fun ex a' w'=>ex= .normal∧a'=a∧w'=w.setRow (b e) v.cells) (hp:=fun _ _ _ h=>by cases h.1) a8 I.cls
          (zrv g1 undef _ (.inr ⟨af,rfl⟩) ⟨ar,by rw[g2];exact ⟨rfl,rfl,rfl⟩⟩) fun a1 w1 _ h1=>?_
         obtain ⟨bc,a6⟩:=(show a1=_∧w1=_ from h1.2)
         subst bc;subst a6
         rw[r]
         refine ih f (Nat.lt_succ_self f) _ (us.set e 2) b B σ _ _ hp y ⟨I.hd,I.hs,by rw[List.length_set];exact I.len,I.ok,I.keys,hwrite σ B w _ _ I.main I.lt I.cls hb hg a0,ar,fun q hq=>⟨(I.lt q hq).1,by rw[a0];exact (I.lt q hq).2⟩,fun j u hj=>?_,fun i j ai hi hj aa aj=>?_⟩ (by rw[<- r,ah];omega)
         ·by_cases c:j=e
          ·subst c
           rw[ab]at hj;cases hj
           refine .inr ⟨bh,hb,.inr ⟨by rw[List.getElem?_set_self a4],?_⟩⟩
           unfold Thr.fin
           rw[bi]
           simp only[hv]
           exact b0
          ·rw[List.getElem?_set_ne (Ne.symm c)]
           rcases I.at' j u hj with h | ⟨h,cc,h2⟩
           ·exact .inl h
           ·have ay:b e≠b j:=I.ne e j (Ne.symm c) (by rw[ag];simp) (by
             rcases h2 with ⟨h4,_⟩ | ⟨h4,_⟩<;>rw[h4]<;>simp) a4 (by rw[I.len];exact (List.getElem?_eq_some_iff.1 hj).1)
            refine .inr ⟨h,cc,?_⟩
            rcases h2 with ⟨h4,h5⟩ | ⟨h4,h5⟩
            ·exact .inl ⟨h4,h5.grown hg (fun g e'=>by cases e';exact ay)⟩
            ·exact .inr ⟨h4,h5.grown hg (fun g e'=>by cases e';exact ay)⟩
         ·rw[List.length_set]at aa aj
          refine I.ne i j ai ?_ ?_ aa aj
          ·by_cases ac:i=e
           ·subst ac;rw[ag];simp
           ·rwa [List.getElem?_set_ne (Ne.symm ac)]at hi
          ·by_cases c:j=e
           ·subst c;rw[ag];simp
           ·rwa [List.getElem?_set_ne (Ne.symm c)]at hj
 intro a hd hs b6
 have bd:=Nat.le_of_ble_eq_true bd
 have ao:=Nat.eq_of_beq_eq_true ao
 have a3:zrY l.length q0 mains thr 0 (List.replicate thr.length 0)=ztb q0 (Array.replicate l.length false):=by
  unfold zrY
  rw[zwB,List.take_zero]
  simp[zus]
 have au:zyW l.toArray (Array.replicate l.length false):=by
  intro j oj _ bt e _ _
  exfalso
  rw[show (Array.replicate l.length false).getD j false=false from by
   rcases Nat.lt_or_ge j l.length with h | h
   ·simp[h]
   ·simp[h]]at bt
  cases bt
 have h:=zwn (P:=P) (C:=Cls M Ml) (Q:=K P R k) (ts:=ts) (f:=heads.length-q0.length) ap q0 (Array.replicate l.length false) a M b4 au (Cls.refl M Ml) (zz4 (fun e a2 w2 aw=>?_) _ _ _ (hq a hd hs b6))
 ·rw[Nat.sub_add_cancel bd]at h
  exact h
 ·cases e with
  | normal=>
    obtain ⟨hw,a9,be,σ',a7,bm,an⟩:=(show w2=M∧a2.defers=R.ds∧a2.tmps.size=n∧∃ σ',σ'.map (·.1)=kp 0∧JM 0 σ' (fun _=>False) M∧Ok σ' a2.tmps from aw)
    subst hw
    intro _
    rw[<- a3]
    refine key _ 0 _ (fun _=>0) (fun _=>False) σ' a2 w2 (Nat.zero_le _) hz ⟨a9,be,by simp,an,a7,bm,Cls.refl _ _,fun _ h=>h.elim,fun j t ht=>.inl ?_,fun i j _ hi _ aa _=>?_⟩ (by rw[a3,ao];omega)
    ·rw[List.getElem?_replicate,if_pos (List.getElem?_eq_some_iff.1 ht).1]
    ·rw[List.length_replicate]at aa
     rw[List.getElem?_replicate,if_pos aa]at hi
     exact absurd rfl hi
  | _=>exact fun he=>by cases he
def zoI:List Thr->(Thr->Prop)->Prop
 | [],_=>True
 | t::ts,Q=>Q t∧zoI ts Q
theorem zux {Q:Thr->Prop}:∀ {ts:List Thr},zoI ts Q->∀ (j:Nat) (t:Thr),ts[j]? =some t->Q t
 | t::ts,h,0,u,hu=>by cases hu;exact h.1
 | t::ts,h,j+1,u,hu=>zux h.2 j u (by simpa using hu)
theorem zoz {σ:List (Nat × Value)} (heads:List Nat) (ts:List (Nat × Mk)) (qe:List Nat) (q0:List Nat) (mains:List (Nat × List Nat)) (thr:List Thr) (kp:Nat->List Nat) (JM:Nat->List (Nat × Value)->(Nat->Prop)->World->Prop) (hB:thrB l heads ts qe q0 mains thr=true)
 (hkey:(thr.all fun t=>(List.range (mains.length+1)).all fun p=> !(kp p).contains t.d)=true)
 (hdd:(thr.map (·.d)).Nodup)
 (hal:zoI thr fun t=>(nth l t.i).guard=none∧(nth l t.i).dst=some t.d∧t.d<n∧∀ e w,(execOp e (nth l t.i)).run P w= .ok (.value (.pointer (some ⟨w.heap.size,0,none⟩))) (w.alloc (.cells t.z t.ty)))
 (hst:zoI thr fun t=>∀ s x,t.s=some (s,x)->(nth l s).guard=none∧(nth l s).dst=none∧(P.info? t.ty).map (·.size)=some t.z.size∧zzB (nth l s).op=true∧∀ b v,zzO [(t.d,.pointer (some ⟨b,0,none⟩)),(x,v)] (nth l s).op.operands.toList=true∧
   execOp (evr [(t.d,.pointer (some ⟨b,0,none⟩)),(x,v)]) (nth l s)=(do Instr.storeAt t.ty (.pointer (some ⟨b,0,none⟩)) v;pure .skip))
 (hval:∀ σ B w,JM mains.length σ B w->zoI thr fun t=>∀ s x,t.s=some (s,x)->∃ v,look σ x=some v∧v.cells.size=t.z.size∧∀ u∈v.cells.toList,u.oneCell'=true)
 (hgrow:∀ p σ B w w' b,JM p σ B w->(∀ q,B q->M.heap.size<=q∧q<w.heap.size)->Cls M Ml w->b=w.heap.size->w.grownBy w' none->w'.heap.size=b+1->JM p σ (fun q=>B q∨q=b) w')
 (hwrite:∀ σ B w w' b,JM mains.length σ B w->(∀ q,B q->M.heap.size<=q∧q<w.heap.size)->Cls M Ml w->B b->w.grownBy w' (some b)->w'.heap.size=w.heap.size->JM mains.length σ B w')
 (hmain:∀ (p m:Nat) (qs':List Nat),mains[p]? =some (m,qs')->∀ σ B w es,JM p σ B w->(∀ q,B q->M.heap.size<=q∧q<w.heap.size)->Cls M Ml w->
   Run P R n (.ops l.toArray (Cls M Ml) (zvP l ((m,some false)::qs qs')):: .goal (fun a' w'=>(∃ row,w.grownBy w' row∧∀ g,row=some g->g∈Ml∧g<M.heap.size)∧a'.defers=R.ds∧a'.tmps.size=n∧∃ σ',σ'.map (·.1)=kp (p+1)∧JM (p+1) σ' B w'∧Ok (σ'++zre thr es 0) a'.tmps)::k) .normal (σ++zre thr es 0) w)
 (hq:Run P R n (.ops l.toArray (Cls M Ml) (zvP l (qs q0)):: .goal (fun a' w'=>w'=M∧a'.defers=R.ds∧a'.tmps.size=n∧∃ σ',σ'.map (·.1)=kp 0∧JM 0 σ' (fun _=>False) M∧Ok σ' a'.tmps)::k) .normal σ M)
 (hend:∀ σ B w (b:Nat->Nat),JM mains.length σ B w->(∀ q,B q->M.heap.size<=q∧q<w.heap.size)->Cls M Ml w->(∀ (j:Nat) (t:Thr),thr[j]? =some t->B (b j)∧Box w (b j) t.ty (t.fin σ))->(∀ i j:Nat,i≠j->i<thr.length->j<thr.length->b i≠b j)->
   Run P R n (.ops l.toArray (Cls M Ml) (zvP l (qs qe)):: .ops l.toArray (Cls M Ml) (zvP l ts)::k) .normal (σ++zre thr (fun j=>.pointer (some ⟨b j,0,none⟩)) 0) w):
 Run P R n (.any l (Cls M Ml) heads ts heads.length (Array.replicate l.length false)::k) .normal σ M:=
 zo5 heads ts qe kp JM hB hkey (fun i j t u r hi hj e=>by
  have h1:=List.pairwise_iff_getElem.1 hdd
  obtain ⟨c,f⟩:=List.getElem?_eq_some_iff.1 hi
  obtain ⟨o,a⟩:=List.getElem?_eq_some_iff.1 hj
  rcases Nat.lt_or_gt_of_ne r with h | h
  ·exact h1 i j (by simpa using c) (by simpa using o) h (by simp[f,a,e])
  ·exact h1 j i (by simpa using o) (by simpa using c) h (by simp[f,a,e]))
  (zux hal) (fun j t s x ht hs=>zux hst j t ht s x hs) (fun σ B w hJ j t s x ht hs=>zux (hval σ B w hJ) j t ht s x hs)
  (fun p σ B w w' b _=>hgrow p σ B w w' b) hwrite hmain hq hend
end
end Go.Gv
