/-
  Own helper lemmas:a region that draws its order,in which boxes are laid beside a chain of calls. No condition of its own.
-/
import Derived.Test.YtbiopeiafkldiaaGreatDoorGa
set_option linter.all false
namespace Go.Gv
open Go.RowKit
structure Thr where
 i:Nat
 d:Nat
 ty:TypeId
 z:Array Value
 s:Option (Nat × Nat)
def thrSets:List Thr→List Nat→List Nat
 | t::ts,u::us=>(match u with
   | 0=>[]
   | 1=>[t.i]
   | _=>match t.s with
     | some (s,_)=>[t.i,s]
     | none=>[t.i])++thrSets ts us
 | _,_=>[]
def mainSets:List (Nat × List Nat)→List Nat
 | []=>[]
 | (m,qs)::r=>m::(qs++mainSets r)
def arrS (len:Nat) (q0:List Nat) (mains:List (Nat × List Nat)) (thr:List Thr) (p:Nat) (us:List Nat):Array Bool:=
 sets (q0++(mainSets (mains.take p)++thrSets thr us)) (Array.replicate len false)
def allUs (last:Bool):List Thr→List (List Nat)
 | []=>[[]]
 | t::ts=>(allUs last ts).flatMap fun us=>(if last&&t.s.isSome then [[0],[1],[2]] else [[0],[1]]).map fun h=>h++us
def cnt (A:Array Bool):Nat:=(A.toList.filter id).length
def thrStep (all:List (List Nat)) (len:Nat) (q0:List Nat) (mains:List (Nat × List Nat)) (thr:List Thr) (p:Nat) (us:List Nat) (A':Array Bool) (i:Nat):List Thr→Nat→Bool
 | [],_=>false
 | t::ts,j=>(match us[j]? with
   | some 0=>Nat.beq i t.i&&(all.contains (us.set j 1)&&A'==arrS len q0 mains thr p (us.set j 1))
   | some 1=>match t.s with
     | some (s,_)=>Nat.beq i s&&(Nat.beq p mains.length&&(all.contains (us.set j 2)&&A'==arrS len q0 mains thr p (us.set j 2)))
     | none=>false
   | _=>false)||thrStep all len q0 mains thr p us A' i ts (j+1)
def doneB (thr:List Thr) (us:List Nat):Bool:=(thr.zip us).all fun x=>match x.2 with
    | 1=>x.1.s.isNone
    | 2=>true
    | _=>false
def okAt (l:List Oper) (heads:List Nat) (ts:List (Nat × Mk)) (qe:List Nat) (q0:List Nat) (mains:List (Nat × List Nat)) (thr:List Thr) (p:Nat) (us:List Nat):Bool:=
 let A:=arrS l.length q0 mains thr p us
 bif Nat.beq p mains.length&&doneB thr us then
  okQ l heads qe A&&(closedB l A&&(heads.all ((sets qe A).getD · false)&&(Nat.beq (cnt (sets qe A)) heads.length&&(Nat.beq (cnt (sets qe A)) (cnt A+qe.length)&&okT l.toArray ts (sets qe A)))))
 else !(heads.all (A.getD · false))&&(Nat.blt (cnt A) heads.length&&(!(Region.ready .any l.toArray A).isEmpty&&(Region.ready .any l.toArray A).all fun i=>
  let A':=A.setIfInBounds i true
  (Nat.beq (cnt A') (cnt A+1))&&((match mains[p]? with
    | some (m,qs)=>(Nat.beq i m&&us.all fun u=>Nat.blt u 2)&&((allUs (Nat.beq (p+1) mains.length) thr).contains us&&(okQ l heads qs A'&&(closedB l A'&&(sets qs A'==arrS l.length q0 mains thr (p+1) us&&(Nat.beq (cnt (sets qs A')) (cnt A+1+qs.length)&&Nat.ble (cnt (sets qs A')) heads.length)))))
    | none=>false)||thrStep (allUs (Nat.beq p mains.length) thr) l.length q0 mains thr p us A' i thr 0)))
def thrB (l:List Oper) (heads:List Nat) (ts:List (Nat × Mk)) (qe:List Nat) (q0:List Nat) (mains:List (Nat × List Nat)) (thr:List Thr):Bool:=
 tailB l heads&&((Nat.ble q0.length heads.length&&(allUs (Nat.beq 0 mains.length) thr).contains (List.replicate thr.length 0))&&(okQ l heads q0 (Array.replicate l.length false)&&(Nat.beq (cnt (sets q0 (Array.replicate l.length false))) q0.length&&
 (List.range (mains.length+1)).all fun p=>(allUs (Nat.beq p mains.length) thr).all fun us=>okAt l heads ts qe q0 mains thr p us)))
def envS:List Thr→(Nat→Value)→Nat→List (Nat × Value)
 | [],_,_=>[]
 | t::ts,es,j=>(t.d,es j)::envS ts es (j+1)
theorem envS_ok {tm:Array Value} {es:Nat→Value}:∀ {ts:List Thr} {j:Nat},(∀ i t,ts[i]? =some t→tm[t.d]? =some (es (j+i)))→Ok (envS ts es j) tm
 | [],_,_=>trivial
 | t::ts,j,h=>⟨h 0 t rfl,envS_ok fun i u hu=>by
    have:=h (i+1) u (by simpa using hu)
    rwa [show j+(i+1)=j+1+i by omega]at this⟩
theorem envS_at {tm:Array Value} {es:Nat→Value}:∀ {ts:List Thr} {j:Nat},Ok (envS ts es j) tm→∀ i t,ts[i]? =some t→tm[t.d]? =some (es (j+i))
 | t::ts,j,h,0,u,hu=>by cases hu;exact h.1
 | t::ts,j,h,i+1,u,hu=>by
    have:=envS_at h.2 i u (by simpa using hu)
    rwa [show j+(i+1)=j+1+i by omega]
theorem Ok.app {σ τ:List (Nat × Value)} {tm:Array Value} (h:Ok σ tm) (h':Ok τ tm):Ok (σ++τ) tm:=by
 induction σ with
 | nil=>exact h'
 | cons p σ ih=>exact ⟨h.1,ih h.2⟩
theorem Ok.left {σ τ:List (Nat × Value)} {tm:Array Value} (h:Ok (σ++τ) tm):Ok σ tm:=by
 induction σ with
 | nil=>trivial
 | cons p σ ih=>exact ⟨h.1,ih h.2⟩
theorem Ok.right {σ τ:List (Nat × Value)} {tm:Array Value} (h:Ok (σ++τ) tm):Ok τ tm:=by
 induction σ with
 | nil=>exact h
 | cons p σ ih=>exact ih h.2
theorem Ok.aside {σ:List (Nat × Value)} {tm:Array Value} (h:Ok σ tm) {d:Nat} (hd:∀ p∈σ,p.1≠d) (v:Value):Ok σ (tm.setIfInBounds d v):=by
 induction σ with
 | nil=>trivial
 | cons p σ ih=>
   refine ⟨?_,ih h.2 fun q hq=>hd q (List.mem_cons_of_mem _ hq)⟩
   rw[Array.getElem?_setIfInBounds_ne (fun e=>hd p (List.mem_cons_self ..) e.symm)]
   exact h.1
def Thr.fin (t:Thr) (σ:List (Nat × Value)):Array Value:=
 match t.s with
 | some (_,x)=>match look σ x with
   | some v=>v.cells
   | none=> #[]
 | none=>t.z
theorem eff_act {P:Program} {all:Array Oper} {C:World→Prop} {Q:Exit→Act→World→Prop} {o:Oper} {a:Act} {w:World} {rest:List (Oper × Mk)} (hg:o.guard=none) (v:Value) (w':World)
 (hx:(execOp a.eval o).run P w= .ok (.value v) w'∨(execOp a.eval o).run P w= .ok .skip w'∧v=undef) (h:C w'∧wpO P all C Q rest (a.put o.dst v) w'):
 wpO P all C Q ((o,some false)::rest) a w:=by
 have hgo:Region.wanted o (yielded all a.tmps)=true:=by unfold Region.wanted;rw[hg]
 show (if Region.wanted o (yielded all a.tmps) then _ else _)
 rw[if_pos hgo]
 unfold Oper.wp
 rcases hx with hx | ⟨hx,rfl⟩
 ·rw[hx];exact h
 ·rw[hx];exact h
theorem wpOp_of_wpO {P:Program} {l:List Oper} {C:World→Prop} {Q:Exit→Act→World→Prop} {rest:List (Oper × Mk)} {i:Nat} {G:Act→World→Prop} {a:Act} {w:World} (hi:i<l.length) (hC:C w)
 (h:wpO P l.toArray C (nQ Q) ((nth l i,some false)::rest) a w) (hG:∀ a' w',C w'→wpO P l.toArray C (nQ Q) rest a' w'→G a' w') {R':Exit→Act→World→Prop}:
 wpOp P l.toArray (nQ R') i (fun a w=>C w∧G a w) a w:=by
 have hn:l.toArray[i]? =some (nth l i):=by simpa using nth_spec l i hi
 unfold wpOp
 simp only[hn]
 have h2:(if Region.wanted (nth l i) (yielded l.toArray a.tmps) then (nth l i).wp P a w (fun a' w'=>C w'∧wpO P l.toArray C (nQ Q) rest a' w') (nQ Q) else wpO P l.toArray C (nQ Q) rest (a.put (nth l i).dst undef) w):=h
 split at h2
 ·rename_i hw
  rw[if_pos hw]
  refine .inl (Oper.upon_monoQ (fun a w hh=>⟨hh.1,hG a w hh.1 hh.2⟩) (fun e a w he hh=>?_) h2)
  cases e<;>first | exact hh.elim | exact absurd rfl he
 ·rename_i hw;rw[if_neg hw];exact ⟨hC,hG _ _ hC h2⟩
section
variable {P:Program} {R:RR} {n:Nat} {k:List It} {l:List Oper} {M:World} {Ml:List Nat} {q0:List Nat} {mains:List (Nat × List Nat)} {thr:List Thr} {kp:Nat→List Nat}
structure ThrInv (ds:List Deferred) (n:Nat) (M:World) (Ml:List Nat) (thr:List Thr) (kp:Nat→List Nat) (JM:Nat→List (Nat × Value)→(Nat→Prop)→World→Prop) (p:Nat) (us:List Nat) (b:Nat→Nat) (B:Nat→Prop) (σ:List (Nat × Value)) (a:Act) (w:World):Prop where
 hd:a.defers=ds
 hs:a.tmps.size=n
 len:us.length=thr.length
 ok:Ok σ a.tmps
 keys:σ.map (·.1)=kp p
 main:JM p σ B w
 cls:Cls M Ml w
 lt:∀ q,B q→M.heap.size≤q∧q<w.heap.size
 at':∀ (j:Nat) (t:Thr),thr[j]? =some t→us[j]? =some 0∨(a.tmps[t.d]? =some (.pointer (some ⟨b j,0,none⟩))∧B (b j)∧((us[j]? =some 1∧Box w (b j) t.ty t.z)∨(us[j]? =some 2∧Box w (b j) t.ty (t.fin σ))))
 ne:∀ i j:Nat,i≠j→us[i]? ≠some 0→us[j]? ≠some 0→i<us.length→j<us.length→b i≠b j
theorem thrStep_spec {all:List (List Nat)} {len:Nat} {p:Nat} {us:List Nat} {A':Array Bool} {i:Nat}:∀ {ts:List Thr} {j:Nat},thrStep all len q0 mains thr p us A' i ts j=true→
 ∃ e t,ts[e]? =some t∧((us[j+e]? =some 0∧i=t.i∧us.set (j+e) 1∈all∧A'=arrS len q0 mains thr p (us.set (j+e) 1))∨
   (us[j+e]? =some 1∧p=mains.length∧(∃ s x,t.s=some (s,x)∧i=s)∧us.set (j+e) 2∈all∧A'=arrS len q0 mains thr p (us.set (j+e) 2)))
 | t::ts,j,h=>by
   unfold thrStep at h
   rw[Bool.or_eq_true]at h
   rcases h with h | h
   ·refine ⟨0,t,rfl,?_⟩
    split at h
    ·rename_i hu
     simp only[Bool.and_eq_true,beq_iff_eq,List.contains_iff_mem]at h
     exact .inl ⟨hu,Nat.eq_of_beq_eq_true h.1,h.2.1,h.2.2⟩
    ·rename_i hu
     split at h
     ·rename_i s x hsx
      simp only[Bool.and_eq_true,beq_iff_eq,List.contains_iff_mem]at h
      exact .inr ⟨hu,Nat.eq_of_beq_eq_true h.2.1,⟨s,x,hsx,Nat.eq_of_beq_eq_true h.1⟩,h.2.2.1,h.2.2.2⟩
     ·cases h
    ·cases h
   ·obtain ⟨e,t',h1,h2⟩:=thrStep_spec h
    refine ⟨e+1,t',by simpa using h1,?_⟩
    rwa [show j+(e+1)=j+1+e by omega]
theorem thrSets_zero:∀ ts:List Thr,thrSets ts (List.replicate ts.length 0)=[]
 | []=>rfl
 | t::ts=>by
   rw[List.length_cons,List.replicate_succ]
   show []++thrSets ts (List.replicate ts.length 0)=[]
   rw[thrSets_zero ts];rfl
theorem gv_thr {σ:List (Nat × Value)} (heads:List Nat) (ts:List (Nat × Mk)) (qe:List Nat) (kp:Nat→List Nat) (JM:Nat→List (Nat × Value)→(Nat→Prop)→World→Prop) (hB:thrB l heads ts qe q0 mains thr=true)
 (hkey:(thr.all fun t=>(List.range (mains.length+1)).all fun p=> !(kp p).contains t.d)=true)
 (hdd:∀ (i j:Nat) (t u:Thr),i≠j→thr[i]? =some t→thr[j]? =some u→t.d≠u.d)
 (hal:∀ (j:Nat) (t:Thr),thr[j]? =some t→(nth l t.i).guard=none∧(nth l t.i).dst=some t.d∧t.d<n∧∀ e w,(execOp e (nth l t.i)).run P w= .ok (.value (.pointer (some ⟨w.heap.size,0,none⟩))) (w.alloc (.cells t.z t.ty)))
 (hst:∀ (j:Nat) (t:Thr) (s x:Nat),thr[j]? =some t→t.s=some (s,x)→(nth l s).guard=none∧(nth l s).dst=none∧(P.info? t.ty).map (·.size)=some t.z.size∧noSel (nth l s).op=true∧∀ b v,known [(t.d,.pointer (some ⟨b,0,none⟩)),(x,v)] (nth l s).op.operands.toList=true∧
   execOp (evr [(t.d,.pointer (some ⟨b,0,none⟩)),(x,v)]) (nth l s)=(do Instr.storeAt t.ty (.pointer (some ⟨b,0,none⟩)) v;pure .skip))
 (hval:∀ σ B w,JM mains.length σ B w→∀ (j:Nat) (t:Thr) (s x:Nat),thr[j]? =some t→t.s=some (s,x)→∃ v,look σ x=some v∧v.cells.size=t.z.size∧∀ u∈v.cells.toList,u.oneCell'=true)
 (hgrow:∀ p σ B w w' b,p≤mains.length→JM p σ B w→(∀ q,B q→M.heap.size≤q∧q<w.heap.size)→Cls M Ml w→b=w.heap.size→w.grownBy w' none→w'.heap.size=b+1→JM p σ (fun q=>B q∨q=b) w')
 (hwrite:∀ σ B w w' b,JM mains.length σ B w→(∀ q,B q→M.heap.size≤q∧q<w.heap.size)→Cls M Ml w→B b→w.grownBy w' (some b)→w'.heap.size=w.heap.size→JM mains.length σ B w')
 (hmain:∀ (p m:Nat) (qs':List Nat),mains[p]? =some (m,qs')→∀ σ B w es,JM p σ B w→(∀ q,B q→M.heap.size≤q∧q<w.heap.size)→Cls M Ml w→
   Run P R n (.ops l.toArray (Cls M Ml) (ordL l ((m,some false)::qs qs')):: .goal (fun a' w'=>(∃ row,w.grownBy w' row∧∀ g,row=some g→g∈Ml∧g<M.heap.size)∧a'.defers=R.ds∧a'.tmps.size=n∧∃ σ',σ'.map (·.1)=kp (p+1)∧JM (p+1) σ' B w'∧Ok (σ'++envS thr es 0) a'.tmps)::k) .normal (σ++envS thr es 0) w)
 (hq:Run P R n (.ops l.toArray (Cls M Ml) (ordL l (qs q0)):: .goal (fun a' w'=>w'=M∧a'.defers=R.ds∧a'.tmps.size=n∧∃ σ',σ'.map (·.1)=kp 0∧JM 0 σ' (fun _=>False) M∧Ok σ' a'.tmps)::k) .normal σ M)
 (hend:∀ σ B w (b:Nat→Nat),JM mains.length σ B w→(∀ q,B q→M.heap.size≤q∧q<w.heap.size)→Cls M Ml w→(∀ (j:Nat) (t:Thr),thr[j]? =some t→B (b j)∧Box w (b j) t.ty (t.fin σ))→(∀ i j:Nat,i≠j→i<thr.length→j<thr.length→b i≠b j)→
   Run P R n (.ops l.toArray (Cls M Ml) (ordL l (qs qe)):: .ops l.toArray (Cls M Ml) (ordL l ts)::k) .normal (σ++envS thr (fun j=>.pointer (some ⟨b j,0,none⟩)) 0) w):
 Run P R n (.any l (Cls M Ml) heads ts heads.length (Array.replicate l.length false)::k) .normal σ M:=by
 simp only[thrB,Bool.and_eq_true,List.contains_iff_mem]at hB
 obtain ⟨htail,⟨hq0,hz⟩,hok0,hcnt0,hall⟩:=hB
 have hkey':∀ (j:Nat) (t:Thr),thr[j]? =some t→∀ p,p≤mains.length→t.d∉kp p:=fun j t ht p hp=>by
  have h1:=List.all_eq_true.1 hkey t (List.mem_of_getElem? ht)
  have h2:=List.all_eq_true.1 h1 p (List.mem_range.2 (by omega))
  simpa using h2
 have key:∀ f p us b B σ a w,p≤mains.length→us∈allUs (Nat.beq p mains.length) thr→ThrInv R.ds n M Ml thr kp JM p us b B σ a w→f+cnt (arrS l.length q0 mains thr p us)=heads.length→
  wpI P l (Cls M Ml) (K P R k) heads ts f (arrS l.length q0 mains thr p us) a w:=by
  intro f
  induction f using Nat.strongRecOn with
  | _ f ih=>
  intro p us b B σ a w hp hus I hf
  have hat:=List.all_eq_true.1 (List.all_eq_true.1 hall p (List.mem_range.2 (by omega))) us hus
  unfold okAt at hat
  simp only[]at hat
  cases hfn:(Nat.beq p mains.length&&doneB thr us) with
  | true=>
    rw[hfn]at hat
    simp only[cond_true,Bool.and_eq_true]at hat hfn
    obtain ⟨hokq,hcl,hh,hc1,hc2,hre⟩:=hat
    have hc1:=Nat.eq_of_beq_eq_true hc1
    have hc2:=Nat.eq_of_beq_eq_true hc2
    have hpm:=Nat.eq_of_beq_eq_true hfn.1
    subst hpm
    have hu:∀ (j:Nat) (t:Thr),thr[j]? =some t→us[j]? ≠some 0∧(us[j]? =some 1→t.s=none):=fun j t ht=>by
     have hj:j<us.length:=by rw[I.len];exact (List.getElem?_eq_some_iff.1 ht).1
     have h1:=List.all_eq_true.1 hfn.2 (t,us[j]) (List.mem_of_getElem? (i:=j) (List.getElem?_zip_eq_some.2 ⟨ht,List.getElem?_eq_getElem hj⟩))
     rw[List.getElem?_eq_getElem hj]
     revert h1
     cases hv:us[j] with
     | zero=>simp
     | succ v=>cases v<;>simp
    have hrun:=hend σ B w b I.main I.lt I.cls (fun j t ht=>by
     obtain ⟨h0,h1⟩:=hu j t ht
     rcases I.at' j t ht with h | ⟨_,hb,h | h⟩
     ·exact absurd h h0
     ·refine ⟨hb,?_⟩
      unfold Thr.fin
      rw[h1 h.1]
      exact h.2
     ·exact ⟨hb,h.2⟩) (fun i j hij hi hj=>by
     have hi':=(hu i _ (List.getElem?_eq_getElem hi)).1
     have hj':=(hu j _ (List.getElem?_eq_getElem hj)).1
     exact I.ne i j hij hi' hj' (by rw[I.len];exact hi) (by rw[I.len];exact hj)) a I.hd I.hs (I.ok.app (envS_ok fun j t ht=>by
     rw[Nat.zero_add]
     rcases I.at' j t ht with h | ⟨h,_⟩
     ·exact absurd h (hu j t ht).1
     ·exact h))
    obtain rfl:f=0+qe.length:=by omega
    refine wpI_quiet htail qe _ a w hokq (closed_of hcl) I.cls (wpO_mono (fun e a2 w2 hh2=>?_) _ _ _ hrun)
    cases e<;>first | exact ⟨rfl,hh,hre,hh2⟩ | exact hh2.elim
  | false=>
    rw[hfn]at hat
    simp only[cond_false,Bool.and_eq_true,Bool.not_eq_true']at hat
    obtain ⟨hh,hblt,hne,hsteps⟩:=hat
    have hblt:=Nat.le_of_ble_eq_true hblt
    cases f with
    | zero=>omega
    | succ f=>
      refine ⟨hh,fun e=>(by rw[e]at hne;cases hne),fun i hi=>?_⟩
      have hst1:=List.all_eq_true.1 hsteps i hi
      simp only[Bool.and_eq_true,Bool.or_eq_true]at hst1
      obtain ⟨hc1,hst1⟩:=hst1
      have hc1:=Nat.eq_of_beq_eq_true hc1
      obtain ⟨_,o,ho,_⟩:=mem_ready.1 hi
      have hlt:i<l.length:=by have:=(Array.getElem?_eq_some_iff.1 ho).1;simpa using this
      rcases hst1 with hm1 | ht1
      · -- the chain goes on
        cases hmp:mains[p]? with
        | none=>rw[hmp]at hm1;cases hm1
        | some mq=>
          obtain ⟨m,qs'⟩:=mq
          rw[hmp]at hm1
          simp only[Bool.and_eq_true,beq_iff_eq,List.contains_iff_mem]at hm1
          obtain ⟨⟨him,h01⟩,hmem,hokq,hcl,harr,hc2,hc3⟩:=hm1
          have him:=Nat.eq_of_beq_eq_true him
          have hc2:=Nat.eq_of_beq_eq_true hc2
          subst him
          have hpl:p<mains.length:=(List.getElem?_eq_some_iff.1 hmp).1
          let es:Nat→Value:=fun j=>match thr[j]? with
           | some t=>(a.tmps[t.d]?).getD undef
           | none=>undef
          have hes:Ok (envS thr es 0) a.tmps:=envS_ok fun j t ht=>by
           have hd:=(hal j t ht).2.2.1
           have:a.tmps[t.d]? =some (a.tmps[t.d]'(by rw[I.hs];exact hd)):=Array.getElem?_eq_getElem _
           simp only[es,Nat.zero_add,ht,this,Option.getD_some]
          have hrun:=hmain p i qs' hmp σ B w es I.main I.lt I.cls a I.hd I.hs (I.ok.app hes)
          refine wpOp_of_wpO hlt I.cls hrun fun a1 w1 hC1 h1=>?_
          have hc3:=Nat.le_of_ble_eq_true hc3
          obtain ⟨f',rfl⟩:∃ f',f=f'+qs'.length:=⟨f-qs'.length,by omega⟩
          refine wpI_quiet htail qs' _ a1 w1 hokq (closed_of hcl) hC1 (wpO_mono (fun e a2 w2 hh2=>?_) _ _ _ h1)
          cases e with
          | normal=>
            obtain ⟨⟨row,hg,hrow⟩,hd2,hs2,σ',hk2,hJ2,hok2⟩:=(show (∃ row,w.grownBy w2 row∧∀ g,row=some g→g∈Ml∧g<M.heap.size)∧a2.defers=R.ds∧a2.tmps.size=n∧∃ σ',σ'.map (·.1)=kp (p+1)∧JM (p+1) σ' B w2∧Ok (σ'++envS thr es 0) a2.tmps from hh2)
            refine ⟨rfl,?_⟩
            rw[harr]
            refine ih f' (by omega) (p+1) us b B σ' a2 w2 hpl hmem ⟨hd2,hs2,I.len,hok2.left,hk2,hJ2,I.cls.grown hg (fun g e=>.inl (hrow g e).1),fun q hq=>⟨(I.lt q hq).1,Nat.lt_of_lt_of_le (I.lt q hq).2 hg.size⟩,fun j t ht=>?_,I.ne⟩ (by rw[← harr,hc2];omega)
            rcases I.at' j t ht with h | ⟨h,hb,h2⟩
            ·exact .inl h
            ·have h3:=envS_at hok2.right j t ht
             simp only[es,Nat.zero_add,ht,h,Option.getD_some]at h3
             refine .inr ⟨h3,hb,?_⟩
             rcases h2 with ⟨h4,h5⟩ | ⟨h4,_⟩
             ·exact .inl ⟨h4,h5.grown hg (fun g e=>by have:=(hrow g e).2;have:=(I.lt _ hb).1;omega)⟩
             ·have:=List.all_eq_true.1 h01 2 (List.mem_of_getElem? h4)
              exact absurd this (by decide)
          | _=>exact hh2.elim
      ·obtain ⟨e,t,hte,h1 | h1⟩:=thrStep_spec ht1
       · -- a box is laid
         obtain ⟨hu0,rfl,hmem,harr⟩:=h1
         rw[Nat.zero_add]at hu0 hmem harr
         obtain ⟨g1,g2,g3,g4⟩:=hal e t hte
         have hel:e<us.length:=(List.getElem?_eq_some_iff.1 hu0).1
         have hg:w.grownBy (w.alloc (.cells t.z t.ty)) none:=grown_alloc w _
         have hC':Cls M Ml (w.alloc (.cells t.z t.ty)):=I.cls.grown hg (fun _ e=>by cases e)
         refine wpOp_of_wpO (rest:=[]) (Q:=fun _ a' w'=>a'=a.put (some t.d) (.pointer (some ⟨w.heap.size,0,none⟩))∧w'=w.alloc (.cells t.z t.ty)) hlt I.cls
          (eff_act g1 _ _ (.inl (g4 _ _)) ⟨hC',by rw[g2];exact ⟨rfl,rfl⟩⟩) fun a1 w1 _ h1=>?_
         obtain ⟨ha1,hw1⟩:=(show a1=_∧w1=_ from h1)
         subst ha1;subst hw1
         rw[harr]
         have hbox:Box (w.alloc (.cells t.z t.ty)) w.heap.size t.ty t.z:=heap_alloc_new w _
         have hsz:(w.alloc (.cells t.z t.ty)).heap.size=w.heap.size+1:=by simp
         refine ih f (Nat.lt_succ_self f) p (us.set e 1) (fun j=>if j=e then w.heap.size else b j) (fun q=>B q∨q=w.heap.size) σ _ _ hp hmem
          ⟨I.hd,by simpa [Act.put] using I.hs,by rw[List.length_set];exact I.len,?_,I.keys,hgrow p σ B w _ _ hp I.main I.lt I.cls rfl hg hsz,hC',fun q hq=>?_,fun j u hj=>?_,fun i j hij hi hj hil hjl=>?_⟩ (by rw[← harr,hc1];omega)
         ·refine I.ok.aside (fun q hq=>?_) _
          have h2:=hkey' e t hte p hp
          rw[← I.keys]at h2
          exact fun e=>h2 (by rw[← e];exact List.mem_map_of_mem hq)
         ·rcases hq with hq | rfl
          ·exact ⟨(I.lt q hq).1,by have:=(I.lt q hq).2;omega⟩
          ·exact ⟨I.cls.1,by omega⟩
         ·by_cases hje:j=e
          ·subst hje
           rw[hte]at hj;cases hj
           refine .inr ⟨?_,by simp,.inl ⟨by rw[List.getElem?_set_self hel],by simpa using hbox⟩⟩
           simp only[if_true]
           exact Array.getElem?_setIfInBounds_self_of_lt (by rw[I.hs];exact g3)
          ·rw[List.getElem?_set_ne (Ne.symm hje)]
           rcases I.at' j u hj with h | ⟨h,hb,h2⟩
           ·exact .inl h
           ·refine .inr ⟨?_,by simp only[if_neg hje];exact .inl hb,?_⟩
            ·simp only[if_neg hje]
             show (a.tmps.setIfInBounds t.d _)[u.d]? =_
             rw[Array.getElem?_setIfInBounds_ne (hdd e j t u (Ne.symm hje) hte hj)]
             exact h
            ·simp only[if_neg hje]
             rcases h2 with ⟨h4,h5⟩ | ⟨h4,h5⟩
             ·exact .inl ⟨h4,h5.grown hg (fun _ e=>by cases e)⟩
             ·exact .inr ⟨h4,h5.grown hg (fun _ e=>by cases e)⟩
         ·rw[List.length_set]at hil hjl
          have hB:∀ q:Nat,q≠e→us[q]? ≠some 0→q<us.length→b q<w.heap.size:=fun q hq h0 hl=>by
           rcases I.at' q (thr[q]'(by rw[← I.len];exact hl)) (List.getElem?_eq_getElem _) with h | ⟨_,hb,_⟩
           ·exact absurd h h0
           ·exact (I.lt _ hb).2
          by_cases hie:i=e
          ·subst hie
           have hji:j≠i:=Ne.symm hij
           rw[List.getElem?_set_ne hij]at hj
           have:=hB j hji hj hjl
           simp only[if_true,if_neg hji]
           omega
          ·rw[List.getElem?_set_ne (Ne.symm hie)]at hi
           have h3:=hB i hie hi hil
           by_cases hje:j=e
           ·subst hje
            simp only[if_true,if_neg hie]
            omega
           ·rw[List.getElem?_set_ne (Ne.symm hje)]at hj
            simp only[if_neg hie,if_neg hje]
            exact I.ne i j hij hi hj hil hjl
       · -- a box is written
         obtain ⟨hu1,rfl,⟨s,x,hsx,rfl⟩,hmem,harr⟩:=h1
         rw[Nat.zero_add]at hu1 hmem harr
         obtain ⟨g1,g2,g3,g4,g5⟩:=hst e t i x hte hsx
         have hel:e<us.length:=(List.getElem?_eq_some_iff.1 hu1).1
         obtain ⟨v,hv,hvs,hone⟩:=hval σ B w I.main e t i x hte hsx
         rcases I.at' e t hte with h | ⟨hptr,hb,h2⟩
         ·rw[hu1]at h;cases h
         rcases h2 with ⟨_,hbox⟩ | ⟨h4,_⟩
         case inr=>rw[hu1]at h4;cases h4
         obtain ⟨g6,g7⟩:=g5 (b e) v
         have hokx:Ok [(t.d,.pointer (some ⟨b e,0,none⟩)),(x,v)] a.tmps:=⟨hptr,I.ok.look hv,trivial⟩
         have hrun:(execOp a.eval (nth l i)).run P w= .ok .skip (w.setRow (b e) v.cells):=by
          rw[exec_ok hokx g4 g6,g7]
          have h5:=run_storeCells_at P (b e) 0 t.ty v.cells.toList 0 t.z w hbox (by simp[hvs]) hone
          have h6:(t.z.toList.take (0+0)++v.cells.toList++t.z.toList.drop (0+0+v.cells.toList.length)).toArray=v.cells:=by
           have h7:t.z.toList.drop v.cells.toList.length=[]:=List.drop_eq_nil_of_le (by simp[hvs])
           simp only[Nat.add_zero,Nat.zero_add,List.take_zero,List.nil_append,h7,List.append_nil]
          rw[h6]at h5
          have g3':(P.info? t.ty).map (·.size)=some v.cells.size:=by rw[hvs];exact g3
          simp[Instr.storeAt,Instr.sureAddr,storeVar,run_sizeOf' g3',h5]
         have hg:w.grownBy (w.setRow (b e) v.cells) (some (b e)):=⟨rfl,rfl,rfl,by simp[World.setRow],fun k _ hk'=>setRow_other w (b e) k _ (fun e=>hk' (by rw[e]))⟩
         have hC':Cls M Ml (w.setRow (b e) v.cells):=I.cls.grown hg (fun g e'=>by cases e';exact .inr (I.lt _ hb).1)
         have hsz:(w.setRow (b e) v.cells).heap.size=w.heap.size:=by simp[World.setRow]
         have hnew:Box (w.setRow (b e) v.cells) (b e) t.ty v.cells:=setRow_heap w (b e) t.z _ t.ty _ hbox
         refine wpOp_of_wpO (rest:=[]) (Q:=fun _ a' w'=>a'=a∧w'=w.setRow (b e) v.cells) hlt I.cls
          (eff_act g1 undef _ (.inr ⟨hrun,rfl⟩) ⟨hC',by rw[g2];exact ⟨rfl,rfl⟩⟩) fun a1 w1 _ h1=>?_
         obtain ⟨ha1,hw1⟩:=(show a1=_∧w1=_ from h1)
         subst ha1;subst hw1
         rw[harr]
         refine ih f (Nat.lt_succ_self f) _ (us.set e 2) b B σ _ _ hp hmem ⟨I.hd,I.hs,by rw[List.length_set];exact I.len,I.ok,I.keys,hwrite σ B w _ _ I.main I.lt I.cls hb hg hsz,hC',fun q hq=>⟨(I.lt q hq).1,by rw[hsz];exact (I.lt q hq).2⟩,fun j u hj=>?_,fun i j hij hi hj hil hjl=>?_⟩ (by rw[← harr,hc1];omega)
         ·by_cases hje:j=e
          ·subst hje
           rw[hte]at hj;cases hj
           refine .inr ⟨hptr,hb,.inr ⟨by rw[List.getElem?_set_self hel],?_⟩⟩
           unfold Thr.fin
           rw[hsx]
           simp only[hv]
           exact hnew
          ·rw[List.getElem?_set_ne (Ne.symm hje)]
           rcases I.at' j u hj with h | ⟨h,hb',h2⟩
           ·exact .inl h
           ·have hne:b e≠b j:=I.ne e j (Ne.symm hje) (by rw[hu1];simp) (by
             rcases h2 with ⟨h4,_⟩ | ⟨h4,_⟩<;>rw[h4]<;>simp) hel (by rw[I.len];exact (List.getElem?_eq_some_iff.1 hj).1)
            refine .inr ⟨h,hb',?_⟩
            rcases h2 with ⟨h4,h5⟩ | ⟨h4,h5⟩
            ·exact .inl ⟨h4,h5.grown hg (fun g e'=>by cases e';exact hne)⟩
            ·exact .inr ⟨h4,h5.grown hg (fun g e'=>by cases e';exact hne)⟩
         ·rw[List.length_set]at hil hjl
          refine I.ne i j hij ?_ ?_ hil hjl
          ·by_cases hie:i=e
           ·subst hie;rw[hu1];simp
           ·rwa [List.getElem?_set_ne (Ne.symm hie)]at hi
          ·by_cases hje:j=e
           ·subst hje;rw[hu1];simp
           ·rwa [List.getElem?_set_ne (Ne.symm hje)]at hj
 intro a hd hs hok
 have hq0:=Nat.le_of_ble_eq_true hq0
 have hcnt0:=Nat.eq_of_beq_eq_true hcnt0
 have harr0:arrS l.length q0 mains thr 0 (List.replicate thr.length 0)=sets q0 (Array.replicate l.length false):=by
  unfold arrS
  rw[thrSets_zero,List.take_zero]
  simp[mainSets]
 have hcl:Closed l.toArray (Array.replicate l.length false):=by
  intro j oj _ hl' e _ _
  exfalso
  rw[show (Array.replicate l.length false).getD j false=false from by
   rcases Nat.lt_or_ge j l.length with h | h
   ·simp[h]
   ·simp[h]]at hl'
  cases hl'
 have h:=wpI_quiet (P:=P) (C:=Cls M Ml) (Q:=K P R k) (ts:=ts) (f:=heads.length-q0.length) htail q0 (Array.replicate l.length false) a M hok0 hcl (Cls.refl M Ml) (wpO_mono (fun e a2 w2 hh2=>?_) _ _ _ (hq a hd hs hok))
 ·rw[Nat.sub_add_cancel hq0]at h
  exact h
 ·cases e with
  | normal=>
    obtain ⟨hw,hd2,hs2,σ',hk2,hJ2,hok2⟩:=(show w2=M∧a2.defers=R.ds∧a2.tmps.size=n∧∃ σ',σ'.map (·.1)=kp 0∧JM 0 σ' (fun _=>False) M∧Ok σ' a2.tmps from hh2)
    subst hw
    refine ⟨rfl,?_⟩
    rw[← harr0]
    refine key _ 0 _ (fun _=>0) (fun _=>False) σ' a2 w2 (Nat.zero_le _) hz ⟨hd2,hs2,by simp,hok2,hk2,hJ2,Cls.refl _ _,fun _ h=>h.elim,fun j t ht=>.inl ?_,fun i j _ hi _ hil _=>?_⟩ (by rw[harr0,hcnt0];omega)
    ·rw[List.getElem?_replicate,if_pos (List.getElem?_eq_some_iff.1 ht).1]
    ·rw[List.length_replicate]at hil
     rw[List.getElem?_replicate,if_pos hil]at hi
     exact absurd rfl hi
  | _=>exact hh2.elim
def allT:List Thr→(Thr→Prop)→Prop
 | [],_=>True
 | t::ts,Q=>Q t∧allT ts Q
theorem allT_at {Q:Thr→Prop}:∀ {ts:List Thr},allT ts Q→∀ (j:Nat) (t:Thr),ts[j]? =some t→Q t
 | t::ts,h,0,u,hu=>by cases hu;exact h.1
 | t::ts,h,j+1,u,hu=>allT_at h.2 j u (by simpa using hu)
theorem gv_thrs {σ:List (Nat × Value)} (heads:List Nat) (ts:List (Nat × Mk)) (qe:List Nat) (q0:List Nat) (mains:List (Nat × List Nat)) (thr:List Thr) (kp:Nat→List Nat) (JM:Nat→List (Nat × Value)→(Nat→Prop)→World→Prop) (hB:thrB l heads ts qe q0 mains thr=true)
 (hkey:(thr.all fun t=>(List.range (mains.length+1)).all fun p=> !(kp p).contains t.d)=true)
 (hdd:(thr.map (·.d)).Nodup)
 (hal:allT thr fun t=>(nth l t.i).guard=none∧(nth l t.i).dst=some t.d∧t.d<n∧∀ e w,(execOp e (nth l t.i)).run P w= .ok (.value (.pointer (some ⟨w.heap.size,0,none⟩))) (w.alloc (.cells t.z t.ty)))
 (hst:allT thr fun t=>∀ s x,t.s=some (s,x)→(nth l s).guard=none∧(nth l s).dst=none∧(P.info? t.ty).map (·.size)=some t.z.size∧noSel (nth l s).op=true∧∀ b v,known [(t.d,.pointer (some ⟨b,0,none⟩)),(x,v)] (nth l s).op.operands.toList=true∧
   execOp (evr [(t.d,.pointer (some ⟨b,0,none⟩)),(x,v)]) (nth l s)=(do Instr.storeAt t.ty (.pointer (some ⟨b,0,none⟩)) v;pure .skip))
 (hval:∀ σ B w,JM mains.length σ B w→allT thr fun t=>∀ s x,t.s=some (s,x)→∃ v,look σ x=some v∧v.cells.size=t.z.size∧∀ u∈v.cells.toList,u.oneCell'=true)
 (hgrow:∀ p σ B w w' b,JM p σ B w→(∀ q,B q→M.heap.size≤q∧q<w.heap.size)→Cls M Ml w→b=w.heap.size→w.grownBy w' none→w'.heap.size=b+1→JM p σ (fun q=>B q∨q=b) w')
 (hwrite:∀ σ B w w' b,JM mains.length σ B w→(∀ q,B q→M.heap.size≤q∧q<w.heap.size)→Cls M Ml w→B b→w.grownBy w' (some b)→w'.heap.size=w.heap.size→JM mains.length σ B w')
 (hmain:∀ (p m:Nat) (qs':List Nat),mains[p]? =some (m,qs')→∀ σ B w es,JM p σ B w→(∀ q,B q→M.heap.size≤q∧q<w.heap.size)→Cls M Ml w→
   Run P R n (.ops l.toArray (Cls M Ml) (ordL l ((m,some false)::qs qs')):: .goal (fun a' w'=>(∃ row,w.grownBy w' row∧∀ g,row=some g→g∈Ml∧g<M.heap.size)∧a'.defers=R.ds∧a'.tmps.size=n∧∃ σ',σ'.map (·.1)=kp (p+1)∧JM (p+1) σ' B w'∧Ok (σ'++envS thr es 0) a'.tmps)::k) .normal (σ++envS thr es 0) w)
 (hq:Run P R n (.ops l.toArray (Cls M Ml) (ordL l (qs q0)):: .goal (fun a' w'=>w'=M∧a'.defers=R.ds∧a'.tmps.size=n∧∃ σ',σ'.map (·.1)=kp 0∧JM 0 σ' (fun _=>False) M∧Ok σ' a'.tmps)::k) .normal σ M)
 (hend:∀ σ B w (b:Nat→Nat),JM mains.length σ B w→(∀ q,B q→M.heap.size≤q∧q<w.heap.size)→Cls M Ml w→(∀ (j:Nat) (t:Thr),thr[j]? =some t→B (b j)∧Box w (b j) t.ty (t.fin σ))→(∀ i j:Nat,i≠j→i<thr.length→j<thr.length→b i≠b j)→
   Run P R n (.ops l.toArray (Cls M Ml) (ordL l (qs qe)):: .ops l.toArray (Cls M Ml) (ordL l ts)::k) .normal (σ++envS thr (fun j=>.pointer (some ⟨b j,0,none⟩)) 0) w):
 Run P R n (.any l (Cls M Ml) heads ts heads.length (Array.replicate l.length false)::k) .normal σ M:=
 gv_thr heads ts qe kp JM hB hkey (fun i j t u hij hi hj e=>by
  have h1:=List.pairwise_iff_getElem.1 hdd
  obtain ⟨hil,hi'⟩:=List.getElem?_eq_some_iff.1 hi
  obtain ⟨hjl,hj'⟩:=List.getElem?_eq_some_iff.1 hj
  rcases Nat.lt_or_gt_of_ne hij with h | h
  ·exact h1 i j (by simpa using hil) (by simpa using hjl) h (by simp[hi',hj',e])
  ·exact h1 j i (by simpa using hjl) (by simpa using hil) h (by simp[hi',hj',e]))
  (allT_at hal) (fun j t s x ht hs=>allT_at hst j t ht s x hs) (fun σ B w hJ j t s x ht hs=>allT_at (hval σ B w hJ) j t ht s x hs)
  (fun p σ B w w' b _=>hgrow p σ B w w' b) hwrite hmain hq hend
end
end Go.Gv
