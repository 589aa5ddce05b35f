/-
  Own helper texts:an argument of a type that holds a list of its own kind can be read. No condition of its own.
-/
import Derived.Test.YtmpmeiihjnnomaaGreatDoorGpc
import Derived.Test.YtmpmeiihjnnomaaGreatDoorGo
set_option linter.all false
namespace Go.Gv
open Go.ChangeShapes Go.WideShapes Go.RowKit Go.Deep
def OpensK {α:Type} (k:Nat) (P:Program) (t:TypeId) (E:Enc α) (wf:α→Prop) (m:α→Nat):Prop:=
 P.cellsOf t=E.n∧∀ {H:Type} {enc:TypeId × Value→H} {w:World} {base:Nat} {sp:Nat→Bool} {held:Bool} {fuel:Nat} {cs:List Value} {y:DataW H × List MemPlace},
  DataW.trod enc P w base sp held fuel t cs=some y→bulk y.1≤k→∃ x,E.rep w (fun k=>k<w.heap.size) cs x∧wf x∧m x≤bulk y.1
def OpensFK {α:Type} (k:Nat) (P:Program) (fs:List Field) (off:Nat) (E:Enc α) (wf:α→Prop) (m:α→Nat):Prop:=
 ∀ {H:Type} {enc:TypeId × Value→H} {w:World} {base:Nat} {sp:Nat→Bool} {held:Bool} {fuel:Nat} {cs:List Value} {ys:List (DataW H × List MemPlace)},
   fs.mapM (fun f=>DataW.trod enc P w base sp held fuel f.type ((cs.drop f.offset).take (P.cellsOf f.type)))=some ys→bulkAll (ys.map (·.1))≤k→∃ x,E.rep w (fun k=>k<w.heap.size) ((cs.drop off).take E.n) x∧wf x∧m x≤bulkAll (ys.map (·.1))
section
variable {P:Program} {t:TypeId}
theorem Opens.K {α:Type} {k:Nat} {E:Enc α} {wf:α→Prop} {m:α→Nat} (h:Opens P t E wf m):OpensK k P t E wf m:=⟨h.1,fun h1 _=>h.2 h1⟩
theorem Opens.ofK {α:Type} {E:Enc α} {wf:α→Prop} {m:α→Nat} (h:∀ k,OpensK k P t E wf m):Opens P t E wf m:=⟨(h 0).1,fun h1=>(h _).2 h1 (Nat.le_refl _)⟩
theorem mem_bulk {H:Type} {D:Nat→DataW H}:∀ {n i:Nat},i<n→bulk (D i)≤bulkAll ((List.range n).map D)
 | 0,i,h=>by omega
 | n+1,i,h=>by
   rw[List.range_succ,List.map_append,bulkAll_append]
   simp only[List.map_cons,List.map_nil,bulkAll]
   rcases Nat.lt_or_ge i n with h1 | h1
   ·have:=mem_bulk (D:=D) h1;omega
   ·have:i=n:=by omega
    subst this;omega
theorem opens_sliceK {α:Type} {k:Nat} {e:TypeId} {E:Enc α} {wf:α→Prop} {m:α→Nat} (ht:P.underlying t=some (.slice e)) (hc:P.cellsOf t=1) (hE:∀ j,j<k→OpensK j P e E wf m) (hen:P.cellsOf e=E.n) (hn:Nat.blt 0 E.n=true):
 OpensK k P t (slE E) (fun xs=>(∀ x∈xs,wf x)∧xs.length≤maxLen) (sumL m):=by
 have hn:0<E.n:=Nat.lt_of_succ_le (Nat.le_of_ble_eq_true hn)
 refine ⟨hc,fun {H enc w base sp held fuel cs y} h hk=>?_⟩
 rcases open_slice ht h with ⟨rfl,rfl⟩ | ⟨a,len,cap,mm,n,D,Pl,rfl,hb,hl,hm,hmm,rfl,hx⟩
 ·refine ⟨[],⟨none,0,rfl,Rd.nil E w _ none 0⟩,⟨fun x hx=>by simp at hx,Nat.zero_le _⟩,?_⟩
  simp[sumL,bulk]
 ·have hlm:len≤mm:=by rw[hmm];split<;>omega
  rw[hen]at hx
  have hbulk:∀ i,i<len→bulk (D i)<k:=fun i hi=>by
   have h1:=mem_bulk (D:=D) hi
   simp only[bulk]at hk
   omega
  obtain ⟨xs,hlen,hxs⟩:=list_of (n:=len) (p:=fun i x=>∃ c,E.rep w (fun k=>k<w.heap.size) c x∧w.cells? base (a.add (i*E.n)) E.n=some c∧wf x∧m x≤bulk (D i)) fun i hi=>by
   obtain ⟨c,h1,h2⟩:=hx i (by omega)
   obtain ⟨x,g1,g2,g3⟩:=(hE _ (hbulk i hi)).2 h2 (Nat.le_refl _)
   exact ⟨x,c,g1,h1,g2,g3⟩
  refine ⟨xs,⟨some a,cap,by rw[hlen],by omega,fun i x hi=>?_⟩,⟨fun x hx=>?_,by omega⟩,?_⟩
  ·obtain ⟨c,g1,g2,_,_⟩:=hxs i x hi
   obtain ⟨_,hcl,hcell⟩:=World.cells?_some g2
   have key:∀ j v,c[j]? =some v→w.cell? ((a.add (i*E.n)).add j)=some v:=fun j v hv=>by
    rw[hcell j (by rw[← hcl];exact (List.getElem?_eq_some_iff.1 hv).1),hv]
   have h0:∃ v,c[0]? =some v:=⟨_,List.getElem?_eq_getElem (by omega)⟩
   obtain ⟨v0,hv0⟩:=h0
   have hs:=spot_none (key 0 v0 hv0)
   rw[add_zero']at hs
   have hs0:a.spot=none:=by
    by_cases hi0:i*E.n=0
    ·unfold Addr.add at hs;rw[if_pos hi0]at hs;exact hs.1
    ·have hi':0<xs.length:=by
      have:=(List.getElem?_eq_some_iff.1 hi).1
      omega
     obtain ⟨c',g1',g2',_,_⟩:=hxs 0 _ (List.getElem?_eq_getElem hi')
     obtain ⟨_,hcl',hcell'⟩:=World.cells?_some g2'
     have:=hcell' 0 hn
     rw[List.getElem?_eq_getElem (by omega:0<c'.length)]at this
     have:=spot_none this
     rw[Nat.zero_mul,add_zero',add_zero']at this
     exact this.1
   obtain ⟨b,off,spot⟩:=a
   have hs0:spot=none:=hs0
   subst hs0
   refine ⟨b,off,c,rfl,?_,g1,fun j v hv=>?_⟩
   ·have:=hs.2
    rw[add_lit]at this
    exact this
   ·have:=key j v hv
    rw[add_lit]at this
    exact this
  ·obtain ⟨i,hi⟩:=List.mem_iff_getElem?.1 hx
   obtain ⟨_,_,_,g,_⟩:=hxs i x hi
   exact g
  ·have:=sum_le (D:=D) (m:=m) len xs hlen fun i x hi=>by
    obtain ⟨_,_,_,_,g⟩:=hxs i x hi
    exact g
   show (xs.map m).sum+1≤bulkAll _+bulkAll _+1
   omega
theorem opensF_oneK {α:Type} {k:Nat} (u:TypeId) {f:Field} {off:Nat} {E:Enc α} {wf:α→Prop} {m:α→Nat} (ho:f.offset=off) (hu:f.type=u) (h:OpensK k P u E wf m):OpensFK k P [f] off E wf m:=by
 subst hu
 intro H enc w base sp held fuel cs ys hy hk
 simp only[List.mapM_cons,List.mapM_nil]at hy
 cases h1:DataW.trod enc P w base sp held fuel f.type ((cs.drop f.offset).take (P.cellsOf f.type)) with
 | none=>rw[h1]at hy;cases hy
 | some y=>
   rw[h1]at hy
   cases hy
   rw[ho,h.1]at h1
   simp only[List.map_cons,List.map_nil,bulkAll]at hk ⊢
   obtain ⟨x,g1,g2,g3⟩:=h.2 h1 (by omega)
   exact ⟨x,g1,g2,by omega⟩
theorem opensF_consK {α β:Type} {k:Nat} (u:TypeId) {f:Field} {fs:List Field} {off:Nat} {E:Enc α} {F:Enc β} {wf:α→Prop} {wg:β→Prop} {m:α→Nat} {m':β→Nat} (ho:f.offset=off) (hu:f.type=u) (h:OpensK k P u E wf m) (hs:OpensFK k P fs (off+E.n) F wg m'):
 OpensFK k P (f::fs) off (prE E F) (fun x=>wf x.1∧wg x.2) (fun x=>m x.1+m' x.2):=by
 subst hu
 intro H enc w base sp held fuel cs ys hy hk
 rw[List.mapM_cons]at hy
 cases h1:DataW.trod enc P w base sp held fuel f.type ((cs.drop f.offset).take (P.cellsOf f.type)) with
 | none=>rw[h1]at hy;cases hy
 | some y=>
   rw[h1]at hy
   cases h2:fs.mapM (fun f=>DataW.trod enc P w base sp held fuel f.type ((cs.drop f.offset).take (P.cellsOf f.type))) with
   | none=>simp[h2]at hy
   | some ys'=>
     simp[h2]at hy
     subst hy
     rw[ho,h.1]at h1
     simp only[List.map_cons,bulkAll]at hk ⊢
     obtain ⟨x,g1,g2,g3⟩:=h.2 h1 (by omega)
     obtain ⟨z,k1,k2,k3⟩:=hs h2 (by omega)
     refine ⟨(x,z),⟨_,_,?_,g1,k1⟩,⟨g2,k2⟩,by show m x+m' z≤_;omega⟩
     show (cs.drop off).take (E.n+F.n)=_
     rw[List.take_add,List.drop_drop]
theorem opens_structK {α:Type} {k:Nat} {fs:Array Field} {E:Enc α} {wf:α→Prop} {m:α→Nat} (ht:P.underlying t=some (.struct fs)) (hc:P.cellsOf t=E.n) (h:∀ j,j<k→OpensFK j P fs.toList 0 E wf m):OpensK k P t E wf (fun x=>m x+1):=by
 refine ⟨hc,fun {H enc w base sp held fuel cs y} hy hk=>?_⟩
 cases fuel with
 | zero=>cases hy
 | succ fuel=>
   unfold DataW.trod at hy
   rw[ht]at hy
   have hy':(if cs.length=P.cellsOf t then (fs.toList.mapM fun f=>DataW.trod enc P w base sp held fuel f.type ((cs.drop f.offset).take (P.cellsOf f.type))).map fun xs=>(DataW.agg (xs.map (·.1)),xs.flatMap (·.2)) else none)=some y:=by
    split at hy<;>first | exact hy | simp_all
   split at hy'
   ·rename_i hl
    cases hm:fs.toList.mapM fun f=>DataW.trod enc P w base sp held fuel f.type ((cs.drop f.offset).take (P.cellsOf f.type)) with
    | none=>rw[hm]at hy';cases hy'
    | some ys=>
      rw[hm]at hy'
      cases hy'
      simp only[bulk]at hk
      obtain ⟨x,g1,g2,g3⟩:=h _ (Nat.lt_of_succ_le hk) hm (Nat.le_refl _)
      rw[List.drop_zero,List.take_of_length_le (by omega)]at g1
      exact ⟨x,g1,g2,Nat.succ_le_succ g3⟩
   ·cases hy'
theorem mapM_pair {α β γ:Type} (p:α→β) (G:β→Option γ):∀ l:List α,l.mapM (fun x=>G (p x))=(l.map p).mapM G
 | []=>rfl
 | x::l=>by rw[List.mapM_cons,List.map_cons,List.mapM_cons,mapM_pair p G l]
theorem opens_array {α:Type} {n:Nat} {e:TypeId} {E:Enc α} {wf:α→Prop} {m:α→Nat} (fs:List Field) (hfs:fs.map (fun f=>(f.type,f.offset))=(List.range n).map (fun i=>(e,i*P.cellsOf e))) (ht:P.underlying t=some (.array n e)) (hc:P.cellsOf t=E.n) (h:OpensF P fs 0 E wf m):Opens P t E wf (fun x=>m x+1):=by
 refine ⟨hc,fun {H enc w base sp held fuel cs y} hy=>?_⟩
 cases fuel with
 | zero=>cases hy
 | succ fuel=>
   unfold DataW.trod at hy
   rw[ht]at hy
   have hy':(if cs.length=P.cellsOf t then ((List.range n).mapM fun i=>DataW.trod enc P w base sp held fuel e ((cs.drop (i*P.cellsOf e)).take (P.cellsOf e))).map fun xs=>(DataW.agg (xs.map (·.1)),xs.flatMap (·.2)) else none)=some y:=by
    split at hy<;>first | exact hy | simp_all
   have hm0:((List.range n).mapM fun i=>DataW.trod enc P w base sp held fuel e ((cs.drop (i*P.cellsOf e)).take (P.cellsOf e)))=fs.mapM fun f=>DataW.trod enc P w base sp held fuel f.type ((cs.drop f.offset).take (P.cellsOf f.type)):=by
    have h1:=mapM_pair (fun i=>(e,i*P.cellsOf e)) (fun q:TypeId × Nat=>DataW.trod enc P w base sp held fuel q.1 ((cs.drop q.2).take (P.cellsOf q.1))) (List.range n)
    have h2:=mapM_pair (fun f:Field=>(f.type,f.offset)) (fun q:TypeId × Nat=>DataW.trod enc P w base sp held fuel q.1 ((cs.drop q.2).take (P.cellsOf q.1))) fs
    rw[hfs]at h2
    exact h1.trans h2.symm
   rw[hm0]at hy'
   split at hy'
   ·rename_i hl
    cases hm:fs.mapM fun f=>DataW.trod enc P w base sp held fuel f.type ((cs.drop f.offset).take (P.cellsOf f.type)) with
    | none=>rw[hm]at hy';cases hy'
    | some ys=>
      rw[hm]at hy'
      cases hy'
      obtain ⟨x,g1,g2,g3⟩:=h hm
      rw[List.drop_zero,List.take_of_length_le (by omega)]at g1
      exact ⟨x,g1,g2,Nat.succ_le_succ g3⟩
   ·cases hy'
end
/-! how much a piece holds -/
mutual
def mPc:Pc→Nat
 | .mk _ _ _ _ _ rs subs=>1+rs.length+mPcL subs
def mPcL:List Pc→Nat
 | []=>0
 | p::l=>mPc p+mPcL l
end
theorem mPcL_sum:∀ l:List Pc,mPcL l=(l.map mPc).sum
 | []=>by rw[mPcL];rfl
 | p::l=>by rw[mPcL,mPcL_sum l];simp
theorem sum_ones:∀ l:List (Int × Int),(l.map (fun _=>3)).sum=3*l.length
 | []=>rfl
 | x::l=>by rw[List.map_cons,List.sum_cons,sum_ones l,List.length_cons];omega
theorem pc_of {k:Nat} {P:Program} {t:TypeId} {wf:PcT→Prop} {m:PcT→Nat} (h:OpensK k P t pcT wf m) (hm:∀ x,mPc (Pc.of x)≤m x):OpensK k P t pcE (fun _=>True) mPc:=⟨h.1,fun h1 h2=>by
 obtain ⟨x,g1,g2,g3⟩:=h.2 h1 h2
 exact ⟨Pc.of x,pc_mk g1,trivial,Nat.le_trans (hm x) g3⟩⟩
end Go.Gv
