import Derived.Test.YtmpmeiihjnnomaaGreatDoorGpc
import Derived.Test.YtmpmeiihjnnomaaGreatDoorGo
set_option linter.all false
namespace Go.Gv
open Go.ChangeShapes Go.WideShapes Go.RowKit Go.Deep
def zvr {α:Type} (k:Nat) (P:Program) (t:TypeId) (E:Enc α) (wf:α->Prop) (m:α->Nat):Prop:=
 P.cellsOf t=E.n∧∀ {H:Type} {enc:TypeId × Value->H} {w:World} {base:Nat} {sp:Nat->Bool} {held:Bool} {fuel:Nat} {cs:List Value} {y:DataW H × List MemPlace},
  DataW.trod enc P w base sp held fuel t cs=some y->bulk y.1<=k->∃ x,E.rep w (fun k=>k<w.heap.size) cs x∧wf x∧m x<=bulk y.1
def zsf {α:Type} (k:Nat) (P:Program) (fs:List Field) (off:Nat) (E:Enc α) (wf:α->Prop) (m:α->Nat):Prop:=
 ∀ {H:Type} {enc:TypeId × Value->H} {w:World} {base:Nat} {sp:Nat->Bool} {held:Bool} {fuel:Nat} {cs:List Value} {ys:List (DataW H × List MemPlace)},
   fs.mapM (fun f=>DataW.trod enc P w base sp held fuel f.type ((cs.drop f.offset).take (P.cellsOf f.type)))=some ys->zzI (ys.map (·.1))<=k->∃ x,E.rep w (fun k=>k<w.heap.size) ((cs.drop off).take E.n) x∧wf x∧m x<=zzI (ys.map (·.1))
section
variable {P:Program} {t:TypeId}
theorem zxa.K {α:Type} {k:Nat} {E:Enc α} {wf:α->Prop} {m:α->Nat} (h:zxa P t E wf m):zvr k P t E wf m:=⟨h.1,fun h1 _=>h.2 h1⟩
theorem zxa.ofK {α:Type} {E:Enc α} {wf:α->Prop} {m:α->Nat} (h:∀ k,zvr k P t E wf m):zxa P t E wf m:=⟨(h 0).1,fun h1=>(h _).2 h1 (Nat.le_refl _)⟩
theorem zps {H:Type} {D:Nat->DataW H}:∀ {n i:Nat},i<n->bulk (D i)<=zzI ((List.range n).map D)
 | 0,i,h=>by omega
 | n+1,i,h=>by
   rw[List.range_succ,List.map_append,zws]
   simp only[List.map_cons,List.map_nil,zzI]
   rcases Nat.lt_or_ge i n with h1 | h1
   ·have:=zps (D:=D) h1;omega
   ·have:i=n:=by omega
    subst this;omega
theorem zrX {α:Type} {k:Nat} {e:TypeId} {E:Enc α} {wf:α->Prop} {m:α->Nat} (ht:P.underlying t=some (.slice e)) (hc:P.cellsOf t=1) (hE:∀ j,j<k->zvr j P e E wf m) (hen:P.cellsOf e=E.n) (hn:Nat.blt 0 E.n=true):
 zvr k P t (slE E) (fun xs=>(∀ x∈xs,wf x)∧xs.length<=maxLen) (zxE m):=by
 have hn:0<E.n:=Nat.lt_of_succ_le (Nat.le_of_ble_eq_true hn)
 refine ⟨hc,fun {H enc w s sp held ae cs y} h hk=>?_⟩
 rcases open_slice ht h with ⟨rfl,rfl⟩ | ⟨a,len,cap,mm,n,D,Pl,rfl,hb,hl,hm,ac,rfl,hx⟩
 ·refine ⟨[],⟨none,0,rfl,Rd.nil E w _ none 0⟩,⟨fun x hx=>by simp at hx,Nat.zero_le _⟩,?_⟩
  simp[zxE,bulk]
 ·have hlm:len<=mm:=by rw[ac];split<;>omega
  rw[hen]at hx
  have q:∀ i,i<len->bulk (D i)<k:=fun i hi=>by
   have h1:=zps (D:=D) hi
   simp only[bulk]at hk
   omega
  obtain ⟨xs,f,d⟩:=zqe (n:=len) (p:=fun i x=>∃ c,E.rep w (fun k=>k<w.heap.size) c x∧w.cells? s (a.add (i*E.n)) E.n=some c∧wf x∧m x<=bulk (D i)) fun i hi=>by
   obtain ⟨c,h1,h2⟩:=hx i (by omega)
   obtain ⟨x,g1,g2,g3⟩:=(hE _ (q i hi)).2 h2 (Nat.le_refl _)
   exact ⟨x,c,g1,h1,g2,g3⟩
  refine ⟨xs,⟨some a,cap,by rw[f],by omega,fun i x hi=>?_⟩,⟨fun x hx=>?_,by omega⟩,?_⟩
  ·obtain ⟨c,g1,g2,_,_⟩:=d i x hi
   obtain ⟨_,aa,r⟩:=World.cells?_some g2
   have key:∀ j v,c[j]? =some v->w.cell? ((a.add (i*E.n)).add j)=some v:=fun j v hv=>by
    rw[r j (by rw[<- aa];exact (List.getElem?_eq_some_iff.1 hv).1),hv]
   have h0:∃ v,c[0]? =some v:=⟨_,List.getElem?_eq_getElem (by omega)⟩
   obtain ⟨v0,u⟩:=h0
   have hs:=zuv (key 0 v0 u)
   rw[zym]at hs
   have o:a.spot=none:=by
    by_cases ad:i*E.n=0
    ·unfold Addr.add at hs;rw[if_pos ad]at hs;exact hs.1
    ·have z:0<xs.length:=by
      have:=(List.getElem?_eq_some_iff.1 hi).1
      omega
     obtain ⟨c',g1',ab,_,_⟩:=d 0 _ (List.getElem?_eq_getElem z)
     obtain ⟨_,af,l⟩:=World.cells?_some ab
     have:=l 0 hn
     rw[List.getElem?_eq_getElem (by omega:0<c'.length)]at this
     have:=zuv this
     rw[Nat.zero_mul,zym,zym]at this
     exact this.1
   obtain ⟨b,off,spot⟩:=a
   have o:spot=none:=o
   subst o
   refine ⟨b,off,c,rfl,?_,g1,fun j v hv=>?_⟩
   ·have:=hs.2
    rw[add_lit]at this
    exact this
   ·have:=key j v hv
    rw[add_lit]at this
    exact this
  ·obtain ⟨i,hi⟩:=List.mem_iff_getElem?.1 hx
   obtain ⟨_,_,_,g,_⟩:=d i x hi
   exact g
  ·have:=zos (D:=D) (m:=m) len xs f fun i x hi=>by
    obtain ⟨_,_,_,_,g⟩:=d i x hi
    exact g
   show (xs.map m).sum+1<=zzI _+zzI _+1
   omega
theorem zqa {α:Type} {k:Nat} (u:TypeId) {f:Field} {off:Nat} {E:Enc α} {wf:α->Prop} {m:α->Nat} (ho:f.offset=off) (hu:f.type=u) (h:zvr k P u E wf m):zsf k P [f] off E wf m:=by
 subst hu
 intro H enc w b sp held a cs ys hy hk
 simp only[List.mapM_cons,List.mapM_nil]at hy
 cases h1:DataW.trod enc P w b sp held a f.type ((cs.drop f.offset).take (P.cellsOf f.type)) with
 | none=>rw[h1]at hy;cases hy
 | some y=>
   rw[h1]at hy
   cases hy
   rw[ho,h.1]at h1
   simp only[List.map_cons,List.map_nil,zzI]at hk ⊢
   obtain ⟨x,g1,g2,g3⟩:=h.2 h1 (by omega)
   exact ⟨x,g1,g2,by omega⟩
theorem zy9 {α β:Type} {k:Nat} (u:TypeId) {f:Field} {fs:List Field} {off:Nat} {E:Enc α} {F:Enc β} {wf:α->Prop} {wg:β->Prop} {m:α->Nat} {m':β->Nat} (ho:f.offset=off) (hu:f.type=u) (h:zvr k P u E wf m) (hs:zsf k P fs (off+E.n) F wg m'):
 zsf k P (f::fs) off (prE E F) (fun x=>wf x.1∧wg x.2) (fun x=>m x.1+m' x.2):=by
 subst hu
 intro H enc w b sp held a cs ys hy hk
 rw[List.mapM_cons]at hy
 cases h1:DataW.trod enc P w b sp held a f.type ((cs.drop f.offset).take (P.cellsOf f.type)) with
 | none=>rw[h1]at hy;cases hy
 | some y=>
   rw[h1]at hy
   cases h2:fs.mapM (fun f=>DataW.trod enc P w b sp held a f.type ((cs.drop f.offset).take (P.cellsOf f.type))) with
   | none=>simp[h2]at hy
   | some ys'=>
     simp[h2]at hy
     subst hy
     rw[ho,h.1]at h1
     simp only[List.map_cons,zzI]at hk ⊢
     obtain ⟨x,g1,g2,g3⟩:=h.2 h1 (by omega)
     obtain ⟨z,k1,k2,k3⟩:=hs h2 (by omega)
     refine ⟨(x,z),⟨_,_,?_,g1,k1⟩,⟨g2,k2⟩,by show m x+m' z<=_;omega⟩
     show (cs.drop off).take (E.n+F.n)=_
     rw[List.take_add,List.drop_drop]
theorem zru {α:Type} {k:Nat} {fs:Array Field} {E:Enc α} {wf:α->Prop} {m:α->Nat} (ht:P.underlying t=some (.struct fs)) (hc:P.cellsOf t=E.n) (h:∀ j,j<k->zsf j P fs.toList 0 E wf m):zvr k P t E wf (fun x=>m x+1):=by
 refine ⟨hc,fun {H enc w c sp held b cs y} hy hk=>?_⟩
 cases b with
 | zero=>cases hy
 | succ b=>
   unfold DataW.trod at hy
   rw[ht]at hy
   have a:(if cs.length=P.cellsOf t then (fs.toList.mapM fun f=>DataW.trod enc P w c sp held b f.type ((cs.drop f.offset).take (P.cellsOf f.type))).map fun xs=>(DataW.agg (xs.map (·.1)),xs.flatMap (·.2)) else none)=some y:=by
    split at hy<;>first | exact hy | simp_all
   split at a
   ·rename_i hl
    cases hm:fs.toList.mapM fun f=>DataW.trod enc P w c sp held b f.type ((cs.drop f.offset).take (P.cellsOf f.type)) with
    | none=>rw[hm]at a;cases a
    | some ys=>
      rw[hm]at a
      cases a
      simp only[bulk]at hk
      obtain ⟨x,g1,g2,g3⟩:=h _ (Nat.lt_of_succ_le hk) hm (Nat.le_refl _)
      rw[List.drop_zero,List.take_of_length_le (by omega)]at g1
      exact ⟨x,g1,g2,Nat.succ_le_succ g3⟩
   ·cases a
theorem ztj {α β γ:Type} (p:α->β) (G:β->Option γ):∀ l:List α,l.mapM (fun x=>G (p x))=(l.map p).mapM G
 | []=>rfl
 | x::l=>by rw[List.mapM_cons,List.map_cons,List.mapM_cons,ztj p G l]
theorem ztY {α:Type} {n:Nat} {e:TypeId} {E:Enc α} {wf:α->Prop} {m:α->Nat} (fs:List Field) (hfs:fs.map (fun f=>(f.type,f.offset))=(List.range n).map (fun i=>(e,i*P.cellsOf e))) (ht:P.underlying t=some (.array n e)) (hc:P.cellsOf t=E.n) (h:zr7 P fs 0 E wf m):zxa P t E wf (fun x=>m x+1):=by
 refine ⟨hc,fun {H enc w b sp held a cs y} hy=>?_⟩
 cases a with
 | zero=>cases hy
 | succ a=>
   unfold DataW.trod at hy
   rw[ht]at hy
   have c:(if cs.length=P.cellsOf t then ((List.range n).mapM fun i=>DataW.trod enc P w b sp held a e ((cs.drop (i*P.cellsOf e)).take (P.cellsOf e))).map fun xs=>(DataW.agg (xs.map (·.1)),xs.flatMap (·.2)) else none)=some y:=by
    split at hy<;>first | exact hy | simp_all
   have d:((List.range n).mapM fun i=>DataW.trod enc P w b sp held a e ((cs.drop (i*P.cellsOf e)).take (P.cellsOf e)))=fs.mapM fun f=>DataW.trod enc P w b sp held a f.type ((cs.drop f.offset).take (P.cellsOf f.type)):=by
    have h1:=ztj (fun i=>(e,i*P.cellsOf e)) (fun q:TypeId × Nat=>DataW.trod enc P w b sp held a q.1 ((cs.drop q.2).take (P.cellsOf q.1))) (List.range n)
    have h2:=ztj (fun f:Field=>(f.type,f.offset)) (fun q:TypeId × Nat=>DataW.trod enc P w b sp held a q.1 ((cs.drop q.2).take (P.cellsOf q.1))) fs
    rw[hfs]at h2
    exact h1.trans h2.symm
   rw[d]at c
   split at c
   ·rename_i hl
    cases hm:fs.mapM fun f=>DataW.trod enc P w b sp held a f.type ((cs.drop f.offset).take (P.cellsOf f.type)) with
    | none=>rw[hm]at c;cases c
    | some ys=>
      rw[hm]at c
      cases c
      obtain ⟨x,g1,g2,g3⟩:=h hm
      rw[List.drop_zero,List.take_of_length_le (by omega)]at g1
      exact ⟨x,g1,g2,Nat.succ_le_succ g3⟩
   ·cases c
end
mutual
def mPc:Pc->Nat
 | .mk _ _ _ _ _ rs subs=>1+rs.length+znk subs
def znk:List Pc->Nat
 | []=>0
 | p::l=>mPc p+znk l
end
theorem zs4:∀ l:List Pc,znk l=(l.map mPc).sum
 | []=>by rw[znk];rfl
 | p::l=>by rw[znk,zs4 l];simp
theorem zrv:∀ l:List (Int × Int),(l.map (fun _=>3)).sum=3*l.length
 | []=>rfl
 | x::l=>by rw[List.map_cons,List.sum_cons,zrv l,List.length_cons];omega
theorem pc_of {k:Nat} {P:Program} {t:TypeId} {wf:PcT->Prop} {m:PcT->Nat} (h:zvr k P t pcT wf m) (hm:∀ x,mPc (Pc.of x)<=m x):zvr k P t pcE (fun _=>True) mPc:=⟨h.1,fun h1 h2=>by
 obtain ⟨x,g1,g2,g3⟩:=h.2 h1 h2
 exact ⟨Pc.of x,zib g1,trivial,Nat.le_trans (hm x) g3⟩⟩
end Go.Gv
