import Derived.ProofKit
import Derived.Deep.Slices
import Derived.OpenShut
import Derived.Test.YtmpmeiihjnnomaaGreatDoorGt
set_option linter.all false
namespace Go.Gv
open Go.ChangeShapes Go.WideShapes Go.RowKit Go.Deep
mutual
def bulk {H:Type}:DataW H->Nat
 | .lit (.string bytes)=>bytes.length+1
 | .lit _=>1
 | .nil=>1
 | .ptr d=>bulk d+1
 | .slice elems spare=>zzI elems+zzI spare+1
 | .agg parts=>zzI parts+1
 | .iface _ d=>bulk d+1
 | .map entries=>zxU entries+1
 | .held _=>1
def zzI {H:Type}:List (DataW H)->Nat
 | []=>0
 | d::r=>bulk d+zzI r
def zxU {H:Type}:List (Lit × DataW H)->Nat
 | []=>0
 | x::r=>ztl x+zxU r
def ztl {H:Type}:Lit × DataW H->Nat
 | (.string bytes,d)=>bytes.length+bulk d+1
 | (_,d)=>bulk d+1
end
def zxa {α:Type} (P:Program) (t:TypeId) (E:Enc α) (wf:α->Prop) (m:α->Nat):Prop:=
 P.cellsOf t=E.n∧∀ {H:Type} {enc:TypeId × Value->H} {w:World} {base:Nat} {sp:Nat->Bool} {held:Bool} {fuel:Nat} {cs:List Value} {y:DataW H × List MemPlace},
  DataW.trod enc P w base sp held fuel t cs=some y->∃ x,E.rep w (fun k=>k<w.heap.size) cs x∧wf x∧m x<=bulk y.1
section
variable {P:Program} {t:TypeId}
theorem zyM {k:IntKind} (ht:P.underlying t=some (.int k)) (hc:P.cellsOf t=1):zxa P t (iE k) (inK k) (fun _=>1):=by
 refine ⟨hc,fun {H enc w b sp held a cs y} h=>?_⟩
 obtain ⟨n,rfl,rfl,hw⟩:=DataW.trod_int ht h
 exact ⟨n,rfl,hw,Nat.le_refl _⟩
theorem zvi (ht:P.underlying t=some .bool) (hc:P.cellsOf t=1):zxa P t tE (fun _=>True) (fun _=>1):=by
 refine ⟨hc,fun {H enc w c sp held a cs y} h=>?_⟩
 obtain ⟨b,rfl,rfl⟩:=DataW.trod_bool ht h
 exact ⟨b,rfl,trivial,Nat.le_refl _⟩
theorem zrd (ht:P.underlying t=some .string) (hc:P.cellsOf t=1):zxa P t sE (fun s=>s.size<=maxLen) (fun s=>s.size+1):=by
 refine ⟨hc,fun {H enc w b sp held a cs y} h=>?_⟩
 obtain ⟨s,rfl,rfl,hs⟩:=DataW.trod_string ht h
 refine ⟨s,rfl,hs,?_⟩
 simp only[bulk,Array.length_toList]
 exact Nat.le_refl _
theorem zqe {α:Type} {p:Nat->α->Prop}:∀ {n:Nat},(∀ i,i<n->∃ x,p i x)->∃ xs:List α,xs.length=n∧∀ (i:Nat) (x:α),xs[i]? =some x->p i x
 | 0,_=>⟨[],rfl,fun i x h=>by simp at h⟩
 | n+1,h=>by
   obtain ⟨xs,hl,hx⟩:=zqe (n:=n) fun i hi=>h i (Nat.lt_succ_of_lt hi)
   obtain ⟨x,hp⟩:=h n (Nat.lt_succ_self n)
   refine ⟨xs++[x],by simp[hl],fun i y hy=>?_⟩
   rcases Nat.lt_or_ge i xs.length with hi | hi
   ·rw[List.getElem?_append_left hi]at hy
    exact hx i y hy
   ·rw[List.getElem?_append_right hi]at hy
    have a:i-xs.length=0:=by
     have:=(List.getElem?_eq_some_iff.1 hy).1
     simp at this
     omega
    rw[a]at hy
    cases hy
    rw[show i=n by omega]
    exact hp
def zxE {α:Type} (m:α->Nat) (xs:List α):Nat:=(xs.map m).sum+1
theorem zws {H:Type}:∀ (l r:List (DataW H)),zzI (l++r)=zzI l+zzI r
 | [],r=>by simp[zzI]
 | x::l,r=>by simp only[List.cons_append,zzI,zws l r];omega
theorem zos {α:Type} {H:Type} {m:α->Nat} {D:Nat->DataW H}:∀ (n:Nat) (xs:List α),xs.length=n->(∀ (i:Nat) (x:α),xs[i]? =some x->m x<=bulk (D i))->(xs.map m).sum<=zzI ((List.range n).map D)
 | 0,xs,hl,_=>by
   have:xs=[]:=List.eq_nil_of_length_eq_zero hl
   subst this
   exact Nat.zero_le _
 | n+1,xs,hl,h=>by
   rw[List.range_succ,List.map_append,zws]
   have e:xs=xs.take n++xs.drop n:=(List.take_append_drop n xs).symm
   have h1:=zos n (xs.take n) (by simp[hl]) (D:=D) (m:=m) fun i x hx=>by
    rw[List.getElem?_take]at hx
    split at hx
    ·exact h i x hx
    ·cases hx
   obtain ⟨y,hy⟩:∃ y,xs.drop n=[y]:=by
    have:(xs.drop n).length=1:=by simp[hl]
    match xs.drop n,this with
    | [y],_=>exact ⟨y,rfl⟩
   have h2:m y<=bulk (D n):=h n y (by
    have:=congrArg (fun l=>l[0]?) hy
    simpa [List.getElem?_drop] using this)
   have:(xs.map m).sum=((xs.take n).map m).sum+m y:=by
    conv=>lhs;rw[e,hy]
    simp
   rw[this]
   simp only[List.map_cons,List.map_nil,zzI]
   omega
theorem zuv {w:World} {a:Addr} {v:Value} (h:w.cell? a=some v):a.spot=none∧a.block<w.heap.size:=by
 unfold World.cell? at h
 split at h
 ·rename_i c _ _ hb
  split at h
  ·cases h
  ·rename_i hs
   refine ⟨by cases b:a.spot with | none=>rfl | some _=>rw[b]at hs;exact absurd rfl hs,(Array.getElem?_eq_some_iff.1 hb).1⟩
 ·cases h
theorem zvL {α:Type} {e:TypeId} {E:Enc α} {wf:α->Prop} {m:α->Nat} (ht:P.underlying t=some (.slice e)) (hc:P.cellsOf t=1) (hE:zxa P e E wf m) (hn:Nat.blt 0 E.n=true):
 zxa P t (slE E) (fun xs=>(∀ x∈xs,wf x)∧xs.length<=maxLen) (zxE m):=by
 have hn:0<E.n:=Nat.lt_of_succ_le (Nat.le_of_ble_eq_true hn)
 refine ⟨hc,fun {H enc w r sp held ad cs y} h=>?_⟩
 rcases open_slice ht h with ⟨rfl,rfl⟩ | ⟨a,len,cap,mm,n,D,Pl,rfl,hb,hl,hm,ab,rfl,hx⟩
 ·refine ⟨[],⟨none,0,rfl,Rd.nil E w _ none 0⟩,⟨fun x hx=>by simp at hx,Nat.zero_le _⟩,?_⟩
  simp[zxE,bulk]
 ·have hlm:len<=mm:=by rw[ab];split<;>omega
  rw[hE.1]at hx
  obtain ⟨xs,f,d⟩:=zqe (n:=len) (p:=fun i x=>∃ c,E.rep w (fun k=>k<w.heap.size) c x∧w.cells? r (a.add (i*E.n)) E.n=some c∧wf x∧m x<=bulk (D i)) fun i hi=>by
   obtain ⟨c,h1,h2⟩:=hx i (by omega)
   obtain ⟨x,g1,g2,g3⟩:=hE.2 h2
   exact ⟨x,c,g1,h1,g2,g3⟩
  refine ⟨xs,⟨some a,cap,by rw[f],by omega,fun i x hi=>?_⟩,⟨fun x hx=>?_,by omega⟩,?_⟩
  ·obtain ⟨c,g1,g2,_,_⟩:=d i x hi
   obtain ⟨_,z,q⟩:=World.cells?_some g2
   have key:∀ j v,c[j]? =some v->w.cell? ((a.add (i*E.n)).add j)=some v:=fun j v hv=>by
    rw[q j (by rw[<- z];exact (List.getElem?_eq_some_iff.1 hv).1),hv]
   have h0:∃ v,c[0]? =some v:=⟨_,List.getElem?_eq_getElem (by omega)⟩
   obtain ⟨v0,s⟩:=h0
   have hs:=zuv (key 0 v0 s)
   rw[zym]at hs
   have o:a.spot=none:=by
    by_cases ac:i*E.n=0
    ·unfold Addr.add at hs;rw[if_pos ac]at hs;exact hs.1
    ·have u:0<xs.length:=by
      have:=(List.getElem?_eq_some_iff.1 hi).1
      omega
     obtain ⟨c',g1',aa,_,_⟩:=d 0 _ (List.getElem?_eq_getElem u)
     obtain ⟨_,ae,l⟩:=World.cells?_some aa
     have:=l 0 hn
     rw[List.getElem?_eq_getElem (by omega:0<c'.length)]at this
     have:=zuv this
     rw[Nat.zero_mul,zym,zym]at this
     exact this.1
   obtain ⟨b,off,spot⟩:=a
   have o:spot=none:=o
   subst o
   refine ⟨b,off,c,rfl,?_,g1,fun j v hv=>?_⟩
   ·have:=hs.2
    rw[add_lit]at this
    exact this
   ·have:=key j v hv
    rw[add_lit]at this
    exact this
  ·obtain ⟨i,hi⟩:=List.mem_iff_getElem?.1 hx
   obtain ⟨_,_,_,g,_⟩:=d i x hi
   exact g
  ·have:=zos (D:=D) (m:=m) len xs f fun i x hi=>by
    obtain ⟨_,_,_,_,g⟩:=d i x hi
    exact g
   show (xs.map m).sum+1<=zzI _+zzI _+1
   omega
def zr7 {α:Type} (P:Program) (fs:List Field) (off:Nat) (E:Enc α) (wf:α->Prop) (m:α->Nat):Prop:=
 ∀ {H:Type} {enc:TypeId × Value->H} {w:World} {base:Nat} {sp:Nat->Bool} {held:Bool} {fuel:Nat} {cs:List Value} {ys:List (DataW H × List MemPlace)},
   fs.mapM (fun f=>DataW.trod enc P w base sp held fuel f.type ((cs.drop f.offset).take (P.cellsOf f.type)))=some ys->∃ x,E.rep w (fun k=>k<w.heap.size) ((cs.drop off).take E.n) x∧wf x∧m x<=zzI (ys.map (·.1))
theorem zuX {α:Type} (u:TypeId) {f:Field} {off:Nat} {E:Enc α} {wf:α->Prop} {m:α->Nat} (ho:f.offset=off) (hu:f.type=u) (h:zxa P u E wf m):zr7 P [f] off E wf m:=by
 subst hu
 intro H enc w b sp held a cs ys hy
 simp only[List.mapM_cons,List.mapM_nil]at hy
 cases h1:DataW.trod enc P w b sp held a f.type ((cs.drop f.offset).take (P.cellsOf f.type)) with
 | none=>rw[h1]at hy;cases hy
 | some y=>
   rw[h1]at hy
   cases hy
   rw[ho,h.1]at h1
   obtain ⟨x,g1,g2,g3⟩:=h.2 h1
   refine ⟨x,g1,g2,?_⟩
   simp only[List.map_cons,List.map_nil,zzI]
   omega
theorem zyN {α β:Type} (u:TypeId) {f:Field} {fs:List Field} {off:Nat} {E:Enc α} {F:Enc β} {wf:α->Prop} {wg:β->Prop} {m:α->Nat} {m':β->Nat} (ho:f.offset=off) (hu:f.type=u) (h:zxa P u E wf m) (hs:zr7 P fs (off+E.n) F wg m'):
 zr7 P (f::fs) off (prE E F) (fun x=>wf x.1∧wg x.2) (fun x=>m x.1+m' x.2):=by
 subst hu
 intro H enc w b sp held a cs ys hy
 rw[List.mapM_cons]at hy
 cases h1:DataW.trod enc P w b sp held a f.type ((cs.drop f.offset).take (P.cellsOf f.type)) with
 | none=>rw[h1]at hy;cases hy
 | some y=>
   rw[h1]at hy
   cases h2:fs.mapM (fun f=>DataW.trod enc P w b sp held a f.type ((cs.drop f.offset).take (P.cellsOf f.type))) with
   | none=>simp[h2]at hy
   | some ys'=>
     simp[h2]at hy
     subst hy
     rw[ho,h.1]at h1
     obtain ⟨x,g1,g2,g3⟩:=h.2 h1
     obtain ⟨z,k1,k2,k3⟩:=hs h2
     refine ⟨(x,z),⟨_,_,?_,g1,k1⟩,⟨g2,k2⟩,?_⟩
     ·show (cs.drop off).take (E.n+F.n)=_
      rw[List.take_add,List.drop_drop]
     ·simp only[List.map_cons,zzI]
      omega
theorem zrR {α:Type} {fs:Array Field} {E:Enc α} {wf:α->Prop} {m:α->Nat} (ht:P.underlying t=some (.struct fs)) (hc:P.cellsOf t=E.n) (h:zr7 P fs.toList 0 E wf m):zxa P t E wf (fun x=>m x+1):=by
 refine ⟨hc,fun {H enc w c sp held b cs y} hy=>?_⟩
 cases b with
 | zero=>cases hy
 | succ b=>
   unfold DataW.trod at hy
   rw[ht]at hy
   have a:(if cs.length=P.cellsOf t then (fs.toList.mapM fun f=>DataW.trod enc P w c sp held b f.type ((cs.drop f.offset).take (P.cellsOf f.type))).map fun xs=>(DataW.agg (xs.map (·.1)),xs.flatMap (·.2)) else none)=some y:=by
    split at hy<;>first | exact hy | simp_all
   split at a
   ·rename_i hl
    cases hm:fs.toList.mapM fun f=>DataW.trod enc P w c sp held b f.type ((cs.drop f.offset).take (P.cellsOf f.type)) with
    | none=>rw[hm]at a;cases a
    | some ys=>
      rw[hm]at a
      cases a
      obtain ⟨x,g1,g2,g3⟩:=h hm
      rw[List.drop_zero,List.take_of_length_le (by omega)]at g1
      exact ⟨x,g1,g2,Nat.succ_le_succ g3⟩
   ·cases a
theorem zu4 {α:Type} {E:Enc α} {wf:α->Prop} {m:α->Nat} (h:zxa P t E wf m) {H:Type} {enc:TypeId × Value->H} {w:World} {base:Nat} {sp:Nat->Bool} {held:Bool} {v:Value} {d:DataW H} {ps:List MemPlace}
 (hd:DataW.Trod enc P w base sp held t v d ps):∃ x,E.rep w (fun k=>k<w.heap.size) v.cells.toList x∧wf x∧m x<=bulk d:=by
 obtain ⟨a,hf⟩:=hd
 exact h.2 hf
theorem zhx {cs:Array Value} {l:List Value} (h:(Value.agg cs).cells.toList=l):cs=l.toArray:=by
 have h:cs.toList=l:=h
 rw[<- h]
theorem zqZ {v u:Value} (h:(#[v]:Array Value).toList=[u]):v=u:=by simpa using h
theorem zm9 {H:Type} {enc:TypeId × Value->H} {f:Func} {s:ChangeSpec} {apart:Bool} {W W':World} {args:Array Value} {v:Value} {ds gs:List (DataW H)} {before pa:List MemPlace}
 (hW:DataW.Whole enc P f.params.toList s.vars apart W args.toList ds gs before)
 (hres:DataW.TrodAll enc P W' W.heap.size (fun _=>false) false f.resultTypes.toList (v.resultList f.resultTypes.size) (s.fn H (ds++gs)).results [])
 (hargs:DataW.TrodAll enc P W' 0 (fun b=>decide (b<W.heap.size)) true f.params.toList args.toList (s.fn H (ds++gs)).args pa)
 (hvars:DataW.TrodVars enc P W' (fun b=>decide (b<W.heap.size)) s.vars (s.fn H (ds++gs)).vars []) (hk:W.keptBut W' (fun _=>False)):s.post enc P f apart true false false W args v W':=
 ⟨ds,gs,before,[],pa,[],hW,hres,hargs,hvars,World.keptBut_mono (fun _ h=>h.elim) hk,fun h=>by cases h⟩
theorem zmk {S:Value->World->Prop} {e:Ending} {w:World} (h:Ret S e w):∃ v,e= .returned v∧S v w:=by
 cases e with
 | returned v=>exact ⟨v,rfl,h⟩
 | _=>exact h.elim
end
end Go.Gv
