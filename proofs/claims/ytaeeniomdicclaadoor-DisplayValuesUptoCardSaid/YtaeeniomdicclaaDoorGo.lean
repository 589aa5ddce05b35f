import Derived.ProofKit
import Derived.Deep.Slices
import Derived.OpenShut
import Derived.Test.YtaeeniomdicclaaDoorGt
set_option linter.all false
namespace Go.Gv
open Go.ChangeShapes Go.WideShapes Go.RowKit Go.Deep
mutual
def bulk {H:Type}:DataW H->Nat
 | .lit (.string bytes)=>bytes.length+1
 | .lit _=>1
 | .nil=>1
 | .ptr d=>bulk d+1
 | .slice elems spare=>zzH elems+zzH spare+1
 | .agg parts=>zzH parts+1
 | .iface _ d=>bulk d+1
 | .map entries=>zyG entries+1
 | .held _=>1
def zzH {H:Type}:List (DataW H)->Nat
 | []=>0
 | d::r=>bulk d+zzH r
def zyG {H:Type}:List (Lit × DataW H)->Nat
 | []=>0
 | x::r=>zvg x+zyG r
def zvg {H:Type}:Lit × DataW H->Nat
 | (.string bytes,d)=>bytes.length+bulk d+1
 | (_,d)=>bulk d+1
end
def zsz {α:Type} (P:Program) (t:TypeId) (E:Enc α) (wf:α->Prop) (m:α->Nat):Prop:=
 P.cellsOf t=E.n∧∀ {H:Type} {enc:TypeId × Value->H} {w:World} {base:Nat} {sp:Nat->Bool} {held:Bool} {fuel:Nat} {cs:List Value} {y:DataW H × List MemPlace},
  DataW.trod enc P w base sp held fuel t cs=some y->∃ x,E.rep w (fun k=>k<w.heap.size) cs x∧wf x∧m x<=bulk y.1
section
variable {P:Program} {t:TypeId}
theorem zuP {k:IntKind} (ht:P.underlying t=some (.int k)) (hc:P.cellsOf t=1):zsz P t (iE k) (inK k) (fun _=>1):=by
 refine ⟨hc,fun {H enc w base sp held a cs y} h=>?_⟩
 obtain ⟨n,rfl,rfl,hw⟩:=DataW.trod_int ht h
 exact ⟨n,rfl,hw,Nat.le_refl _⟩
theorem zrj {α:Type} {p:Nat->α->Prop}:∀ {n:Nat},(∀ i,i<n->∃ x,p i x)->∃ xs:List α,xs.length=n∧∀ (i:Nat) (x:α),xs[i]? =some x->p i x
 | 0,_=>⟨[],rfl,fun i x h=>by simp at h⟩
 | n+1,h=>by
   obtain ⟨xs,hl,hx⟩:=zrj (n:=n) fun i hi=>h i (Nat.lt_succ_of_lt hi)
   obtain ⟨x,hp⟩:=h n (Nat.lt_succ_self n)
   refine ⟨xs++[x],by simp[hl],fun i y hy=>?_⟩
   rcases Nat.lt_or_ge i xs.length with hi | hi
   ·rw[List.getElem?_append_left hi]at hy
    exact hx i y hy
   ·rw[List.getElem?_append_right hi]at hy
    have a:i-xs.length=0:=by
     have:=(List.getElem?_eq_some_iff.1 hy).1
     simp at this
     omega
    rw[a]at hy
    cases hy
    rw[show i=n by omega]
    exact hp
def zoq {α:Type} (m:α->Nat) (xs:List α):Nat:=(xs.map m).sum+1
theorem zx5 {H:Type}:∀ (l r:List (DataW H)),zzH (l++r)=zzH l+zzH r
 | [],r=>by simp[zzH]
 | x::l,r=>by simp only[List.cons_append,zzH,zx5 l r];omega
theorem zpq {α:Type} {H:Type} {m:α->Nat} {D:Nat->DataW H}:∀ (n:Nat) (xs:List α),xs.length=n->(∀ (i:Nat) (x:α),xs[i]? =some x->m x<=bulk (D i))->(xs.map m).sum<=zzH ((List.range n).map D)
 | 0,xs,hl,_=>by
   have:xs=[]:=List.eq_nil_of_length_eq_zero hl
   subst this
   exact Nat.zero_le _
 | n+1,xs,hl,h=>by
   rw[List.range_succ,List.map_append,zx5]
   have e:xs=xs.take n++xs.drop n:=(List.take_append_drop n xs).symm
   have h1:=zpq n (xs.take n) (by simp[hl]) (D:=D) (m:=m) fun i x hx=>by
    rw[List.getElem?_take]at hx
    split at hx
    ·exact h i x hx
    ·cases hx
   obtain ⟨y,hy⟩:∃ y,xs.drop n=[y]:=by
    have:(xs.drop n).length=1:=by simp[hl]
    match xs.drop n,this with
    | [y],_=>exact ⟨y,rfl⟩
   have h2:m y<=bulk (D n):=h n y (by
    have:=congrArg (fun l=>l[0]?) hy
    simpa [List.getElem?_drop] using this)
   have:(xs.map m).sum=((xs.take n).map m).sum+m y:=by
    conv=>lhs;rw[e,hy]
    simp
   rw[this]
   simp only[List.map_cons,List.map_nil,zzH]
   omega
theorem zui {w:World} {a:Addr} {v:Value} (h:w.cell? a=some v):a.spot=none∧a.block<w.heap.size:=by
 unfold World.cell? at h
 split at h
 ·rename_i c _ _ hb
  split at h
  ·cases h
  ·rename_i hs
   refine ⟨by cases b:a.spot with | none=>rfl | some _=>rw[b]at hs;exact absurd rfl hs,(Array.getElem?_eq_some_iff.1 hb).1⟩
 ·cases h
theorem ztz {α:Type} {e:TypeId} {E:Enc α} {wf:α->Prop} {m:α->Nat} (ht:P.underlying t=some (.slice e)) (hc:P.cellsOf t=1) (hE:zsz P e E wf m) (hn:Nat.blt 0 E.n=true):
 zsz P t (slE E) (fun xs=>(∀ x∈xs,wf x)∧xs.length<=maxLen) (zoq m):=by
 have hn:0<E.n:=Nat.lt_of_succ_le (Nat.le_of_ble_eq_true hn)
 refine ⟨hc,fun {H enc w base sp held ac cs y} h=>?_⟩
 rcases open_slice ht h with ⟨rfl,rfl⟩ | ⟨a,len,cap,mm,n,D,Pl,rfl,hb,hl,hm,u,rfl,hx⟩
 ·refine ⟨[],⟨none,0,rfl,Rd.nil E w _ none 0⟩,⟨fun x hx=>by simp at hx,Nat.zero_le _⟩,?_⟩
  simp[zoq,bulk]
 ·have hlm:len<=mm:=by rw[u];split<;>omega
  rw[hE.1]at hx
  obtain ⟨xs,f,d⟩:=zrj (n:=len) (p:=fun i x=>∃ c,E.rep w (fun k=>k<w.heap.size) c x∧w.cells? base (a.add (i*E.n)) E.n=some c∧wf x∧m x<=bulk (D i)) fun i hi=>by
   obtain ⟨c,h1,h2⟩:=hx i (by omega)
   obtain ⟨x,g1,g2,g3⟩:=hE.2 h2
   exact ⟨x,c,g1,h1,g2,g3⟩
  refine ⟨xs,⟨some a,cap,by rw[f],by omega,fun i x hi=>?_⟩,⟨fun x hx=>?_,by omega⟩,?_⟩
  ·obtain ⟨c,g1,g2,_,_⟩:=d i x hi
   obtain ⟨_,ab,q⟩:=World.cells?_some g2
   have key:∀ j v,c[j]? =some v->w.cell? ((a.add (i*E.n)).add j)=some v:=fun j v hv=>by
    rw[q j (by rw[<- ab];exact (List.getElem?_eq_some_iff.1 hv).1),hv]
   have h0:∃ v,c[0]? =some v:=⟨_,List.getElem?_eq_getElem (by omega)⟩
   obtain ⟨v0,aa⟩:=h0
   have hs:=zui (key 0 v0 aa)
   rw[zxc]at hs
   have l:a.spot=none:=by
    by_cases r:i*E.n=0
    ·unfold Addr.add at hs;rw[if_pos r]at hs;exact hs.1
    ·have s:0<xs.length:=by
      have:=(List.getElem?_eq_some_iff.1 hi).1
      omega
     obtain ⟨c',g1',z,_,_⟩:=d 0 _ (List.getElem?_eq_getElem s)
     obtain ⟨_,ad,o⟩:=World.cells?_some z
     have:=o 0 hn
     rw[List.getElem?_eq_getElem (by omega:0<c'.length)]at this
     have:=zui this
     rw[Nat.zero_mul,zxc,zxc]at this
     exact this.1
   obtain ⟨b,off,spot⟩:=a
   have l:spot=none:=l
   subst l
   refine ⟨b,off,c,rfl,?_,g1,fun j v hv=>?_⟩
   ·have:=hs.2
    rw[add_lit]at this
    exact this
   ·have:=key j v hv
    rw[add_lit]at this
    exact this
  ·obtain ⟨i,hi⟩:=List.mem_iff_getElem?.1 hx
   obtain ⟨_,_,_,g,_⟩:=d i x hi
   exact g
  ·have:=zpq (D:=D) (m:=m) len xs f fun i x hi=>by
    obtain ⟨_,_,_,_,g⟩:=d i x hi
    exact g
   show (xs.map m).sum+1<=zzH _+zzH _+1
   omega
theorem ztv {α:Type} {E:Enc α} {wf:α->Prop} {m:α->Nat} (h:zsz P t E wf m) {H:Type} {enc:TypeId × Value->H} {w:World} {base:Nat} {sp:Nat->Bool} {held:Bool} {v:Value} {d:DataW H} {ps:List MemPlace}
 (hd:DataW.Trod enc P w base sp held t v d ps):∃ x,E.rep w (fun k=>k<w.heap.size) v.cells.toList x∧wf x∧m x<=bulk d:=by
 obtain ⟨a,hf⟩:=hd
 exact h.2 hf
theorem zsC {v u:Value} (h:(#[v]:Array Value).toList=[u]):v=u:=by simpa using h
theorem zrf {a a':Option Addr} {l l' c c':Nat} (h:Value.slice a l c= .slice a' l' c'):a'=a∧l'=l∧c'=c:=by
 cases h;exact ⟨rfl,rfl,rfl⟩
theorem zqi {H:Type} {enc:TypeId × Value->H} {f:Func} {s:ChangeSpec} {apart:Bool} {W W':World} {args:Array Value} {v:Value} {ds gs:List (DataW H)} {before pa:List MemPlace}
 (hW:DataW.Whole enc P f.params.toList s.vars apart W args.toList ds gs before)
 (hres:DataW.TrodAll enc P W' W.heap.size (fun _=>false) false f.resultTypes.toList (v.resultList f.resultTypes.size) (s.fn H (ds++gs)).results [])
 (hargs:DataW.TrodAll enc P W' 0 (fun b=>decide (b<W.heap.size)) true f.params.toList args.toList (s.fn H (ds++gs)).args pa)
 (hvars:DataW.TrodVars enc P W' (fun b=>decide (b<W.heap.size)) s.vars (s.fn H (ds++gs)).vars []) (hk:W.keptBut W' (fun _=>False)):s.post enc P f apart true false false W args v W':=
 ⟨ds,gs,before,[],pa,[],hW,hres,hargs,hvars,World.keptBut_mono (fun _ h=>h.elim) hk,fun h=>by cases h⟩
theorem zqp {S:Value->World->Prop} {e:Ending} {w:World} (h:Ret S e w):∃ v,e= .returned v∧S v w:=by
 cases e with
 | returned v=>exact ⟨v,rfl,h⟩
 | _=>exact h.elim
end
end Go.Gv
