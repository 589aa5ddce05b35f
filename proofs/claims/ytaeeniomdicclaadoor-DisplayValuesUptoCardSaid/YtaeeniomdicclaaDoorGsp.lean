import Derived.Test.YtaeeniomdicclaaDoorGal
set_option linter.all false
namespace Go.Gv
open Go.RowKit
def geq (n i:Int):Option Unit:=if n<=i then some () else none
theorem zr3 {n i:Int} {u:Unit} (h:geq n i=some u):n<=i:=by
 unfold geq at h
 split at h
 ·assumption
 ·cases h
theorem bno {p:Nat->Prop} (g:Nat) (h:blk none=some g):p g:=by cases h
theorem bn1 {b:Nat}:¬ blk none=some b:=fun h=>by cases h
theorem bnx {b:Nat}:¬ (blk none=some b∨False):=fun h=>h.elim (fun h=>by cases h) (fun h=>h)
theorem bnf {p:Nat->Prop} (k:Nat) (h:False):p k:=h.elim
structure Lin {α β:Type} (E:Enc α) (EV:Enc β) where
 f:Nat
 get:α->List β
 put:α->List β->α
 gp:∀ x ys,get (put x ys)=ys
 pp:∀ x ys zs,put (put x ys) zs=put x zs
 hf:f<E.n
section
variable {α β:Type} {E:Enc α} {EV:Enc β} {S:Lin E EV} {tV e:TypeId} {n0:Int} {w w':World} {X:Nat->Prop} {a:Option Addr} {cap:Nat} {xs:List α}
def zq2 (S:Lin E EV) (tV:TypeId) (w:World) (F:Nat->Prop) (cs:List Value) (x:α):Prop:=
 ∃ (A:Option Addr) (c:Nat) (Y Z:Nat->Prop),cs[S.f]? =some (.slice A (S.get x).length c)∧Own EV tV w Z A c (S.get x)∧(∀ k,Y k->F k)∧(∀ k,Z k->F k)∧(∀ g,blk A=some g->F g∧¬ Y g)∧
   ∀ (w':World) (X':Nat->Prop) (A':Option Addr) (c':Nat) (ys:List β),(∀ k,Y k->w'.heap[k]? =w.heap[k]?)->(∀ k,Y k->X' k)->Rd EV w' X' A' c' ys->
     E.rep w' X' (cs.set S.f (.slice A' ys.length c')) (S.put x ys)
theorem Own.keepF {α:Type} {E:Enc α} {e:TypeId} {w w':World} {X:Nat->Prop} {a:Option Addr} {cap:Nat} {xs:List α} (h:Own E e w X a cap xs) (hk:∀ k,X k->w'.heap[k]? =w.heap[k]?)
 (hr:∀ g,blk a=some g->w'.heap[g]? =w.heap[g]?):Own E e w' X a cap xs:=by
 obtain ⟨fl,h1,h2,h3⟩:=h
 refine ⟨fl,h1.same fun g hg=>hr g ?_,fun i x hx=>E.keep (h2 i x hx) hk,h3⟩
 cases a with
 | none=>cases hg
 | some A=>exact hg
theorem zq2.keep {F:Nat->Prop} {cs:List Value} {x:α} (h:zq2 S tV w F cs x) (hk:∀ k,F k->w'.heap[k]? =w.heap[k]?):zq2 S tV w' F cs x:=by
 obtain ⟨A,c,Y,Z,h1,h2,h3,h4,h5,h6⟩:=h
 exact ⟨A,c,Y,Z,h1,h2.keepF (fun k hz=>hk k (h4 k hz)) (fun g hg=>hk g (h5 g hg).1),h3,h4,h5,fun w2 X' A' c' ys hw hX hr=>h6 w2 X' A' c' ys (fun k hy=>(hw k hy).trans (hk k (h3 k hy))) hX hr⟩
def win {α:Type} (E:Enc α) (fl:List Value) (i:Nat):List Value:=(fl.drop (i*E.n)).take E.n
theorem zy2 {fl:List Value} {i f:Nat} (hf:f<E.n):(win E fl i)[f]? =fl[i*E.n+f]?:=by
 unfold win
 rw[List.getElem?_take,if_pos hf,List.getElem?_drop]
def OwnS (S:Lin E EV) (tV:TypeId) (n0:Int) (E':Enc α) (e:TypeId) (w:World) (X:Nat->Prop) (a:Option Addr) (cap:Nat) (xs:List α):Prop:=
 E'=E∧∃ fl:List Value,zy0 w e E.n (.slice a xs.length cap) xs.length fl∧(∀ g,blk a=some g->¬ X g)∧∃ F:Nat->Nat->Prop,(∀ i k,i<xs.length->F i k->X k)∧
  (∀ i x,xs[i]? =some x->E.rep w (F i) (win E fl i) x∧(n0<=i->zq2 S tV w (F i) (win E fl i) x))∧
  ∀ (i:Nat) (A:Option Addr) (m c:Nat),n0<=i->i<xs.length->fl[i*E.n+S.f]? =some (.slice A m c)->∀ g,blk A=some g->∀ j,j<xs.length->j≠i->¬ F j g
theorem OwnS.own {E':Enc α} (h:OwnS S tV n0 E' e w X a cap xs):Own E' e w X a cap xs:=by
 obtain ⟨rfl,fl,h1,h2,F,h3,h4,_⟩:=h
 exact ⟨fl,h1,fun i x hx=>E'.wide (h4 i x hx).1 fun k=>h3 i k (List.getElem?_eq_some_iff.1 hx).1,h2⟩
theorem OwnS.start (S:Lin E EV) (tV:TypeId) (h:Own E e w X a cap xs) (hn:(xs.length:Int)<=n0):OwnS S tV n0 E e w X a cap xs:=by
 obtain ⟨fl,h1,h2,h3⟩:=h
 refine ⟨rfl,fl,h1,h3,fun _=>X,fun _ _ _ h=>h,fun i x hx=>⟨h2 i x hx,fun h=>?_⟩,fun i A m c h hi=>?_⟩
 ·have:=(List.getElem?_eq_some_iff.1 hx).1;omega
 ·omega
theorem OwnS.lt {E':Enc α} (h:OwnS S tV n0 E' e w X a cap xs):∀ g,blk a=some g->g<w.heap.size:=h.own.lt
theorem OwnS.rd {E':Enc α} {Y:Nat->Prop} (h:OwnS S tV n0 E' e w X a cap xs) (h1:∀ k,X k->Y k) (h3:∀ g,blk a=some g->Y g):Rd E' w Y a cap xs:=h.own.rd h1 h3
theorem OwnS.grown {E':Enc α} {row:Option Nat} (h:OwnS S tV n0 E' e w X a cap xs) (hg:w.grownBy w' row) (hX:∀ k,X k->k<w.heap.size) (hr:∀ g,row=some g->¬ X g∧blk a≠some g):OwnS S tV n0 E' e w' X a cap xs:=by
 obtain ⟨rfl,fl,h1,h2,F,h3,h4,h5⟩:=h
 have hk:∀ k,X k->w'.heap[k]? =w.heap[k]?:=fun k hk=>hg.block k (hX k hk) fun e=>(hr k e.symm).1 hk
 have b:(Value.slice a xs.length cap).ownBlock=blk a:=by cases a<;>rfl
 refine ⟨rfl,fl,h1.kept hg ?_,h2,F,h3,fun i x hx=>?_,h5⟩
 ·rw[b]
  cases hb:blk a with
  | none=>exact .inl rfl
  | some g=>exact .inr fun e=>(hr g e.symm).2 hb
 ·have hi:=(List.getElem?_eq_some_iff.1 hx).1
  exact ⟨E'.keep (h4 i x hx).1 fun k hf=>hk k (h3 i k hi hf),fun h=>((h4 i x hx).2 h).keep fun k hf=>hk k (h3 i k hi hf)⟩
theorem OwnS.out {E':Enc α} (h:OwnS S tV n0 E' e w X a cap xs):∀ g,blk a=some g->¬ X g:=h.own.out
theorem OwnS.cellsK {E':Enc α} (h:OwnS S tV n0 E' e w X a cap xs) {i:Int} {x:α} (hi:idx xs i=some x):
 ∃ c,E'.rep w X c x∧∀ w':World,(∀ k,(blk a=some k∨X k)->w'.heap[k]? =w.heap[k]?)->zyZ w' (elemAddr a (i.toNat*E'.n)) c:=h.own.cellsK hi
def zwr (w:World) (X:Nat->Prop) (A:Addr) (v:Value):Prop:=∃ b off,A=⟨b,off,none⟩∧X b∧w.cell? A=some v
theorem zwr.grown {w w':World} {X:Nat->Prop} {A:Addr} {v:Value} {row:Option Nat} (h:zwr w X A v) (hg:w.grownBy w' row) (hX:∀ k,X k->k<w.heap.size) (hr:∀ g,row=some g->¬ X g):zwr w' X A v:=by
 obtain ⟨b,off,rfl,hb,hc⟩:=h
 refine ⟨b,off,rfl,hb,?_⟩
 rw[World.cell?_of_block (w:=w) (hg.block b (hX b hb) fun e=>hr b e.symm hb)]
 exact hc
theorem zwr.at {w:World} {X:Nat->Prop} {A:Addr} {v:Value} (h:zwr w X A v):w.cell? A=some v:=by
 obtain ⟨_,_,_,_,hc⟩:=h
 exact hc
theorem OwnS.cellIn {E':Enc α} (h:OwnS S tV n0 E' e w X a cap xs) {i:Int} {x:α} (hi:idx xs i=some x) {m f:Nat} {v:Value} (hc:w.cell? ((elemAddr a m).add f)=some v):zwr w (fun k=>blk a=some k∨X k) ((elemAddr a m).add f) v:=by
 obtain ⟨_,hl,_⟩:=zz2 hi
 obtain ⟨_,fl,o1,_⟩:=h
 rcases o1.2 with ⟨_,hn⟩ | ⟨g,b,cur,fz,hv,_⟩
 ·omega
 ·cases hv
  refine ⟨g,0+m+f,?_,.inl rfl,hc⟩
  show ((⟨g,0,none⟩:Addr).add _).add _=_
  rw[add_lit,add_lit]
theorem OwnS.leafIn {E':Enc α} {Y:Nat->Prop} (h:OwnS S tV n0 E' e w X a cap xs) {i:Int} {x:α} (hi:idx xs i=some x) (h0:n0<=i) {m:Nat} (hm:m=i.toNat*E.n) {A:Option Addr} {l c:Nat} (hc:zwr w Y ((elemAddr a m).add S.f) (.slice A l c)):∀ g,blk A=some g->X g:=by
 subst hm
 have b:=hc.at
 obtain ⟨q0,q1,j⟩:=zz2 hi
 obtain ⟨q,rfl⟩:∃ q:Nat,i=q:=⟨i.toNat,by omega⟩
 simp only[Int.toNat_natCast]at b j
 have r:q<xs.length:=by omega
 obtain ⟨_,fl,o1,o2,G,o3,o4,o5⟩:=h
 obtain ⟨A2,c2,Y1,Z,l1,l2,l3,l4,l5,l6⟩:=(o4 q x j).2 h0
 have p:q*E.n+S.f<fl.length:=by
  have:=Nat.mul_le_mul_right E.n (show q+1<=xs.length from r)
  rw[Nat.succ_mul,<- o1.1]at this
  have:=S.hf
  omega
 have d:fl[q*E.n+S.f]? =some (.slice A l c):=by
  cases a with
  | none=>
    rcases o1.2 with ⟨_,hn⟩ | ⟨g,s,cur,fz,hv,_⟩
    ·omega
    ·cases hv
  | some A0=>
    rcases o1.2 with ⟨hv,_⟩ | ⟨g,s,cur,fz,hv,_,hgg,_⟩
    ·cases hv
    ·cases hv
     have:=o1.cells (g:=g) rfl (q*E.n+S.f) _ (List.getElem?_eq_getElem p)
     rw[List.getElem?_eq_getElem p]
     have e1:((elemAddr (some ⟨g,0,none⟩) (q*E.n)).add S.f)=(⟨g,0,none⟩:Addr).add (q*E.n+S.f):=by
      show ((⟨g,0,none⟩:Addr).add _).add _=_
      rw[add_lit,add_lit,add_lit];congr 1;omega
     rw[e1,this]at b
     exact b
 rw[zy2 S.hf,d]at l1
 cases l1
 exact fun g hg=>o3 q g r (l5 g hg).1
theorem zuC {b:Nat} {c:Nat} {cs:Array Value} {x:α} (h:Own E e w X (some ⟨b,0,none⟩) c [x]) (hb:Box w b e cs) (hc:c=1):E.rep w X cs.toList x:=by
 subst hc
 obtain ⟨fl,⟨hl,f⟩,h2,_⟩:=h
 rcases f with ⟨hv,_⟩ | ⟨g,j,cur,fz,hv,_,hg,hn,_,i,d⟩
 ·cases hv
 ·cases hv
  unfold Box at hb
  rw[hb]at hg
  cases hg
  have h0:=h2 0 x rfl
  have:fl=cs.toList:=by
   rw[<- d,List.length_singleton,List.take_of_length_le (by rw[Array.length_toList,i];omega)]
  subst this
  rw[Nat.zero_mul,List.drop_zero,List.take_of_length_le (by rw[hl,List.length_singleton];omega)]at h0
  exact h0
theorem zss {N:Nat} (h1:∀ g,blk a=some g->N<=g) (h2:∀ k,X k->(fun _=>False) k∨N<=k):∀ g,(blk a=some g∨X g)->N<=g:=fun g e=>e.elim (h1 g) fun h=>(h2 g h).elim (fun h=>h.elim) (fun h=>h)
end
section
variable {P:Program} {R:RR} {n:Nat} {k:List It} {σ:List (Nat × Value)} {w:World} {all:Array Oper} {C:World->Prop} {o:Oper} {m:Mk} {rest:List (Oper × Mk)}
variable {α β:Type} {E:Enc α} {EV:Enc β} {S:Lin E EV} {tV e:TypeId} {n0:Int} {X:Nat->Prop} {a:Option Addr} {cap:Nat} {xs:List α}
theorem zt7 {t ty:TypeId} {b cx:Nat} {cs:Array Value} {F:Nat->Prop} (x:α) (zs:List α) (hm:m≠some true) (hdn:zy9 n o.dst=true) (hg:zzl all σ o=some true)
 (hk:(zzB o.op&&zzO σ o.op.operands.toList)=true) (hop:execOp (evr σ) o=(do pure (.value (<- Builtin.append_ #[t,t] ty #[.slice a xs.length cap,.slice (some ⟨b,0,none⟩) 1 cx]))))
 (ht:P.underlying t=some (.slice e)) (hi':zx1 P e E.n) (hown:OwnS S tV n0 E e w X a cap xs) (hb:Box w b e cs) (hrep:E.rep w F cs.toList x) (hlin:zq2 S tV w F cs.toList x) (hr:app xs [x]=some zs)
 (hX:∀ k,X k->k<w.heap.size) (hF:∀ k,F k->k<w.heap.size) (hd:∀ g,blk a=some g∨X g->¬ F g)
 (h:∀ a' q w',w.grownBy w' (blk a)->OwnS S tV n0 E e w' (fun k=>X k∨F k) a' q zs->(blk a'=blk a∨∃ g,blk a'=some g∧w.heap.size<=g)->
   (m=some false->C w')∧Run P R n (.ops all C rest::k) .normal (zwT σ o.dst (.slice a' zs.length q)) w'):
 Run P R n (.ops all C ((o,m)::rest)::k) .normal σ w:=by
 obtain ⟨i,z,g1,g2,g3,g4,g5,g6⟩:=hi'
 obtain ⟨ar,rfl⟩:=zvq hr
 obtain ⟨_,fl,o1,o2,G,o3,o4,o5⟩:=hown
 have hn:cs.toList.length=E.n:=E.len hrep
 rw[<- g4]at o1
 have ae:∀ j u,cs.toList[j]? =some u->∃ A,some (⟨b,0,none⟩:Addr)=some A∧w.cell? (A.add j)=some u:=fun j u hu=>⟨_,rfl,hb.cells j u hu⟩
 obtain ⟨a',q,w',al,an,ac,ad⟩:=zxt (P:=P) w t ty e i z ht g1 g2 (by rw[g3,g4]) (by rw[g4];exact g5) a xs.length cap fl o1 (some ⟨b,0,none⟩) 1 cx cs.toList (by rw[hn,g4,Nat.one_mul]) ae (fun u hu=>E.one hrep u hu) (by simpa using ar) g6
 refine zxk (fun v s=>v= .slice a' (xs++[x]).length q∧s=w') hm hdn hg hk ⟨_,w',.inl ?_,rfl,rfl⟩ fun v s ⟨hv,hw⟩=>?_
 ·rw[hop]
  simp only[Sem.run_bind,al,Result.andThen,Sem.run_pure,List.length_append,List.length_singleton]
 ·subst hv;subst hw
  have aj:∀ kk,X kk->s.heap[kk]? =w.heap[kk]?:=fun kk h3=>ac.block kk (hX kk h3) fun e=>o2 kk e.symm h3
  have ai:∀ kk,F kk->s.heap[kk]? =w.heap[kk]?:=fun kk h3=>ac.block kk (hF kk h3) fun e=>hd kk (.inl e.symm) h3
  have ak:fl.length=xs.length*E.n:=by rw[<- g4];exact o1.1
  have ah:∀ j,j<xs.length->win E (fl++cs.toList) j=win E fl j:=fun j hj=>by
   have hle:j*E.n+E.n<=fl.length:=by
    rw[ak,<- Nat.succ_mul]
    exact Nat.mul_le_mul_right _ hj
   unfold win
   rw[List.drop_append_of_le_length (by omega),List.take_append_of_le_length (by rw[List.length_drop];omega)]
  have ag:win E (fl++cs.toList) xs.length=cs.toList:=by
   unfold win
   rw[<- ak,List.drop_left,<- hn,List.take_length]
  have aq:∀ (i:Nat) (A:Option Addr) (m c:Nat),n0<=i->i<xs.length->fl[i*E.n+S.f]? =some (.slice A m c)->∀ g,blk A=some g->G i g:=fun i A m c h0 hi hA g hg=>by
   obtain ⟨A2,c2,Y,Z,h1,h2,h3,h4,h5,h6⟩:=(o4 i _ (List.getElem?_eq_getElem hi)).2 h0
   rw[zy2 S.hf,hA]at h1
   cases h1
   exact (h5 g hg).1
  have am:∀ (i:Nat),i<xs.length->(fl++cs.toList)[i*E.n+S.f]? =fl[i*E.n+S.f]?:=fun i hi=>by
   rw[<- zy2 S.hf,ah i hi,zy2 S.hf]
  have af:(fl++cs.toList)[xs.length*E.n+S.f]? =cs.toList[S.f]?:=by
   rw[<- zy2 S.hf,ag]
  refine h a' q _ ac ⟨rfl,fl++cs.toList,by rw[List.length_append,List.length_singleton,<- g4];exact an,fun g p=>?_,fun j=>if j<xs.length then G j else F,fun j kk hj aa=>?_,fun j y hj=>?_,fun j A mm c h0 hj hA g p l hl au r=>?_⟩ ad
  ·rcases ad with hb' | ⟨g',hb',hge⟩
   ·rw[hb']at p;exact fun hx=>hx.elim (o2 g p) (hd g (.inl p))
   ·rw[hb']at p;cases p;exact fun hx=>hx.elim (fun hx=>absurd (hX _ hx) (by omega)) (fun hx=>absurd (hF _ hx) (by omega))
  ·simp only at aa
   split at aa
   ·rename_i d;exact .inl (o3 j kk d aa)
   ·exact .inr aa
  ·rcases Nat.lt_or_ge j xs.length with d | d
   ·rw[List.getElem?_append_left d]at hj
    simp only[d,if_true]
    rw[ah j d]
    exact ⟨E.keep (o4 j y hj).1 fun kk hf=>aj kk (o3 j kk d hf),fun h0=>((o4 j y hj).2 h0).keep fun kk hf=>aj kk (o3 j kk d hf)⟩
   ·have ao:=(List.getElem?_eq_some_iff.1 hj).1
    rw[List.length_append,List.length_singleton]at ao
    have ab:j=xs.length:=by omega
    subst ab
    rw[List.getElem?_append_right (Nat.le_refl _),Nat.sub_self]at hj
    cases hj
    simp only[Nat.lt_irrefl,if_false]
    rw[ag]
    exact ⟨E.keep hrep ai,fun _=>hlin.keep ai⟩
  ·rw[List.length_append,List.length_singleton]at hj hl
   rcases Nat.lt_or_ge j xs.length with d | d
   ·rw[am j d]at hA
    split at r
    ·rename_i ap;exact o5 j A mm c h0 d hA g p l ap au r
    ·exact hd g (.inr (o3 j g d (aq j A mm c h0 d hA g p))) r
   ·have ab:j=xs.length:=by omega
    subst ab
    rw[af]at hA
    obtain ⟨A2,c2,Y,Z,h1,h2,h3,h4,h5,h6⟩:=hlin
    rw[hA]at h1
    cases h1
    rw[if_pos (by omega)]at r
    exact hd g (.inr (o3 l g (by omega) r)) (h5 g p).1
def zor (S:Lin E EV) (tV:TypeId) (n0:Int) (E':Enc α) (e:TypeId) (w:World) (X:Nat->Prop) (a:Option Addr) (cap:Nat) (xs:List α) (i:Nat) (A':Option Addr) (c':Nat) (zs:List β):Prop:=
 E'=E∧∃ fl:List Value,zy0 w e E.n (.slice a xs.length cap) xs.length fl∧(∀ g,blk a=some g->¬ X g)∧∃ F:Nat->Nat->Prop,(∀ i k,i<xs.length->F i k->X k)∧
  (∀ j x,xs[j]? =some x->j≠i->E.rep w (F j) (win E fl j) x∧(n0<=j->zq2 S tV w (F j) (win E fl j) x))∧
  (∀ x,xs[i]? =some x->E.rep w (F i) ((win E fl i).set S.f (.slice A' zs.length c')) (S.put x zs)∧zq2 S tV w (F i) ((win E fl i).set S.f (.slice A' zs.length c')) (S.put x zs))∧
  (∀ (j:Nat) (A:Option Addr) (m c:Nat),n0<=j->j<xs.length->j≠i->fl[j*E.n+S.f]? =some (.slice A m c)->∀ g,blk A=some g->∀ l,l<xs.length->l≠j->¬ F l g)∧
  ∀ g,blk A'=some g->∀ l,l<xs.length->l≠i->¬ F l g
theorem zor.has {E':Enc α} {i:Nat} {A':Option Addr} {c':Nat} {zs:List β} (h:zor S tV n0 E' e w X a cap xs i A' c' zs) {j:Int} {x:α} (hj:idx xs j=some x):a.isSome=true:=by
 obtain ⟨_,hl,_⟩:=zz2 hj
 obtain ⟨_,fl,o1,_⟩:=h
 rcases o1.2 with ⟨_,hn⟩ | ⟨g,b,cur,fz,hv,_⟩
 ·omega
 ·cases hv;rfl
theorem zpa {t ty:TypeId} {A ax:Option Addr} {c cx:Nat} {i:Int} {x:α} {ys:List β} (zs:List β) {Y:Nat->Prop} (hm:m≠some true) (hdn:zy9 n o.dst=true) (hg:zzl all σ o=some true)
 (hk:(zzB o.op&&zzO σ o.op.operands.toList)=true) (hop:execOp (evr σ) o=(do pure (.value (<- Builtin.append_ #[t,t] ty #[.slice A (S.get x).length c,.slice ax ys.length cx]))))
 (ht:P.underlying t=some (.slice tV)) (hi':zx1 P tV EV.n) (hown:OwnS S tV n0 E e w X a cap xs) (hx:idx xs i=some x) (h0:n0<=i) (hcell:w.cell? ((elemAddr a (i.toNat*E.n)).add S.f)=some (.slice A (S.get x).length c))
 (hy:Rd EV w Y ax cx ys) (hr:app (S.get x) ys=some zs) (hX:∀ k,X k->k<w.heap.size) (hY:∀ k,Y k->k<w.heap.size) (hd:∀ g,blk a=some g∨X g->¬ Y g)
 (h:∀ A' c' w',w.grownBy w' (blk A)->(∀ g,blk A=some g->X g)->zor S tV n0 E e w' (fun k=>(X k∨Y k)∨blk A'=some k) a cap xs i.toNat A' c' zs->
   (∀ k,(X k∨Y k)∨blk A'=some k->k<w'.heap.size∧((X k∨Y k)∨w.heap.size<=k))->
   (m=some false->C w')∧Run P R n (.ops all C rest::k) .normal (zwT σ o.dst (.slice A' zs.length c')) w'):
 Run P R n (.ops all C ((o,m)::rest)::k) .normal σ w:=by
 obtain ⟨q0,q1,al⟩:=zz2 hx
 obtain ⟨q,rfl⟩:∃ q:Nat,i=q:=⟨i.toNat,by omega⟩
 simp only[Int.toNat_natCast]at hcell al h ⊢
 have r:q<xs.length:=by omega
 obtain ⟨a9,z,g1,g2,g3,g4,g5,g6⟩:=hi'
 obtain ⟨ba,rfl⟩:=zvq hr
 obtain ⟨_,fl,o1,o2,G,o3,o4,o5⟩:=hown
 have a7:fl.length=xs.length*E.n:=o1.1
 obtain ⟨A2,c2,Y1,Z,l1,l2,l3,l4,l5,l6⟩:=(o4 q x al).2 h0
 have au:q*E.n+S.f<fl.length:=by
  have:=Nat.mul_le_mul_right E.n (show q+1<=xs.length from r)
  rw[Nat.succ_mul,<- a7]at this
  have:=S.hf
  omega
 have aj:fl[q*E.n+S.f]? =some (.slice A (S.get x).length c):=by
  cases a with
  | none=>
    rcases o1.2 with ⟨_,hn⟩ | ⟨g,p,cur,fz,hv,_⟩
    ·omega
    ·cases hv
  | some A0=>
    rcases o1.2 with ⟨hv,_⟩ | ⟨g,p,cur,fz,hv,_,hgg,_⟩
    ·cases hv
    ·cases hv
     have:=o1.cells (g:=g) rfl (q*E.n+S.f) _ (List.getElem?_eq_getElem au)
     rw[List.getElem?_eq_getElem au]
     have e1:((elemAddr (some ⟨g,0,none⟩) (q*E.n)).add S.f)=(⟨g,0,none⟩:Addr).add (q*E.n+S.f):=by
      show ((⟨g,0,none⟩:Addr).add _).add _=_
      rw[add_lit,add_lit,add_lit];congr 1;omega
     rw[e1,this]at hcell
     exact hcell
 rw[zy2 S.hf,aj]at l1
 cases l1
 have ak:∀ g,blk A=some g->X g:=fun g hg=>o3 q g r (l5 g hg).1
 obtain ⟨ah,p1,p2,p3⟩:=l2
 obtain ⟨news,n1,n2,n3,n4⟩:=hy.news g5
 rw[<- g4]at p1 n1
 obtain ⟨a',p,w',ay,a0,ad,a2⟩:=zxt (P:=P) w t ty tV a9 z ht g1 g2 (by rw[g3,g4]) (by rw[g4];exact g5) A (S.get x).length c ah p1 ax ys.length cx news n1 n2 n3 ba g6
 refine zxk (fun v s=>v= .slice a' (S.get x++ys).length p∧s=w') hm hdn hg hk ⟨_,w',.inl ?_,rfl,rfl⟩ fun v s ⟨hv,hw⟩=>?_
 ·rw[hop]
  simp only[Sem.run_bind,ay,Result.andThen,Sem.run_pure,List.length_append]
 ·subst hv;subst hw
  have ap:∀ l,l<xs.length->l≠q->∀ g,blk A=some g->¬ G l g:=fun l hl d g hg=>o5 q A _ c h0 r aj g hg l hl d
  have av:∀ l,l<xs.length->l≠q->∀ kk,G l kk->s.heap[kk]? =w.heap[kk]?:=fun l hl d kk hf=>ad.block kk (hX kk (o3 l kk hl hf)) fun e=>ap l hl d kk e.symm hf
  have hZ:∀ kk,Z kk->s.heap[kk]? =w.heap[kk]?:=fun kk hz=>ad.block kk (hX kk (o3 q kk r (l4 kk hz))) fun e=>p3 kk e.symm hz
  have a6:∀ kk,Y kk->s.heap[kk]? =w.heap[kk]?:=fun kk aa=>ad.block kk (hY kk aa) fun e=>hd kk (.inr (ak kk e.symm)) aa
  have aw:∀ kk,Y1 kk->s.heap[kk]? =w.heap[kk]?:=fun kk aa=>ad.block kk (hX kk (o3 q kk r (l3 kk aa))) fun e=>(l5 kk e.symm).2 aa
  have ae:∀ g,blk a'=some g->X g∧blk A=some g∨w.heap.size<=g:=fun g hg=>by
   rcases a2 with hb' | ⟨g',hb',hge⟩
   ·exact .inl ⟨ak g (hb' ▸ hg),hb' ▸ hg⟩
   ·rw[hb']at hg;cases hg;exact .inr hge
  have ai:ah.length=(S.get x).length*EV.n:=by rw[<- g4];exact p1.1
  have ag:Own EV tV s (fun kk=>Z kk∨Y kk) a' p (S.get x++ys):=by
   refine ⟨ah++news,by rw[List.length_append,<- g4];exact a0,fun j y hj=>?_,fun g b=>?_⟩
   ·rcases Nat.lt_or_ge j (S.get x).length with ab | ab
    ·rw[List.getElem?_append_left ab]at hj
     have hle:j*EV.n+EV.n<=ah.length:=by
      rw[ai,<- Nat.succ_mul]
      exact Nat.mul_le_mul_right _ ab
     rw[List.drop_append_of_le_length (by omega),List.take_append_of_le_length (by rw[List.length_drop];omega)]
     exact EV.wide (EV.keep (p2 j y hj) hZ) fun _ h=>.inl h
    ·rw[List.getElem?_append_right ab]at hj
     have a1:=n4 _ _ hj
     have aq:(ah++news).drop (j*EV.n)=news.drop ((j-(S.get x).length)*EV.n):=by
      rw[List.drop_append,List.drop_eq_nil_of_le (by rw[ai];exact Nat.mul_le_mul_right _ ab),List.nil_append,ai,<- Nat.sub_mul]
     rw[aq]
     exact EV.wide (EV.keep a1 a6) fun _ h=>.inr h
   ·rcases ae g b with ⟨u,hA⟩ | hge
    ·exact fun hh=>hh.elim (p3 g hA) (hd g (.inr u))
    ·exact fun hh=>hh.elim (fun hz=>absurd (hX g (o3 q g r (l4 g hz))) (by omega)) (fun hz=>absurd (hY g hz) (by omega))
  have az:∀ g,blk a'=some g->¬ Y1 g:=fun g b aa=>by
   rcases ae g b with ⟨u,hA⟩ | hge
   ·exact (l5 g hA).2 aa
   ·exact absurd (hX g (o3 q g r (l3 g aa))) (by omega)
  have a4:S.f<(win E fl q).length:=by
   have e1:=E.len (o4 q x al).1
   rw[e1];exact S.hf
  have ar:∀ g,blk a=some g->g<w.heap.size:=fun g hg=>by
   cases a with
   | none=>cases hg
   | some A0=>exact o1.lt g hg
  refine h a' p _ ad ak ⟨rfl,fl,?_,fun g b hh=>?_,fun j=>if j=q then (fun kk=>(Y1 kk∨Z kk∨Y kk)∨blk a'=some kk) else G j,fun j kk hj af=>?_,fun j y hj d=>?_,fun y hj=>?_,fun j A1 m1 c1 h1 hj d hA g b l hl an ac=>?_,fun g b l hl d ac=>?_⟩ fun kk af=>?_
  ·refine o1.same fun g b=>?_
   have a8:(Value.slice a xs.length cap).ownBlock=blk a:=by cases a<;>rfl
   rw[a8]at b
   exact ad.block g (ar g b) fun e=>o2 g b (ak g e.symm)
  ·rcases hh with (hh | hh) | hh
   ·exact o2 g b hh
   ·exact hd g (.inl b) hh
   ·rcases ae g hh with ⟨u,hA⟩ | hge
    ·exact o2 g b u
    ·exact absurd (ar g b) (by omega)
  ·simp only at af
   split at af
   ·rcases af with (hh | hh | hh) | hh
    ·exact .inl (.inl (o3 q kk r (l3 kk hh)))
    ·exact .inl (.inl (o3 q kk r (l4 kk hh)))
    ·exact .inl (.inr hh)
    ·exact .inr hh
   ·exact .inl (.inl (o3 j kk hj af))
  ·have ab:=(List.getElem?_eq_some_iff.1 hj).1
   simp only[d,if_false]
   exact ⟨E.keep (o4 j y hj).1 (av j ab d),fun h1=>((o4 j y hj).2 h1).keep (av j ab d)⟩
  ·rw[al]at hj
   cases hj
   simp only[if_true]
   have a5:Rd EV s (fun kk=>(Y1 kk∨Z kk∨Y kk)∨blk a'=some kk) a' p (S.get x++ys):=ag.rd (fun kk h=>.inl (.inr h)) (fun g e=>.inr e)
   refine ⟨l6 s _ a' p _ aw (fun kk h=>.inl (.inl h)) a5,a',p,Y1,fun kk=>Z kk∨Y kk,?_,?_,fun kk h=>.inl (.inl h),fun kk h=>.inl (.inr h),fun g b=>⟨.inr b,az g b⟩,fun w2 X2 A2 c2 us hw a3 bb=>?_⟩
   ·rw[S.gp,List.getElem?_set_self a4]
   ·rw[S.gp];exact ag
   ·rw[List.set_set,S.pp]
    exact l6 w2 X2 A2 c2 us (fun kk hk=>(hw kk hk).trans (aw kk hk)) a3 bb
  ·simp only at ac
   have ao:G j g:=by
    obtain ⟨A2,c2,Y2,Z2,k1,k2,k3,k4,k5,k6⟩:=(o4 j _ (List.getElem?_eq_getElem hj)).2 h1
    rw[zy2 S.hf,hA]at k1
    cases k1
    exact (k5 g b).1
   split at ac
   ·rename_i bc
    subst bc
    rcases ac with (hh | hh | hh) | hh
    ·exact o5 j A1 m1 c1 h1 hj hA g b _ hl an (l3 g hh)
    ·exact o5 j A1 m1 c1 h1 hj hA g b _ hl an (l4 g hh)
    ·exact hd g (.inr (o3 j g hj ao)) hh
    ·rcases ae g hh with ⟨u,am⟩ | hge
     ·exact ap j hj d g am ao
     ·exact absurd (hX g (o3 j g hj ao)) (by omega)
   ·exact o5 j A1 m1 c1 h1 hj hA g b l hl an ac
  ·simp only[d,if_false]at ac
   rcases ae g b with ⟨u,am⟩ | hge
   ·exact ap l hl d g am ac
   ·exact absurd (hX g (o3 l g hl ac)) (by omega)
  ·rcases af with (hh | hh) | hh
   ·exact ⟨Nat.lt_of_lt_of_le (hX kk hh) ad.size,.inl (.inl hh)⟩
   ·exact ⟨Nat.lt_of_lt_of_le (hY kk hh) ad.size,.inl (.inr hh)⟩
   ·refine ⟨ag.lt kk hh,?_⟩
    rcases ae kk hh with ⟨u,_⟩ | hge
    ·exact .inl (.inl u)
    ·exact .inr hge
theorem zsX {t:TypeId} {A':Option Addr} {c':Nat} {i:Int} {x:α} {zs:List β} {Ad:Addr} (ys:List α) (hm:m≠some true) (hdn:zy9 n o.dst=true) (hg:zzl all σ o=some true)
 (hk:(zzB o.op&&zzO σ o.op.operands.toList)=true) (hA:Ad=(elemAddr a (i.toNat*E.n)).add S.f) (hop:execOp (evr σ) o=(do Instr.storeAt t (.pointer (some Ad)) (.slice A' zs.length c');pure .skip))
 (hsz:(P.info? t).map (·.size)=some 1) (hmid:zor S tV n0 E e w X a cap xs i.toNat A' c' zs) (hX:∀ k,X k->k<w.heap.size) (hx:idx xs i=some x) (hr:upd xs i (S.put x zs)=some ys)
 (h:∀ w',w.grownBy w' (blk a)->OwnS S tV n0 E e w' X a cap ys->w'.heap.size=w.heap.size->(m=some false->C w')∧Run P R n (.ops all C rest::k) .normal (zwT σ o.dst undef) w'):
 Run P R n (.ops all C ((o,m)::rest)::k) .normal σ w:=by
 obtain ⟨h0,h1,rfl⟩:=zxn hr
 obtain ⟨_,_,z⟩:=zz2 hx
 obtain ⟨q,rfl⟩:∃ q:Nat,i=q:=⟨i.toNat,by omega⟩
 simp only[Int.toNat_natCast]at hA z hmid
 have v:q<xs.length:=by omega
 obtain ⟨_,fl,⟨hl,ao⟩,o2,F,o3,o4,ac,o5,o6⟩:=hmid
 rcases ao with ⟨hv,hn⟩ | ⟨g,ax,cur,fz,hv,al,am,ae,au,aq,aa⟩
 ·omega
 ·cases hv
  have ai:=S.hf
  have hb1:q*E.n+E.n<=xs.length*E.n:=by
   have:=Nat.mul_le_mul_right E.n (show q+1<=xs.length from v)
   rwa [Nat.succ_mul]at this
  have hb2:xs.length*E.n<=cap*E.n:=Nat.mul_le_mul_right _ ae
  have ar:cur.toList.length=cap*E.n:=by rw[Array.length_toList,aq]
  have r:S.f+[Value.slice A' zs.length c'].length<=E.n:=by simp only[List.length_singleton];omega
  have ab:q*E.n+S.f+[Value.slice A' zs.length c'].length<=cur.size:=by omega
  have d:=zzU P g (q*E.n+S.f) e fz [Value.slice A' zs.length c'] 0 cur w am (al.elim .inl fun h=>.inr (by omega)) (by simpa using ab) (fun u hu=>by rw[List.mem_singleton.1 hu];rfl)
  simp only[Nat.add_zero]at d
  have ap:Ad=⟨g,q*E.n+S.f,none⟩:=by
   rw[hA]
   show ((⟨g,0,none⟩:Addr).add _).add _=_
   rw[add_lit,add_lit];congr 1;omega
  have an:(P.info? t).map (·.size)=some (Value.slice A' zs.length c').cells.size:=hsz
  refine zxk (fun u w'=>u=undef∧w'=w.setRow g (zys cur.toList (q*E.n+S.f) [Value.slice A' zs.length c']).toArray) hm hdn hg hk ⟨undef,_,.inr ⟨?_,rfl⟩,rfl,rfl⟩ fun u w' ⟨hu,hw⟩=>?_
  ·rw[hop,ap]
   have hc:(Value.slice A' zs.length c').cells.toList=[Value.slice A' zs.length c']:=rfl
   simp[Instr.storeAt,Instr.sureAddr,storeVar,zzN an,hc,d,zys]
  ·subst hu;subst hw
   have hg:w.grownBy (w.setRow g (zys cur.toList (q*E.n+S.f) [Value.slice A' zs.length c']).toArray) (some g):=⟨rfl,rfl,rfl,by simp[World.setRow],fun kk _ av=>setRow_other w g kk _ (fun e=>av (by rw[e]))⟩
   have s:∀ k,X k->(w.setRow g (zys cur.toList (q*E.n+S.f) [Value.slice A' zs.length c']).toArray).heap[k]? =w.heap[k]?:=fun k hk=>hg.block k (hX k hk) fun e=>o2 k (by rw[show blk (some ⟨g,0,none⟩)=some g from rfl,<- e]) hk
   have af:win E (zys fl (q*E.n+S.f) [Value.slice A' zs.length c']) q=(win E fl q).set S.f (.slice A' zs.length c'):=by
    unfold win
    rw[zt4 r (by omega)]
    have ad:((fl.drop (q*E.n)).take E.n).length=E.n:=by rw[List.length_take,List.length_drop];omega
    refine List.ext_getElem? fun p=>?_
    rw[zyR (by rw[ad];exact r),List.getElem?_set]
    by_cases hp:S.f=p
    ·subst hp
     simp only[List.length_singleton]
     rw[if_pos ⟨Nat.le_refl _,by omega⟩,if_pos trivial,if_pos (by rw[ad];exact ai),Nat.sub_self];rfl
    ·simp only[List.length_singleton]
     rw[if_neg (by omega),if_neg hp]
   have ag:∀ j,q≠j->win E (zys fl (q*E.n+S.f) [Value.slice A' zs.length c']) j=win E fl j:=fun j hj=>by
    unfold win
    exact zuW r (by omega) hj
   refine h _ hg ⟨rfl,zys fl (q*E.n+S.f) [Value.slice A' zs.length c'],⟨?_,.inr ⟨g,cap,_,fz,?_,al,setRow_heap w g cur _ e _ am,?_,au,?_,?_⟩⟩,o2,F,fun j kk hj=>o3 j kk (by rw[List.length_set]at hj;exact hj),fun j y hj=>?_,fun j A m c h2 hj hA g' ah l hl ak aj=>?_⟩ (by simp[World.setRow])
   ·rw[zvF (by omega),List.length_set];exact hl
   ·rw[List.length_set]
   ·rw[List.length_set];exact ae
   ·rw[List.size_toArray,zvF (by omega)];exact ar
   ·rw[List.length_set,zuG (by omega) (by omega),aa]
   ·rw[Int.toNat_natCast]at hj
    by_cases b:q=j
    ·subst b
     rw[List.getElem?_set_self v]at hj
     cases hj
     rw[af]
     have hF:∀ k,F q k->(w.setRow g (zys cur.toList (q*E.n+S.f) [Value.slice A' zs.length c']).toArray).heap[k]? =w.heap[k]?:=fun kk hf=>s kk (o3 q kk v hf)
     exact ⟨E.keep (ac x z).1 hF,fun _=>(ac x z).2.keep hF⟩
    ·rw[List.getElem?_set_ne b]at hj
     rw[ag j b]
     have aw:=(List.getElem?_eq_some_iff.1 hj).1
     have hF:∀ k,F j k->(w.setRow g (zys cur.toList (q*E.n+S.f) [Value.slice A' zs.length c']).toArray).heap[k]? =w.heap[k]?:=fun kk hf=>s kk (o3 j kk aw hf)
     exact ⟨E.keep (o4 j y hj (Ne.symm b)).1 hF,fun h2=>((o4 j y hj (Ne.symm b)).2 h2).keep hF⟩
   ·rw[List.length_set]at hj hl
    by_cases b:q=j
    ·subst b
     rw[<- zy2 S.hf,af,List.getElem?_set_self (by
      have:(win E fl q).length=E.n:=by unfold win;rw[List.length_take,List.length_drop];omega
      rw[this];exact ai)]at hA
     cases hA
     exact o6 g' ah l hl ak aj
    ·rw[<- zy2 S.hf,ag j b,zy2 S.hf]at hA
     exact o5 j A m c h2 hj (Ne.symm b) hA g' ah l hl ak aj
end
end Go.Gv
