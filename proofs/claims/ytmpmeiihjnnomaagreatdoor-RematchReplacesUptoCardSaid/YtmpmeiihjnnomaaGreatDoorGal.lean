import Derived.Test.YtmpmeiihjnnomaaGreatDoorGc
import Derived.ChangeKeysEq
set_option linter.all false
namespace Go.Gv
open Go.RowKit
def allA:List (Nat × Array Bool)->(Nat->Array Bool->Prop)->Prop
 | [],_=>True
 | x::r,p=>p x.1 x.2∧allA r p
theorem znF {p:Nat->Array Bool->Prop}:∀ {l:List (Nat × Array Bool)},allA l p->∀ i,i∈l.map (·.1)->∃ g,(i,g)∈l∧p i g
 | [],_,i,hi=>by cases hi
 | x::r,h,i,hi=>by
   rcases List.mem_cons.1 hi with rfl | hi
   ·exact ⟨x.2,List.mem_cons_self ..,h.1⟩
   ·obtain ⟨g,h1,h2⟩:=znF h.2 i hi
    exact ⟨g,List.mem_cons_of_mem _ h1,h2⟩
section
variable {P:Program} {R:RR} {n:Nat} {k:List It} {σ:List (Nat × Value)} {w:World} {l:List Oper} {listed:Array Bool} {H:List Nat} {Q:Exit->Act->World->Prop} {L:Array Bool->Act->World->Prop}
theorem zx7 (alts:List (Nat × Array Bool)) {f:Nat} (f':Nat) (hB:(Region.ready .any l.toArray listed==alts.map (·.1)&&(!alts.isEmpty&&(!(H.all (listed.getD · false))&&alts.all fun x=>listed.setIfInBounds x.1 true==x.2)))=true) (hf:Nat.beq f (f'+1)=true)
 (h:allA alts fun i goal=>Run P R n (.ops l.toArray (fun _=>True) (zla l [(i,some false)]):: .goal (goOn P l H Q L f' goal)::k) .normal σ w) (hQ:∀ c a w,K P R k (.panic c) a w->Q (.panic c) a w:=by exact fun _ _ _ h=>h):zmA P R n k l H Q L f listed σ w:=fun a hd hs p s=>by
 simp only[Bool.and_eq_true,beq_iff_eq,Bool.not_eq_true']at hB
 obtain ⟨hr,t,hH,d⟩:=hB
 rw[Nat.eq_of_beq_eq_true hf]
 refine ⟨hH,fun e=>?_,fun i hi=>?_⟩
 ·rw[hr]at e
  cases alts with
  | nil=>cases t
  | cons x r=>cases e
 ·obtain ⟨_,o,ho,_⟩:=mem_ready.1 hi
  have q:i<l.length:=by have:=(Array.getElem?_eq_some_iff.1 ho).1;simpa using this
  obtain ⟨g,hg,j⟩:=znF h i (by rw[<- hr];exact hi)
  have b:listed.setIfInBounds i true=g:=by simpa using List.all_eq_true.1 d (i,g) hg
  refine zr8 q trivial (j a hd hs p) (fun a1 w1 _ h1=>?_) (hp:=fun c a w hh=>hQ c a w hh)
  have h2:zvQ l.toArray g->wpH P l.toArray (fun _=>True) (nQ Q) H L f' g a1 w1:=h1
  rw[b]
  exact h2 (b ▸ s.set hi)
theorem zxz (J:List (Nat × Value)->World->Prop) (A:Array Bool) (f':Nat) {f:Nat} (h1:∀ σ w,J σ w->zmA P R n k l H Q L f' A σ w) (h2:(∀ σ w,J σ w->zmA P R n k l H Q L f' A σ w)->zmA P R n k l H Q L f listed σ w):zmA P R n k l H Q L f listed σ w:=h2 h1
variable {m:Mk} {o:Oper} {all:Array Oper} {C:World->Prop} {rest:List (Oper × Mk)} {σ':List (Nat × Value)}
end
def zxL (l:List Value) (p:Nat) (vs:List Value):List Value:=l.take p++vs++l.drop (p+vs.length)
theorem zwX {l vs:List Value} {p:Nat} (h:p+vs.length<=l.length) (q:Nat):(zxL l p vs)[q]? =if p<=q∧q<p+vs.length then vs[q-p]? else l[q]?:=by
 unfold zxL
 have h1:(l.take p).length=p:=by rw[List.length_take];omega
 rcases Nat.lt_or_ge q p with hq | hq
 ·rw[if_neg (by omega),List.append_assoc,List.getElem?_append_left (by omega),List.getElem?_take,if_pos hq]
 ·rw[List.append_assoc,List.getElem?_append_right (by omega),h1]
  rcases Nat.lt_or_ge (q-p) vs.length with hv | hv
  ·rw[List.getElem?_append_left hv,if_pos (by omega)]
  ·rw[List.getElem?_append_right hv,if_neg (by omega),List.getElem?_drop]
   congr 1
   omega
theorem zsp {l vs:List Value} {p:Nat} (h:p+vs.length<=l.length):(zxL l p vs).length=l.length:=by
 simp only[zxL,List.length_append,List.length_take,List.length_drop]
 omega
theorem zqL {l vs:List Value} {p N:Nat} (h:p+vs.length<=N) (hN:N<=l.length):(zxL l p vs).take N=zxL (l.take N) p vs:=by
 refine List.ext_getElem? fun q=>?_
 rw[List.getElem?_take,zwX (by omega),zwX (by rw[List.length_take];omega),List.getElem?_take]
 by_cases h1:q<N
 ·simp only[h1,if_true]
 ·simp only[h1,if_false]
  rw[if_neg (by omega)]
theorem zpG {l vs:List Value} {i n off:Nat} (hw:off+vs.length<=n) (hl:i*n+n<=l.length):((zxL l (i*n+off) vs).drop (i*n)).take n=zxL ((l.drop (i*n)).take n) off vs:=by
 refine List.ext_getElem? fun q=>?_
 rw[List.getElem?_take,List.getElem?_drop,zwX (by omega),zwX (by rw[List.length_take,List.length_drop];omega),List.getElem?_take,List.getElem?_drop]
 by_cases h1:q<n
 ·simp only[h1,if_true]
  by_cases h2:off<=q∧q<off+vs.length
  ·rw[if_pos (by omega),if_pos h2];congr 1;omega
  ·rw[if_neg (by omega),if_neg h2]
 ·simp only[h1,if_false]
  rw[if_neg (by omega)]
theorem zrp {l vs:List Value} {i j n off:Nat} (hw:off+vs.length<=n) (hl:i*n+n<=l.length) (hij:i≠j):((zxL l (i*n+off) vs).drop (j*n)).take n=(l.drop (j*n)).take n:=by
 refine List.ext_getElem? fun q=>?_
 rw[List.getElem?_take,List.getElem?_take,List.getElem?_drop,List.getElem?_drop,zwX (by omega)]
 by_cases h1:q<n
 ·simp only[h1,if_true]
  rw[if_neg]
  rcases Nat.lt_or_gt_of_ne hij with h | h
  ·have:=Nat.mul_le_mul_right n (show i+1<=j from h)
   rw[Nat.succ_mul]at this
   omega
  ·have:=Nat.mul_le_mul_right n (show j+1<=i from h)
   rw[Nat.succ_mul]at this
   omega
 ·simp only[h1,if_false]
section
variable {P:Program} {R:RR} {n:Nat} {k:List It} {σ:List (Nat × Value)} {w:World} {all:Array Oper} {C:World->Prop} {o:Oper} {m:Mk} {rest:List (Oper × Mk)}
theorem zuZ {α:Type} {E:Enc α} {t e:TypeId} {X:Nat->Prop} {a:Option Addr} {cap:Nat} {xs:List α} {i:Int} {A:Addr} (off:Nat) (x x':α) (ys:List α) (hm:m≠some true) (hdn:zwY n o.dst=true) (hg:zza all σ o=some true)
 (hk:(zyQ o.op&&zyi σ o.op.operands.toList)=true) {v:Value} (hA:A=(elemAddr a (i.toNat*E.n)).add off) (hop:execOp (evr σ) o=(do Instr.storeAt t (.pointer (some A)) v;pure .skip))
 (hsz:(P.info? t).map (·.size)=some v.cells.size) (hone:∀ u∈v.cells.toList,u.oneCell'=true) (hfit:off+v.cells.toList.length<=E.n) (hown:Own E e w X a cap xs) (hX:∀ k,X k->k<w.heap.size) (hx:idx xs i=some x) (hr:upd xs i x'=some ys)
 (hrep:∀ c,E.rep w X c x->E.rep w X (zxL c off v.cells.toList) x')
 (h:∀ w',w.grownBy w' (blk a)->Own E e w' X a cap ys->w'.heap.size=w.heap.size->(m=some false->C w')∧Run P R n (.ops all C rest::k) .normal (zuz σ o.dst undef) w'):
 Run P R n (.ops all C ((o,m)::rest)::k) .normal σ w:=by
 obtain ⟨h0,h1,rfl⟩:=zxY hr
 obtain ⟨_,_,ad⟩:=zx6 hx
 obtain ⟨q,rfl⟩:∃ q:Nat,i=q:=⟨i.toNat,by omega⟩
 simp only[Int.toNat_natCast]at hA ad
 have aa:q<xs.length:=by omega
 obtain ⟨fl,⟨hl,af⟩,o2,o3⟩:=hown
 rcases af with ⟨hv,hn⟩ | ⟨g,al,b,fz,hv,ac,z,ab,aj,ai,r⟩
 ·omega
 ·cases hv
  have hb1:q*E.n+E.n<=xs.length*E.n:=by
   have:=Nat.mul_le_mul_right E.n (show q+1<=xs.length from aa)
   rwa [Nat.succ_mul]at this
  have hb2:xs.length*E.n<=cap*E.n:=Nat.mul_le_mul_right _ ab
  have ag:b.toList.length=cap*E.n:=by rw[Array.length_toList,ai]
  have s:q*E.n+off+v.cells.toList.length<=b.size:=by omega
  have d:=zyo P g (q*E.n+off) e fz v.cells.toList 0 b w z (ac.elim .inl fun h=>.inr (by omega)) (by simpa using s) hone
  simp only[Nat.add_zero]at d
  have ae:A=⟨g,q*E.n+off,none⟩:=by
   rw[hA]
   show ((⟨g,0,none⟩:Addr).add _).add _=_
   rw[add_lit,add_lit];congr 1;omega
  refine zx2 (fun u w'=>u=undef∧w'=w.setRow g (zxL b.toList (q*E.n+off) v.cells.toList).toArray) hm hdn hg hk ⟨undef,_,.inr ⟨?_,rfl⟩,rfl,rfl⟩ fun u w' ⟨hu,hw⟩=>?_
  ·rw[hop,ae]
   simp[Instr.storeAt,Instr.sureAddr,storeVar,zy5 hsz,d,zxL]
  ·subst hu;subst hw
   have hg:w.grownBy (w.setRow g (zxL b.toList (q*E.n+off) v.cells.toList).toArray) (some g):=⟨rfl,rfl,rfl,by simp[World.setRow],fun kk _ ak=>setRow_other w g kk _ (fun e=>ak (by rw[e]))⟩
   have f:∀ k,X k->(w.setRow g (zxL b.toList (q*E.n+off) v.cells.toList).toArray).heap[k]? =w.heap[k]?:=fun k hk=>hg.block k (hX k hk) fun e=>o3 k (by rw[show blk (some ⟨g,0,none⟩)=some g from rfl,<- e]) hk
   refine h _ hg ⟨zxL fl (q*E.n+off) v.cells.toList,⟨?_,.inr ⟨g,cap,_,fz,?_,ac,setRow_heap w g b _ e _ z,?_,aj,?_,?_⟩⟩,fun j y hj=>?_,o3⟩ (by simp[World.setRow])
   ·rw[zsp (by omega),List.length_set];exact hl
   ·rw[List.length_set]
   ·rw[List.length_set];exact ab
   ·rw[List.size_toArray,zsp (by omega)];exact ag
   ·rw[List.length_set,zqL (by omega) (by omega),r]
   ·rw[Int.toNat_natCast]at hj
    by_cases p:q=j
    ·subst p
     rw[List.getElem?_set_self aa]at hj
     cases hj
     rw[zpG hfit (by omega)]
     exact E.keep (hrep _ (o2 q x ad)) f
    ·rw[List.getElem?_set_ne p]at hj
     rw[zrp hfit (by omega) p]
     exact E.keep (o2 j y hj) f
end
end Go.Gv
