import Derived.Test.YtaeeniomdicclaaDoorGz
set_option linter.all false
namespace Go.Gv
open Go.RowKit
def prE {α β:Type} (E:Enc α) (F:Enc β):Enc (α × β) where
 n:=E.n+F.n
 rep w X cs x:=∃ c d,cs=c++d∧E.rep w X c x.1∧F.rep w X d x.2
 len:=fun ⟨_,_,e,h1,h2⟩=>by rw[e,List.length_append,E.len h1,F.len h2]
 one:=fun ⟨_,_,e,h1,h2⟩ v hv=>by
  rw[e]at hv
  rcases List.mem_append.1 hv with h | h
  ·exact E.one h1 v h
  ·exact F.one h2 v h
 keep:=fun ⟨c,d,e,h1,h2⟩ hk=>⟨c,d,e,E.keep h1 hk,F.keep h2 hk⟩
 wide:=fun ⟨c,d,e,h1,h2⟩ hk=>⟨c,d,e,E.wide h1 hk,F.wide h2 hk⟩
theorem Rd.cellsK {α:Type} {E:Enc α} {w:World} {X:Nat->Prop} {a:Option Addr} {cap:Nat} {xs:List α} (h:Rd E w X a cap xs) {i:Int} {x:α} (hi:idx xs i=some x):
 ∃ c,E.rep w X c x∧∀ w':World,(∀ k,X k->w'.heap[k]? =w.heap[k]?)->zyZ w' (elemAddr a (i.toNat*E.n)) c:=by
 obtain ⟨_,_,h3⟩:=zz2 hi
 obtain ⟨b,off,c',e,hX,e3,e4⟩:=h.2 _ _ h3
 refine ⟨c',e3,fun w' hk j v hv=>?_⟩
 rw[e]
 show w'.cell? (((⟨b,off,none⟩:Addr).add _).add j)=_
 have:=e4 j v hv
 rw[add_lit]at this
 rw[add_lit,add_lit,World.cell?_of_block (w:=w) (hk b hX)]
 exact this
theorem Own.cellsK {α:Type} {E:Enc α} {e:TypeId} {w:World} {X:Nat->Prop} {a:Option Addr} {cap:Nat} {xs:List α} (h:Own E e w X a cap xs) {i:Int} {x:α} (hi:idx xs i=some x):
 ∃ c,E.rep w X c x∧∀ w':World,(∀ k,(blk a=some k∨X k)->w'.heap[k]? =w.heap[k]?)->zyZ w' (elemAddr a (i.toNat*E.n)) c:=by
 obtain ⟨_,_,h3⟩:=zz2 hi
 obtain ⟨fl,⟨hl,d⟩,g2,_⟩:=h
 have hlt:i.toNat<xs.length:=(List.getElem?_eq_some_iff.1 h3).1
 rcases d with ⟨hv,hn⟩ | ⟨g,l,cur,fz,hv,_,hg,hnc,_,hcs,b⟩
 ·omega
 ·cases hv
  refine ⟨_,g2 _ x h3,fun w' hk j v hj=>?_⟩
  have f:j<E.n:=by
   rcases Nat.lt_or_ge j E.n with h | h
   ·exact h
   ·rw[List.getElem?_take,if_neg (by omega)]at hj;cases hj
  rw[List.getElem?_take,if_pos f,List.getElem?_drop]at hj
  show w'.cell? (((⟨g,0,none⟩:Addr).add _).add j)=_
  rw[add_lit,add_lit,World.cell?_of_block (w:=w) (hk g (.inl rfl))]
  have:=cell_of_row w g (i.toNat*E.n+j) cur e fz hg
  rw[show 0+i.toNat*E.n+j=i.toNat*E.n+j by omega,this]
  rw[<- b,List.getElem?_take]at hj
  split at hj
  ·simpa using hj
  ·cases hj
theorem Own.out {α:Type} {E:Enc α} {e:TypeId} {w:World} {X:Nat->Prop} {a:Option Addr} {cap:Nat} {xs:List α} (h:Own E e w X a cap xs):∀ g,blk a=some g->¬ X g:=h.choose_spec.2.2
theorem zyZ.zero {w:World} {A:Addr} {c:List Value} {v:Value} (h:zyZ w A c) (hv:c[0]? =some v):w.cell? A=some v:=by
 have:=h 0 v hv
 rwa [zxc]at this
theorem Own.pop {α:Type} {E:Enc α} {e:TypeId} {w:World} {X:Nat->Prop} {a:Option Addr} {cap:Nat} {xs ys:List α} {h:Int} (ho:Own E e w X a cap xs) (hs:sub xs 0 h=some ys):Own E e w X a cap ys:=by
 have r:=zuk hs
 obtain ⟨_,h1,h2,hy⟩:=zwb hs
 obtain ⟨fl,⟨hl,c⟩,g2,g3⟩:=ho
 have p:ys.length<=xs.length:=by omega
 have q:ys.length*E.n<=xs.length*E.n:=Nat.mul_le_mul_right _ p
 refine ⟨fl.take (ys.length*E.n),⟨by rw[List.length_take,hl];omega,?_⟩,fun i x hx=>?_,g3⟩
 ·rcases c with ⟨hv,hn⟩ | ⟨g,s,cur,fz,hv,f,hg,hnc,j,l,b⟩
  ·rw[Value.slice.injEq]at hv
   obtain ⟨rfl,hn',rfl⟩:=hv
   have:ys.length=0:=by omega
   exact .inl ⟨by rw[this],this⟩
  ·cases hv
   refine .inr ⟨g,cap,cur,fz,rfl,f,hg,by omega,j,l,?_⟩
   rw[<- b,List.take_take]
   congr 1
   omega
 ·have hi:i<ys.length:=(List.getElem?_eq_some_iff.1 hx).1
  have d:xs[i]? =some x:=by
   rw[hy,List.getElem?_drop,List.getElem?_take]at hx
   split at hx
   ·simpa using hx
   ·cases hx
  have:=g2 i x d
  have hin:i*E.n+E.n<=ys.length*E.n:=by
   rw[<- Nat.succ_mul];exact Nat.mul_le_mul_right _ hi
  rw[List.drop_take,List.take_take,Nat.min_eq_left (by omega)]
  exact this
def zoH {α:Type} (E:Enc α) (w:World) (X:Nat->Prop):List Value->List α->Prop
 | cs,[]=>cs=[]
 | cs,x::xs=>∃ c d,cs=c++d∧E.rep w X c x∧zoH E w X d xs
theorem zoH.spec {α:Type} {E:Enc α} {w:World} {X:Nat->Prop}:∀ {xs:List α} {cs:List Value},zoH E w X cs xs->cs.length=xs.length*E.n∧∀ (i:Nat) (x:α),xs[i]? =some x->E.rep w X ((cs.drop (i*E.n)).take E.n) x
 | [],_,h=>by rw[show _=[] from h];exact ⟨by simp,fun i x hx=>by simp at hx⟩
 | y::ys,_,⟨c,d,e,h1,h2⟩=>by
   obtain ⟨g1,g2⟩:=zoH.spec h2
   have hc:=E.len h1
   refine ⟨by rw[e,List.length_append,hc,g1,List.length_cons,Nat.succ_mul,Nat.add_comm],fun i x hx=>?_⟩
   cases i with
   | zero=>
     cases hx
     rw[e,Nat.zero_mul,List.drop_zero,<- hc,List.take_left]
     exact h1
   | succ i=>
     rw[e,Nat.succ_mul,Nat.add_comm,<- List.drop_drop,<- hc,List.drop_left,hc]
     exact g2 i x (by simpa using hx)
theorem Box.ownE {α:Type} {E:Enc α} {w:World} {b:Nat} {e:TypeId} {cs:Array Value} (h:Box w b e cs) {X:Nat->Prop} {xs:List α} (hx:zoH E w X cs.toList xs) (hl:xs.length<=maxLen) (hb:¬ X b):
 Own E e w X (some ⟨b,0,none⟩) xs.length xs:=by
 obtain ⟨h1,h2⟩:=hx.spec
 refine ⟨cs.toList,⟨h1,.inr ⟨b,xs.length,cs,(0,0),rfl,.inl rfl,h,Nat.le_refl _,hl,by rw[<- Array.length_toList,h1],?_⟩⟩,h2,fun g hg=>by cases hg;exact hb⟩
 rw[<- h1];exact List.take_length
theorem blk_rev {a a':Option Addr} {z p:Nat} (hk:blk a'=blk a∨∃ g,blk a'=some g∧z<=g) (h1:blk a≠some p) (h2:p<z):blk a'≠some p:=fun e=>by
 rcases hk with h | ⟨g,h,h'⟩
 ·rw[h]at e;exact h1 e
 ·rw[h]at e;cases e;omega
section
variable {P:Program} {R:RR} {n:Nat} {k:List It} {σ σ':List (Nat × Value)} {w:World} {all:Array Oper} {C:World->Prop} {o:Oper} {m:Mk} {rest:List (Oper × Mk)}
theorem zp8 {id:Nat} {l:List Oper} (Ml:List Nat) (hm:P.follows .mixedOrders=true) (heads:List Nat) (ts:List (Nat × Mk)) (hlen:Nat.beq (heads.length+ts.length) l.length=true)
 (h:∀ w2,w.grownBy w2 none->Run P R n (.any l (Cls w2 Ml) heads ts heads.length (Array.replicate l.length false)::k) .normal σ w2) (hr:R.r=none:=by rfl):Run P R n (.code (.region id l.toArray true)::k) .normal σ w:=
 zoD hm heads ts (Cls w.drew Ml) (Nat.eq_of_beq_eq_true hlen) (h w.drew (zvL w)) hr
theorem zri {α:Type} (E:Enc α) {t e:TypeId} {xs:List α} {a:Option Addr} {cap:Nat} {lo hi:Option Value} (h:Int) (ys:List α) {d:Nat} (hm:m=some false->C w) (hd':o.dst=some d) (hdn:Nat.blt d n=true)
 (hg:zzl all σ o=some true) (hk:(zzB o.op&&zzO σ o.op.operands.toList)=true)
 (hop:execOp (evr σ) o=(do pure (.value (<- Instr.sliceAt t (.slice a xs.length cap) lo hi none)))) (ht:P.underlying t=some (.slice e)) (hsz:(P.info? e).map (·.size)=some E.n)
 (h1:lowV lo 0) (h2:zpJ hi xs.length h) (hr:sub xs 0 h=some ys) (hcap:xs.length<=cap)
 (hrest:Run P R n (.ops all C rest::k) .normal (put σ d (.slice a ys.length cap)) w):Run P R n (.ops all C ((o,m)::rest)::k) .normal σ w:=by
 have b:=zuk hr
 obtain ⟨h0,c,hh,_⟩:=zwb hr
 simp only[Bool.and_eq_true]at hk
 refine ztk hm hd' hdn hg (fun w' _ a1 f=>?_) hrest
 rw[zxR f hk.1 hk.2,hop]
 have ha:(a.map fun x=>x.add 0)=a:=by cases a<;>simp[zxc]
 simp[Instr.sliceAt,Instr.slice,run_underlying ht,zzN hsz,zuU true h1 h2 h0 c hh hcap,b,ha]
def mkC {α:Type} (l c:Int) (z:α):Option (List α):=if 0<=l∧l<=c∧c<=1073741824 then some (List.replicate l.toNat z) else none
theorem zxu {α:Type} {f:α->Value} {hf:∀ x,(f x).oneCell'=true} {t e:TypeId} {kl kc:IntKind} {l c:Int} (z:α) (xs:List α) (hm:m≠some true) (hdn:zy9 n o.dst=true) (hg:zzl all σ o=some true)
 (hk:(zzB o.op&&zzO σ o.op.operands.toList)=true) (hop:execOp (evr σ) o=(do pure (.value (<- Instr.makeSlice t (.int kl l) (.int kc c)))))
 (ht:P.underlying t=some (.slice e)) {bytes:Nat} (hi:(P.info? e).map (fun i=>(i.zero,i.size,i.bytes))=some (some (f z),1,bytes)) (hb:Nat.ble bytes 32768=true) (hr:mkC l c z=some xs)
 (h:∀ b w',w.grownBy w' none->Own (flat f hf) e w' (fun _=>False) (some ⟨b,0,none⟩) c.toNat xs->b=w.heap.size->w'.heap.size=w.heap.size+1->
   (m=some false->C w')∧Run P R n (.ops all C rest::k) .normal (zwT σ o.dst (.slice (some ⟨b,0,none⟩) xs.length c.toNat)) w'):
 Run P R n (.ops all C ((o,m)::rest)::k) .normal σ w:=by
 unfold mkC at hr
 split at hr
 case isFalse=>cases hr
 rename_i hh
 cases hr
 obtain ⟨h0,r,h1⟩:=hh
 obtain ⟨i,s,hz,hs,q⟩:=info_parts hi
 have hbb:i.bytes<=32768:=by rw[q];exact Nat.le_of_ble_eq_true hb
 have a:(List.replicate l.toNat z).length=l.toNat:=by simp
 have d:(f z).cells= #[f z]:=by
  have:=hf z
  cases hv:f z<;>rw[hv]at this<;>first | rfl | cases this
 have g:=run_make (P:=P) w t e i (f z) ht s hz kl kc l c h0 r (by
  have h2:(i.bytes:Int)*c<=32768*1073741824:=Int.mul_le_mul (by omega) h1 (by omega) (by omega)
  omega) (by omega)
 have p:madeCells (f z).cells (c.toNat*i.size)=(List.replicate c.toNat (f z)).toArray:=by
  rw[hs,Nat.mul_one,d]
  apply Array.ext
  ·simp[madeCells]
  ·intro j h1 h2
   simp[madeCells,Nat.mod_one]
 rw[p]at g
 refine zxk (fun v w'=>v= .slice (some ⟨w.heap.size,0,none⟩) (List.replicate l.toNat z).length c.toNat∧w'=w.alloc (.cells (List.replicate c.toNat (f z)).toArray e)) hm hdn hg hk ⟨_,_,.inl ?_,rfl,rfl⟩ fun v w' ⟨hv,hw⟩=>?_
 ·rw[hop,a]
  simp only[Sem.run_bind,g,Result.andThen,Sem.run_pure]
 ·subst hv;subst hw
  refine h _ _ (zww w _) ⟨List.replicate l.toNat (f z),⟨by simp[flat],.inr ⟨w.heap.size,c.toNat,_,(0,0),rfl,.inl rfl,heap_alloc_new w _,by rw[a];omega,by unfold maxLen;omega,by simp[flat],?_⟩⟩,fun i x hx=>?_,fun _ _ h=>h⟩ rfl (by simp)
  ·simp only[List.length_replicate,List.take_replicate]
   congr 1
   show min (l.toNat*1) c.toNat=_
   omega
  ·show List.take 1 (List.drop (i*1) (List.replicate l.toNat (f z)))=[f x]
   rw[List.getElem?_replicate]at hx
   split at hx
   ·cases hx
    rename_i hlt
    rw[Nat.mul_one,List.drop_replicate,List.take_replicate,Nat.min_eq_left (by omega)]
    rfl
   ·cases hx
theorem gv_loadAgg {t:TypeId} {A:Addr} (cs:Array Value) (ss:List Nat) {d:Nat} (hm:m=some false->C w) (hd':o.dst=some d) (hdn:Nat.blt d n=true) (hg:zzl all σ o=some true)
 (hk:(zzB o.op&&zzO σ o.op.operands.toList)=true) (hop:execOp (evr σ) o=(do pure (.value (<- Instr.loadAt t (.pointer (some A)))))) (ht:zqm P t=some true) (hsz:(P.info? t).map (·.size)=some cs.size)
 (hc:∀ w',Inw m C w w'->zyZ w' A cs.toList)
 (hp:pk ss (put σ d (.agg cs))=some σ') (h:Run P R n (.ops all C rest::k) .normal σ' w):Run P R n (.ops all C ((o,m)::rest)::k) .normal σ w:=
 zx4 (.agg cs) ss hm hd' hdn hg hk (fun w' a=>by
  rw[hop]
  have hl:(loadCells A cs.size).run P w'= .ok cs w':=by
   have:=run_loadCells_list (P:=P) w' A cs.toList (hc w' a)
   simpa using this
  simp only[Instr.loadAt,Instr.sureAddr,loadVar,Sem.run_bind,zwF ht,zzN hsz,Result.andThen,Sem.run_pure,if_true,hl]) hp h
end
end Go.Gv
