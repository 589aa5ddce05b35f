import Derived.Test.YtmpmeiihjnnomaaGreatDoorGz
set_option linter.all false
namespace Go.Gv
open Go.RowKit
def prE {α β:Type} (E:Enc α) (F:Enc β):Enc (α × β) where
 n:=E.n+F.n
 rep w X cs x:=∃ c d,cs=c++d∧E.rep w X c x.1∧F.rep w X d x.2
 len:=fun ⟨_,_,e,h1,h2⟩=>by rw[e,List.length_append,E.len h1,F.len h2]
 one:=fun ⟨_,_,e,h1,h2⟩ v hv=>by
  rw[e]at hv
  rcases List.mem_append.1 hv with h | h
  ·exact E.one h1 v h
  ·exact F.one h2 v h
 keep:=fun ⟨c,d,e,h1,h2⟩ hk=>⟨c,d,e,E.keep h1 hk,F.keep h2 hk⟩
 wide:=fun ⟨c,d,e,h1,h2⟩ hk=>⟨c,d,e,E.wide h1 hk,F.wide h2 hk⟩
theorem Rd.cellsK {α:Type} {E:Enc α} {w:World} {X:Nat->Prop} {a:Option Addr} {cap:Nat} {xs:List α} (h:Rd E w X a cap xs) {i:Int} {x:α} (hi:idx xs i=some x):
 ∃ c,E.rep w X c x∧∀ w':World,(∀ k,X k->w'.heap[k]? =w.heap[k]?)->zyL w' (elemAddr a (i.toNat*E.n)) c:=by
 obtain ⟨_,_,h3⟩:=zx6 hi
 obtain ⟨b,off,c',e,hX,e3,e4⟩:=h.2 _ _ h3
 refine ⟨c',e3,fun w' hk j v hv=>?_⟩
 rw[e]
 show w'.cell? (((⟨b,off,none⟩:Addr).add _).add j)=_
 have:=e4 j v hv
 rw[add_lit]at this
 rw[add_lit,add_lit,World.cell?_of_block (w:=w) (hk b hX)]
 exact this
theorem Own.cellsK {α:Type} {E:Enc α} {e:TypeId} {w:World} {X:Nat->Prop} {a:Option Addr} {cap:Nat} {xs:List α} (h:Own E e w X a cap xs) {i:Int} {x:α} (hi:idx xs i=some x):
 ∃ c,E.rep w X c x∧∀ w':World,(∀ k,(blk a=some k∨X k)->w'.heap[k]? =w.heap[k]?)->zyL w' (elemAddr a (i.toNat*E.n)) c:=by
 obtain ⟨_,_,h3⟩:=zx6 hi
 obtain ⟨fl,⟨hl,d⟩,g2,_⟩:=h
 have hlt:i.toNat<xs.length:=(List.getElem?_eq_some_iff.1 h3).1
 rcases d with ⟨hv,hn⟩ | ⟨g,p,l,fz,hv,_,hg,hnc,_,hcs,b⟩
 ·omega
 ·cases hv
  refine ⟨_,g2 _ x h3,fun w' hk j v hj=>?_⟩
  have f:j<E.n:=by
   rcases Nat.lt_or_ge j E.n with h | h
   ·exact h
   ·rw[List.getElem?_take,if_neg (by omega)]at hj;cases hj
  rw[List.getElem?_take,if_pos f,List.getElem?_drop]at hj
  show w'.cell? (((⟨g,0,none⟩:Addr).add _).add j)=_
  rw[add_lit,add_lit,World.cell?_of_block (w:=w) (hk g (.inl rfl))]
  have:=cell_of_row w g (i.toNat*E.n+j) l e fz hg
  rw[show 0+i.toNat*E.n+j=i.toNat*E.n+j by omega,this]
  rw[<- b,List.getElem?_take]at hj
  split at hj
  ·simpa using hj
  ·cases hj
theorem Own.out {α:Type} {E:Enc α} {e:TypeId} {w:World} {X:Nat->Prop} {a:Option Addr} {cap:Nat} {xs:List α} (h:Own E e w X a cap xs):∀ g,blk a=some g->¬ X g:=h.choose_spec.2.2
theorem zyL.zero {w:World} {A:Addr} {c:List Value} {v:Value} (h:zyL w A c) (hv:c[0]? =some v):w.cell? A=some v:=by
 have:=h 0 v hv
 rwa [zym]at this
def ziV {α:Type} (E:Enc α) (w:World) (X:Nat->Prop):List Value->List α->Prop
 | cs,[]=>cs=[]
 | cs,x::xs=>∃ c d,cs=c++d∧E.rep w X c x∧ziV E w X d xs
theorem ziV.spec {α:Type} {E:Enc α} {w:World} {X:Nat->Prop}:∀ {xs:List α} {cs:List Value},ziV E w X cs xs->cs.length=xs.length*E.n∧∀ (i:Nat) (x:α),xs[i]? =some x->E.rep w X ((cs.drop (i*E.n)).take E.n) x
 | [],_,h=>by rw[show _=[] from h];exact ⟨by simp,fun i x hx=>by simp at hx⟩
 | y::ys,_,⟨c,d,e,h1,h2⟩=>by
   obtain ⟨g1,g2⟩:=ziV.spec h2
   have hc:=E.len h1
   refine ⟨by rw[e,List.length_append,hc,g1,List.length_cons,Nat.succ_mul,Nat.add_comm],fun i x hx=>?_⟩
   cases i with
   | zero=>
     cases hx
     rw[e,Nat.zero_mul,List.drop_zero,<- hc,List.take_left]
     exact h1
   | succ i=>
     rw[e,Nat.succ_mul,Nat.add_comm,<- List.drop_drop,<- hc,List.drop_left,hc]
     exact g2 i x (by simpa using hx)
theorem Box.ownE {α:Type} {E:Enc α} {w:World} {b:Nat} {e:TypeId} {cs:Array Value} (h:Box w b e cs) {X:Nat->Prop} {xs:List α} (hx:ziV E w X cs.toList xs) (hl:xs.length<=maxLen) (hb:¬ X b):
 Own E e w X (some ⟨b,0,none⟩) xs.length xs:=by
 obtain ⟨h1,h2⟩:=hx.spec
 refine ⟨cs.toList,⟨h1,.inr ⟨b,xs.length,cs,(0,0),rfl,.inl rfl,h,Nat.le_refl _,hl,by rw[<- Array.length_toList,h1],?_⟩⟩,h2,fun g hg=>by cases hg;exact hb⟩
 rw[<- h1];exact List.take_length
theorem blk_rev {a a':Option Addr} {z p:Nat} (hk:blk a'=blk a∨∃ g,blk a'=some g∧z<=g) (h1:blk a≠some p) (h2:p<z):blk a'≠some p:=fun e=>by
 rcases hk with h | ⟨g,h,h'⟩
 ·rw[h]at e;exact h1 e
 ·rw[h]at e;cases e;omega
section
variable {P:Program} {R:RR} {n:Nat} {k:List It} {σ σ':List (Nat × Value)} {w:World} {all:Array Oper} {C:World->Prop} {o:Oper} {m:Mk} {rest:List (Oper × Mk)}
def mkC {α:Type} (l c:Int) (z:α):Option (List α):=if 0<=l∧l<=c∧c<=1073741824 then some (List.replicate l.toNat z) else none
theorem zln {α:Type} {f:α->Value} {hf:∀ x,(f x).oneCell'=true} {t e:TypeId} {kl kc:IntKind} {l c:Int} (z:α) (xs:List α) (hm:m≠some true) (hdn:zwY n o.dst=true) (hg:zza all σ o=some true)
 (hk:(zyQ o.op&&zyi σ o.op.operands.toList)=true) (hop:execOp (evr σ) o=(do pure (.value (<- Instr.makeSlice t (.int kl l) (.int kc c)))))
 (ht:P.underlying t=some (.slice e)) {bytes:Nat} (hi:(P.info? e).map (fun i=>(i.zero,i.size,i.bytes))=some (some (f z),1,bytes)) (hb:Nat.ble bytes 32768=true) (hr:mkC l c z=some xs)
 (h:∀ b w',w.grownBy w' none->Own (flat f hf) e w' (fun _=>False) (some ⟨b,0,none⟩) c.toNat xs->b=w.heap.size->w'.heap.size=w.heap.size+1->
   (m=some false->C w')∧Run P R n (.ops all C rest::k) .normal (zuz σ o.dst (.slice (some ⟨b,0,none⟩) xs.length c.toNat)) w'):
 Run P R n (.ops all C ((o,m)::rest)::k) .normal σ w:=by
 unfold mkC at hr
 split at hr
 case isFalse=>cases hr
 rename_i hh
 cases hr
 obtain ⟨h0,s,h1⟩:=hh
 obtain ⟨i,q,hz,hs,r⟩:=info_parts hi
 have hbb:i.bytes<=32768:=by rw[r];exact Nat.le_of_ble_eq_true hb
 have d:(List.replicate l.toNat z).length=l.toNat:=by simp
 have a:(f z).cells= #[f z]:=by
  have:=hf z
  cases hv:f z<;>rw[hv]at this<;>first | rfl | cases this
 have g:=run_make (P:=P) w t e i (f z) ht q hz kl kc l c h0 s (by
  have h2:(i.bytes:Int)*c<=32768*1073741824:=Int.mul_le_mul (by omega) h1 (by omega) (by omega)
  omega) (by omega)
 have p:madeCells (f z).cells (c.toNat*i.size)=(List.replicate c.toNat (f z)).toArray:=by
  rw[hs,Nat.mul_one,a]
  apply Array.ext
  ·simp[madeCells]
  ·intro j h1 h2
   simp[madeCells,Nat.mod_one]
 rw[p]at g
 refine zx2 (fun v w'=>v= .slice (some ⟨w.heap.size,0,none⟩) (List.replicate l.toNat z).length c.toNat∧w'=w.alloc (.cells (List.replicate c.toNat (f z)).toArray e)) hm hdn hg hk ⟨_,_,.inl ?_,rfl,rfl⟩ fun v w' ⟨hv,hw⟩=>?_
 ·rw[hop,d]
  simp only[Sem.run_bind,g,Result.andThen,Sem.run_pure]
 ·subst hv;subst hw
  refine h _ _ (zwT w _) ⟨List.replicate l.toNat (f z),⟨by simp[flat],.inr ⟨w.heap.size,c.toNat,_,(0,0),rfl,.inl rfl,heap_alloc_new w _,by rw[d];omega,by unfold maxLen;omega,by simp[flat],?_⟩⟩,fun i x hx=>?_,fun _ _ h=>h⟩ rfl (by simp)
  ·simp only[List.length_replicate,List.take_replicate]
   congr 1
   show min (l.toNat*1) c.toNat=_
   omega
  ·show List.take 1 (List.drop (i*1) (List.replicate l.toNat (f z)))=[f x]
   rw[List.getElem?_replicate]at hx
   split at hx
   ·cases hx
    rename_i hlt
    rw[Nat.mul_one,List.drop_replicate,List.take_replicate,Nat.min_eq_left (by omega)]
    rfl
   ·cases hx
theorem zmx {t e:TypeId} {x y:Operand} {a:Option Addr} {len cap:Nat} (ss:List Nat) {d:Nat} (hm:m=some false->C w) (hd':o.dst=some d) (hdn:Nat.blt d n=true) (hg:zza all σ o=some true)
 (hk:(zyQ o.op&&zyi σ o.op.operands.toList)=true) (hop:execOp (evr σ) o=(do pure (.value (<- (do eqGuard .eql t x y (.slice a len cap) (.slice none 0 0);binOp .eql t (.slice a len cap) (.slice none 0 0))))))
 (ht:P.underlying t=some (.slice e))
 (hp:pk ss (put σ d (.bool a.isNone))=some σ') (h:Run P R n (.ops all C rest::k) .normal σ' w):Run P R n (.ops all C ((o,m)::rest)::k) .normal σ w:=
 zxT _ ss hm hd' hdn hg hk (fun w' _=>by
  have h1:(eqGuard .eql t x y (.slice a len cap) (.slice none 0 0)).run P w'= .ok () w':=by simp[eqGuard]
  have h2:(binOp .eql t (.slice a len cap) (.slice none 0 0)).run P w'= .ok (.bool a.isNone) w':=by
   simp only[binOp]
   simp[run_equal_slice_nil w' t e a len cap ht]
  rw[hop]
  simp[h1,h2]) hp h
theorem zqd {α:Type} {E:Enc α} {w:World} {X:Nat->Prop} {a:Option Addr} {cap:Nat} {xs:List α} (h:Rd E w X a cap xs) (ha:a.isNone=true):xs=[]:=by
 cases xs with
 | nil=>rfl
 | cons x xs=>
   obtain ⟨b,off,c,e,_⟩:=h.2 0 x rfl
   rw[e]at ha;cases ha
theorem zp4 {t:TypeId} {A:Addr} (cs:Array Value) (ss:List Nat) {d:Nat} (hm:m=some false->C w) (hd':o.dst=some d) (hdn:Nat.blt d n=true) (hg:zza all σ o=some true)
 (hk:(zyQ o.op&&zyi σ o.op.operands.toList)=true) (hop:execOp (evr σ) o=(do pure (.value (<- Instr.loadAt t (.pointer (some A)))))) (ht:zlZ P t=some true) (hsz:(P.info? t).map (·.size)=some cs.size)
 (hc:∀ w',Inw m C w w'->zyL w' A cs.toList)
 (hp:pk ss (put σ d (.agg cs))=some σ') (h:Run P R n (.ops all C rest::k) .normal σ' w):Run P R n (.ops all C ((o,m)::rest)::k) .normal σ w:=
 zxT (.agg cs) ss hm hd' hdn hg hk (fun w' a=>by
  rw[hop]
  have hl:(loadCells A cs.size).run P w'= .ok cs w':=by
   have:=run_loadCells_list (P:=P) w' A cs.toList (hc w' a)
   simpa using this
  simp only[Instr.loadAt,Instr.sureAddr,loadVar,Sem.run_bind,zuV ht,zy5 hsz,Result.andThen,Sem.run_pure,if_true,hl]) hp h
end
end Go.Gv
