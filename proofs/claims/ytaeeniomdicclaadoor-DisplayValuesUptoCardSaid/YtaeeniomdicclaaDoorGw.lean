import Derived.Test.YtaeeniomdicclaaDoorGv
set_option linter.all false
namespace Go.Gv
open Go.RowKit
def idx {α:Type} (xs:List α) (i:Int):Option α:=if 0<=i then xs[i.toNat]? else none
def zvo (s:ByteArray) (i:Int):Option Int:=if 0<=i then (s.data.toList[i.toNat]?).map fun c=>(c.toNat:Int) else none
def sub {α:Type} (xs:List α) (l h:Int):Option (List α):=if 0<=l∧l<=h∧h<=xs.length then some ((xs.take h.toNat).drop l.toNat) else none
def app {α:Type} (xs ys:List α):Option (List α):=if xs.length+ys.length<=4294967296 then some (xs++ys) else none
def cat (s t:ByteArray):Option ByteArray:=if s.size+t.size<=9223372036854775807 then some (s++t) else none
def upd {α:Type} (xs:List α) (i:Int) (x:α):Option (List α):=if 0<=i∧i<xs.length then some (xs.set i.toNat x) else none
def u8 (n:Int):Option UInt8:=if 0<=n∧n<256 then some (UInt8.ofNat n.toNat) else none
def bytesOf (s:ByteArray):List UInt8:=s.data.toList
def strOf (l:List UInt8):ByteArray:=⟨l.toArray⟩
theorem u8_spec {n:Int} {c:UInt8} (h:u8 n=some c):(c.toNat:Int)=n:=by
 unfold u8 at h
 split at h
 ·rename_i hn
  cases h
  have:n.toNat<256:=by omega
  simp[UInt8.toNat_ofNat',Nat.mod_eq_of_lt this]
  omega
 ·cases h
structure Enc (α:Type) where
 n:Nat
 rep:World->(Nat->Prop)->List Value->α->Prop
 len:∀ {w X cs x},rep w X cs x->cs.length=n
 one:∀ {w X cs x},rep w X cs x->∀ v∈cs,v.oneCell'=true
 keep:∀ {w w' X cs x},rep w X cs x->(∀ k,X k->w'.heap[k]? =w.heap[k]?)->rep w' X cs x
 wide:∀ {w X Y cs x},rep w X cs x->(∀ k,X k->Y k)->rep w Y cs x
def flat {α:Type} (f:α->Value) (h:∀ x,(f x).oneCell'=true):Enc α where
 n:=1
 rep _ _ cs x:=cs=[f x]
 len e:=by rw[e];rfl
 one e v hv:=by rw[e]at hv;rw[List.mem_singleton.1 hv];exact h _
 keep e _:=e
 wide e _:=e
def iE (k:IntKind):Enc Int:=flat (fun n=>.int k n) fun _=>rfl
def bE:Enc UInt8:=flat (fun c=>.int .u8 c.toNat) fun _=>rfl
def sE:Enc ByteArray:=flat .string fun _=>rfl
def tE:Enc Bool:=flat .bool fun _=>rfl
def zyZ (w:World) (A:Addr) (cs:List Value):Prop:=∀ j v,cs[j]? =some v->w.cell? (A.add j)=some v
theorem add_lit (b off j:Nat):(⟨b,off,none⟩:Addr).add j=⟨b,off+j,none⟩:=by
 unfold Addr.add
 split
 ·simp_all
 ·rfl
def Rd {α:Type} (E:Enc α) (w:World) (X:Nat->Prop) (a:Option Addr) (cap:Nat) (xs:List α):Prop:=
 xs.length<=cap∧∀ i x,xs[i]? =some x->∃ b off c,a=some ⟨b,off,none⟩∧X b∧E.rep w X c x∧zyZ w ⟨b,off+i*E.n,none⟩ c
theorem Rd.nil {α:Type} (E:Enc α) (w:World) (X:Nat->Prop) (a:Option Addr) (cap:Nat):Rd E w X a cap []:=
 ⟨Nat.zero_le _,fun i x hx=>by simp at hx⟩
theorem Rd.keep {α:Type} {E:Enc α} {w w':World} {X:Nat->Prop} {a:Option Addr} {cap:Nat} {xs:List α} (h:Rd E w X a cap xs) (hk:∀ k,X k->w'.heap[k]? =w.heap[k]?):Rd E w' X a cap xs:=by
 obtain ⟨h1,h3⟩:=h
 refine ⟨h1,fun i x hx=>?_⟩
 obtain ⟨b,off,c,e,e1,e3,e4⟩:=h3 i x hx
 refine ⟨b,off,c,e,e1,E.keep e3 hk,fun j v hv=>?_⟩
 have:=e4 j v hv
 rw[add_lit]at this ⊢
 rw[World.cell?_of_block (w:=w) (hk b e1)]
 exact this
theorem Rd.wide {α:Type} {E:Enc α} {w:World} {X Y:Nat->Prop} {a:Option Addr} {cap:Nat} {xs:List α} (h:Rd E w X a cap xs) (h1:∀ k,X k->Y k):Rd E w Y a cap xs:=by
 obtain ⟨e1,h3⟩:=h
 refine ⟨e1,fun i x hx=>?_⟩
 obtain ⟨b,off,c,e,f1,f3,f4⟩:=h3 i x hx
 exact ⟨b,off,c,e,h1 _ f1,E.wide f3 h1,f4⟩
theorem Rd.grown {α:Type} {E:Enc α} {w w':World} {X:Nat->Prop} {a:Option Addr} {cap:Nat} {xs:List α} {row:Option Nat} (h:Rd E w X a cap xs) (hg:w.grownBy w' row) (hX:∀ k,X k->k<w.heap.size)
 (hr:∀ g,row=some g->¬ X g):Rd E w' X a cap xs:=
 h.keep fun k hk=>hg.block k (hX k hk) fun e=>hr k e.symm hk
theorem Rd.below {α:Type} {E:Enc α} {B:Nat} {w w':World} {X:Nat->Prop} {a:Option Addr} {cap:Nat} {xs:List α} (h:Rd E w X a cap xs) (hb:Below B w w') (hX:∀ k,X k->k<B):Rd E w' X a cap xs:=
 h.keep fun k hk=>hb.block k (hX k hk)
def elemAddr (a:Option Addr) (k:Nat):Addr:=(a.getD ⟨0,0,none⟩).add k
theorem zz2 {α:Type} {xs:List α} {i:Int} {x:α} (h:idx xs i=some x):0<=i∧i<xs.length∧xs[i.toNat]? =some x:=by
 unfold idx at h
 split at h
 ·rename_i h0
  obtain ⟨hlt,_⟩:=List.getElem?_eq_some_iff.1 h
  exact ⟨h0,by omega,h⟩
 ·cases h
theorem Rd.has {α:Type} {E:Enc α} {w:World} {X:Nat->Prop} {a:Option Addr} {cap:Nat} {xs:List α} (h:Rd E w X a cap xs) {i:Int} {x:α} (hi':idx xs i=some x):a.isSome=true:=by
 obtain ⟨_,_,h3⟩:=zz2 hi'
 obtain ⟨b,off,c,e,_⟩:=h.2 _ _ h3
 rw[e];rfl
theorem Rd.cells {α:Type} {E:Enc α} {w:World} {X:Nat->Prop} {a:Option Addr} {cap:Nat} {xs:List α} (h:Rd E w X a cap xs) {i:Int} {x:α} (hi':idx xs i=some x):
 ∃ c,E.rep w X c x∧zyZ w (elemAddr a (i.toNat*E.n)) c:=by
 obtain ⟨_,_,h3⟩:=zz2 hi'
 obtain ⟨b,off,c,e,_,e3,e4⟩:=h.2 _ _ h3
 refine ⟨c,e3,?_⟩
 rw[e]
 show zyZ w ((⟨b,off,none⟩:Addr).add _) c
 rw[add_lit]
 exact e4
theorem Rd.cell {α:Type} {f:α->Value} {hf:∀ x,(f x).oneCell'=true} {w:World} {X:Nat->Prop} {a:Option Addr} {cap:Nat} {xs:List α} (h:Rd (flat f hf) w X a cap xs) {i:Int} {x:α}
 (hi':idx xs i=some x):w.cell? (elemAddr a (i.toNat*1))=some (f x):=by
 obtain ⟨c,e,e4⟩:=h.cells hi'
 have:=e4 0 (f x) (by rw[show c=[f x] from e];rfl)
 rw[show ∀ A:Addr,A.add 0=A from fun A=>by unfold Addr.add;rw[if_pos rfl]]at this
 exact this
theorem zwb {α:Type} {xs ys:List α} {l h:Int} (e:sub xs l h=some ys):0<=l∧l<=h∧h<=xs.length∧ys=(xs.take h.toNat).drop l.toNat:=by
 unfold sub at e
 split at e
 ·rename_i hh
  cases e
  exact ⟨hh.1,hh.2.1,hh.2.2,rfl⟩
 ·cases e
theorem zuk {α:Type} {xs ys:List α} {l h:Int} (e:sub xs l h=some ys):ys.length=h.toNat-l.toNat:=by
 obtain ⟨h0,h1,h2,rfl⟩:=zwb e
 rw[List.length_drop,List.length_take]
 omega
theorem Rd.sub {α:Type} {E:Enc α} {w:World} {X:Nat->Prop} {a:Option Addr} {cap:Nat} {xs ys:List α} (h:Rd E w X a cap xs) {l h':Int} (e:sub xs l h'=some ys):
 Rd E w X (if cap=l.toNat then a else a.map (·.add (l.toNat*E.n))) (cap-l.toNat) ys:=by
 have g:=zuk e
 obtain ⟨h0,h1,h2,he⟩:=zwb e
 obtain ⟨g1,g3⟩:=h
 refine ⟨by omega,fun i x hx=>?_⟩
 have hi:i<ys.length:=(List.getElem?_eq_some_iff.1 hx).1
 have f:xs[l.toNat+i]? =some x:=by
  rw[he,List.getElem?_drop,List.getElem?_take]at hx
  split at hx
  ·exact hx
  ·cases hx
 obtain ⟨b,off,c,e1,e2,e4,e5⟩:=g3 _ _ f
 have d:cap≠l.toNat:=by omega
 rw[if_neg d,e1]
 refine ⟨b,off+l.toNat*E.n,c,?_,e2,e4,?_⟩
 ·show some ((⟨b,off,none⟩:Addr).add _)=_
  rw[add_lit]
 ·rw[Nat.add_assoc,<- Nat.add_mul]
  exact e5
def Box (w:World) (b:Nat) (t:TypeId) (cs:Array Value):Prop:=w.heap[b]? =some (.cells cs t (0,0))
theorem Box.lt {w:World} {b:Nat} {t:TypeId} {cs:Array Value} (h:Box w b t cs):b<w.heap.size:=(Array.getElem?_eq_some_iff.1 h).1
theorem Box.grown {w w':World} {b:Nat} {t:TypeId} {cs:Array Value} {row:Option Nat} (h:Box w b t cs) (hg:w.grownBy w' row) (hr:∀ g,row=some g->g≠b):Box w' b t cs:=by
 unfold Box
 rw[hg.block b h.lt fun e=>hr b e.symm rfl]
 exact h
theorem Box.cells {w:World} {b:Nat} {t:TypeId} {cs:Array Value} (h:Box w b t cs):zyZ w ⟨b,0,none⟩ cs.toList:=fun j v hv=>by
 rw[add_lit,Nat.zero_add]
 unfold World.cell?
 rw[h]
 simpa using hv
theorem Box.cell {w:World} {b:Nat} {t:TypeId} {cs:Array Value} (h:Box w b t cs) (j:Nat) {v:Value} (hv:cs[j]? =some v):w.cell? ⟨b,j,none⟩=some v:=by
 unfold World.cell?
 rw[h]
 simpa using hv
theorem Box.rd {α:Type} {f:α->Value} {hf:∀ x,(f x).oneCell'=true} {w:World} {b:Nat} {t:TypeId} {cs:Array Value} (h:Box w b t cs) {xs:List α} (hx:cs.toList=xs.map f):
 Rd (flat f hf) w (· =b) (some ⟨b,0,none⟩) xs.length xs:=by
 refine ⟨Nat.le_refl _,fun i x hi=>⟨b,0,[f x],rfl,rfl,rfl,fun j v hv=>?_⟩⟩
 have hc:cs[i]? =some (f x):=by
  rw[<- Array.getElem?_toList,hx,List.getElem?_map,hi];rfl
 cases j with
 | zero=>
   cases hv
   rw[add_lit]
   have:=h.cell i hc
   simpa [flat] using this
 | succ j=>simp at hv
def blk (a:Option Addr):Option Nat:=a.map (·.block)
def zy0 (w:World) (e:TypeId) (size:Nat) (v:Value) (n:Nat) (xs:List Value):Prop:=
 xs.length=n*size∧((v= .slice none 0 0∧n=0)∨
  ∃ g cap cur fz,v= .slice (some ⟨g,0,none⟩) n cap∧(fz=(0,0)∨cap*size<=fz.1)∧w.heap[g]? =some (.cells cur e fz)∧n<=cap∧cap<=maxLen∧cur.size=cap*size∧cur.toList.take (n*size)=xs)
section
variable {w w':World} {B:Nat} {e:TypeId} {size:Nat} {v:Value} {n:Nat} {xs:List Value}
theorem zsW (w:World) (e:TypeId) (size:Nat):zy0 w e size (.slice none 0 0) 0 []:=⟨by simp,.inl ⟨rfl,rfl⟩⟩
theorem zy0.lt (h:zy0 w e size v n xs):∀ k,v.ownBlock=some k->k<w.heap.size:=by
 intro k hk
 rcases h.2 with ⟨rfl,_⟩ | ⟨g,cap,cur,fz,rfl,_,hg,_⟩
 ·simp[Value.ownBlock]at hk
 ·simp[Value.ownBlock]at hk
  subst hk
  exact (Array.getElem?_eq_some_iff.1 hg).1
theorem zy0.same (h:zy0 w e size v n xs) (hb:∀ g,v.ownBlock=some g->w'.heap[g]? =w.heap[g]?):zy0 w' e size v n xs:=by
 refine ⟨h.1,?_⟩
 rcases h.2 with hn | ⟨g,cap,cur,fz,rfl,hz,a,rest⟩
 ·exact .inl hn
 ·exact .inr ⟨g,cap,cur,fz,rfl,hz,by rw[hb g rfl];exact a,rest⟩
theorem zy0.kept {row:Option Nat} (h:zy0 w e size v n xs) (hg:w.grownBy w' row) (hne:v.ownBlock=none∨v.ownBlock≠row):zy0 w' e size v n xs:=
 h.same fun g e=>hg.block g (h.lt g e) (by rcases hne with hn | hn;· rw[hn]at e;cases e
                                           ·rw[<- e];exact hn)
theorem zy0.cells (h:zy0 w e size v n xs) {g:Nat} (hg:v.ownBlock=some g):∀ j u,xs[j]? =some u->w.cell? ((⟨g,0,none⟩:Addr).add j)=some u:=by
 intro j u hu
 rcases h.2 with ⟨rfl,_⟩ | ⟨g',cap,cur,fz,rfl,_,c,_,_,_,a⟩
 ·simp[Value.ownBlock]at hg
 ·simp[Value.ownBlock]at hg
  subst hg
  have b:(⟨g',0,none⟩:Addr).add j=⟨g',j,none⟩:=by unfold Addr.add;split<;>simp_all
  rw[b,cell_of_row w g' j cur e fz c]
  rw[<- a,List.getElem?_take]at hu
  split at hu
  ·simpa using hu
  ·cases hu
end
def Own {α:Type} (E:Enc α) (e:TypeId) (w:World) (X:Nat->Prop) (a:Option Addr) (cap:Nat) (xs:List α):Prop:=
 ∃ fl:List Value,zy0 w e E.n (.slice a xs.length cap) xs.length fl∧(∀ i x,xs[i]? =some x->E.rep w X ((fl.drop (i*E.n)).take E.n) x)∧∀ g,blk a=some g->¬ X g
theorem Own.nil {α:Type} (E:Enc α) (e:TypeId) (w:World) (X:Nat->Prop):Own E e w X none 0 []:=
 ⟨[],zsW w e E.n,fun i x hx=>by simp at hx,fun g hg=>by cases hg⟩
theorem Own.lt {α:Type} {E:Enc α} {e:TypeId} {w:World} {X:Nat->Prop} {a:Option Addr} {cap:Nat} {xs:List α} (h:Own E e w X a cap xs):∀ g,blk a=some g->g<w.heap.size:=by
 obtain ⟨fl,h1,_⟩:=h
 intro g hg
 cases a with
 | none=>cases hg
 | some A=>exact h1.lt g hg
theorem Own.grown {α:Type} {E:Enc α} {e:TypeId} {w w':World} {X:Nat->Prop} {a:Option Addr} {cap:Nat} {xs:List α} {row:Option Nat} (h:Own E e w X a cap xs) (hg:w.grownBy w' row) (hX:∀ k,X k->k<w.heap.size)
 (hr:∀ g,row=some g->¬ X g∧blk a≠some g):Own E e w' X a cap xs:=by
 obtain ⟨fl,h1,h2,h3⟩:=h
 have b:(Value.slice a xs.length cap).ownBlock=blk a:=by cases a<;>rfl
 refine ⟨fl,h1.kept hg ?_,fun i x hx=>E.keep (h2 i x hx) fun k hk=>hg.block k (hX k hk) fun e=>(hr k e.symm).1 hk,h3⟩
 rw[b]
 cases hb:blk a with
 | none=>exact .inl rfl
 | some g=>exact .inr fun e=>(hr g e.symm).2 hb
theorem Own.wide {α:Type} {E:Enc α} {e:TypeId} {w:World} {X Y:Nat->Prop} {a:Option Addr} {cap:Nat} {xs:List α} (h:Own E e w X a cap xs) (h1:∀ k,X k->Y k)
 (h3:∀ g,blk a=some g->¬ Y g):Own E e w Y a cap xs:=by
 obtain ⟨fl,g1,g2,_⟩:=h
 exact ⟨fl,g1,fun i x hx=>E.wide (g2 i x hx) h1,h3⟩
theorem Own.rd {α:Type} {E:Enc α} {e:TypeId} {w:World} {X Y:Nat->Prop} {a:Option Addr} {cap:Nat} {xs:List α} (h:Own E e w X a cap xs) (h1:∀ k,X k->Y k)
 (h3:∀ g,blk a=some g->Y g):Rd E w Y a cap xs:=by
 obtain ⟨fl,⟨hl,c⟩,g2,_⟩:=h
 rcases c with ⟨hv,hn⟩ | ⟨g,l,cur,fz,hv,_,hg,d,_,hcs,b⟩
 ·have hx:xs=[]:=List.eq_nil_of_length_eq_zero hn
  subst hx
  cases hv
  exact Rd.nil E w Y none 0
 ·cases hv
  refine ⟨d,fun i x hx=>⟨g,0,_,rfl,h3 g rfl,E.wide (g2 i x hx) h1,fun j v hj=>?_⟩⟩
  rw[add_lit]
  have f:j<E.n:=by
   rcases Nat.lt_or_ge j E.n with h | h
   ·exact h
   ·rw[List.getElem?_take,if_neg (by omega)]at hj;cases hj
  rw[List.getElem?_take,if_pos f,List.getElem?_drop]at hj
  have:=cell_of_row w g (i*E.n+j) cur e fz hg
  rw[show 0+i*E.n+j=i*E.n+j by omega,this]
  rw[<- b,List.getElem?_take]at hj
  split at hj
  ·simpa using hj
  ·cases hj
theorem Box.own {α:Type} {f:α->Value} {hf:∀ x,(f x).oneCell'=true} {w:World} {b:Nat} {e:TypeId} {cs:Array Value} (h:Box w b e cs) {xs:List α} (hx:cs.toList=xs.map f) (hl:xs.length<=maxLen):
 Own (flat f hf) e w (fun _=>False) (some ⟨b,0,none⟩) xs.length xs:=by
 have a:cs.size=xs.length:=by rw[<- Array.length_toList,hx,List.length_map]
 refine ⟨xs.map f,⟨by simp[flat],.inr ⟨b,xs.length,cs,(0,0),rfl,.inl rfl,h,Nat.le_refl _,hl,by simp[flat,a],?_⟩⟩,fun i x hi=>?_,fun _ _ h=>h⟩
 ·rw[hx]
  show List.take (xs.length*1) (xs.map f)=xs.map f
  rw[Nat.mul_one,List.take_of_length_le (by simp)]
 ·show List.take 1 (List.drop (i*1) (List.map f xs))=[f x]
  obtain ⟨c,d⟩:=List.getElem?_eq_some_iff.1 hi
  rw[Nat.mul_one,<- List.map_drop,<- List.map_take,List.drop_eq_getElem_cons c,d]
  rfl
end Go.Gv
