/-
  Own rules:rows handed over by the caller,iterators over strings,maps. No condition of its own.
-/
import Derived.Test.YtbiopeiafkldiaaGreatDoorGf
import GoSem.Instr.MapUpdate
import Derived.Laws.IdiomStrings
import Derived.Laws.RangeString
set_option linter.all false
namespace Go.Gv
open Go.RowKit
/-! ### a row that the caller hands over -/
theorem grown_stepO {a b c:World} {p r:Option Nat} (h:a.grownBy b p) (h':b.grownBy c r) (hr:∀ g,r=some g→p=some g∨a.heap.size≤g):a.grownBy c p:=
 ⟨h'.os.trans h.os,h'.tape.trans h.tape,h'.output.trans h.output,Nat.le_trans h.size h'.size,fun k hk hne=>(h'.block k (Nat.lt_of_lt_of_le hk h.size) fun e=>by
   rcases hr k e.symm with h1 | h1
   ·exact hne h1.symm
   ·omega).trans (h.block k hk hne)⟩
theorem rowO {p:Option Nat} {A b:Nat} (h:A≤b):∀ g,some b=some g→p=some g∨A≤g:=fun g e=>by cases e;exact .inr h
theorem blkw_step {a a':Option Addr} {s z:Nat} (hk:∀ g,blk a'=some g→blk a=some g∨z≤g) (hl:∀ g,blk a=some g→s≤g) (hz:s≤z):∀ g,blk a'=some g→s≤g:=fun g e=>by
 rcases hk g e with h | h
 ·exact hl g h
 ·omega
theorem blkw_tr {a a':Option Addr} {p:Option Nat} {s z:Nat} (hk:∀ g,blk a'=some g→blk a=some g∨z≤g) (hl:∀ g,blk a=some g→p=some g∨s≤g) (hz:s≤z):∀ g,blk a'=some g→p=some g∨s≤g:=fun g e=>by
 rcases hk g e with h | h
 ·exact hl g h
 ·exact .inr (by omega)
theorem blkw_rev {a a':Option Addr} {z p:Nat} (hk:∀ g,blk a'=some g→blk a=some g∨z≤g) (h1:blk a≠some p) (h2:p<z):blk a'≠some p:=fun e=>by
 rcases hk p e with h | h
 ·exact h1 h
 ·omega
/-! ### objects that are no cells -/
def At (w:World) (b:Nat) (o:Obj):Prop:=w.heap[b]? =some o
theorem At.lt {w:World} {b:Nat} {o:Obj} (h:At w b o):b<w.heap.size:=(Array.getElem?_eq_some_iff.1 h).1
theorem At.grown {w w':World} {b:Nat} {o:Obj} {row:Option Nat} (h:At w b o) (hg:w.grownBy w' row) (hr:∀ g,row=some g→g≠b):At w' b o:=by
 unfold At
 rw[hg.block b h.lt fun e=>hr b e.symm rfl]
 exact h
def runeI (s:ByteArray) (pos:Nat):Int:=((Utf8.decode s pos).1:Nat)
def runeN (s:ByteArray) (pos:Nat):Nat:=(Utf8.decode s pos).2
section
variable {P:Program} {R:RR} {n:Nat} {k:List It} {σ σ':List (Nat × Value)} {w:World} {all:Array Oper} {C:World→Prop} {o:Oper} {m:Mk} {rest:List (Oper × Mk)}
theorem gv_range {t:TypeId} {s:ByteArray} (hb:effB n all σ o m=true) (hop:execOp (evr σ) o=(do pure (.value (← Instr.range t (.string s))))) (ht:P.underlying t=some .string)
 (h:∀ b w',w.grownBy w' none→At w' b (.stringIter s 0)→b=w.heap.size→w'.heap.size=w.heap.size+1→Run P R n (.ops all C rest::k) .normal (putO σ o.dst (.pointer (some ⟨b,0,none⟩))) w'):
 Run P R n (.ops all C ((o,m)::rest)::k) .normal σ w:=by
 obtain ⟨rfl,h1,h2,h3⟩:=effB_of hb
 refine gv_eff (fun v w'=>v= .pointer (some ⟨w.heap.size,0,none⟩)∧w'=w.alloc (.stringIter s 0)) (by decide) h1 h2 h3 ⟨_,_,.inl ?_,rfl,rfl⟩ fun v w' ⟨hv,hw⟩=>?_
 ·rw[hop,Sem.run_bind,run_range_string w t s ht]
  rfl
 ·subst hv;subst hw
  exact ⟨fun e=>(by cases e),h _ _ (grown_alloc w _) (heap_alloc_new w _) rfl (by simp)⟩
theorem gv_next {b:Nat} {s:ByteArray} {pos:Nat} {ty:TypeId} (hb:effB n all σ o m=true) (hop:execOp (evr σ) o=(do pure (.value (← Instr.next (.pointer (some ⟨b,0,none⟩)) true ty)))) (hi:At w b (.stringIter s pos))
 (hT:decide (pos<s.size)=true→∀ w',w.grownBy w' (some b)→At w' b (.stringIter s (pos+runeN s pos))→w'.heap.size=w.heap.size→Run P R n (.ops all C rest::k) .normal (putO σ o.dst (.tuple #[.bool true,.int .i64 (pos:Nat),.int .i32 (runeI s pos)])) w')
 (hF:decide (pos<s.size)=false→Run P R n (.ops all C rest::k) .normal (putO σ o.dst (.tuple #[.bool false])) w):
 Run P R n (.ops all C ((o,m)::rest)::k) .normal σ w:=by
 obtain ⟨rfl,h1,h2,h3⟩:=effB_of hb
 have hi':w.heap[b]? =some (.stringIter s pos):=hi
 by_cases hp:pos<s.size
 ·refine gv_eff (fun v w'=>v= .tuple #[.bool true,.int .i64 (pos:Nat),.int .i32 (runeI s pos)]∧w'={ w with heap:=w.heap.setIfInBounds b (.stringIter s (pos+runeN s pos))}) (by decide) h1 h2 h3 ⟨_,_,.inl ?_,rfl,rfl⟩ fun v w' ⟨hv,hw⟩=>?_
  ·rw[hop,Sem.run_bind]
   simp only[Instr.next,getObj,setObj,Sem.run_bind,Sem.run,hi',Result.andThen,hp,if_true]
   simp[goInt,Sem.run,hi',runeI,runeN]
  ·subst hv;subst hw
   refine ⟨fun e=>(by cases e),hT (decide_eq_true hp) _ ⟨rfl,rfl,rfl,by simp,fun k _ hk=>?_⟩ ?_ (by simp)⟩
   ·exact Array.getElem?_setIfInBounds_ne (fun e=>hk (by rw[e]))
   ·exact Array.getElem?_setIfInBounds_self_of_lt hi.lt
 ·refine gv_eff (fun v w'=>v= .tuple #[.bool false]∧w'=w) (by decide) h1 h2 h3 ⟨_,_,.inl ?_,rfl,rfl⟩ fun v w' ⟨hv,hw⟩=>?_
  ·rw[hop,Sem.run_bind]
   simp[Instr.next,getObj,Sem.run,hi',hp]
  ·subst hv;subst hw
   exact ⟨fun e=>(by cases e),hF (decide_eq_false hp)⟩
end
/-! ### maps -/
def mget {α β:Type} [BEq α]:List (α × β)→α→Option β
 | [],_=>none
 | p::l,k=>if p.1==k then some p.2 else mget l k
def mgetD {α β:Type} [BEq α] (l:List (α × β)) (k:α) (z:β):β:=(mget l k).getD z
def mhas {α β:Type} [BEq α] (l:List (α × β)) (k:α):Bool:=(mget l k).isSome
def mput {α β:Type} [BEq α]:List (α × β)→α→β→List (α × β)
 | [],k,v=>[(k,v)]
 | p::l,k,v=>if p.1==k then (k,v)::l else p::mput l k v
structure KeyOk (P:Program) (kt:TypeId) {α:Type} [BEq α] (f:α→Value):Prop where
 td:∃ td,P.underlying kt=some td∧∀ a b,Instr.sameNow td (f a) (f b)=some (b==a)
 chk:∀ e w a,(Instr.checkKey e 10000 kt (f a)).run P w= .ok () w
 same:∀ a b,(b==a)=true→Instr.sameBits 10000 (f b) (f a)=true
theorem keyInt {P:Program} {kt:TypeId} {q:IntKind} (h:P.underlying kt=some (.int q)):KeyOk P kt (fun n:Int=>Value.int q n) where
 td:=⟨_,h,fun a b=>by
  simp only[Instr.sameNow,if_true]
  congr 1
  by_cases e:a=b
  ·subst e;simp
  ·rw[beq_eq_false_iff_ne.2 e,beq_eq_false_iff_ne.2 (fun h=>e h.symm)]⟩
 chk e w a:=by
  show (Instr.checkKey e (9999+1) kt (.int q a)).run P w=_
  unfold Instr.checkKey
  rw[Sem.run_bind,run_underlying h]
  rfl
 same a b e:=by
  have:b=a:=by simpa using e
  subst this
  simp[Instr.sameBits]
def MapO {α β:Type} (fk:α→Value) (fv:β→Value) (w:World) (b:Nat) (l:List (α × β)):Prop:=
 ∃ es clock,w.heap[b]? =some (.map es clock)∧es.toList.map (fun e=>(e.key,e.val))=l.map (fun p=>(fk p.1,fv p.2))
theorem MapO.lt {α β:Type} {fk:α→Value} {fv:β→Value} {w:World} {b:Nat} {l:List (α × β)} (h:MapO fk fv w b l):b<w.heap.size:=by
 obtain ⟨es,c,h,_⟩:=h
 exact (Array.getElem?_eq_some_iff.1 h).1
theorem MapO.grown {α β:Type} {fk:α→Value} {fv:β→Value} {w w':World} {b:Nat} {l:List (α × β)} {row:Option Nat} (h:MapO fk fv w b l) (hg:w.grownBy w' row) (hr:∀ g,row=some g→g≠b):MapO fk fv w' b l:=by
 have hl:=h.lt
 obtain ⟨es,c,h,h2⟩:=h
 refine ⟨es,c,?_,h2⟩
 rw[hg.block b hl fun e=>hr b e.symm rfl]
 exact h
theorem find_map {α β:Type} [BEq α] {fk:α→Value} {fv:β→Value} {td:TypeDesc} (ht:∀ a b,Instr.sameNow td (fk a) (fk b)=some (b==a)) (k:α):
 ∀ (l:List (α × β)) (es:List MapEntry) (i:Nat),es.map (fun e=>(e.key,e.val))=l.map (fun p=>(fk p.1,fv p.2))→
   (Instr.findNow td (fk k) es i=some none∧mget l k=none∧∀ v,mput l k v=l++[(k,v)])∨
   (∃ j v a,Instr.findNow td (fk k) es i=some (some (i+j,fv v))∧mget l k=some v∧(a==k)=true∧(es[j]?).map (·.key)=some (fk a)∧
     ∀ v',(es.modify j fun e=>{ e with key:=fk k,val:=fv v'}).map (fun e=>(e.key,e.val))=(mput l k v').map (fun p=>(fk p.1,fv p.2)))
 | [],es,i,h=>by
   cases es with
   | nil=>exact .inl ⟨rfl,rfl,fun _=>rfl⟩
   | cons e es=>cases h
 | p::l,es,i,h=>by
   cases es with
   | nil=>cases h
   | cons e es=>
     simp only[List.map_cons,List.cons.injEq,Prod.mk.injEq]at h
     obtain ⟨⟨h1,h2⟩,h3⟩:=h
     unfold Instr.findNow
     rw[h1,ht]
     cases hp:(p.1==k) with
     | true=>
       refine .inr ⟨0,p.2,p.1,by simp[h2],by simp[mget,hp],hp,by simp[h1],fun v'=>?_⟩
       simp[mput,hp,h3]
     | false=>
       rcases find_map ht k l es (i+1) h3 with ⟨a1,a2,a3⟩ | ⟨j,v,a,a1,a2,a3,a4,a5⟩
       ·exact .inl ⟨a1,by simp[mget,hp,a2],fun v=>by simp[mput,hp,a3]⟩
       ·refine .inr ⟨j+1,v,a,by simp only[a1];congr 3;omega,by simp[mget,hp,a2],a3,by simpa using a4,fun v'=>?_⟩
        simp only[mput,hp,Bool.false_eq_true,if_false,List.map_cons,← a5 v']
        simp[h1,h2]
section
variable {P:Program} {R:RR} {n:Nat} {k:List It} {σ σ':List (Nat × Value)} {w:World} {all:Array Oper} {C:World→Prop} {o:Oper} {m:Mk} {rest:List (Oper × Mk)}
theorem gv_makeMap {α β:Type} {t:TypeId} (fk:α→Value) (fv:β→Value) (hb:effB n all σ o m=true) (hop:execOp (evr σ) o=(do pure (.value (← Instr.makeMap t none))))
 (h:∀ b w',w.grownBy w' none→MapO fk fv w' b []→b=w.heap.size→w'.heap.size=w.heap.size+1→Run P R n (.ops all C rest::k) .normal (putO σ o.dst (.map (some b))) w'):
 Run P R n (.ops all C ((o,m)::rest)::k) .normal σ w:=by
 obtain ⟨rfl,h1,h2,h3⟩:=effB_of hb
 refine gv_eff (fun v w'=>v= .map (some w.heap.size)∧w'=w.alloc (.map #[] 0)) (by decide) h1 h2 h3 ⟨_,_,.inl ?_,rfl,rfl⟩ fun v w' ⟨hv,hw⟩=>?_
 ·rw[hop,Sem.run_bind]
  rfl
 ·subst hv;subst hw
  exact ⟨fun e=>(by cases e),h _ _ (grown_alloc w _) ⟨#[],0,heap_alloc_new w _,rfl⟩ rfl (by simp)⟩
theorem run_lookup {α β:Type} [BEq α] {t kt et:TypeId} {fk:α→Value} {fv:β→Value} {w:World} {b:Nat} {l:List (α × β)} {key:α} {z:β} (c:Bool)
 (ht:P.underlying t=some (.map kt et)) (hk:KeyOk P kt fk) (hz:∀ w,(zeroValue et).run P w= .ok (fv z) w) (hm:MapO fk fv w b l):
 (Instr.lookup t (.map (some b)) (fk key) c).run P w= .ok (if c then .tuple #[fv (mgetD l key z),.bool (mhas l key)] else fv (mgetD l key z)) w:=by
 obtain ⟨es,clock,he,hl⟩:=hm
 obtain ⟨td,htd,hs⟩:=hk.td
 unfold Instr.lookup
 simp only[Sem.run_bind,run_underlying ht,Result.andThen,getObj,Sem.run,he,Sem.run_pure,hk.chk,Instr.findKey,run_underlying htd]
 rcases find_map hs key l es.toList 0 hl with ⟨a1,a2,_⟩ | ⟨j,v,a,a1,a2,_⟩
 ·simp only[a1,Sem.run_pure,Result.andThen,Sem.run_bind,hz]
  cases c<;>simp[mgetD,mhas,a2]
 ·simp only[a1,Sem.run_pure,Result.andThen,Sem.run_bind]
  cases c<;>simp[mgetD,mhas,a2]
theorem gv_lookup {α β:Type} [BEq α] {t kt et:TypeId} (fk:α→Value) (fv:β→Value) {b:Nat} {l:List (α × β)} {key:α} {z:β} (c:Bool) {v:Value} (ss:List Nat) {d:Nat} (hm:m=some false→C w) (hd':o.dst=some d) (hdn:Nat.blt d n=true) (hg:guardB all σ o=some true)
 (hk:(noSel o.op&&known σ o.op.operands.toList)=true) (hop:execOp (evr σ) o=(do pure (.value (← Instr.lookup t (.map (some b)) (fk key) c))))
 (ht:P.underlying t=some (.map kt et)) (hkk:KeyOk P kt fk) (hz:∀ w,(zeroValue et).run P w= .ok (fv z) w)
 (hc:∀ w',Inw m C w w'→MapO fk fv w' b l) (hv:(if c then .tuple #[fv (mgetD l key z),.bool (mhas l key)] else fv (mgetD l key z))=v)
 (hp:pk ss (put σ d v)=some σ') (h:Run P R n (.ops all C rest::k) .normal σ' w):Run P R n (.ops all C ((o,m)::rest)::k) .normal σ w:=
 gv_eqv v ss hm hd' hdn hg hk (fun w' hw'=>by
  rw[hop,Sem.run_bind,run_lookup (fv:=fv) c ht hkk hz (hc w' hw'),hv]
  rfl) hp h
theorem gv_mapset {α β:Type} [BEq α] {t kt et:TypeId} (fk:α→Value) (fv:β→Value) {b:Nat} {l:List (α × β)} (key:α) (val:β) (hb:effB n all σ o m=true) (hop:execOp (evr σ) o=(do Instr.mapUpdate t (.map (some b)) (fk key) (fv val);pure .skip))
 (ht:P.underlying t=some (.map kt et)) (hk:KeyOk P kt fk) (hm:MapO fk fv w b l)
 (h:∀ w',w.grownBy w' (some b)→MapO fk fv w' b (mput l key val)→w'.heap.size=w.heap.size→Run P R n (.ops all C rest::k) .normal (putO σ o.dst undef) w'):
 Run P R n (.ops all C ((o,m)::rest)::k) .normal σ w:=by
 have hlt:=hm.lt
 obtain ⟨rfl,h1,h2,h3⟩:=effB_of hb
 obtain ⟨es,clock,he,hl⟩:=hm
 obtain ⟨td,htd,hs⟩:=hk.td
 have key1:∀ ob:Obj,w.grownBy { w with heap:=w.heap.setIfInBounds b ob} (some b)∧({ w with heap:=w.heap.setIfInBounds b ob}:World).heap[b]? =some ob∧({ w with heap:=w.heap.setIfInBounds b ob}:World).heap.size=w.heap.size:=fun ob=>
  ⟨⟨rfl,rfl,rfl,by simp,fun k _ hk=>Array.getElem?_setIfInBounds_ne (fun e=>hk (by rw[e]))⟩,Array.getElem?_setIfInBounds_self_of_lt hlt,by simp⟩
 rcases find_map hs key l es.toList 0 hl with ⟨a1,a2,a3⟩ | ⟨j,v,a,a1,a2,a3,a4,a5⟩
 ·obtain ⟨g1,g2,g3⟩:=key1 (.map (es.push { key:=fk key,val:=fv val,born:=clock}) (clock+1))
  refine gv_eff (fun u w'=>u=undef∧w'={ w with heap:=w.heap.setIfInBounds b (.map (es.push { key:=fk key,val:=fv val,born:=clock}) (clock+1))}) (by decide) h1 h2 h3 ⟨undef,_,.inr ⟨?_,rfl⟩,rfl,rfl⟩ fun v w' ⟨hv,hw⟩=>?_
  ·rw[hop,Sem.run_bind]
   unfold Instr.mapUpdate
   simp only[Sem.run_bind,run_underlying ht,Result.andThen,getObj,Sem.run,he,hk.chk,Instr.findKey,run_underlying htd,a1,Sem.run_pure,setObj]
  ·subst hv;subst hw
   refine ⟨fun e=>(by cases e),h _ g1 ⟨_,_,g2,?_⟩ g3⟩
   rw[a3]
   simp[hl]
 ·obtain ⟨g1,g2,g3⟩:=key1 (.map (es.modify j fun e=>{ e with key:=fk key,val:=fv val}) clock)
  have hkey:((es[j]?).map (·.key)).getD (fk key)=fk a:=by
   rw[← Array.getElem?_toList,a4];rfl
  refine gv_eff (fun u w'=>u=undef∧w'={ w with heap:=w.heap.setIfInBounds b (.map (es.modify j fun e=>{ e with key:=fk key,val:=fv val}) clock)}) (by decide) h1 h2 h3 ⟨undef,_,.inr ⟨?_,rfl⟩,rfl,rfl⟩ fun v w' ⟨hv,hw⟩=>?_
  ·rw[hop,Sem.run_bind]
   unfold Instr.mapUpdate
   simp only[Sem.run_bind,run_underlying ht,Result.andThen,getObj,Sem.run,he,hk.chk,Instr.findKey,run_underlying htd,a1,Sem.run_pure,setObj,Nat.zero_add,hkey,Instr.keyThatStays,hk.same key a a3,if_true]
  ·subst hv;subst hw
   refine ⟨fun e=>(by cases e),h _ g1 ⟨_,_,g2,?_⟩ g3⟩
   rw[← a5 val]
   simp
end
end Go.Gv
