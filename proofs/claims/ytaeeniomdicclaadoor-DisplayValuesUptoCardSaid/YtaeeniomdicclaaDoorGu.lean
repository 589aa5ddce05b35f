import Derived.Test.YtaeeniomdicclaaDoorGh
set_option linter.all false
namespace Go.Gv
open Go.RowKit
structure GF (w w':World) (S:Nat->Prop):Prop where
 os:w'.os=w.os
 tape:w'.tape=w.tape
 output:w'.output=w.output
 size:w.heap.size<=w'.heap.size
 block:∀ k,k<w.heap.size->¬ S k->w'.heap[k]? =w.heap[k]?
section
variable {a b c w w':World} {S T:Nat->Prop}
theorem zxQ (w:World) (S:Nat->Prop):GF w w S:=⟨rfl,rfl,rfl,Nat.le_refl _,fun _ _ _=>rfl⟩
theorem gf_step {r:Option Nat} (h:GF a b S) (h':b.grownBy c r) (hr:∀ g,r=some g->S g∨a.heap.size<=g):GF a c S:=
 ⟨h'.os.trans h.os,h'.tape.trans h.tape,h'.output.trans h.output,Nat.le_trans h.size h'.size,fun k hk hs=>by
   rw[h'.block k (Nat.lt_of_lt_of_le hk h.size) (fun e=>(hr k e.symm).elim hs (Nat.not_le_of_lt hk)),h.block k hk hs]⟩
theorem gf_stepF (h:GF a b S) (h':GF b c T) (hr:∀ g,T g->S g∨a.heap.size<=g):GF a c S:=
 ⟨h'.os.trans h.os,h'.tape.trans h.tape,h'.output.trans h.output,Nat.le_trans h.size h'.size,fun k hk hs=>by
   rw[h'.block k (Nat.lt_of_lt_of_le hk h.size) (fun e=>(hr k e).elim hs (Nat.not_le_of_lt hk)),h.block k hk hs]⟩
theorem bgF (h:Below a.heap.size a b) (h':GF b c T) (hr:∀ g,T g->a.heap.size<=g):Below a.heap.size a c:=
 zxA (by
  have g:=grown_of_below h
  exact ⟨h'.os.trans g.os,h'.tape.trans g.tape,h'.output.trans g.output,Nat.le_trans g.size h'.size,fun k hk hs=>by
   rw[h'.block k (Nat.lt_of_lt_of_le hk g.size) (fun e=>Nat.not_le_of_lt hk (hr k e)),g.block k hk hs]⟩)
theorem zsD {z b:Nat} (h:S b∨z<=b):∀ g,some b=some g->S g∨z<=g:=fun g e=>by cases e;exact h
theorem zsa {x x':Option Addr} {s z:Nat} (hk:blk x'=blk x∨∃ g,blk x'=some g∧z<=g) (hl:∀ g,blk x=some g->S g∨s<=g) (hz:s<=z):∀ g,blk x'=some g->S g∨s<=g:=fun g e=>by
 rcases hk with h | ⟨g',h,h'⟩
 ·rw[h]at e;exact hl g e
 ·rw[h]at e;cases e;exact .inr (Nat.le_trans hz h')
theorem zt2 {b g z:Nat} (h:g=b) (hz:z<=b):z<=g:=by rw[h];exact hz
theorem or_at {b g z:Nat} (h:g=b) (hz:S b∨z<=b):S g∨z<=g:=by rw[h];exact hz
theorem nt_box {F:Nat->Prop} {b:Nat} (hb:¬ F b):∀ x,F x->¬ (x=b):=fun x hx e=>hb (e ▸ hx)
theorem nt_row {F:Nat->Prop} {x:Option Addr} (h:∀ g,blk x=some g->¬ F g):∀ y,F y->¬ (blk x=some y):=fun y hy e=>h y e hy
theorem nt_or {F:Nat->Prop} (h1:∀ x,F x->¬ S x) (h2:∀ x,F x->¬ T x):∀ x,F x->¬ (S x∨T x):=fun x hx h=>h.elim (h1 x hx) (h2 x hx)
theorem nt_new {F:Nat->Prop} {x:Option Addr} {z:Nat} (hk:∀ g,blk x=some g->T g∨z<=g) (hn:∀ y,F y->¬ T y) (hz:∀ y,F y->y<z):∀ g,blk x=some g->¬ F g:=fun g e hf=>
 (hk g e).elim (hn g hf) (Nat.not_le_of_lt (hz g hf))
theorem nt_rev {x:Option Addr} {z p:Nat} (hk:∀ g,blk x=some g->T g∨z<=g) (hn:¬ T p) (hz:p<z):blk x≠some p:=fun e=>(hk p e).elim hn (Nat.not_le_of_lt hz)
end
theorem Rd.gf {α:Type} {E:Enc α} {w w':World} {X T:Nat->Prop} {a:Option Addr} {cap:Nat} {xs:List α} (h:Rd E w X a cap xs) (hg:GF w w' T) (hX:∀ k,X k->k<w.heap.size) (hr:∀ k,X k->¬ T k):Rd E w' X a cap xs:=
 h.keep fun k hk=>hg.block k (hX k hk) (hr k hk)
theorem Box.gf {w w':World} {b:Nat} {t:TypeId} {cs:Array Value} {T:Nat->Prop} (h:Box w b t cs) (hg:GF w w' T) (hr:∀ k,k=b->¬ T k):Box w' b t cs:=by
 unfold Box
 rw[hg.block b h.lt (hr b rfl)]
 exact h
theorem At.gf {w w':World} {b:Nat} {x:Obj} {T:Nat->Prop} (h:At w b x) (hg:GF w w' T) (hr:∀ k,k=b->¬ T k):At w' b x:=by
 unfold At at*
 rw[hg.block b (Array.getElem?_eq_some_iff.1 h).1 (hr b rfl)]
 exact h
theorem Own.gf {α:Type} {E:Enc α} {e:TypeId} {w w':World} {X T:Nat->Prop} {a:Option Addr} {cap:Nat} {xs:List α} (h:Own E e w X a cap xs) (hg:GF w w' T) (hX:∀ k,X k->k<w.heap.size)
 (hr:∀ k,(blk a=some k∨X k)->¬ T k):Own E e w' X a cap xs:=by
 have d:=h.lt
 obtain ⟨fl,h1,h2,h3⟩:=h
 exact ⟨fl,h1.same fun g e=>(fun (e:blk a=some g)=>hg.block g (d g e) (hr g (.inl e))) (by cases a<;>exact e),fun i x hx=>E.keep (h2 i x hx) fun k hk=>hg.block k (hX k hk) (hr k (.inr hk)),h3⟩
theorem Own.gff {α:Type} {E:Enc α} {e:TypeId} {w w':World} {T:Nat->Prop} {a:Option Addr} {cap:Nat} {xs:List α} (h:Own E e w (fun _=>False) a cap xs) (hg:GF w w' T)
 (hr:∀ k,blk a=some k->¬ T k):Own E e w' (fun _=>False) a cap xs:=
 h.gf hg (fun _ h=>h.elim) (fun k hk=>hk.elim (hr k) (fun h=>h.elim))
def bl (s:ByteArray):Option (List UInt8):=if s.size<=4294967296 then some (bytesOf s) else none
section
variable {P:Program} {R:RR} {n:Nat} {k:List It} {σ σ':List (Nat × Value)} {w:World} {all:Array Oper} {C:World->Prop} {o:Oper} {m:Mk} {rest:List (Oper × Mk)}
theorem zsd {src dst e:TypeId} {s:ByteArray} {l:List UInt8} (hm:m≠some true) (hdn:zy9 n o.dst=true) (hg:zzl all σ o=some true)
 (hk:(zzB o.op&&zzO σ o.op.operands.toList)=true) (hop:execOp (evr σ) o=(do pure (.value (<- convert src dst (.string s)))))
 (hs:P.underlying src=some .string) (hd:P.underlying dst=some (.slice e)) (he:P.underlying e=some (.int .u8)) (hl:bl s=some l)
 (h:∀ b cap w',w.grownBy w' none->Own bE e w' (fun _=>False) (some ⟨b,0,none⟩) cap l->b=w.heap.size->w'.heap.size=w.heap.size+1->
   (m=some false->C w')∧Run P R n (.ops all C rest::k) .normal (zwT σ o.dst (.slice (some ⟨b,0,none⟩) l.length cap)) w'):
 Run P R n (.ops all C ((o,m)::rest)::k) .normal σ w:=by
 unfold bl at hl
 split at hl
 ·rename_i hsz
  cases hl
  let W:=w.drew.alloc (.cells (bytesRow s (grownCap w s.size 0 e)) e ((bytesRow s (grownCap w s.size 0 e)).size,(bytesRow s (grownCap w s.size 0 e)).size+1))
  have d:(bytesOf s).length=s.size:=by simp[bytesOf]
  have r:=grownCap_ge w s.size 0 e
  have p:grownCap w s.size 0 e<=maxLen:=grownCap_le_maxLen w s.size 0 e (by unfold maxLen;omega)
  have f:(bytesRow s (grownCap w s.size 0 e)).size=grownCap w s.size 0 e:=by
   have:s.data.size=s.size:=rfl
   simp[bytesRow];omega
  refine zxk (fun v w'=>v= .slice (some ⟨w.heap.size,0,none⟩) (bytesOf s).length (grownCap w s.size 0 e)∧w'=W) hm hdn hg hk ⟨_,W,.inl ?_,rfl,rfl⟩ fun v w' ⟨hv,hw⟩=>?_
  ·rw[hop,d]
   simp only[Sem.run_bind,run_bytes_of_string w src dst e s hs hd he,Result.andThen,Sem.run_pure]
   rfl
  ·subst hv;subst hw
   have g:W.heap[w.heap.size]? =some (.cells (bytesRow s (grownCap w s.size 0 e)) e ((bytesRow s (grownCap w s.size 0 e)).size,(bytesRow s (grownCap w s.size 0 e)).size+1)):=heap_alloc_new w.drew _
   refine h _ _ W ⟨rfl,rfl,rfl,by simp[W],fun kk t _=>heap_alloc_old (w:=w.drew) (h:=t) ..⟩ ⟨(bytesOf s).map fun c=>.int .u8 c.toNat,⟨by simp[bE,flat],.inr ⟨w.heap.size,_,_,_,rfl,.inr ?_,g,by rw[d];exact r,p,?_,?_⟩⟩,fun i x hi=>?_,fun _ _ h=>h⟩ rfl (by simp[W])
   ·show _*1<=(bytesRow s _).size
    rw[f];omega
   ·show _=_*1
    rw[f];omega
   ·show List.take (_*1) _=_
    rw[Nat.mul_one]
    have:(bytesRow s (grownCap w s.size 0 e)).toList=(bytesOf s).map (fun c=>Value.int .u8 c.toNat)++List.replicate (grownCap w s.size 0 e-s.size) (.int .u8 0):=by simp[bytesRow,bytesOf]
    rw[this,List.take_append_of_le_length (by simp),List.take_of_length_le (by simp)]
   ·show List.take 1 (List.drop (i*1) _)=[_]
    obtain ⟨q,j⟩:=List.getElem?_eq_some_iff.1 hi
    rw[Nat.mul_one,<- List.map_drop,<- List.map_take,List.drop_eq_getElem_cons q,j]
    rfl
 ·cases hl
end
def zsV {α:Type} (A:Option Addr) (CAP:Nat) (pre suf:List α) (E:Enc α) (e:TypeId) (w:World) (X:Nat->Prop) (a:Option Addr) (cap:Nat) (xs:List α):Prop:=
 Own E e w X A CAP (pre++xs++suf)∧a=(if CAP=pre.length then A else A.map (·.add (pre.length*E.n)))∧cap=CAP-pre.length
theorem zpl (A:Option Addr) (k:Nat):blk (A.map (·.add k))=blk A:=by
 cases A with
 | none=>rfl
 | some A=>show some (A.add k).block=some A.block;congr 1;unfold Addr.add;split<;>rfl
theorem zp9 (A:Option Addr) (k:Nat) (c:Prop) [Decidable c]:blk (if c then A else A.map (·.add k))=blk A:=by
 split
 ·rfl
 ·exact zpl A k
def zpP {α:Type} (xs:List α) (l h:Int) (ys:List α):List α:=xs.take l.toNat++ys++xs.drop h.toNat
section
variable {α:Type} {A:Option Addr} {CAP:Nat} {pre suf:List α} {E:Enc α} {e:TypeId} {w w':World} {X Y:Nat->Prop} {a:Option Addr} {cap:Nat} {xs ys zs:List α}
theorem zsV.blk (h:zsV A CAP pre suf E e w X a cap xs):blk a=Gv.blk A:=by rw[h.2.1];exact zp9 ..
theorem zsV.lt (h:zsV A CAP pre suf E e w X a cap xs):∀ g,Gv.blk a=some g->g<w.heap.size:=fun g e=>h.1.lt g (h.blk ▸ e)
theorem zsV.grown {row:Option Nat} (h:zsV A CAP pre suf E e w X a cap xs) (hg:w.grownBy w' row) (hX:∀ k,X k->k<w.heap.size)
 (hr:∀ g,row=some g->¬ X g∧Gv.blk a≠some g):zsV A CAP pre suf E e w' X a cap xs:=
 ⟨h.1.grown hg hX (fun g e=>⟨(hr g e).1,fun e'=>(hr g e).2 (h.blk.trans e')⟩),h.2⟩
theorem zoy (pre xs suf:List α):sub (pre++xs++suf) (pre.length:Int) ((pre.length+xs.length:Nat):Int)=some xs:=by
 unfold sub
 rw[if_pos ⟨by omega,by omega,by simp only[List.length_append];omega⟩,Int.toNat_natCast,Int.toNat_natCast,List.take_left' (by simp),List.drop_left' rfl]
theorem zsV.rd (h:zsV A CAP pre suf E e w X a cap xs) (h1:∀ k,X k->Y k) (h3:∀ g,Gv.blk a=some g->Y g):Rd E w Y a cap xs:=by
 have hb:=h.blk
 obtain ⟨h0,rfl,rfl⟩:=h
 have:=(h0.rd h1 (fun g e=>h3 g (hb.trans e))).sub (zoy pre xs suf)
 simpa using this
theorem zsV.whole {l h:Int} (hw:zsV A CAP (xs.take l.toNat) (xs.drop h.toNat) E e w X a cap ys) (hz:some (zpP xs l h ys)=some zs):Own E e w X A CAP zs:=by
 cases hz;exact hw.1
end
section
variable {P:Program} {R:RR} {n:Nat} {k:List It} {σ σ':List (Nat × Value)} {w:World} {all:Array Oper} {C:World->Prop} {o:Oper} {m:Mk} {rest:List (Oper × Mk)}
end
end Go.Gv
