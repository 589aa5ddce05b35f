import Derived.Test.YtaeeniomdicclaaDoorGx
set_option linter.all false
namespace Go.Gv
open Go.RowKit
def zzj {τ ρ:Type} (F:τ->Option (τ ⊕ ρ)):Nat->τ->Option ρ
 | 0,_=>none
 | m+1,st=>match F st with
   | none=>none
   | some (.inl st')=>zzj F m st'
   | some (.inr r)=>some r
theorem zp1 {p:Nat->Prop} (h:∃ m,p m):∃ m,p m∧∀ m',p m'->m<=m':=by
 obtain ⟨m,hm⟩:=h
 induction m using Nat.strongRecOn with
 | _ m ih=>
   by_cases hh:∃ m',m'<m∧p m'
   ·obtain ⟨m',a,hp⟩:=hh
    exact ih m' a hp
   ·exact ⟨m,hm,fun m' hp=>by
     rcases Nat.lt_or_ge m' m with h | h
     ·exact absurd ⟨m',h,hp⟩ hh
     ·exact h⟩
theorem bind_some {α β:Type} {x:Option α} {f:α->Option β} {b:β} (h:x.bind f=some b):∃ a,x=some a∧f a=some b:=by
 cases x with
 | none=>cases h
 | some a=>exact ⟨a,rfl,h⟩
theorem bindE {α β:Type} {G:Prop} {x:Option α} {f:α->Option β} {b:β} (h:x.bind f=some b) (k:∀ a,x=some a->f a=some b->G):G:=by
 obtain ⟨a,h1,h2⟩:=bind_some h
 exact k a h1 h2
theorem zoC {α:Type} {c:Bool} {a b r:α} (hc:c=true) (h:(if c=true then a else b)=r):a=r:=by rwa [if_pos hc]at h
theorem zo3 {α:Type} {c:Bool} {a b r:α} (hc:c=false) (h:(if c=true then a else b)=r):b=r:=by rwa [if_neg (by rw[hc];decide)]at h
def cont {τ ρ:Type} (f:τ->Option ρ):τ ⊕ ρ->Option ρ
 | .inl st=>f st
 | .inr r=>some r
theorem cont_inl {τ ρ:Type} {f:τ->Option ρ} {st:τ} {r:Option ρ} (h:cont f (.inl st)=r):f st=r:=h
theorem cont_inr {τ ρ:Type} {f:τ->Option ρ} {x:ρ} {r:Option ρ} (h:cont f (.inr x)=r):some x=r:=h
def pcase {τ ε ρ:Type} (f:τ->Option ρ) (g:ε->Option ρ):τ ⊕ ε->Option ρ
 | .inl x=>f x
 | .inr p=>g p
theorem pcase_inl {τ ε ρ:Type} {f:τ->Option ρ} {g:ε->Option ρ} {x:τ} {r:Option ρ} (h:pcase f g (.inl x)=r):f x=r:=h
theorem pcase_inr {τ ε ρ:Type} {f:τ->Option ρ} {g:ε->Option ρ} {x:ε} {r:Option ρ} (h:pcase f g (.inr x)=r):g x=r:=h
def nz (y:Int):Option Unit:=if y=0 then none else some ()
def nn (y:Int):Option Unit:=if 0<=y then some () else none
theorem zx8 {y:Int} {u:Unit} (h:nz y=some u):y≠0:=fun e=>by unfold nz at h;rw[if_pos e]at h;cases h
def zqr (k:IntKind) (a b:Int):Int:=k.wrap ((BitVec.ofInt k.bits a &&& BitVec.ofInt k.bits b).toNat:Int)
def zpc (k:IntKind) (a b:Int):Int:=k.wrap ((BitVec.ofInt k.bits a ||| BitVec.ofInt k.bits b).toNat:Int)
def zqZ (k:IntKind) (a b:Int):Int:=k.wrap ((BitVec.ofInt k.bits a ^^^ BitVec.ofInt k.bits b).toNat:Int)
theorem blk_step {a a':Option Addr} {s z:Nat} (hk:blk a'=blk a∨∃ g,blk a'=some g∧z<=g) (hl:∀ g,blk a=some g->s<=g) (hz:s<=z):∀ g,blk a'=some g->s<=g:=fun g e=>by
 rcases hk with h | ⟨g',h,h'⟩
 ·rw[h]at e;exact hl g e
 ·rw[h]at e;cases e;omega
theorem apart_symm {a a':Option Addr} (h:∀ g,blk a=some g->blk a'≠some g):∀ g,blk a'=some g->blk a≠some g:=fun g e e'=>h g e' e
theorem blk_neX {a a':Option Addr} {X:Nat->Prop} {z:Nat} (hk:blk a'=blk a∨∃ g,blk a'=some g∧z<=g) (hl:∀ g,blk a=some g->¬ X g) (hz:∀ k,X k->k<z):∀ g,blk a'=some g->¬ X g:=fun g e e'=>by
 rcases hk with h | ⟨g',h,h'⟩
 ·rw[h]at e;exact hl g e e'
 ·rw[h]at e;cases e;have:=hz _ e';omega
def zv9 {α:Type} (E:Enc α) (a:Option Addr) (cap:Nat) (xs:List α) (a':Option Addr) (cap':Nat) (ys:List α):Prop:=∀ w X,Rd E w X a cap xs->Rd E w X a' cap' ys
theorem zv9.refl {α:Type} (E:Enc α) (a:Option Addr) (cap:Nat) (xs:List α):zv9 E a cap xs a cap xs:=fun _ _ h=>h
theorem zv9.trans {α:Type} {E:Enc α} {a b c:Option Addr} {ca cb cc:Nat} {xs ys zs:List α} (h:zv9 E a ca xs b cb ys) (h':zv9 E b cb ys c cc zs):zv9 E a ca xs c cc zs:=fun w X hr=>h' w X (h w X hr)
theorem zv9.nil {α:Type} (E:Enc α) (a:Option Addr) (cap:Nat) (xs:List α) (b:Option Addr) (cb:Nat):zv9 E a cap xs b cb []:=fun w X _=>Rd.nil E w X b cb
section
variable {P:Program} {R:RR} {n:Nat} {k:List It} {σ σ':List (Nat × Value)} {w:World} {all:Array Oper} {C:World->Prop} {o:Oper} {m:Mk} {rest:List (Oper × Mk)}
open Classical in
theorem gv_loop {τ ρ:Type} {F:τ->Option (τ ⊕ ρ)} (A:τ->Act->World->Prop) {body:Code} {fuel:Nat} {st0:τ} {r:ρ} (hr:zzj F fuel st0=some r)
 (h0:∀ a:Act,a.defers=R.ds->a.tmps.size=n->Ok σ a.tmps->A st0 a w)
 (hround:∀ st res,F st=some res->(∀ r',res= .inr r'->r'=r)->∀ a w,A st a w->K P R (.code body:: .goal (fun a w=>∃ b,res= .inl b∧A b a w)::k) .normal a w):
 Run P R n (.code (.loop body)::k) .normal σ w:=fun a hd hs i=>by
 show (Code.loop body).wpIn (FR R.r) 0 P (K P R k) a w
 let p:Act->World->Nat->Prop:=fun a w m=>∃ st,zzj F m st=some r∧A st a w
 let I:Act->World->Prop:=fun a w=>∃ m,p a w m
 let μ:Act->World->Nat:=fun a w=>if h:∃ m,p a w m then Classical.choose (zp1 h) else 0
 have hμ:∀ a w (h:I a w),p a w (μ a w)∧∀ m',p a w m'->μ a w<=m':=fun a w h=>by
  have e:μ a w=Classical.choose (zp1 h):=dif_pos h
  rw[e]
  exact Classical.choose_spec (zp1 h)
 refine wpIn_loop I μ ⟨fuel,st0,hr,h0 a hd hs i⟩ fun a w hI=>?_
 obtain ⟨⟨st,d,hA⟩,_⟩:=hμ a w hI
 generalize μ a w=M at*
 cases M with
 | zero=>cases d
 | succ M=>
   have c:(match F st with | none=>none | some (.inl b)=>zzj F M b | some (.inr r)=>some r)=some r:=d
   cases hF:F st with
   | none=>rw[hF]at c;cases c
   | some res=>
     rw[hF]at c
     have f:∀ r',res= .inr r'->r'=r:=fun r' e=>by subst e;exact Option.some.inj c
     refine wpIn_mono (show body.wpIn (FR R.r) 0 P (K P R (.goal _::k)) a w from hround st res hF f a w hA) fun e a' w' hh=>?_
     cases e with
     | normal=>
       obtain ⟨b,e,g⟩:=(show ∃ b,res= .inl b∧A b a' w' from hh)
       subst e
       have hp:p a' w' M:=⟨b,c,g⟩
       exact ⟨⟨M,hp⟩,Nat.lt_succ_of_le ((hμ a' w' ⟨M,hp⟩).2 M hp)⟩
     | _=>exact hh
theorem gv_split {s:Nat} {g:Bool} {e:Exit} (hl:look σ s=some (.bool g)) (ht:g=true->Run P R n k e (put σ s (.bool true)) w) (hf:g=false->Run P R n k e (put σ s (.bool false)) w):Run P R n k e σ w:=
 fun a hd hs c=>by
  have key:∀ b:Bool,g=b->Ok (put σ s (.bool b)) a.tmps:=fun b hb=>by
   refine ⟨by rw[<- hb];exact c.look hl,?_⟩
   have d:∀ σ:List (Nat × Value),Ok σ a.tmps->Ok (σ.filter fun p=> !(Nat.beq p.1 s)) a.tmps:=fun σ=>by
    induction σ with
    | nil=>exact fun _=>trivial
    | cons p σ ih=>
      intro h
      obtain ⟨h1,h2⟩:=h
      rw[List.filter_cons]
      split
      ·exact ⟨h1,ih h2⟩
      ·exact ih h2
   exact d σ c
  cases hb:g with
  | true=>exact ht hb a hd hs (key true hb)
  | false=>exact hf hb a hd hs (key false hb)
theorem gv_name {s:Nat} {v v':Value} {e:Exit} (hl:look σ s=some v) (hv:v=v') (h:Run P R n k e (put σ s v') w):Run P R n k e σ w:=fun a hd hs b=>by
 subst hv
 refine h a hd hs ⟨b.look hl,?_⟩
 have c:∀ σ:List (Nat × Value),Ok σ a.tmps->Ok (σ.filter fun p=> !(Nat.beq p.1 s)) a.tmps:=fun σ=>by
  induction σ with
  | nil=>exact fun _=>trivial
  | cons p σ ih=>
    intro h
    obtain ⟨h1,h2⟩:=h
    rw[List.filter_cons]
    split
    ·exact ⟨h1,ih h2⟩
    ·exact ih h2
 exact c σ b
theorem zu0 {α:Type} (E:Enc α) {t e:TypeId} {xs:List α} {a:Option Addr} {cap:Nat} {lo hi:Option Value} (l h:Int) (ys:List α) {d:Nat} (hm:m=some false->C w) (hd':o.dst=some d) (hdn:Nat.blt d n=true)
 (hg:zzl all σ o=some true) (hk:(zzB o.op&&zzO σ o.op.operands.toList)=true)
 (hop:execOp (evr σ) o=(do pure (.value (<- Instr.sliceAt t (.slice a xs.length cap) lo hi none)))) (ht:P.underlying t=some (.slice e)) (hsz:(P.info? e).map (·.size)=some E.n)
 (h1:lowV lo l) (h2:zpJ hi xs.length h) (hr:sub xs l h=some ys) (hcap:xs.length<=cap)
 (hrest:∀ a' cap',zv9 E a cap xs a' cap' ys->Run P R n (.ops all C rest::k) .normal (put σ d (.slice a' ys.length cap')) w):Run P R n (.ops all C ((o,m)::rest)::k) .normal σ w:=by
 have b:=zuk hr
 obtain ⟨h0,c,hh,_⟩:=zwb hr
 simp only[Bool.and_eq_true]at hk
 refine ztk hm hd' hdn hg (fun w' _ a1 f=>?_) (hrest (if cap=l.toNat then a else a.map (·.add (l.toNat*E.n))) (cap-l.toNat) (fun w X g=>g.sub hr))
 rw[zxR f hk.1 hk.2,hop]
 simp[Instr.sliceAt,Instr.slice,run_underlying ht,zzN hsz,zuU true h1 h2 h0 c hh hcap,b]
theorem zu5 (s:ByteArray) (c:Nat) (i:Nat) (x:UInt8) (h:s.data.toList[i]? =some x):(bytesRow s c)[i]? =some (.int .u8 x.toNat):=by
 unfold bytesRow
 obtain ⟨b,hx⟩:=List.getElem?_eq_some_iff.1 h
 have a:i<s.data.size:=by simpa using b
 rw[Array.getElem?_append_left (by simpa using a)]
 have d:s.data[i]? =some x:=by rw[<- Array.getElem?_toList];exact h
 rw[Array.getElem?_map,d]
 rfl
theorem zq3 {src dst e:TypeId} {s:ByteArray} (hm:m≠some true) (hdn:zy9 n o.dst=true) (hg:zzl all σ o=some true)
 (hk:(zzB o.op&&zzO σ o.op.operands.toList)=true) (hop:execOp (evr σ) o=(do pure (.value (<- convert src dst (.string s)))))
 (hs:P.underlying src=some .string) (hd:P.underlying dst=some (.slice e)) (he:P.underlying e=some (.int .u8))
 (h:∀ a cap w',w.grownBy w' none->Rd bE w' (· =w.heap.size) a cap (bytesOf s)->w'.heap.size=w.heap.size+1->
   (m=some false->C w')∧Run P R n (.ops all C rest::k) .normal (zwT σ o.dst (.slice a (bytesOf s).length cap)) w'):
 Run P R n (.ops all C ((o,m)::rest)::k) .normal σ w:=by
 let W:=w.drew.alloc (.cells (bytesRow s (grownCap w s.size 0 e)) e ((bytesRow s (grownCap w s.size 0 e)).size,(bytesRow s (grownCap w s.size 0 e)).size+1))
 have b:(bytesOf s).length=s.size:=by simp[bytesOf]
 refine zxk (fun v w'=>v= .slice (some ⟨w.heap.size,0,none⟩) (bytesOf s).length (grownCap w s.size 0 e)∧w'=W) hm hdn hg hk ⟨_,W,.inl ?_,rfl,rfl⟩ fun v w' ⟨hv,hw⟩=>?_
 ·rw[hop,b]
  simp only[Sem.run_bind,run_bytes_of_string w src dst e s hs hd he,Result.andThen,Sem.run_pure]
  rfl
 ·subst hv;subst hw
  have c:W.heap[w.heap.size]? =some (.cells (bytesRow s (grownCap w s.size 0 e)) e ((bytesRow s (grownCap w s.size 0 e)).size,(bytesRow s (grownCap w s.size 0 e)).size+1)):=heap_alloc_new w.drew _
  refine h _ _ W ⟨rfl,rfl,rfl,by simp[W],fun k hk _=>heap_alloc_old w.drew _ hk⟩ ⟨?_,fun i x hx=>⟨w.heap.size,0,[.int .u8 x.toNat],rfl,rfl,rfl,fun j v hv=>?_⟩⟩ (by simp[W])
  ·rw[b];exact grownCap_ge w s.size 0 e
  ·cases j with
   | zero=>
     cases hv
     rw[add_lit]
     unfold World.cell?
     simp only[c]
     have:=zu5 s (grownCap w s.size 0 e) i x hx
     simpa [bE,flat] using this
   | succ j=>simp at hv
end
end Go.Gv
