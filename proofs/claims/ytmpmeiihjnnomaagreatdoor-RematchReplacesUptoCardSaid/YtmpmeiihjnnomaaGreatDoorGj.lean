import Derived.Shelf.Strings.BuilderF
import Derived.Shelf.Strings.BuilderK
import Derived.Shelf.Strings.BuilderCap
import Derived.Shelf.Strings.Builder2Cap
import Derived.Test.YtmpmeiihjnnomaaGreatDoorGi
import Derived.Test.YtmpmeiihjnnomaaGreatDoorGu
set_option linter.all false
namespace Go.Gv
open Go.RowKit
def Bld (T e:TypeId) (w:World) (b:Nat) (x:Option (List UInt8)):Prop:=Lib.IsBuilderF T e b b (Lib.byteCells (x.getD [])) w
theorem znt {T e:TypeId} {B b:Nat} {bs:List Value} {w:World} (h:Lib.IsBuilderF T e B b bs w):b<w.heap.size:=by
 rcases h with h | h<;>exact Lib.BuilderAtF.lt h
theorem Bld.lt {T e:TypeId} {w:World} {b:Nat} {x:Option (List UInt8)} (h:Bld T e w b x):b<w.heap.size:=znt h
theorem ltBld {T e:TypeId} {w:World} {b:Nat} {x:Option (List UInt8)} (h:Bld T e w b x):∀ k,k=b->k<w.heap.size:=fun k hk=>by subst hk;exact h.lt
theorem zmv {T e:TypeId} {b:Nat} {bs:List Value} {w w':World} {row:Option Nat} (h:Lib.IsBuilderF T e b b bs w) (hg:w.grownBy w' row)
 (hr:∀ g,row=some g->g≠b∧(g<b∨∀ c fz,w.heap[g]? ≠some (.cells c e fz))):Lib.IsBuilderF T e b b bs w':=by
 have one:∀ p,Lib.BuilderAtF T e b b p bs w->Lib.BuilderAtF T e b b p bs w':=by
  intro p h
  have d:=h.lt
  obtain ⟨hB,v,hv,a,f⟩:=h
  refine ⟨hB,v,(hg.block b d fun e=>(hr b e.symm).1 rfl).trans hv,a.kept hg ?_,f⟩
  cases row with
  | none=>exact Classical.em _
  | some g=>
    refine .inr fun e1=>?_
    obtain ⟨c,fz,hc⟩:=Lib.ownsRowF_kind a g e1
    rcases (hr g rfl).2 with h2 | h2
    ·rcases a.2 with ⟨rfl,_⟩ | ⟨g',cap,cur,fz',rfl,hbg,_⟩
     ·simp[Value.ownBlock]at e1
     ·simp[Value.ownBlock]at e1;omega
    ·exact h2 c fz hc
 exact h.elim (fun h=>.inl (one _ h)) fun h=>.inr (one _ h)
theorem Bld.grown {T e:TypeId} {w w':World} {b:Nat} {x:Option (List UInt8)} {row:Option Nat} (h:Bld T e w b x) (hg:w.grownBy w' row)
 (hr:∀ g,row=some g->g≠b∧(g<b∨∀ c fz,w.heap[g]? ≠some (.cells c e fz))):Bld T e w' b x:=zmv h hg hr
theorem zjX {T e:TypeId} {w:World} {b:Nat} (h:Box w b T #[.pointer none,.slice none 0 0]):Bld T e w b none:=
 .inl ⟨Nat.le_refl _,.slice none 0 0,h,⟨rfl,.inl ⟨rfl,rfl⟩⟩,by simp[Value.ownBlock]⟩
theorem zni {w:World} {b k:Nat} {t e:TypeId} {cs:Array Value} (h:Box w k t cs) (hne:k≠b) (ht:t≠e):∀ g,some k=some g->g≠b∧(g<b∨∀ c fz,w.heap[g]? ≠some (.cells c e fz)):=by
 intro g hg;cases hg
 refine ⟨hne,.inr fun c fz h2=>?_⟩
 unfold Box at h
 rw[h]at h2;cases h2;exact ht rfl
theorem Box.belowB {w w':World} {B k:Nat} {t:TypeId} {cs:Array Value} (h:Box w k t cs) (hs:Below B w w') (hk:k<B):Box w' k t cs:=by
 unfold Box;rw[hs.block k hk];exact h
theorem At.belowB {w w':World} {B k:Nat} {x:Obj} (h:At w k x) (hs:Below B w w') (hk:k<B):At w' k x:=by
 unfold At;rw[hs.block k hk];exact h
theorem Box.others {w w':World} {b k:Nat} {t e:TypeId} {cs:Array Value} (h:Box w k t cs) (ho:Lib.OthersKept e (some b) w w') (hk:k≠b) (ht:t≠e):Box w' k t cs:=
 ho k _ h (fun e=>hk (Option.some.inj e)) fun c fz e1=>by cases e1;exact ht rfl
theorem At.others {w w':World} {b k:Nat} {s:ByteArray} {p:Nat} {e:TypeId} (h:At w k (.stringIter s p)) (ho:Lib.OthersKept e (some b) w w') (hk:k≠b):At w' k (.stringIter s p):=
 ho k _ h (fun e=>hk (Option.some.inj e)) fun c fz e1=>by cases e1
theorem zml {B:Nat} {w w':World} (hs:Below B w w'):GF w w' (fun k=>B<=k):=⟨hs.os,hs.tape,hs.output,hs.size,fun k _ hk=>hs.block k (Nat.lt_of_not_le hk)⟩
theorem Own.belowB {α:Type} {E:Enc α} {e:TypeId} {w w':World} {X:Nat->Prop} {a:Option Addr} {cap B:Nat} {xs:List α} (h:Own E e w X a cap xs) (hs:Below B w w') (hX:∀ k,X k->k<w.heap.size) (hk:∀ k,(blk a=some k∨X k)->k<B):Own E e w' X a cap xs:=
 h.gf (zml hs) hX fun k h1 h2=>Nat.not_lt_of_le h2 (hk k h1)
theorem Rd.belowB {α:Type} {E:Enc α} {w w':World} {X:Nat->Prop} {a:Option Addr} {cap B:Nat} {xs:List α} (h:Rd E w X a cap xs) (hs:Below B w w') (hk:∀ k,X k->k<B):Rd E w' X a cap xs:=h.keep fun k h1=>hs.block k (hk k h1)
theorem below_belowB {B b:Nat} {w0 w w':World} (h:Below B w0 w) (hs:Below b w w') (hb:B<=b):Below B w0 w':=
 ⟨hs.os.trans h.os,hs.tape.trans h.tape,hs.output.trans h.output,Nat.le_trans h.size hs.size,fun k hk=>(hs.block k (Nat.lt_of_lt_of_le hk hb)).trans (h.block k hk)⟩
def zuj (x:Option (List UInt8)) (s:ByteArray):Option (Option (List UInt8)):=
 if (x.getD []).length+s.size<=140737488355328 then some (some (x.getD []++s.data.toList)) else none
def strB (x:Option (List UInt8)):Option ByteArray:=some (strOf (x.getD []))
def zmG (x:Option (List UInt8)):Option Int:=some ((x.getD []).length:Nat)
theorem mapS (bs:List UInt8) (s:ByteArray):Lib.byteCells bs++Lib.strCells s=Lib.byteCells (bs++s.data.toList):=by simp[Lib.byteCells,Lib.strCells]
section
open Go.Proofs Go.Shelf
variable {P:Program} {ρ:Ren}
theorem ztC (L:Lays.n166 P ρ) (X:Builder.Extra P ρ) {b:Nat} {w:World} {s:ByteArray} {x y:Option (List UInt8)} (h:Bld (ρ.t 72) (ρ.t 5) w b x) (hy:zuj x s=some y):
 Calls P (ρ.f 166) #[bp b,.string s] w (Ret fun v w'=>v= .tuple #[.int .i64 s.size,.nilIface]∧Below b w w'∧Lib.OthersKept (ρ.t 5) (some b) w w'∧Bld (ρ.t 72) (ρ.t 5) w' b y):=by
 unfold zuj at hy
 split at hy
 ·rename_i hn
  cases hy
  refine (Any.Builder_WriteString_kc L X b b _ s w h (by rw[Lib.byteCells_length];exact hn) (Nat.le_of_lt (znt h))).mono ?_
  rintro e w' ⟨rfl,⟨h2,h3,h4⟩,h5⟩
  exact ⟨rfl,h3,h4,.inr (by rw[Option.getD_some,<- mapS];exact h2)⟩
 ·cases hy
theorem zp9 (L:Lays.n169 P ρ) (X:Builder.Extra P ρ) {b:Nat} {w:World} {s:ByteArray} {x:Option (List UInt8)} (h:Bld (ρ.t 72) (ρ.t 5) w b x) (hy:strB x=some s):
 Calls P (ρ.f 169) #[bp b] w (Ret fun v w'=>v= .string s∧Below b w w'∧Lib.OthersKept (ρ.t 5) (some b) w w'):=by
 cases hy
 refine (Any.Builder_String_any_k L X b b _ w h (Nat.le_of_lt (znt h))).mono ?_
 rintro e w' ⟨rfl,h2,h3,h4⟩
 exact ⟨rfl,h3,h4⟩
theorem zkA (L:Lays.n170 P ρ) {b:Nat} {w:World} {n:Int} {x:Option (List UInt8)} (h:Bld (ρ.t 72) (ρ.t 5) w b x) (hy:zmG x=some n):
 Calls P (ρ.f 170) #[bp b] w (Ret fun v w'=>v=tup [.int .i64 n]∧w'=w):=by
 cases hy
 refine (Any.Builder_Len_f L b b _ w h).mono ?_
 rintro e w' ⟨rfl,rfl⟩
 exact ⟨by rw[Lib.byteCells_length];rfl,rfl⟩
end
theorem Box.part {w:World} {b:Nat} {t:TypeId} {cs:Array Value} (h:Box w b t cs) (off:Nat) (l:List Value) (hl:(cs.toList.drop off).take l.length=l):zyL w ⟨b,off,none⟩ l:=fun j v hv=>by
 rw[add_lit]
 have hj:j<l.length:=by
  rcases Nat.lt_or_ge j l.length with e | e
  ·exact e
  ·rw[List.getElem?_eq_none e]at hv;cases hv
 refine h.cell (off+j) ?_
 rw[<- hl,List.getElem?_take_of_lt hj,List.getElem?_drop]at hv
 simpa using hv
end Go.Gv
