import Derived.Lib.AppendStr
import Derived.WideLaws
import Derived.Test.YtaeeniomdicclaaDoorGh
set_option linter.all false
namespace Go.Gv
open Go.RowKit
def zq5 (a:Option Addr) (l:List Nat):List Nat:=(blk a).toList++l
theorem zox {a:Option Addr} {l:List Nat} {g:Nat} (e:blk a=some g):g∈zq5 a l:=by unfold zq5;rw[e];exact List.mem_cons_self ..
theorem zts {a:Option Addr} {l:List Nat} {b:Nat} (h:b∈l):b∈zq5 a l:=List.mem_append_right _ h
theorem zsM {a:Option Addr} {l:List Nat} {b:Nat} (h:∀ g,blk a=some g->¬ (· =b) g) (h2:b∉l):b∉zq5 a l:=fun hm=>by
 unfold zq5 at hm
 rcases List.mem_append.1 hm with hm | hm
 ·cases e:blk a with
  | none=>rw[e]at hm;cases hm
  | some g=>rw[e]at hm;exact h g e (List.mem_singleton.1 hm).symm
 ·exact h2 hm
theorem zo1 {a:Option Addr} {l:List Nat} {A:Nat}:∀ g,blk a=some g->g∈zq5 a l∨A<=g:=fun _ e=>.inl (zox e)
def zpe (l:Int):Option (List UInt8):=if 0<=l∧l<=4294967296 then some (List.replicate l.toNat 0) else none
structure ASrc (P:Program) (w:World) (t tx ty e:TypeId) (z:Value) (x:Value) (mm:Nat) (news:List Value):Prop where
 nl:news.length=mm
 none0:mm=0->∀ a nn cap,nn<=cap->(Builtin.append_ #[t,tx] ty #[.slice a nn cap,x]).run P w= .ok (.slice a nn cap) w
 room:∀ g nn cap (cur:Array Value) (fz:Nat × Nat),w.heap[g]? =some (.cells cur e fz)->(fz=(0,0)∨cur.size<=fz.1)->nn+mm<=cap->nn+mm<=cur.size->
  (Builtin.append_ #[t,tx] ty #[.slice (some ⟨g,0,none⟩) nn cap,x]).run P w= .ok (.slice (some ⟨g,0,none⟩) (nn+mm) cap) (w.setRow g (cur.toList.take nn++news++cur.toList.drop (nn+mm)).toArray)
 grow:∀ (b:Addr) nn cap (olds:List Value),nn<=cap->olds.length=nn->(∀ j v,olds[j]? =some v->w.cell? (b.add j)=some v)->cap<nn+mm->nn+mm<=4294967296->Builtin.nextslicecap (nn+mm) cap<=281474976710656->
  (Builtin.append_ #[t,tx] ty #[.slice (some b) nn cap,x]).run P w= .ok (.slice (some ⟨w.heap.size,0,none⟩) (nn+mm) (grownCap w (nn+mm) cap e)) (w.drew.alloc (.cells (olds.toArray++news.toArray++Builtin.zeroCells z.cells (grownCap w (nn+mm) cap e-(nn+mm))) e))
 nil:0<mm->mm<=4294967296->
  (Builtin.append_ #[t,tx] ty #[.slice none 0 0,x]).run P w= .ok (.slice (some ⟨w.heap.size,0,none⟩) mm (grownCap w mm 0 e)) (w.drew.alloc (.cells (news.toArray++Builtin.zeroCells z.cells (grownCap w mm 0 e-mm)) e))
theorem zqf {P:Program} {w:World} {t tx ty e:TypeId} {z x:Value} {mm:Nat} {news:List Value} (s:ASrc P w t tx ty e z x mm news) (hz1:z.cells.size=1)
 (a:Option Addr) (nn cap:Nat) (fl:List Value) (hown:zy0 w e 1 (.slice a nn cap) nn fl) (h63:nn+mm<=4294967296):
 ∃ a' d w',(Builtin.append_ #[t,tx] ty #[.slice a nn cap,x]).run P w= .ok (.slice a' (nn+mm) d) w'∧zy0 w' e 1 (.slice a' (nn+mm) d) (nn+mm) (fl++news)∧
   w.grownBy w' (blk a)∧(blk a'=blk a∨∃ g,blk a'=some g∧w.heap.size<=g):=by
 have f:fl.length=nn:=by have:=hown.1;omega
 have c:(fl++news).length=(nn+mm)*1:=by rw[List.length_append,f,s.nl,Nat.mul_one]
 by_cases i:mm=0
 ·have hn:news=[]:=List.eq_nil_of_length_eq_zero (by rw[s.nl];exact i)
  have aa:nn<=cap:=by
   rcases hown.2 with ⟨hv,hn⟩ | ⟨g,d,cur,fz,hv,_,_,l,_⟩
   ·omega
   ·cases hv;exact l
  refine ⟨a,cap,w,?_,?_,grown_refl w _,.inl rfl⟩
  ·rw[i,Nat.add_zero];exact s.none0 i a nn cap aa
  ·rw[i,hn,Nat.add_zero,List.append_nil];exact hown
 ·have grown:∀ (old:Nat),∀ (v:Option Nat),
   zy0 (w.drew.alloc (.cells (fl.toArray++news.toArray++Builtin.zeroCells z.cells (grownCap w (nn+mm) old e-(nn+mm))) e)) e 1
    (.slice (some ⟨w.heap.size,0,none⟩) (nn+mm) (grownCap w (nn+mm) old e)) (nn+mm) (fl++news)∧
   w.grownBy (w.drew.alloc (.cells (fl.toArray++news.toArray++Builtin.zeroCells z.cells (grownCap w (nn+mm) old e-(nn+mm))) e)) v:=by
   intro old v
   have ac:=grownCap_ge w (nn+mm) old e
   have p:grownCap w (nn+mm) old e<=maxLen:=grownCap_le_maxLen w (nn+mm) old e (by unfold maxLen;omega)
   refine ⟨⟨c,.inr ⟨w.heap.size,_,_,(0,0),rfl,.inl rfl,heap_alloc_new w.drew _,ac,p,?_,?_⟩⟩,⟨rfl,rfl,rfl,by simp,fun k hk _=>heap_alloc_old w.drew _ hk⟩⟩
   ·simp only[Array.size_append,List.size_toArray,size_zeroCells,hz1,f,s.nl]
    omega
   ·simp only[Array.toList_append,List.append_assoc]
    rw[<- List.append_assoc,<- c]
    exact List.take_left
  rcases hown.2 with ⟨hv,hn0⟩ | ⟨g,d,cur,fz,hv,y,hg,l,p,ab,r⟩
  ·cases hv
   have hx:fl=[]:=List.eq_nil_of_length_eq_zero f
   subst hx
   have hr:=s.nil (by omega) (by omega)
   have b:=grown 0 (blk none)
   simp only[Nat.zero_add,List.nil_append,Array.empty_append]at b ⊢
   exact ⟨_,_,_,hr,b.1,b.2,.inr ⟨w.heap.size,rfl,Nat.le_refl _⟩⟩
  ·cases hv
   by_cases h:nn+mm<=cap
   ·have hr:=s.room g nn cap cur fz hg (by rw[ab];exact y) h (by omega)
    refine ⟨_,_,_,hr,⟨c,.inr ⟨g,cap,_,fz,rfl,y,setRow_heap w g cur _ e _ hg,h,p,?_,?_⟩⟩,⟨rfl,rfl,rfl,by simp,fun k _ hk=>setRow_other w g k _ (fun e=>hk (by simp[blk,e]))⟩,.inl rfl⟩
    ·simp only[List.size_toArray,List.length_append,List.length_take,List.length_drop,Array.length_toList,s.nl]
     omega
    ·have:cur.toList.take nn=fl:=by rw[<- r,Nat.mul_one]
     rw[this,<- c]
     exact List.take_left
   ·have q:∀ j u,fl[j]? =some u->w.cell? ((⟨g,0,none⟩:Addr).add j)=some u:=hown.cells (g:=g) rfl
    have hr:=s.grow ⟨g,0,none⟩ nn cap fl l f q (by omega) h63 (by have:=growslice_fits (need:=nn+mm) (old:=cap) (bytes:=1) (by omega) (by omega);omega)
    have b:=grown cap (blk (some ⟨g,0,none⟩))
    exact ⟨_,_,_,hr,b.1,b.2,.inr ⟨w.heap.size,rfl,Nat.le_refl _⟩⟩
theorem zr0 {P:Program} (w:World) {t tx ty e:TypeId} {i:TypeInfo} (ht:P.underlying t=some (.slice e)) (hu:P.underlying tx=some .string) (hi:P.info? e=some i) (hz:i.zero=some (.int .u8 0)) (hs1:i.size=1) (hb1:i.bytes=1) (s:ByteArray):
 ASrc P w t tx ty e (.int .u8 0) (.string s) s.size (Lib.strCells s) where
 nl:=Lib.strCells_length s
 none0 hm a nn cap hle:=by
  have hf:=Lib.run_firstCells_string (P:=P) w 1 s
  have hn:Lib.strCells s=[]:=List.eq_nil_of_length_eq_zero (by rw[Lib.strCells_length];exact hm)
  rw[hm,hn]at hf
  cases a<;>simp[Builtin.append_,run_underlying ht,run_underlying hu,sizeOf,typeInfo,hi,hs1,Builtin.lenOf,hm,hle,hf,storeCells]
 room g nn cap cur fz hg hfz hroom hfit:=by
  have hf:=Lib.run_firstCells_string (P:=P) w 1 s
  have c:=zzU P g nn e fz (Lib.strCells s) 0 cur w hg (hfz.elim .inl fun h=>.inr (by rw[Lib.strCells_length];omega)) (by simpa [Lib.strCells_length] using hfit) (Lib.strCells_oneCell s)
  simp only[Nat.add_zero,Lib.strCells_length]at c
  simp[Builtin.append_,run_underlying ht,run_underlying hu,sizeOf,typeInfo,hi,hs1,Builtin.lenOf,hroom,hf,Addr.add_lit,c]
 grow b nn cap olds _ hlo holds hg h63 hfit:=by
  have:=Lib.run_append_grow_string (P:=P) w t tx ty e i _ ht hu hi hz b nn cap olds (by rw[hs1,Nat.mul_one];exact hlo) holds s hg (by omega) (by rw[hb1,Nat.mul_one];exact hfit)
  exact this
 nil h0 h63:=by
  have:=run_append_nil_string (P:=P) w t tx ty e i _ ht hu hi hz s h0 (by omega) (by rw[hb1];omega)
  have e2:s.data.map (fun b=>Value.int .u8 b.toNat)=(Lib.strCells s).toArray:=by
   apply Array.ext'
   simp[Lib.strCells]
  rw[e2]at this
  exact this
section
variable {P:Program} {R:RR} {n:Nat} {k:List It} {σ σ':List (Nat × Value)} {w:World} {all:Array Oper} {C:World->Prop} {o:Oper} {m:Mk} {rest:List (Oper × Mk)}
theorem zsn {t tx ty e:TypeId} {z x:Value} {a:Option Addr} {cap:Nat} {xs:List UInt8} (ys zs:List UInt8) (hm:m≠some true) (hdn:zy9 n o.dst=true) (hg:zzl all σ o=some true)
 (hk:(zzB o.op&&zzO σ o.op.operands.toList)=true) (hop:execOp (evr σ) o=(do pure (.value (<- Builtin.append_ #[t,tx] ty #[.slice a xs.length cap,x]))))
 (hsrc:ASrc P w t tx ty e z x ys.length (ys.map fun c=>.int .u8 c.toNat)) (hz:z.cells.size=1) (hown:Own bE e w (fun _=>False) a cap xs) (hr:app xs ys=some zs)
 (h:∀ a' b w',w.grownBy w' (blk a)->Own bE e w' (fun _=>False) a' b zs->(blk a'=blk a∨∃ g,blk a'=some g∧w.heap.size<=g)->
   (m=some false->C w')∧Run P R n (.ops all C rest::k) .normal (zwT σ o.dst (.slice a' zs.length b)) w'):
 Run P R n (.ops all C ((o,m)::rest)::k) .normal σ w:=by
 obtain ⟨hb,rfl⟩:=zvq hr
 obtain ⟨fl,o1,o2,o3⟩:=hown
 have o1:zy0 w e 1 (.slice a xs.length cap) xs.length fl:=o1
 obtain ⟨a',b,w',l,f,q,i⟩:=zqf hsrc hz a xs.length cap fl o1 hb
 refine zxk (fun v d=>v= .slice a' (xs++ys).length b∧d=w') hm hdn hg hk ⟨_,w',.inl ?_,rfl,rfl⟩ fun v d ⟨hv,hw⟩=>?_
 ·rw[hop]
  simp only[Sem.run_bind,l,Result.andThen,Sem.run_pure,List.length_append]
 ·subst hv;subst hw
  have p:fl.length=xs.length:=by have:=o1.1;omega
  refine h a' b _ q ⟨fl++ys.map fun c=>.int .u8 c.toNat,by rw[List.length_append];exact f,fun j c hj=>?_,fun g _ h=>h⟩ i
  rcases Nat.lt_or_ge j xs.length with hj' | hj'
  ·rw[List.getElem?_append_left hj']at hj
   have:=o2 j c hj
   show List.take 1 (List.drop (j*1) _)=_
   rw[List.drop_append_of_le_length (by omega),List.take_append_of_le_length (by rw[List.length_drop];omega)]
   exact this
  ·rw[List.getElem?_append_right hj']at hj
   show List.take 1 (List.drop (j*1) _)=[Value.int .u8 c.toNat]
   rw[Nat.mul_one,List.drop_append,List.drop_eq_nil_of_le (by omega),List.nil_append,p,<- List.map_drop]
   obtain ⟨hl,hc⟩:=List.getElem?_eq_some_iff.1 hj
   rw[List.drop_eq_getElem_cons hl,hc];rfl
theorem zrb {P:Program} (w:World) {t tx ty e:TypeId} (ht:P.underlying t=some (.slice e)) (hu:P.underlying tx=some .string) (hi:(P.info? e).map (fun i=>(i.zero,i.size,i.bytes))=some (some (.int .u8 0),1,1)) (s:ByteArray):
 ASrc P w t tx ty e (.int .u8 0) (.string s) (bytesOf s).length ((bytesOf s).map fun c=>.int .u8 c.toNat):=by
 obtain ⟨i,hi,hz,hs,hb⟩:=info_parts hi
 exact zr0 w ht hu hi hz hs hb s
end
end Go.Gv
