import Derived.Laws.Cover4
import Derived.Laws.IdiomStrings
import Derived.Laws.Runes
import Derived.Test.YtmpmeiihjnnomaaGreatDoorGh
set_option linter.all false
namespace Go.Gv
open Go.RowKit
def rnF (s:ByteArray):Nat->Nat->List Int
 | 0,_=>[]
 | b+1,i=>if i<s.size then zqV s i::rnF s b (i+zsA s i) else []
def rn (s:ByteArray):Option (List Int):=if s.size<=70368744177664 then some (rnF s s.size 0) else none
def ztB (l:List Int):ByteArray:=runesBytes l
theorem zwG (s:ByteArray):∀ (b i:Nat) (acc:Array Value),(Conv.runesFrom s b i acc).toList=acc.toList++(rnF s b i).map (fun n=>.int .i32 n)
 | 0,_,acc=>by simp[Conv.runesFrom,rnF]
 | b+1,i,acc=>by
   unfold Conv.runesFrom rnF
   split
   ·have:=zwG s b (i+(Utf8.decode s i).2) (acc.push (.int .i32 (Int.ofNat (Utf8.decode s i).1)))
    simp only[this]
    simp[zqV,zsA]
   ·simp
theorem zw4 (s:ByteArray):(Conv.runesFrom s s.size 0 #[]).toList=(rnF s s.size 0).map (fun n=>.int .i32 n):=by
 rw[zwG];simp
theorem zt7 (s:ByteArray):(Conv.runesFrom s s.size 0 #[]).size=(rnF s s.size 0).length:=by
 rw[<- Array.length_toList,zw4,List.length_map]
theorem zkK {s:ByteArray} {l:List Int} (h:rn s=some l):s.size<=70368744177664∧l=rnF s s.size 0:=by
 unfold rn at h
 split at h
 ·rename_i hs;cases h;exact ⟨hs,rfl⟩
 ·cases h
section
variable {P:Program} {R:RR} {n:Nat} {k:List It} {σ σ':List (Nat × Value)} {w:World} {all:Array Oper} {C:World->Prop} {o:Oper} {m:Mk} {rest:List (Oper × Mk)}
theorem zq9 {src dst e:TypeId} {s:ByteArray} {l:List Int} (hm:m≠some true) (hdn:zwY n o.dst=true) (hg:zza all σ o=some true)
 (hk:(zyQ o.op&&zyi σ o.op.operands.toList)=true) (hop:execOp (evr σ) o=(do pure (.value (<- convert src dst (.string s)))))
 (hs:P.underlying src=some .string) (hd:P.underlying dst=some (.slice e)) (he:P.underlying e=some (.int .i32)) (hl:rn s=some l)
 (h:∀ a cap w',w.grownBy w' none->Rd (iE .i32) w' (· =w.heap.size) a cap l->w'.heap.size=w.heap.size+1->
   (m=some false->C w')∧Run P R n (.ops all C rest::k) .normal (zuz σ o.dst (.slice a l.length cap)) w'):
 Run P R n (.ops all C ((o,m)::rest)::k) .normal σ w:=by
 obtain ⟨hsz,rfl⟩:=zkK hl
 have hN:=zt7 s
 have c:(Conv.runesFrom s s.size 0 #[]).size<=70368744177664:=by
  have:=size_runesFrom s s.size 0 #[]
  simp at this;omega
 let cap:=grownCap w (Conv.runesFrom s s.size 0 #[]).size 0 e
 let cs:=Conv.runesFrom s s.size 0 #[]++Array.replicate (cap-(Conv.runesFrom s s.size 0 #[]).size) (.int .i32 0)
 let W:=w.drew.alloc (.cells cs e)
 refine zx2 (fun v w'=>v= .slice (some ⟨w.heap.size,0,none⟩) (rnF s s.size 0).length cap∧w'=W) hm hdn hg hk ⟨_,W,.inl ?_,rfl,rfl⟩ fun v w' ⟨hv,hw⟩=>?_
 ·rw[hop,<- hN]
  simp only[Sem.run_bind,run_runes_of_string w src dst e s hs hd he c,Result.andThen,Sem.run_pure]
  rfl
 ·subst hv;subst hw
  have b:W.heap[w.heap.size]? =some (.cells cs e (0,0)):=heap_alloc_new w.drew _
  refine h _ _ W ⟨rfl,rfl,rfl,by simp[W],fun k hk _=>heap_alloc_old w.drew _ hk⟩ ⟨?_,fun i x hx=>⟨w.heap.size,0,[.int .i32 x],rfl,rfl,rfl,fun j v hv=>?_⟩⟩ (by simp[W])
  ·rw[<- hN];exact grownCap_ge w _ 0 e
  ·cases j with
   | zero=>
     cases hv
     rw[add_lit]
     unfold World.cell?
     simp only[b]
     have hi:i<(rnF s s.size 0).length:=(List.getElem?_eq_some_iff.1 hx).1
     have h1:(Conv.runesFrom s s.size 0 #[])[i]? =some (.int .i32 x):=by
      rw[<- Array.getElem?_toList,zw4,List.getElem?_map,hx];rfl
     have h2:cs[i]? =some (.int .i32 x):=by
      show (Conv.runesFrom s s.size 0 #[]++_)[i]? =_
      rw[Array.getElem?_append_left (by omega)];exact h1
     simpa [iE,flat] using h2
   | succ j=>simp at hv
theorem zri {src dst e:TypeId} {xs:List Int} {a:Option Addr} {cap:Nat} {X:Nat->Prop} (ss:List Nat) {d:Nat} (hm:m=some false->C w) (hd':o.dst=some d) (hdn:Nat.blt d n=true) (hg:zza all σ o=some true)
 (hk:(zyQ o.op&&zyi σ o.op.operands.toList)=true) (hop:execOp (evr σ) o=(do pure (.value (<- convert src dst (.slice a xs.length cap)))))
 (hs:P.underlying src=some (.slice e)) (he:P.underlying e=some (.int .i32)) (hd2:P.underlying dst=some .string)
 (hc:∀ w',Inw m C w w'->Rd (iE .i32) w' X a cap xs)
 (hp:pk ss (put σ d (.string (ztB xs)))=some σ') (hrest:Run P R n (.ops all C rest::k) .normal σ' w):Run P R n (.ops all C ((o,m)::rest)::k) .normal σ w:=
 zxT _ ss hm hd' hdn hg hk (fun w' g=>by
  rw[hop]
  have hr:=hc w' g
  have key:(convert src dst (.slice a xs.length cap)).run P w'= .ok (.string (ztB xs)) w':=by
   cases xs with
   | nil=>
     cases a with
     | none=>exact run_convert_runes_nil w' src dst e _ _ hs he hd2
     | some A=>
       have:=run_convert_runes w' src dst e A 0 cap [] (Nat.le_refl _) hs he hd2 (fun j hj=>absurd hj (Nat.not_lt_zero _))
       simpa [ztB] using this
   | cons x xs=>
     obtain ⟨b,off,c,ha,_⟩:=hr.2 0 x rfl
     subst ha
     have:=run_convert_runes w' src dst e ⟨b,off,none⟩ (x::xs).length cap (x::xs) (Nat.le_refl _) hs he hd2 (fun j hj=>by
      obtain ⟨b',h,c',f,_,e3,e4⟩:=hr.2 j _ (List.getElem?_eq_getElem hj)
      cases f
      have e5:=e4 0 (.int .i32 ((x::xs)[j])) (by rw[show c'=[_] from e3];rfl)
      rw[add_lit]at e5 ⊢
      have h6:(x::xs).getD j 0=(x::xs)[j]:=by simp[List.getD,List.getElem?_eq_getElem hj]
      rw[h6]
      simpa [iE,flat] using e5)
     rw[List.take_of_length_le (Nat.le_refl _)]at this
     exact this
  simp only[Sem.run_bind,key,Result.andThen,Sem.run_pure]) hp hrest
theorem zl7 {src dst:TypeId} {kk:IntKind} {x:Int} (ss:List Nat) {d:Nat} (hm:m=some false->C w) (hd':o.dst=some d) (hdn:Nat.blt d n=true) (hg:zza all σ o=some true)
 (hk:(zyQ o.op&&zyi σ o.op.operands.toList)=true) (hop:execOp (evr σ) o=(do pure (.value (<- convert src dst (.int kk x)))))
 (hs:(P.underlying src).isSome=true) (hd2:P.underlying dst=some .string)
 (hp:pk ss (put σ d (.string (Utf8.encode x)))=some σ') (hrest:Run P R n (.ops all C rest::k) .normal σ' w):Run P R n (.ops all C ((o,m)::rest)::k) .normal σ w:=
 zxT _ ss hm hd' hdn hg hk (fun w' _=>by
  rw[hop]
  simp only[Sem.run_bind,run_convert_int_string w' src dst kk x hs hd2,Result.andThen,Sem.run_pure]) hp hrest
end
end Go.Gv
