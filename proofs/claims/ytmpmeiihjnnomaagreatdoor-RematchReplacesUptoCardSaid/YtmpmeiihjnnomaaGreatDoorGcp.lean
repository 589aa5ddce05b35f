import Derived.Test.YtmpmeiihjnnomaaGreatDoorGu
import Derived.Laws.CopyRow
import Derived.Laws.MakeOwn
import Derived.Lib.IndexMore
set_option linter.all false
namespace Go.Gv
open Go.RowKit
def cpy {α:Type} (xs ys:List α):Option (List α):=if ys.length=xs.length∧0<xs.length then some ys else none
theorem zpj {α:Type} {xs ys zs:List α} (h:cpy xs ys=some zs):zs=ys∧ys.length=xs.length∧0<xs.length:=by
 unfold cpy at h
 split at h
 ·rename_i h1;cases h;exact ⟨rfl,h1⟩
 ·cases h
theorem znP {α:Type} {xs ys zs:List α} (h:cpy xs ys=some zs):xs.length=zs.length:=by
 obtain ⟨rfl,h,_⟩:=zpj h
 exact h.symm
theorem zsG (P:Program) (w:World) (dT sT ty elem:TypeId) (g dLen dCap:Nat) (a:Addr) (sLen sCap sz:Nat) (cur:Array Value) (t:TypeId) (fz:Nat × Nat) (cs:List Value)
 (hu:P.underlying dT=some (.slice elem)) (hs:(P.info? elem).map (·.size)=some sz)
 (hg:w.heap[g]? =some (.cells cur t fz)) (hfz:fz=(0,0)∨cs.length<=fz.1) (hn:cs.length=Nat.min sLen dLen*sz)
 (hsrc:∀ j v,cs[j]? =some v->w.cell? (a.add j)=some v) (hfit:cs.length<=cur.size) (h1:∀ v∈cs,v.oneCell'=true):
 (Builtin.copy_ #[dT,sT] ty #[.slice (some ⟨g,0,none⟩) dLen dCap,.slice (some a) sLen sCap]).run P w=
   .ok (goInt (Nat.min sLen dLen)) (w.setRow g (cs++cur.toList.drop cs.length).toArray):=by
 have hl:=run_loadCells_list (P:=P) w a cs hsrc
 have b:=zyo P g 0 t fz cs 0 cur w hg (hfz.elim .inl fun h=>.inr (by simpa using h)) (by simpa using hfit) h1
 cases hq:P.info? elem with
 | none=>simp[hq]at hs
 | some i=>
   have hi:i.size=sz:=by simpa [hq] using hs
   simp only[Nat.add_zero,List.take_zero,List.nil_append,Nat.zero_add]at b
   simp[Builtin.copy_,run_underlying hu,Builtin.lenOf,Builtin.firstCells,sizeOf,typeInfo,hq,hi,<- hn,hl,b]
section
variable {P:Program} {R:RR} {n:Nat} {k:List It} {σ:List (Nat × Value)} {w:World} {all:Array Oper} {C:World->Prop} {o:Oper} {m:Mk} {rest:List (Oper × Mk)}
theorem znK {α:Type} (E:Enc α) {t t2 ty e:TypeId} {a ax:Option Addr} {cap cx:Nat} {xs ys:List α} (zs:List α) {Y:Nat->Prop} (hm:m≠some true) (hdn:zwY n o.dst=true) (hg:zza all σ o=some true)
 (hk:(zyQ o.op&&zyi σ o.op.operands.toList)=true) (hop:execOp (evr σ) o=(do pure (.value (<- Builtin.copy_ #[t,t2] ty #[.slice a xs.length cap,.slice ax ys.length cx]))))
 (ht:P.underlying t=some (.slice e)) (hi':zwI P e E.n) (hown:Own E e w (fun _=>False) a cap xs) (hx:Rd E w Y ax cx ys) (hr:cpy xs ys=some zs)
 (h1:∀ w X Y c x,E.rep w X c x->E.rep w Y c x)
 (h:∀ w',w.grownBy w' (blk a)->Own E e w' (fun _=>False) a cap zs->w'.heap.size=w.heap.size->(m=some false->C w')∧Run P R n (.ops all C rest::k) .normal (zuz σ o.dst (goInt ys.length)) w'):
 Run P R n (.ops all C ((o,m)::rest)::k) .normal σ w:=by
 obtain ⟨i,z,g1,g2,g3,g4,g5,g6⟩:=hi'
 obtain ⟨rfl,hl,s⟩:=zpj hr
 obtain ⟨fl,⟨ol,o1⟩,o2,o3⟩:=hown
 obtain ⟨news,n1,n2,n3,n4⟩:=hx.news g5
 rcases o1 with ⟨hv,hz⟩ | ⟨g,ag,b,fz,hv,p,l,ac,ad,q,af⟩
 ·omega
 ·cases hv
  have ab:0<news.length:=by rw[n1,hl];exact Nat.mul_pos s g5
  obtain ⟨A,rfl,_⟩:=n2 0 _ (List.getElem?_eq_getElem ab)
  have d:news.length<=cap*E.n:=by rw[n1,hl];exact Nat.mul_le_mul_right _ ac
  have f:=zsG P w t t2 ty e g xs.length cap A zs.length cx E.n b e fz news ht (by rw[g1];exact congrArg some g4) l (p.elim .inl fun h=>.inr (Nat.le_trans d h)) (by rw[n1,hl];congr 1;exact (Nat.min_self _).symm)
   (fun j v hj=>by obtain ⟨A',hA,hc⟩:=n2 j v hj;cases hA;exact hc) (by rw[q];exact d) n3
  have r:Nat.min zs.length xs.length=zs.length:=by rw[hl];exact Nat.min_self _
  rw[r]at f
  refine zx2 (fun u w'=>u=goInt zs.length∧w'=w.setRow g (news++b.toList.drop news.length).toArray) hm hdn hg hk ⟨_,_,.inl ?_,rfl,rfl⟩ fun u w' ⟨hu,hw⟩=>?_
  ·rw[hop]
   simp only[Sem.run_bind,f,Result.andThen,Sem.run_pure]
  ·subst hu;subst hw
   have aa:w.grownBy (w.setRow g (news++b.toList.drop news.length).toArray) (some g):=⟨rfl,rfl,rfl,by simp[World.setRow],fun kk _ ae=>setRow_other w g kk _ (fun e=>ae (by rw[e]))⟩
   refine h _ aa ⟨news,⟨n1,.inr ⟨g,cap,_,fz,rfl,p,setRow_heap w g b _ e _ l,by omega,ad,?_,?_⟩⟩,fun j y hj=>?_,fun _ _ h=>h⟩ (by simp[World.setRow])
   ·have h5:(news++b.toList.drop news.length).length=cap*E.n:=by
     rw[List.length_append,List.length_drop];have h6:b.toList.length=cap*E.n:=by rw[<- q];exact Array.length_toList
     rw[h6];exact Nat.add_sub_cancel' d
    exact h5
   ·rw[<- n1]
    simp
   ·have h2:=n4 j y hj
    exact E.keep (h1 w Y (fun _=>False) _ _ h2) fun _ h=>h.elim
theorem zry (z:Array Value) (n i:Nat) (hi:i<n) (hz:0<z.size):(((madeCells z (n*z.size)).toList.drop (i*z.size)).take z.size)=z.toList:=by
 refine List.ext_getElem? fun j=>?_
 rw[List.getElem?_take,List.getElem?_drop]
 by_cases hj:j<z.size
 ·have h1:i*z.size+j<n*z.size:=by
   have:=Nat.mul_le_mul_right z.size (show i+1<=n from hi)
   rw[Nat.succ_mul]at this;omega
  have h2:(i*z.size+j)%z.size=j:=by rw[Nat.mul_comm,Nat.mul_add_mod];exact Nat.mod_eq_of_lt hj
  rw[if_pos hj,List.getElem?_eq_getElem (by rw[Array.length_toList,size_madeCells];exact h1),List.getElem?_eq_getElem (by simpa using hj)]
  simp[madeCells,h2,hj]
 ·rw[if_neg hj,List.getElem?_eq_none (by simpa using hj)]
theorem zlN {α:Type} (E:Enc α) {t e:TypeId} {kl kc:IntKind} {l:Int} (x0:α) (z:Value) (xs:List α) (hm:m≠some true) (hdn:zwY n o.dst=true) (hg:zza all σ o=some true)
 (hk:(zyQ o.op&&zyi σ o.op.operands.toList)=true) (hop:execOp (evr σ) o=(do pure (.value (<- Instr.makeSlice t (.int kl l) (.int kc l)))))
 (ht:P.underlying t=some (.slice e)) {bytes:Nat} (hi:(P.info? e).map (fun i=>(i.zero,i.size,i.bytes))=some (some z,E.n,bytes)) (hb:Nat.ble bytes 32768=true) (hzs:z.cells.size=E.n) (hn:0<E.n)
 (hrep:∀ w,E.rep w (fun _=>False) z.cells.toList x0) (hr:mk l x0=some xs)
 (h:∀ b w',w.grownBy w' none->Own E e w' (fun _=>False) (some ⟨b,0,none⟩) l.toNat xs->b=w.heap.size->w'.heap.size=w.heap.size+1->
   (m=some false->C w')∧Run P R n (.ops all C rest::k) .normal (zuz σ o.dst (.slice (some ⟨b,0,none⟩) xs.length l.toNat)) w'):
 Run P R n (.ops all C ((o,m)::rest)::k) .normal σ w:=by
 obtain ⟨h0,h1,rfl⟩:=zkS hr
 obtain ⟨i,g,hz,hs,p⟩:∃ i,P.info? e=some i∧i.zero=some z∧i.size=E.n∧i.bytes=bytes:=by
  cases hq:P.info? e with
  | none=>simp[hq]at hi
  | some i=>simp[hq]at hi;exact ⟨i,rfl,hi.1,hi.2.1,hi.2.2⟩
 have hbb:i.bytes<=32768:=by rw[p];exact Nat.le_of_ble_eq_true hb
 have a:(List.replicate l.toNat x0).length=l.toNat:=by simp
 have c:=run_make (P:=P) w t e i z ht g hz kl kc l l h0 (Int.le_refl _) (by
  have h2:(i.bytes:Int)*l<=32768*1073741824:=Int.mul_le_mul (by omega) h1 h0 (by omega)
  omega) (by omega)
 rw[hs,<- hzs]at c
 refine zx2 (fun v w'=>v= .slice (some ⟨w.heap.size,0,none⟩) (List.replicate l.toNat x0).length l.toNat∧w'=w.alloc (.cells (madeCells z.cells (l.toNat*z.cells.size)) e)) hm hdn hg hk ⟨_,_,.inl ?_,rfl,rfl⟩ fun v w' ⟨hv,hw⟩=>?_
 ·rw[hop,a]
  simp only[Sem.run_bind,c,Result.andThen,Sem.run_pure]
 ·subst hv;subst hw
  have f:Box (w.alloc (.cells (madeCells z.cells (l.toNat*z.cells.size)) e)) w.heap.size e (madeCells z.cells (l.toNat*z.cells.size)):=heap_alloc_new w _
  refine h _ _ (zwT w _) ⟨(madeCells z.cells (l.toNat*z.cells.size)).toList,⟨by rw[Array.length_toList,size_madeCells,a,hzs],.inr ⟨_,l.toNat,_,(0,0),rfl,.inl rfl,f,by rw[a];exact Nat.le_refl _,by unfold maxLen;omega,by rw[size_madeCells,hzs],?_⟩⟩,fun j y hj=>?_,fun _ _ h=>h⟩ rfl (by simp)
  ·rw[a,<- hzs];exact List.take_of_length_le (by rw[Array.length_toList,size_madeCells];exact Nat.le_refl _)
  ·have d:j<l.toNat:=by have:=(List.getElem?_eq_some_iff.1 hj).1;rwa [a]at this
   rw[List.getElem?_replicate,if_pos d]at hj
   cases hj
   have h5:=zry z.cells l.toNat j d (by rw[hzs];exact hn)
   rw[hzs]at h5 ⊢
   rw[h5]
   exact hrep _
end
end Go.Gv
namespace Go.Gv.D
open Go Go.Gv
noncomputable def strings_Cut (_:Nat) (s sep:ByteArray):Option (ByteArray × ByteArray × Bool):=
 if s.size<4294967281 then some (strOf (Lib.cut s.data.toList sep.data.toList).1,strOf (Lib.cut s.data.toList sep.data.toList).2.1,(Lib.cut s.data.toList sep.data.toList).2.2) else none
end Go.Gv.D
