import Derived.Test.YtaeeniomdicclaaDoorGc
import Derived.ChangeKeysEq
set_option linter.all false
namespace Go.Gv
open Go.RowKit
def allA:List (Nat × Array Bool)->(Nat->Array Bool->Prop)->Prop
 | [],_=>True
 | x::r,p=>p x.1 x.2∧allA r p
theorem zrq {p:Nat->Array Bool->Prop}:∀ {l:List (Nat × Array Bool)},allA l p->∀ i,i∈l.map (·.1)->∃ g,(i,g)∈l∧p i g
 | [],_,i,hi=>by cases hi
 | x::r,h,i,hi=>by
   rcases List.mem_cons.1 hi with rfl | hi
   ·exact ⟨x.2,List.mem_cons_self ..,h.1⟩
   ·obtain ⟨g,h1,h2⟩:=zrq h.2 i hi
    exact ⟨g,List.mem_cons_of_mem _ h1,h2⟩
section
variable {P:Program} {R:RR} {n:Nat} {k:List It} {σ:List (Nat × Value)} {w:World} {l:List Oper} {listed:Array Bool} {H:List Nat} {Q:Exit->Act->World->Prop} {L:Array Bool->Act->World->Prop}
theorem zzG (alts:List (Nat × Array Bool)) {f:Nat} (f':Nat) (hB:(Region.ready .any l.toArray listed==alts.map (·.1)&&(!alts.isEmpty&&(!(H.all (listed.getD · false))&&alts.all fun x=>listed.setIfInBounds x.1 true==x.2)))=true) (hf:Nat.beq f (f'+1)=true)
 (h:allA alts fun i goal=>Run P R n (.ops l.toArray (fun _=>True) (zvP l [(i,some false)]):: .goal (zol P l H Q L f' goal)::k) .normal σ w) (hQ:∀ c a w,K P R k (.panic c) a w->Q (.panic c) a w:=by exact fun _ _ _ h=>h):zrL P R n k l H Q L f listed σ w:=fun a hd hs p t=>by
 simp only[Bool.and_eq_true,beq_iff_eq,Bool.not_eq_true']at hB
 obtain ⟨hr,s,hH,d⟩:=hB
 rw[Nat.eq_of_beq_eq_true hf]
 refine ⟨hH,fun e=>?_,fun i hi=>?_⟩
 ·rw[hr]at e
  cases alts with
  | nil=>cases s
  | cons x r=>cases e
 ·obtain ⟨_,o,ho,_⟩:=mem_ready.1 hi
  have q:i<l.length:=by have:=(Array.getElem?_eq_some_iff.1 ho).1;simpa using this
  obtain ⟨g,hg,j⟩:=zrq h i (by rw[<- hr];exact hi)
  have b:listed.setIfInBounds i true=g:=by simpa using List.all_eq_true.1 d (i,g) hg
  refine zxo q trivial (j a hd hs p) (fun a1 w1 _ h1=>?_) (hp:=fun c a w hh=>hQ c a w hh)
  have h2:zyW l.toArray g->wpH P l.toArray (fun _=>True) (nQ Q) H L f' g a1 w1:=h1
  rw[b]
  exact h2 (b ▸ t.set hi)
theorem zz1 (J:List (Nat × Value)->World->Prop) (A:Array Bool) (f':Nat) {f:Nat} (h1:∀ σ w,J σ w->zrL P R n k l H Q L f' A σ w) (h2:(∀ σ w,J σ w->zrL P R n k l H Q L f' A σ w)->zrL P R n k l H Q L f listed σ w):zrL P R n k l H Q L f listed σ w:=h2 h1
variable {m:Mk} {o:Oper} {all:Array Oper} {C:World->Prop} {rest:List (Oper × Mk)} {σ':List (Nat × Value)}
end
def zys (l:List Value) (p:Nat) (vs:List Value):List Value:=l.take p++vs++l.drop (p+vs.length)
theorem zyR {l vs:List Value} {p:Nat} (h:p+vs.length<=l.length) (q:Nat):(zys l p vs)[q]? =if p<=q∧q<p+vs.length then vs[q-p]? else l[q]?:=by
 unfold zys
 have h1:(l.take p).length=p:=by rw[List.length_take];omega
 rcases Nat.lt_or_ge q p with hq | hq
 ·rw[if_neg (by omega),List.append_assoc,List.getElem?_append_left (by omega),List.getElem?_take,if_pos hq]
 ·rw[List.append_assoc,List.getElem?_append_right (by omega),h1]
  rcases Nat.lt_or_ge (q-p) vs.length with hv | hv
  ·rw[List.getElem?_append_left hv,if_pos (by omega)]
  ·rw[List.getElem?_append_right hv,if_neg (by omega),List.getElem?_drop]
   congr 1
   omega
theorem zvF {l vs:List Value} {p:Nat} (h:p+vs.length<=l.length):(zys l p vs).length=l.length:=by
 simp only[zys,List.length_append,List.length_take,List.length_drop]
 omega
theorem zuG {l vs:List Value} {p N:Nat} (h:p+vs.length<=N) (hN:N<=l.length):(zys l p vs).take N=zys (l.take N) p vs:=by
 refine List.ext_getElem? fun q=>?_
 rw[List.getElem?_take,zyR (by omega),zyR (by rw[List.length_take];omega),List.getElem?_take]
 by_cases h1:q<N
 ·simp only[h1,if_true]
 ·simp only[h1,if_false]
  rw[if_neg (by omega)]
theorem zt4 {l vs:List Value} {i n off:Nat} (hw:off+vs.length<=n) (hl:i*n+n<=l.length):((zys l (i*n+off) vs).drop (i*n)).take n=zys ((l.drop (i*n)).take n) off vs:=by
 refine List.ext_getElem? fun q=>?_
 rw[List.getElem?_take,List.getElem?_drop,zyR (by omega),zyR (by rw[List.length_take,List.length_drop];omega),List.getElem?_take,List.getElem?_drop]
 by_cases h1:q<n
 ·simp only[h1,if_true]
  by_cases h2:off<=q∧q<off+vs.length
  ·rw[if_pos (by omega),if_pos h2];congr 1;omega
  ·rw[if_neg (by omega),if_neg h2]
 ·simp only[h1,if_false]
  rw[if_neg (by omega)]
theorem zuW {l vs:List Value} {i j n off:Nat} (hw:off+vs.length<=n) (hl:i*n+n<=l.length) (hij:i≠j):((zys l (i*n+off) vs).drop (j*n)).take n=(l.drop (j*n)).take n:=by
 refine List.ext_getElem? fun q=>?_
 rw[List.getElem?_take,List.getElem?_take,List.getElem?_drop,List.getElem?_drop,zyR (by omega)]
 by_cases h1:q<n
 ·simp only[h1,if_true]
  rw[if_neg]
  rcases Nat.lt_or_gt_of_ne hij with h | h
  ·have:=Nat.mul_le_mul_right n (show i+1<=j from h)
   rw[Nat.succ_mul]at this
   omega
  ·have:=Nat.mul_le_mul_right n (show j+1<=i from h)
   rw[Nat.succ_mul]at this
   omega
 ·simp only[h1,if_false]
section
variable {P:Program} {R:RR} {n:Nat} {k:List It} {σ:List (Nat × Value)} {w:World} {all:Array Oper} {C:World->Prop} {o:Oper} {m:Mk} {rest:List (Oper × Mk)}
end
end Go.Gv
