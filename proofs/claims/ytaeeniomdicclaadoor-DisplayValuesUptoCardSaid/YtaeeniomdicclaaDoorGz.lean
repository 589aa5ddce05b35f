import Derived.Test.YtaeeniomdicclaaDoorGy
set_option linter.all false
namespace Go.Gv
open Go.RowKit
def slE {α:Type} (E:Enc α):Enc (List α) where
 n:=1
 rep w X cs xs:=∃ a cap,cs=[.slice a xs.length cap]∧Rd E w X a cap xs
 len:=fun ⟨_,_,e,_⟩=>by rw[e];rfl
 one:=fun ⟨_,_,e,_⟩ v hv=>by rw[e]at hv;rw[List.mem_singleton.1 hv];rfl
 keep:=fun ⟨a,cap,e,h⟩ hk=>⟨a,cap,e,h.keep hk⟩
 wide:=fun ⟨a,cap,e,h⟩ hk=>⟨a,cap,e,h.wide hk⟩
theorem zxc (A:Addr):A.add 0=A:=by unfold Addr.add;rw[if_pos rfl]
def RowS {α:Type} (E:Enc α) (w:World) (X:Nat->Prop):List Value->List (List α)->Prop
 | [],[]=>True
 | v::vs,x::xs=>(∃ a cap,v= .slice a x.length cap∧Rd E w X a cap x)∧RowS E w X vs xs
 | _,_=>False
theorem RowS.at {α:Type} {E:Enc α} {w:World} {X:Nat->Prop}:∀ {vs:List Value} {xs:List (List α)},RowS E w X vs xs->vs.length=xs.length∧∀ (i:Nat) (x:List α),xs[i]? =some x->∃ a cap,vs[i]? =some (Value.slice a x.length cap)∧Rd E w X a cap x
 | [],[],_=>⟨rfl,fun i x hx=>by simp at hx⟩
 | v::vs,y::ys,⟨⟨a,cap,e,hr⟩,h⟩=>by
   obtain ⟨h1,h2⟩:=RowS.at h
   refine ⟨by simp[h1],fun i x hx=>?_⟩
   cases i with
   | zero=>cases hx;exact ⟨a,cap,by rw[e];rfl,hr⟩
   | succ i=>exact h2 i x (by simpa using hx)
 | [],_::_,h=>h.elim
 | _::_,[],h=>h.elim
theorem grown_step {a b c:World} {p:Nat} {r:Option Nat} (h:a.grownBy b (some p)) (h':b.grownBy c r) (hr:∀ g,r=some g->g=p∨a.heap.size<=g):a.grownBy c (some p):=
 ⟨h'.os.trans h.os,h'.tape.trans h.tape,h'.output.trans h.output,Nat.le_trans h.size h'.size,fun k hk d=>(h'.block k (Nat.lt_of_lt_of_le hk h.size) fun e=>by
   rcases hr k e.symm with h1 | h1
   ·exact d (by rw[h1])
   ·omega).trans (h.block k hk d)⟩
def mk {α:Type} (n:Int) (z:α):Option (List α):=if 0<=n∧n<=1073741824 then some (List.replicate n.toNat z) else none
theorem zxn {α:Type} {xs ys:List α} {i:Int} {x:α} (h:upd xs i x=some ys):0<=i∧i<xs.length∧ys=xs.set i.toNat x:=by
 unfold upd at h
 split at h
 ·rename_i hh;cases h;exact ⟨hh.1,hh.2,rfl⟩
 ·cases h
section
variable {P:Program} {R:RR} {n:Nat} {k:List It} {σ σ':List (Nat × Value)} {w:World} {all:Array Oper} {C:World->Prop} {o:Oper} {m:Mk} {rest:List (Oper × Mk)}
theorem zq8 {op:BinOp} {t:TypeId} {x y:Operand} {xs ys:Array Value} (b:Bool) (ss:List Nat) {d:Nat} (hm:m=some false->C w) (hd':o.dst=some d) (hdn:Nat.blt d n=true) (hg:zzl all σ o=some true)
 (hk:(zzB o.op&&zzO σ o.op.operands.toList)=true) (hop:execOp (evr σ) o=(do pure (.value (<- (do eqGuard op t x y (.agg xs) (.agg ys);binOp op t (.agg xs) (.agg ys)))))) (he:∀ w,(do eqGuard op t x y (.agg xs) (.agg ys);binOp op t (.agg xs) (.agg ys):Sem Value).run P w= .ok (.bool b) w)
 (hp:pk ss (put σ d (.bool b))=some σ') (h:Run P R n (.ops all C rest::k) .normal σ' w):Run P R n (.ops all C ((o,m)::rest)::k) .normal σ w:=
 zx4 _ ss hm hd' hdn hg hk (fun w' _=>by
  rw[hop,Sem.run_bind,he w']
  simp[Result.andThen]) hp h
theorem ztm {α:Type} {f:α->Value} {hf:∀ x,(f x).oneCell'=true} {t e:TypeId} {a:Option Addr} {cap:Nat} {xs:List α} {i:Int} (x:α) (ys:List α) (hm:m≠some true) (hdn:zy9 n o.dst=true) (hg:zzl all σ o=some true)
 (hk:(zzB o.op&&zzO σ o.op.operands.toList)=true) {v:Value} (hv:v=f x) (hop:execOp (evr σ) o=(do Instr.storeAt t (.pointer (some (elemAddr a (i.toNat*1)))) v;pure .skip))
 (hsz:(P.info? t).map (·.size)=some 1) (hown:Own (flat f hf) e w (fun _=>False) a cap xs) (hr:upd xs i x=some ys)
 (h:∀ w',w.grownBy w' (blk a)->Own (flat f hf) e w' (fun _=>False) a cap ys->w'.heap.size=w.heap.size->(m=some false->C w')∧Run P R n (.ops all C rest::k) .normal (zwT σ o.dst undef) w'):
 Run P R n (.ops all C ((o,m)::rest)::k) .normal σ w:=by
 obtain ⟨h0,h1,rfl⟩:=zxn hr
 subst hv
 have l:(f x).cells= #[f x]:=by
  have:=hf x
  cases hv:f x<;>rw[hv]at this<;>first | rfl | cases this
 have ag:i.toNat<xs.length:=by omega
 obtain ⟨fl,⟨hl,ab⟩,o2,_⟩:=hown
 rcases ab with ⟨hv,hn⟩ | ⟨g,ai,cur,fz,hv,r,z,ae,af,aa,d⟩
 ·omega
 ·cases hv
  have c:(flat f hf).n=1:=rfl
  simp only[c,Nat.mul_one]at hl aa d o2 r
  have ac:i.toNat+1<=cur.size:=by omega
  let cs':=(cur.toList.take i.toNat++[f x]++cur.toList.drop (i.toNat+1)).toArray
  have b:=zzU P g i.toNat e fz [f x] 0 cur w z (r.elim .inl fun h=>.inr (by simp;omega)) (by simpa using ac) (by intro u hu;rw[List.mem_singleton.1 hu];exact hf x)
  simp only[Nat.add_zero]at b
  refine zxk (fun u w'=>u=undef∧w'=w.setRow g cs') hm hdn hg hk ⟨undef,w.setRow g cs',.inr ⟨?_,rfl⟩,rfl,rfl⟩ fun u w' ⟨hu,hw⟩=>?_
  ·rw[hop]
   have ha:elemAddr (some ⟨g,0,none⟩) (i.toNat*1)=⟨g,i.toNat,none⟩:=by
    show (⟨g,0,none⟩:Addr).add _=_
    rw[add_lit];congr 1;omega
   rw[ha]
   simp[Instr.storeAt,Instr.sureAddr,storeVar,zzN hsz,l,b,cs']
  ·subst hu;subst hw
   have p:cs'.toList=cur.toList.set i.toNat (f x):=by
    show cur.toList.take i.toNat++[f x]++cur.toList.drop (i.toNat+1)=_
    rw[List.set_eq_take_append_cons_drop,if_pos (by simpa using (show i.toNat<cur.size by omega))]
    simp
   refine h _ ⟨rfl,rfl,rfl,by simp[World.setRow],fun kk _ ad=>setRow_other w g kk _ (fun e=>ad (by simp[blk,e]))⟩ ⟨fl.set i.toNat (f x),⟨?_,.inr ⟨g,cap,cs',fz,?_,by rw[c,Nat.mul_one];exact r,setRow_heap w g cur _ e _ z,?_,af,?_,?_⟩⟩,fun j y hj=>?_,fun _ _ h=>h⟩ (by simp[World.setRow])
   ·simp only[List.length_set,c,Nat.mul_one];exact hl
   ·simp only[List.length_set]
   ·simp only[List.length_set];exact ae
   ·rw[<- Array.length_toList,p,List.length_set,Array.length_toList,aa,c,Nat.mul_one]
   ·rw[p,<- d,c,Nat.mul_one,List.length_set,List.take_set]
   ·show List.take 1 (List.drop (j*1) (fl.set i.toNat (f x)))=[f y]
    rw[Nat.mul_one]
    rw[List.getElem?_set]at hj
    by_cases s:i.toNat=j
    ·rw[if_pos s,if_pos ag]at hj
     cases hj
     subst s
     have ah:i.toNat<(fl.set i.toNat (f x)).length:=by rw[List.length_set];omega
     rw[List.drop_eq_getElem_cons ah,List.getElem_set_self]
     rfl
    ·rw[if_neg s]at hj
     have h2:List.take 1 (List.drop j fl)=[f y]:=o2 j y hj
     rw[<- h2]
     apply List.ext_getElem?
     intro q
     simp only[List.getElem?_take,List.getElem?_drop,List.getElem?_set]
     split
     ·have:q=0:=by omega
      subst this
      rw[if_neg (by omega)]
     ·rfl
end
end Go.Gv
