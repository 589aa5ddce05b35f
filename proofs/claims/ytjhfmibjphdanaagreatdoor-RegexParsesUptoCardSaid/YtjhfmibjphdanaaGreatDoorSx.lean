import Derived.Test.YtjhfmibjphdanaaGreatDoorProg
import Derived.Shelf.SlSortCmp.WholeK
import Derived.Shelf.SlSortCmp.NoneTotal
import Derived.Shelf.SlicesG.Cmp
import Derived.Test.YtjhfmibjphdanaaGreatDoorGso
import Derived.Test.YtjhfmibjphdanaaGreatDoorGa
import Derived.Test.YtjhfmibjphdanaaGreatDoorGx
/- Own work: slices.SortFunc at pairs of ints by the shelf. -/
set_option linter.all false
namespace Go.Gv
open Go.RowKit Go.Sort
open Go.Proofs (sortWorldK)
def encP (x:Int × Int):List Value:=[.int .i64 x.1,.int .i64 x.2]
abbrev prI:Enc (Int × Int):=prE (iE .i64) (iE .i64)
def flP:List (Int × Int)→List Value
 | []=>[]
 | x::xs=>.int .i64 x.1:: .int .i64 x.2::flP xs
theorem flP_len:∀ xs:List (Int × Int),(flP xs).length=xs.length*2
 | []=>rfl
 | x::xs=>by simp only[flP,List.length_cons,flP_len xs];omega
theorem flP_win:∀ (xs:List (Int × Int)) (i:Nat) (x:Int × Int),xs[i]? =some x→((flP xs).drop (i*2)).take 2=encP x
 | [],i,x,h=>by simp at h
 | y::xs,0,x,h=>by cases h;rfl
 | y::xs,i+1,x,h=>by
   rw[Nat.succ_mul]
   exact flP_win xs i x (by simpa using h)
theorem flP_eq:∀ (xs:List (Int × Int)) (fl:List Value),fl.length=xs.length*2→(∀ i x,xs[i]? =some x→(fl.drop (i*2)).take 2=encP x)→fl=flP xs
 | [],fl,hl,_=>List.eq_nil_of_length_eq_zero hl
 | x::xs,fl,hl,h=>by
   match fl,hl with
   | a::b::r,hl=>
     have h0:[a,b]=encP x:=h 0 x rfl
     have h1:=flP_eq xs r (by simp only[List.length_cons]at hl;omega) fun i y hy=>by
      have:=h (i+1) y (by simpa using hy)
      rwa [Nat.succ_mul]at this
     unfold encP at h0
     obtain ⟨e1,e2⟩:=List.cons.inj h0
     obtain ⟨e2,_⟩:=List.cons.inj e2
     rw[e1,e2,h1];rfl
   | [a],hl=>simp only[List.length_cons,List.length_nil]at hl;omega
   | [],hl=>simp only[List.length_cons,List.length_nil]at hl;omega
theorem flatK_eq (xs:List (Int × Int)):flatK encP 2 xs.toArray=(flP xs).toArray:=by
 refine ext_get! (by simp[flP_len]) fun t ht=>?_
 rw[size_flatK]at ht
 have ht2:t<xs.length*2:=by simpa using ht
 rw[get_flatK _ _ _ t ht]
 have hi:t/2<xs.length:=by omega
 have hw:=flP_win xs (t/2) xs[t/2] (List.getElem?_eq_getElem hi)
 have hg:(flP xs)[t]? =(encP xs[t/2])[t%2]?:=by
  rw[← hw,List.getElem?_take,if_pos (Nat.mod_lt _ (by decide)),List.getElem?_drop]
  congr 1
  omega
 have h2:t%2<(encP xs[t/2]).length:=Nat.mod_lt _ (by decide)
 rw[List.getElem?_eq_getElem h2,List.getElem?_eq_getElem (by rw[flP_len];exact ht2)]at hg
 have e1:xs.toArray[t/2]! =xs[t/2]:=by simp[hi]
 have ht3:t<(flP xs).toArray.size:=by simpa [flP_len] using ht2
 rw[e1,getElem!_pos (encP xs[t/2]) (t%2) h2,getElem!_pos (flP xs).toArray t ht3]
 simpa using (Option.some.inj hg).symm
theorem own_pairs {w:World} {e:TypeId} {g cap:Nat} {xs:List (Int × Int)} (ho:Own prI e w (fun _=>False) (some ⟨g,0,none⟩) cap xs):
 HoldsK encP 2 w g 0 xs.toArray∧g<w.heap.size∧∀ (ys:List (Int × Int)) (n:Nat) (os:Array Obj),ys.length=xs.length→
  Own prI e (sortWorldK encP 2 w g 0 n ys.toArray os) (fun _=>False) (some ⟨g,0,none⟩) cap ys∧w.grownBy (sortWorldK encP 2 w g 0 n ys.toArray os) (some g):=by
 have hlt:=ho.lt g rfl
 obtain ⟨fl,⟨hl,hrow⟩,hel,_⟩:=ho
 have hl:fl.length=xs.length*2:=hl
 have hfl:fl=flP xs:=flP_eq xs fl hl fun i x hx=>by
  obtain ⟨c,d,h1,h2,h3⟩:=hel i x hx
  have h1:(fl.drop (i*2)).take 2=c++d:=h1
  have h2:c=[.int .i64 x.1]:=h2
  have h3:d=[.int .i64 x.2]:=h3
  rw[h1,h2,h3];rfl
 rcases hrow with ⟨hv,_⟩ | ⟨g',cap',cur,fz,hv,hfz,hb,hnc,hmx,hcs,htake⟩
 ·cases hv
 cases hv
 have hcs:cur.size=cap*2:=hcs
 have hfz:fz=(0,0)∨cap*2≤fz.1:=hfz
 have htake:cur.toList.take (xs.length*2)=fl:=htake
 have hnot:∀ j,j<xs.length*2→w.frozen? ⟨g,0+j,none⟩=false:=fun j hj=>by
  obtain ⟨lo,hi⟩:=fz
  simp only[World.frozen?,hb,Bool.and_eq_false_iff,decide_eq_false_iff_not]
  rcases hfz with h | h
  ·cases h;right;omega
  ·left;simp only at h;omega
 refine ⟨?_,hlt,fun ys n os hy=>?_⟩
 ·show Holds id w g 0 (flatK encP 2 xs.toArray)
  rw[flatK_eq,← hfl]
  intro j hj
  have hj:j<fl.length:=by simpa using hj
  refine ⟨?_,hnot j (by omega)⟩
  simp only[World.cell?,hb,Nat.zero_add]
  simp only[Option.isSome_none,Bool.false_eq_true,if_false]
  have h1:cur.toList[j]? =fl[j]?:=by rw[← htake,List.getElem?_take,if_pos (by omega)]
  rw[← Array.getElem?_toList,h1,List.getElem?_eq_getElem hj]
  simp[hj]
 ·have hg1:w.grownBy (putRowK encP 2 (Sort.ahead w n) g 0 ys.toArray) (some g):=by
   refine ⟨rfl,rfl,rfl,by simp[putRowK,putRow,mapBlock,Sort.ahead],fun k hk hne=>?_⟩
   have:g≠k:=fun e=>hne (by rw[e])
   simp[putRowK,putRow,mapBlock,Sort.ahead,Array.getElem?_modify,this]
  have hg2:(putRowK encP 2 (Sort.ahead w n) g 0 ys.toArray).grownBy (sortWorldK encP 2 w g 0 n ys.toArray os) none:=
   ⟨rfl,rfl,rfl,by simp[sortWorldK,grow],fun k hk _=>by
     show ((putRowK encP 2 (Sort.ahead w n) g 0 ys.toArray).heap++os)[k]? =_
     rw[Array.getElem?_append_left hk]⟩
  refine ⟨?_,⟨hg2.os.trans hg1.os,hg2.tape.trans hg1.tape,hg2.output.trans hg1.output,Nat.le_trans hg1.size hg2.size,fun k hk hne=>(hg2.block k (Nat.lt_of_lt_of_le hk hg1.size) (by simp)).trans (hg1.block k hk hne)⟩⟩
  refine Own.grown (row:=none) ?_ hg2 (fun _ h=>h.elim) (fun _ h=>by cases h)
  have hys:(flP ys).length=xs.length*2:=by rw[flP_len,hy]
  refine ⟨flP ys,⟨by rw[flP_len];rfl,.inr ⟨g,cap,putCells id 0 (flP ys).toArray cur,fz,rfl,hfz,?_,by omega,hmx,by show _=cap*2;simp[putCells,hcs],?_⟩⟩,fun i x hi=>?_,fun _ _ h=>h⟩
  ·simp[putRowK,flatK_eq,putRow,mapBlock,Sort.ahead,Array.getElem?_modify,hb,onCells]
  ·show List.take (ys.length*2) _=_
   refine List.ext_getElem? fun j=>?_
   rw[List.getElem?_take]
   by_cases hj:j<ys.length*2
   ·rw[if_pos hj,Array.getElem?_toList]
    have hj2:j<(flP ys).length:=by rw[flP_len];exact hj
    have hjc:j<cur.size:=by have:=Nat.mul_le_mul_right 2 hnc;omega
    simp[putCells,hj2,hjc]
   ·rw[if_neg hj,List.getElem?_eq_none (by rw[flP_len];omega)]
  ·have h1:List.take 2 (List.drop (i*2) (flP ys))=encP x:=flP_win ys i x hi
   exact ⟨[.int .i64 x.1],[.int .i64 x.2],h1,rfl,rfl⟩
theorem ltOf_fst:Go.Proofs.ltOf (fun x y:Int × Int=>Lib.compareInt x.1 y.1)=ltFst:=by
 funext x y
 unfold Go.Proofs.ltOf Lib.compareInt ltFst
 by_cases h1:x.1<y.1
 ·simp[h1]
 ·by_cases h2:y.1<x.1<;>simp[h1,h2]
theorem swo_fst:SWO ltFst where
 irrefl x:=by simp[ltFst]
 trans x y z h1 h2:=by simp[ltFst]at *; omega
 ntrans x y z h1 h2:=by simp[ltFst]at *; omega
theorem pdq_size (d:Array (Int × Int)):(pdq ltFst d 0 d.size (Lib.bitLen d.size) true true).size=d.size:=
 (pdq_sorts ltFst swo_fst d 0 d.size (Lib.bitLen d.size) true true (Nat.zero_le _) (Nat.le_refl _) (Or.inl rfl)).1.1
end Go.Gv
namespace Go.Proofs.YtjhfmibjphdanaaGreatDoor
open Go.Gv Go.Gv.D Go.Shelf Go.RowKit Go.Sort
set_option maxRecDepth 1000000
def renS:Ren:=⟨fun n=>if n=6 then 122 else if n=15 then 133 else if n=14 then 132 else if n=28 then 150 else if n=29 then 105 else if n=20 then 142 else if n=21 then 143 else if n=22 then 144 else if n=23 then 145 else if n=24 then 146 else if n=25 then 147 else if n=26 then 148 else if n=27 then 149 else if n=46 then 155 else if n=47 then 156 else if n=48 then 157 else if n=49 then 158 else if n=50 then 159 else if n=57 then 164 else n,fun n=>if n=24 then 53 else if n=25 then 145 else if n=39 then 72 else if n=53 then 130 else if n=55 then 98 else if n=46 then 167 else if n=45 then 166 else if n=50 then 171 else if n=66 then 180 else if n=70 then 184 else if n=76 then 191 else if n=77 then 81 else n,fun n=>n⟩
def renC:Ren:=⟨fun n=>if n=5 then 124 else if n=7 then 134 else n,fun n=>if n=22 then 3 else n,fun n=>n⟩
theorem laysS:SlLaysF0.n6 Tryz.prog renS:=by constructor<;>first | kernel_rfl | (intro w;kernel_rfl) | exact ⟨Tryz.f122.name,by decide,Tryz.func122.trans (congrArg some (by kernel_rfl))⟩ | exact ⟨Tryz.f132.name,by decide,Tryz.func132.trans (congrArg some (by kernel_rfl))⟩ | exact ⟨Tryz.f142.name,by decide,Tryz.func142.trans (congrArg some (by kernel_rfl))⟩ | exact ⟨Tryz.f143.name,by decide,Tryz.func143.trans (congrArg some (by kernel_rfl))⟩ | exact ⟨Tryz.f144.name,by decide,Tryz.func144.trans (congrArg some (by kernel_rfl))⟩ | exact ⟨Tryz.f145.name,by decide,Tryz.func145.trans (congrArg some (by kernel_rfl))⟩ | exact ⟨Tryz.f146.name,by decide,Tryz.func146.trans (congrArg some (by kernel_rfl))⟩ | exact ⟨Tryz.f147.name,by decide,Tryz.func147.trans (congrArg some (by kernel_rfl))⟩ | exact ⟨Tryz.f148.name,by decide,Tryz.func148.trans (congrArg some (by kernel_rfl))⟩ | exact ⟨Tryz.f149.name,by decide,Tryz.func149.trans (congrArg some (by kernel_rfl))⟩ | exact ⟨Tryz.f155.name,by decide,Tryz.func155.trans (congrArg some (by kernel_rfl))⟩ | exact ⟨Tryz.f156.name,by decide,Tryz.func156.trans (congrArg some (by kernel_rfl))⟩ | exact ⟨Tryz.f157.name,by decide,Tryz.func157.trans (congrArg some (by kernel_rfl))⟩ | exact ⟨Tryz.f158.name,by decide,Tryz.func158.trans (congrArg some (by kernel_rfl))⟩ | exact ⟨Tryz.f159.name,by decide,Tryz.func159.trans (congrArg some (by kernel_rfl))⟩ | exact ⟨Tryz.f164.name,by decide,Tryz.func164.trans (congrArg some (by kernel_rfl))⟩
theorem laysC:SlLaysC2.n5 Tryz.prog renC:=by constructor<;>first | kernel_rfl | (intro w;kernel_rfl) | exact ⟨Tryz.f124.name,by decide,Tryz.func124.trans (congrArg some (by kernel_rfl))⟩ | exact ⟨Tryz.f134.name,by decide,Tryz.func134.trans (congrArg some (by kernel_rfl))⟩
set_option maxHeartbeats 1000000 in
/-- the closure: two blocks are laid, it tells how the first parts stand -/
theorem closureS (x y:Int × Int) (W:World):Calls Tryz.prog 123 #[.agg #[.int .i64 x.1,.int .i64 x.2],.agg #[.int .i64 y.1,.int .i64 y.2]] W fun e w'=>e= .returned (.int .i64 (Lib.compareInt x.1 y.1))∧∃ q os',w'=grow (W.drewN q) os':=by
 have hcon:=fun W'=>AnyG.cmp_Compare_int laysC x.1 y.1 W'
 change ∀ W',Calls Tryz.prog 124 _ _ _ at hcon
 generalize Lib.compareInt x.1 y.1=r at hcon ⊢
 go_enter Tryz.func123,Tryz.ntmps123
 go_wp2_with (go_at_call 124;refine (hcon _).mono ?_;rintro e w' ⟨rfl,rfl⟩)
 go_ret
 exact ⟨rfl,0,_,by rw[alloc_eq_grow,alloc_eq_grow,grow_grow];rfl⟩
theorem aggS (w:World):(isAgg (renS.t 24)).run Tryz.prog w= .ok true w:=by kernel_rfl
theorem sizeS (w:World):(Go.sizeOf (renS.t 24)).run Tryz.prog w= .ok 2 w:=by kernel_rfl
theorem slices_SortFunc_s_2int__2int_ok (fuel:Nat) (pa0_0:Option Addr) (pc0_0:Nat) (x_0:List (Int × Int)) (w0:World) (hpa0_0:Gv.Own prI 53 w0 (fun _=>False) pa0_0 pc0_0 x_0) (r0:List (Int × Int)) (h0:slices_SortFunc_s_2int__2int fuel x_0=some r0):
 Calls Tryz.prog 122 ([(.slice pa0_0 (List.length x_0) pc0_0),(.func (.func 123) #[] #[])]:List Value).toArray w0 (Ret fun v w'=>w0.grownBy w' (blk pa0_0)∧v=tup []∧Gv.Own prI 53 w' (fun _=>False) pa0_0 pc0_0 r0∧List.length r0=List.length x_0):=by
 unfold slices_SortFunc_s_2int__2int at h0
 split at h0
 ·rename_i hb
  cases h0
  by_cases hn:x_0=[]
  ·subst hn
   refine (AnyF.slices_SortFunc_none { laysS with} pa0_0 pc0_0 (.func (.func 123) #[] #[]) w0).mono fun e w' ⟨he,hw⟩=>?_
   subst he hw
   exact ⟨World.grownBy.refl _ _,rfl,hpa0_0,rfl⟩
  ·have hs:sortR x_0=(pdq ltFst x_0.toArray 0 x_0.toArray.size (Lib.bitLen x_0.toArray.size) true true).toList:=if_neg hn
   cases pa0_0 with
   | none=>
     obtain ⟨fl,⟨_,hr⟩,_⟩:=hpa0_0
     rcases hr with ⟨_,hz⟩ | ⟨g,_,_,_,hv,_⟩
     ·exact absurd (List.eq_nil_of_length_eq_zero hz) hn
     ·cases hv
   | some A=>
     obtain ⟨g,rfl⟩:∃ g,A=⟨g,0,none⟩:=by
      obtain ⟨fl,⟨_,hr⟩,_⟩:=hpa0_0
      rcases hr with ⟨hv,_⟩ | ⟨g,_,_,_,hv,_⟩
      ·cases hv
      ·exact ⟨g,Option.some.inj (Value.slice.inj hv).1⟩
     obtain ⟨hH,hlt,hput⟩:=own_pairs hpa0_0
     have eg:∀ args w,(callFunc 123 args).run Tryz.prog w= .ok (.enter 123 args) w:=enters_of Tryz.func123 (by kernel_rfl) rfl
     have hcon:=AnyQ.slices_SortFunc_eq laysS 2 aggS sizeS encP (fun _=>rfl) (fun x v hv=>by simp[encP]at hv;rcases hv with rfl | rfl<;>rfl) (fun x y=>Lib.compareInt x.1 y.1) (by rw[ltOf_fst];exact swo_fst) 123 #[] g 0 pc0_0 x_0.toArray w0 eg (fun _ _ _ _ x y=>closureS x y _) hH hlt (by simpa using hb)
     rw[ltOf_fst]at hcon
     rw[List.size_toArray]at hcon
     refine Calls.mono hcon fun e w' ⟨he,n,os,hw⟩=>?_
     subst he hw
     have hsz:(sortR x_0).length=x_0.length:=by
      rw[hs,Array.length_toList,pdq_size];simp
     have hd:pdq ltFst x_0.toArray 0 x_0.length (Lib.bitLen x_0.length) true true=(sortR x_0).toArray:=by rw[hs];simp
     rw[hd]
     obtain ⟨h1,h2⟩:=hput (sortR x_0) n os hsz
     exact ⟨h2,rfl,h1,hsz⟩
 ·cases h0
end Go.Proofs.YtjhfmibjphdanaaGreatDoor
