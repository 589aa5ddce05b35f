import Derived.Test.YtaeeniomdicclaaDoorProg
import Derived.Shelf.LaysM
import Derived.Shelf.Strings.Replace
import Derived.Shelf.Slices.Reverse
import Derived.Shelf.Unicode.ValidAny
import Derived.Test.YtaeeniomdicclaaDoorGs
import Derived.Test.YtaeeniomdicclaaDoorGq
set_option linter.all false
namespace Go.Gv
open Go.RowKit
section
variable {α:Type} [Inhabited α] {f:α->Value} {w:World} {g n:Nat} {cur:Array Value} {e:TypeId}
theorem zqJ {α:Type} {E:Enc α} {e:TypeId} {w:World} {X:Nat->Prop} {a:Option Addr} {cap:Nat} {xs:List α} (h:Own E e w X a cap xs):(a=none∧xs=[])∨∃ g,a=some ⟨g,0,none⟩:=by
 obtain ⟨fl,⟨_,hr⟩,_⟩:=h
 rcases hr with ⟨hv,hn⟩ | ⟨g,c,cur,fz,hv,_⟩
 ·exact .inl ⟨(Value.slice.inj hv).1,List.eq_nil_of_length_eq_zero hn⟩
 ·exact .inr ⟨g,(Value.slice.inj hv).1⟩
theorem zsf {ss:List α} {fz:Nat × Nat} (hb:w.heap[g]? =some (.cells cur e fz)) (hfz:fz=(0,0)∨ss.length<=fz.1) (ht:cur.toList.take ss.length=ss.map f):Sort.Holds f w g 0 ss.toArray:=by
 intro j hj
 have a:j<ss.length:=by simpa using hj
 have b:w.frozen? ⟨g,0+j,none⟩=false:=by
  obtain ⟨lo,hi⟩:=fz
  simp only[World.frozen?,hb,Bool.and_eq_false_iff,decide_eq_false_iff_not]
  rcases hfz with h | h
  ·cases h;right;omega
  ·left;simp only at h;omega
 refine ⟨?_,b⟩
 have h1:(cur.toList.take ss.length)[j]? =(ss.map f)[j]?:=by rw[ht]
 rw[List.getElem?_take_of_lt a]at h1
 simp only[World.cell?,hb,Nat.zero_add]
 simp only[Option.isSome_none,Bool.false_eq_true,if_false]
 rw[<- Array.getElem?_toList,h1]
 simp[a]
theorem zru (d:Array α):w.grownBy (Sort.putRow f (Sort.ahead w n) g 0 d) (some g):=by
 refine ⟨rfl,rfl,rfl,by simp[Sort.putRow,Sort.mapBlock,Sort.ahead],fun k hk a=>?_⟩
 have:g≠k:=fun e=>a (by rw[e])
 simp[Sort.putRow,Sort.mapBlock,Sort.ahead,Array.getElem?_modify,this]
theorem zqQ (ts:List α) (h:ts.length<=cur.size):(Sort.putCells f 0 ts.toArray cur).toList.take ts.length=ts.map f:=by
 apply List.ext_getElem?
 intro j
 by_cases hj:j<ts.length
 ·rw[List.getElem?_take_of_lt hj,Array.getElem?_toList]
  simp[Sort.putCells,hj,show j<cur.size by omega]
 ·rw[List.getElem?_take_eq_none (by omega),List.getElem?_eq_none (by simp;omega)]
end
theorem zqw {α β:Type} [Inhabited β] {f:α->Value} {hf:∀ x,(f x).oneCell'=true} {h:β->Value} {m:α->β} (hm:∀ x,f x=h (m x)) {w:World} {e:TypeId} {g cap:Nat} {xs:List α} (ho:Own (flat f hf) e w (fun _=>False) (some ⟨g,0,none⟩) cap xs):
 Sort.Holds h w g 0 (xs.map m).toArray∧∀ (ys:List α) (n:Nat),ys.length=xs.length->Own (flat f hf) e (Sort.putRow h (Sort.ahead w n) g 0 (ys.map m).toArray) (fun _=>False) (some ⟨g,0,none⟩) cap ys:=by
 obtain ⟨fl,⟨hl,d⟩,t,_⟩:=ho
 have hl:fl.length=xs.length*1:=hl
 have p:fl=xs.map f:=by
  apply List.ext_getElem?
  intro j
  by_cases hj:j<xs.length
  ·have:=t j _ (List.getElem?_eq_getElem hj)
   have h1:List.take 1 (List.drop (j*1) fl)=[f xs[j]]:=this
   have h2:(List.take 1 (List.drop (j*1) fl))[0]? =some (f xs[j]):=by rw[h1];rfl
   rw[List.getElem?_take_of_lt (by omega),List.getElem?_drop,Nat.mul_one,Nat.add_zero]at h2
   rw[h2];simp[hj]
  ·rw[List.getElem?_eq_none (by omega),List.getElem?_eq_none (by simp;omega)]
 have s:xs.map f=(xs.map m).map h:=by rw[List.map_map];exact List.map_congr_left fun x _=>hm x
 rcases d with ⟨hv,_⟩ | ⟨g',u,cur,fz,hv,b,hb,hnc,q,c,a⟩
 ·cases hv
 cases hv
 have a:List.take (xs.length*1) cur.toList=fl:=a
 rw[Nat.mul_one,p]at a
 have c:cur.size=cap*1:=c
 have k:fz=(0,0)∨(xs.map m).length<=fz.1:=by
  have b:fz=(0,0)∨cap*1<=fz.1:=b
  exact b.elim .inl fun h=>.inr (by rw[List.length_map];omega)
 refine ⟨zsf hb k (by rw[List.length_map,a,s]),fun ys n hy=>?_⟩
 have o:ys.map f=(ys.map m).map h:=by rw[List.map_map];exact List.map_congr_left fun x _=>hm x
 refine ⟨ys.map f,⟨by simp[flat],.inr ⟨g,cap,Sort.putCells h 0 (ys.map m).toArray cur,fz,rfl,b,?_,by omega,q,by show _=cap*1;simp[Sort.putCells,c],?_⟩⟩,fun i x hi=>?_,fun _ _ h=>h⟩
 ·simp[Sort.putRow,Sort.mapBlock,Sort.ahead,Array.getElem?_modify,hb,Sort.onCells]
 ·show List.take (ys.length*1) _=_
  rw[Nat.mul_one,o]
  have:=zqQ (f:=h) (cur:=cur) (ys.map m) (by rw[List.length_map];omega)
  rw[List.length_map]at this
  exact this
 ·show List.take 1 (List.drop (i*1) (List.map f ys))=[f x]
  obtain ⟨r,l⟩:=List.getElem?_eq_some_iff.1 hi
  rw[Nat.mul_one,<- List.map_drop,<- List.map_take,List.drop_eq_getElem_cons r,l]
  rfl
end Go.Gv
namespace Go.Proofs.YtaeeniomdicclaaDoor
open Go.Gv Go.Gv.D Go.Shelf Go.RowKit
set_option maxRecDepth 100000
theorem zqC {gmx:Int} {w:World} {X:Nat->Prop} (h:Rd (iE .i64) w X (some ⟨2,0,none⟩) 1 [gmx]):w.cell? ⟨2,0,none⟩=some (.int .i64 gmx):=by
 obtain ⟨b,off,c,e,_,hc,a⟩:=h.2 0 gmx rfl
 cases e
 have hc:c=[.int .i64 gmx]:=hc
 subst hc
 have:=a 0 _ rfl
 rwa [add_lit]at this
def renX:Ren:=⟨fun n=>if n=143 then 64 else if n=219 then 76 else if n=217 then 81 else if n=225 then 82 else if n=224 then 83 else if n=267 then 84 else if n=266 then 92 else if n=314 then 93 else n,fun n=>if n=9 then 9 else if n=3 then 3 else if n=4 then 4 else if n=5 then 5 else if n=46 then 85 else if n=146 then 146 else if n=51 then 101 else n,fun n=>if n=1 then 2 else n⟩
theorem zph:Lays.n143 Tryd.prog renX:=by constructor<;>first | kernel_rfl | (intro w;kernel_rfl)
theorem zvx (fuel:Nat) (s_0:ByteArray) (substr_1:ByteArray) (w0:World) (X0:Nat->Prop) (hX0:∀ k,X0 k->k<w0.heap.size) {gmx:Int} (hG:Rd (iE .i64) w0 X0 (some ⟨2,0,none⟩) 1 [gmx]) (r0:Int) (h0:strings_Index fuel s_0 substr_1=some r0):
 Calls Tryd.prog 64 ([(.string s_0),(.string substr_1)]:List Value).toArray w0 (Ret fun v w'=>w0.grownBy w' none∧v=tup [(.int .i64 r0)]):=by
 unfold strings_Index at h0
 split at h0
 ·rename_i hb
  cases h0
  refine (Any.strings_Index zph s_0 substr_1 gmx w0 hb (zqC hG)).mono fun e w' ⟨he,hw⟩=>?_
  subst he hw
  exact ⟨World.grownBy.refl _ _,rfl⟩
 ·cases h0
def renV:Ren:=⟨fun n=>if n=112 then 91 else n,fun n=>if n=28 then 26 else n,fun n=>n⟩
theorem zrd:Lays.n112 Tryd.prog renV:=by constructor<;>first | kernel_rfl | (intro w;kernel_rfl)
theorem zyF (fuel:Nat) (pa0_0:Option Addr) (pc0_0:Nat) (s_0:List Int) (w0:World) (hpa0_0:Gv.Own (iE .i64) 3 w0 (fun _=>False) pa0_0 pc0_0 s_0) (r0:List Int) (h0:zzn fuel s_0=some r0):
 Calls Tryd.prog 91 ([(.slice pa0_0 (List.length s_0) pc0_0)]:List Value).toArray w0 (Ret fun v w'=>w0.grownBy w' (blk pa0_0)∧v=tup []∧Gv.Own (iE .i64) 3 w' (fun _=>False) pa0_0 pc0_0 r0∧List.length r0=List.length s_0):=by
 unfold zzn at h0
 split at h0
 ·rename_i hb
  cases h0
  rcases zqJ hpa0_0 with ⟨rfl,hs⟩ | ⟨g,rfl⟩
  ·subst hs
   refine (Any.slices_Reverse_int_empty zrd none pc0_0 w0).mono fun e w' ⟨he,hw⟩=>?_
   subst he hw
   exact ⟨World.grownBy.refl _ _,rfl,hpa0_0,rfl⟩
  ·obtain ⟨hH,hO⟩:=zqw (h:=Value.int .i64) (m:=id) (fun _=>rfl) hpa0_0
   rw[List.map_id]at hH
   refine (Any.slices_Reverse_int zrd g 0 pc0_0 s_0 w0 hH hb).mono fun e w' ⟨he,n,hw⟩=>?_
   subst he hw
   have:=hO s_0.reverse n (by simp)
   rw[List.map_id]at this
   exact ⟨zru _,rfl,this,by simp⟩
 ·cases h0
def zoF:Ren:=⟨fun n=>if n=196 then 20 else if n=259 then 32 else n,fun n=>if n=119 then 81 else if n=46 then 85 else if n=139 then 84 else if n=138 then 83 else if n=53 then 109 else n,fun n=>if n=3 then 0 else if n=4 then 1 else n⟩
theorem zpi:Lays.n196 Tryd.prog zoF:=by constructor<;>first | kernel_rfl | (intro w;kernel_rfl)
theorem zp2:(List.range 256).all (fun c=>(utf8First[c]?).elim false fun b=>b.toNat==Lib.firstT c)=true:=by kernel_rfl
theorem zpS:(List.range 16).all (fun i=>(zyh[i]?).elim false fun p=>p.1==(Lib.accLo i:Int)&&p.2==(Lib.accHi i:Int))=true:=by kernel_rfl
theorem zpj {g3 g4:Nat} {w:World} {X:Nat->Prop} (h1:Rd bE w X (some ⟨g3,0,none⟩) 256 utf8First) (h2:Rd (prE (iE .u8) (iE .u8)) w X (some ⟨g4,0,none⟩) 16 zyh):Lib.Utf8Tabs g3 g4 w:=by
 refine ⟨fun c hc=>?_,fun i hi=>?_⟩
 ·have ha:=List.all_eq_true.1 zp2 c (List.mem_range.2 hc)
  cases hx:utf8First[c]? with
  | none=>rw[hx]at ha;cases ha
  | some x=>
    rw[hx]at ha
    obtain ⟨b,off,d,e,_,hd,a⟩:=h1.2 c x hx
    cases e
    have:=a 0 _ (by rw[show d=[Value.int .u8 x.toNat] from hd];rfl)
    rw[add_lit]at this
    rw[<- eq_of_beq ha]
    simpa [bE,flat] using this
 ·have ha:=List.all_eq_true.1 zpS i (List.mem_range.2 hi)
  cases hx:zyh[i]? with
  | none=>rw[hx]at ha;cases ha
  | some x=>
    rw[hx]at ha
    simp only[Option.elim,Bool.and_eq_true,beq_iff_eq]at ha
    obtain ⟨b,off,d,e,_,⟨p,q,ed,hp,hq⟩,a⟩:=h2.2 i x hx
    cases e
    have ep:p=[Value.int .u8 x.1]:=hp
    have eq:q=[Value.int .u8 x.2]:=hq
    subst ep;subst eq;subst ed
    have h0:=a 0 _ rfl
    have h1:=a 1 _ rfl
    rw[add_lit]at h0 h1
    have hn:(prE (iE .u8) (iE .u8)).n=2:=rfl
    rw[hn]at h0 h1
    rw[<- ha.1,<- ha.2]
    refine ⟨?_,?_⟩
    ·rw[show 2*i=0+i*2+0 by omega];exact h0
    ·rw[show 2*i+1=0+i*2+1 by omega];exact h1
theorem zwv (fuel:Nat) (s_0:ByteArray) (w0:World) (X0:Nat->Prop) (hX0:∀ k,X0 k->k<w0.heap.size) (hG0:Rd bE w0 X0 (some ⟨0,0,none⟩) 256 utf8First) (hG1:Rd (prE (iE .u8) (iE .u8)) w0 X0 (some ⟨1,0,none⟩) 16 zyh) (r0:Bool) (h0:utf8_ValidString fuel s_0=some r0):
 Calls Tryd.prog 20 ([(.string s_0)]:List Value).toArray w0 (Ret fun v w'=>w0.grownBy w' none∧v=tup [(.bool r0)]):=by
 unfold utf8_ValidString at h0
 split at h0
 ·rename_i hb
  cases h0
  refine (Any.utf8_ValidString zpi s_0 w0 hb (zpj hG0 hG1)).mono fun e w' ⟨he,hw⟩=>?_
  subst he
  exact ⟨grown_of_below hw,rfl⟩
 ·cases h0
end Go.Proofs.YtaeeniomdicclaaDoor
