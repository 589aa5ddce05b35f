import Derived.Test.YtbiopeiafkldiaaGreatDoorProg
import Derived.Shelf.LaysM
import Derived.Shelf.LaysC
import Derived.Shelf.Lays2
import Derived.Shelf.Strings.SlTrimAscii
import Derived.Shelf.Strings.Repeat
import Derived.Shelf.Strings.OnBuilder
import Derived.Shelf.Strconv.AtoiAll
import Derived.Shelf.Strconv.Itoa3
import Derived.Shelf.Slices.Reverse
import Derived.Shelf.Slices.ReverseS
import Derived.Lib.SmallJoins
import Derived.Test.YtbiopeiafkldiaaGreatDoorGs
import Derived.Test.YtbiopeiafkldiaaGreatDoorGq
set_option linter.all false
namespace Go.Gv
open Go.RowKit
section
variable {α:Type} [Inhabited α] {f:α→Value} {w:World} {g n:Nat} {cur:Array Value} {e:TypeId}
theorem own_addr {α:Type} {E:Enc α} {e:TypeId} {w:World} {X:Nat→Prop} {a:Option Addr} {cap:Nat} {xs:List α} (h:Own E e w X a cap xs):(a=none∧xs=[])∨∃ g,a=some ⟨g,0,none⟩:=by
 obtain ⟨fl,⟨_,hr⟩,_⟩:=h
 rcases hr with ⟨hv,hn⟩ | ⟨g,c,cur,fz,hv,_⟩
 ·exact .inl ⟨(Value.slice.inj hv).1,List.eq_nil_of_length_eq_zero hn⟩
 ·exact .inr ⟨g,(Value.slice.inj hv).1⟩
theorem holds_row {ss:List α} {fz:Nat × Nat} (hb:w.heap[g]? =some (.cells cur e fz)) (hfz:fz=(0,0)∨ss.length≤fz.1) (ht:cur.toList.take ss.length=ss.map f):Sort.Holds f w g 0 ss.toArray:=by
 intro j hj
 have hj':j<ss.length:=by simpa using hj
 have hnf:w.frozen? ⟨g,0+j,none⟩=false:=by
  obtain ⟨lo,hi⟩:=fz
  simp only[World.frozen?,hb,Bool.and_eq_false_iff,decide_eq_false_iff_not]
  rcases hfz with h | h
  ·cases h;right;omega
  ·left;simp only at h;omega
 refine ⟨?_,hnf⟩
 have h1:(cur.toList.take ss.length)[j]? =(ss.map f)[j]?:=by rw[ht]
 rw[List.getElem?_take_of_lt hj']at h1
 simp only[World.cell?,hb,Nat.zero_add]
 simp only[Option.isSome_none,Bool.false_eq_true,if_false]
 rw[← Array.getElem?_toList,h1]
 simp[hj']
theorem put_grown (d:Array α):w.grownBy (Sort.putRow f (Sort.ahead w n) g 0 d) (some g):=by
 refine ⟨rfl,rfl,rfl,by simp[Sort.putRow,Sort.mapBlock,Sort.ahead],fun k hk hne=>?_⟩
 have:g≠k:=fun e=>hne (by rw[e])
 simp[Sort.putRow,Sort.mapBlock,Sort.ahead,Array.getElem?_modify,this]
theorem put_take (ts:List α) (h:ts.length≤cur.size):(Sort.putCells f 0 ts.toArray cur).toList.take ts.length=ts.map f:=by
 apply List.ext_getElem?
 intro j
 by_cases hj:j<ts.length
 ·rw[List.getElem?_take_of_lt hj,Array.getElem?_toList]
  simp[Sort.putCells,hj,show j<cur.size by omega]
 ·rw[List.getElem?_take_eq_none (by omega),List.getElem?_eq_none (by simp;omega)]
end
/-- a row of cells of one kind: what it holds, and that what is put into it is ours -/
theorem own_turn {α β:Type} [Inhabited β] {f:α→Value} {hf:∀ x,(f x).oneCell'=true} {h:β→Value} {m:α→β} (hm:∀ x,f x=h (m x)) {w:World} {e:TypeId} {g cap:Nat} {xs:List α} (ho:Own (flat f hf) e w (fun _=>False) (some ⟨g,0,none⟩) cap xs):
 Sort.Holds h w g 0 (xs.map m).toArray∧∀ (ys:List α) (n:Nat),ys.length=xs.length→Own (flat f hf) e (Sort.putRow h (Sort.ahead w n) g 0 (ys.map m).toArray) (fun _=>False) (some ⟨g,0,none⟩) cap ys:=by
 obtain ⟨fl,⟨hl,hrow⟩,hel,_⟩:=ho
 have hl:fl.length=xs.length*1:=hl
 have hfl:fl=xs.map f:=by
  apply List.ext_getElem?
  intro j
  by_cases hj:j<xs.length
  ·have:=hel j _ (List.getElem?_eq_getElem hj)
   have h1:List.take 1 (List.drop (j*1) fl)=[f xs[j]]:=this
   have h2:(List.take 1 (List.drop (j*1) fl))[0]? =some (f xs[j]):=by rw[h1];rfl
   rw[List.getElem?_take_of_lt (by omega),List.getElem?_drop,Nat.mul_one,Nat.add_zero]at h2
   rw[h2];simp[hj]
  ·rw[List.getElem?_eq_none (by omega),List.getElem?_eq_none (by simp;omega)]
 have hmm:xs.map f=(xs.map m).map h:=by rw[List.map_map];exact List.map_congr_left fun x _=>hm x
 rcases hrow with ⟨hv,_⟩ | ⟨g',cap',cur,fz,hv,hfz,hb,hnc,hmx,hcs,htake⟩
 ·cases hv
 cases hv
 have htake:List.take (xs.length*1) cur.toList=fl:=htake
 rw[Nat.mul_one,hfl]at htake
 have hcs:cur.size=cap*1:=hcs
 have hfz':fz=(0,0)∨(xs.map m).length≤fz.1:=by
  have hfz:fz=(0,0)∨cap*1≤fz.1:=hfz
  exact hfz.elim .inl fun h=>.inr (by rw[List.length_map];omega)
 refine ⟨holds_row hb hfz' (by rw[List.length_map,htake,hmm]),fun ys n hy=>?_⟩
 have hmy:ys.map f=(ys.map m).map h:=by rw[List.map_map];exact List.map_congr_left fun x _=>hm x
 refine ⟨ys.map f,⟨by simp[flat],.inr ⟨g,cap,Sort.putCells h 0 (ys.map m).toArray cur,fz,rfl,hfz,?_,by omega,hmx,by show _=cap*1;simp[Sort.putCells,hcs],?_⟩⟩,fun i x hi=>?_,fun _ _ h=>h⟩
 ·simp[Sort.putRow,Sort.mapBlock,Sort.ahead,Array.getElem?_modify,hb,Sort.onCells]
 ·show List.take (ys.length*1) _=_
  rw[Nat.mul_one,hmy]
  have:=put_take (f:=h) (cur:=cur) (ys.map m) (by rw[List.length_map];omega)
  rw[List.length_map]at this
  exact this
 ·show List.take 1 (List.drop (i*1) (List.map f ys))=[f x]
  obtain ⟨hlt,hx'⟩:=List.getElem?_eq_some_iff.1 hi
  rw[Nat.mul_one,← List.map_drop,← List.map_take,List.drop_eq_getElem_cons hlt,hx']
  rfl
end Go.Gv
namespace Go.Proofs.YtbiopeiafkldiaaGreatDoor
open Go.Gv Go.Gv.D Go.Shelf Go.RowKit
set_option maxRecDepth 1000000
def renL:Ren:=⟨fun n=>if n=161 then 114 else if n=231 then 141 else if n=227 then 142 else if n=233 then 143 else if n=235 then 144 else if n=228 then 172 else if n=197 then 74 else if n=151 then 173 else if n=260 then 112 else if n=152 then 199 else if n=137 then 113 else if n=119 then 78 else if n=224 then 212 else if n=225 then 213 else if n=217 then 140 else if n=266 then 171 else n,fun n=>if n=117 then 188 else if n=116 then 187 else if n=124 then 191 else if n=105 then 116 else if n=119 then 149 else if n=46 then 153 else if n=139 then 152 else if n=138 then 151 else n,fun n=>if n=3 then 0 else if n=4 then 1 else n⟩
def renA:Ren:=⟨fun n=>if n=172 then 115 else if n=244 then 145 else if n=245 then 146 else if n=247 then 174 else if n=279 then 175 else if n=280 then 176 else if n=281 then 177 else if n=282 then 178 else if n=287 then 200 else if n=316 then 201 else if n=171 then 72 else if n=205 then 202 else if n=321 then 214 else if n=322 then 215 else if n=243 then 110 else if n=246 then 139 else if n=283 then 167 else if n=284 then 168 else if n=285 then 169 else if n=286 then 170 else if n=129 then 195 else if n=317 then 194 else if n=318 then 196 else if n=319 then 197 else if n=320 then 198 else if n=337 then 210 else if n=338 then 211 else n,fun n=>if n=75 then 157 else if n=76 then 158 else if n=167 then 219 else if n=37 then 72 else if n=85 then 220 else if n=168 then 222 else if n=53 then 166 else if n=175 then 249 else if n=46 then 153 else if n=210 then 252 else if n=127 then 211 else if n=145 then 266 else if n=143 then 264 else if n=171 then 212 else if n=173 then 215 else if n=212 then 245 else if n=51 then 47 else if n=213 then 246 else if n=232 then 270 else if n=233 then 271 else if n=80 then 178 else n,fun n=>if n=15 then 4 else if n=16 then 5 else if n=17 then 2 else if n=18 then 8 else if n=19 then 9 else n⟩
def renI:Ren:=⟨fun n=>if n=171 then 72 else if n=243 then 110 else if n=246 then 139 else if n=283 then 167 else if n=284 then 168 else if n=285 then 169 else if n=286 then 170 else if n=129 then 195 else if n=317 then 194 else if n=318 then 196 else if n=319 then 197 else if n=320 then 198 else if n=337 then 210 else if n=338 then 211 else n,fun n=>if n=171 then 212 else if n=53 then 166 else if n=37 then 72 else if n=173 then 215 else if n=212 then 245 else if n=51 then 47 else if n=213 then 246 else if n=46 then 153 else if n=232 then 270 else if n=233 then 271 else n,fun n=>if n=17 then 2 else if n=18 then 8 else if n=19 then 9 else n⟩
def renU:Ren:=⟨fun n=>if n=158 then 127 else if n=165 then 131 else if n=166 then 132 else if n=167 then 157 else if n=169 then 134 else if n=230 then 158 else if n=203 then 159 else if n=240 then 165 else if n=241 then 166 else if n=197 then 74 else if n=118 then 188 else if n=168 then 189 else if n=270 then 190 else if n=262 then 191 else if n=276 then 192 else if n=277 then 193 else if n=260 then 112 else if n=242 then 208 else if n=313 then 209 else if n=278 then 219 else if n=274 then 220 else if n=275 then 221 else n,fun n=>if n=72 then 176 else if n=76 then 158 else if n=75 then 157 else if n=107 then 204 else if n=70 then 174 else if n=37 then 72 else if n=127 then 211 else if n=105 then 116 else if n=164 then 240 else if n=162 then 261 else if n=203 then 259 else if n=119 then 149 else if n=46 then 153 else if n=139 then 152 else if n=138 then 151 else if n=51 then 47 else if n=160 then 267 else if n=208 then 275 else if n=206 then 273 else if n=80 then 178 else n,fun n=>if n=13 then 6 else if n=3 then 0 else if n=4 then 1 else n⟩
def renJ:Ren:=⟨fun n=>if n=156 then 161 else if n=165 then 131 else if n=166 then 132 else if n=169 then 134 else if n=240 then 165 else if n=241 then 166 else if n=276 then 192 else if n=277 then 193 else n,fun n=>if n=31 then 85 else if n=72 then 176 else if n=76 then 158 else if n=70 then 174 else if n=37 then 72 else if n=75 then 157 else if n=127 then 211 else if n=164 then 240 else if n=80 then 178 else n,fun n=>n⟩
def renR:Ren:=⟨fun n=>if n=105 then 97 else if n=212 then 129 else if n=99 then 130 else if n=165 then 131 else if n=166 then 132 else if n=170 then 133 else if n=169 then 134 else if n=263 then 162 else if n=264 then 163 else if n=206 then 164 else if n=240 then 165 else if n=241 then 166 else if n=276 then 192 else if n=277 then 193 else n,fun n=>if n=46 then 153 else if n=109 then 171 else if n=72 then 176 else if n=76 then 158 else if n=51 then 47 else if n=146 then 207 else if n=53 then 166 else if n=148 then 209 else if n=70 then 174 else if n=37 then 72 else if n=75 then 157 else if n=127 then 211 else if n=164 then 240 else if n=80 then 178 else n,fun n=>n⟩
def renV:Ren:=⟨fun n=>if n=112 then 187 else n,fun n=>if n=28 then 38 else n,fun n=>n⟩
def renW:Ren:=⟨fun n=>if n=17 then 160 else n,fun n=>if n=24 then 85 else n,fun n=>n⟩
theorem lays161:Lays.n161 Tryz.prog renL:=by constructor<;>first | kernel_rfl | (intro w;kernel_rfl)
theorem lays172m:LaysM.n172 Tryz.prog renA:=by constructor<;>first | kernel_rfl | (intro w;kernel_rfl) | (constructor<;>first | kernel_rfl | (intro w;kernel_rfl))
theorem lays172:LaysC.n172 Tryz.prog renA:=by constructor<;>first | exact lays172m | kernel_rfl | (intro w;kernel_rfl)
theorem lays171:LaysM.n171 Tryz.prog renI:=by constructor<;>first | kernel_rfl | (intro w;kernel_rfl) | (constructor<;>first | kernel_rfl | (intro w;kernel_rfl))
theorem lays158:Lays.n158 Tryz.prog renU:=by constructor<;>first | kernel_rfl | (intro w;kernel_rfl)
theorem lays156:Lays.n156 Tryz.prog renJ:=by constructor<;>first | kernel_rfl | (intro w;kernel_rfl)
theorem lays105:Lays.n105 Tryz.prog renR:=by constructor<;>first | kernel_rfl | (intro w;kernel_rfl)
theorem lays112:Lays.n112 Tryz.prog renV:=by constructor<;>first | kernel_rfl | (intro w;kernel_rfl)
theorem lays17:Lays2.n17 Tryz.prog renW:=by constructor<;>first | kernel_rfl | (intro w;kernel_rfl)
theorem extraU:Builder.Extra Tryz.prog renU where
 sizeBuilder:=by kernel_rfl
 liesBuilder:=by kernel_rfl
 t5:=by kernel_rfl
 a5:=by intro w;kernel_rfl
 z5:=by intro w;kernel_rfl
 v5:=by intro w;kernel_rfl
 infoByte:=by kernel_rfl
 cellsByte:=by kernel_rfl
 sizeByte:=by kernel_rfl
 neB5:=by decide
theorem extraJ:Builder.Extra Tryz.prog renJ where
 sizeBuilder:=by kernel_rfl
 liesBuilder:=by kernel_rfl
 t5:=by kernel_rfl
 a5:=by intro w;kernel_rfl
 z5:=by intro w;kernel_rfl
 v5:=by intro w;kernel_rfl
 infoByte:=by kernel_rfl
 cellsByte:=by kernel_rfl
 sizeByte:=by kernel_rfl
 neB5:=by decide
theorem extraR:Builder.Extra Tryz.prog renR where
 sizeBuilder:=by kernel_rfl
 liesBuilder:=by kernel_rfl
 t5:=by kernel_rfl
 a5:=by intro w;kernel_rfl
 z5:=by intro w;kernel_rfl
 v5:=by intro w;kernel_rfl
 infoByte:=by kernel_rfl
 cellsByte:=by kernel_rfl
 sizeByte:=by kernel_rfl
 neB5:=by decide
theorem hi116L:(Tryz.prog.info? (renL.t 116)).map (fun i=>(i.zero,i.size))=some (some (.agg (Array.replicate 256 (.bool false))),256):=by kernel_rfl
theorem asciiB_at {s:ByteArray} (h:asciiB s=true):∀ (j:Nat) b,s.data.toList[j]? =some b→b.toNat<128:=fun j b hj=>by
 have:=List.all_eq_true.1 h b (List.mem_of_getElem? hj)
 exact of_decide_eq_true this
theorem strings_TrimLeft_ok (fuel:Nat) (s_0 cs_1:ByteArray) (w0:World) (r0:ByteArray) (h0:strings_TrimLeft fuel s_0 cs_1=some r0):
 Calls Tryz.prog 114 ([(.string s_0),(.string cs_1)]:List Value).toArray w0 (Ret fun v w'=>w0.grownBy w' none∧v=tup [(.string r0)]):=by
 unfold strings_TrimLeft at h0
 split at h0
 ·rename_i hb
  cases h0
  refine (Any.strings_TrimLeft_laid lays161 hi116L s_0 cs_1 w0 hb.1 (asciiB_at hb.2)).mono fun e w' ⟨he,hw⟩=>?_
  subst he
  exact ⟨grown_of_below hw,rfl⟩
 ·cases h0
theorem err_cell {erx:TypeId × Value} {w:World} {X:Nat→Prop} (h:Rd eE w X (some ⟨5,0,none⟩) 1 [erx]):w.cell? ⟨5,0,none⟩=some (.iface erx.1 erx.2):=by
 obtain ⟨b,off,c,e,_,hc,hat⟩:=h.2 0 erx rfl
 cases e
 have hc:c=[.iface erx.1 erx.2]:=hc
 subst hc
 have:=hat 0 _ rfl
 rwa [add_lit]at this
theorem strconv_Atoi_ok (fuel:Nat) (s_0:ByteArray) (w0:World) (X0:Nat→Prop) (hX0:∀ k,X0 k→k<w0.heap.size) {erx:TypeId × Value} (hG:Rd eE w0 X0 (some ⟨5,0,none⟩) 1 [erx]) (r0:Int × Bool) (h0:strconv_Atoi fuel s_0=some r0):
 Calls Tryz.prog 115 ([(.string s_0)]:List Value).toArray w0 (Ret fun v w'=>w0.grownBy w' none∧∃ (te:TypeId) (pe:Value),v=tup [(.int .i64 r0.1),(ifE r0.2 te pe)]):=by
 unfold strconv_Atoi at h0
 split at h0
 ·rename_i hb
  split at h0
  ·rename_i v hv
   cases h0
   refine (Any.strconv_Atoi_ok lays172 s_0 (by omega) v hv w0).mono fun e w' ⟨he,hw⟩=>?_
   subst he
   refine ⟨?_,0,.nilIface,rfl⟩
   rcases hw with hw | ⟨t,hw⟩
   ·subst hw;exact World.grownBy.refl _ _
   ·subst hw;exact grown_of_below (Lib.bytesWorld_below _ _ _)
  ·rename_i hv
   cases h0
   refine (Any.strconv_Atoi_range lays172 s_0 hb hv (.iface erx.1 erx.2) w0 (err_cell hG) (Or.inr ⟨_,_,rfl⟩)).mono fun e w' ⟨N,he,_,_,hw⟩=>?_
   subst he
   exact ⟨grown_of_below hw,_,_,rfl⟩
  ·cases h0
 ·cases h0
theorem strings_Repeat_ok (fuel:Nat) (s_0:ByteArray) (count_1:Int) (w0:World) (r0:ByteArray) (h0:strings_Repeat fuel s_0 count_1=some r0):
 Calls Tryz.prog 97 ([(.string s_0),(.int .i64 count_1)]:List Value).toArray w0 (Ret fun v w'=>w0.grownBy w' none∧v=tup [(.string r0)]):=by
 unfold strings_Repeat at h0
 split at h0
 ·rename_i hb
  cases h0
  obtain ⟨c,rfl⟩:∃ c:Nat,count_1=c:=⟨count_1.toNat,by omega⟩
  refine (Any.strings_Repeat lays105 extraR s_0 c w0 (by omega) (by have:=hb.2.2;simpa using this)).mono fun e w' ⟨he,hw⟩=>?_
  subst he
  exact ⟨grown_of_below hw,rfl⟩
 ·cases h0
theorem strings_Join_ok (fuel:Nat) (pa0_0:Option Addr) (pc0_0:Nat) (elems_0:(List ByteArray)) (sep_1:ByteArray) (w0:World) (X0:Nat→Prop) (hX0:∀ k,X0 k→k<w0.heap.size) (hpa0_0:Rd sE w0 X0 pa0_0 pc0_0 elems_0) (r0:ByteArray) (h0:strings_Join fuel elems_0 sep_1=some r0):
 Calls Tryz.prog 161 ([(.slice pa0_0 (List.length elems_0) pc0_0),(.string sep_1)]:List Value).toArray w0 (Ret fun v w'=>w0.grownBy w' none∧v=tup [(.string r0)]):=by
 unfold strings_Join at h0
 split at h0
 ·rename_i hb
  cases h0
  cases elems_0 with
  | nil=>
    refine (Any.strings_Join_none lays156 extraJ pa0_0 pc0_0 sep_1 w0).mono fun e w' ⟨he,hw⟩=>?_
    subst he hw
    exact ⟨World.grownBy.refl _ _,rfl⟩
  | cons x xs=>
    obtain ⟨b,off,c,rfl,hX,_⟩:=hpa0_0.2 0 x rfl
    refine (Any.strings_Join lays156 extraJ b off pc0_0 (x::xs) sep_1 w0 (fun j y hj=>?_) (hX0 b hX) hb.1 hpa0_0.1 hb.2).mono fun e w' ⟨he,hw⟩=>?_
    ·obtain ⟨b',off',c',e',_,hc',hat⟩:=hpa0_0.2 j y hj
     cases e'
     have hc':c'=[.string y]:=hc'
     subst hc'
     have:=hat 0 _ rfl
     rw[add_lit]at this
     simpa [sE,flat] using this
    ·subst he
     exact ⟨grown_of_below hw,rfl⟩
 ·cases h0
theorem strings_ToUpper_ok (fuel:Nat) (s_0:ByteArray) (w0:World) (r0:ByteArray) (h0:strings_ToUpper fuel s_0=some r0):
 Calls Tryz.prog 127 ([(.string s_0)]:List Value).toArray w0 (Ret fun v w'=>w0.grownBy w' none∧v=tup [(.string r0)]):=by
 unfold strings_ToUpper at h0
 split at h0
 ·rename_i hb
  cases h0
  refine (Any.strings_ToUpper_ascii lays158 extraU s_0 w0 hb.1 (asciiB_at hb.2)).mono fun e w' ⟨he,hw⟩=>?_
  subst he
  exact ⟨grown_of_below hw,rfl⟩
 ·cases h0
theorem strconv_Itoa_ok (fuel:Nat) (i_0:Int) (w0:World) (X0:Nat→Prop) (hX0:∀ k,X0 k→k<w0.heap.size) (hG:Rd (tabE 2 pow10C) w0 X0 (some ⟨2,0,none⟩) 1 [(.int .u64 1)]) (r0:ByteArray) (h0:strconv_Itoa fuel i_0=some r0):
 Calls Tryz.prog 72 ([(.int .i64 i_0)]:List Value).toArray w0 (Ret fun v w'=>w0.grownBy w' none∧v=tup [(.string r0)]):=by
 unfold strconv_Itoa at h0
 split at h0
 ·rename_i hb
  cases h0
  refine (Any.strconv_Itoa lays171 i_0 hb.1 hb.2 w0 (tab_is (by kernel_rfl) hG)).mono fun e w' ⟨he,k,os,hw⟩=>?_
  subst he hw
  exact ⟨⟨rfl,rfl,rfl,by simp,fun kk hk _=>by rw[Sort.heap_grow_old _ _ (by simpa using hk)];rfl⟩,rfl⟩
 ·cases h0
theorem grown_of_putRow {α:Type} [Inhabited α] {f:α→Value} {w:World} {g n:Nat} (d:Array α) {a:Option Addr} (ha:blk a=some g):w.grownBy (Sort.putRow f (Sort.ahead w n) g 0 d) (blk a):=by rw[ha];exact put_grown d
theorem slices_Reverse_sint_int_ok (fuel:Nat) (pa0_0:Option Addr) (pc0_0:Nat) (s_0:List Int) (w0:World) (hpa0_0:Gv.Own (iE .i64) 3 w0 (fun _=>False) pa0_0 pc0_0 s_0) (r0:List Int) (h0:slices_Reverse_sint_int fuel s_0=some r0):
 Calls Tryz.prog 187 ([(.slice pa0_0 (List.length s_0) pc0_0)]:List Value).toArray w0 (Ret fun v w'=>w0.grownBy w' (blk pa0_0)∧v=tup []∧Gv.Own (iE .i64) 3 w' (fun _=>False) pa0_0 pc0_0 r0∧List.length r0=List.length s_0):=by
 unfold slices_Reverse_sint_int at h0
 split at h0
 ·rename_i hb
  cases h0
  rcases own_addr hpa0_0 with ⟨rfl,hs⟩ | ⟨g,rfl⟩
  ·subst hs
   refine (Any.slices_Reverse_int_empty lays112 none pc0_0 w0).mono fun e w' ⟨he,hw⟩=>?_
   subst he hw
   exact ⟨World.grownBy.refl _ _,rfl,hpa0_0,rfl⟩
  ·obtain ⟨hH,hO⟩:=own_turn (h:=Value.int .i64) (m:=id) (fun _=>rfl) hpa0_0
   rw[List.map_id]at hH
   refine (Any.slices_Reverse_int lays112 g 0 pc0_0 s_0 w0 hH hb).mono fun e w' ⟨he,n,hw⟩=>?_
   subst he hw
   have:=hO s_0.reverse n (by simp)
   rw[List.map_id]at this
   exact ⟨put_grown _,rfl,this,by simp⟩
 ·cases h0
theorem slices_Reverse_sstring_string_ok (fuel:Nat) (pa0_0:Option Addr) (pc0_0:Nat) (s_0:List ByteArray) (w0:World) (hpa0_0:Gv.Own sE 9 w0 (fun _=>False) pa0_0 pc0_0 s_0) (r0:List ByteArray) (h0:slices_Reverse_sstring_string fuel s_0=some r0):
 Calls Tryz.prog 160 ([(.slice pa0_0 (List.length s_0) pc0_0)]:List Value).toArray w0 (Ret fun v w'=>w0.grownBy w' (blk pa0_0)∧v=tup []∧Gv.Own sE 9 w' (fun _=>False) pa0_0 pc0_0 r0∧List.length r0=List.length s_0):=by
 unfold slices_Reverse_sstring_string at h0
 split at h0
 ·rename_i hb
  cases h0
  rcases own_addr hpa0_0 with ⟨rfl,hs⟩ | ⟨g,rfl⟩
  ·subst hs
   refine (Any.slices_Reverse_string_empty lays17 none pc0_0 w0).mono fun e w' ⟨he,hw⟩=>?_
   subst he hw
   exact ⟨World.grownBy.refl _ _,rfl,hpa0_0,rfl⟩
  ·obtain ⟨hH,hO⟩:=own_turn (h:=encStr) (m:=bytesOf) (fun _=>rfl) hpa0_0
   have h1:=Any.slices_Reverse_string lays17 g 0 pc0_0 (s_0.map bytesOf) w0 hH (by simpa using hb)
   rw[List.length_map]at h1
   refine h1.mono fun e w' ⟨he,n,hw⟩=>?_
   subst he hw
   have:=hO s_0.reverse n (by simp)
   rw[List.map_reverse]at this
   exact ⟨put_grown _,rfl,this,by simp⟩
 ·cases h0
end Go.Proofs.YtbiopeiafkldiaaGreatDoor
