import Derived.Test.YtmpmeiihjnnomaaGreatDoorGt
import Derived.Test.YtmpmeiihjnnomaaGreatDoorD
import Derived.Lib.ValidLaws
import Derived.Lib.ValidAsc
import Derived.Lib.DecodeNEq
import Derived.Lib.MapLaws
set_option linter.all false
open Go.Gv.Tot renaming ret->aa,bind0->ab,bindq->ac,ite->ak,some_bind->ao
open List renaming length_cons->ad,length_nil->ae,map_cons->af,map_nil->ai,length_append->aj,getD_cons_zero->al,getD_cons_succ->am,cons_append->an,nil_append->ap
open Bool renaming and_eq_true->ag
namespace Go.Gv.R
open Go Go.Gv Go.Gv.D
theorem zzw {x:Int} (h: -4611686018427387904<=x) (h':x<=4611686018427387904):IntKind.i64.wrap x=x:=zmI om om
theorem zu6 {x:Int} (h:0<=x) (h':x<256):IntKind.u8.wrap x=x:=by rw[znE];omega
theorem idx_nat {α:Type} {xs:List α} {i:Nat} (h:i<xs.length):idx xs (i:Int)=some xs[i]:=zi1 om om
theorem zxw (s:ByteArray):s.size=(bytesOf s).length:=by simp[bytesOf]
theorem zyd (l:List UInt8):bytesOf (strOf l)=l:=by simp[bytesOf,strOf]
theorem zxF (s:ByteArray):strOf (bytesOf s)=s:=by cases s;simp[bytesOf,strOf]
theorem zuE (s:ByteArray):s.toList=bytesOf s:=by
 have h:∀ (n i:Nat) (a:List UInt8),s.size-i=n->i<=s.size->ByteArray.toList.loop s i a=a.reverse++(bytesOf s).drop i:=by
  intro n
  induction n with
  | zero=>
    intro i a h1 h2
    unfold ByteArray.toList.loop
    rw[if_neg om,List.drop_of_length_le (by rw[<- zxw];omega),List.append_nil]
  | succ n ih=>
    intro i a h1 h2
    unfold ByteArray.toList.loop
    rw[if_pos om,ih (i+1) _ om om]
    have hl:i<(bytesOf s).length:=by rw[<- zxw];omega
    rw[List.drop_eq_getElem_cons hl]
    have:s.get! i=(bytesOf s)[i]:=by
     have hi:i<s.data.size:=by rw[zxw]at h2;simpa [bytesOf] using hl
     show s.data[i]! =_
     rw[getElem!_pos s.data i hi]
     simp[bytesOf]
    rw[this]
    simp
 have:=h s.size 0 [] om om
 simpa [ByteArray.toList] using this
theorem zuF (a b:ByteArray):(a.toList==b.toList)=decide (a=b):=by
 rw[zuE,zuE]
 by_cases h:a=b
 ·subst h;simp
 ·rw[dff h]
  exact beq_eq_false_iff_ne.2 fun e=>h (by rw[<- zxF a,e,zxF])
theorem zvz (x:UInt8):x.toNat<256:=x.toNat_lt
theorem zmb {p:Nat->Bool} (h:(List.range 256).all p=true) (x:UInt8):p x.toNat=true:=
 List.all_eq_true.1 h _ (List.mem_range.2 (zvz x))
theorem zi8 {s t:ByteArray} (h:s.size+t.size<=9223372036854775807):cat s t=some (s++t):=by unfold cat;rw[if_pos h]
theorem zzC (l:List UInt8):(strOf l).size=l.length:=by rw[zxw,zyd]
theorem zuP {l m:List UInt8} (h:l.length+m.length<=9223372036854775807):cat (strOf l) (strOf m)=some (strOf (l++m)):=by
 rw[zi8 (by rw[zzC,zzC];exact h)]
 congr 1
theorem zmo {l:List UInt8} {i j:Nat} (h:i<=j) (h':j<=l.length):zox (strOf l) (i:Int) (j:Int)=some (strOf ((l.take j).drop i)):=by
 unfold zox
 rw[if_pos ⟨om,om,by rw[zzC];omega⟩]
 congr 1
 apply ByteArray.ext
 simp[strOf,List.drop_take]
def hexT:List UInt8:=[48,49,50,51,52,53,54,55,56,57,97,98,99,100,101,102]
def hx (n:Nat):UInt8:=hexT.getD n 0
theorem zoZ {α:Type} {l:List α} {i:Nat} (h:i<l.length):l.take (i+1)=l.take i++[l[i]]:=by
 rw[List.take_add_one,List.getElem?_eq_getElem h];rfl
def zzK (l:List Nat):List Int:=l.map fun (n:Nat)=>(n:Int)
theorem zzW (l:List Nat):(zzK l).length=l.length:=by simp[zzK]
theorem zs6 (l m:List Nat):zzK (l++m)=zzK l++zzK m:=by simp[zzK]
theorem zlc {l:List Nat} {i:Nat} (h:i<l.length):idx (zzK l) (i:Int)=some ((l[i]:Nat):Int):=by
 rw[idx_nat (by rw[zzW];exact h)]
 simp[zzK]
def hv (x:UInt8):Int:=nIdxB [48,49,50,51,52,53,54,55,56,57,97,98,99,100,101,102] (x.toNat:Int)
def hn (x:UInt8):Nat:=(hv x).toNat
theorem zzL {α:Type} (p:List α) (x:α) (q:List α) {m:Nat} (h:m=p.length):idx (p++x::q) (m:Int)=some x:=by
 subst h
 rw[idx_nat (by simp)]
 simp
theorem zsJ {s:ByteArray} {f:Int × Int} {want:ByteArray} {w:Int × Int} (h:(f,s)=if w.1=0∧4000<want.size then ((3, -1),strOf []) else if w.1≠0 then (w,strOf []) else (w,want)):Tot (fun a=>zy1 a s f want w) (fun r=>r=true):=by
 unfold zy1
 obtain ⟨w1,w2⟩:=w
 dsimp only at h ⊢
 by_cases h1:w1=0
 ·subst h1
  refine ac (P:=fun r=>r=decide ((want.size:Int)>4000)) (Tot.it rfl (aa rfl)) fun r hr=>?_
  subst hr
  by_cases h2:4000<want.size
  ·rw[if_pos ⟨rfl,h2⟩]at h
   obtain ⟨e1,e2⟩:=Prod.mk.inj h
   subst e1 e2
   refine ac (P:=fun r=>r=(3, -1)) (Tot.it (dtt om) (ac (P:=fun r=>r=(3, -1)) (by unfold zz9;exact aa rfl) fun r hr=>aa (by subst hr;rfl))) fun r hr=>?_
   subst hr
   exact Tot.it rfl (ac (P:=fun r=>r=true) (Tot.it rfl (aa (by rw[zuF];exact dtt rfl))) fun r hr=>aa hr)
  ·rw[if_neg (fun h=>h2 h.2),if_neg (fun h=>h rfl)]at h
   obtain ⟨e1,e2⟩:=Prod.mk.inj h
   subst e1 e2
   refine ac (P:=fun r=>r=(0,w2)) (Tot.if_ (dff om) (aa rfl)) fun r hr=>?_
   subst hr
   exact Tot.if_ rfl (ac (P:=fun r=>r=true) (Tot.it (by simp) (aa (by rw[zuF];exact dtt rfl))) fun r hr=>aa hr)
 ·rw[if_neg (fun h=>h1 h.1),if_pos h1]at h
  obtain ⟨e1,e2⟩:=Prod.mk.inj h
  subst e1 e2
  refine ac (P:=fun r=>r=false) (Tot.if_ (beq_eq_false_iff_ne.2 h1) (aa rfl)) fun r hr=>?_
  subst hr
  refine ac (P:=fun r=>r=(w1,w2)) (Tot.if_ rfl (aa rfl)) fun r hr=>?_
  subst hr
  exact Tot.it (bne_iff_ne.2 h1) (ac (P:=fun r=>r=true) (Tot.it (by simp) (aa (by rw[zuF];exact dtt rfl))) fun r hr=>aa hr)
end Go.Gv.R
namespace Go.Gv.R
open Go Go.Gv Go.Gv.D Go.Lib
theorem ztv (t:ByteArray) (i:Nat):t.get! i=(bytesOf t).getD i 0:=by
 show t.data[i]! =t.data.toList.getD i 0
 rw[List.getD_eq_getElem?_getD,Array.getElem?_toList]
 by_cases h:i<t.data.size
 ·rw[getElem!_pos t.data i h,Array.getElem?_eq_getElem h];rfl
 ·rw[getElem!_neg t.data i h,Array.getElem?_eq_none om];rfl
theorem zxM {s:ByteArray} (hs:s.size<=4611686018427387904):Tot (fun a=>utf8_ValidString a s) (fun r=>r=validD (bytesOf s)):=by
 unfold utf8_ValidString
 rw[if_pos om]
 exact aa rfl
theorem zu3 {l:List UInt8} {i:Nat} (h:i<l.length):idx l (i:Int)=some (l.getD i 0):=by
 rw[idx_nat h];simp[h]
def Scal (r:Nat):Prop:=r<55296∨(57343<r∧r<=1114111)
def zwV (r:Nat):List UInt8:=encodeRune (r:Int)
def enc (l:List Nat):List UInt8:=l.flatMap zwV
theorem zuy (r:Nat):1<=(zwV r).length∧(zwV r).length<=4:=by
 have:=encodeRuneZ_length (r:Int)
 unfold zwV encodeRune
 rw[List.length_map];exact this
theorem zvm (r:Nat) (h:Scal r) (t:List UInt8):decodeL (zwV r++t)=(r,(zwV r).length):=by
 rw[decodeL_N]
 unfold zwV encodeRune
 have hb:∀ z:Int,0<=z->z<256->(z.toNat.toUInt8).toNat=z.toNat:=fun z h1 h2=>by
  show (UInt8.ofNat z.toNat).toNat=_
  rw[UInt8.toNat_ofNat',Nat.mod_eq_of_lt om]
 unfold Scal at h
 rcases (by omega:r<=127∨(128<=r∧r<=2047)∨(2048<=r∧r<=65535)∨65536<=r) with c | c | c | c
 ·rw[encodeRuneZ_one om om]
  simp only[af,ai,an,ap,al,am,ad,ae]
  rw[hb _ om om]
  unfold decodeN
  rw[if_pos om];simp
 ·rw[encodeRuneZ_two om om]
  simp only[af,ai,an,ap,al,am,ad,ae]
  rw[hb _ om om,hb _ om om]
  unfold decodeN
  rw[if_neg om,if_pos ⟨om,om,om⟩,if_pos om]
  congr 1;omega
 ·rw[encodeRuneZ_three om]
  simp only[af,ai,an,ap,al,am,ad,ae]
  rw[hb _ om om,hb _ om om,hb _ om om]
  unfold decodeN
  rw[if_neg om,if_neg om,if_pos ⟨om,⟨om,om⟩,om,om⟩,if_pos ⟨om,om⟩]
  congr 1;omega
 ·rw[encodeRuneZ_four om om]
  simp only[af,ai,an,ap,al,am,ad,ae]
  rw[hb _ om om,hb _ om om,hb _ om om,hb _ om om]
  unfold decodeN
  rw[if_neg om,if_neg om,if_neg om,if_pos ⟨om,⟨om,om⟩,⟨om,om⟩,om,om⟩,if_pos ⟨om,om⟩]
  congr 1;omega
theorem zz7 (r:Nat) (l:List Nat):enc (r::l)=zwV r++enc l:=by simp[enc]
theorem zyC (l m:List Nat):enc (l++m)=enc l++enc m:=by simp[enc]
theorem zoc {r:Nat} {l:List Nat}:enc (r::l)≠[]:=by
 have:=zuy r
 rw[zz7]
 intro e
 have:=congrArg List.length e
 rw[aj,ae]at this
 omega
theorem zkQ {r:Nat} (h:Scal r):¬ (r=65533∧(zwV r).length=1):=fun ⟨e,h2⟩=>by
 subst e
 have:(zwV 65533).length=3:=by kernel_rfl
 omega
theorem zti:∀ (l:List Nat),(∀ r∈l,Scal r)->validD (enc l)=true
 | [],_=>rfl
 | r::l,h=>by
   have hr:=h r (by simp)
   rw[validD_step _ zoc,zz7,zvm r hr,if_neg (zkQ hr)]
   rw[List.drop_left]
   exact zti l fun x hx=>h x (by simp[hx])
theorem ztP {l:List UInt8} (hne:l≠[]) (hv:¬ ((decodeL l).1=65533∧(decodeL l).2=1)):Scal (decodeL l).1:=by
 rw[decodeL_N]at*
 have k0:=zvz (l.getD 0 0)
 have k1:=zvz (l.getD 1 0)
 unfold Scal
 rcases decodeN_shape l.length (l.getD 0 0).toNat (l.getD 1 0).toNat (l.getD 2 0).toNat (l.getD 3 0).toNat with ⟨c,e⟩ | ⟨c1,c2,c3,cv,e⟩ | ⟨c1,c2,c3,c4,cv,cs,e⟩ | ⟨c1,c2,c3,c4,c5,cv,cw,e⟩ | e
 ·rw[e];dsimp only;omega
 ·rw[e];dsimp only;omega
 ·rw[e];dsimp only;omega
 ·rw[e];dsimp only;omega
 ·rw[e]at hv;exact absurd ⟨rfl,rfl⟩ hv
theorem zuK:∀ (n:Nat) (l:List UInt8),l.length<=n->validD l=true->∃ p,(∀ r∈p,Scal r)∧l=enc p
 | _,[],_,_=>⟨[],by simp,rfl⟩
 | 0,_::_,h,_=>by simp at h
 | n+1,x::t,h,hv=>by
   have a:x::t≠[]:=by simp
   rw[validD_step _ a]at hv
   split at hv
   ·cases hv
   ·rename_i hb
    have hw:=decodeL_width (x::t)
    obtain ⟨p,hp,e⟩:=zuK n ((x::t).drop (decodeL (x::t)).2) (by rw[List.length_drop];simp only[ad]at h ⊢;omega) hv
    refine ⟨(decodeL (x::t)).1::p,?_,?_⟩
    ·intro r hr
     rcases List.mem_cons.1 hr with h' | h'
     ·rw[h'];exact ztP a hb
     ·exact hp r h'
    ·rw[zz7,<- e,zwV,encode_decode _ a hb,List.take_append_drop]
theorem zrT {l:List UInt8} (h:validD l=true):∃ p,(∀ r∈p,Scal r)∧l=enc p:=zuK _ l (Nat.le_refl _) h
def bad (x:Nat × Nat):Prop:=x.1=65533∧x.2=1
instance (x:Nat × Nat):Decidable (bad x):=inferInstanceAs (Decidable (_∧_))
def U (l:List UInt8):Int × Int:=if bad (decodeL l) then (0,0) else (((decodeL l).1:Int),((decodeL l).2:Int))
theorem zuk {s:List UInt8} {i:Nat} (hs:s.length<=1152921504606846976):Tot (fun a=>zy7 a s (i:Int)) (fun r=>((i<s.length∧(s.getD i 0).toNat/64=2)∧r=(((s.getD i 0).toNat%64:Nat):Int))∨(¬ (i<s.length∧(s.getD i 0).toNat/64=2)∧r= -1)):=by
 unfold zy7
 have hb:=zvz (s.getD i 0)
 refine ac (P:=fun r=>r=decide (i<s.length∧(s.getD i 0).toNat/64=2)) ?_ fun r hr=>?_
 ·refine ak (fun h=>?_) (fun h=>?_)
  ·have h:i<s.length:=by have:((i:Nat):Int)<(s.length:Int):=odt h;omega
   refine ab (zu3 h) (ak (fun h2=>?_) (fun h2=>?_))
   ·have h2:128<=(s.getD i 0).toNat:=by have:((s.getD i 0).toNat:Int)>=128:=odt h2;omega
    refine ab (zu3 h) (aa (decide_eq_decide.2 ⟨fun g=>⟨h,om⟩,fun g=>by have:=g.2;omega⟩))
   ·have h2:¬ 128<=(s.getD i 0).toNat:=by have:¬ ((s.getD i 0).toNat:Int)>=128:=odf h2;omega
    exact aa (dff om).symm
  ·have h:¬ i<s.length:=by have:¬ ((i:Nat):Int)<(s.length:Int):=odf h;omega
   exact aa (dff om).symm
 ·subst hr
  refine ak (fun h=>?_) (fun h=>?_)
  ·have h:=odt h
   refine ab (zu3 h.1) (ao (aa (.inl ⟨h,?_⟩)))
   rw[zzw (x:=((s.getD i 0).toNat:Int)) om om,zzw om om]
   omega
  ·exact aa (.inr ⟨odf h,rfl⟩)
theorem zxj (s:List UInt8) (i k:Nat):(s.drop i).getD k 0=s.getD (i+k) 0:=by
 rw[List.getD_eq_getElem?_getD,List.getD_eq_getElem?_getD,List.getElem?_drop]
theorem zlL {s:List UInt8} {i:Nat} (hi:i<s.length) (hs:s.length<=1152921504606846976):Tot (fun l=>zw3 l s (i:Int)) (fun r=>r=U (s.drop i)):=by
 unfold zw3
 have w1:IntKind.i64.wrap ((i:Int)+1)=((i+1:Nat):Int):=by rw[zzw om om];omega
 have w2:IntKind.i64.wrap ((i:Int)+2)=((i+2:Nat):Int):=by rw[zzw om om];omega
 have w3:IntKind.i64.wrap ((i:Int)+3)=((i+3:Nat):Int):=by rw[zzw om om];omega
 rw[w1,w2,w3]
 unfold U
 rw[decodeL_N,zxj,zxj,zxj,zxj,List.length_drop,Nat.add_zero]
 have b0:=zvz (s.getD i 0)
 have b1:=zvz (s.getD (i+1) 0)
 have b2:=zvz (s.getD (i+2) 0)
 have b3:=zvz (s.getD (i+3) 0)
 refine ab (zu3 hi) (ac (zuk hs) fun r1 h1=>ac (zuk hs) fun r2 h2=>ac (zuk hs) fun r3 h3=>?_)
 rw[zzw (x:=((s.getD i 0).toNat:Int)) om om]
 have e1:(i+1<s.length)=(1<s.length-i):=propext ⟨fun h=>by omega,fun h=>by omega⟩
 have e2:(i+2<s.length)=(2<s.length-i):=propext ⟨fun h=>by omega,fun h=>by omega⟩
 have e3:(i+3<s.length)=(3<s.length-i):=propext ⟨fun h=>by omega,fun h=>by omega⟩
 rw[e1]at h1
 rw[e2]at h2
 rw[e3]at h3
 generalize (s.getD i 0).toNat=x0 at*
 generalize (s.getD (i+1) 0).toNat=x1 at*
 generalize (s.getD (i+2) 0).toNat=x2 at*
 generalize (s.getD (i+3) 0).toNat=x3 at*
 have hn:0<s.length-i:=by omega
 generalize s.length-i=n at*
 clear e1 e2 e3 w1 w2 w3 hi hs
 have c:r1>=0↔(1<n∧x1/64=2):=by rcases h1 with ⟨a,b⟩ | ⟨a,b⟩<;>constructor<;>intro h<;>first | exact a | omega
 have f:r2>=0↔(2<n∧x2/64=2):=by rcases h2 with ⟨a,b⟩ | ⟨a,b⟩<;>constructor<;>intro h<;>first | exact a | omega
 have j:r3>=0↔(3<n∧x3/64=2):=by rcases h3 with ⟨a,b⟩ | ⟨a,b⟩<;>constructor<;>intro h<;>first | exact a | omega
 have v1:r1>=0->r1=((x1%64:Nat):Int):=fun h=>by rcases h1 with ⟨a,b⟩ | ⟨a,b⟩<;>omega
 have v2:r2>=0->r2=((x2%64:Nat):Int):=fun h=>by rcases h2 with ⟨a,b⟩ | ⟨a,b⟩<;>omega
 have v3:r3>=0->r3=((x3%64:Nat):Int):=fun h=>by rcases h3 with ⟨a,b⟩ | ⟨a,b⟩<;>omega
 clear h1 h2 h3
 have nb:∀ {v k:Nat},2<=k->¬ bad (v,k):=fun h ⟨_,h'⟩=>by dsimp only at h';omega
 refine ao (ak (fun g=>?_) (fun g=>?_))
 ·have g:x0<128:=by have:(x0:Int)<128:=odt g;omega
  refine aa ?_
  have hd:decodeN n x0 x1 x2 x3=(x0,1):=by
   unfold decodeN
   rw[if_pos g]
  rw[hd,if_neg (fun h=>by have:=h.1;dsimp only at this;omega)];rfl
 have g:¬ x0<128:=by have:¬ (x0:Int)<128:=odf g;omega
 refine ak (fun q=>?_) (fun q=>?_)
 ·simp only[ag,decide_eq_true_eq]at q
  obtain ⟨q1,q2,q3⟩:=q
  have a1:=c.1 q3
  rw[v1 q3]
  refine ao (aa ?_)
  have hd:decodeN n x0 x1 x2 x3=(x0%32*64+x1%64,2):=by
   unfold decodeN
   rw[if_neg g,if_pos ⟨om,a1⟩,if_pos om]
  rw[hd,if_neg (nb om)]
  rw[zzw (x:=(x0:Int)-192) om om,zzw (x:=((x0:Int)-192)*64) om om,zzw om om]
  refine Prod.ext ?_ rfl
  show ((x0:Int)-192)*64+((x1%64:Nat):Int)=((x0%32*64+x1%64:Nat):Int)
  omega
 have q:¬ (x0>=194∧x0<224∧r1>=0):=fun ⟨h,h',d⟩=>by
  rw[dtt (by omega:(x0:Int)>=194),dtt (by omega:(x0:Int)<224),dtt d]at q;cases q
 refine ac (P:=fun r=>(r= .inr (((decodeN n x0 x1 x2 x3).1:Int),((decodeN n x0 x1 x2 x3).2:Int))∧¬ bad (decodeN n x0 x1 x2 x3))∨(r= .inl ()∧bad (decodeN n x0 x1 x2 x3))) ?_ fun r hr=>?_
 ·refine ak (fun p=>?_) (fun p=>?_)
  ·simp only[ag,decide_eq_true_eq]at p
   obtain ⟨p1,p2,p3,p4⟩:=p
   have a1:=c.1 p3
   have a2:=f.1 p4
   rw[v1 p3,v2 p4]
   have hv:IntKind.i64.wrap (IntKind.i64.wrap (IntKind.i64.wrap (IntKind.i64.wrap ((x0:Int)-224)*4096)+IntKind.i64.wrap (((x1%64:Nat):Int)*64))+((x2%64:Nat):Int))=((x0%16*4096+x1%64*64+x2%64:Nat):Int):=by
    rw[zzw (x:=(x0:Int)-224) om om,zzw (x:=((x0:Int)-224)*4096) om om,zzw (x:=((x1%64:Nat):Int)*64) om om,zzw (x:=((x0:Int)-224)*4096+((x1%64:Nat):Int)*64) om om,zzw om om]
    omega
   rw[hv]
   refine ao (ak (fun w=>?_) (fun w=>?_))
   ·simp only[ag,Bool.or_eq_true,decide_eq_true_eq]at w
    have hd:decodeN n x0 x1 x2 x3=(x0%16*4096+x1%64*64+x2%64,3):=by
     unfold decodeN
     rw[if_neg g,if_neg om,if_pos ⟨om,a1,a2⟩,if_pos ⟨om,om⟩]
    rw[hd]
    exact aa (.inl ⟨rfl,nb om⟩)
   ·have w:¬ (x0%16*4096+x1%64*64+x2%64>=2048∧(x0%16*4096+x1%64*64+x2%64<55296∨x0%16*4096+x1%64*64+x2%64>57343)):=fun ⟨h,h'⟩=>by
     have:(decide (((x0%16*4096+x1%64*64+x2%64:Nat):Int)>=2048)&&(decide (((x0%16*4096+x1%64*64+x2%64:Nat):Int)<55296)||decide (((x0%16*4096+x1%64*64+x2%64:Nat):Int)>57343)))=true:=by
      simp only[ag,Bool.or_eq_true,decide_eq_true_eq];omega
     rw[this]at w;cases w
    have hd:decodeN n x0 x1 x2 x3=(65533,1):=by
     unfold decodeN
     rw[if_neg g,if_neg om,if_pos ⟨om,a1,a2⟩,if_neg om]
    rw[hd]
    exact aa (.inr ⟨rfl,rfl,rfl⟩)
  ·have p:¬ (x0>=224∧x0<240∧r1>=0∧r2>=0):=fun ⟨h,h',d,h3⟩=>by
    rw[dtt (by omega:(x0:Int)>=224),dtt (by omega:(x0:Int)<240),dtt d,dtt h3]at p;cases p
   refine ak (fun o=>?_) (fun o=>?_)
   ·simp only[ag,decide_eq_true_eq]at o
    obtain ⟨p1,p2,p3,p4,p5⟩:=o
    have a1:=c.1 p3
    have a2:=f.1 p4
    have a3:=j.1 p5
    rw[v1 p3,v2 p4,v3 p5]
    have hv:IntKind.i64.wrap (IntKind.i64.wrap (IntKind.i64.wrap (IntKind.i64.wrap (IntKind.i64.wrap ((x0:Int)-240)*262144)+IntKind.i64.wrap (((x1%64:Nat):Int)*4096))+IntKind.i64.wrap (((x2%64:Nat):Int)*64))+((x3%64:Nat):Int))=((x0%8*262144+x1%64*4096+x2%64*64+x3%64:Nat):Int):=by
     rw[zzw (x:=(x0:Int)-240) om om,zzw (x:=((x0:Int)-240)*262144) om om,zzw (x:=((x1%64:Nat):Int)*4096) om om,zzw (x:=((x2%64:Nat):Int)*64) om om,zzw (x:=((x0:Int)-240)*262144+((x1%64:Nat):Int)*4096) om om,zzw (x:=((x0:Int)-240)*262144+((x1%64:Nat):Int)*4096+((x2%64:Nat):Int)*64) om om,zzw om om]
     omega
    rw[hv]
    refine ao (ak (fun w=>?_) (fun w=>?_))
    ·simp only[ag,decide_eq_true_eq]at w
     have hd:decodeN n x0 x1 x2 x3=(x0%8*262144+x1%64*4096+x2%64*64+x3%64,4):=by
      unfold decodeN
      rw[if_neg g,if_neg om,if_neg om,if_pos ⟨om,a1,a2,a3⟩,if_pos ⟨om,om⟩]
     rw[hd]
     exact aa (.inl ⟨rfl,nb om⟩)
    ·have w:¬ (x0%8*262144+x1%64*4096+x2%64*64+x3%64>=65536∧x0%8*262144+x1%64*4096+x2%64*64+x3%64<=1114111):=fun ⟨h,h'⟩=>by
      rw[dtt (by omega:((x0%8*262144+x1%64*4096+x2%64*64+x3%64:Nat):Int)>=65536),dtt (by omega:((x0%8*262144+x1%64*4096+x2%64*64+x3%64:Nat):Int)<=1114111)]at w;cases w
     have hd:decodeN n x0 x1 x2 x3=(65533,1):=by
      unfold decodeN
      rw[if_neg g,if_neg om,if_neg om,if_pos ⟨om,a1,a2,a3⟩,if_neg om]
     rw[hd]
     exact aa (.inr ⟨rfl,rfl,rfl⟩)
   ·have o:¬ (x0>=240∧x0<245∧r1>=0∧r2>=0∧r3>=0):=fun ⟨h,h',d,h3,h4⟩=>by
     rw[dtt (by omega:(x0:Int)>=240),dtt (by omega:(x0:Int)<245),dtt d,dtt h3,dtt h4]at o;cases o
    have hd:decodeN n x0 x1 x2 x3=(65533,1):=by
     rw[c]at q
     rw[c,f]at p
     rw[c,f,j]at o
     unfold decodeN
     repeat' split
     all_goals first | rfl | (exfalso;omega)
    rw[hd]
    exact aa (.inr ⟨rfl,rfl,rfl⟩)
 ·rcases hr with ⟨e,h⟩ | ⟨e,h⟩
  ·subst e
   rw[if_neg h]
   exact Tot.contr rfl
  ·subst e
   rw[if_pos h]
   exact Tot.contl (aa rfl)
theorem znL:∀ {p q:List Nat},(∀ r∈p,Scal r)->(∀ r∈q,Scal r)->enc p=enc q->p=q
 | [],[],_,_,_=>rfl
 | [],r::q,_,_,e=>absurd e.symm zoc
 | r::p,[],_,_,e=>absurd e zoc
 | r::p,r'::q,hp,hq,e=>by
   have h1:=zvm r (hp r (by simp)) (enc p)
   have h2:=zvm r' (hq r' (by simp)) (enc q)
   rw[<- zz7]at h1 h2
   rw[e,h2]at h1
   have e1:=(Prod.mk.inj h1).1
   subst e1
   rw[zz7,zz7]at e
   rw[znL (fun x hx=>hp x (by simp[hx])) (fun x hx=>hq x (by simp[hx])) (List.append_cancel_left e)]
theorem zwc (p:List Nat):p.length<=(enc p).length:=by
 induction p with
 | nil=>simp
 | cons r p ih=>
   have:=zuy r
   rw[zz7,aj,ad];omega
theorem zsv {s_0:ByteArray} (hs:s_0.size<=1048576):Tot (fun f=>zyG f s_0) (fun r=>(validD (bytesOf s_0)=false∧r=([],false))∨∃ p,(∀ r∈p,Scal r)∧bytesOf s_0=enc p∧r=(zzK p,true)):=by
 unfold zyG
 have k:=zxw s_0
 rw[k]at hs ⊢
 generalize bytesOf s_0=L at hs ⊢
 refine ac (P:=fun r=>(validD L=false∧r= .inr ([],false))∨∃ p,(∀ r∈p,Scal r)∧L=enc p∧r= .inl (zzK p)) ?_ fun r hr=>?_
 ·refine Tot.loop (fun st=>∃ p t,(∀ r∈p,Scal r)∧L=enc p++t∧validD t=validD L∧st.2=((enc p).length:Int)∧st.1=zzK p) (fun st=>L.length-st.2.toNat) ⟨[],L,by simp,rfl,rfl,rfl,rfl⟩ fun st ⟨p,t,hp,hL,hv,e,g⟩=>?_
  obtain ⟨out,a⟩:=st
  simp only at e g
  subst e g
  dsimp only
  have l:L.length=(enc p).length+t.length:=by rw[hL,aj]
  refine ak (fun h=>?_) (fun h=>?_)
  ·have h:0<t.length:=by have:(((enc p).length:Nat):Int)<(L.length:Int):=odt h;omega
   have d:t≠[]:=List.length_pos_iff.1 h
   refine ac (zlL om om) fun r hr=>?_
   have hd:L.drop (enc p).length=t:=by rw[hL,List.drop_left]
   rw[hd]at hr
   have hw:=decodeL_width t
   have hle:=decodeL_le t d
   have c:=validD_step t d
   by_cases hb:bad (decodeL t)
   ·have hu:r=(0,0):=by rw[hr];unfold U;rw[if_pos hb]
    subst hu
    rw[if_pos (show (decodeL t).1=65533∧(decodeL t).2=1 from hb)]at c
    exact Tot.it rfl (aa (.inl ⟨by rw[<- hv,c],rfl⟩))
   ·have hu:r=(((decodeL t).1:Int),((decodeL t).2:Int)):=by rw[hr];unfold U;rw[if_neg hb]
    subst hu
    rw[if_neg (show ¬ ((decodeL t).1=65533∧(decodeL t).2=1) from hb)]at c
    refine Tot.if_ (beq_eq_false_iff_ne.2 (by dsimp only;omega)) ?_
    have hpl:=zwc p
    refine ab (zq8 (by rw[zzW];simp only[ad,ae];omega)) (aa ?_)
    have j:=ztP d hb
    have b:zwV (decodeL t).1=t.take (decodeL t).2:=encode_decode t d hb
    have i:IntKind.i64.wrap (((enc p).length:Int)+((decodeL t).2:Int))=(((enc (p++[(decodeL t).1])).length:Nat):Int):=by
     rw[zzw om om,zyC,aj,show enc [(decodeL t).1]=zwV (decodeL t).1 by simp[enc],b,List.length_take]
     omega
    refine ⟨⟨p++[(decodeL t).1],t.drop (decodeL t).2,?_,?_,by rw[<- c,hv],i,?_⟩,?_⟩
    ·intro x hx
     rcases List.mem_append.1 hx with h' | h'
     ·exact hp x h'
     ·rw[List.mem_singleton.1 h'];exact j
    ·rw[zyC,show enc [(decodeL t).1]=zwV (decodeL t).1 by simp[enc],b,List.append_assoc,List.take_append_drop,hL]
    ·exact (zs6 _ [_]).symm
    ·show L.length-(IntKind.i64.wrap (((enc p).length:Int)+((decodeL t).2:Int))).toNat<L.length-(((enc p).length:Nat):Int).toNat
     rw[zzw om om];omega
  ·have h:t=[]:=List.length_eq_zero_iff.1 (by have:¬ (((enc p).length:Nat):Int)<(L.length:Int):=odf h;omega)
   subst h
   exact aa (.inr ⟨p,hp,by rw[hL,List.append_nil],rfl⟩)
 ·rcases hr with ⟨h,e⟩ | ⟨p,hp,h,e⟩
  ·subst e;exact Tot.contr (.inl ⟨h,rfl⟩)
  ·subst e;exact Tot.contl (aa (.inr ⟨p,hp,h,rfl⟩))
theorem zqu (s:ByteArray) (i:Nat):Utf8.decode s i=decodeL ((bytesOf s).drop i):=by
 rw[decode_at,decodeL_N,zxj,zxj,zxj,zxj,List.length_drop,ztv,ztv,ztv,ztv,zxw]
 simp only[Nat.add_zero]
theorem zmq {s:ByteArray} {p t:List Nat} {r:Nat} (hr:Scal r) (h:bytesOf s=enc (p++r::t)):zqV s (enc p).length=(r:Int)∧zsA s (enc p).length=(zwV r).length:=by
 unfold zqV zsA
 rw[zqu,h,zyC,List.drop_left,zz7,zvm r hr]
 exact ⟨rfl,rfl⟩
def znD (c:Int) (r:Nat):List UInt8:=
 if c=0 then zwV r else if c=1 then [UInt8.ofNat r] else if r<65536 then [UInt8.ofNat (r/256),UInt8.ofNat (r%256)]
 else [UInt8.ofNat (216+(r-65536)/1024/256),UInt8.ofNat ((r-65536)/1024%256),UInt8.ofNat (220+(r-65536)%1024/256),UInt8.ofNat ((r-65536)%1024%256)]
def znp (c:Int) (p:List Nat):List UInt8:=p.flatMap (znD c)
theorem znc (c:Int) (r:Nat):(znD c r).length<=4:=by
 unfold znD
 have:=zuy r
 repeat' split
 all_goals first | omega | (simp only[ad,ae];omega)
theorem zoF (c:Int) (p:List Nat):(znp c p).length<=4*p.length:=by
 induction p with
 | nil=>simp[znp]
 | cons r p ih=>
   have:=znc c r
   unfold znp at*
   rw[List.flatMap_cons,aj,ad];omega
theorem zpF (p:List Nat):znp 0 p=enc p:=by
 have:znD 0=zwV:=by funext r;unfold znD;rw[if_pos rfl]
 unfold znp enc
 rw[this]
theorem ziz (z:Int):u8 (IntKind.u8.wrap z)=some (UInt8.ofNat (z%256).toNat):=by
 rw[znE]
 unfold u8
 rw[if_pos om]
theorem zt3 {z:Int} {n:Nat} (h:z=(n:Int)):u8 (IntKind.u8.wrap z)=some (UInt8.ofNat n):=by
 rw[ziz]
 congr 1
 apply UInt8.toNat.inj
 rw[UInt8.toNat_ofNat',UInt8.toNat_ofNat']
 omega
theorem iw {x:Int} {n:Nat} (h:x=(n:Int)) (h':n<4611686018427387904):IntKind.i64.wrap x=(n:Int):=by rw[h,zzw om om]
theorem zyb (p:List Nat):(enc p).length<=4*p.length:=by rw[<- zpF];exact zoF 0 p
theorem zsV (p:List Nat) (r:Nat):enc (p++[r])=enc p++zwV r:=by rw[zyC];simp[enc]
theorem toU8 (n:Nat):((n:Int).toNat.toUInt8)=UInt8.ofNat n:=by rw[Int.toNat_natCast]
theorem zqk {r:Nat} (h:r<=127):zwV r=[UInt8.ofNat r]:=by
 unfold zwV encodeRune
 rw[encodeRuneZ_one om om]
 simp only[af,ai,toU8]
theorem znN {r:Nat} (h:128<=r) (h':r<=2047):zwV r=[UInt8.ofNat (192+r/64),UInt8.ofNat (128+r%64)]:=by
 unfold zwV encodeRune
 rw[encodeRuneZ_two om om,show 192+(r:Int)/64=((192+r/64:Nat):Int) by omega,show 128+(r:Int)%64=((128+r%64:Nat):Int) by omega]
 simp only[af,ai,toU8]
theorem zoH {r:Nat} (h:2048<=r) (h':r<=65535) (hs:Scal r):zwV r=[UInt8.ofNat (224+r/4096),UInt8.ofNat (128+r/64%64),UInt8.ofNat (128+r%64)]:=by
 unfold Scal at hs
 unfold zwV encodeRune
 rw[encodeRuneZ_three om,show 224+(r:Int)/4096=((224+r/4096:Nat):Int) by omega,show 128+(r:Int)/64%64=((128+r/64%64:Nat):Int) by omega,show 128+(r:Int)%64=((128+r%64:Nat):Int) by omega]
 simp only[af,ai,toU8]
theorem zo5 {r:Nat} (h:65536<=r) (h':r<=1114111):zwV r=[UInt8.ofNat (240+r/262144),UInt8.ofNat (128+r/4096%64),UInt8.ofNat (128+r/64%64),UInt8.ofNat (128+r%64)]:=by
 unfold zwV encodeRune
 rw[encodeRuneZ_four om om,show 240+(r:Int)/262144=((240+r/262144:Nat):Int) by omega,show 128+(r:Int)/4096%64=((128+r/4096%64:Nat):Int) by omega,show 128+(r:Int)/64%64=((128+r/64%64:Nat):Int) by omega,show 128+(r:Int)%64=((128+r%64:Nat):Int) by omega]
 simp only[af,ai,toU8]
theorem td {a:Nat} (k:Nat) (h:a<4611686018427387904):IntKind.i64.wrap ((a:Int).tdiv (k:Int))=((a/k:Nat):Int):=by
 have:a/k<=a:=Nat.div_le_self ..
 rw[Int.tdiv_eq_ediv_of_nonneg om]
 exact iw (by simp) om
theorem tm (a k:Nat):(a:Int).tmod (k:Int)=((a%k:Nat):Int):=by
 rw[Int.tmod_eq_emod_of_nonneg om];simp
theorem zm1 (a b:Nat) (h:a+b<4611686018427387904):IntKind.i64.wrap ((a:Int)+(b:Int))=((a+b:Nat):Int):=iw om h
theorem zqP {p:List Nat} (hp:∀ r∈p,Scal r) (hl:p.length<=1000000000):Tot (fun f=>zxm f (zzK p)) (fun r=>r=enc p):=by
 unfold zxm
 refine ac (P:=fun r=>r=enc p) ?_ fun r hr=>aa hr
 refine Tot.loop (fun st=>∃ i:Nat,st.2=(i:Int)∧i<=p.length∧st.1=enc (p.take i)) (fun st=>p.length-st.2.toNat) ⟨0,rfl,om,rfl⟩ fun st ⟨i,e,hi,g⟩=>?_
 obtain ⟨out,q⟩:=st
 simp only at e g
 subst e g
 dsimp only
 rw[zzW]
 refine ak (fun h=>?_) (fun h=>?_)
 ·have hq:i<p.length:=by have:((i:Nat):Int)<(p.length:Int):=odt h;omega
  have hr:=hp _ (List.getElem_mem hq)
  have b:=zyb (p.take i)
  rw[List.length_take]at b
  refine ab (zlc hq) ?_
  refine ac (P:=fun r=>r=enc (p.take (i+1))) ?_ fun r hr=>?_
  ·rw[zoZ hq,zsV]
   have d:=hr
   have j:p[i]<=1114111:=by unfold Scal at hr;omega
   clear hr
   generalize p[i]=r at d j
   generalize enc (p.take i)=A at b
   have a:∀ y:List UInt8,y.length<=4->app A y=some (A++y):=fun y hy=>zq8 om
   refine ak (fun c=>?_) (fun c=>?_)
   ·have c:r<128:=by have:(r:Int)<128:=odt c;omega
    rw[zqk om]
    exact ab (zt3 rfl) (ab (a _ (by simp)) (aa rfl))
   have c:¬ r<128:=by have:¬ (r:Int)<128:=odf c;omega
   refine ak (fun c2=>?_) (fun c2=>?_)
   ·have c2:r<2048:=by have:(r:Int)<2048:=odt c2;omega
    rw[znN om om,show (64:Int)=((64:Nat):Int) from rfl,td 64 om,tm,show (192:Int)=((192:Nat):Int) from rfl,show (128:Int)=((128:Nat):Int) from rfl,zm1 192 _ om,zm1 128 _ om]
    exact ab (zt3 rfl) (ab (zt3 rfl) (ab (a _ (by simp)) (aa rfl)))
   have c2:¬ r<2048:=by have:¬ (r:Int)<2048:=odf c2;omega
   refine ak (fun c3=>?_) (fun c3=>?_)
   ·have c3:r<65536:=by have:(r:Int)<65536:=odt c3;omega
    rw[zoH om om d,show (64:Int)=((64:Nat):Int) from rfl,show (4096:Int)=((4096:Nat):Int) from rfl,td 64 om,td 4096 om,tm,tm,show (224:Int)=((224:Nat):Int) from rfl,show (128:Int)=((128:Nat):Int) from rfl,zm1 224 _ om,zm1 128 _ om,zm1 128 _ om]
    exact ab (zt3 rfl) (ab (zt3 rfl) (ab (zt3 rfl) (ab (a _ (by simp)) (aa rfl))))
   ·have c3:¬ r<65536:=by have:¬ (r:Int)<65536:=odf c3;omega
    rw[zo5 om om,show (64:Int)=((64:Nat):Int) from rfl,show (4096:Int)=((4096:Nat):Int) from rfl,show (262144:Int)=((262144:Nat):Int) from rfl,td 64 om,td 4096 om,td 262144 om,tm,tm,tm,show (240:Int)=((240:Nat):Int) from rfl,show (128:Int)=((128:Nat):Int) from rfl,zm1 240 _ om,zm1 128 _ om,zm1 128 _ om,zm1 128 _ om]
    exact ab (zt3 rfl) (ab (zt3 rfl) (ab (zt3 rfl) (ab (zt3 rfl) (ab (a _ (by simp)) (aa rfl)))))
  ·subst hr
   refine aa ⟨⟨i+1,?_,hq,rfl⟩,?_⟩
   ·exact iw om om
   ·show p.length-(IntKind.i64.wrap ((i:Int)+1)).toNat<p.length-((i:Nat):Int).toNat
    rw[iw (n:=i+1) om om];omega
 ·have h:i=p.length:=by have:¬ ((i:Nat):Int)<(p.length:Int):=odf h;omega
  subst h
  exact aa (by rw[List.take_length])
theorem zvl {p:List Nat} (hp:∀ r∈p,Scal r) (hl:p.length<=1000000000):Tot (fun a=>zzD a (zzK p)) (fun r=>r=strOf (enc p)):=by
 unfold zzD
 exact ac (zqP hp hl) fun r hr=>aa (by rw[hr])
end Go.Gv.R
namespace Go.Gv.P
open Go Go.Gv Go.Gv.D Go.Gv.R
set_option maxRecDepth 100000
def valN (acc:Nat):List UInt8->Nat
 | []=>acc
 | c::r=>valN (10*acc+(c.toNat-48)) r
end Go.Gv.P
namespace Go.Gv.R
open Go Go.Gv Go.Gv.D Go.Gv.P Go.Lib
set_option maxRecDepth 100000
theorem zok {l:List UInt8} {i:Nat} (h:i<l.length):zpB (strOf l) (i:Int)=some ((l.getD i 0).toNat:Int):=by
 unfold zpB strOf
 rw[if_pos om]
 simp[h]
end Go.Gv.R
namespace Go.Gv.P
open Go Go.Gv Go.Gv.D Go.Gv.R Go.Lib
set_option maxRecDepth 100000
theorem zmE {c:Nat} (h:Scal c) (r:List Nat):∃ b t,enc (c::r)=b::t∧(c<128->b=UInt8.ofNat c∧t=enc r)∧(128<=c->128<=b.toNat):=by
 rw[zz7]
 have hs:c<=1114111:=by unfold Scal at h;omega
 have tn:∀ k,k<256->(UInt8.ofNat k).toNat=k:=fun k hk=>by simp[UInt8.toNat_ofNat',Nat.mod_eq_of_lt hk]
 rcases Nat.lt_or_ge c 128 with h1 | h1
 ·rw[zqk om]
  exact ⟨_,_,rfl,fun _=>⟨rfl,rfl⟩,fun h=>by omega⟩
 rcases Nat.lt_or_ge c 2048 with h2 | h2
 ·rw[znN h1 om]
  exact ⟨_,_,rfl,fun h=>by omega,fun _=>by rw[tn _ om];omega⟩
 rcases Nat.lt_or_ge c 65536 with h3 | h3
 ·rw[zoH h2 om h]
  exact ⟨_,_,rfl,fun h=>by omega,fun _=>by rw[tn _ om];omega⟩
 ·rw[zo5 h3 hs]
  exact ⟨_,_,rfl,fun h=>by omega,fun _=>by rw[tn _ om];omega⟩
theorem zrW {c:Nat} (h:c<128):(UInt8.ofNat c).toNat=c:=by simp[UInt8.toNat_ofNat',Nat.mod_eq_of_lt (show c<256 by omega)]
theorem zky {b:UInt8} {t:List UInt8}:((strOf (b::t)).toList==(strOf []).toList)=false:=by
 rw[zuF]
 refine dff fun e=>?_
 have:=congrArg bytesOf e
 rw[zyd,zyd]at this
 cases this
theorem zsH:((strOf []).toList==(strOf []).toList)=true:=by rw[zuF];exact dtt rfl
theorem sidx0 (b:UInt8) (t:List UInt8):zpB (strOf (b::t)) 0=some (b.toNat:Int):=by
 have:=zok (l:=b::t) (i:=0) (by simp)
 simpa using this
theorem tail1 {b:UInt8} {t:List UInt8}:zox (strOf (b::t)) 1 (((strOf (b::t)).size:Nat):Int)=some (strOf t):=by
 rw[zzC]
 have:=zmo (l:=b::t) (i:=1) (j:=(b::t).length) (by simp) (Nat.le_refl _)
 rw[List.take_length]at this
 exact this
end Go.Gv.P
namespace Go.Gv.P
open Go Go.Gv Go.Gv.D Go.Gv.R Go.Lib
set_option maxRecDepth 100000
def dgN (c:Nat):Bool:=decide (48<=c)&&decide (c<=57)
def twN (l:List Nat):List Nat:=l.takeWhile dgN
def dwN (l:List Nat):List Nat:=l.dropWhile dgN
def nb:List Nat->Int × List Nat
 | []=>(-1,[])
 | c::r=>if c=48 then (0,r) else if dgN c=true then (((min (valN 0 (enc (twN (c::r)))) 401:Nat):Int),dwN (c::r)) else (-1,c::r)
end Go.Gv.P
