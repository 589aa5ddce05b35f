import Derived.Test.YtbiopeiafkldiaaGreatDoorU1
set_option linter.all false
open Go.Gv.Tot renaming ret→aa,bindq→ab,bind0→ae,some_bind→ag,ite→aj,if_→ak,it→an
open List renaming length_append→ac,mem_cons_self→ad,takeWhile_cons→af,suffix_refl→ah,take_length→am,mem_cons_of_mem→ao
open Nat renaming lt_or_ge→ai
open Bool renaming and_eq_true→al
namespace Go.Gv.R
open Go Go.Gv Go.Gv.D Go.Lib
/-! Own work: runes of texts. -/
def okS (s:ByteArray):Bool:=validD (bytesOf s)&&decide (s.size≤4000)
theorem okS_text {s:ByteArray} (h:okS s=true):∃ p,(∀ r∈p,Scal r)∧s=strOf (enc p)∧(enc p).length≤4000:=by
 unfold okS at h
 rw[al]at h
 obtain ⟨p,hp,e⟩:=valid_iff h.1
 have h2:=odt h.2
 refine ⟨p,hp,?_,?_⟩
 ·rw[← e,str_bytes]
 ·rw[← e,← size_bytes];exact h2
def ptsOf (s:ByteArray) (r:List Int × Bool):Prop:=(validD (bytesOf s)=false∧r=([],false))∨∃ p,(∀ r∈p,Scal r)∧s=strOf (enc p)∧r=(ints p,true)
theorem points_any {s:ByteArray} (hs:s.size≤1048576):Tot (fun fuel=>ref4_Points fuel s) (ptsOf s):=
 (Points_tot hs).mono fun r hr=>hr.imp (fun h=>h) fun ⟨p,h1,h2,h3⟩=>⟨p,h1,by rw[← h2,str_bytes],h3⟩
theorem str_enc_inj {p q:List Nat} (hp:∀ r∈p,Scal r) (hq:∀ r∈q,Scal r) (h:strOf (enc p)=strOf (enc q)):p=q:=by
 have:=congrArg bytesOf h
 rw[bytes_str,bytes_str]at this
 exact enc_inj hp hq this
theorem points_enc {p:List Nat} (hp:∀ r∈p,Scal r) (hl:(enc p).length≤1048576):Tot (fun fuel=>ref4_Points fuel (strOf (enc p))) (· =(ints p,true)):=by
 refine (points_any (by rw[size_str];exact hl)).mono fun r hr=>?_
 rcases hr with ⟨h,_⟩ | ⟨q,hq,e,h⟩
 ·rw[bytes_str,valid_enc p hp]at h;cases h
 ·rw[h,str_enc_inj hp hq e]
theorem scal_i32 {r:Nat} (h:Scal r):r≤1114111:=by rcases h with h | h<;>omega
theorem encode_str {r:Nat} (h:Scal r):Utf8.encode (r:Int)=strOf (encR r):=by
 have hv:Utf8.valid (r:Int)=true:=by
  unfold Utf8.valid
  rcases h with h | ⟨h1,h2⟩
  ·rw[dtt (show (0:Int)≤(r:Int) by omega),dtt (show (r:Int)<0xD800 by omega)];rfl
  ·rw[dtt (show (0xE000:Int)≤(r:Int) by omega),dtt (show (r:Int)≤0x10FFFF by omega),Bool.and_true,Bool.or_true]
 have hs:=scal_i32 h
 unfold Utf8.encode
 simp only[hv,if_true,Int.toNat_natCast]
 by_cases h1:r<0x80
 ·rw[if_pos h1,encR1 om];rfl
 ·rw[if_neg h1]
  by_cases h2:r<0x800
  ·rw[if_pos h2,encR2 om om];rfl
  ·rw[if_neg h2]
   by_cases h3:r<0x10000
   ·rw[if_pos h3,encR3 om om h];rfl
   ·rw[if_neg h3,encR4 om hs];rfl
theorem strR_fold:∀ (p:List Nat) (l:List UInt8),(∀ r∈p,Scal r)→(ints p).foldl (fun r n=>r++Utf8.encode n) (strOf l)=strOf (l++enc p)
 | [],l,_=>by simp[ints,enc]
 | c::p,l,h=>by
   have hc:=h c (ad ..)
   show (ints p).foldl _ (strOf l++Utf8.encode (c:Int))=_
   rw[encode_str hc,show strOf l++strOf (encR c)=strOf (l++encR c) from Option.some.inj (by have h:=cat_str (l:=l) (m:=encR c);unfold cat at h;by_cases hl:l.length+(encR c).length≤9223372036854775807<;>first | (have:=h hl;rwa [if_pos (by rw[size_str,size_str];exact hl)]at this) | rfl),strR_fold p _ (fun r hr=>h r (ao _ hr)),enc_cons,List.append_assoc]
theorem strR_ints {p:List Nat} (h:∀ r∈p,Scal r):strR (ints p)=strOf (enc p):=by
 have:=strR_fold p [] h
 rw[List.nil_append]at this
 exact this
theorem rnF_enc:∀ (b a p:List Nat) (n:Nat),(∀ r∈p,Scal r)→p=a++b→(enc b).length≤n→rnF (strOf (enc p)) n (enc a).length=ints b
 | [],a,p,n,_,e,_=>by
   rw[List.append_nil]at e;subst e
   cases n with
   | zero=>rfl
   | succ n=>unfold rnF;rw[if_neg (by rw[size_str];omega)];rfl
 | c::b,a,p,n,hp,e,hn=>by
   have hc:Scal c:=hp c (by rw[e];simp)
   have hcp:=encR_pos c
   rw[enc_cons,ac]at hn
   obtain ⟨n,rfl⟩:∃ m,n=m+1:=⟨n-1,om⟩
   obtain ⟨hr1,hr2⟩:=rune_at (s:=strOf (enc p)) (p:=a) (t:=b) hc (by rw[bytes_str,e])
   unfold rnF
   rw[if_pos (by rw[size_str,e,enc_app,enc_cons,ac,ac];omega),hr1,hr2]
   have:=rnF_enc b (a++[c]) p n hp (by rw[e];simp) om
   rw[enc_snoc,ac]at this
   rw[this];rfl
theorem rn_enc {p:List Nat} (h:∀ r∈p,Scal r) (hl:(enc p).length≤1048576):rn (strOf (enc p))=some (ints p):=by
 unfold rn
 rw[if_pos (by rw[size_str];omega)]
 have:=rnF_enc p [] p (strOf (enc p)).size h rfl (by rw[size_str];omega)
 exact congrArg some this
theorem RuneCount_tot {p:List Nat} (h:∀ r∈p,Scal r) (hl:(enc p).length≤1048576):Tot (fun n=>utf8_RuneCountInString n (strOf (enc p))) (· =(p.length:Int)):=by
 unfold utf8_RuneCountInString
 simp only[size_str]
 refine ab (P:=fun j=>j=(p.length:Int)) ?_ fun j hj=>aa hj
 refine Tot.loop (fun st=>∃ a b,p=a++b∧st=((a.length:Int),(enc a).length)) (fun st=>(enc p).length+1-st.2) ⟨[],p,rfl,rfl⟩ fun st ⟨a,b,e,hst⟩=>?_
 subst hst
 dsimp only
 cases b with
 | nil=>
   rw[List.append_nil]at e;subst e
   exact ak (dff om) (aa rfl)
 | cons c b=>
   have hc:Scal c:=h c (by rw[e];simp)
   have hlen:(enc p).length=(enc a).length+(encR c).length+(enc b).length:=by rw[e,enc_app,enc_cons,ac,ac];omega
   have hcp:=encR_pos c
   have hal:=enc_len_ge a
   refine an (dtt om) ?_
   obtain ⟨hr1,hr2⟩:=rune_at (s:=strOf (enc p)) (p:=a) (t:=b) hc (by rw[bytes_str,e])
   rw[hr2]
   refine aa ⟨⟨a++[c],b,by rw[e];simp,?_⟩,by dsimp only;omega⟩
   rw[iw (n:=a.length+1) om om,enc_snoc,ac,ac];rfl
/-! the reference's searches over lists -/
end Go.Gv.R
namespace Go.Gv.P
open Go Go.Gv Go.Gv.D Go.Gv.R
set_option maxRecDepth 100000
/-! ### numerals, codes -/
def dg (b:UInt8):Bool:=decide (48≤b.toNat)&&decide (b.toNat≤57)
def valN (acc:Nat):List UInt8→Nat
 | []=>acc
 | c::r=>valN (10*acc+(c.toNat-48)) r
theorem valN_ge:∀ (l:List UInt8) (acc:Nat),acc≤valN acc l
 | [],_=>Nat.le_refl _
 | c::r,acc=>by
   have:=valN_ge r (10*acc+(c.toNat-48))
   show acc≤valN (10*acc+(c.toNat-48)) r
   omega
theorem valN_snoc:∀ (l:List UInt8) (acc:Nat) (c:UInt8),valN acc (l++[c])=10*valN acc l+(c.toNat-48)
 | [],_,_=>rfl
 | d::r,acc,c=>valN_snoc r (10*acc+(d.toNat-48)) c
theorem parse_dg:∀ (l:List UInt8) (acc:Nat),(∀ b∈l,dg b=true)→Lib.parseUint10 acc l= .ok (valN acc l)∨(Lib.parseUint10 acc l= .range∧9223372036854775808≤valN acc l)
 | [],acc,_=>.inl rfl
 | c::r,acc,h=>by
   have hc:48≤c.toNat∧c.toNat≤57:=by
    have:=h c (ad ..)
    simpa [dg] using this
   have hg:=valN_ge r (10*acc+(c.toNat-48))
   have e:Lib.parseUint10 acc (c::r)=if 1844674407370955162≤acc then .range else if 18446744073709551616≤acc*10+(c.toNat-48) then .range else Lib.parseUint10 (acc*10+(c.toNat-48)) r:=by
    rw[Lib.parseUint10,if_pos hc]
   rw[e]
   show _∨(_∧9223372036854775808≤valN (10*acc+(c.toNat-48)) r)
   by_cases h1:1844674407370955162≤acc
   ·rw[if_pos h1]
    exact .inr ⟨rfl,om⟩
   rw[if_neg h1]
   by_cases h2:18446744073709551616≤acc*10+(c.toNat-48)
   ·rw[if_pos h2]
    exact .inr ⟨rfl,om⟩
   rw[if_neg h2,Nat.mul_comm]
   exact parse_dg r _ fun b hb=>h b (ao _ hb)
theorem atoi_dg {l:List UInt8} (h:∀ b∈l,dg b=true) (hl:l≠[]):(Lib.atoiAll l= .ok (valN 0 l:Int))∨(Lib.atoiAll l= .range∧9223372036854775808≤valN 0 l):=by
 cases l with
 | nil=>exact absurd rfl hl
 | cons c r=>
   have hc:48≤c.toNat∧c.toNat≤57:=by
    have:=h c (ad ..)
    simpa [dg] using this
   have hm:Lib.parseMag (c::r)=Lib.parseUint10 0 (c::r):=by unfold Lib.parseMag;rw[if_neg (by simp)]
   unfold Lib.atoiAll
   simp only
   rw[if_neg (show ¬ (c.toNat=43∨c.toNat=45) by omega),hm]
   rcases parse_dg (c::r) 0 h with e | ⟨e,e2⟩
   ·rw[e]
    simp only
    have hn:¬ c.toNat=45:=by omega
    by_cases hb:9223372036854775808≤valN 0 (c::r)
    ·rw[if_pos ⟨hn,hb⟩]
     exact .inr ⟨rfl,hb⟩
    ·rw[if_neg om,if_neg om]
     rw[if_neg hn];exact .inl rfl
   ·rw[e]
    exact .inr ⟨rfl,e2⟩
theorem tens (x:UInt8):([48,49,50,51,52,53,54,55,56,57]:List UInt8).contains x=dg x:=
 by
  have:=beq_iff_eq.1 (byte_all (p:=fun n=>([48,49,50,51,52,53,54,55,56,57]:List UInt8).contains n.toUInt8==(decide (48≤n)&&decide (n≤57))) (by kernel_rfl) x)
  rw[show x.toNat.toUInt8=x from UInt8.ofNat_toNat]at this
  exact this
def tw (L:List UInt8):List UInt8:=L.takeWhile dg
def dw (L:List UInt8):List UInt8:=L.dropWhile dg
theorem tw_dw (L:List UInt8):tw L++dw L=L:=List.takeWhile_append_dropWhile
theorem tw_dg (L:List UInt8):∀ b∈tw L,dg b=true:=fun b hb=>by
 have:∀ (M:List UInt8),∀ b∈M.takeWhile dg,dg b=true:=by
  intro M
  induction M with
  | nil=>intro b hb;simp at hb
  | cons c r ih=>
    intro b hb
    simp only[af]at hb
    split at hb
    ·rcases List.mem_cons.1 hb with e | e
     ·subst e;assumption
     ·exact ih b e
    ·simp at hb
 exact this L b hb
theorem tw_take (L:List UInt8):L.take (tw L).length=tw L:=by
 have:=List.take_left (l₁:=tw L) (l₂:=dw L)
 rwa [tw_dw]at this
theorem tw_drop (L:List UInt8):L.drop (tw L).length=dw L:=by
 have:=List.drop_left (l₁:=tw L) (l₂:=dw L)
 rwa [tw_dw]at this
theorem tw_len (L:List UInt8):(tw L).length+(dw L).length=L.length:=by
 rw[← ac,tw_dw]
end Go.Gv.P
namespace Go.Gv.P
open Go Go.Gv Go.Gv.D
set_option maxRecDepth 100000
theorem formats_tot:Tot (fun n=>law4_formats n) (· =true):=Tot.of_all 100 (fun k=>by kernel_rfl) rfl
end Go.Gv.P
namespace Go.Gv.R
open Go Go.Gv Go.Gv.D Go.Gv.P Go.Lib
set_option maxRecDepth 100000
theorem getD_sidx {l:List UInt8} {i:Nat} (h:i<l.length):sidx (strOf l) (i:Int)=some ((l.getD i 0).toNat:Int):=by
 unfold sidx strOf
 rw[if_pos om]
 simp[h]
theorem Decode0_tot:Tot (fun fuel=>utf8_DecodeRuneInString fuel (strOf [])) (fun r=>r=(65533,0)):=aa rfl
theorem DecodeS_tot {l:List UInt8} (hl:0<l.length):Tot (fun fuel=>utf8_DecodeRuneInString fuel (strOf l)) (fun r=>r=(((decodeL l).1:Int),((decodeL l).2:Int))):=by
 unfold utf8_DecodeRuneInString
 rw[if_neg (by rw[size_str];omega)]
 exact aa rfl
end Go.Gv.R
namespace Go.Gv.P
open Go Go.Gv Go.Gv.D Go.Gv.R Go.Lib
set_option maxRecDepth 100000
/-- whether a code point is one of a set of bytes -/
def inC (S:List UInt8) (c:Nat):Bool:=decide (c<128)&&S.contains (UInt8.ofNat c)
def tk (S:List UInt8):List Nat→Nat × List Nat
 | []=>(0,[])
 | c::r=>if inC S c then (c,r) else (0,c::r)
theorem head_enc {c:Nat} (h:Scal c) (r:List Nat):∃ b t,enc (c::r)=b::t∧(c<128→b=UInt8.ofNat c∧t=enc r)∧(128≤c→128≤b.toNat):=by
 rw[enc_cons]
 have hs:c≤1114111:=by unfold Scal at h;omega
 have tn:∀ k,k<256→(UInt8.ofNat k).toNat=k:=fun k hk=>by simp[UInt8.toNat_ofNat',Nat.mod_eq_of_lt hk]
 rcases ai c 128 with h1 | h1
 ·rw[encR1 om]
  exact ⟨_,_,rfl,fun _=>⟨rfl,rfl⟩,fun h=>by omega⟩
 rcases ai c 2048 with h2 | h2
 ·rw[encR2 h1 om]
  exact ⟨_,_,rfl,fun h=>by omega,fun _=>by rw[tn _ om];omega⟩
 rcases ai c 65536 with h3 | h3
 ·rw[encR3 h2 om h]
  exact ⟨_,_,rfl,fun h=>by omega,fun _=>by rw[tn _ om];omega⟩
 ·rw[encR4 h3 hs]
  exact ⟨_,_,rfl,fun h=>by omega,fun _=>by rw[tn _ om];omega⟩
structure SetOk (S:List UInt8):Prop where
 ib:∀ x:UInt8,decide (nIdxB (bytesOf (strOf S)) (x.toNat:Int)≥0)=S.contains x
 low:∀ x:UInt8,S.contains x=true→0<x.toNat∧x.toNat<128
 one:∀ (k:Nat) (x:UInt8),ref4_oneOf (k+30) (x.toNat:Int) (strOf S)=some (S.contains x)
theorem setOk {S:List UInt8} (h1:(List.range 256).all (fun n=>decide (nIdxB (bytesOf (strOf S)) (n:Int)≥0)==S.contains n.toUInt8)=true) (h2:(List.range 256).all (fun n=> !(S.contains n.toUInt8)||(decide (0<n)&&decide (n<128)))=true)
 (h3:∀ k,(List.range 256).all (fun n=>ref4_oneOf (k+30) (n:Int) (strOf S)==some (S.contains n.toUInt8))=true):SetOk S where
 ib x:=by
  have:=beq_iff_eq.1 (byte_all h1 x)
  rw[show x.toNat.toUInt8=x from UInt8.ofNat_toNat]at this
  exact this
 low x hx:=by
  have:=byte_all (p:=fun n=> !(S.contains n.toUInt8)||(decide (0<n)&&decide (n<128))) h2 x
  simp only[show x.toNat.toUInt8=x from UInt8.ofNat_toNat,hx,Bool.not_true,Bool.false_or,al,decide_eq_true_eq]at this
  exact this
 one k x:=by
  have:=beq_iff_eq.1 (byte_all (h3 k) x)
  rw[show x.toNat.toUInt8=x from UInt8.ofNat_toNat]at this
  exact this
def AL:List UInt8:=[60,62,94,61]
def SG:List UInt8:=[43,45,32]
def BA:List UInt8:=[35]
def ZE:List UInt8:=[48]
def NZ:List UInt8:=[49,50,51,52,53,54,55,56,57]
def GR:List UInt8:=[44,95]
def PT:List UInt8:=[46]
def TY:List UInt8:=[98,111,120,88,100,102,101,37,115]
theorem AL_ok:SetOk AL:=setOk (by kernel_rfl) (by kernel_rfl) (fun k=>by kernel_rfl)
theorem SG_ok:SetOk SG:=setOk (by kernel_rfl) (by kernel_rfl) (fun k=>by kernel_rfl)
theorem BA_ok:SetOk BA:=setOk (by kernel_rfl) (by kernel_rfl) (fun k=>by kernel_rfl)
theorem ZE_ok:SetOk ZE:=setOk (by kernel_rfl) (by kernel_rfl) (fun k=>by kernel_rfl)
theorem NZ_ok:SetOk NZ:=setOk (by kernel_rfl) (by kernel_rfl) (fun k=>by kernel_rfl)
theorem GR_ok:SetOk GR:=setOk (by kernel_rfl) (by kernel_rfl) (fun k=>by kernel_rfl)
theorem PT_ok:SetOk PT:=setOk (by kernel_rfl) (by kernel_rfl) (fun k=>by kernel_rfl)
theorem TY_ok:SetOk TY:=setOk (by kernel_rfl) (by kernel_rfl) (fun k=>by kernel_rfl)
theorem in_tot {S:List UInt8} (hS:SetOk S) (x:UInt8):Tot (fun n=>fmtspec_in n (x.toNat:Int) (strOf S)) (· =S.contains x):=by
 unfold fmtspec_in strings_IndexByte stringslite_IndexByte
 exact aa (hS.ib x)
theorem one_tot {S:List UInt8} (hS:SetOk S) (x:UInt8):Tot (fun n=>ref4_oneOf n (x.toNat:Int) (strOf S)) (· =S.contains x):=Tot.of_all 30 (fun k=>hS.one k x) rfl
theorem ofNat_toNat' {c:Nat} (h:c<128):(UInt8.ofNat c).toNat=c:=by simp[UInt8.toNat_ofNat',Nat.mod_eq_of_lt (show c<256 by omega)]
theorem inC_head {S:List UInt8} (hS:SetOk S) {c:Nat} (h:Scal c) {r:List Nat} {b:UInt8} {t:List UInt8} (e:enc (c::r)=b::t):S.contains b=inC S c∧(inC S c=true→b=UInt8.ofNat c∧t=enc r∧c<128∧0<c∧b.toNat=c):=by
 obtain ⟨b',t',e',h1,h2⟩:=head_enc h r
 rw[e]at e'
 cases e'
 unfold inC
 rcases ai c 128 with hc | hc
 ·obtain ⟨rfl,rfl⟩:=h1 hc
  rw[dtt hc,Bool.true_and]
  refine ⟨rfl,fun hh=>⟨rfl,rfl,hc,?_,ofNat_toNat' hc⟩⟩
  have:=(hS.low _ hh).1
  rw[ofNat_toNat' hc]at this;exact this
 ·rw[dff om,Bool.false_and]
  refine ⟨?_,fun hh=>by cases hh⟩
  cases hb:S.contains b
  ·rfl
  ·have:=(hS.low _ hb).2
   have:=h2 hc;omega
theorem str_ne {b:UInt8} {t:List UInt8}:((strOf (b::t)).toList==(strOf []).toList)=false:=by
 rw[str_eq]
 refine dff fun e=>?_
 have:=congrArg bytesOf e
 rw[bytes_str,bytes_str]at this
 cases this
theorem str_nil:((strOf []).toList==(strOf []).toList)=true:=by rw[str_eq];exact dtt rfl
theorem sidx0 (b:UInt8) (t:List UInt8):sidx (strOf (b::t)) 0=some (b.toNat:Int):=by
 have:=getD_sidx (l:=b::t) (i:=0) (by simp)
 simpa using this
theorem tail1 {b:UInt8} {t:List UInt8}:ssub (strOf (b::t)) 1 (((strOf (b::t)).size:Nat):Int)=some (strOf t):=by
 rw[size_str]
 have:=ssub_str (l:=b::t) (i:=1) (j:=(b::t).length) (by simp) (Nat.le_refl _)
 rw[am]at this
 exact this
theorem take_tot {S:List UInt8} (hS:SetOk S) {l:List Nat} (hl:∀ r∈l,Scal r):Tot (fun n=>fmtspec_reader_take n (strOf (enc l)) (strOf S)) (· =(((tk S l).1:Int),strOf (enc (tk S l).2))):=by
 unfold fmtspec_reader_take
 cases l with
 | nil=>exact ab (P:=(· =true)) (an str_nil (aa rfl)) fun j hj=>an hj (aa rfl)
 | cons c r=>
   obtain ⟨b,t,e,_,_⟩:=head_enc (hl c (ad ..)) r
   obtain ⟨h1,h2⟩:=inC_head hS (hl c (ad ..)) e
   rw[e]
   refine ab (P:=(· = !(inC S c))) (ak str_ne (ae (sidx0 b t) (ab (in_tot hS b) fun x hx=>aa (by rw[hx,h1])))) fun j hj=>?_
   subst hj
   cases hc:inC S c
   ·refine an rfl (aa ?_)
    simp only[tk,hc]
    rw[← e];rfl
   ·obtain ⟨g1,g2,g3,g4,g5⟩:=h2 hc
    refine ak rfl (ae (sidx0 b t) (ae tail1 (aa ?_)))
    simp only[tk,hc,if_true]
    rw[g5,g2]
end Go.Gv.P
namespace Go.Gv.P
open Go Go.Gv Go.Gv.D Go.Gv.R Go.Lib
set_option maxRecDepth 100000
def dgN (c:Nat):Bool:=decide (48≤c)&&decide (c≤57)
def twN (l:List Nat):List Nat:=l.takeWhile dgN
def dwN (l:List Nat):List Nat:=l.dropWhile dgN
theorem dg_head {c:Nat} (h:Scal c) {r:List Nat} {b:UInt8} {t:List UInt8} (e:enc (c::r)=b::t):dg b=dgN c∧(dgN c=true→t=enc r∧b.toNat=c):=by
 obtain ⟨b',t',e',h1,h2⟩:=head_enc h r
 rw[e]at e'
 cases e'
 rcases ai c 128 with hc | hc
 ·obtain ⟨rfl,rfl⟩:=h1 hc
  refine ⟨?_,fun _=>⟨rfl,ofNat_toNat' hc⟩⟩
  simp only[dg,dgN,ofNat_toNat' hc]
 ·have:=h2 hc
  refine ⟨?_,fun hh=>?_⟩
  ·simp only[dg,dgN]
   rw[dff (show ¬ b.toNat≤57 by omega),dff (show ¬ c≤57 by omega)]
   simp
  ·simp only[dgN,al,decide_eq_true_eq]at hh;omega
theorem tw_enc:∀ {l:List Nat},(∀ r∈l,Scal r)→tw (enc l)=enc (twN l)∧dw (enc l)=enc (dwN l)
 | [],_=>⟨rfl,rfl⟩
 | c::r,hl=>by
   obtain ⟨b,t,e,_,_⟩:=head_enc (hl c (ad ..)) r
   obtain ⟨h1,h2⟩:=dg_head (hl c (ad ..)) e
   rw[e]
   unfold tw dw twN dwN
   rw[af,List.dropWhile_cons,af,List.dropWhile_cons,h1]
   cases hc:dgN c
   ·exact ⟨rfl,e.symm⟩
   ·obtain ⟨rfl,hb⟩:=h2 hc
    obtain ⟨i1,i2⟩:=tw_enc (l:=r) fun x hx=>hl x (ao _ hx)
    refine ⟨?_,i2⟩
    simp only[if_true]
    unfold tw twN at i1
    rw[i1,enc_cons]
    rw[enc_cons]at e
    have:c≤127:=by simp only[dgN,al,decide_eq_true_eq]at hc;omega
    rw[encR1 this]at e ⊢
    have:=(List.cons.inj e).1
    rw[this];rfl
def DG10:List UInt8:=[48,49,50,51,52,53,54,55,56,57]
theorem trim_dg (n:Nat) (L:List UInt8):strings_TrimLeft n (strOf L) (strOf DG10)=some (strOf (dw L)):=by
 unfold strings_TrimLeft
 rw[if_pos ⟨by rw[size_str];decide,by rfl⟩,bytes_str,bytes_str]
 congr 2
 unfold Lib.trimLeftS dw
 congr 1
 funext x
 exact tens x
/-- what reader.number gives -/
def nb:List Nat→Int × List Nat
 | []=>(-1,[])
 | c::r=>if c=48 then (0,r) else if dgN c=true then (((min (valN 0 (enc (twN (c::r)))) 401:Nat):Int),dwN (c::r)) else (-1,c::r)
theorem number_rest {L:List UInt8} {k v:Nat} {rest:List UInt8} (hk:0<k) (hk2:k≤L.length) (hr:rest=L.drop k) (hL:L.length≤100000) (hd:∀ b∈L.take k,dg b=true) (hv:valN 0 (L.take k)=v):
 Tot (fun n=>if (((k:Nat):Int)==0)=true then some ((-1:Int),strOf L) else (ssub (strOf L) 0 ((k:Nat):Int)).bind fun x33=>(ssub (strOf L) ((k:Nat):Int) (((strOf L).size:Nat):Int)).bind fun x35=>(strconv_Atoi n x33).bind fun r41=>if (!r41.2)=true then some ((if 401<r41.1 then 401 else r41.1),x35) else some (401,x35))
  (· =(((min v 401:Nat):Int),strOf rest)):=by
 refine ak oss ?_
 have h1:=ssub_str (l:=L) (i:=0) (j:=k) (Nat.zero_le _) hk2
 rw[List.drop_zero]at h1
 refine ae h1 ?_
 rw[size_str]
 have h2:=ssub_str (l:=L) (i:=k) (j:=L.length) hk2 (Nat.le_refl _)
 rw[am]at h2
 refine ae h2 ?_
 have hne:L.take k≠[]:=fun e=>by have:=congrArg List.length e;rw[List.length_take]at this;simp only[List.length_nil]at this;omega
 have hlen:(L.take k).length≤100000:=by rw[List.length_take];omega
 subst hr
 unfold strconv_Atoi
 rw[if_pos (by rw[size_str];omega),bytes_str]
 rcases atoi_dg hd hne with e | ⟨e,e2⟩
 ·rw[e]
  refine ag (an rfl (aa ?_))
  simp only[Prod.mk.injEq,and_true]
  rw[hv]
  split<;>omega
 ·rw[e]
  refine ag (ak rfl (aa ?_))
  rw[hv]at e2
  simp only[Prod.mk.injEq,and_true]
  omega
theorem number_tot {l:List Nat} (hl:∀ r∈l,Scal r) (hz:(enc l).length≤100000):Tot (fun n=>fmtspec_reader_number n (strOf (enc l))) (· =((nb l).1,strOf (enc (nb l).2))):=by
 unfold fmtspec_reader_number
 have hlen:=tw_len (enc l)
 refine ab (P:=(· =strOf (dw (enc l)))) ⟨_,rfl,0,fun n _=>trim_dg n (enc l)⟩ fun r hr=>?_
 subst hr
 refine ag ?_
 rw[size_str,size_str,i64_small om om,show (((enc l).length:Int)-((dw (enc l)).length:Int))=((tw (enc l)).length:Int) by omega]
 cases l with
 | nil=>
   refine ab (P:=(· =false)) (ak (by rw[show enc []=[] from rfl,str_nil];rfl) (aa rfl)) fun j hj=>?_
   subst hj
   refine ab (P:=(· =0)) (ak rfl (aa rfl)) fun k hk=>?_
   subst hk
   exact an rfl (aa rfl)
 | cons c r=>
   have hc:=hl c (ad ..)
   obtain ⟨b,t,e,h1,h2⟩:=head_enc hc r
   obtain ⟨g1,g2⟩:=dg_head hc e
   obtain ⟨i1,i2⟩:=tw_enc hl
   have hb48:((b.toNat:Int)==48)=decide (c=48):=by
    rcases ai c 128 with h | h
    ·rw[(h1 h).1,ofNat_toNat' h,Bool.eq_iff_iff,beq_iff_eq,decide_eq_true_eq];omega
    ·have:=h2 h
     rw[dff om];exact beq_eq_false_iff_ne.2 om
   refine ab (P:=(· =decide (c=48))) (an (by rw[e,str_ne];rfl) ?_) fun j hj=>?_
   ·rw[e];exact ae (sidx0 b t) (aa hb48)
   subst hj
   by_cases h48:c=48
   ·subst h48
    refine ab (P:=(· =((1:Nat):Int))) (an (by simp) (aa rfl)) fun k hk=>?_
    subst hk
    obtain ⟨g3,g4⟩:=g2 (by rfl)
    rw[show nb (48::r)=(0,r) by simp[nb],e]
    have hbd:dg b=true:=by rw[g1];rfl
    have ht:List.take 1 (b::t)=[b]:=rfl
    have:=number_rest (L:=b::t) (k:=1) (v:=0) (rest:=t) ddc (by simp) (by simp) (by rw[← e];exact hz) (fun x hx=>by rw[ht]at hx;rw[List.mem_singleton.1 hx];exact hbd) (by rw[ht];show 10*0+(b.toNat-48)=0;rw[g4])
    rw[g3]at this ⊢
    exact this
   ·have hnb:nb (c::r)=if dgN c=true then (((min (valN 0 (enc (twN (c::r)))) 401:Nat):Int),dwN (c::r)) else (-1,c::r):=by simp only[nb,if_neg h48]
    by_cases hd:dgN c=true
    ·rw[hnb,if_pos hd]
     obtain ⟨g3,g4⟩:=g2 hd
     have hp:0<(tw (enc (c::r))).length:=by
      rw[e];unfold tw;rw[af,g1,hd];simp
     refine ab (P:=(· =(((tw (enc (c::r))).length:Nat):Int))) (ak (by simp[h48]) (aa rfl)) fun k hk=>?_
     subst hk
     have:=number_rest (L:=enc (c::r)) (k:=(tw (enc (c::r))).length) (v:=valN 0 (enc (twN (c::r)))) (rest:=dw (enc (c::r))) hp om (tw_drop _).symm hz (fun x hx=>by rw[tw_take]at hx;exact tw_dg _ x hx) (by rw[tw_take,i1])
     rw[i2]at this
     exact this
    ·rw[hnb,if_neg hd]
     have h0:tw (enc (c::r))=[]:=by
      rw[e];unfold tw;rw[af,g1,Bool.eq_false_iff.2 hd];rfl
     refine ab (P:=(· =0)) (ak (by simp[h48]) (aa (by rw[h0];rfl))) fun k hk=>?_
     subst hk
     exact an rfl (aa rfl)
end Go.Gv.P
namespace Go.Gv.P
open Go Go.Gv Go.Gv.D Go.Gv.R Go.Lib
set_option maxRecDepth 100000
abbrev Sp:=Int × Int × Int × Bool × Bool × Int × Int × Bool × Int × Int
def zS:Sp:=(0,0,0,false,false,0,0,false,0,0)
def wd (l:List Nat):Int × List Nat:=if l.head? =some 48 then (0,l) else (if 0<(nb l).1 then (nb l).1 else 0,(nb l).2)
def prc (q:Nat × List Nat):Bool × Int × List Nat:=if ((q.1:Int)!=0)=true then (true,(nb q.2).1,(nb q.2).2) else (false,0,q.2)
/-- what is read behind the filling -/
def rdP (fill:Int) (l0:List Nat):Sp × (Int × Int):=
 let a:=tk AL l0
 let g:=tk SG a.2
 let b:=tk BA g.2
 let z:=tk ZE b.2
 let w:=wd z.2
 let gr:=tk GR w.2
 let pr:=prc (tk PT gr.2)
 let ty:=tk TY pr.2.2
 if ty.2≠[]∨pr.2.1<0 then (zS,(1, -1)) else if w.1>400∨pr.2.1>400 then (zS,(4, -1)) else
  (((fill,(a.1:Int),(g.1:Int),((b.1:Int)!=0),((z.1:Int)!=0),w.1,(gr.1:Int),pr.1,pr.2.1,(ty.1:Int)):Sp),(0,0))
def rd:List Nat→Sp × (Int × Int)
 | c::d::r=>if inC AL d=true then (if c=123∨c=125∨c=0 then (zS,(1, -1)) else rdP c (d::r)) else rdP 0 (c::d::r)
 | p=>rdP 0 p
theorem enc_suffix {l m:List Nat} (h:l <:+ m):(enc l).length≤(enc m).length:=by
 obtain ⟨t,rfl⟩:=h
 rw[enc_app,ac];omega
theorem tk_suffix {S:List UInt8} {l:List Nat}:(tk S l).2 <:+ l:=by
 cases l with
 | nil=>exact ah _
 | cons c r=>
   simp only[tk]
   split
   ·exact List.suffix_cons ..
   ·exact ah _
theorem nb_suffix {l:List Nat}:(nb l).2 <:+ l:=by
 cases l with
 | nil=>exact ah _
 | cons c r=>
   simp only[nb]
   split
   ·exact List.suffix_cons ..
   ·split
    ·exact List.dropWhile_suffix _
    ·exact ah _
theorem wd_suffix {l:List Nat}:(wd l).2 <:+ l:=by
 unfold wd;split
 ·exact ah _
 ·exact nb_suffix
theorem prc_suffix {q:Nat × List Nat}:(prc q).2.2 <:+ q.2:=by
 unfold prc;split
 ·exact nb_suffix
 ·exact ah _
theorem scal_suffix {l m:List Nat} (h:l <:+ m) (hm:∀ r∈m,Scal r):∀ r∈l,Scal r:=fun r hr=>hm r (h.subset hr)
theorem enc_eq_nil {l:List Nat}:enc l=[]↔l=[]:=by
 constructor
 ·intro h
  cases l with
  | nil=>rfl
  | cons c r=>exact absurd h enc_ne
 ·rintro rfl;rfl
theorem str_emp {l:List Nat}:((strOf (enc l)).toList==(strOf []).toList)=decide (l=[]):=by
 rw[str_eq]
 refine decide_eq_decide.2 ⟨fun e=>?_,fun e=>by rw[e];rfl⟩
 have:=congrArg bytesOf e
 rw[bytes_str,bytes_str]at this
 exact enc_eq_nil.1 this
theorem at_eq (n:Nat) (a b:Int):fmtspec_at n a b=some (a,b):=rfl
theorem Parse_tot {p:List Nat} (hp:∀ r∈p,Scal r) (hz:(enc p).length≤40):Tot (fun n=>fmtspec_Parse n (strOf (enc p))) (· =rd p):=by
 unfold fmtspec_Parse
 refine ag (ak (dff (by rw[size_str];omega)) ?_)
 refine ab (P:=(· =true)) ((ValidString_tot (by rw[size_str];omega)).mono fun r hr=>by rw[hr,bytes_str,valid_enc p hp]) fun r hr=>?_
 subst hr
 refine ak rfl ?_
 refine ab (P:=fun r=>(p=[]∧r=(65533,0))∨∃ c t,p=c::t∧r=((c:Int),(((encR c).length:Nat):Int))) ?_ fun r86 hr=>?_
 ·cases p with
  | nil=>exact Decode0_tot.mono fun r hr=>.inl ⟨rfl,hr⟩
  | cons c t=>
    have hc:=hp c (ad ..)
    refine (DecodeS_tot (List.length_pos_iff.2 enc_ne)).mono fun r hr=>.inr ⟨c,t,rfl,?_⟩
    rw[hr,enc_cons,decode_enc c hc]
 refine ab (P:=(· =match p with | _::d::_=>inC AL d | _=>false)) ?_ fun j hj=>?_
 ·rcases hr with ⟨rfl,rfl⟩ | ⟨c,t,rfl,rfl⟩
  ·exact ak rfl (aa rfl)
  ·have hpos:=(encR_pos c).1
   refine an (dtt (by dsimp only;omega)) ?_
   cases t with
   | nil=>exact ak (dff (by rw[size_str,enc_cons,show enc []=[] from rfl,List.append_nil];dsimp only;omega)) (aa rfl)
   | cons d r=>
     have hd:=hp d (by simp)
     obtain ⟨b,t,e,_,_⟩:=head_enc hd r
     obtain ⟨h1,_⟩:=inC_head AL_ok hd e
     have hlt:(encR c).length<(enc (c::d::r)).length:=by rw[enc_cons,e,ac];simp
     refine an (dtt (by rw[size_str];dsimp only;omega)) ?_
     have hs:=getD_sidx hlt
     have hg:(enc (c::d::r)).getD (encR c).length 0=b:=by rw[enc_cons,e];simp
     rw[hg]at hs
     exact ae hs (ab (in_tot AL_ok b) fun x hx=>aa (by rw[hx,h1]))
 subst hj
 refine ab (P:=fun x=>(x= .inr (zS,((1:Int),(-1:Int)))∧rd p=(zS,(1, -1)))∨∃ (fill:Int) (l0:List Nat),x= .inl (zS,((0:Int),(0:Int)),((fill,0,0,false,false,0,0,false,0,0):Sp),strOf (enc l0))∧rd p=rdP fill l0∧l0 <:+ p) ?_ fun s137 hs=>?_
 ·refine aj (fun h=>?_) (fun h=>aa (.inr ⟨0,p,rfl,?_,ah _⟩))
  ·rcases hr with ⟨rfl,rfl⟩ | ⟨c,t,rfl,rfl⟩
   ·cases h
   cases t with
   | nil=>cases h
   | cons d r=>
     have h:inC AL d=true:=h
     have hrd:rd (c::d::r)=if c=123∨c=125∨c=0 then (zS,(1, -1)) else rdP c (d::r):=by simp only[rd,if_pos h]
     have hb:(((c:Int)==123)||(((c:Int)==125)||((c:Int)==0)))=decide (c=123∨c=125∨c=0):=by
      rw[Bool.eq_iff_iff,Bool.or_eq_true,Bool.or_eq_true,beq_iff_eq,beq_iff_eq,beq_iff_eq,decide_eq_true_eq];omega
     refine aj (fun hh=>?_) (fun hh=>?_)
     ·rw[hb]at hh
      exact ag (aa (.inl ⟨rfl,by rw[hrd,if_pos (odt hh)]⟩))
     ·rw[hb]at hh
      have hlen:(enc (c::d::r)).length=(encR c).length+(enc (d::r)).length:=by rw[enc_cons,ac]
      have hsub:=ssub_str (l:=enc (c::d::r)) (i:=(encR c).length) (j:=(enc (c::d::r)).length) om (Nat.le_refl _)
      rw[am,enc_cons,List.drop_left,← enc_cons]at hsub
      refine ae (by rw[size_str];exact hsub) (aa (.inr ⟨c,d::r,?_,by rw[hrd,if_neg (odf hh)],List.suffix_cons ..⟩))
      have hc:=hp c (ad ..)
      have:IntKind.i64.wrap (c:Int)=(c:Int):=i64_small om (by unfold Scal at hc;omega)
      simp only[this];rfl
  ·cases p with
   | nil=>rfl
   | cons c t=>
     cases t with
     | nil=>rfl
     | cons d r=>
       have h:inC AL d=false:=h
       simp only[rd,h,Bool.false_eq_true,if_false]
 rcases hs with ⟨rfl,e⟩ | ⟨fill,l0,rfl,e,hsf⟩
 ·exact Tot.contr e.symm
 rw[e]
 have hl0:=scal_suffix hsf hp
 have hz0:(enc l0).length≤40:=by have:=enc_suffix hsf;omega
 refine Tot.contl ?_
 refine ab (take_tot AL_ok hl0) fun ra ha=>?_
 subst ha
 have f1:=tk_suffix (S:=AL) (l:=l0)
 refine ab (take_tot SG_ok (scal_suffix f1 hl0)) fun rg hg=>?_
 subst hg
 have f2:=(tk_suffix (S:=SG)).trans f1
 refine ab (take_tot BA_ok (scal_suffix f2 hl0)) fun rb hb=>?_
 subst hb
 have f3:=(tk_suffix (S:=BA)).trans f2
 refine ab (take_tot ZE_ok (scal_suffix f3 hl0)) fun rz hzz=>?_
 subst hzz
 have f4:=(tk_suffix (S:=ZE)).trans f3
 generalize hzd:tk ZE (tk BA (tk SG (tk AL l0).2).2).2=z at f4
 have hzl:=scal_suffix f4 hl0
 refine ab (P:=(· =decide (z.2.head? ≠some 48))) ?_ fun j hj=>?_
 ·refine aj (fun h=>?_) (fun h=>?_)
  ·rw[str_emp]at h
   rw[odt h];exact aa rfl
  ·cases hz2:z.2 with
   | nil=>rw[hz2,show enc []=[] from rfl,str_nil]at h;cases h
   | cons c r=>
     rw[hz2]at hzl
     obtain ⟨b,t,e2,g1,g2⟩:=head_enc (hzl c (ad ..)) r
     rw[e2]
     refine ae (sidx0 b t) (aa ?_)
     rw[Bool.eq_iff_iff,bne_iff_ne,decide_eq_true_eq,List.head?_cons,ne_eq,ne_eq,Option.some.injEq]
     rcases ai c 128 with hc | hc
     ·rw[(g1 hc).1,ofNat_toNat' hc];omega
     ·have:=g2 hc;omega
 subst hj
 refine ab (P:=(· =(((fill,((tk AL l0).1:Int),((tk SG (tk AL l0).2).1:Int),(((tk BA (tk SG (tk AL l0).2).2).1:Int)!=0),((z.1:Int)!=0),(wd z.2).1,0,false,0,0):Sp),strOf (enc (wd z.2).2)))) ?_ fun j hj=>?_
 ·refine aj (fun h=>?_) (fun h=>?_)
  ·have h:=odt h
   refine ab (number_tot hzl (by have:=enc_suffix f4;omega)) fun r hr=>aa ?_
   subst hr
   unfold wd;rw[if_neg h]
  ·have h:=odf h
   refine aa ?_
   unfold wd;rw[if_pos (Classical.not_not.1 h)]
 subst hj
 have f5:=(wd_suffix (l:=z.2)).trans f4
 refine ab (take_tot GR_ok (scal_suffix f5 hl0)) fun rgr hgr=>?_
 subst hgr
 have f6:=(tk_suffix (S:=GR)).trans f5
 refine ab (take_tot PT_ok (scal_suffix f6 hl0)) fun rp hrp=>?_
 subst hrp
 have f7:=(tk_suffix (S:=PT)).trans f6
 generalize hpd:tk PT (tk GR (wd z.2).2).2=pq at f7
 have hpl:=scal_suffix f7 hl0
 refine ab (P:=(· =(((fill,((tk AL l0).1:Int),((tk SG (tk AL l0).2).1:Int),(((tk BA (tk SG (tk AL l0).2).2).1:Int)!=0),((z.1:Int)!=0),(wd z.2).1,((tk GR (wd z.2).2).1:Int),(prc pq).1,(prc pq).2.1,0):Sp),strOf (enc (prc pq).2.2)))) ?_ fun j hj=>?_
 ·refine aj (fun h=>?_) (fun h=>?_)
  ·refine ab (number_tot hpl (by have:=enc_suffix f7;omega)) fun r hr=>aa ?_
   subst hr
   unfold prc;rw[if_pos h]
  ·refine aa ?_
   unfold prc;rw[if_neg (by rw[h];decide)]
 subst hj
 have f8:=(prc_suffix (q:=pq)).trans f7
 refine ab (take_tot TY_ok (scal_suffix f8 hl0)) fun rt hrt=>?_
 subst hrt
 have hrdP:rdP fill l0=if (tk TY (prc pq).2.2).2≠[]∨(prc pq).2.1<0 then (zS,(1, -1)) else if (wd z.2).1>400∨(prc pq).2.1>400 then (zS,(4, -1)) else
  (((fill,((tk AL l0).1:Int),((tk SG (tk AL l0).2).1:Int),(((tk BA (tk SG (tk AL l0).2).2).1:Int)!=0),((z.1:Int)!=0),(wd z.2).1,((tk GR (wd z.2).2).1:Int),(prc pq).1,(prc pq).2.1,((tk TY (prc pq).2.2).1:Int)):Sp),(0,0)):=by
  subst hpd;subst hzd;rfl
 rw[hrdP]
 refine ab (P:=(· =decide ((tk TY (prc pq).2.2).2≠[]∨(prc pq).2.1<0))) ?_ fun j hj=>?_
 ·rw[str_emp]
  refine aj (fun h=>aa ?_) (fun h=>aa ?_)
  ·simp only[Bool.not_eq_true',decide_eq_false_iff_not]at h
   exact (dtt (.inl h)).symm
  ·simp only[Bool.not_eq_false',decide_eq_true_eq]at h
   refine decide_eq_decide.2 ⟨fun hh=>.inr hh,fun hh=>hh.elim (fun hh=>absurd h hh) id⟩
 subst hj
 refine aj (fun h=>?_) (fun h=>?_)
 ·rw[if_pos (odt h)]
  exact ag (aa rfl)
 rw[if_neg (odf h)]
 refine ab (P:=(· =decide ((wd z.2).1>400∨(prc pq).2.1>400))) ?_ fun j hj=>?_
 ·refine aj (fun h=>aa (dtt (.inl (odt h))).symm) (fun h=>ag (aa ?_))
  have h:=odf h
  exact decide_eq_decide.2 ⟨fun hh=>.inr hh,fun hh=>hh.elim (fun hh=>absurd hh h) id⟩
 subst hj
 refine aj (fun h=>?_) (fun h=>?_)
 ·rw[if_pos (odt h)]
  exact ag (aa rfl)
 ·rw[if_neg (odf h)]
  exact aa rfl
end Go.Gv.P
namespace Go.Gv.P
open Go Go.Gv Go.Gv.D Go.Gv.R Go.Lib
set_option maxRecDepth 100000
def hdC (S:List UInt8) (l:List Nat):Bool:=match l with | c::_=>inC S c | []=>false
theorem tk_hd (S:List UInt8) (l:List Nat):tk S l=if hdC S l then (l.headD 0,l.tail) else (0,l):=by
 cases l with
 | nil=>rfl
 | cons c r=>rfl
theorem drop_head {p:List Nat} {a:Nat} (h:a<p.length):p.drop a=p[a]::p.drop (a+1):=List.drop_eq_getElem_cons h
theorem isAt_tot {S:List UInt8} (hS:SetOk S) {p:List Nat} (hp:∀ r∈p,Scal r) (a:Nat):Tot (fun n=>ref4_isAt n (ints p) (a:Int) (strOf S)) (· =hdC S (p.drop a)):=by
 unfold ref4_isAt
 refine ab (P:=(· =hdC S (p.drop a))) ?_ fun j hj=>aa hj
 rw[ints_len]
 refine aj (fun h=>?_) (fun h=>?_)
 ·have h:a<p.length:=by have:=odt h;omega
  rw[drop_head h]
  refine ae (ints_get h) (aj (fun h2=>?_) (fun h2=>aa ?_))
  ·have h2:p[a]<128:=by have:=odt h2;omega
   refine ae (ints_get h) ?_
   rw[u8_small om om,show ((p[a]:Nat):Int)=(((UInt8.ofNat p[a]).toNat:Nat):Int) by rw[ofNat_toNat' h2]]
   refine ab (one_tot hS _) fun r hr=>aa ?_
   rw[hr];simp only[hdC,inC,dtt h2,Bool.true_and]
  ·have h2:¬ p[a]<128:=by have:=odf h2;omega
   simp only[hdC,inC,dff h2,Bool.false_and]
 ·have h:p.length≤a:=by have:=odf h;omega
  rw[List.drop_of_length_le h]
  exact aa rfl
theorem taken_tot {S:List UInt8} (hS:SetOk S) {p:List Nat} (hp:∀ r∈p,Scal r) (hz:p.length≤1000) {a:Nat} (ha:a≤p.length):
 Tot (fun n=>ref4_taken n (ints p) (a:Int) (strOf S)) (fun r=>∃ a':Nat,r=(((tk S (p.drop a)).1:Int),(a':Int))∧p.drop a'=(tk S (p.drop a)).2∧a'≤p.length):=by
 unfold ref4_taken
 refine ab (isAt_tot hS hp a) fun r hr=>?_
 subst hr
 rw[tk_hd]
 cases hc:hdC S (p.drop a)
 ·exact an rfl (aa ⟨a,rfl,rfl,ha⟩)
 ·have h:a<p.length:=by
   rcases ai a p.length with h | h
   ·exact h
   ·rw[List.drop_of_length_le h]at hc;cases hc
  have hc':=hc
  rw[drop_head h]at hc'
  have h128:p[a]<128:=by
   simp only[hdC,inC,al,decide_eq_true_eq]at hc';exact hc'.1
  refine ak rfl (ae (ints_get h) (aa ⟨a+1,?_,?_,h⟩))
  ·rw[u8_small om om,i64_small om om,drop_head h];rfl
  ·rw[drop_head h];rfl
theorem twN_dwN (l:List Nat):twN l++dwN l=l:=List.takeWhile_append_dropWhile
theorem twN_dg:∀ {l:List Nat} {c:Nat},c∈twN l→dgN c=true
 | [],c,h=>by cases h
 | d::r,c,h=>by
   unfold twN at h
   rw[af]at h
   split at h
   ·rename_i hd
    rcases List.mem_cons.1 h with e | e
    ·rw[e];exact hd
    ·exact twN_dg (l:=r) e
   ·cases h
theorem dwN_head:∀ {l:List Nat} {c:Nat} {t:List Nat},dwN l=c::t→dgN c=false
 | [],c,t,h=>by cases h
 | d::r,c,t,h=>by
   unfold dwN at h
   rw[List.dropWhile_cons]at h
   split at h
   ·exact dwN_head (l:=r) h
   ·rename_i hd
    cases h;exact Bool.eq_false_iff.2 hd
theorem dg_range {c:Nat} (h:dgN c=true):48≤c∧c≤57:=by simpa [dgN] using h
theorem val_snoc {l:List Nat} {c:Nat} (h:dgN c=true):valN 0 (enc (l++[c]))=10*valN 0 (enc l)+(c-48):=by
 have hc:=dg_range h
 rw[enc_app,show enc [c]=[UInt8.ofNat c] by rw[enc_cons,encR1 om];rfl,valN_snoc,ofNat_toNat' om]
theorem digitsAt_tot {p:List Nat} (hz:p.length≤1000) {a:Nat} (ha:a≤p.length):
 Tot (fun n=>ref4_digitsAt n (ints p) (a:Int)) (· =(((min (valN 0 (enc (twN (p.drop a)))) 401:Nat):Int),(((twN (p.drop a)).length:Nat):Int))):=by
 unfold ref4_digitsAt
 have happ:=twN_dwN (p.drop a)
 have hT:∀ c∈twN (p.drop a),dgN c=true:=fun c hc=>twN_dg hc
 have hW:∀ c t,dwN (p.drop a)=c::t→dgN c=false:=fun c t h=>dwN_head h
 generalize twN (p.drop a)=T at*
 generalize dwN (p.drop a)=W at*
 have hlen:T.length+W.length=p.length-a:=by rw[← ac,happ,List.length_drop]
 have hget:∀ (j:Nat) (h:j<T.length),∃ hlt:a+j<p.length,p[a+j]=T[j]:=fun j h=>by
  have hlt:a+j<p.length:=by omega
  have h1:(p.drop a)[j]? =T[j]?:=by rw[← happ,List.getElem?_append_left h]
  rw[List.getElem?_drop,List.getElem?_eq_getElem hlt,List.getElem?_eq_getElem h]at h1
  exact ⟨hlt,Option.some.inj h1⟩
 refine ab (P:=(· =(((min (valN 0 (enc T)) 401:Nat):Int),((T.length:Nat):Int)))) ?_ fun j hj=>aa (by rw[hj])
 refine Tot.loop (fun st:Int × Int=>∃ j:Nat,j≤T.length∧st=(((min (valN 0 (enc (T.take j))) 401:Nat):Int),(j:Int))) (fun st=>T.length-st.2.toNat) ⟨0,Nat.zero_le _,rfl⟩ fun st ⟨j,hj,e⟩=>?_
 subst e
 have haj:IntKind.i64.wrap ((a:Int)+(j:Int))=((a+j:Nat):Int):=by rw[i64_small om om];omega
 simp only[haj,ints_len]
 refine ab (P:=(· =decide (j<T.length))) ?_ fun b hb=>?_
 ·rcases ai j T.length with h | h
  ·obtain ⟨hlt,hg⟩:=hget j h
   have hd:=dg_range (hT _ (List.getElem_mem h))
   rw[← hg]at hd
   rw[dtt h]
   exact an (dtt om) (ae (ints_get hlt) (an (dtt om) (ae (ints_get hlt) (aa (dtt om)))))
  ·have hn:¬ j<T.length:=by omega
   rw[dff hn]
   refine aj (fun hh=>?_) (fun _=>aa rfl)
   have hlt:a+j<p.length:=by have:=odt hh;omega
   have h1:(p.drop a)[j]? =W[0]?:=by rw[← happ,List.getElem?_append_right h];congr 1;omega
   rw[List.getElem?_drop,List.getElem?_eq_getElem hlt]at h1
   cases hdw:W with
   | nil=>rw[hdw]at h1;cases h1
   | cons c t=>
     rw[hdw]at h1
     have hc:=hW c t hdw
     have e:p[a+j]=c:=by simpa using h1
     have hn2:¬ (48≤c∧c≤57):=fun ⟨x,y⟩=>by rw[dgN,dtt x,dtt y]at hc;cases hc
     refine ae (ints_get hlt) (aj (fun h2=>?_) (fun _=>aa rfl))
     have h2:=odt h2
     exact ae (ints_get hlt) (aa (dff om))
 subst hb
 refine aj (fun h=>?_) (fun h=>?_)
 ·have h:=odt h
  obtain ⟨hlt,hg⟩:=hget j h
  have hdd:=hT _ (List.getElem_mem h)
  have hd:=dg_range hdd
  have hv:=val_snoc (l:=T.take j) hdd
  have htk:T.take (j+1)=T.take j++[T[j]]:=by simp
  rw[← htk]at hv
  refine ae (ints_get hlt) (ag ?_)
  rw[hg]
  generalize valN 0 (enc (T.take j))=v at*
  have hw:IntKind.i64.wrap (IntKind.i64.wrap (IntKind.i64.wrap (10*((min v 401:Nat):Int))+((T[j]:Nat):Int))-48)=((10*min v 401+(T[j]-48):Nat):Int):=by
   rw[i64_small (x:=10*_) om om,i64_small (x:=_+_) om om,i64_small om om];omega
  rw[hw]
  refine ab (P:=(· =((min (valN 0 (enc (T.take (j+1)))) 401:Nat):Int))) ?_ fun x hx=>?_
  ·rw[hv]
   refine aj (fun h=>aa ?_) (fun h=>aa ?_)
   ·have:=odt h;omega
   ·have:=odf h;omega
  ·subst hx
   refine aa ⟨⟨j+1,h,?_⟩,?_⟩
   ·rw[i64_small om om];rfl
   ·rw[i64_small om om]
    show T.length-((j:Int)+1).toNat<T.length-((j:Int)).toNat
    omega
 ·have h:=odf h
  refine aa ?_
  rw[show j=T.length by omega,am]
end Go.Gv.P
