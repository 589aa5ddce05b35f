import Derived.Test.YtbiopeiafkldiaaGreatDoorU4
set_option linter.all false
namespace Go.Gv.R
open Go Go.Gv Go.Gv.D Go.Lib
/-! Own work: runes of texts. -/
def okS (s:ByteArray):Bool:=validD (bytesOf s)&&decide (s.size≤4000)
theorem okS_text {s:ByteArray} (h:okS s=true):∃ p,(∀ r∈p,Scal r)∧s=strOf (enc p)∧(enc p).length≤4000:=by
 unfold okS at h
 rw[Bool.and_eq_true]at h
 obtain ⟨p,hp,e⟩:=valid_iff h.1
 have h2:=of_decide_eq_true h.2
 refine ⟨p,hp,?_,?_⟩
 ·rw[← e,str_bytes]
 ·rw[← e,← size_bytes];exact h2
def ptsOf (s:ByteArray) (r:List Int × Bool):Prop:=(validD (bytesOf s)=false∧r=([],false))∨∃ p,(∀ r∈p,Scal r)∧s=strOf (enc p)∧r=(ints p,true)
theorem points_any {s:ByteArray} (hs:s.size≤1048576):Tot (fun fuel=>ref4_Points fuel s) (ptsOf s):=
 (Points_tot hs).mono fun r hr=>hr.imp (fun h=>h) fun ⟨p,h1,h2,h3⟩=>⟨p,h1,by rw[← h2,str_bytes],h3⟩
theorem str_enc_inj {p q:List Nat} (hp:∀ r∈p,Scal r) (hq:∀ r∈q,Scal r) (h:strOf (enc p)=strOf (enc q)):p=q:=by
 have:=congrArg bytesOf h
 rw[bytes_str,bytes_str]at this
 exact enc_inj hp hq this
theorem points_enc {p:List Nat} (hp:∀ r∈p,Scal r) (hl:(enc p).length≤1048576):Tot (fun fuel=>ref4_Points fuel (strOf (enc p))) (· =(ints p,true)):=by
 refine (points_any (by rw[size_str];exact hl)).mono fun r hr=>?_
 rcases hr with ⟨h,_⟩ | ⟨q,hq,e,h⟩
 ·rw[bytes_str,valid_enc p hp]at h;cases h
 ·rw[h,str_enc_inj hp hq e]
theorem scal_i32 {r:Nat} (h:Scal r):r≤1114111:=by rcases h with h | h<;>omega
theorem encode_str {r:Nat} (h:Scal r):Utf8.encode (r:Int)=strOf (encR r):=by
 have hv:Utf8.valid (r:Int)=true:=by
  unfold Utf8.valid
  rcases h with h | ⟨h1,h2⟩
  ·rw[decide_eq_true (show (0:Int)≤(r:Int) by omega),decide_eq_true (show (r:Int)<0xD800 by omega)];rfl
  ·rw[decide_eq_true (show (0xE000:Int)≤(r:Int) by omega),decide_eq_true (show (r:Int)≤0x10FFFF by omega),Bool.and_true,Bool.or_true]
 have hs:=scal_i32 h
 unfold Utf8.encode
 simp only[hv,if_true,Int.toNat_natCast]
 by_cases h1:r<0x80
 ·rw[if_pos h1,encR1 (by omega)];rfl
 ·rw[if_neg h1]
  by_cases h2:r<0x800
  ·rw[if_pos h2,encR2 (by omega) (by omega)];rfl
  ·rw[if_neg h2]
   by_cases h3:r<0x10000
   ·rw[if_pos h3,encR3 (by omega) (by omega) h];rfl
   ·rw[if_neg h3,encR4 (by omega) hs];rfl
theorem strR_fold:∀ (p:List Nat) (l:List UInt8),(∀ r∈p,Scal r)→(ints p).foldl (fun r n=>r++Utf8.encode n) (strOf l)=strOf (l++enc p)
 | [],l,_=>by simp[ints,enc]
 | c::p,l,h=>by
   have hc:=h c (List.mem_cons_self ..)
   show (ints p).foldl _ (strOf l++Utf8.encode (c:Int))=_
   rw[encode_str hc,show strOf l++strOf (encR c)=strOf (l++encR c) from Option.some.inj (by have h:=cat_str (l:=l) (m:=encR c);unfold cat at h;by_cases hl:l.length+(encR c).length≤9223372036854775807<;>first | (have:=h hl;rwa [if_pos (by rw[size_str,size_str];exact hl)]at this) | rfl),strR_fold p _ (fun r hr=>h r (List.mem_cons_of_mem _ hr)),enc_cons,List.append_assoc]
theorem strR_ints {p:List Nat} (h:∀ r∈p,Scal r):strR (ints p)=strOf (enc p):=by
 have:=strR_fold p [] h
 rw[List.nil_append]at this
 exact this
theorem rnF_enc:∀ (b a p:List Nat) (n:Nat),(∀ r∈p,Scal r)→p=a++b→(enc b).length≤n→rnF (strOf (enc p)) n (enc a).length=ints b
 | [],a,p,n,_,e,_=>by
   rw[List.append_nil]at e;subst e
   cases n with
   | zero=>rfl
   | succ n=>unfold rnF;rw[if_neg (by rw[size_str];omega)];rfl
 | c::b,a,p,n,hp,e,hn=>by
   have hc:Scal c:=hp c (by rw[e];simp)
   have hcp:=encR_pos c
   rw[enc_cons,List.length_append]at hn
   obtain ⟨n,rfl⟩:∃ m,n=m+1:=⟨n-1,by omega⟩
   obtain ⟨hr1,hr2⟩:=rune_at (s:=strOf (enc p)) (p:=a) (t:=b) hc (by rw[bytes_str,e])
   unfold rnF
   rw[if_pos (by rw[size_str,e,enc_app,enc_cons,List.length_append,List.length_append];omega),hr1,hr2]
   have:=rnF_enc b (a++[c]) p n hp (by rw[e];simp) (by omega)
   rw[enc_snoc,List.length_append]at this
   rw[this];rfl
theorem rn_enc {p:List Nat} (h:∀ r∈p,Scal r) (hl:(enc p).length≤1048576):rn (strOf (enc p))=some (ints p):=by
 unfold rn
 rw[if_pos (by rw[size_str];omega)]
 have:=rnF_enc p [] p (strOf (enc p)).size h rfl (by rw[size_str];omega)
 exact congrArg some this
theorem RuneCount_tot {p:List Nat} (h:∀ r∈p,Scal r) (hl:(enc p).length≤1048576):Tot (fun n=>utf8_RuneCountInString n (strOf (enc p))) (· =(p.length:Int)):=by
 unfold utf8_RuneCountInString
 simp only[size_str]
 refine Tot.bindq (P:=fun j=>j=(p.length:Int)) ?_ fun j hj=>Tot.ret hj
 refine Tot.loop (fun st=>∃ a b,p=a++b∧st=((a.length:Int),(enc a).length)) (fun st=>(enc p).length+1-st.2) ⟨[],p,rfl,rfl⟩ fun st ⟨a,b,e,hst⟩=>?_
 subst hst
 dsimp only
 cases b with
 | nil=>
   rw[List.append_nil]at e;subst e
   exact Tot.if_ (decide_eq_false (by omega)) (Tot.ret rfl)
 | cons c b=>
   have hc:Scal c:=h c (by rw[e];simp)
   have hlen:(enc p).length=(enc a).length+(encR c).length+(enc b).length:=by rw[e,enc_app,enc_cons,List.length_append,List.length_append];omega
   have hcp:=encR_pos c
   have hal:=enc_len_ge a
   refine Tot.it (decide_eq_true (by omega)) ?_
   obtain ⟨hr1,hr2⟩:=rune_at (s:=strOf (enc p)) (p:=a) (t:=b) hc (by rw[bytes_str,e])
   rw[hr2]
   refine Tot.ret ⟨⟨a++[c],b,by rw[e];simp,?_⟩,by dsimp only;omega⟩
   rw[iw (n:=a.length+1) (by omega) (by omega),enc_snoc,List.length_append,List.length_append];rfl
/-! the reference's searches over lists -/
theorem Numbers_tot {a b:List Nat} (ha:a.length≤100000000):Tot (fun n=>ref4_Numbers n (ints a) (ints b)) (· =decide (a=b)):=by
 unfold ref4_Numbers
 rw[ints_len,ints_len]
 refine Tot.ite (fun h=>Tot.ret ?_) fun h=>?_
 ·exact (decide_eq_false fun e=>by subst e;simp at h).symm
 have hl:a.length=b.length:=by
  by_cases e:(a.length:Int)=(b.length:Int)
  ·omega
  ·rw[bne_iff_ne.2 e]at h;cases h
 refine Tot.bindq (P:=fun r=>(r= .inl ()∧a=b)∨(r= .inr false∧a≠b)) ?_ fun r hr=>?_
 ·refine Tot.loop (fun (st:Int)=>∃ i:Nat,st=(i:Int)∧i≤a.length∧a.take i=b.take i) (fun (st:Int)=>a.length-st.toNat) ⟨0,rfl,Nat.zero_le _,rfl⟩ fun st ⟨i,e,hi,hall⟩=>?_
  subst e
  refine Tot.ite (fun h=>?_) fun h=>?_
  ·have h:i<a.length:=by have:=of_decide_eq_true h;omega
   refine Tot.bind0 (ints_get h) (Tot.bind0 (ints_get (l:=b) (by omega)) (Tot.ite (fun q=>Tot.ret (.inr ⟨rfl,fun e=>?_⟩)) fun q=>Tot.ret ⟨⟨i+1,iw (by omega) (by omega),h,?_⟩,?_⟩))
   ·subst e;simp at q
   ·have q:a[i]=b[i]'(by omega):=by
     by_cases e:((a[i]:Nat):Int)=((b[i]'(by omega):Nat):Int)
     ·omega
     ·rw[bne_iff_ne.2 e]at q;cases q
    rw[List.take_succ_eq_append_getElem h,List.take_succ_eq_append_getElem (by omega),hall,q]
   ·rw[iw (n:=i+1) (by omega) (by omega)];omega
  ·have h:i=a.length:=by have:=of_decide_eq_false h;omega
   subst h
   refine Tot.ret (.inl ⟨rfl,?_⟩)
   rw[List.take_length,hl,List.take_length]at hall;exact hall
 ·rcases hr with ⟨e,h⟩ | ⟨e,h⟩
  ·subst e;exact Tot.contl (Tot.ret (decide_eq_true h).symm)
  ·subst e;exact Tot.contr (decide_eq_false h).symm
end Go.Gv.R
namespace Go.Gv.P
open Go Go.Gv Go.Gv.D Go.Gv.R
set_option maxRecDepth 100000
/-! ### numerals, codes -/
def dg (b:UInt8):Bool:=decide (48≤b.toNat)&&decide (b.toNat≤57)
def valN (acc:Nat):List UInt8→Nat
 | []=>acc
 | c::r=>valN (10*acc+(c.toNat-48)) r
theorem valN_ge:∀ (l:List UInt8) (acc:Nat),acc≤valN acc l
 | [],_=>Nat.le_refl _
 | c::r,acc=>by
   have:=valN_ge r (10*acc+(c.toNat-48))
   show acc≤valN (10*acc+(c.toNat-48)) r
   omega
theorem valN_snoc:∀ (l:List UInt8) (acc:Nat) (c:UInt8),valN acc (l++[c])=10*valN acc l+(c.toNat-48)
 | [],_,_=>rfl
 | d::r,acc,c=>valN_snoc r (10*acc+(d.toNat-48)) c
theorem parse_dg:∀ (l:List UInt8) (acc:Nat),(∀ b∈l,dg b=true)→Lib.parseUint10 acc l= .ok (valN acc l)∨(Lib.parseUint10 acc l= .range∧9223372036854775808≤valN acc l)
 | [],acc,_=>.inl rfl
 | c::r,acc,h=>by
   have hc:48≤c.toNat∧c.toNat≤57:=by
    have:=h c (List.mem_cons_self ..)
    simpa [dg] using this
   have hg:=valN_ge r (10*acc+(c.toNat-48))
   have e:Lib.parseUint10 acc (c::r)=if 1844674407370955162≤acc then .range else if 18446744073709551616≤acc*10+(c.toNat-48) then .range else Lib.parseUint10 (acc*10+(c.toNat-48)) r:=by
    rw[Lib.parseUint10,if_pos hc]
   rw[e]
   show _∨(_∧9223372036854775808≤valN (10*acc+(c.toNat-48)) r)
   by_cases h1:1844674407370955162≤acc
   ·rw[if_pos h1]
    exact .inr ⟨rfl,by omega⟩
   rw[if_neg h1]
   by_cases h2:18446744073709551616≤acc*10+(c.toNat-48)
   ·rw[if_pos h2]
    exact .inr ⟨rfl,by omega⟩
   rw[if_neg h2,Nat.mul_comm]
   exact parse_dg r _ fun b hb=>h b (List.mem_cons_of_mem _ hb)
theorem atoi_dg {l:List UInt8} (h:∀ b∈l,dg b=true) (hl:l≠[]):(Lib.atoiAll l= .ok (valN 0 l:Int))∨(Lib.atoiAll l= .range∧9223372036854775808≤valN 0 l):=by
 cases l with
 | nil=>exact absurd rfl hl
 | cons c r=>
   have hc:48≤c.toNat∧c.toNat≤57:=by
    have:=h c (List.mem_cons_self ..)
    simpa [dg] using this
   have hm:Lib.parseMag (c::r)=Lib.parseUint10 0 (c::r):=by unfold Lib.parseMag;rw[if_neg (by simp)]
   unfold Lib.atoiAll
   simp only
   rw[if_neg (show ¬ (c.toNat=43∨c.toNat=45) by omega),hm]
   rcases parse_dg (c::r) 0 h with e | ⟨e,e2⟩
   ·rw[e]
    simp only
    have hn:¬ c.toNat=45:=by omega
    by_cases hb:9223372036854775808≤valN 0 (c::r)
    ·rw[if_pos ⟨hn,hb⟩]
     exact .inr ⟨rfl,hb⟩
    ·rw[if_neg (by omega),if_neg (by omega)]
     rw[if_neg hn];exact .inl rfl
   ·rw[e]
    exact .inr ⟨rfl,e2⟩
theorem tens (x:UInt8):([48,49,50,51,52,53,54,55,56,57]:List UInt8).contains x=dg x:=
 by
  have:=beq_iff_eq.1 (byte_all (p:=fun n=>([48,49,50,51,52,53,54,55,56,57]:List UInt8).contains n.toUInt8==(decide (48≤n)&&decide (n≤57))) (by kernel_rfl) x)
  rw[show x.toNat.toUInt8=x from UInt8.ofNat_toNat]at this
  exact this
def tw (L:List UInt8):List UInt8:=L.takeWhile dg
def dw (L:List UInt8):List UInt8:=L.dropWhile dg
theorem tw_dw (L:List UInt8):tw L++dw L=L:=List.takeWhile_append_dropWhile
theorem tw_dg (L:List UInt8):∀ b∈tw L,dg b=true:=fun b hb=>by
 have:∀ (M:List UInt8),∀ b∈M.takeWhile dg,dg b=true:=by
  intro M
  induction M with
  | nil=>intro b hb;simp at hb
  | cons c r ih=>
    intro b hb
    simp only[List.takeWhile_cons]at hb
    split at hb
    ·rcases List.mem_cons.1 hb with e | e
     ·subst e;assumption
     ·exact ih b e
    ·simp at hb
 exact this L b hb
theorem tw_take (L:List UInt8):L.take (tw L).length=tw L:=by
 have:=List.take_left (l₁:=tw L) (l₂:=dw L)
 rwa [tw_dw]at this
theorem tw_drop (L:List UInt8):L.drop (tw L).length=dw L:=by
 have:=List.drop_left (l₁:=tw L) (l₂:=dw L)
 rwa [tw_dw]at this
theorem tw_len (L:List UInt8):(tw L).length+(dw L).length=L.length:=by
 rw[← List.length_append,tw_dw]
end Go.Gv.P
namespace Go.Gv.P
open Go Go.Gv Go.Gv.D
set_option maxRecDepth 100000
theorem formats_tot:Tot (fun n=>law4_formats n) (· =true):=Tot.of_all 100 (fun k=>by kernel_rfl) rfl
end Go.Gv.P
