import Derived.Test.YtbiopeiafkldiaaGreatDoorX1
set_option linter.all false
namespace Go.Gv.R
open Go Go.Gv Go.Gv.D Go.Gv.P Go.Lib
set_option maxRecDepth 100000
theorem getD_sidx {l:List UInt8} {i:Nat} (h:i<l.length):sidx (strOf l) (i:Int)=some ((l.getD i 0).toNat:Int):=by
 unfold sidx strOf
 rw[if_pos (by omega)]
 simp[h]
theorem slowS_tot {l:List UInt8} (hl:0<l.length):Tot (fun fuel=>utf8_decodeRuneInStringSlow fuel (strOf l)) (fun r=>r=(((decodeL l).1:Int),((decodeL l).2:Int))):=by
 unfold utf8_decodeRuneInStringSlow
 simp only[size_str]
 have b0:=byte_lt (l.getD 0 0)
 have b1:=byte_lt (l.getD 1 0)
 have b2:=byte_lt (l.getD 2 0)
 have b3:=byte_lt (l.getD 3 0)
 refine Tot.if_ (decide_eq_false (by omega)) (Tot.bind0 (getD_sidx hl) (Tot.bind0 (first_at b0) ?_))
 obtain ⟨f1,f2,f3⟩:=first_parts b0
 rw[f1]at*
 rw[decodeL_N]
 refine Tot.ite (fun h=>?_) (fun h=>?_)
 ·have h:240≤firstT (l.getD 0 0).toNat:=by have:((firstT (l.getD 0 0).toNat:Nat):Int)≥240:=of_decide_eq_true h;omega
  refine Tot.some_bind (Tot.bind0 (getD_sidx hl) (Tot.some_bind (Tot.ret ?_)))
  rw[slow_byte b0 h]
  rcases firstT_240 h with e | e
  ·rw[if_pos e,ascii_eq _ _ _ _ _ e];rfl
  ·rw[if_neg (by omega),bad_eq _ _ _ _ _ b0 e];rfl
 ·have h:firstT (l.getD 0 0).toNat<240:=by have:¬ ((firstT (l.getD 0 0).toNat:Nat):Int)≥240:=of_decide_eq_false h;omega
  have hs:=slow_eq l.length (l.getD 0 0).toNat (l.getD 1 0).toNat (l.getD 2 0).toNat (l.getD 3 0).toNat hl b1 b2 b3 h
  have hlow:=firstT_low h
  have hsz:2≤firstT (l.getD 0 0).toNat%8∧firstT (l.getD 0 0).toNat%8≤4:=by
   rcases hlow with c | c | c | c | c | c | c
   ·rw[firstT_C2 c];decide
   ·rw[firstT_E0 c];decide
   ·rw[firstT_E1 c];decide
   ·rw[firstT_ED c];decide
   ·rw[firstT_F0 c];decide
   ·rw[firstT_F1 c];decide
   ·rw[firstT_F4 c];decide
  refine Tot.some_bind ?_
  rw[f2,f3]
  refine Tot.bind0 (acc_at (by omega)) ?_
  rw[← hs]
  unfold slowN
  generalize accLo (firstT (l.getD 0 0).toNat/16)=lo
  generalize accHi (firstT (l.getD 0 0).toNat/16)=hi
  generalize firstT (l.getD 0 0).toNat%8=sz at hsz
  refine Tot.ite (fun q=>?_) (fun q=>?_)
  ·have q:(l.length:Int)<(sz:Int):=of_decide_eq_true q
   exact Tot.ret (by rw[if_pos (by omega)];rfl)
  have q:¬ (l.length:Int)<(sz:Int):=of_decide_eq_false q
  rw[if_neg (by omega)]
  refine Tot.bind0 (getD_sidx (i:=1) (by omega)) (Tot.bindq (P:=fun r=>r=decide ((l.getD 1 0).toNat<lo∨hi<(l.getD 1 0).toNat)) ?_ fun r hr=>?_)
  ·refine Tot.ite (fun q1=>?_) (fun q1=>?_)
   ·have q1:((l.getD 1 0).toNat:Int)<(lo:Int):=of_decide_eq_true q1
    exact Tot.ret (decide_eq_true (.inl (by omega))).symm
   ·have q1:¬ ((l.getD 1 0).toNat:Int)<(lo:Int):=of_decide_eq_false q1
    exact Tot.ret (decide_eq_decide.2 ⟨fun h=>.inr (by dsimp only at h;omega),fun h=>by dsimp only;omega⟩)
  subst hr
  refine Tot.ite (fun q1=>?_) (fun q1=>?_)
  ·rw[if_pos (of_decide_eq_true q1)];exact Tot.ret rfl
  rw[if_neg (of_decide_eq_false q1)]
  refine Tot.ite (fun q2=>?_) (fun q2=>?_)
  ·have q2:(sz:Int)≤2:=of_decide_eq_true q2
   rw[if_pos (by omega)]
   refine Tot.some_bind (Tot.ret ?_)
   rw[(and_u8 b0).2.2.1,(and_u8 b1).2.2.2,sh32 _ 6 (by omega),i32_small (by omega) (by omega),or32 _ _ 6 (by omega) (by omega),Nat.mul_comm]
   rfl
  have q2:¬ (sz:Int)≤2:=of_decide_eq_false q2
  rw[if_neg (by omega)]
  refine Tot.bind0 (getD_sidx (i:=2) (by omega)) (Tot.ite (fun q3=>?_) (fun q3=>?_))
  ·have q3:(l.getD 2 0).toNat<128∨191<(l.getD 2 0).toNat:=by
    rcases Bool.or_eq_true_iff.1 q3 with h | h
    ·have:((l.getD 2 0).toNat:Int)<128:=of_decide_eq_true h;omega
    ·have:191<((l.getD 2 0).toNat:Int):=of_decide_eq_true h;omega
   rw[if_pos q3];exact Tot.ret rfl
  have q3:¬ ((l.getD 2 0).toNat<128∨191<(l.getD 2 0).toNat):=fun h=>by
   have:(decide (((l.getD 2 0).toNat:Int)<128)||decide (191<((l.getD 2 0).toNat:Int)))=true:=Bool.or_eq_true_iff.2 (by
    rcases h with h | h
    ·exact .inl (decide_eq_true (by omega))
    ·exact .inr (decide_eq_true (by omega)))
   rw[this]at q3;cases q3
  rw[if_neg q3]
  refine Tot.ite (fun q4=>?_) (fun q4=>?_)
  ·have q4:(sz:Int)≤3:=of_decide_eq_true q4
   rw[if_pos (by omega)]
   refine Tot.some_bind (Tot.ret ?_)
   rw[(and_u8 b0).2.1,(and_u8 b1).2.2.2,(and_u8 b2).2.2.2,sh32 _ 12 (by omega),sh32 _ 6 (by omega),i32_small (by omega) (by omega),or32 _ _ 12 (by omega) (by omega),show 2^12*((l.getD 0 0).toNat%16)+2^6*((l.getD 1 0).toNat%64)=2^6*((l.getD 0 0).toNat%16*64+(l.getD 1 0).toNat%64) by omega,or32 _ _ 6 (by omega) (by omega),show 2^6*((l.getD 0 0).toNat%16*64+(l.getD 1 0).toNat%64)+(l.getD 2 0).toNat%64=(l.getD 0 0).toNat%16*4096+(l.getD 1 0).toNat%64*64+(l.getD 2 0).toNat%64 by omega]
   rfl
  have q4:¬ (sz:Int)≤3:=of_decide_eq_false q4
  rw[if_neg (by omega)]
  refine Tot.bind0 (getD_sidx (i:=3) (by omega)) (Tot.ite (fun q3=>?_) (fun q3=>?_))
  ·have q3:(l.getD 3 0).toNat<128∨191<(l.getD 3 0).toNat:=by
    rcases Bool.or_eq_true_iff.1 q3 with h | h
    ·have:((l.getD 3 0).toNat:Int)<128:=of_decide_eq_true h;omega
    ·have:191<((l.getD 3 0).toNat:Int):=of_decide_eq_true h;omega
   rw[if_pos q3];exact Tot.ret rfl
  have q3:¬ ((l.getD 3 0).toNat<128∨191<(l.getD 3 0).toNat):=fun h=>by
   have:(decide (((l.getD 3 0).toNat:Int)<128)||decide (191<((l.getD 3 0).toNat:Int)))=true:=Bool.or_eq_true_iff.2 (by
    rcases h with h | h
    ·exact .inl (decide_eq_true (by omega))
    ·exact .inr (decide_eq_true (by omega)))
   rw[this]at q3;cases q3
  rw[if_neg q3]
  refine Tot.some_bind (Tot.ret ?_)
  rw[(and_u8 b0).1,(and_u8 b1).2.2.2,(and_u8 b2).2.2.2,(and_u8 b3).2.2.2,sh32 _ 18 (by omega),sh32 _ 12 (by omega),sh32 _ 6 (by omega),i32_small (by omega) (by omega),or32 _ _ 18 (by omega) (by omega),show 2^18*((l.getD 0 0).toNat%8)+2^12*((l.getD 1 0).toNat%64)=2^12*((l.getD 0 0).toNat%8*64+(l.getD 1 0).toNat%64) by omega,or32 _ _ 12 (by omega) (by omega),show 2^12*((l.getD 0 0).toNat%8*64+(l.getD 1 0).toNat%64)+2^6*((l.getD 2 0).toNat%64)=2^6*(((l.getD 0 0).toNat%8*64+(l.getD 1 0).toNat%64)*64+(l.getD 2 0).toNat%64) by omega,or32 _ _ 6 (by omega) (by omega),show 2^6*(((l.getD 0 0).toNat%8*64+(l.getD 1 0).toNat%64)*64+(l.getD 2 0).toNat%64)+(l.getD 3 0).toNat%64=(l.getD 0 0).toNat%8*262144+(l.getD 1 0).toNat%64*4096+(l.getD 2 0).toNat%64*64+(l.getD 3 0).toNat%64 by omega]
  rfl
theorem Decode0_tot:Tot (fun fuel=>utf8_DecodeRuneInString fuel (strOf [])) (fun r=>r=(65533,0)):=Tot.of_all 5 (fun k=>by kernel_rfl) rfl
theorem DecodeS_tot {l:List UInt8} (hl:0<l.length):Tot (fun fuel=>utf8_DecodeRuneInString fuel (strOf l)) (fun r=>r=(((decodeL l).1:Int),((decodeL l).2:Int))):=by
 unfold utf8_DecodeRuneInString
 have hne:(!((strOf l).toList==(strOf []).toList))=true:=by
  rw[str_eq]
  have:strOf l≠strOf []:=fun e=>by have:=congrArg bytesOf e;rw[bytes_str,bytes_str]at this;subst this;simp at hl
  simp[this]
 refine Tot.bindq (P:=fun b=>b=decide ((l.getD 0 0).toNat<128)) ?_ fun b hb=>?_
 ·refine Tot.it hne (Tot.bind0 (getD_sidx (i:=0) hl) (Tot.ret ?_))
  simp only[decide_eq_decide];omega
 subst hb
 refine Tot.ite (fun h=>?_) (fun h=>?_)
 ·have h:=of_decide_eq_true h
  refine Tot.bind0 (getD_sidx (i:=0) hl) (Tot.ret ?_)
  rw[decodeL_N,i32_small (by omega) (by omega)]
  unfold decodeN
  rw[if_pos h];rfl
 ·exact Tot.bindq (slowS_tot hl) fun r hr=>Tot.ret (by subst hr;rfl)
end Go.Gv.R
namespace Go.Gv.P
open Go Go.Gv Go.Gv.D Go.Gv.R Go.Lib
set_option maxRecDepth 100000
/-- whether a code point is one of a set of bytes -/
def inC (S:List UInt8) (c:Nat):Bool:=decide (c<128)&&S.contains (UInt8.ofNat c)
def tk (S:List UInt8):List Nat→Nat × List Nat
 | []=>(0,[])
 | c::r=>if inC S c then (c,r) else (0,c::r)
theorem head_enc {c:Nat} (h:Scal c) (r:List Nat):∃ b t,enc (c::r)=b::t∧(c<128→b=UInt8.ofNat c∧t=enc r)∧(128≤c→128≤b.toNat):=by
 rw[enc_cons]
 have hs:c≤1114111:=by unfold Scal at h;omega
 have tn:∀ k,k<256→(UInt8.ofNat k).toNat=k:=fun k hk=>by simp[UInt8.toNat_ofNat',Nat.mod_eq_of_lt hk]
 rcases Nat.lt_or_ge c 128 with h1 | h1
 ·rw[encR1 (by omega)]
  exact ⟨_,_,rfl,fun _=>⟨rfl,rfl⟩,fun h=>by omega⟩
 rcases Nat.lt_or_ge c 2048 with h2 | h2
 ·rw[encR2 h1 (by omega)]
  exact ⟨_,_,rfl,fun h=>by omega,fun _=>by rw[tn _ (by omega)];omega⟩
 rcases Nat.lt_or_ge c 65536 with h3 | h3
 ·rw[encR3 h2 (by omega) h]
  exact ⟨_,_,rfl,fun h=>by omega,fun _=>by rw[tn _ (by omega)];omega⟩
 ·rw[encR4 h3 hs]
  exact ⟨_,_,rfl,fun h=>by omega,fun _=>by rw[tn _ (by omega)];omega⟩
structure SetOk (S:List UInt8):Prop where
 ib:∀ x:UInt8,decide (nIdxB (bytesOf (strOf S)) (x.toNat:Int)≥0)=S.contains x
 low:∀ x:UInt8,S.contains x=true→0<x.toNat∧x.toNat<128
 one:∀ (k:Nat) (x:UInt8),ref4_oneOf (k+30) (x.toNat:Int) (strOf S)=some (S.contains x)
theorem setOk {S:List UInt8} (h1:(List.range 256).all (fun n=>decide (nIdxB (bytesOf (strOf S)) (n:Int)≥0)==S.contains n.toUInt8)=true) (h2:(List.range 256).all (fun n=> !(S.contains n.toUInt8)||(decide (0<n)&&decide (n<128)))=true)
 (h3:∀ k,(List.range 256).all (fun n=>ref4_oneOf (k+30) (n:Int) (strOf S)==some (S.contains n.toUInt8))=true):SetOk S where
 ib x:=by
  have:=beq_iff_eq.1 (byte_all h1 x)
  rw[show x.toNat.toUInt8=x from UInt8.ofNat_toNat]at this
  exact this
 low x hx:=by
  have:=byte_all (p:=fun n=> !(S.contains n.toUInt8)||(decide (0<n)&&decide (n<128))) h2 x
  simp only[show x.toNat.toUInt8=x from UInt8.ofNat_toNat,hx,Bool.not_true,Bool.false_or,Bool.and_eq_true,decide_eq_true_eq]at this
  exact this
 one k x:=by
  have:=beq_iff_eq.1 (byte_all (h3 k) x)
  rw[show x.toNat.toUInt8=x from UInt8.ofNat_toNat]at this
  exact this
def AL:List UInt8:=[60,62,94,61]
def SG:List UInt8:=[43,45,32]
def BA:List UInt8:=[35]
def ZE:List UInt8:=[48]
def NZ:List UInt8:=[49,50,51,52,53,54,55,56,57]
def GR:List UInt8:=[44,95]
def PT:List UInt8:=[46]
def TY:List UInt8:=[98,111,120,88,100,102,101,37,115]
theorem AL_ok:SetOk AL:=setOk (by kernel_rfl) (by kernel_rfl) (fun k=>by kernel_rfl)
theorem SG_ok:SetOk SG:=setOk (by kernel_rfl) (by kernel_rfl) (fun k=>by kernel_rfl)
theorem BA_ok:SetOk BA:=setOk (by kernel_rfl) (by kernel_rfl) (fun k=>by kernel_rfl)
theorem ZE_ok:SetOk ZE:=setOk (by kernel_rfl) (by kernel_rfl) (fun k=>by kernel_rfl)
theorem GR_ok:SetOk GR:=setOk (by kernel_rfl) (by kernel_rfl) (fun k=>by kernel_rfl)
theorem PT_ok:SetOk PT:=setOk (by kernel_rfl) (by kernel_rfl) (fun k=>by kernel_rfl)
theorem TY_ok:SetOk TY:=setOk (by kernel_rfl) (by kernel_rfl) (fun k=>by kernel_rfl)
theorem in_tot {S:List UInt8} (hS:SetOk S) (x:UInt8):Tot (fun n=>fmtspec_in n (x.toNat:Int) (strOf S)) (· =S.contains x):=by
 unfold fmtspec_in strings_IndexByte stringslite_IndexByte
 exact Tot.ret (hS.ib x)
theorem one_tot {S:List UInt8} (hS:SetOk S) (x:UInt8):Tot (fun n=>ref4_oneOf n (x.toNat:Int) (strOf S)) (· =S.contains x):=Tot.of_all 30 (fun k=>hS.one k x) rfl
theorem ofNat_toNat' {c:Nat} (h:c<128):(UInt8.ofNat c).toNat=c:=by simp[UInt8.toNat_ofNat',Nat.mod_eq_of_lt (show c<256 by omega)]
theorem inC_head {S:List UInt8} (hS:SetOk S) {c:Nat} (h:Scal c) {r:List Nat} {b:UInt8} {t:List UInt8} (e:enc (c::r)=b::t):S.contains b=inC S c∧(inC S c=true→b=UInt8.ofNat c∧t=enc r∧c<128∧0<c∧b.toNat=c):=by
 obtain ⟨b',t',e',h1,h2⟩:=head_enc h r
 rw[e]at e'
 cases e'
 unfold inC
 rcases Nat.lt_or_ge c 128 with hc | hc
 ·obtain ⟨rfl,rfl⟩:=h1 hc
  rw[decide_eq_true hc,Bool.true_and]
  refine ⟨rfl,fun hh=>⟨rfl,rfl,hc,?_,ofNat_toNat' hc⟩⟩
  have:=(hS.low _ hh).1
  rw[ofNat_toNat' hc]at this;exact this
 ·rw[decide_eq_false (by omega),Bool.false_and]
  refine ⟨?_,fun hh=>by cases hh⟩
  cases hb:S.contains b
  ·rfl
  ·have:=(hS.low _ hb).2
   have:=h2 hc;omega
theorem str_ne {b:UInt8} {t:List UInt8}:((strOf (b::t)).toList==(strOf []).toList)=false:=by
 rw[str_eq]
 refine decide_eq_false fun e=>?_
 have:=congrArg bytesOf e
 rw[bytes_str,bytes_str]at this
 cases this
theorem str_nil:((strOf []).toList==(strOf []).toList)=true:=by rw[str_eq];exact decide_eq_true rfl
theorem sidx0 (b:UInt8) (t:List UInt8):sidx (strOf (b::t)) 0=some (b.toNat:Int):=by
 have:=getD_sidx (l:=b::t) (i:=0) (by simp)
 simpa using this
theorem tail1 {b:UInt8} {t:List UInt8}:ssub (strOf (b::t)) 1 (((strOf (b::t)).size:Nat):Int)=some (strOf t):=by
 rw[size_str]
 have:=ssub_str (l:=b::t) (i:=1) (j:=(b::t).length) (by simp) (Nat.le_refl _)
 rw[List.take_length]at this
 exact this
theorem take_tot {S:List UInt8} (hS:SetOk S) {l:List Nat} (hl:∀ r∈l,Scal r):Tot (fun n=>fmtspec_reader_take n (strOf (enc l)) (strOf S)) (· =(((tk S l).1:Int),strOf (enc (tk S l).2))):=by
 unfold fmtspec_reader_take
 cases l with
 | nil=>exact Tot.bindq (P:=(· =true)) (Tot.it str_nil (Tot.ret rfl)) fun j hj=>Tot.it hj (Tot.ret rfl)
 | cons c r=>
   obtain ⟨b,t,e,_,_⟩:=head_enc (hl c (List.mem_cons_self ..)) r
   obtain ⟨h1,h2⟩:=inC_head hS (hl c (List.mem_cons_self ..)) e
   rw[e]
   refine Tot.bindq (P:=(· = !(inC S c))) (Tot.if_ str_ne (Tot.bind0 (sidx0 b t) (Tot.bindq (in_tot hS b) fun x hx=>Tot.ret (by rw[hx,h1])))) fun j hj=>?_
   subst hj
   cases hc:inC S c
   ·refine Tot.it rfl (Tot.ret ?_)
    simp only[tk,hc]
    rw[← e];rfl
   ·obtain ⟨g1,g2,g3,g4,g5⟩:=h2 hc
    refine Tot.if_ rfl (Tot.bind0 (sidx0 b t) (Tot.bind0 tail1 (Tot.ret ?_)))
    simp only[tk,hc,if_true]
    rw[g5,g2]
end Go.Gv.P
namespace Go.Gv.P
open Go Go.Gv Go.Gv.D Go.Gv.R Go.Lib
set_option maxRecDepth 100000
def dgN (c:Nat):Bool:=decide (48≤c)&&decide (c≤57)
def twN (l:List Nat):List Nat:=l.takeWhile dgN
def dwN (l:List Nat):List Nat:=l.dropWhile dgN
theorem dg_head {c:Nat} (h:Scal c) {r:List Nat} {b:UInt8} {t:List UInt8} (e:enc (c::r)=b::t):dg b=dgN c∧(dgN c=true→t=enc r∧b.toNat=c):=by
 obtain ⟨b',t',e',h1,h2⟩:=head_enc h r
 rw[e]at e'
 cases e'
 rcases Nat.lt_or_ge c 128 with hc | hc
 ·obtain ⟨rfl,rfl⟩:=h1 hc
  refine ⟨?_,fun _=>⟨rfl,ofNat_toNat' hc⟩⟩
  simp only[dg,dgN,ofNat_toNat' hc]
 ·have:=h2 hc
  refine ⟨?_,fun hh=>?_⟩
  ·simp only[dg,dgN]
   rw[decide_eq_false (show ¬ b.toNat≤57 by omega),decide_eq_false (show ¬ c≤57 by omega)]
   simp
  ·simp only[dgN,Bool.and_eq_true,decide_eq_true_eq]at hh;omega
theorem tw_enc:∀ {l:List Nat},(∀ r∈l,Scal r)→tw (enc l)=enc (twN l)∧dw (enc l)=enc (dwN l)
 | [],_=>⟨rfl,rfl⟩
 | c::r,hl=>by
   obtain ⟨b,t,e,_,_⟩:=head_enc (hl c (List.mem_cons_self ..)) r
   obtain ⟨h1,h2⟩:=dg_head (hl c (List.mem_cons_self ..)) e
   rw[e]
   unfold tw dw twN dwN
   rw[List.takeWhile_cons,List.dropWhile_cons,List.takeWhile_cons,List.dropWhile_cons,h1]
   cases hc:dgN c
   ·exact ⟨rfl,e.symm⟩
   ·obtain ⟨rfl,hb⟩:=h2 hc
    obtain ⟨i1,i2⟩:=tw_enc (l:=r) fun x hx=>hl x (List.mem_cons_of_mem _ hx)
    refine ⟨?_,i2⟩
    simp only[if_true]
    unfold tw twN at i1
    rw[i1,enc_cons]
    rw[enc_cons]at e
    have:c≤127:=by simp only[dgN,Bool.and_eq_true,decide_eq_true_eq]at hc;omega
    rw[encR1 this]at e ⊢
    have:=(List.cons.inj e).1
    rw[this];rfl
def DG10:List UInt8:=[48,49,50,51,52,53,54,55,56,57]
theorem trim_dg (n:Nat) (L:List UInt8):strings_TrimLeft n (strOf L) (strOf DG10)=some (strOf (dw L)):=by
 unfold strings_TrimLeft
 rw[if_pos ⟨by rw[size_str];decide,by rfl⟩,bytes_str,bytes_str]
 congr 2
 unfold Lib.trimLeftS dw
 congr 1
 funext x
 exact tens x
/-- what reader.number gives -/
def nb:List Nat→Int × List Nat
 | []=>(-1,[])
 | c::r=>if c=48 then (0,r) else if dgN c=true then (((min (valN 0 (enc (twN (c::r)))) 401:Nat):Int),dwN (c::r)) else (-1,c::r)
theorem number_rest {L:List UInt8} {k v:Nat} {rest:List UInt8} (hk:0<k) (hk2:k≤L.length) (hr:rest=L.drop k) (hL:L.length≤100000) (hd:∀ b∈L.take k,dg b=true) (hv:valN 0 (L.take k)=v):
 Tot (fun n=>if (((k:Nat):Int)==0)=true then some ((-1:Int),strOf L) else (ssub (strOf L) 0 ((k:Nat):Int)).bind fun x33=>(ssub (strOf L) ((k:Nat):Int) (((strOf L).size:Nat):Int)).bind fun x35=>(strconv_Atoi n x33).bind fun r41=>if (!r41.2)=true then some ((if 401<r41.1 then 401 else r41.1),x35) else some (401,x35))
  (· =(((min v 401:Nat):Int),strOf rest)):=by
 refine Tot.if_ (by simp;omega) ?_
 have h1:=ssub_str (l:=L) (i:=0) (j:=k) (Nat.zero_le _) hk2
 rw[List.drop_zero]at h1
 refine Tot.bind0 h1 ?_
 rw[size_str]
 have h2:=ssub_str (l:=L) (i:=k) (j:=L.length) hk2 (Nat.le_refl _)
 rw[List.take_length]at h2
 refine Tot.bind0 h2 ?_
 have hne:L.take k≠[]:=fun e=>by have:=congrArg List.length e;rw[List.length_take]at this;simp only[List.length_nil]at this;omega
 have hlen:(L.take k).length≤100000:=by rw[List.length_take];omega
 subst hr
 unfold strconv_Atoi
 rw[if_pos (by rw[size_str];omega),bytes_str]
 rcases atoi_dg hd hne with e | ⟨e,e2⟩
 ·rw[e]
  refine Tot.some_bind (Tot.it rfl (Tot.ret ?_))
  simp only[Prod.mk.injEq,and_true]
  rw[hv]
  split<;>omega
 ·rw[e]
  refine Tot.some_bind (Tot.if_ rfl (Tot.ret ?_))
  rw[hv]at e2
  simp only[Prod.mk.injEq,and_true]
  omega
theorem number_tot {l:List Nat} (hl:∀ r∈l,Scal r) (hz:(enc l).length≤100000):Tot (fun n=>fmtspec_reader_number n (strOf (enc l))) (· =((nb l).1,strOf (enc (nb l).2))):=by
 unfold fmtspec_reader_number
 have hlen:=tw_len (enc l)
 refine Tot.bindq (P:=(· =strOf (dw (enc l)))) ⟨_,rfl,0,fun n _=>trim_dg n (enc l)⟩ fun r hr=>?_
 subst hr
 refine Tot.some_bind ?_
 rw[size_str,size_str,i64_small (by omega) (by omega),show (((enc l).length:Int)-((dw (enc l)).length:Int))=((tw (enc l)).length:Int) by omega]
 cases l with
 | nil=>
   refine Tot.bindq (P:=(· =false)) (Tot.if_ (by rw[show enc []=[] from rfl,str_nil];rfl) (Tot.ret rfl)) fun j hj=>?_
   subst hj
   refine Tot.bindq (P:=(· =0)) (Tot.if_ rfl (Tot.ret rfl)) fun k hk=>?_
   subst hk
   exact Tot.it rfl (Tot.ret rfl)
 | cons c r=>
   have hc:=hl c (List.mem_cons_self ..)
   obtain ⟨b,t,e,h1,h2⟩:=head_enc hc r
   obtain ⟨g1,g2⟩:=dg_head hc e
   obtain ⟨i1,i2⟩:=tw_enc hl
   have hb48:((b.toNat:Int)==48)=decide (c=48):=by
    rcases Nat.lt_or_ge c 128 with h | h
    ·rw[(h1 h).1,ofNat_toNat' h,Bool.eq_iff_iff,beq_iff_eq,decide_eq_true_eq];omega
    ·have:=h2 h
     rw[decide_eq_false (by omega)];exact beq_eq_false_iff_ne.2 (by omega)
   refine Tot.bindq (P:=(· =decide (c=48))) (Tot.it (by rw[e,str_ne];rfl) ?_) fun j hj=>?_
   ·rw[e];exact Tot.bind0 (sidx0 b t) (Tot.ret hb48)
   subst hj
   by_cases h48:c=48
   ·subst h48
    refine Tot.bindq (P:=(· =((1:Nat):Int))) (Tot.it (by simp) (Tot.ret rfl)) fun k hk=>?_
    subst hk
    obtain ⟨g3,g4⟩:=g2 (by rfl)
    rw[show nb (48::r)=(0,r) by simp[nb],e]
    have hbd:dg b=true:=by rw[g1];rfl
    have ht:List.take 1 (b::t)=[b]:=rfl
    have:=number_rest (L:=b::t) (k:=1) (v:=0) (rest:=t) (by decide) (by simp) (by simp) (by rw[← e];exact hz) (fun x hx=>by rw[ht]at hx;rw[List.mem_singleton.1 hx];exact hbd) (by rw[ht];show 10*0+(b.toNat-48)=0;rw[g4])
    rw[g3]at this ⊢
    exact this
   ·have hnb:nb (c::r)=if dgN c=true then (((min (valN 0 (enc (twN (c::r)))) 401:Nat):Int),dwN (c::r)) else (-1,c::r):=by simp only[nb,if_neg h48]
    by_cases hd:dgN c=true
    ·rw[hnb,if_pos hd]
     obtain ⟨g3,g4⟩:=g2 hd
     have hp:0<(tw (enc (c::r))).length:=by
      rw[e];unfold tw;rw[List.takeWhile_cons,g1,hd];simp
     refine Tot.bindq (P:=(· =(((tw (enc (c::r))).length:Nat):Int))) (Tot.if_ (by simp[h48]) (Tot.ret rfl)) fun k hk=>?_
     subst hk
     have:=number_rest (L:=enc (c::r)) (k:=(tw (enc (c::r))).length) (v:=valN 0 (enc (twN (c::r)))) (rest:=dw (enc (c::r))) hp (by omega) (tw_drop _).symm hz (fun x hx=>by rw[tw_take]at hx;exact tw_dg _ x hx) (by rw[tw_take,i1])
     rw[i2]at this
     exact this
    ·rw[hnb,if_neg hd]
     have h0:tw (enc (c::r))=[]:=by
      rw[e];unfold tw;rw[List.takeWhile_cons,g1,Bool.eq_false_iff.2 hd];rfl
     refine Tot.bindq (P:=(· =0)) (Tot.if_ (by simp[h48]) (Tot.ret (by rw[h0];rfl))) fun k hk=>?_
     subst hk
     exact Tot.it rfl (Tot.ret rfl)
end Go.Gv.P
