import Derived.Test.YtjhfmibjphdanaaGreatDoorU1
set_option linter.all false
open List renaming mem_cons_self→aa
namespace Go.Gv.P
open Go Go.Gv Go.Gv.D Go.Gv.R
set_option maxRecDepth 100000
/-! ### numerals, codes -/
def dg (b:UInt8):Bool:=decide (48≤b.toNat)&&decide (b.toNat≤57)
def valN (acc:Nat):List UInt8→Nat
 | []=>acc
 | c::r=>valN (10*acc+(c.toNat-48)) r
theorem valN_ge:∀ (l:List UInt8) (acc:Nat),acc≤valN acc l
 | [],_=>Nat.le_refl _
 | c::r,acc=>by
   have:=valN_ge r (10*acc+(c.toNat-48))
   show acc≤valN (10*acc+(c.toNat-48)) r
   omega
theorem valN_snoc:∀ (l:List UInt8) (acc:Nat) (c:UInt8),valN acc (l++[c])=10*valN acc l+(c.toNat-48)
 | [],_,_=>rfl
 | d::r,acc,c=>valN_snoc r (10*acc+(d.toNat-48)) c
theorem parse_dg:∀ (l:List UInt8) (acc:Nat),(∀ b∈l,dg b=true)→Lib.parseUint10 acc l= .ok (valN acc l)∨(Lib.parseUint10 acc l= .range∧9223372036854775808≤valN acc l)
 | [],acc,_=>.inl rfl
 | c::r,acc,h=>by
   have hc:48≤c.toNat∧c.toNat≤57:=by
    have:=h c (aa ..)
    simpa [dg] using this
   have hg:=valN_ge r (10*acc+(c.toNat-48))
   have e:Lib.parseUint10 acc (c::r)=if 1844674407370955162≤acc then .range else if 18446744073709551616≤acc*10+(c.toNat-48) then .range else Lib.parseUint10 (acc*10+(c.toNat-48)) r:=by
    rw[Lib.parseUint10,if_pos hc]
   rw[e]
   show _∨(_∧9223372036854775808≤valN (10*acc+(c.toNat-48)) r)
   by_cases h1:1844674407370955162≤acc
   ·rw[if_pos h1]
    exact .inr ⟨rfl,om⟩
   rw[if_neg h1]
   by_cases h2:18446744073709551616≤acc*10+(c.toNat-48)
   ·rw[if_pos h2]
    exact .inr ⟨rfl,om⟩
   rw[if_neg h2,Nat.mul_comm]
   exact parse_dg r _ fun b hb=>h b (List.mem_cons_of_mem _ hb)
theorem atoi_dg {l:List UInt8} (h:∀ b∈l,dg b=true) (hl:l≠[]):(Lib.atoiAll l= .ok (valN 0 l:Int))∨(Lib.atoiAll l= .range∧9223372036854775808≤valN 0 l):=by
 cases l with
 | nil=>exact absurd rfl hl
 | cons c r=>
   have hc:48≤c.toNat∧c.toNat≤57:=by
    have:=h c (aa ..)
    simpa [dg] using this
   have hm:Lib.parseMag (c::r)=Lib.parseUint10 0 (c::r):=by unfold Lib.parseMag;rw[if_neg (by simp)]
   unfold Lib.atoiAll
   simp only
   rw[if_neg (show ¬ (c.toNat=43∨c.toNat=45) by omega),hm]
   rcases parse_dg (c::r) 0 h with e | ⟨e,e2⟩
   ·rw[e]
    simp only
    have hn:¬ c.toNat=45:=by omega
    by_cases hb:9223372036854775808≤valN 0 (c::r)
    ·rw[if_pos ⟨hn,hb⟩]
     exact .inr ⟨rfl,hb⟩
    ·rw[if_neg om,if_neg om]
     rw[if_neg hn];exact .inl rfl
   ·rw[e]
    exact .inr ⟨rfl,e2⟩
theorem tens (x:UInt8):([48,49,50,51,52,53,54,55,56,57]:List UInt8).contains x=dg x:=
 by
  have:=beq_iff_eq.1 (byte_all (p:=fun n=>([48,49,50,51,52,53,54,55,56,57]:List UInt8).contains n.toUInt8==(decide (48≤n)&&decide (n≤57))) (by kernel_rfl) x)
  rw[show x.toNat.toUInt8=x from UInt8.ofNat_toNat]at this
  exact this
def tw (L:List UInt8):List UInt8:=L.takeWhile dg
def dw (L:List UInt8):List UInt8:=L.dropWhile dg
theorem tw_dw (L:List UInt8):tw L++dw L=L:=List.takeWhile_append_dropWhile
theorem tw_dg (L:List UInt8):∀ b∈tw L,dg b=true:=fun b hb=>by
 have:∀ (M:List UInt8),∀ b∈M.takeWhile dg,dg b=true:=by
  intro M
  induction M with
  | nil=>intro b hb;simp at hb
  | cons c r ih=>
    intro b hb
    simp only[List.takeWhile_cons]at hb
    split at hb
    ·rcases List.mem_cons.1 hb with e | e
     ·subst e;assumption
     ·exact ih b e
    ·simp at hb
 exact this L b hb
theorem tw_take (L:List UInt8):L.take (tw L).length=tw L:=by
 have:=List.take_left (l₁:=tw L) (l₂:=dw L)
 rwa [tw_dw]at this
theorem tw_drop (L:List UInt8):L.drop (tw L).length=dw L:=by
 have:=List.drop_left (l₁:=tw L) (l₂:=dw L)
 rwa [tw_dw]at this
theorem tw_len (L:List UInt8):(tw L).length+(dw L).length=L.length:=by
 rw[← List.length_append,tw_dw]
end Go.Gv.P
namespace Go.Gv.R
open Go Go.Gv Go.Gv.D Go.Gv.P Go.Lib
set_option maxRecDepth 100000
theorem getD_sidx {l:List UInt8} {i:Nat} (h:i<l.length):sidx (strOf l) (i:Int)=some ((l.getD i 0).toNat:Int):=by
 unfold sidx strOf
 rw[if_pos om]
 simp[h]
end Go.Gv.R
namespace Go.Gv.P
open Go Go.Gv Go.Gv.D Go.Gv.R Go.Lib
set_option maxRecDepth 100000
theorem head_enc {c:Nat} (h:Scal c) (r:List Nat):∃ b t,enc (c::r)=b::t∧(c<128→b=UInt8.ofNat c∧t=enc r)∧(128≤c→128≤b.toNat):=by
 rw[enc_cons]
 have hs:c≤1114111:=by unfold Scal at h;omega
 have tn:∀ k,k<256→(UInt8.ofNat k).toNat=k:=fun k hk=>by simp[UInt8.toNat_ofNat',Nat.mod_eq_of_lt hk]
 rcases Nat.lt_or_ge c 128 with h1 | h1
 ·rw[encR1 om]
  exact ⟨_,_,rfl,fun _=>⟨rfl,rfl⟩,fun h=>by omega⟩
 rcases Nat.lt_or_ge c 2048 with h2 | h2
 ·rw[encR2 h1 om]
  exact ⟨_,_,rfl,fun h=>by omega,fun _=>by rw[tn _ om];omega⟩
 rcases Nat.lt_or_ge c 65536 with h3 | h3
 ·rw[encR3 h2 om h]
  exact ⟨_,_,rfl,fun h=>by omega,fun _=>by rw[tn _ om];omega⟩
 ·rw[encR4 h3 hs]
  exact ⟨_,_,rfl,fun h=>by omega,fun _=>by rw[tn _ om];omega⟩
theorem ofNat_toNat' {c:Nat} (h:c<128):(UInt8.ofNat c).toNat=c:=by simp[UInt8.toNat_ofNat',Nat.mod_eq_of_lt (show c<256 by omega)]
theorem str_ne {b:UInt8} {t:List UInt8}:((strOf (b::t)).toList==(strOf []).toList)=false:=by
 rw[str_eq]
 refine dff fun e=>?_
 have:=congrArg bytesOf e
 rw[bytes_str,bytes_str]at this
 cases this
theorem str_nil:((strOf []).toList==(strOf []).toList)=true:=by rw[str_eq];exact dtt rfl
theorem sidx0 (b:UInt8) (t:List UInt8):sidx (strOf (b::t)) 0=some (b.toNat:Int):=by
 have:=getD_sidx (l:=b::t) (i:=0) (by simp)
 simpa using this
end Go.Gv.P
namespace Go.Gv.P
open Go Go.Gv Go.Gv.D Go.Gv.R Go.Lib
set_option maxRecDepth 100000
def dgN (c:Nat):Bool:=decide (48≤c)&&decide (c≤57)
def twN (l:List Nat):List Nat:=l.takeWhile dgN
def dwN (l:List Nat):List Nat:=l.dropWhile dgN
theorem dg_head {c:Nat} (h:Scal c) {r:List Nat} {b:UInt8} {t:List UInt8} (e:enc (c::r)=b::t):dg b=dgN c∧(dgN c=true→t=enc r∧b.toNat=c):=by
 obtain ⟨b',t',e',h1,h2⟩:=head_enc h r
 rw[e]at e'
 cases e'
 rcases Nat.lt_or_ge c 128 with hc | hc
 ·obtain ⟨rfl,rfl⟩:=h1 hc
  refine ⟨?_,fun _=>⟨rfl,ofNat_toNat' hc⟩⟩
  simp only[dg,dgN,ofNat_toNat' hc]
 ·have:=h2 hc
  refine ⟨?_,fun hh=>?_⟩
  ·simp only[dg,dgN]
   rw[dff (show ¬ b.toNat≤57 by omega),dff (show ¬ c≤57 by omega)]
   simp
  ·simp only[dgN,Bool.and_eq_true,decide_eq_true_eq]at hh;omega
theorem tw_enc:∀ {l:List Nat},(∀ r∈l,Scal r)→tw (enc l)=enc (twN l)∧dw (enc l)=enc (dwN l)
 | [],_=>⟨rfl,rfl⟩
 | c::r,hl=>by
   obtain ⟨b,t,e,_,_⟩:=head_enc (hl c (aa ..)) r
   obtain ⟨h1,h2⟩:=dg_head (hl c (aa ..)) e
   rw[e]
   unfold tw dw twN dwN
   rw[List.takeWhile_cons,List.dropWhile_cons,List.takeWhile_cons,List.dropWhile_cons,h1]
   cases hc:dgN c
   ·exact ⟨rfl,e.symm⟩
   ·obtain ⟨rfl,hb⟩:=h2 hc
    obtain ⟨i1,i2⟩:=tw_enc (l:=r) fun x hx=>hl x (List.mem_cons_of_mem _ hx)
    refine ⟨?_,i2⟩
    simp only[if_true]
    unfold tw twN at i1
    rw[i1,enc_cons]
    rw[enc_cons]at e
    have:c≤127:=by simp only[dgN,Bool.and_eq_true,decide_eq_true_eq]at hc;omega
    rw[encR1 this]at e ⊢
    have:=(List.cons.inj e).1
    rw[this];rfl
def DG10:List UInt8:=[48,49,50,51,52,53,54,55,56,57]
theorem trim_dg (n:Nat) (L:List UInt8):strings_TrimLeft n (strOf L) (strOf DG10)=some (strOf (dw L)):=by
 unfold strings_TrimLeft
 rw[if_pos ⟨by rw[size_str];decide,by rfl⟩,bytes_str,bytes_str]
 congr 2
 unfold Lib.trimLeftS dw
 congr 1
 funext x
 exact tens x
/-- what reader.number gives -/
def nb:List Nat→Int × List Nat
 | []=>(-1,[])
 | c::r=>if c=48 then (0,r) else if dgN c=true then (((min (valN 0 (enc (twN (c::r)))) 401:Nat):Int),dwN (c::r)) else (-1,c::r)
end Go.Gv.P
