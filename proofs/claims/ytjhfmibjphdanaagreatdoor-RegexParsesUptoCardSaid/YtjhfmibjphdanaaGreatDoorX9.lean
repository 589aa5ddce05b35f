import Derived.Test.YtjhfmibjphdanaaGreatDoorX5
set_option linter.all false
open Bool renaming false_eq_true→aa
open List renaming isPrefixOf_iff_prefix→ab,mem_cons_of_mem→ac
namespace Go.Gv.X
open Go Go.Gv Go.Gv.D Go.Gv.R Go.Gv.P Go.Lib
set_option maxRecDepth 100000
/-! Own work: what is written is read as it was (2). -/
theorem Tot.alln {α:Type} {f:Nat→Option α} {a:α} (h:∀ n,f n=some a):Tot f (· =a):=⟨a,rfl,0,fun n _=>h n⟩
theorem chk_split {g g':Nat} {a b:List Pc} (h:chkL g (a++b)=some g'):∃ g1,chkL g a=some g1∧chkL g1 b=some g':=by
 rw[chkL_app]at h
 cases hc:chkL g a with
 | none=>rw[hc]at h;cases h
 | some g1=>rw[hc]at h;exact ⟨g1,rfl,h⟩
end Go.Gv.X
namespace Go.Gv.X
open Go Go.Gv Go.Gv.D Go.Gv.R Go.Gv.P Go.Lib
set_option maxRecDepth 100000
/-! Own work: what is written is read as it was (3). -/
end Go.Gv.X
namespace Go.Gv.X
open Go Go.Gv Go.Gv.D Go.Gv.R Go.Gv.P Go.Lib
set_option maxRecDepth 100000
/-! Own work: the parser's small functions on what is left. -/
def bs (t:List Nat):List UInt8:=t.map UInt8.ofNat
abbrev sp (s:St):ByteArray × Int × Int × Bool × Bool:=(strOf (enc s.cs),IntKind.i64.wrap (s.np:Int),(s.ng:Int),s.lg,s.ls)
theorem hasPrefix_eq (n:Nat) (L T:List UInt8):stringslite_HasPrefix n (strOf L) (strOf T)=some (T.isPrefixOf L):=by
 unfold stringslite_HasPrefix
 rw[size_str,size_str]
 by_cases h:T.length≤L.length
 ·rw[if_pos (dtt (show ((L.length:Nat):Int)≥((T.length:Nat):Int) by omega))]
  have:=ssub_str (l:=L) (i:=0) (j:=T.length) (Nat.zero_le _) h
  rw[List.drop_zero]at this
  rw[show ssub (strOf L) 0 ((T.length:Nat):Int)=_ from this]
  simp only[Option.bind_some,str_eq]
  congr 1
  rw[Bool.eq_iff_iff,decide_eq_true_iff,ab,List.prefix_iff_eq_take]
  exact ⟨fun e=>by have:=congrArg bytesOf e;rw[bytes_str,bytes_str]at this;exact this.symm,fun e=>by rw[← e]⟩
 ·rw[if_neg (by rw[dff (show ¬ ((L.length:Nat):Int)≥((T.length:Nat):Int) by omega)];decide)]
  simp only[Option.bind_some]
  congr 1
  symm
  rw[Bool.eq_false_iff]
  intro e
  exact h (ab.1 e).length_le
theorem cutPrefix_eq (n:Nat) (L T:List UInt8):strings_CutPrefix n (strOf L) (strOf T)=some (if T.isPrefixOf L then (strOf (L.drop T.length),true) else (strOf L,false)):=by
 unfold strings_CutPrefix stringslite_CutPrefix
 rw[hasPrefix_eq]
 simp only[Option.bind_some]
 cases h:T.isPrefixOf L with
 | false=>rfl
 | true=>
   have:=(ab.1 h).length_le
   have h2:=ssub_str (l:=L) (i:=T.length) (j:=L.length) this (Nat.le_refl _)
   rw[List.take_length]at h2
   rw[size_str,size_str,h2]
   rfl
theorem pre_enc:∀ (t cs:List Nat),(∀ c∈t,c<128)→(∀ c∈cs,Scal c)→(bs t).isPrefixOf (enc cs)=pre t cs∧(pre t cs=true→(enc cs).drop t.length=enc (cs.drop t.length))
 | [],cs,_,_=>⟨by simp[pre,bs],fun _=>rfl⟩
 | c::t,[],_,_=>⟨rfl,fun h=>by cases h⟩
 | c::t,d::r,ht,hc=>by
   obtain ⟨b,u,e,h1,h2⟩:=head_enc (hc d (by simp)) r
   have hcl:=ht c (by simp)
   obtain ⟨i1,i2⟩:=pre_enc t r (fun x hx=>ht x (ac _ hx)) (fun x hx=>hc x (ac _ hx))
   rw[e]
   rcases Nat.lt_or_ge d 128 with hd | hd
   ·obtain ⟨rfl,rfl⟩:=h1 hd
    by_cases hcd:c=d
    ·subst hcd
     rw[pre_cons]
     refine ⟨?_,fun h=>i2 h⟩
     rw[← i1]
     show (UInt8.ofNat c::bs t).isPrefixOf _=_
     simp[List.isPrefixOf]
    ·rw[pre_ne hcd]
     refine ⟨?_,fun h=>by cases h⟩
     show (UInt8.ofNat c::bs t).isPrefixOf _=_
     have:UInt8.ofNat c≠UInt8.ofNat d:=fun e=>hcd (by have:=congrArg UInt8.toNat e;rwa [ofNat_toNat' hcl,ofNat_toNat' hd]at this)
     simp[List.isPrefixOf,this]
   ·have hcd:c≠d:=by omega
    rw[pre_ne hcd]
    refine ⟨?_,fun h=>by cases h⟩
    show (UInt8.ofNat c::bs t).isPrefixOf _=_
    have:UInt8.ofNat c≠b:=fun e=>by have:=h2 hd;rw[← e,ofNat_toNat' hcl]at this;omega
    simp[List.isPrefixOf,this]
theorem bs_len (t:List Nat):(bs t).length=t.length:=by simp[bs]
theorem eat_eq (n:Nat) {s:St} (ha:All s) {t:List Nat} (ht:∀ c∈t,c<128) {T:List UInt8} (hT:T=bs t):
 regex_parser_eat n (sp s) (strOf T)=some (pre t s.cs,sp (if pre t s.cs then s.skip t.length else s)):=by
 subst hT
 obtain ⟨h1,h2⟩:=pre_enc t s.cs ht ha
 unfold regex_parser_eat
 rw[cutPrefix_eq,h1,bs_len]
 cases hp:pre t s.cs with
 | false=>rfl
 | true=>simp only[Option.bind_some,if_true,h2 hp];rfl
/-- a set that the parser looks for -/
structure St8 (S:List Nat):Prop where
 ib:∀ x:UInt8,decide (nIdxB (bytesOf (strOf (bs S))) (x.toNat:Int)≥0)=S.contains x.toNat
 low:∀ c∈S,c<128
theorem st8 {S:List Nat} (h1:(List.range 256).all (fun n=>decide (nIdxB (bytesOf (strOf (bs S))) (n:Int)≥0)==S.contains n)=true) (h2:∀ c∈S,c<128):St8 S where
 ib x:=beq_iff_eq.1 (byte_all (p:=fun n=>decide (nIdxB (bytesOf (strOf (bs S))) (n:Int)≥0)==S.contains n) h1 x)
 low:=h2
theorem ahead_eq (n:Nat) {s:St} (ha:All s) {S:List Nat} (hS:St8 S) {T:List UInt8} (hT:T=bs S):regex_parser_ahead n (sp s) (strOf T)=some (ah S s):=by
 subst hT
 unfold regex_parser_ahead ah
 cases hc:s.cs with
 | nil=>simp only[hc];rw[show enc []=[] from rfl,str_nil];rfl
 | cons c r=>
   have hsc:Scal c:=ha c (by rw[hc];simp)
   obtain ⟨b,u,e,h1,h2⟩:=head_enc hsc r
   simp only[hc,e]
   rw[str_ne,sidx0]
   simp only[Bool.not_false,if_true,Option.bind_some]
   unfold strings_IndexByte stringslite_IndexByte
   simp only[Option.bind_some]
   rw[hS.ib b]
   rcases Nat.lt_or_ge c 128 with h | h
   ·rw[(h1 h).1,ofNat_toNat' h]
   ·have hb:=h2 h
    have f1:S.contains b.toNat=false:=Bool.eq_false_iff.2 fun e=>by have:=hS.low _ (by simpa using e);omega
    have f2:S.contains c=false:=Bool.eq_false_iff.2 fun e=>by have:=hS.low _ (by simpa using e);omega
    rw[f1,f2]
theorem next_nil (n:Nat) {s:St} (hs:s.cs=[]):regex_parser_next n (sp s)=some (.inr 1):=by
 unfold regex_parser_next
 simp only[hs]
 rfl
theorem drop_bytes {A B:List UInt8}:ssub (strOf (A++B)) (A.length:Int) (((strOf (A++B)).size:Nat):Int)=some (strOf B):=by
 rw[size_str,ssub_str (l:=A++B) (by simp) (Nat.le_refl _),List.take_length,List.drop_left]
theorem next_cons (n:Nat) {s:St} {c:Nat} {r:List Nat} (hc:Scal c) (hs:s.cs=c::r):regex_parser_next n (sp s)=some (.inl ((c:Int),sp { s with cs:=r})):=by
 unfold regex_parser_next utf8_DecodeRuneInString
 simp only[hs]
 have hl:0<(encR c).length:=by
  obtain ⟨b,u,e,_,_⟩:=head_enc hc []
  rw[enc_cons]at e
  simp only[enc,List.flatMap_nil,List.append_nil]at e
  rw[e];simp
 have hd:(Utf8.decode (strOf (enc (c::r))) 0)=(c,(encR c).length):=by
  rw[enc_cons];exact decode_enc c hc (enc r)
 rw[if_neg (by rw[enc_cons,size_str,List.length_append];omega),hd]
 simp only[Option.bind_some]
 have hne:(((encR c).length:Int)==0)=false:=by simpa using List.ne_nil_of_length_pos hl
 rw[if_neg (by rw[hne];decide)]
 simp only[Option.bind_some,cont]
 rw[enc_cons,drop_bytes]
 simp only[Option.bind_some]
 have:c≤1114111:=by unfold Scal at hc;omega
 rw[i64_small om om]
theorem wrap_inc (k:Nat):IntKind.i64.wrap (IntKind.i64.wrap (k:Int)+1)=IntKind.i64.wrap ((k+1:Nat):Int):=by
 simp[IntKind.wrap,IntKind.signed,IntKind.bits]
 omega
theorem made_eq (n:Nat) (s:St) (p:Pc):regex_parser_made n (sp s) p.un=some (p.un,sp (made s p).2):=by
 unfold regex_parser_made
 cases p
 show some _=some _
 congr 1
 simp only[Pc.un,made]
 congr 2
 congr 1
 show IntKind.i64.wrap (IntKind.i64.wrap (s.np:Int)+1)=IntKind.i64.wrap ((s.np+1:Nat):Int)
 exact wrap_inc s.np
theorem symbol_eq (n:Nat) (s:ByteArray × Int × Int × Bool × Bool) (c:Nat):regex_parser_symbol n s (c:Int)=some (match symA c with | some d=>.inl (d:Int) | none=>.inr 1):=by
 unfold regex_parser_symbol symA
 by_cases h1:c=110
 ·subst h1;rfl
 rw[if_neg oss,if_neg h1]
 by_cases h2:c=116
 ·subst h2;rfl
 rw[if_neg oss,if_neg h2]
 by_cases h3:128≤c∨c<33∨c=127∨(48≤c∧c≤57)∨(65≤c∧c≤90)∨(97≤c∧c≤122)
 ·rw[if_pos h3,if_pos]
  ·rfl
  ·simp only[ge_iff_le,Bool.or_eq_true,decide_eq_true_eq,beq_iff_eq,Bool.ite_eq_true_distrib,Bool.and_eq_true]
   split<;>split<;>omega
 ·rw[if_neg h3,if_neg]
  ·rfl
  ·simp only[ge_iff_le,Bool.or_eq_true,decide_eq_true_eq,beq_iff_eq,Bool.ite_eq_true_distrib,Bool.and_eq_true]
   split<;>split<;>omega
theorem named_eq (n:Nat) (c:Nat):regex_named n (c:Int)=some (namedA c):=by
 unfold regex_named namedA
 by_cases h1:c=100
 ·subst h1;rfl
 rw[if_neg oss,if_neg h1]
 by_cases h2:c=119
 ·subst h2;rfl
 rw[if_neg oss,if_neg h2]
 by_cases h3:c=115
 ·subst h3;rfl
 rw[if_neg oss,if_neg h3]
end Go.Gv.X
namespace Go.Gv.X
open Go Go.Gv Go.Gv.D Go.Gv.R Go.Gv.P Go.Lib
set_option maxRecDepth 100000
/-! Own work: the parser's small functions on what is left (2). -/
abbrev PSt:=ByteArray × Int × Int × Bool × Bool
def outD {α β:Type} (f:α→β):((α × St) ⊕ Unit)→((β × PSt) ⊕ Int)
 | .inl x=>.inl (f x.1,sp x.2)
 | .inr _=>.inr 1
theorem enc_dg:∀ (t:List Nat),(∀ c∈t,dgN c=true)→enc t=bs t
 | [],_=>rfl
 | c::t,h=>by
   have hc:=h c (by simp)
   simp only[dgN,Bool.and_eq_true,decide_eq_true_eq]at hc
   rw[enc_cons,encR1 om,enc_dg t fun x hx=>h x (ac _ hx)]
   rfl
theorem twN_dg (l:List Nat):∀ c∈twN l,dgN c=true:=fun c hc=>List.all_eq_true.1 (List.all_takeWhile (p:=dgN) (l:=l)) c hc
theorem digits_eq (n:Nat) {s:St} (ha:All s) (hl:s.cs.length≤1000):regex_parser_digits n (sp s)=(digitsA s).map (outD id):=by
 obtain ⟨e1,e2⟩:=tw_enc ha
 have hb:=enc_dg _ (twN_dg s.cs)
 have hL:(enc s.cs).length≤4000:=Nat.le_trans (enc_len_le s.cs) om
 have hk:=tw_len (enc s.cs)
 have ht:=tw_take (enc s.cs)
 have hd:=tw_drop (enc s.cs)
 have hkl:(tw (enc s.cs)).length=(twN s.cs).length:=by rw[e1,hb,bs_len]
 unfold regex_parser_digits
 rw[show strings_TrimLeft n (sp s).1 (strOf [48,49,50,51,52,53,54,55,56,57])=_ from trim_dg n (enc s.cs)]
 simp only[Option.bind_some]
 rw[show IntKind.i64.wrap (((sp s).1.size:Int)-((strOf (dw (enc s.cs))).size:Int))=(((twN s.cs).length:Nat):Int) by
  show IntKind.i64.wrap (((strOf (enc s.cs)).size:Int)-_)=_
  rw[size_str,size_str,← hkl,i64_small om om];omega]
 have h0:ssub (sp s).1 0 (((twN s.cs).length:Nat):Int)=some (strOf (tw (enc s.cs))):=by
  have:=ssub_str (l:=enc s.cs) (i:=0) (j:=(twN s.cs).length) (Nat.zero_le _) om
  rw[List.drop_zero]at this
  rw[show ssub (sp s).1 0 (((twN s.cs).length:Nat):Int)=_ from this,← hkl,ht]
 have h1:ssub (strOf (enc s.cs)) (((twN s.cs).length:Nat):Int) (((strOf (enc s.cs)).size:Nat):Int)=some (strOf (enc (dwN s.cs))):=by
  rw[size_str]
  have:=ssub_str (l:=enc s.cs) (i:=(twN s.cs).length) (j:=(enc s.cs).length) om (Nat.le_refl _)
  rw[List.take_length]at this
  rw[this,← hkl,hd,e2]
 rw[h0]
 simp only[Option.bind_some]
 have hv:valD (twN s.cs)=valN 0 (tw (enc s.cs)):=by unfold valD;rw[e1]
 cases hw:twN s.cs with
 | nil=>
   have hA:digitsA s=er:=by unfold digitsA;rw[if_pos (.inl hw)]
   rw[hA]
   rfl
 | cons c t=>
   have hc:dgN c=true:=twN_dg s.cs c (by rw[hw];simp)
   have hc':48≤c∧c≤57:=by simpa [dgN] using hc
   have hne:((((c::t).length:Nat):Int)==0)=false:=by simp;omega
   have hx:tw (enc s.cs)=UInt8.ofNat c::bs t:=by rw[e1,hb,hw];rfl
   rw[if_neg (by rw[hne];decide)]
   by_cases hz:1<(c::t).length∧(c::t).head? =some 48
   ·have hA:digitsA s=er:=by unfold digitsA;rw[if_pos (.inr (by rw[hw];exact hz))]
    rw[hA,if_pos (dtt om),hx,sidx0]
    have:c=48:=by simpa using hz.2
    subst this
    rfl
   ·have hj:(if decide ((((c::t).length:Nat):Int)>1)=true then (sidx (strOf (tw (enc s.cs))) 0).bind fun x21=>some (x21==48) else some false)=some false:=by
     split
     ·rename_i h
      have h:=odt h
      rw[hx,sidx0]
      simp only[Option.bind_some]
      rw[ofNat_toNat' om]
      congr 1
      rw[beq_eq_false_iff_ne]
      intro e
      exact hz ⟨om,oss⟩
     ·rfl
    rw[hj]
    simp only[Option.bind_some,aa,if_false,cont]
    rw[hw]at h1
    rw[h1]
    simp only[Option.bind_some]
    have hnt:tw (enc s.cs)≠[]:=by rw[hx];simp
    have hA:digitsA s=if valN 0 (tw (enc s.cs))>99 then ok (99,{ s with cs:=dwN s.cs,lg:=true}) else ok ((valN 0 (tw (enc s.cs)):Int),{ s with cs:=dwN s.cs}):=by
     unfold digitsA
     rw[if_neg (by rw[hw];rintro (h | h);cases h;exact hz h),hv]
    rw[hA]
    unfold strconv_Atoi
    rw[if_pos (show (strOf (tw (enc s.cs))).size≤281474976710656 by rw[size_str];omega),bytes_str]
    rcases atoi_dg (tw_dg _) hnt with e | ⟨e,e3⟩
    ·rw[e]
     simp only[Option.bind_some,aa,if_false]
     by_cases h9:valN 0 (tw (enc s.cs))>99
     ·rw[if_pos h9,dtt (show ((valN 0 (tw (enc s.cs)):Nat):Int)>99 by omega)];rfl
     ·rw[if_neg h9,dff (show ¬ ((valN 0 (tw (enc s.cs)):Nat):Int)>99 by omega)];rfl
    ·rw[e,if_pos (show valN 0 (tw (enc s.cs))>99 by omega)]
     rfl
def outB:((Option (Int × Int) × St) ⊕ Unit)→((Int × Int × Bool × PSt) ⊕ Int)
 | .inl (some b,s)=>.inl (b.1,b.2,true,sp s)
 | .inl (none,s)=>.inl (0,0,false,sp s)
 | .inr _=>.inr 1
theorem S125:St8 [125]:=st8 (by kernel_rfl) ddc
theorem digits_nn (s:St):digitsA s≠none:=by unfold digitsA;split;simp[er];split<;>simp[ok]
theorem bounds_eq (n:Nat) {s:St} (ha:All s) (hl:s.cs.length≤1000):regex_parser_bounds n (sp s)=(boundsA s).map outB:=by
 unfold regex_parser_bounds boundsA
 rw[eat_eq n ha (t:=[42]) (T:=[42]) ddc rfl]
 simp only[Option.bind_some]
 cases h1:pre [42] s.cs with
 | true=>rfl
 | false=>
 simp only[aa,if_false]
 rw[eat_eq n ha (t:=[43]) (T:=[43]) ddc rfl]
 simp only[Option.bind_some]
 cases h2:pre [43] s.cs with
 | true=>rfl
 | false=>
 simp only[aa,if_false]
 rw[eat_eq n ha (t:=[63]) (T:=[63]) ddc rfl]
 simp only[Option.bind_some]
 cases h3:pre [63] s.cs with
 | true=>rfl
 | false=>
 simp only[aa,if_false]
 rw[eat_eq n ha (t:=[123]) (T:=[123]) ddc rfl]
 simp only[Option.bind_some]
 cases h4:pre [123] s.cs with
 | false=>rfl
 | true=>
 simp only[Bool.not_true,aa,if_false,if_true]
 have ha1:All (s.skip 1):=ha.suf (skip_suf _ _)
 have hl1:=(skip_suf s 1).length_le
 rw[show (List.length [123])=1 from rfl,digits_eq n ha1 om]
 cases hd:digitsA (s.skip 1) with
 | none=>exact absurd hd (digits_nn _)
 | some x=>
 cases x with
 | inr u=>rfl
 | inl x=>
 obtain ⟨lo,s1⟩:=x
 obtain ⟨b1,_⟩:=digits_spec hd
 have ha2:All s1:=ha1.suf b1
 have hl2:=b1.length_le
 simp only[Option.map_some,outD,Option.bind_some,pcase,bd,id]
 rw[eat_eq n ha2 (t:=[44]) (T:=[44]) ddc rfl]
 simp only[Option.bind_some]
 have hi:∃ y,(if pre [44] s1.cs=true then (if ah [125] (s1.skip 1)=true then ok (-1,s1.skip 1) else digitsA (s1.skip 1)) else ok (lo,s1))=some y∧
  (if pre [44] s1.cs=true then (regex_parser_ahead n (sp (if pre [44] s1.cs=true then s1.skip 1 else s1)) (strOf [125])).bind fun r70=>(if (!r70)=true then (regex_parser_digits n (sp (if pre [44] s1.cs=true then s1.skip 1 else s1))).bind (pcase (fun r76=>some (Sum.inl (r76.1,r76.2))) (fun pn79=>some (Sum.inr (Sum.inr pn79)))) else some (Sum.inl (-1,sp (if pre [44] s1.cs=true then s1.skip 1 else s1))))
    else some (Sum.inl (lo,sp (if pre [44] s1.cs=true then s1.skip 1 else s1))))=some (match y with | .inl z=>(Sum.inl (z.1,sp z.2):(Int × PSt) ⊕ ((Int × Int × Bool × PSt) ⊕ Int)) | .inr _=>Sum.inr (Sum.inr 1))∧
  ∀ z,y= .inl z→All z.2:=by
  cases hp:pre [44] s1.cs with
  | false=>exact ⟨_,rfl,rfl,fun z e=>by cases e;exact ha2⟩
  | true=>
    simp only[if_true]
    have ha3:All (s1.skip 1):=ha2.suf (skip_suf _ _)
    have hl3:=(skip_suf s1 1).length_le
    rw[ahead_eq n ha3 (T:=[125]) S125 rfl]
    simp only[Option.bind_some]
    cases hh:ah [125] (s1.skip 1) with
    | true=>exact ⟨_,rfl,rfl,fun z e=>by cases e;exact ha3⟩
    | false=>
      simp only[Bool.not_false,aa,if_true,if_false]
      rw[digits_eq n ha3 om]
      cases hd:digitsA (s1.skip 1) with
      | none=>exact absurd hd (digits_nn _)
      | some x=>
        cases x with
        | inr u=>exact ⟨_,rfl,rfl,fun z e=>by cases e⟩
        | inl x=>
          obtain ⟨b1,_⟩:=digits_spec hd
          exact ⟨_,rfl,rfl,fun z e=>by cases e;exact ha3.suf b1⟩
 obtain ⟨y,y1,y2,y3⟩:=hi
 rw[y1]
 refine (congrArg (fun o=>Option.bind o _) y2).trans ?_
 cases y with
 | inr u=>rfl
 | inl z=>
 obtain ⟨hi,s2⟩:=z
 simp only[Option.bind_some,cont]
 rw[eat_eq n (y3 _ rfl) (t:=[125]) (T:=[125]) ddc rfl]
 simp only[Option.bind_some]
 cases h5:pre [125] s2.cs with
 | false=>rfl
 | true=>
 simp only[Bool.not_true,aa,if_false,if_true,Option.bind_some]
 show _=some (outB (.inl (some (lo,hi),{ s2.skip 1 with lg:=s2.lg||(decide (0≤hi)&&decide (hi<lo))})))
 obtain ⟨cs2,np2,ng2,lg2,ls2⟩:=s2
 cases lg2 with
 | true=>rfl
 | false=>
   by_cases h6:0≤hi
   ·simp only[ge_iff_le,h6,decide_true,Bool.false_or,Bool.true_and,cont,if_true,aa,if_false,Option.bind_some,outB,St.skip];rfl
   ·simp only[ge_iff_le,h6,decide_false,Bool.false_or,Bool.false_and,cont,aa,if_false,Option.bind_some,outB,St.skip];rfl
end Go.Gv.X
