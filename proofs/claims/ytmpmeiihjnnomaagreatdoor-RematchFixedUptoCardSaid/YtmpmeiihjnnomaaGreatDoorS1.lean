import Derived.Test.YtmpmeiihjnnomaaGreatDoorL1
import Derived.Lib.Replace
import Derived.Test.YtmpmeiihjnnomaaGreatDoorYP
import Derived.Test.YtmpmeiihjnnomaaGreatDoorYV
set_option linter.all false
open Go.Gv.Tot renaming bindq→aa,ret→ac,if_→ad
open List renaming length_append→ab,drop_of_length_le→ae,cons_append→af,length_cons→ag,drop_eq_getElem_cons→ai,append_assoc→aj,take_append_drop→al,length_take→am
open Nat renaming zero_le→ak
namespace Go.Gv.R
open Go Go.Gv Go.Gv.D Go.Lib
theorem nat8' {n:Nat} (h:n<256):(UInt8.ofNat n).toNat=n:=by rw[UInt8.toNat_ofNat',Nat.mod_eq_of_lt om]
/-! ### a scalar within a text of scalars -/
/-- a byte in the middle of a scalar -/
def mid (x:UInt8):Prop:=x.toNat/64=2
theorem lead_not_mid {r:Nat} (h:Scal r):∃ x t,encR r=x::t∧¬ mid x∧∀ y∈t,mid y:=by
 have hm:∀ n:Nat,mid (UInt8.ofNat (128+n%64)):=fun n=>by
  unfold mid
  rw[UInt8.toNat_ofNat',Nat.mod_eq_of_lt om];omega
 unfold Scal at h
 rcases (by omega:r≤127∨(128≤r∧r≤2047)∨(2048≤r∧r≤65535)∨65536≤r) with c | c | c | c
 ·rw[encR1 c]
  exact ⟨_,_,rfl,by unfold mid;rw[nat8' om];omega,by simp⟩
 ·rw[encR2 c.1 c.2]
  exact ⟨_,_,rfl,by unfold mid;rw[nat8' om];omega,by simpa using hm r⟩
 ·rw[encR3 c.1 c.2 (by unfold Scal;omega)]
  refine ⟨_,_,rfl,by unfold mid;rw[nat8' om];omega,?_⟩
  intro y hy
  simp only[List.mem_cons,List.not_mem_nil,or_false]at hy
  rcases hy with e | e<;>rw[e]<;>exact hm _
 ·rw[encR4 c om]
  refine ⟨_,_,rfl,by unfold mid;rw[nat8' om];omega,?_⟩
  intro y hy
  simp only[List.mem_cons,List.not_mem_nil,or_false]at hy
  rcases hy with e | e | e<;>rw[e]<;>exact hm _
theorem enc_prefix:∀ {s p:List Nat} {t:List UInt8},(∀ r∈s,Scal r)→(∀ r∈p,Scal r)→enc p=enc s++t→∃ b,p=s++b
 | [],p,_,_,_,_=>⟨p,rfl⟩
 | q::s,[],t,_,_,e=>by
   have:=congrArg List.length e
   rw[enc_cons,ab,ab]at this
   have h:=encR_pos q
   have h0:(enc []).length=0:=rfl
   omega
 | q::s,r::p,t,hs,hp,e=>by
   have h1:=decode_enc r (hp r (by simp)) (enc p)
   have h2:=decode_enc q (hs q (by simp)) (enc s++t)
   rw[enc_cons,enc_cons,aj]at e
   rw[e,h2]at h1
   have e1:=(Prod.mk.inj h1).1
   subst e1
   obtain ⟨b,hb⟩:=enc_prefix (fun x hx=>hs x (by simp[hx])) (fun x hx=>hp x (by simp[hx])) (List.append_cancel_left e)
   exact ⟨b,by rw[hb];rfl⟩
/-- AN INSTANCE OF A TEXT IN A TEXT STANDS AT A SCALAR'S BORDER. -/
theorem occ_enc {s:List Nat} (hne:s≠[]) (hs:∀ r∈s,Scal r):∀ (p:List Nat) (j:Nat),(∀ r∈p,Scal r)→occAt (enc p) (enc s) j=true→∃ a b,p=a++s++b∧j=(enc a).length
 | [],j,_,h=>by
   exfalso
   obtain ⟨q,s',rfl⟩:=List.exists_cons_of_ne_nil hne
   unfold occAt at h
   have:=(List.isPrefixOf_iff_prefix.1 h).length_le
   have hq:=encR_pos q
   rw[enc_cons,ab]at this
   have h0:((enc []).drop j).length=0:=by simp[enc]
   omega
 | r::p,j,hp,h=>by
   have hr:=hp r (by simp)
   by_cases hj:j<(encR r).length
   ·by_cases j0:j=0
    ·subst j0
     unfold occAt at h
     obtain ⟨t,ht⟩:=List.isPrefixOf_iff_prefix.1 h
     rw[List.drop_zero]at ht
     obtain ⟨b,hb⟩:=enc_prefix hs hp ht.symm
     exact ⟨[],b,by rw[hb];rfl,rfl⟩
    ·exfalso
     obtain ⟨q,s',rfl⟩:=List.exists_cons_of_ne_nil hne
     obtain ⟨x,t,hx,hm,_⟩:=lead_not_mid (hs q (by simp))
     obtain ⟨y,u,hy,_,hmid⟩:=lead_not_mid hr
     unfold occAt at h
     obtain ⟨v,hv⟩:=List.isPrefixOf_iff_prefix.1 h
     rw[enc_cons,enc_cons,hx,hy]at hv
     obtain ⟨k,rfl⟩:∃ k,j=k+1:=⟨j-1,om⟩
     rw[hy,ag]at hj
     have hk:k<u.length:=by omega
     rw[af («as» :=u),List.drop_succ_cons,List.drop_append_of_le_length om,ai hk]at hv
     simp only[af,List.cons.injEq]at hv
     exact hm (by rw[hv.1];exact hmid _ (List.getElem_mem hk))
   ·have e:occAt (enc p) (enc s) (j-(encR r).length)=true:=by
     unfold occAt at h ⊢
     rw[enc_cons,List.drop_append,ae om,List.nil_append]at h
     exact h
    obtain ⟨a,b,h1,h2⟩:=occ_enc hne hs p _ (fun x hx=>hp x (by simp[hx])) e
    exact ⟨r::a,b,by rw[h1];rfl,by rw[enc_cons,ab];omega⟩
theorem occ_at {s a b:List Nat}:occAt (enc (a++s++b)) (enc s) (enc a).length=true:=by
 unfold occAt
 rw[enc_app,enc_app,aj,List.drop_left]
 exact List.isPrefixOf_iff_prefix.2 ⟨_,rfl⟩
theorem index_enc_none {s p:List Nat} (hne:s≠[]) (hs:∀ r∈s,Scal r) (hp:∀ r∈p,Scal r) (h:¬ ∃ a b,p=a++s++b):Lib.index (enc p) (enc s)= -1:=
 index_none fun j _=>Bool.eq_false_iff.2 fun e=>by
  obtain ⟨a,b,h1,_⟩:=occ_enc hne hs p j hp e
  exact h ⟨a,b,h1⟩
/-- THE FIRST INSTANCE. -/
theorem index_enc_some {s a b:List Nat} (hne:s≠[]) (hs:∀ r∈s,Scal r) (hp:∀ r∈a++s++b,Scal r) (h:∀ a' b',a++s++b=a'++s++b'→a.length≤a'.length):Lib.index (enc (a++s++b)) (enc s)=((enc a).length:Int):=by
 refine index_first (by rw[enc_app,enc_app,ab,ab];omega) occ_at fun j hj=>Bool.eq_false_iff.2 fun e=>?_
 obtain ⟨a',b',h1,h2⟩:=occ_enc hne hs _ j hp e
 have h3:=h a' b' h1
 have ha:a=a'.take a.length:=by
  have:=congrArg (List.take a.length) h1
  rw[aj,List.take_left,aj,List.take_append_of_le_length h3]at this
  exact this
 have:(enc a).length≤(enc a').length:=by
  rw[ha]
  conv=>rhs;rw[← al a.length a']
  rw[enc_app,ab];omega
 omega
/-! ### one scalar taken out -/
theorem enc_one (q:Nat):enc [q]=encR q:=by simp[enc]
end Go.Gv.R
namespace Go.Gv.R
open Go Go.Gv Go.Gv.D Go.Lib
/-! first occurrences -/
def firstOcc (q:List Nat):List Nat→Option Nat
 | []=>if q=[] then some 0 else none
 | c::p=>if q.isPrefixOf (c::p)=true then some 0 else (firstOcc q p).map (· +1)
theorem prefix_split {q p:List Nat} (h:q.isPrefixOf p=true):∃ b,p=q++b:=by
 obtain ⟨b,hb⟩:=List.isPrefixOf_iff_prefix.1 h
 exact ⟨b,hb.symm⟩
theorem prefix_app (q b:List Nat):q.isPrefixOf (q++b)=true:=List.isPrefixOf_iff_prefix.2 ⟨b,rfl⟩
theorem firstOcc_none {q:List Nat}:∀ {p:List Nat},firstOcc q p=none→¬ ∃ a b,p=a++q++b
 | [],h,⟨a,b,e⟩=>by
   have e:=e.symm
   simp only[List.append_eq_nil_iff]at e
   unfold firstOcc at h
   rw[if_pos e.1.2]at h;cases h
 | c::p,h,⟨a,b,e⟩=>by
   unfold firstOcc at h
   by_cases hp:q.isPrefixOf (c::p)=true
   ·rw[if_pos hp]at h;cases h
   ·rw[if_neg hp]at h
    cases a with
    | nil=>exact hp (by rw[e];exact prefix_app q b)
    | cons x a=>
      rw[af,af]at e
      injection e with e1 e2
      have h':firstOcc q p=none:=by cases hf:firstOcc q p<;>rw[hf]at h<;>first | rfl | cases h
      exact firstOcc_none h' ⟨a,b,e2⟩
theorem firstOcc_some {q:List Nat}:∀ {p:List Nat} {i:Nat},firstOcc q p=some i→(∃ b,p=p.take i++q++b)∧i≤p.length∧∀ a' b',p=a'++q++b'→i≤a'.length
 | [],i,h=>by
   unfold firstOcc at h
   by_cases hq:q=[]
   ·rw[if_pos hq]at h;cases h
    exact ⟨⟨[],by simp[hq]⟩,Nat.le_refl _,fun _ _ _=>ak _⟩
   ·rw[if_neg hq]at h;cases h
 | c::p,i,h=>by
   unfold firstOcc at h
   by_cases hp:q.isPrefixOf (c::p)=true
   ·rw[if_pos hp]at h;cases h
    obtain ⟨b,hb⟩:=prefix_split hp
    exact ⟨⟨b,by simpa using hb⟩,ak _,fun _ _ _=>ak _⟩
   ·rw[if_neg hp]at h
    cases hf:firstOcc q p with
    | none=>rw[hf]at h;cases h
    | some j=>
      rw[hf]at h;cases h
      obtain ⟨⟨b,hb⟩,hl,hm⟩:=firstOcc_some hf
      refine ⟨⟨b,?_⟩,oss,fun a' b' e=>?_⟩
      ·rw[List.take_succ_cons,af,af,← hb]
      ·cases a' with
       | nil=>exact absurd (by rw[e];exact prefix_app q b') hp
       | cons x a'=>
         rw[af,af]at e
         injection e with e1 e2
         have:=hm a' b' e2
         simp;omega
theorem occ_parts {q p:List Nat} {i:Nat} (h:firstOcc q p=some i):p=p.take i++q++p.drop (i+q.length)∧i+q.length≤p.length:=by
 obtain ⟨⟨b,hb⟩,hl,_⟩:=firstOcc_some h
 have hlen:i+q.length+b.length=p.length:=by
  have:=congrArg List.length hb
  rw[ab,ab,am]at this;omega
 have hd:p.drop (i+q.length)=b:=by
  rw[hb]
  have:(p.take i++q).length=i+q.length:=by rw[ab,am];omega
  rw[← this,List.drop_left]
 exact ⟨by rw[hd];exact hb,om⟩
theorem index_first {q p:List Nat} (hne:q≠[]) (hq:∀ r∈q,Scal r) (hp:∀ r∈p,Scal r):Lib.index (enc p) (enc q)=match firstOcc q p with | none=> -1 | some i=>((enc (p.take i)).length:Int):=by
 cases hf:firstOcc q p with
 | none=>exact index_enc_none hne hq hp (firstOcc_none hf)
 | some i=>
   obtain ⟨⟨b,hb⟩,hl,hm⟩:=firstOcc_some hf
   have hb':=hb
   have:=index_enc_some (s:=q) (a:=p.take i) (b:=b) hne hq (by rw[← hb];exact hp) (fun a' b' e=>by rw[am];have:=hm a' b' (hb.trans e);omega)
   rw[← hb]at this
   exact this
/-! the parts between occurrences, at most k of them cut off -/
/-- where they are cut -/
def cutsK (q:List Nat):Nat→List Nat→Nat→List Nat
 | 0,_,_=>[]
 | k+1,p,o=>match firstOcc q p with
   | none=>[]
   | some i=>(o+i)::cutsK q k (p.drop (i+q.length)) (o+i+q.length)
theorem cutsK_none {q p:List Nat} {k o:Nat} (h:firstOcc q p=none):cutsK q k p o=[]:=by
 cases k with
 | zero=>rfl
 | succ k=>unfold cutsK;rw[h]
theorem cutsK_some {q p:List Nat} {k o i:Nat} (h:firstOcc q p=some i):cutsK q (k+1) p o=(o+i)::cutsK q k (p.drop (i+q.length)) (o+i+q.length):=by
 show (match firstOcc q p with | none=>[] | some i=>(o+i)::cutsK q k (p.drop (i+q.length)) (o+i+q.length))=_
 rw[h]
theorem enc_first {q p:List Nat} {i:Nat} (h:firstOcc q p=some i):(enc p).take (enc (p.take i)).length=enc (p.take i)∧(enc p).drop ((enc (p.take i)).length+(enc q).length)=enc (p.drop (i+q.length)):=by
 obtain ⟨h1,_⟩:=occ_parts h
 have e:enc p=enc (p.take i)++enc q++enc (p.drop (i+q.length)):=by rw[← enc_app,← enc_app,← h1]
 rw[e]
 refine ⟨by rw[aj,List.take_left],?_⟩
 rw[← ab,List.drop_left]
theorem scal_take {p:List Nat} (h:∀ r∈p,Scal r) (i:Nat):∀ r∈p.take i,Scal r:=fun r hr=>h r (List.mem_of_mem_take hr)
theorem scal_drop {p:List Nat} (h:∀ r∈p,Scal r) (i:Nat):∀ r∈p.drop i,Scal r:=fun r hr=>h r (List.mem_of_mem_drop hr)
theorem enc_ne' {q:List Nat} (h:q≠[]):enc q≠[]:=by
 cases q with
 | nil=>exact absurd rfl h
 | cons c q=>exact enc_ne
theorem count_cuts {q:List Nat} (hne:q≠[]) (hq:∀ r∈q,Scal r):∀ (n:Nat) (p:List Nat) (o:Nat),p.length≤n→(∀ r∈p,Scal r)→Lib.count (enc p) (enc q)=(cutsK q n p o).length
 | 0,p,o,h,hp=>by
   have:p=[]:=List.eq_nil_of_length_eq_zero om
   subst this
   have hf:firstOcc q []=none:=by unfold firstOcc;rw[if_neg hne]
   have:=index_first hne hq (p:=[]) (by simp)
   rw[hf]at this
   rw[Lib.count_miss this];rfl
 | n+1,p,o,h,hp=>by
   have hi:=index_first hne hq hp
   cases hf:firstOcc q p with
   | none=>
     rw[hf]at hi
     rw[Lib.count_miss hi,cutsK_none hf];rfl
   | some i=>
     rw[hf]at hi
     have h2:=(occ_parts hf).2
     have h3:=List.length_pos_iff.2 hne
     rw[Lib.count_hit (enc_ne' hne) hi,(enc_first hf).2,cutsK_some hf,ag,count_cuts hne hq n _ (o+i+q.length) (by rw[List.length_drop];omega) (scal_drop hp _)]
     omega
end Go.Gv.R
/-! Own work: where a text stands. -/
namespace Go.Gv.R
open Go Go.Gv Go.Gv.D Go.Lib
def hereB (p q:List Nat) (i:Nat):Bool:=q.isPrefixOf (p.drop i)
theorem hereB_len {p q:List Nat} {i:Nat} (h:hereB p q i=true) (hi:i≤p.length):i+q.length≤p.length:=by
 obtain ⟨b,hb⟩:=prefix_split h
 have:=congrArg List.length hb
 rw[List.length_drop,ab]at this;omega
theorem first_here {p q:List Nat} {i:Nat} (h:hereB p q i=true):firstOcc q (p.drop i)=some 0:=by
 unfold hereB at h
 cases hd:p.drop i with
 | nil=>
   rw[hd]at h
   unfold firstOcc
   cases q with
   | nil=>rfl
   | cons c q=>cases h
 | cons c r=>
   rw[hd]at h
   unfold firstOcc
   rw[if_pos h]
theorem first_not {p q:List Nat} {i:Nat} (hi:i<p.length) (h:hereB p q i=false):firstOcc q (p.drop i)=(firstOcc q (p.drop (i+1))).map (· +1):=by
 unfold hereB at h
 rw[ai hi]at h ⊢
 show (if _ then _ else _)=_
 rw[h];rfl
end Go.Gv.R
/-! Own work: texts and their faults. -/
namespace Go.Gv.R
open Go Go.Gv Go.Gv.D Go.Lib
def okS (s:ByteArray):Bool:=validD (bytesOf s)&&decide (s.size≤4000)
def faultL:List ByteArray→Nat→Int × Int
 | [],_=>(0,0)
 | s::l,i=>if okS s=true then faultL l (i+1) else (6, -1-(i:Int))
theorem okS_enc {p:List Nat} (hp:∀ r∈p,Scal r) (hl:(enc p).length≤4000):okS (strOf (enc p))=true:=by
 unfold okS
 rw[bytes_str,valid_enc p hp,size_str,dtt hl];rfl
theorem tValid_tot {s:ByteArray} (hs:s.size≤1048576):Tot (fun fuel=>textstr_Valid fuel s) (fun r=>r=okS s):=by
 unfold textstr_Valid okS
 refine aa (P:=fun r=>r=(validD (bytesOf s)&&decide (s.size≤4000))) (aa (ValidString_tot om) fun r hr=>?_) fun r hr=>ac hr
 subst hr
 refine Tot.ite (fun h=>?_) (fun h=>?_)
 ·rw[h,Bool.true_and]
  exact Tot.some_bind (ac (decide_eq_decide.2 ⟨fun h=>by omega,fun h=>by omega⟩))
 ·rw[h];exact ac rfl
theorem tat_tot (a b:Int):Tot (fun fuel=>textstr_at fuel a b) (fun r=>r=(a,b)):=by unfold textstr_at;exact ac rfl
theorem faultL_drop:∀ (l:List ByteArray) (k i:Nat),(∀ j (h:j<l.length),j<i→okS l[j]=true)→i≤l.length→faultL l k=faultL (l.drop i) (k+i)
 | _,k,0,_,_=>rfl
 | [],k,i+1,_,h=>absurd h (by simp)
 | s::l,k,i+1,h,hi=>by
   have h0:=h 0 (by simp) om
   simp only[List.getElem_cons_zero]at h0
   unfold faultL
   rw[if_pos h0,List.drop_succ_cons,faultL_drop l (k+1) i (fun j hj hji=>by have:=h (j+1) (by simpa using hj) om;simpa using this) (by simpa using hi)]
   rw[show k+1+i=k+(i+1) by omega]
   cases hd:List.drop i l<;>simp[faultL]
theorem tcheck_tot {l:List ByteArray} (hl:l.length≤1000) (hs:∀ s∈l,s.size≤1048576):Tot (fun fuel=>textstr_check fuel l) (fun r=>r=faultL l 0):=by
 unfold textstr_check
 refine aa (P:=fun r=>(r= .inl (0,0)∧faultL l 0=(0,0))∨r= .inr (faultL l 0)) ?_ fun r hr=>?_
 ·refine Tot.loop (fun st=>∃ i:Nat,st=((i:Int),(0,0))∧i≤l.length∧∀ j (h:j<l.length),j<i→okS l[j]=true) (fun st=>l.length-st.1.toNat) ⟨0,rfl,om,fun j _ h=>absurd h (Nat.not_lt_zero _)⟩ fun st ⟨i,e,hi,hall⟩=>?_
  subst e
  have hd:=faultL_drop l 0 i hall hi
  refine Tot.ite (fun q=>?_) (fun q=>?_)
  ·have q:i<l.length:=by have:((i:Nat):Int)<(l.length:Int):=odt q;omega
   refine Tot.bind0 (idx_nat q) (aa (tValid_tot (hs _ (List.getElem_mem q))) fun r hr=>?_)
   subst hr
   rw[ai q,show faultL (l[i]::l.drop (i+1)) (0+i)=(if okS l[i]=true then faultL (l.drop (i+1)) (0+i+1) else (6, -1-((0+i:Nat):Int))) from rfl]at hd
   refine Tot.ite (fun h=>?_) fun h=>?_
   ·have h:okS l[i]=false:=by cases hh:okS l[i]<;>rw[hh]at h<;>first | rfl | cases h
    refine aa (tat_tot _ _) fun r hr=>ac (.inr ?_)
    subst hr
    rw[show faultL l 0=_ from hd,h,i64_small om om]
    simp
   ·have h:okS l[i]=true:=by cases hh:okS l[i]<;>rw[hh]at h<;>first | rfl | cases h
    refine ac ⟨⟨i+1,?_,q,fun j hj hji=>?_⟩,?_⟩
    ·show (IntKind.i64.wrap ((i:Int)+1),((0:Int),(0:Int)))=_
     rw[iw (n:=i+1) om om]
    ·rcases Nat.lt_or_ge j i with h' | h'
     ·exact hall j hj h'
     ·have:j=i:=by omega
      subst this;exact h
    ·show l.length-(IntKind.i64.wrap ((i:Int)+1)).toNat<l.length-((i:Nat):Int).toNat
     rw[iw (n:=i+1) om om];omega
  ·have q:i=l.length:=by have:=odf q;dsimp only at this;omega
   subst q
   rw[List.drop_length]at hd
   exact ac (.inl ⟨rfl,hd⟩)
 ·rcases hr with ⟨e,h⟩ | e
  ·subst e;rw[h];exact Tot.contl (ac rfl)
  ·subst e;exact Tot.contr rfl
end Go.Gv.R
/-! Own work: an expression that is a text: where it matches. -/
namespace Go.Gv.M
open Go Go.Gv Go.Gv.D Go.Gv.X Go.Gv.R Go.Gv.P Go.Lib
set_option maxHeartbeats 4000000
abbrev chP (c:Nat):Pc:=.mk 1 (c:Int) 0 false false [] []
abbrev sqP (q:List Nat):Pc:=.mk 8 0 0 false false [] (q.map chP)
/-- the text stands at a place -/
def atQ (ps:List Nat):List Nat→Nat→Bool
 | [],_=>true
 | c::q,i=>decide (ps[i]? =some c)&&atQ ps q (i+1)
/-- how many letters are tried -/
def stp (ps:List Nat):List Nat→Nat→Nat
 | [],_=>0
 | c::q,i=>if ps[i]? =some c then stp ps q (i+1)+1 else 1
theorem stp_le (ps:List Nat):∀ (q:List Nat) (i:Nat),stp ps q i≤q.length
 | [],_=>Nat.le_refl _
 | c::q,i=>by
   have:=stp_le ps q (i+1)
   rw[stp,ag]
   split<;>omega
theorem fit_ch (ps:List Nat) (c i:Nat):fitB (ints ps) (chP c).un (i:Int)=decide (ps[i]? =some c):=by
 unfold fitB
 rw[idx_nat]
 unfold ints
 rw[List.getElem?_map]
 cases h:ps[i]? with
 | none=>rfl
 | some d=>
   show (if ((1:Int)==1)=true then ((d:Int)==(c:Int)) else _)=_
   rw[if_pos (show ((1:Int)==1)=true from rfl)]
   by_cases e:d=c
   ·subst e;simp
   ·rw[dff (fun h=>e (by injection h))]
    have e':(d:Int)≠c:=fun h=>e om
    exact beq_false_of_ne e'
section
variable {ps:List Nat} (hl:ps.length≤400)
include hl
theorem row_go:∀ (q:List Nat) (i n:Nat),i≤ps.length→n+q.length≤20000→∀ (pc:PcT) (st ro:Int),Tot (fun m=>ref4_engine_goOn m (ints ps,(n:Int),false,false) [Rs.of (1,q.map chP,pc,st,ro,rF)] (i:Int) (neg (0+1))) (PB (ints ps) false (if atQ ps q i=true then .yes [(0,((i+q.length:Nat):Int))] (n+stp ps q i) else .no (n+stp ps q i)))
 | [],i,n,hi,hn,pc,st,ro=>suc (eqf (fun m=>goB_nil m (ints ps) i _ _ st ro pc rF) (thenB_tot (fin_go n i)))
 | c::q,i,n,hi,hn,pc,st,ro=>by
   rw[ag]at hn
   have hL:(ints ps).length≤1000:=by rw[ints_len];omega
   have hiL:(i:Int)≤((ints ps).length:Int):=by rw[ints_len];omega
   have t:=one_try (x:=chP c) (i0:=0) hL (.inl rfl) (ak _) (Int.le_refl 0) (n:=n) om (i:=(i:Int)) om hiL (neg (0+1)) [Rs.of (1,q.map chP,Z7,0,0,rF)] (o:=if atQ ps q (i+1)=true then .yes [(0,((i+1+q.length:Nat):Int))] (n+1+stp ps q (i+1)) else .no (n+1+stp ps q (i+1))) (fun hb=>by
    rw[fit_ch]at hb
    have hb:=odt hb
    have hlt:i<ps.length:=(List.getElem?_eq_some_iff.1 hb).1
    have ih:=row_go q (i+1) (n+1) om om Z7 0 0
    rw[show (i:Int)+1=((i+1:Nat):Int) by omega]
    exact ih)
   refine suc (eqf (fun m=>goB_cons m (ints ps) i _ _ st ro pc rF (chP c) (q.map chP)) (thenB_tot ?_))
   rw[fit_ch]at t
   by_cases h:ps[i]? =some c
   ·rw[dtt h,if_pos rfl]at t
    rw[atQ,stp,dtt h,Bool.true_and,if_pos h,ag,show i+(q.length+1)=i+1+q.length by omega,show n+(stp ps q (i+1)+1)=n+1+stp ps q (i+1) by omega]
    exact t
   ·rw[dff h,if_neg ddc]at t
    rw[atQ,stp,dff h,Bool.false_and,if_neg ddc,if_neg h]
    exact t
theorem seq_try (q:List Nat) (i n:Nat) (hi:i≤ps.length) (hn:n+1+q.length≤20000):Tot (fun m=>ref4_engine_try m (ints ps,(n:Int),false,false) (sqP q).un (i:Int) (neg (0+1)) rF) (PB (ints ps) false (if atQ ps q i=true then .yes [(0,((i+q.length:Nat):Int))] (n+1+stp ps q i) else .no (n+1+stp ps q i))):=
 suc (eqf (fun m=>tryB_8 (n:=n) om m (ints ps) false 0 0 false false [] (q.map chP) (i:Int) (neg (0+1)) rF) (thenB_tot (row_go hl q i (n+1) hi hn _ 0 0)))
/-- the first place from one on -/
def fdN (ps q:List Nat):Nat→Nat→Option Nat
 | 0,_=>none
 | d+1,i=>if atQ ps q i=true then some i else fdN ps q d (i+1)
def fdF (k:Nat):Option Nat→Fd
 | none=>.no
 | some i=>.yes [((i:Int),((i+k:Nat):Int))]
theorem sq_lt {q:List Nat} (hg:Tot (fun n=>ref4_GroupsOf n (sqP q).un) (· =((0:Nat):Int))):∀ (d i n:Nat),i+d=ps.length+1→n+d*(1+q.length)≤20000→LT (fun m=>srF m (sqP q).un (ps.length:Int)) ((i:Int),(ints ps,(n:Int),false,false)) (SrQ (ints ps) false (fdF q.length (fdN ps q d i)))
 | 0,i,n,hd,hn=>by
   refine LT.fin (r:=.inl (ints ps,(n:Int),false,false)) (Tot.alln fun m=>?_) ⟨_,rfl⟩
   unfold srF;rw[if_neg oss];rfl
 | d+1,i,n,hd,hn=>by
   rw[Nat.succ_mul]at hn
   have hc:decide ((i:Int)≤(ps.length:Int))=true:=dtt om
   have h3:=seq_try hl q i n om om
   have hB:Tot (fun m=>(loopN (gB m (sqP q).un) m (([]:List (Int × Int)),0)).bind fun j=>ref4_engine_try m (ints ps,(n:Int),false,false) (sqP q).un (i:Int) j rF) (PB (ints ps) false (if atQ ps q i=true then .yes [(0,((i+q.length:Nat):Int))] (n+1+stp ps q i) else .no (n+1+stp ps q i))):=aa (LT.tot (gB_lt (G:=0) om hg 1 0 om)) fun a e=>by subst e;exact h3
   have eb:∀ m,srF m (sqP q).un (ps.length:Int) ((i:Int),(ints ps,(n:Int),false,false))=((loopN (gB m (sqP q).un) m (([]:List (Int × Int)),0)).bind fun j=>ref4_engine_try m (ints ps,(n:Int),false,false) (sqP q).un (i:Int) j rF).bind fun r155=>(if r155.2.1 then (Option.bind (idx r155.1 0) fun x173=>(Option.bind (upd r155.1 0 ((i:Int),x173.2)) fun l175=>(some (.inr (.inr ((l175,true,false))))))) else (some (.inl ((IntKind.i64.wrap ((i:Int)+1)),(ints ps,r155.2.2.2.1,r155.2.2.2.2.1,r155.2.2.2.2.2))))):=fun m=>by
    unfold srF
    simp only[hc,if_true,Bool.not_false,Option.bind_some]
    cases loopN (gB m (sqP q).un) m (([]:List (Int × Int)),0) with
    | none=>rfl
    | some j=>rfl
   have hw:IntKind.i64.wrap ((i:Int)+1)=((i+1:Nat):Int):=by rw[i64_small om om];omega
   rw[hw]at eb
   have hst:=stp_le ps q i
   rw[fdN]
   by_cases h:atQ ps q i=true
   ·rw[if_pos h]at hB ⊢
    refine LT.fin (r:=.inr ([((i:Int),((i+q.length:Nat):Int))],true,false)) (eqf eb (aa hB fun b hb=>?_)) (by exact rfl)
    cases hb
    exact ac rfl
   ·rw[if_neg h]at hB ⊢
    refine LT.step (eqf eb (aa hB fun b hb=>?_)) (sq_lt hg d (i+1) (n+1+stp ps q i) om om)
    obtain ⟨b1,b2,b3⟩:=b
    cases hb;exact ac rfl
theorem sq_search {q:List Nat} (hg:Tot (fun n=>ref4_GroupsOf n (sqP q).un) (· =((0:Nat):Int))) (hq:q.length≤40) {i:Nat} (hi:i≤ps.length):Tot (fun m=>ref4_Search m (sqP q).un (ints ps) (i:Int) (ps.length:Int) false) (· =srcO (fdF q.length (fdN ps q (ps.length+1-i) i))):=by
 have hm:(ps.length+1-i)*(1+q.length)≤401*41:=Nat.mul_le_mul om om
 refine eqf (fun m=>search_eq m (sqP q).un (ints ps) i ps.length false) (aa (LT.tot (sq_lt hl hg (ps.length+1-i) i 0 om om)) fun y hy=>?_)
 cases hf:fdN ps q (ps.length+1-i) i with
 | none=>rw[hf]at hy;obtain ⟨t,rfl⟩:=hy;exact ac rfl
 | some k=>rw[hf]at hy;cases hy;exact ac rfl
end
end Go.Gv.M
/-! Own work: an expression that is a text: all its places. -/
namespace Go.Gv.M
open Go Go.Gv Go.Gv.D Go.Gv.X Go.Gv.R Go.Gv.P Go.Lib
set_option maxHeartbeats 4000000
theorem at_here (ps:List Nat):∀ (q:List Nat) (i:Nat),atQ ps q i=hereB ps q i
 | [],i=>by unfold hereB atQ;cases ps.drop i<;>rfl
 | c::q,i=>by
   have ih:=at_here ps q (i+1)
   unfold hereB at ih ⊢
   rw[atQ]
   by_cases h:i<ps.length
   ·rw[ai h,List.getElem?_eq_getElem h,ih]
    show _=((c==ps[i])&&_)
    congr 1
    by_cases e:ps[i]=c
    ·simp[e]
    ·rw[dff (fun h=>e (by injection h))]
     simpa using fun h=>e h.symm
   ·rw[List.getElem?_eq_none om,ae om];rfl
theorem fd_first {ps q:List Nat} (hne:q≠[]):∀ (d i:Nat),i+d=ps.length+1→i≤ps.length→firstOcc q (ps.drop i)=(fdN ps q d i).map (· -i)∧∀ k,fdN ps q d i=some k→i≤k∧hereB ps q k=true
 | 0,i,h,hi=>by omega
 | d+1,i,h,hi=>by
   rw[fdN,at_here]
   cases hh:hereB ps q i with
   | true=>
     rw[if_pos rfl,first_here hh]
     exact ⟨by simp,fun k e=>by cases e;exact ⟨Nat.le_refl _,hh⟩⟩
   | false=>
     rw[if_neg ddc]
     by_cases hl:i<ps.length
     ·obtain ⟨i1,i2⟩:=fd_first (ps:=ps) hne d (i+1) om om
      refine ⟨?_,fun k e=>⟨by have:=(i2 k e).1;omega,(i2 k e).2⟩⟩
      rw[first_not hl hh,i1]
      cases hf:fdN ps q d (i+1) with
      | none=>rfl
      | some k=>
        have:=(i2 k hf).1
        simp only[Option.map_some]
        congr 1;omega
     ·obtain rfl:d=0:=by omega
      rw[ae (show ps.length≤i by omega),fdN,firstOcc,if_neg hne]
      exact ⟨rfl,fun k e=>by cases e⟩
theorem first_nil {q:List Nat} (hne:q≠[]):firstOcc q []=none:=by rw[firstOcc,if_neg hne]
theorem ev_cuts {ps q:List Nat} (hne:q≠[]) {F:Int→Fd→Prop} (hF:∀ (i:Nat) o,i≤ps.length→F (i:Int) o→o=fdF q.length (fdN ps q (ps.length+1-i) i)) {i:Int} {out:List Sp} {r:Option (List Sp)} (h:Ev F ps.length (-1) i out r):
 0≤i→i≤(ps.length:Int)+1→∃ l,r=some (out++l)∧∀ (K o:Nat),(ps.length:Int)≤i+K→l.length=(cutsK q K (ps.drop i.toNat) o).length:=by
 have hnone:∀ {i:Nat},firstOcc q (ps.drop i)=none→∀ (K o:Nat),([]:List Sp).length=(cutsK q K (ps.drop i) o).length:=fun hf K o=>by rw[cutsK_none hf];rfl
 induction h with
 | @stop i out h=>
   intro h0 h1
   refine ⟨[],by simp,fun K o _=>hnone ?_ K o⟩
   rw[ae om,first_nil hne]
 | @over i out h2 h3 hf=>
   intro h0 h1
   have:=hF i.toNat .over om (by rw[show ((i.toNat:Nat):Int)=i by omega];exact hf)
   cases hq:fdN ps q (ps.length+1-i.toNat) i.toNat<;>rw[hq]at this<;>cases this
 | @none i out h2 h3 hf=>
   intro h0 h1
   have:=hF i.toNat .no om (by rw[show ((i.toNat:Nat):Int)=i by omega];exact hf)
   cases hq:fdN ps q (ps.length+1-i.toNat) i.toNat with
   | some k=>rw[hq]at this;cases this
   | none=>
     refine ⟨[],by simp,fun K o _=>hnone ?_ K o⟩
     rw[(fd_first (ps:=ps) hne (ps.length+1-i.toNat) i.toNat om om).1,hq];rfl
 | @more i out g s e r h2 h3 hf hg hr ih=>
   intro h0 h1
   have hlq:0<q.length:=List.length_pos_iff.2 hne
   have:=hF i.toNat (.yes g) om (by rw[show ((i.toNat:Nat):Int)=i by omega];exact hf)
   cases hq:fdN ps q (ps.length+1-i.toNat) i.toNat with
   | none=>rw[hq]at this;cases this
   | some k=>
     rw[hq]at this
     injection this with this
     subst this
     injection hg with hg
     injection hg with hs he
     obtain ⟨f1,f2⟩:=fd_first (ps:=ps) hne (ps.length+1-i.toNat) i.toNat om om
     obtain ⟨f3,f4⟩:=f2 k hq
     have hk:k+q.length≤ps.length:=by
      by_cases hkl:k≤ps.length
      ·exact hereB_len f4 hkl
      ·exfalso
       unfold hereB at f4
       rw[ae om]at f4
       cases q with
       | nil=>exact hne rfl
       | cons c q=>cases f4
     have hnx:(if s=e then e+1 else e)=((k+q.length:Nat):Int):=by rw[if_neg om];omega
     rw[hnx]at ih
     obtain ⟨l,e1,e2⟩:=ih om om
     refine ⟨[((k:Int),((k+q.length:Nat):Int))]::l,by rw[e1];simp,fun K o hK=>?_⟩
     obtain ⟨K,rfl⟩:∃ K',K=K'+1:=⟨K-1,om⟩
     rw[hq]at f1
     rw[cutsK_some (i:=k-i.toNat) f1,ag,ag,List.drop_drop,show i.toNat+(k-i.toNat+q.length)=k+q.length by omega]
     rw[e2 K (o+(k-i.toNat)+q.length) om,Int.toNat_natCast]
end Go.Gv.M
/-! Own work: an expression that is a text: texts are found and counted. -/
namespace Go.Gv.M
open Go Go.Gv Go.Gv.D Go.Gv.X Go.Gv.R Go.Gv.P Go.Lib
set_option maxHeartbeats 4000000
theorem enc_tk (a b:List Nat):(enc (a++b)).take (enc a).length=enc a:=by rw[enc_app,List.take_left]
theorem slice_end (ps:List Nat) (i:Nat):slice ps (i:Int) (ps.length:Int)=ps.drop i:=by unfold slice;rw[Int.toNat_natCast,Int.toNat_natCast,List.take_length]
def fdI:Option Nat→Int
 | none=> -1
 | some k=>(k:Int)
section
variable {ps q:List Nat} (hp:∀ c∈ps,Scal c) (hq:∀ c∈q,Scal c) (hl:ps.length≤400) (hlq:q.length≤40) (hne:q≠[])
include hp hq hl hlq hne
theorem chk_tot:Tot (fun n=>textstr_check n [strOf (enc ps),strOf (enc q)]) (· =(0,0)):=by
 have h1:=enc_len_le ps
 have h2:=enc_len_le q
 refine (tcheck_tot (l:=[strOf (enc ps),strOf (enc q)]) (by simp) (by simp[size_str];omega)).mono fun a e=>?_
 rw[e]
 show (if R.okS (strOf (enc ps))=true then (if R.okS (strOf (enc q))=true then ((0:Int),(0:Int)) else _) else _)=_
 rw[if_pos (okS_enc hp om),if_pos (okS_enc hq om)]
theorem Find_tot {i:Nat} (hi:i≤ps.length):Tot (fun n=>textstr_Find n (strOf (enc ps)) (strOf (enc q)) (i:Int) (ps.length:Int) false) (· =(fdI (fdN ps q (ps.length+1-i) i),(0,0))):=by
 have h1:=enc_len_le ps
 have h2:=enc_len_le q
 unfold textstr_Find
 refine aa (chk_tot hp hq hl hlq hne) fun a e=>?_
 subst e
 refine ad rfl (aa (P:=(· =(strOf (enc (ps.drop i)),(0,0)))) ?_ fun a e=>?_)
 ·unfold textstr_window
  refine Tot.bind0 (rn_enc hp om) ?_
  rw[ints_len]
  refine ad (by rw[dff (show ¬ ((i:Int)<0) by omega),dff (show ¬ ((i:Int)>((ps.length:Nat):Int)) by omega)];rfl) (ad (by rw[dff (show ¬ ((ps.length:Int)<(i:Int)) by omega),dff (show ¬ ((ps.length:Int)>((ps.length:Nat):Int)) by omega)];rfl) ?_)
  refine Tot.bind0 (sub_ints om om (Int.le_refl _)) (ac ?_)
  rw[strR_ints (slice_scal hp _ _),slice_end]
 subst e
 have hw:∀ r∈ps.drop i,Scal r:=scal_drop hp i
 have hwl:(ps.drop i).length≤ps.length:=by rw[List.length_drop];omega
 obtain ⟨f1,f2⟩:=fd_first (ps:=ps) hne (ps.length+1-i) i om hi
 have hidx:=index_first hne hq hw
 generalize hwd:ps.drop i=w at hw hwl f1 hidx
 have hwe:=enc_len_le w
 refine ad rfl (aa (P:=fun r=>r=Lib.index (enc w) (enc q)) (by unfold strings_Index;rw[if_pos (by rw[size_str];omega),bytes_str,bytes_str];exact ac rfl) fun a e=>?_)
 subst e
 first
 | (refine aa (P:=(· =Lib.index (enc w) (enc q))) (ad rfl (ac rfl)) fun a e=>?_;subst e)
 | refine ad rfl ?_
 rw[hidx,f1]
 cases hf:fdN ps q (ps.length+1-i) i with
 | none=>exact Tot.it rfl (ac rfl)
 | some k=>
   obtain ⟨g1,g2⟩:=f2 k hf
   obtain ⟨j,rfl⟩:∃ j,k=i+j:=⟨k-i,om⟩
   rw[hf,Option.map_some,Nat.add_sub_cancel_left]at f1
   have hjl:=(firstOcc_some f1).2.1
   simp only[Option.map_some,Nat.add_sub_cancel_left]
   have hjle:(enc (w.take j)).length≤(enc w).length:=by
    have:=congrArg (fun l=>(enc l).length) (al j w)
    simp only[enc_app,ab]at this;omega
   have hsub:ssub (strOf (enc w)) 0 ((enc (w.take j)).length:Int)=some (strOf (enc (w.take j))):=by
    have:=ssub_str (l:=enc w) (i:=0) (j:=(enc (w.take j)).length) om hjle
    rw[show ((0:Nat):Int)=0 from rfl]at this
    rw[this,List.drop_zero]
    have h5:=enc_tk (w.take j) (w.drop j)
    rw[al]at h5
    rw[h5]
   refine ad (dff om) (Tot.bind0 hsub (aa (RuneCount_tot (scal_take hw j) om) fun a e=>ac ?_))
   subst e
   rw[am,show min j w.length=j by omega,i64_small om om]
   show ((i:Int)+(j:Int),((0:Int),(0:Int)))=(((i+j:Nat):Int),_)
   rw[Int.natCast_add]
theorem Count_tot:Tot (fun n=>textstr_Count n (strOf (enc ps)) (strOf (enc q))) (· =(((cutsK q ps.length ps 0).length:Int),(0,0))):=by
 have h1:=enc_len_le ps
 have h2:=enc_len_ge q
 have h3:=List.length_pos_iff.2 hne
 unfold textstr_Count
 refine aa (chk_tot hp hq hl hlq hne) fun a e=>?_
 subst e
 refine ad rfl (aa (P:=(· =((cutsK q ps.length ps 0).length:Int))) ?_ fun a e=>by subst e;exact ac rfl)
 unfold strings_Count
 rw[if_pos ⟨by rw[size_str];omega,by rw[size_str];omega⟩]
 refine ac ?_
 have:=count_cuts hne hq ps.length ps 0 (Nat.le_refl _) hp
 show ((Lib.count (bytesOf (strOf (enc ps))) (bytesOf (strOf (enc q))):Nat):Int)=_
 rw[bytes_str,bytes_str,this]
end
end Go.Gv.M
/-! Own work: the law of an expression that is a text. -/
namespace Go.Gv.M
open Go Go.Gv Go.Gv.D Go.Gv.X Go.Gv.R Go.Gv.P Go.Lib
set_option maxHeartbeats 4000000
theorem ch_pre (c:Nat):preP (chP c)=[chP c]:=by rw[pre_eq];rfl
theorem chs_pre:∀ q:List Nat,preL (q.map chP)=q.map chP
 | []=>by rw[List.map_nil,preL]
 | c::q=>by rw[List.map_cons,preL,ch_pre,chs_pre q];rfl
theorem sq_pre (q:List Nat):preP (sqP q)=sqP q::q.map chP:=by rw[pre_eq,chs_pre]
theorem sq_bd {q:List Nat} (hq:q.length≤40):BdL (preP (sqP q)):=fun x hx=>by
 rw[sq_pre]at hx
 rcases List.mem_cons.1 hx with rfl | hx
 ·exact ⟨ak _,show (q.map chP).length≤BigL by unfold BigL;rw[List.length_map];omega⟩
 ·obtain ⟨c,_,rfl⟩:=List.mem_map.1 hx
  exact ⟨ak _,ak _⟩
theorem chs_cnt:∀ q:List Nat,X.cnt (q.map chP)=0
 | []=>rfl
 | c::q=>by rw[List.map_cons,X.cnt,chs_cnt q];rfl
theorem sq_cnt (q:List Nat):X.cnt (preP (sqP q))=0:=by rw[sq_pre,X.cnt,chs_cnt];rfl
abbrev BldS:=Int × PcT
noncomputable def bldF (tx:List Int) (s51:BldS):Option (BldS ⊕ PcT):=
 (if (decide (s51.1<((List.length tx:Nat):Int))) then (Option.bind (idx tx s51.1) fun x95=>(Option.bind (app s51.2.2.2.2.2.2.2 ([(Pc.of (1,x95,0,false,false,([]:List (Int × Int)),([]:List Pc)))]:List Pc)) fun l129=>(some (.inl ((IntKind.i64.wrap (s51.1+1)),(s51.2.1,s51.2.2.1,s51.2.2.2.1,s51.2.2.2.2.1,s51.2.2.2.2.2.1,s51.2.2.2.2.2.2.1,l129)))))) else (some (.inr ((s51.2.1,s51.2.2.1,s51.2.2.2.1,s51.2.2.2.2.1,s51.2.2.2.2.2.1,s51.2.2.2.2.2.2.1,s51.2.2.2.2.2.2.2)))))
theorem bld_lt {q:List Nat} (hq:q.length≤40):∀ (r pre:List Nat),q=pre++r→LT (fun _=>bldF (ints q)) ((pre.length:Int),(8,0,0,false,false,([]:List (Int × Int)),pre.map chP)) (· =(sqP q).un)
 | [],pre,e=>by
   rw[List.append_nil]at e
   subst e
   refine LT.fin (r:=(sqP q).un) (Tot.alln fun m=>?_) rfl
   unfold bldF
   rw[if_neg (by rw[ints_len];simp)]
   rfl
 | c::r,pre,e=>by
   have hlen:q.length=pre.length+(r.length+1):=by rw[e];simp
   have hi:idx (ints q) (pre.length:Int)=some (c:Int):=by rw[e];exact idx_ints rfl
   have ih:=bld_lt hq r (pre++[c]) (by rw[e];simp)
   rw[show (((pre++[c]).length:Nat):Int)=((pre.length+1:Nat):Int) by simp]at ih
   refine LT.step (Tot.alln fun m=>?_) ih
   unfold bldF
   rw[if_pos (dtt (show (pre.length:Int)<(((ints q).length:Nat):Int) by rw[ints_len];omega))]
   dsimp only
   rw[hi,Option.bind_some,app1 _ oss,Option.bind_some,i64_small om om,show (pre.length:Int)+1=((pre.length+1:Nat):Int) by omega,List.map_append]
   rfl
theorem fixed_law {s sub:ByteArray} (i:Int) (hs:s.size≤1048576) (hsub:sub.size≤1048576):Tot (fun n=>law4_RematchFixed n s sub i) (· =true):=by
 unfold law4_RematchFixed
 refine aa finds_tot fun a e=>?_
 subst e
 refine ad rfl ?_
 cases hval:validD (bytesOf sub) with
 | false=>
   refine aa (pts_bad hsub hval) fun a e=>?_
   subst e
   exact aa (Points_tot hs) fun a _=>Tot.it rfl (ac rfl)
 | true=>
   obtain ⟨q,hqs,he⟩:=valid_iff hval
   have hse:sub=strOf (enc q):=by rw[← he,str_bytes]
   subst hse
   have hqz:(enc q).length≤1048576:=by rw[size_str]at hsub;exact hsub
   refine aa (pts_tot hqs hqz) fun a e=>?_
   subst e
   cases hval2:validD (bytesOf s) with
   | false=>
     refine aa (pts_bad hs hval2) fun a e=>?_
     subst e
     exact Tot.it rfl (ac rfl)
   | true=>
     obtain ⟨ps,hps,he2⟩:=valid_iff hval2
     have hse:s=strOf (enc ps):=by rw[← he2,str_bytes]
     subst hse
     have hpz:(enc ps).length≤1048576:=by rw[size_str]at hs;exact hs
     refine aa (pts_tot hps hpz) fun a e=>?_
     subst e
     dsimp only
     by_cases hall:2≤q.length∧q.length≤40∧ps.length≤400∧0≤i∧i≤(ps.length:Int)
     ·obtain ⟨c1,c2,c3,c4,c5⟩:=hall
      have hcond:((!true)||((!true)||((decide ((((ints q).length:Nat):Int)<2))||((decide ((((ints q).length:Nat):Int)>40))||((decide ((((ints ps).length:Nat):Int)>400))||((decide (i<0))||(decide (i>(((ints ps).length:Nat):Int)))))))))=false:=by
       rw[ints_len,ints_len,dff (show ¬ ((q.length:Int)<2) by omega),dff (show ¬ ((q.length:Int)>40) by omega),dff (show ¬ ((ps.length:Int)>400) by omega),dff (show ¬ (i<0) by omega),dff (show ¬ (i>(ps.length:Int)) by omega)];rfl
      have hne:q≠[]:=fun h=>by subst h;simp at c1
      obtain ⟨j,rfl⟩:∃ j:Nat,i=(j:Int):=⟨i.toNat,om⟩
      have hj:j≤ps.length:=by omega
      have hb:=sq_bd c2
      refine ad hcond (aa (LT.tot (F:=fun _=>bldF (ints q)) (bld_lt c2 q [] rfl)) fun a e=>?_)
      subst e
      refine aa (Fault_tot (p:=sqP q) hb) fun a e=>?_
      subst e
      rcases chkV_cases (sqP q) with ⟨hok,hv⟩ | ⟨_,hv⟩
      ·rw[hv]
       have ht:TextOk (strOf (enc ps)) ps:=⟨hps,rfl,c3⟩
       have hck:=check_ok hok hb ht
       have hck0:=hck 0
       rw[if_neg om]at hck0
       obtain ⟨_,_,hz,_⟩:=id hok
       have hg:=GroupsOf_tot hb hz
       rw[show X.cnt (preP (sqP q))=0 from sq_cnt q]at hg
       have eqo:∀ {y:Nat} {o o':Fd},Tot (fun m=>ref4_Search m (sqP q).un (ints ps) (y:Int) ps.length false) (· =srcO o)→Tot (fun m=>ref4_Search m (sqP q).un (ints ps) (y:Int) ps.length false) (· =srcO o')→o=o':=fun h h'=>by
        obtain ⟨a,⟨e1,e2⟩,_⟩:=Tot.and h h'
        exact srcO_inj (e1.symm.trans e2)
       obtain ⟨o,_,hA,hB⟩:=found hok hb ht (j:Int) ps.length false om om (Int.le_refl _)
       have ho:=eqo hB (sq_search c3 hg c2 hj)
       subst ho
       obtain ⟨r,hr,hR,_⟩:=all_tot hok hb ht (-1)
       obtain ⟨l,rfl,hll⟩:=ev_cuts hne (fun y o hy h=>eqo h.2.2 (sq_search c3 hg c2 hy)) hr (Int.le_refl _) om
       have hln:=hll ps.length 0 om
       rw[show (0:Int).toNat=0 from rfl,List.drop_zero]at hln
       refine ad rfl (aa (Find_o ht hck om hA) fun a e=>?_)
       subst e
       refine aa (P:=(· =(fdI (fdN ps q (ps.length+1-j) j),((0:Int),(0:Int))))) (by rw[ints_len];exact Find_tot hps hqs c3 c2 hne hj) fun a e=>?_
       subst e
       refine aa (All_tot ht hck0 hR) fun a e=>?_
       subst e
       refine aa (Count_tot hps hqs c3 c2 hne) fun a e=>?_
       subst e
       have hcnt:((((allO (some (([]:List Sp)++l))).1.length:Nat):Int)!=((cutsK q ps.length ps 0).length:Int))=false:=by
        show ((l.length:Int)!=_)=false
        rw[hln];simp
       have hfb:=(fd_first (ps:=ps) hne (ps.length+1-j) j om hj).2
       cases hf:fdN ps q (ps.length+1-j) j with
       | none=>
         refine aa (P:=(· =false)) (aa (at_tot 21 (-1)) fun a e=>by subst e;exact ad rfl (aa (at_tot 21 (-1)) fun a e=>by subst e;exact ac rfl)) fun a e=>?_
         subst e
         refine ad rfl (aa (P:=(· =false)) (ad rfl (ad rfl (ad rfl (ad rfl (ad rfl (ac hcnt)))))) fun a e=>?_)
         subst e
         exact ad rfl (aa (P:=(· =true)) (Tot.it rfl (ac rfl)) fun a e=>ac e)
       | some k=>
         have hk:=(hfb k hf).2
         have hkl:k+q.length≤ps.length:=by
          by_cases hkl:k≤ps.length
          ·exact hereB_len hk hkl
          ·exfalso
           unfold hereB at hk
           rw[ae om]at hk
           cases q with
           | nil=>exact hne rfl
           | cons c q=>cases hk
         refine aa (P:=(· =false)) (aa (at_tot 21 (-1)) fun a e=>by subst e;exact ad rfl (aa (at_tot 21 (-1)) fun a e=>by subst e;exact ac rfl)) fun a e=>?_
         subst e
         refine ad rfl (aa (P:=(· =false)) (ad rfl (ad rfl (ad rfl (ad rfl (ad ?_ (ac hcnt)))))) fun a e=>?_)
         ·show (!(true==decide ((k:Int)≥0)))=false
          rw[dtt om];rfl
         subst e
         refine ad rfl (aa (P:=(· =true)) (ad rfl (aa (Spans_tot (show 1≤BigR by decide)) fun a e=>ac ?_)) fun a e=>ac e)
         rw[e]
         refine dtt ?_
         show [((k:Int),((k+q.length:Nat):Int))]=[((k:Int),IntKind.i64.wrap ((k:Int)+(((ints q).length:Nat):Int)))]
         rw[ints_len,i64_small om om,Int.natCast_add]
      ·exact Tot.it (by simpa using hv) (ac rfl)
     ·refine Tot.it ?_ (ac rfl)
      simp only[Bool.not_true,Bool.false_or,Bool.or_eq_true,decide_eq_true_eq,ints_len]
      omega
theorem RematchFixed_said (s sub:ByteArray) (i:Int) (_:s.size≤maxLen) (_:sub.size≤maxLen) (_:inK .i64 i) (hb:(s.size+1)+((sub.size+1)+1)≤1048576):Tot (fun n=>law4_RematchFixed n s sub i) (· =true):=fixed_law i om om
end Go.Gv.M
