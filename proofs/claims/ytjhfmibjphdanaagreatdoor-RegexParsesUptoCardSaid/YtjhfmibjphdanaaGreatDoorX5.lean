import Derived.Test.YtjhfmibjphdanaaGreatDoorX1
set_option linter.all false
open List renaming length_cons→aa,length_nil→ab
namespace Go.Gv.X
open Go Go.Gv Go.Gv.D Go.Gv.R Go.Gv.P Go.Lib
set_option maxRecDepth 100000
/-! Own work: what is read is well formed (3). -/
/-- what a repeated atom gives -/
structure Rep (s:St) (x:Pc × St):Prop where
 inv:Inv s [x.1] x.2
 sz:sizeP x.1+2*x.2.cs.length+1≤2*s.cs.length
 kd:Pc.kind x.1≠8∧Pc.kind x.1≠9
structure Sq (s:St) (x:Pc × St):Prop where
 inv:Inv s [x.1] x.2
 sz:sizeP x.1+2*x.2.cs.length≤2*s.cs.length+1
 kd:Pc.kind x.1≠9
structure Alt (s:St) (x:Pc × St):Prop where
 inv:Inv s [x.1] x.2
 sz:sizeP x.1+2*x.2.cs.length≤2*s.cs.length+1
theorem wrap_inv {k:Int} {l:List Pc} {s0 s:St} (h:Inv s0 l s) (hn:(∀ p,l≠[p])→nodeC s0.ng (k,0,0,false,false,[],l)= .inr s0.ng):Inv s0 [(wrapA k l s).1] (wrapA k l s).2:=by
 unfold wrapA
 split
 ·exact h
 ·rename_i hl
  exact Inv.node (s1:=s0) h (List.suffix_refl _) rfl (.inl rfl) id id fun _ _ _=>hn fun p e=>hl p e
theorem kin_false {ks:List Int} {l:List Pc} (h:∀ p∈l,Pc.kind p∉ks):kin ks l=false:=by
 unfold kin
 rw[List.any_eq_false]
 intro p hp
 have:=h p hp
 simpa using this
theorem read_ok:∀ n:Nat,
 (∀ s x,All s→altsA n s=some (.inl x)→Alt s x)∧
 (∀ l s x s0,All s0→Inv s0 l s→l≠[]→sizeL l+2*s.cs.length+l.length≤2*s0.cs.length+2→(∀ p∈l,Pc.kind p≠9)→altRA n l s=some (.inl x)→Alt s0 x)∧
 (∀ s x,All s→seqA n s=some (.inl x)→Sq s x)∧
 (∀ l s x s0,All s0→Inv s0 l s→sizeL l+2*s.cs.length+l.length≤2*s0.cs.length→(∀ p∈l,Pc.kind p≠8∧Pc.kind p≠9)→seqRA n l s=some (.inl x)→Sq s0 x)∧
 (∀ s x,All s→repA n s=some (.inl x)→Rep s x)∧
 (∀ s x,All s→atomA n s=some (.inl x)→Atm s x)∧
 (∀ s0 s k low no x,All s→(k=7∨k=11)→s.cs <:+ s0.cs→s.cs.length<s0.cs.length→s.np=s0.np→(s.ng=s0.ng∧low=0∧(k=7→no=false)∨s.ng=s0.ng+1∧k=7∧low=((s.ng:Nat):Int)∧no=false)→s.lg=s0.lg→s.ls=s0.ls→insA n s k low no=some (.inl x)→Atm s0 x):=by
 intro n
 induction n with
 | zero=>refine ⟨?_,?_,?_,?_,?_,?_,?_⟩<;>(intros;rename_i h;simp[altsA,altRA,seqA,seqRA,repA,atomA,insA]at h)
 | succ n ih=>
   obtain ⟨iA,iAR,iS,iSR,iR,iAt,iI⟩:=ih
   refine ⟨fun s x ha h=>?_,fun l s x s0 ha hi hne hsz hk h=>?_,fun s x ha h=>?_,fun l s x s0 ha hi hsz hk h=>?_,fun s x ha h=>?_,fun s x ha h=>?_,fun s0 s k low no x ha hk hcs hlen hnp hng hlg hls h=>?_⟩
   ·rw[altsA]at h
    obtain ⟨⟨p,s1⟩,h1,h⟩:=bd_ok h
    obtain ⟨a1,a2,a3⟩:=iS s _ ha h1
    exact iAR [p] s1 x s ha a1 (by simp) (by rw[sizeL_one];simp only[aa,ab];simp only at a2;omega) (fun q hq=>by rw[List.mem_singleton.1 hq];exact a3) h
   ·rw[altRA]at h
    split at h
    ·rename_i hp
     obtain ⟨⟨p,s1⟩,h1,h⟩:=bd_ok h
     have hs1:All (s.skip 1):=ha.suf ((skip_suf _ _).trans hi.cs)
     obtain ⟨a1,a2,a3⟩:=iS _ _ hs1 h1
     have hlen:(s.skip 1).cs.length+1=s.cs.length:=skip_len (t:=[124]) hp
     have hi2:Inv s0 (l++[p]) s1:=by
      have h2:Inv s0 l (s.skip 1):=by
       have:=hi.trans (Inv.skip (s:=s) (s1:=s.skip 1) (skip_suf _ _) rfl rfl id id)
       rwa [List.append_nil]at this
      exact h2.trans a1
     refine iAR (l++[p]) s1 x s0 ha hi2 (by simp) ?_ (fun q hq=>?_) h
     ·rw[sizeL_app,sizeL_one,List.length_append]
      simp only[aa,ab]
      simp only at a2
      omega
     ·rcases List.mem_append.1 hq with hq | hq
      ·exact hk q hq
      ·have:q=p:=by simpa using hq
       subst this;exact a3
    ·cases h
     refine ⟨wrap_inv hi fun hl=>?_,?_⟩
     ·have h2:2≤l.length:=by
       match l,hne,hl with
       | [p],_,hl=>exact absurd rfl (hl p)
       | p::q::r,_,_=>simp
      have:=kin_false (ks:=[9]) (l:=l) fun p hp=>by simpa using hk p hp
      simp[nodeC,flatB,formedB,h2,this]
     ·unfold wrapA
      split
      ·rw[sizeL_one]at hsz
       simp only[aa,ab]at hsz ⊢
       omega
      ·show sizeP (.mk _ _ _ _ _ _ l)+2*s.cs.length≤_
       rw[size_eq]
       rename_i hl
       have h2:2≤l.length:=by
        match l,hne,hl with
        | [p],_,hl=>exact absurd rfl (hl p)
        | p::q::r,_,_=>simp
       omega
   ·rw[seqA]at h
    exact iSR [] s x s ha (Inv.refl s) (by rw[sizeL_nil];simp) (fun p hp=>by cases hp) h
   ·rw[seqRA]at h
    split at h
    ·cases h
     refine ⟨wrap_inv hi fun hl=>?_,?_,?_⟩
     ·have h2:l.length≠1:=fun e=>by
       match l,e,hl with
       | [p],_,hl=>exact hl p rfl
      have:=kin_false (ks:=[8,9]) (l:=l) fun p hp=>by simpa using hk p hp
      simp[nodeC,flatB,formedB,h2,this]
     ·unfold wrapA
      split
      ·rw[sizeL_one]at hsz
       simp only[aa,ab]at hsz ⊢
       omega
      ·show sizeP (.mk _ _ _ _ _ _ l)+2*s.cs.length≤_
       rw[size_eq]
       omega
     ·unfold wrapA
      split
      ·exact (hk _ (by simp)).2
      ·simp[made,Pc.kind]
    ·obtain ⟨⟨p,s1⟩,h1,h⟩:=bd_ok h
     obtain ⟨a1,a2,a3⟩:=iR s _ (ha.suf hi.cs) h1
     refine iSR (l++[p]) s1 x s0 ha (hi.trans a1) ?_ (fun q hq=>?_) h
     ·rw[sizeL_app,sizeL_one,List.length_append]
      simp only[aa,ab]
      simp only at a2
      omega
     ·rcases List.mem_append.1 hq with hq | hq
      ·exact hk q hq
      ·have:q=p:=by simpa using hq
       subst this;exact a3
   ·rw[repA]at h
    obtain ⟨⟨p,s1⟩,h1,h⟩:=bd_ok h
    obtain ⟨⟨b,s2⟩,h2,h⟩:=bd_ok h
    obtain ⟨a1,a2,a3⟩:=iAt s _ ha h1
    obtain ⟨b1,b2,b3,b4,b5,b6,b7⟩:=bounds_spec h2
    simp only at a1 a2 a3 h b1 b2 b3 b4 b5 b6 b7
    cases b with
    | none=>
      cases h
      have:=b1 rfl
      subst this
      exact ⟨a1,a2,osm⟩
    | some b=>
      obtain ⟨b8,b9⟩:=b7 b rfl
      simp only at h
      split at h
      ·cases h
      rename_i hk
      by_cases hah:ah [42,43,63,123] (if pre [63] s2.cs=true then s2.skip 1 else s2)=true
      ·rw[if_pos hah]at h;cases h
      rw[if_neg hah]at h
      clear hah
      cases h
      have hsf:(if pre [63] s2.cs=true then s2.skip 1 else s2).cs <:+ s2.cs:=by split;exact skip_suf _ _;exact List.suffix_refl _
      have heq:(if pre [63] s2.cs=true then s2.skip 1 else s2)={ s2 with cs:=(if pre [63] s2.cs=true then s2.skip 1 else s2).cs}:=by split<;>rfl
      generalize (if pre [63] s2.cs=true then s2.skip 1 else s2)=s3 at*
      have h3:Inv s [p] s3:=by
       have:=a1.trans (Inv.skip (s:=s1) (s1:=s3) (hsf.trans b2) (by rw[heq];exact b3) (by rw[heq];exact b4) (by rw[heq];exact b6) (by rw[heq];exact fun e=>b5 ▸ e))
       rwa [List.append_nil]at this
      refine ⟨Inv.node (s1:=s) h3 (List.suffix_refl _) rfl (.inl rfl) id id fun e1 _ _=>?_,?_,by simp[made,Pc.kind]⟩
      ·have hr:=b9 (by rw[heq]at e1;exact e1)
       have hkin:=kin_false (ks:=[8,9,10,4,5,6,11]) (l:=[p]) fun q hq=>by
        have:q=p:=by simpa using hq
        subst this
        simp
        omega
       have hrng:rngB (10,b.1,b.2,false,pre [63] s2.cs,([]:List (Int × Int)),[p])=true:=by simp only[rngB,decide_eq_true_eq];exact hr
       simp[nodeC,flatB,formedB,hkin,hrng]
      ·show sizeP (.mk _ _ _ _ _ _ [p])+2*s3.cs.length+1≤_
       rw[size_eq,sizeL_one]
       have:=hsf.length_le
       omega
   ·rw[atomA]at h
    have leaf:∀ {t:List Nat} {k:Int},pre t s.cs=true→0<t.length→nodeC s.ng (k,0,0,false,false,[],[])= .inr s.ng→(k=2∨k=4∨k=5)→Atm s (made (s.skip t.length) (.mk k 0 0 false false [] [])):=fun {t k} hp ht hn hk=>by
     have hl:=skip_len hp
     exact ⟨Inv.leaf (skip_suf _ _) rfl rfl id id fun _ _=>hn,by show sizeP (.mk _ _ _ _ _ _ [])+2*(s.skip t.length).cs.length+1≤_;rw[leaf_sz];omega,by simp[made,Pc.kind];omega⟩
    by_cases hp:pre [40,63,58] s.cs=true
    ·rw[if_pos hp]at h
     have hl:(s.skip 3).cs.length+3=s.cs.length:=skip_len (t:=[40,63,58]) hp
     exact iI s (s.skip 3) 7 0 false x (ha.suf (skip_suf _ _)) (.inl rfl) (skip_suf _ _) om rfl (.inl ⟨rfl,rfl,fun _=>rfl⟩) rfl rfl h
    rw[if_neg hp]at h;clear hp
    by_cases hp:pre [40,63,61] s.cs=true
    ·rw[if_pos hp]at h
     have hl:(s.skip 3).cs.length+3=s.cs.length:=skip_len (t:=[40,63,61]) hp
     exact iI s (s.skip 3) 11 0 false x (ha.suf (skip_suf _ _)) (.inr rfl) (skip_suf _ _) om rfl (.inl ⟨rfl,rfl,fun _=>rfl⟩) rfl rfl h
    rw[if_neg hp]at h;clear hp
    by_cases hp:pre [40,63,33] s.cs=true
    ·rw[if_pos hp]at h
     have hl:(s.skip 3).cs.length+3=s.cs.length:=skip_len (t:=[40,63,33]) hp
     exact iI s (s.skip 3) 11 0 true x (ha.suf (skip_suf _ _)) (.inr rfl) (skip_suf _ _) om rfl (.inl ⟨rfl,rfl,fun e=>by cases e⟩) rfl rfl h
    rw[if_neg hp]at h;clear hp
    by_cases hp:pre [40,63] s.cs=true
    ·rw[if_pos hp]at h;cases h
    rw[if_neg hp]at h;clear hp
    by_cases hp:pre [40] s.cs=true
    ·rw[if_pos hp]at h
     have hl:(s.skip 1).cs.length+1=s.cs.length:=skip_len (t:=[40]) hp
     exact iI s { s.skip 1 with ng:=s.ng+1} 7 _ false x (ha.suf (skip_suf _ _)) (.inl rfl) (skip_suf _ _) (by show (s.skip 1).cs.length<_;omega) rfl (.inr ⟨rfl,rfl,rfl,rfl⟩) rfl rfl h
    rw[if_neg hp]at h;clear hp
    by_cases hp:pre [91] s.cs=true
    ·rw[if_pos hp]at h
     have hl:(s.skip 1).cs.length+1=s.cs.length:=skip_len (t:=[91]) hp
     obtain ⟨c1,c2,c3⟩:=class_spec (ha.suf (skip_suf s 1)) h
     have:=(Inv.skip (s:=s) (s1:=s.skip 1) (skip_suf _ _) rfl rfl id id).trans c1
     exact ⟨this,om,om⟩
    rw[if_neg hp]at h;clear hp
    by_cases hp:pre [92] s.cs=true
    ·rw[if_pos hp]at h
     have hl:(s.skip 1).cs.length+1=s.cs.length:=skip_len (t:=[92]) hp
     obtain ⟨c1,c2,c3⟩:=esc_spec h
     have:=(Inv.skip (s:=s) (s1:=s.skip 1) (skip_suf _ _) rfl rfl id id).trans c1
     exact ⟨this,om,c3⟩
    rw[if_neg hp]at h;clear hp
    by_cases hp:pre [46] s.cs=true
    ·rw[if_pos hp]at h;cases h;exact leaf (t:=[46]) hp ddc (by simp[nodeC,flatB,formedB]) (.inl rfl)
    rw[if_neg hp]at h;clear hp
    by_cases hp:pre [94] s.cs=true
    ·rw[if_pos hp]at h;cases h;exact leaf (t:=[94]) hp ddc (by simp[nodeC,flatB,formedB]) (.inr (.inl rfl))
    rw[if_neg hp]at h;clear hp
    by_cases hp:pre [36] s.cs=true
    ·rw[if_pos hp]at h;cases h;exact leaf (t:=[36]) hp ddc (by simp[nodeC,flatB,formedB]) (.inr (.inr rfl))
    rw[if_neg hp]at h;clear hp
    by_cases hp:ah [42,43,63,123,125,93] s=true
    ·rw[if_pos hp]at h;cases h
    rw[if_neg hp]at h;clear hp
    split at h
    ·cases h
    ·rename_i c r hcs
     cases h
     have hsc:=scal_of (ha c (by rw[hcs];simp))
     exact ⟨Inv.leaf (s1:={ s with cs:=r}) (by rw[hcs];exact List.suffix_cons ..) rfl rfl id id fun _ _=>by simp[nodeC,flatB,formedB,hsc],by show sizeP (.mk _ _ _ _ _ _ [])+2*r.length+1≤_;rw[leaf_sz,hcs];simp only[aa];omega,by simp[made,Pc.kind]⟩
   ·rw[insA]at h
    obtain ⟨⟨p,s1⟩,h1,h⟩:=bd_ok h
    obtain ⟨a1,a2⟩:=iA s _ ha h1
    simp only at a1 a2 h
    split at h
    ·rename_i hp
     cases h
     have hl:(s1.skip 1).cs.length+1=s1.cs.length:=skip_len (t:=[41]) hp
     have h2:Inv s [p] (s1.skip 1):=by
      have:=a1.trans (Inv.skip (s:=s1) (s1:=s1.skip 1) (skip_suf _ _) rfl rfl id id)
      rwa [List.append_nil]at this
     refine ⟨Inv.node (s:=s0) (s1:=s) h2 hcs hnp ?_ (by rw[hlg];exact id) (by rw[hls];exact id) fun _ _ e3=>?_,?_,by simp[made,Pc.kind];omega⟩
     ·rcases hng with ⟨e,_⟩ | ⟨e,_⟩
      ·exact .inl e
      ·exact .inr ⟨e,hlen⟩
     ·rcases hng with ⟨e,rfl,hno⟩ | ⟨e,rfl,rfl,rfl⟩
      ·rw[e]
       rcases hk with rfl | rfl
       ·simp[nodeC,flatB,formedB,hno rfl]
       ·simp[nodeC,flatB,formedB]
      ·have h9:s.ng≤9:=Nat.le_trans h2.ng e3
       have h10:((s.ng:Nat):Int)=((s0.ng+1:Nat):Int)∧((s.ng:Nat):Int)≤9:=by omega
       have h11:s.ng≠0:=by omega
       have:nodeC s0.ng (7,((s.ng:Nat):Int),0,false,false,[],[p])=if ((s.ng:Nat):Int)=((s0.ng+1:Nat):Int)∧((s.ng:Nat):Int)≤9 then .inr (s0.ng+1) else .inl 11:=by
        simp[nodeC,flatB,formedB,h11]
       rw[this,if_pos h10,e]
     ·show sizeP (.mk _ _ _ _ _ _ [p])+2*(s1.skip 1).cs.length+1≤_
      rw[size_eq,sizeL_one]
      omega
    ·cases h
end Go.Gv.X
namespace Go.Gv.X
open Go Go.Gv Go.Gv.D Go.Gv.R Go.Gv.P Go.Lib
set_option maxRecDepth 100000
/-! Own work: how a piece is written, and that this is read as the piece. -/
def SP:List Nat:=[92,46,94,36,42,43,63,40,41,91,93,123,125,124]
def IC:List Nat:=[92,93,94,45,91]
def spellN (c:Int) (set:List Nat):List Nat:=if c=10 then [92,110] else if c=9 then [92,116] else if set.contains c.toNat then [92,c.toNat] else [c.toNat]
def decN (n:Int):List Nat:=(Lib.itoa n).map (·.toNat)
def rngN (r:Int × Int):List Nat:=spellN r.1 IC++(if r.1<r.2 then 45::spellN r.2 IC else [])
def clsN (no:Bool) (rs:List (Int × Int)):List Nat:=91::((if no then [94] else [])++(rs.flatMap rngN++[93]))
def tmsN (lo hi:Int):List Nat:=
 if hi= -1∧lo=0 then [42] else if hi= -1∧lo=1 then [43] else if lo=0∧hi=1 then [63] else
 if hi= -1 then 123::(decN lo++[44,125]) else if hi=lo then 123::(decN lo++[125]) else 123::(decN lo++44::(decN hi++[125]))
def interN:List (List Nat)→List Nat
 | []=>[]
 | t::ts=>t++ts.flatMap fun u=>124::u
mutual
def txt:Pc→List Nat
 | .mk k lo hi no lz rs subs=>
   if k=1 then spellN lo SP else if k=2 then [46] else if k=3 then clsN no rs else if k=4 then [94] else if k=5 then [36] else
   if k=6 then (if no then [92,66] else [92,98]) else
   if k=7 then (if lo=0 then [40,63,58] else [40])++((txtL subs).headD []++[41]) else
   if k=8 then (txtL subs).flatten else if k=9 then interN (txtL subs) else
   if k=10 then (txtL subs).headD []++(tmsN lo hi++if lz then [63] else []) else
   if k=11 then (if no then [40,63,33] else [40,63,61])++((txtL subs).headD []++[41]) else 92::decN lo
def txtL:List Pc→List (List Nat)
 | []=>[]
 | p::ps=>txt p::txtL ps
end
theorem txtL_eq:∀ l:List Pc,txtL l=l.map txt
 | []=>by rw[txtL];rfl
 | p::l=>by rw[txtL,txtL_eq l];rfl
/-! numbers -/
theorem pre_cons {t:List Nat} {c:Nat} {r:List Nat}:pre (c::t) (c::r)=pre t r:=by simp[pre,List.isPrefixOf]
theorem pre_ne {t:List Nat} {c d:Nat} {r:List Nat} (h:c≠d):pre (c::t) (d::r)=false:=by simp[pre,List.isPrefixOf,h]
theorem pre_none {t:List Nat} {c:Nat}:pre (c::t) []=false:=rfl
theorem pre_nil {r:List Nat}:pre [] r=true:=by simp[pre]
end Go.Gv.X
namespace Go.Gv.X
open Go Go.Gv Go.Gv.D Go.Gv.R Go.Gv.P Go.Lib
set_option maxRecDepth 100000
/-! Own work: what is written is read as it was: characters, classes. -/
theorem Tot.suc {α:Type} {f:Nat→Option α} {Q:α→Prop} (h:Tot (fun n=>f (n+1)) Q):Tot f Q:=by
 obtain ⟨a,ha,N,hN⟩:=h
 refine ⟨a,ha,N+1,fun n hn=>?_⟩
 obtain ⟨m,rfl⟩:∃ m,n=m+1:=⟨n-1,om⟩
 exact hN m om
theorem Tot.eqf {α:Type} {f g:Nat→Option α} {Q:α→Prop} (e:∀ n,f n=g n) (h:Tot g Q):Tot f Q:=by
 rw[show f=g from funext e];exact h
theorem Tot.const {α:Type} {a:α} {x:Option α} (h:x=some a):Tot (fun _=>x) (· =a):=⟨a,rfl,0,fun _ _=>h⟩
end Go.Gv.X
namespace Go.Gv.X
open Go Go.Gv Go.Gv.D Go.Gv.R Go.Gv.P Go.Lib
set_option maxRecDepth 100000
/-! Own work: what is written is read as it was. -/
theorem len_one {α:Type} {l:List α} (h:l.length=1):∃ q,l=[q]:=by
 match l,h with
 | [q],_=>exact ⟨q,rfl⟩
theorem node_inv {g g1:Nat} {k lo hi:Int} {no lz:Bool} {rs:List (Int × Int)} {subs:List Pc} (h:nodeC g (k,lo,hi,no,lz,rs,subs)= .inr g1):
 (k=1∧scal lo=true∧hi=0∧no=false∧lz=false∧rs=[]∧subs=[]∧g1=g)∨
 ((k=2∨k=4∨k=5)∧lo=0∧hi=0∧no=false∧lz=false∧rs=[]∧subs=[]∧g1=g)∨
 (k=3∧lo=0∧hi=0∧lz=false∧ordR rs=true∧rs≠[]∧subs=[]∧g1=g)∨
 (k=6∧lo=0∧hi=0∧lz=false∧rs=[]∧subs=[]∧g1=g)∨
 (k=7∧hi=0∧no=false∧lz=false∧rs=[]∧subs.length=1∧(lo=0∧g1=g∨lo=(g+1:Nat)∧g1=g+1))∨
 (k=8∧lo=0∧hi=0∧no=false∧lz=false∧rs=[]∧subs.length≠1∧kin [8,9] subs=false∧g1=g)∨
 (k=9∧lo=0∧hi=0∧no=false∧lz=false∧rs=[]∧2≤subs.length∧kin [9] subs=false∧g1=g)∨
 (k=10∧no=false∧rs=[]∧subs.length=1∧kin [8,9,10,4,5,6,11] subs=false∧(0≤lo∧lo≤99∧ -1≤hi∧hi≤99∧(hi<0∨lo≤hi))∧g1=g)∨
 (k=11∧lo=0∧hi=0∧lz=false∧rs=[]∧subs.length=1∧g1=g)∨
 (k=12∧(1≤lo∧lo≤9)∧lo≤g∧hi=0∧no=false∧lz=false∧rs=[]∧subs=[]∧g1=g):=by
 unfold nodeC at h
 split at h
 ·cases h
 rename_i hr
 split at h
 ·cases h
 rename_i hf
 split at h
 ·cases h
 rename_i hq
 simp only[Bool.not_eq_false]at hf
 simp only at hr hq h
 obtain rfl | rfl | rfl | rfl | rfl | rfl | rfl | rfl | rfl | rfl | rfl | rfl:k=1∨k=2∨k=3∨k=4∨k=5∨k=6∨k=7∨k=8∨k=9∨k=10∨k=11∨k=12:=by omega
 ·simp[flatB,formedB]at hf h;simp[hf,h]
 ·simp[flatB,formedB]at hf h;simp[hf,h]
 ·simp[flatB,formedB]at hf h;simp[hf,h]
 ·simp[flatB,formedB]at hf h;simp[hf,h]
 ·simp[flatB,formedB]at hf h;simp[hf,h]
 ·simp[flatB,formedB]at hf h;simp[hf,h]
 ·simp[flatB,formedB]at hf
  simp only[true_and]at h
  refine .inr (.inr (.inr (.inr (.inl ⟨rfl,hf.1.1.1,hf.1.2.1,hf.1.1.2,hf.1.2.2,hf.2,?_⟩))))
  split at h
  ·split at h
   ·rename_i h2;cases h;exact .inr ⟨h2.1,rfl⟩
   ·cases h
  ·rename_i h2
   simp at h h2
   exact .inl ⟨h2,h.symm⟩
 ·simp[flatB,formedB]at hf h;simp[hf,h]
 ·simp[flatB,formedB]at hf h;simp[hf,h]
 ·simp[flatB,formedB]at hf h
  simp only[true_and,Bool.not_eq_false,rngB,decide_eq_true_eq]at hq
  simp[hf,h]
  exact hq
 ·simp[flatB,formedB]at hf h;simp[hf,h]
 ·simp[flatB,formedB]at hf
  simp only[true_and]at h
  split at h
  ·rename_i h2;omega
  split at h
  ·cases h
  ·rename_i h2
   simp at h h2
   simp[hf,h]
   omega
end Go.Gv.X
