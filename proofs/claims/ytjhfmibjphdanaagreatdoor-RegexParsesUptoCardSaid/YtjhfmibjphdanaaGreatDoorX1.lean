import Derived.Test.YtjhfmibjphdanaaGreatDoorF1
import Derived.Test.YtjhfmibjphdanaaGreatDoorGpc
import Derived.Test.YtjhfmibjphdanaaGreatDoorGso
import Derived.Sort.AssemblyPlain
set_option linter.all false
open List renaming mem_cons_self→aa,mem_cons_of_mem→ab,cons_append→ae,suffix_cons→af,suffix_refl→ag
open Bool renaming or_eq_false_iff→ac
open Int renaming le_refl→ad
namespace Go.Gv.X
open Go Go.Gv Go.Gv.D Go.Gv.R Go.Gv.P Go.Lib
set_option maxRecDepth 100000
/-! Own work: reading a regular expression, on lists of code points. -/
/-- what a parser holds: the code points that are left, how many pieces were made, groups begun; a number too large; a group not yet begun -/
structure St where
 cs:List Nat
 np:Nat
 ng:Nat
 lg:Bool
 ls:Bool
/-- none: more fuel; inr: no expression -/
abbrev Res (α:Type):=Option (α ⊕ Unit)
def bd {α β:Type} (x:Res α) (f:α→Res β):Res β:=match x with
 | none=>none
 | some (.inr u)=>some (.inr u)
 | some (.inl a)=>f a
def er {α:Type}:Res α:=some (.inr ())
def ok {α:Type} (a:α):Res α:=some (.inl a)
def pre (t cs:List Nat):Bool:=t.isPrefixOf cs
def St.skip (s:St) (k:Nat):St:={ s with cs:=s.cs.drop k}
def ah (t:List Nat) (s:St):Bool:=match s.cs with
 | []=>false
 | c::_=>t.contains c
def made (s:St) (p:Pc):Pc × St:=(p,{ s with np:=s.np+1})
def Pc.kind:Pc→Int | .mk k _ _ _ _ _ _=>k
def valD (t:List Nat):Nat:=valN 0 (enc t)
def digitsA (s:St):Res (Int × St):=
 if twN s.cs=[]∨(1<(twN s.cs).length∧(twN s.cs).head? =some 48) then er else
 if valD (twN s.cs)>99 then ok (99,{ s with cs:=dwN s.cs,lg:=true}) else ok ((valD (twN s.cs):Int),{ s with cs:=dwN s.cs})
def boundsA (s:St):Res (Option (Int × Int) × St):=
 if pre [42] s.cs then ok (some (0, -1),s.skip 1) else
 if pre [43] s.cs then ok (some (1, -1),s.skip 1) else
 if pre [63] s.cs then ok (some (0,1),s.skip 1) else
 if !pre [123] s.cs then ok (none,s) else
 bd (digitsA (s.skip 1)) fun x=>
  bd (if pre [44] x.2.cs then (if ah [125] (x.2.skip 1) then ok (-1,x.2.skip 1) else digitsA (x.2.skip 1)) else ok (x.1,x.2)) fun y=>
   if pre [125] y.2.cs then ok (some (x.1,y.1),{ y.2.skip 1 with lg:=y.2.lg||(decide (0≤y.1)&&decide (y.1<x.1))}) else er
def namedA (c:Nat):List (Int × Int):=if c=100 then [(48,57)] else if c=119 then [(48,57),(65,90),(95,95),(97,122)] else if c=115 then [(9,10),(32,32)] else []
def symA (c:Nat):Option Nat:=if c=110 then some 10 else if c=116 then some 9 else
 if 128≤c∨c<33∨c=127∨(48≤c∧c≤57)∨(65≤c∧c≤90)∨(97≤c∧c≤122) then none else some c
def escA (s:St):Res (Pc × St):=match s.cs with
 | []=>er
 | c::r=>
   if c=98∨c=66 then ok (made { s with cs:=r} (.mk 6 0 0 (c==66) false [] [])) else
   if 49≤c∧c≤57 then ok (made { s with cs:=r,ls:=s.ls||decide (s.ng<c-48)} (.mk 12 ((c-48:Nat):Int) 0 false false [] [])) else
   if namedA c≠[] then ok (made { s with cs:=r} (.mk 3 0 0 false false (namedA c) [])) else
   if c=68∨c=87∨c=83 then ok (made { s with cs:=r} (.mk 3 0 0 true false (namedA (c+32)) [])) else
   match symA c with
   | none=>er
   | some d=>ok (made { s with cs:=r} (.mk 1 (d:Int) 0 false false [] []))
def memA (s:St):Res ((Nat ⊕ List (Int × Int)) × St):=match s.cs with
 | []=>er
 | c::r=>if c=91∨c=93∨c=45 then er else
   if c≠92 then ok (.inl c,{ s with cs:=r}) else
   match r with
   | []=>er
   | d::r=>if namedA d≠[] then ok (.inr (namedA d),{ s with cs:=r}) else
     match symA d with
     | none=>er
     | some e=>ok (.inl e,{ s with cs:=r})
/-- a member of a class, or a range -/
def itemA (s:St):Res (List (Int × Int) × St):=bd (memA s) fun x=>match x.1 with
 | .inr l=>ok (l,x.2)
 | .inl low=>if pre [45] x.2.cs then bd (memA (x.2.skip 1)) fun y=>(match y.1 with
    | .inl high=>if high<low then er else ok ([((low:Int),(high:Int))],y.2)
    | .inr _=>er)
   else ok ([((low:Int),(low:Int))],x.2)
def clsA:Nat→List (Int × Int)→St→Res (List (Int × Int) × St)
 | 0,_,_=>none
 | n+1,acc,s=>bd (itemA s) fun x=>if pre [93] x.2.cs then ok (acc++x.1,x.2.skip 1) else clsA n (acc++x.1) x.2
/-- ranges in order, those that touch united -/
def mStep (out:List (Int × Int)) (x:Int × Int):List (Int × Int):=match out.getLast? with
 | none=>[x]
 | some y=>if x.1≤y.2+1 then out.dropLast++[(y.1,max y.2 x.2)] else out++[x]
def mergedL (l:List (Int × Int)):List (Int × Int):=(sortR l).foldl mStep []
def classA (n:Nat) (s:St):Res (Pc × St):=bd (clsA n [] (if pre [94] s.cs then s.skip 1 else s)) fun x=>ok (made x.2 (.mk 3 0 0 (pre [94] s.cs) false (mergedL x.1) []))
def wrapA (k:Int) (l:List Pc) (s:St):Pc × St:=match l with
 | [p]=>(p,s)
 | _=>made s (.mk k 0 0 false false [] l)
mutual
def altsA:Nat→St→Res (Pc × St)
 | 0,_=>none
 | n+1,s=>bd (seqA n s) fun x=>altRA n [x.1] x.2
def altRA:Nat→List Pc→St→Res (Pc × St)
 | 0,_,_=>none
 | n+1,l,s=>if pre [124] s.cs then bd (seqA n (s.skip 1)) fun x=>altRA n (l++[x.1]) x.2 else ok (wrapA 9 l s)
def seqA:Nat→St→Res (Pc × St)
 | 0,_=>none
 | n+1,s=>seqRA n [] s
def seqRA:Nat→List Pc→St→Res (Pc × St)
 | 0,_,_=>none
 | n+1,l,s=>if s.cs=[]∨ah [124,41] s=true then ok (wrapA 8 l s) else bd (repA n s) fun x=>seqRA n (l++[x.1]) x.2
def repA:Nat→St→Res (Pc × St)
 | 0,_=>none
 | n+1,s=>bd (atomA n s) fun x=>bd (boundsA x.2) fun y=>match y.1 with
   | none=>ok (x.1,y.2)
   | some b=>if Pc.kind x.1=4∨Pc.kind x.1=5∨Pc.kind x.1=6∨Pc.kind x.1=11 then er else
     let s2:=if pre [63] y.2.cs then y.2.skip 1 else y.2
     if ah [42,43,63,123] s2 then er else ok (made s2 (.mk 10 b.1 b.2 false (pre [63] y.2.cs) [] [x.1]))
def atomA:Nat→St→Res (Pc × St)
 | 0,_=>none
 | n+1,s=>
   if pre [40,63,58] s.cs then insA n (s.skip 3) 7 0 false else
   if pre [40,63,61] s.cs then insA n (s.skip 3) 11 0 false else
   if pre [40,63,33] s.cs then insA n (s.skip 3) 11 0 true else
   if pre [40,63] s.cs then er else
   if pre [40] s.cs then insA n { s.skip 1 with ng:=s.ng+1} 7 ((s.ng+1:Nat):Int) false else
   if pre [91] s.cs then classA n (s.skip 1) else
   if pre [92] s.cs then escA (s.skip 1) else
   if pre [46] s.cs then ok (made (s.skip 1) (.mk 2 0 0 false false [] [])) else
   if pre [94] s.cs then ok (made (s.skip 1) (.mk 4 0 0 false false [] [])) else
   if pre [36] s.cs then ok (made (s.skip 1) (.mk 5 0 0 false false [] [])) else
   if ah [42,43,63,123,125,93] s then er else
   match s.cs with
   | []=>er
   | c::r=>ok (made { s with cs:=r} (.mk 1 (c:Int) 0 false false [] []))
def insA:Nat→St→Int→Int→Bool→Res (Pc × St)
 | 0,_,_,_,_=>none
 | n+1,s,k,low,no=>bd (altsA n s) fun x=>if pre [41] x.2.cs then ok (made (x.2.skip 1) (.mk k low 0 no false [] [x.1])) else er
end
end Go.Gv.X
namespace Go.Gv.X
open Go Go.Gv Go.Gv.D Go.Gv.R Go.Gv.P Go.Lib
set_option maxRecDepth 100000
/-! Own work: pieces: their order, number, what is asked of each. -/
mutual
def preP:Pc→List Pc
 | .mk k l h n z r s=>.mk k l h n z r s::preL s
def preL:List Pc→List Pc
 | []=>[]
 | p::ps=>preP p++preL ps
end
mutual
def sizeP:Pc→Nat
 | .mk _ _ _ _ _ _ s=>1+sizeL s
def sizeL:List Pc→Nat
 | []=>0
 | p::ps=>sizeP p+sizeL ps
end
theorem preL_app:∀ (a b:List Pc),preL (a++b)=preL a++preL b
 | [],b=>by simp[preL]
 | p::a,b=>by rw[ae,preL,preL,preL_app a b,List.append_assoc]
theorem sizeL_app:∀ (a b:List Pc),sizeL (a++b)=sizeL a+sizeL b
 | [],b=>by simp[sizeL]
 | p::a,b=>by rw[ae,sizeL,sizeL,sizeL_app a b];omega
theorem pre_eq (k l h:Int) (n z:Bool) (r:List (Int × Int)) (s:List Pc):preP (.mk k l h n z r s)= .mk k l h n z r s::preL s:=by rw[preP]
theorem size_eq (k l h:Int) (n z:Bool) (r:List (Int × Int)) (s:List Pc):sizeP (.mk k l h n z r s)=1+sizeL s:=by rw[sizeP]
theorem preL_one (p:Pc):preL [p]=preP p:=by rw[preL,preL,List.append_nil]
theorem sizeL_one (p:Pc):sizeL [p]=sizeP p:=by rw[sizeL,sizeL,Nat.add_zero]
mutual
theorem pre_len:∀ p:Pc,(preP p).length=sizeP p
 | .mk k l h n z r s=>by rw[pre_eq,size_eq,List.length_cons,preL_len s];omega
theorem preL_len:∀ l:List Pc,(preL l).length=sizeL l
 | []=>by simp[preL,sizeL]
 | p::ps=>by rw[preL,sizeL,List.length_append,pre_len p,preL_len ps]
end
theorem size_pos (p:Pc):0<sizeP p:=by cases p;rw[size_eq];omega
def scal (n:Int):Bool:=decide (0≤n∧n<55296∨57343<n∧n≤1114111)
def ordR:List (Int × Int)→Bool
 | []=>true
 | [x]=>scal x.1&&(scal x.2&&decide (x.1≤x.2))
 | x::y::r=>scal x.1&&(scal x.2&&(decide (x.1≤x.2)&&(decide (x.2+1<y.1)&&ordR (y::r))))
def kin (ks:List Int) (l:List Pc):Bool:=l.any fun p=>ks.contains (Pc.kind p)
/-- fields that a kind does not use -/
def flatB (x:PcT):Bool:=
 (decide (x.1=1∨x.1=7∨x.1=10∨x.1=12)||decide (x.2.1=0))&&((decide (x.1=10)||(decide (x.2.2.1=0)&& !x.2.2.2.2.1))&&((decide (x.1=3∨x.1=6∨x.1=11)|| !x.2.2.2.1)&&(decide (x.1=3)||x.2.2.2.2.2.1.isEmpty)))
def formedB (x:PcT):Bool:=
 if x.1=1 then x.2.2.2.2.2.2.isEmpty&&scal x.2.1 else
 if x.1=3 then x.2.2.2.2.2.2.isEmpty&&(ordR x.2.2.2.2.2.1&& !x.2.2.2.2.2.1.isEmpty) else
 if x.1=2∨x.1=4∨x.1=5∨x.1=6 then x.2.2.2.2.2.2.isEmpty else
 if x.1=12 then x.2.2.2.2.2.2.isEmpty&&decide (1≤x.2.1∧x.2.1≤9) else
 if x.1=7∨x.1=11 then decide (x.2.2.2.2.2.2.length=1) else
 if x.1=8 then decide (x.2.2.2.2.2.2.length≠1)&& !kin [8,9] x.2.2.2.2.2.2 else
 if x.1=9 then decide (2≤x.2.2.2.2.2.2.length)&& !kin [9] x.2.2.2.2.2.2 else
 decide (x.2.2.2.2.2.2.length=1)&& !kin [8,9,10,4,5,6,11] x.2.2.2.2.2.2
def rngB (x:PcT):Bool:=decide (0≤x.2.1∧x.2.1≤99∧ -1≤x.2.2.1∧x.2.2.1≤99∧(x.2.2.1<0∨x.2.1≤x.2.2.1))
/-- one piece: a fault's code, or the number of groups that have begun -/
def nodeC (g:Nat) (x:PcT):Int ⊕ Nat:=
 if x.1<1∨13≤x.1 then .inl 5 else
 if (flatB x&&formedB x)=false then .inl 6 else
 if x.1=10∧rngB x=false then .inl 4 else
 if x.1=7∧x.2.1≠0 then (if x.2.1=(g+1:Nat)∧x.2.1≤9 then .inr (g+1) else .inl 11) else
 if x.1=12∧(g:Int)<x.2.1 then .inl 12 else .inr g
def chkL:Nat→List Pc→Option Nat
 | g,[]=>some g
 | g,p::l=>match nodeC g p.un with
   | .inl _=>none
   | .inr g'=>chkL g' l
theorem chkL_app:∀ (a b:List Pc) (g:Nat),chkL g (a++b)=(chkL g a).bind fun g'=>chkL g' b
 | [],b,g=>rfl
 | p::a,b,g=>by
   rw[ae,chkL,chkL]
   cases nodeC g p.un with
   | inl c=>rfl
   | inr g'=>exact chkL_app a b g'
theorem chk_node {g g':Nat} {p:Pc} {l:List Pc} (h:nodeC g p.un= .inr g'):chkL g (p::l)=chkL g' l:=by rw[chkL,h]
/-! the lists of ranges -/
def cov (l:List (Int × Int)) (x:Int):Prop:=∃ r∈l,r.1≤x∧x≤r.2
def proper (l:List (Int × Int)):Prop:=∀ r∈l,r.1≤r.2
/-- in order, with gaps -/
def gaps:List (Int × Int)→Prop
 | []=>True
 | [x]=>x.1≤x.2
 | x::y::r=>x.1≤x.2∧x.2+1<y.1∧gaps (y::r)
theorem gaps_tail {x:Int × Int} {r:List (Int × Int)} (h:gaps (x::r)):gaps r:=by
 cases r with
 | nil=>trivial
 | cons y r=>exact h.2.2
theorem gaps_head {x:Int × Int} {r:List (Int × Int)} (h:gaps (x::r)):x.1≤x.2:=by
 cases r with
 | nil=>exact h
 | cons y r=>exact h.1
theorem gaps_above:∀ {r:List (Int × Int)} {x:Int × Int},gaps (x::r)→∀ y∈r,x.2+1<y.1
 | [],x,_,y,hy=>by cases hy
 | z::r,x,h,y,hy=>by
   rcases List.mem_cons.1 hy with rfl | hy
   ·exact h.2.1
   ·have:=gaps_above h.2.2 y hy
    have:=gaps_head h.2.2
    have:=h.2.1
    omega
theorem gaps_uniq:∀ {a b:List (Int × Int)},gaps a→gaps b→(∀ x,cov a x↔cov b x)→a=b
 | [],[],_,_,_=>rfl
 | [],y::b,_,hb,h=>by
   have:=(h y.1).2 ⟨y,aa ..,ad _,gaps_head hb⟩
   obtain ⟨r,hr,_⟩:=this
   cases hr
 | x::a,[],ha,_,h=>by
   have:=(h x.1).1 ⟨x,aa ..,ad _,gaps_head ha⟩
   obtain ⟨r,hr,_⟩:=this
   cases hr
 | x::a,y::b,ha,hb,h=>by
   have hx:=gaps_head ha
   have hy:=gaps_head hb
   have lo:∀ {u:Int × Int} {c:List (Int × Int)},gaps (u::c)→∀ z,cov (u::c) z→u.1≤z:=fun {u c} hu z ⟨r,hr,h1,h2⟩=>by
    rcases List.mem_cons.1 hr with rfl | hr
    ·exact h1
    ·have:=gaps_above hu r hr;have:=gaps_head hu;omega
   have e1:x.1=y.1:=by
    have h1:=lo hb x.1 ((h x.1).1 ⟨x,aa ..,ad _,hx⟩)
    have h2:=lo ha y.1 ((h y.1).2 ⟨y,aa ..,ad _,hy⟩)
    omega
   have hi:∀ {u v:Int × Int} {c d:List (Int × Int)},gaps (u::c)→gaps (v::d)→u.1=v.1→(∀ x,cov (u::c) x→cov (v::d) x)→u.2≤v.2:=fun {u v c d} hu hv he hc=>by
    rcases (show v.2<u.2∨u.2≤v.2 by omega) with hlt | hge
    ·have hv':=gaps_head hv
     obtain ⟨r,hr,h1,h2⟩:=hc (v.2+1) ⟨u,aa ..,om,om⟩
     rcases List.mem_cons.1 hr with rfl | hr
     ·omega
     ·have:=gaps_above hv r hr;omega
    ·omega
   have e2:x.2=y.2:=by
    have h1:=hi ha hb e1 fun z=>(h z).1
    have h2:=hi hb ha e1.symm fun z=>(h z).2
    omega
   have e:x=y:=Prod.ext e1 e2
   subst e
   rw[gaps_uniq (gaps_tail ha) (gaps_tail hb) fun z=>?_]
   have far:∀ {c:List (Int × Int)},gaps (x::c)→cov c z→x.2<z:=fun {c} hc ⟨r,hr,h1,_⟩=>by have:=gaps_above hc r hr;omega
   constructor
   ·intro hz
    have hf:=far ha hz
    obtain ⟨r,hr,h1⟩:=(h z).1 (by obtain ⟨r,hr,h1⟩:=hz;exact ⟨r,ab _ hr,h1⟩)
    rcases List.mem_cons.1 hr with rfl | hr
    ·omega
    ·exact ⟨r,hr,h1⟩
   ·intro hz
    have hf:=far hb hz
    obtain ⟨r,hr,h1⟩:=(h z).2 (by obtain ⟨r,hr,h1⟩:=hz;exact ⟨r,ab _ hr,h1⟩)
    rcases List.mem_cons.1 hr with rfl | hr
    ·omega
    ·exact ⟨r,hr,h1⟩
theorem gaps_snoc:∀ {l:List (Int × Int)} {x:Int × Int},gaps l→(∀ y,l.getLast? =some y→y.2+1<x.1)→x.1≤x.2→gaps (l++[x])
 | [],x,_,_,h=>h
 | [y],x,hy,h1,h=>⟨hy,h1 y rfl,h⟩
 | y::z::r,x,hy,h1,h=>⟨hy.1,hy.2.1,gaps_snoc (l:=z::r) hy.2.2 (fun u hu=>h1 u (by rw[List.getLast?_cons_cons];exact hu)) h⟩
theorem gaps_init:∀ {l:List (Int × Int)} {x:Int × Int},gaps (l++[x])→gaps l∧(∀ y,l.getLast? =some y→y.2+1<x.1)∧x.1≤x.2
 | [],x,h=>⟨trivial,fun _ h=>by simp at h,h⟩
 | [y],x,h=>⟨h.1,fun u hu=>by simp at hu;subst hu;exact h.2.1,h.2.2⟩
 | y::z::r,x,h=>by
   obtain ⟨h1,h2,h3⟩:=gaps_init (l:=z::r) h.2.2
   exact ⟨⟨h.1,h.2.1,h1⟩,fun u hu=>h2 u (by rw[List.getLast?_cons_cons]at hu;exact hu),h3⟩
theorem mStep_snoc (l:List (Int × Int)) (y x:Int × Int):mStep (l++[y]) x=if x.1≤y.2+1 then l++[(y.1,max y.2 x.2)] else l++[y]++[x]:=by
 unfold mStep
 rw[List.getLast?_concat]
 simp only[List.dropLast_concat]
/-- one range more: lists whose beginnings do not fall -/
theorem merge_fold:∀ (l out:List (Int × Int)),gaps out→proper l→l.Pairwise (fun a b=>a.1≤b.1)→(∀ y∈out,∀ x∈l,y.1≤x.1)→
 gaps (l.foldl mStep out)∧(∀ z,cov (l.foldl mStep out) z↔cov out z∨cov l z)∧(∀ r∈l.foldl mStep out,(∃ y∈out++l,y.1=r.1)∧∃ y∈out++l,y.2=r.2)
 | [],out,ho,_,_,_=>⟨ho,fun z=>⟨.inl,fun h=>h.elim id fun ⟨r,hr,_⟩=>by cases hr⟩,fun r hr=>⟨⟨r,by simpa using hr,rfl⟩,⟨r,by simpa using hr,rfl⟩⟩⟩
 | x::l,out,ho,hp,hs,hb=>by
   rw[List.foldl_cons]
   have hx:=hp x (aa ..)
   obtain ⟨hs1,hs2⟩:=List.pairwise_cons.1 hs
   have key:gaps (mStep out x)∧(∀ z,cov (mStep out x) z↔cov out z∨(x.1≤z∧z≤x.2))∧(∀ y∈mStep out x,y.1≤x.1∧((∃ u∈out++[x],u.1=y.1)∧∃ u∈out++[x],u.2=y.2)):=by
    rcases List.eq_nil_or_concat out with rfl | ⟨o,y,rfl⟩
    ·refine ⟨hx,fun z=>⟨fun ⟨r,hr,h⟩=>?_,fun h=>?_⟩,fun y hy=>?_⟩
     ·have:r=x:=by simpa [mStep] using hr
      subst this;exact .inr h
     ·rcases h with ⟨r,hr,_⟩ | h
      ·cases hr
      ·exact ⟨x,by simp[mStep],h⟩
     ·have:y=x:=by simpa [mStep] using hy
      subst this
      exact ⟨ad _,⟨y,by simp,rfl⟩,⟨y,by simp,rfl⟩⟩
    ·rw[List.concat_eq_append]at*
     rw[mStep_snoc]
     obtain ⟨g1,g2,g3⟩:=gaps_init ho
     have hyx:=hb y (by simp) x (aa ..)
     split
     ·rename_i hc
      refine ⟨gaps_snoc g1 (fun u hu=>by have:=g2 u hu;simpa using this) osm,fun z=>⟨fun ⟨r,hr,h⟩=>?_,fun h=>?_⟩,fun u hu=>?_⟩
      ·rcases List.mem_append.1 hr with hr | hr
       ·exact .inl ⟨r,by simp[hr],h⟩
       ·have:r=(y.1,max y.2 x.2):=by simpa using hr
        subst this
        simp only at h
        rcases (show y.2<z∨z≤y.2 by omega) with h1 | h1
        ·exact .inr om
        ·exact .inl ⟨y,by simp,h.1,h1⟩
      ·rcases h with ⟨r,hr,h⟩ | h
       ·rcases List.mem_append.1 hr with hr | hr
        ·exact ⟨r,by simp[hr],h⟩
        ·have:r=y:=by simpa using hr
         subst this
         exact ⟨(r.1,max r.2 x.2),by simp,h.1,osm⟩
       ·exact ⟨(y.1,max y.2 x.2),by simp,osm,osm⟩
      ·rcases List.mem_append.1 hu with hu | hu
       ·exact ⟨hb u (by simp[hu]) x (aa ..),⟨u,by simp[hu],rfl⟩,⟨u,by simp[hu],rfl⟩⟩
       ·have:u=(y.1,max y.2 x.2):=by simpa using hu
        subst this
        refine ⟨hyx,⟨y,by simp,rfl⟩,?_⟩
        rcases (show y.2<x.2∨x.2≤y.2 by omega) with h1 | h1
        ·exact ⟨x,by simp,osm⟩
        ·exact ⟨y,by simp,osm⟩
     ·rename_i hc
      refine ⟨gaps_snoc ho (fun u hu=>by rw[List.getLast?_concat]at hu;cases hu;omega) hx,fun z=>⟨fun ⟨r,hr,h⟩=>?_,fun h=>?_⟩,fun u hu=>?_⟩
      ·rcases List.mem_append.1 hr with hr | hr
       ·exact .inl ⟨r,hr,h⟩
       ·have:r=x:=by simpa using hr
        subst this;exact .inr h
      ·rcases h with ⟨r,hr,h⟩ | h
       ·exact ⟨r,List.mem_append_left _ hr,h⟩
       ·exact ⟨x,by simp,h⟩
      ·rcases List.mem_append.1 hu with h1 | h1
       ·exact ⟨hb u h1 x (aa ..),⟨u,hu,rfl⟩,⟨u,hu,rfl⟩⟩
       ·have:u=x:=by simpa using h1
        subst this
        exact ⟨ad _,⟨u,hu,rfl⟩,⟨u,hu,rfl⟩⟩
   obtain ⟨k1,k2,k3⟩:=key
   obtain ⟨m1,m2,m3⟩:=merge_fold l (mStep out x) k1 (fun r hr=>hp r (ab _ hr)) hs2 (fun y hy z hz=>by have:=(k3 y hy).1;have:=hs1 z hz;omega)
   refine ⟨m1,fun z=>?_,fun r hr=>?_⟩
   ·rw[m2,k2]
    constructor
    ·rintro ((h | h) | ⟨r,hr,h⟩)
     ·exact .inl h
     ·exact .inr ⟨x,aa ..,h⟩
     ·exact .inr ⟨r,ab _ hr,h⟩
    ·rintro (h | ⟨r,hr,h⟩)
     ·exact .inl (.inl h)
     ·rcases List.mem_cons.1 hr with rfl | hr
      ·exact .inl (.inr h)
      ·exact .inr ⟨r,hr,h⟩
   ·have tr:∀ y∈mStep out x++l,(∃ u∈out++x::l,u.1=y.1)∧∃ u∈out++x::l,u.2=y.2:=fun y hy=>by
     have sub:∀ u∈out++[x],u∈out++x::l:=fun u hu=>by
      rcases List.mem_append.1 hu with h | h
      ·exact List.mem_append_left _ h
      ·have:u=x:=by simpa using h
       subst this;simp
     rcases List.mem_append.1 hy with h | h
     ·obtain ⟨_,⟨u,hu,e⟩,⟨v,hv,f⟩⟩:=k3 y h
      exact ⟨⟨u,sub u hu,e⟩,⟨v,sub v hv,f⟩⟩
     ·exact ⟨⟨y,by simp[h],rfl⟩,⟨y,by simp[h],rfl⟩⟩
    obtain ⟨⟨y,hy,e⟩,⟨z,hz,f⟩⟩:=m3 r hr
    obtain ⟨⟨u,hu,e'⟩,_⟩:=tr y hy
    obtain ⟨_,⟨v,hv,f'⟩⟩:=tr z hz
    exact ⟨⟨u,hu,e'.trans e⟩,⟨v,hv,f'.trans f⟩⟩
end Go.Gv.X
namespace Go.Gv.X
open Go Go.Gv Go.Gv.D Go.Gv.R Go.Gv.P Go.Lib
set_option maxRecDepth 100000
/-! Own work: what is read is well formed. -/
theorem swoF:Go.Sort.SWO ltFst where
 irrefl x:=by simp[ltFst]
 trans x y z h1 h2:=by simp[ltFst]at *; omega
 ntrans x y z h1 h2:=by simp[ltFst]at *; omega
theorem sortR_spec (l:List (Int × Int)):(sortR l).Perm l∧(sortR l).Pairwise (fun a b=>a.1≤b.1):=by
 unfold sortR
 split
 ·rename_i h;subst h;exact ⟨List.Perm.refl _,List.Pairwise.nil⟩
 ·obtain ⟨⟨h1,_,h3⟩,h4⟩:=Go.Sort.pdq_sorts ltFst swoF l.toArray 0 l.toArray.size (Go.Lib.bitLen l.toArray.size) true true (Nat.zero_le _) (Nat.le_refl _) (Or.inl rfl)
  generalize Go.Sort.pdq ltFst l.toArray 0 l.toArray.size (Go.Lib.bitLen l.toArray.size) true true=d at*
  rw[Array.extract_size]at h3
  rw[show d.extract 0 l.toArray.size=d from by rw[← h1];exact Array.extract_size ..]at h3
  refine ⟨h3,List.pairwise_iff_getElem.2 fun i j hi hj hij=>?_⟩
  have hi':i<d.size:=by simpa using hi
  have hj':j<d.size:=by simpa using hj
  have:=h4 i j (Nat.zero_le _) hij (by rw[← h1];exact hj')
  rw[getElem!_pos d i hi',getElem!_pos d j hj']at this
  simp only[ltFst,decide_eq_false_iff_not,Array.getElem_toList]at this ⊢
  omega
theorem merged_spec {l:List (Int × Int)} (hp:proper l):gaps (mergedL l)∧(∀ z,cov (mergedL l) z↔cov l z)∧(∀ r∈mergedL l,(∃ y∈l,y.1=r.1)∧∃ y∈l,y.2=r.2):=by
 obtain ⟨h1,h2⟩:=sortR_spec l
 obtain ⟨m1,m2,m3⟩:=merge_fold (sortR l) [] trivial (fun r hr=>hp r (h1.mem_iff.1 hr)) h2 (fun y hy=>by cases hy)
 have hc:∀ z,cov (sortR l) z↔cov l z:=fun z=>⟨fun ⟨r,hr,h⟩=>⟨r,h1.mem_iff.1 hr,h⟩,fun ⟨r,hr,h⟩=>⟨r,h1.mem_iff.2 hr,h⟩⟩
 refine ⟨m1,fun z=>?_,fun r hr=>?_⟩
 ·show cov (List.foldl mStep [] (sortR l)) z↔_
  rw[m2,hc]
  exact ⟨fun h=>h.elim (fun ⟨r,hr,_⟩=>by cases hr) id,.inr⟩
 ·obtain ⟨⟨y,hy,e⟩,⟨z,hz,f⟩⟩:=m3 r hr
  exact ⟨⟨y,h1.mem_iff.1 (by simpa using hy),e⟩,⟨z,h1.mem_iff.1 (by simpa using hz),f⟩⟩
theorem merged_same {l m:List (Int × Int)} (hp:proper l) (hm:gaps m) (h:∀ z,cov m z↔cov l z):mergedL l=m:=by
 obtain ⟨h1,h2,_⟩:=merged_spec hp
 exact gaps_uniq h1 hm fun z=>(h2 z).trans (h z).symm
theorem ord_of:∀ {l:List (Int × Int)},gaps l→(∀ r∈l,scal r.1=true∧scal r.2=true)→ordR l=true
 | [],_,_=>rfl
 | [x],h,hs=>by
   obtain ⟨h1,h2⟩:=hs x (aa ..)
   have h:x.1≤x.2:=h
   simp[ordR,h1,h2,h]
 | x::y::r,h,hs=>by
   obtain ⟨h1,h2⟩:=hs x (aa ..)
   have:=ord_of (l:=y::r) h.2.2 fun u hu=>hs u (ab _ hu)
   simp[ordR,h1,h2,h.1,h.2.1,this]
theorem of_ord:∀ {l:List (Int × Int)},ordR l=true→gaps l∧∀ r∈l,scal r.1=true∧scal r.2=true
 | [],_=>⟨trivial,fun r hr=>by cases hr⟩
 | [x],h=>by
   simp only[ordR,Bool.and_eq_true,decide_eq_true_eq]at h
   exact ⟨h.2.2,fun r hr=>by have:r=x:=by simpa using hr
                             subst this;exact ⟨h.1,h.2.1⟩⟩
 | x::y::r,h=>by
   simp only[ordR,Bool.and_eq_true,decide_eq_true_eq]at h
   obtain ⟨g,hs⟩:=of_ord (l:=y::r) h.2.2.2.2
   refine ⟨⟨h.2.2.1,h.2.2.2.1,g⟩,fun u hu=>?_⟩
   rcases List.mem_cons.1 hu with rfl | hu
   ·exact ⟨h.1,h.2.1⟩
   ·exact hs u hu
/-- from s to s': the pieces l were made -/
structure Inv (s:St) (l:List Pc) (s':St):Prop where
 cs:s'.cs <:+ s.cs
 np:s'.np=s.np+sizeL l
 ng:s.ng≤s'.ng
 gl:s'.ng+s'.cs.length≤s.ng+s.cs.length
 lg:s'.lg=false→s.lg=false
 ls:s'.ls=false→s.ls=false
 ck:s'.lg=false→s'.ls=false→s'.ng≤9→chkL s.ng (preL l)=some s'.ng
theorem Inv.refl (s:St):Inv s [] s:=⟨ag _,by simp[sizeL],Nat.le_refl _,Nat.le_refl _,id,id,fun _ _ _=>by simp[preL,chkL]⟩
theorem Inv.trans {s s1 s2:St} {a b:List Pc} (h:Inv s a s1) (h':Inv s1 b s2):Inv s (a++b) s2 where
 cs:=h'.cs.trans h.cs
 np:=by rw[h'.np,h.np,sizeL_app];omega
 ng:=Nat.le_trans h.ng h'.ng
 gl:=Nat.le_trans h'.gl h.gl
 lg:=fun e=>h.lg (h'.lg e)
 ls:=fun e=>h.ls (h'.ls e)
 ck:=fun e1 e2 e3=>by
  rw[preL_app,chkL_app,h.ck (h'.lg e1) (h'.ls e2) (Nat.le_trans h'.ng e3)]
  exact h'.ck e1 e2 e3
theorem Inv.skip {s s1:St} (hc:s1.cs <:+ s.cs) (hnp:s1.np=s.np) (hng:s1.ng=s.ng) (hlg:s1.lg=false→s.lg=false) (hls:s1.ls=false→s.ls=false):Inv s [] s1:=
 ⟨hc,by rw[hnp];simp[sizeL],Nat.le_of_eq hng.symm,by rw[hng];exact Nat.add_le_add_left hc.length_le _,hlg,hls,fun _ _ _=>by rw[hng];simp[preL,chkL]⟩
theorem Inv.node {s s1 s2:St} {k lo hi:Int} {no lz:Bool} {rs:List (Int × Int)} {subs:List Pc} (h:Inv s1 subs s2) (hc:s1.cs <:+ s.cs) (hnp:s1.np=s.np) (hng:s1.ng=s.ng∨s1.ng=s.ng+1∧s1.cs.length<s.cs.length) (hlg:s1.lg=false→s.lg=false)
 (hls:s1.ls=false→s.ls=false) (hn:s2.lg=false→s2.ls=false→s2.ng≤9→nodeC s.ng (k,lo,hi,no,lz,rs,subs)= .inr s1.ng):Inv s [.mk k lo hi no lz rs subs] (made s2 (.mk k lo hi no lz rs subs)).2 where
 cs:=h.cs.trans hc
 np:=by
  show s2.np+1=_
  rw[h.np,hnp,sizeL_one,size_eq];omega
 ng:=by
  show s.ng≤s2.ng
  have:=h.ng
  omega
 gl:=by
  show s2.ng+s2.cs.length≤_
  have h1:=h.gl
  have h2:=hc.length_le
  omega
 lg:=fun e=>hlg (h.lg e)
 ls:=fun e=>hls (h.ls e)
 ck:=fun e1 e2 e3=>by
  show chkL s.ng (preL [_])=some s2.ng
  rw[preL_one,pre_eq,chk_node (hn e1 e2 e3)]
  exact h.ck e1 e2 e3
theorem Inv.leaf {s s1:St} {k lo hi:Int} {no lz:Bool} {rs:List (Int × Int)} (hc:s1.cs <:+ s.cs) (hnp:s1.np=s.np) (hng:s1.ng=s.ng) (hlg:s1.lg=false→s.lg=false)
 (hls:s1.ls=false→s.ls=false) (hn:s1.lg=false→s1.ls=false→nodeC s.ng (k,lo,hi,no,lz,rs,[])= .inr s.ng):Inv s [.mk k lo hi no lz rs []] (made s1 (.mk k lo hi no lz rs [])).2:=
 Inv.node (Inv.refl s1) hc hnp (.inl hng) hlg hls fun e1 e2 _=>by rw[hn e1 e2,hng]
theorem bd_ok {α β:Type} {x:Res α} {f:α→Res β} {b:β} (h:bd x f=some (.inl b)):∃ a,x=some (.inl a)∧f a=some (.inl b):=by
 unfold bd at h
 split at h
 ·cases h
 ·cases h
 ·exact ⟨_,rfl,h⟩
theorem pre_drop:∀ {t cs:List Nat},pre t cs=true→cs=t++cs.drop t.length
 | [],cs,_=>by simp
 | c::t,[],h=>by cases h
 | c::t,d::cs,h=>by
   simp only[pre,List.isPrefixOf,Bool.and_eq_true,beq_iff_eq]at h
   obtain ⟨rfl,h⟩:=h
   rw[List.length_cons,List.drop_succ_cons,ae,← pre_drop (t:=t) h]
theorem skip_len {s:St} {t:List Nat} (h:pre t s.cs=true):(s.skip t.length).cs.length+t.length=s.cs.length:=by
 have:=congrArg List.length (pre_drop h)
 rw[List.length_append]at this
 show (s.cs.drop t.length).length+_=_
 omega
theorem skip_suf (s:St) (k:Nat):(s.skip k).cs <:+ s.cs:=List.drop_suffix _ _
theorem scal_of {c:Nat} (h:Scal c):scal (c:Int)=true:=by
 simp only[scal,decide_eq_true_eq]
 unfold Scal at h
 omega
theorem dw_suf (l:List Nat):dwN l <:+ l:=List.dropWhile_suffix _
theorem tw_dw_len (l:List Nat):(twN l).length+(dwN l).length=l.length:=by
 have:=congrArg List.length (List.takeWhile_append_dropWhile (p:=dgN) (l:=l))
 rw[List.length_append]at this
 exact this
theorem digits_spec {s:St} {v:Int} {s':St} (h:digitsA s=some (.inl (v,s'))):s'.cs <:+ s.cs∧s'.cs.length<s.cs.length∧s'.np=s.np∧s'.ng=s.ng∧s'.ls=s.ls∧(s'.lg=false→s.lg=false)∧0≤v∧v≤99:=by
 unfold digitsA at h
 split at h
 ·cases h
 ·rename_i hn
  have hlen:=tw_dw_len s.cs
  have hpos:0<(twN s.cs).length:=List.length_pos_iff.2 fun e=>hn (.inl e)
  split at h
  ·cases h
   exact ⟨dw_suf _,by show (dwN s.cs).length<_;omega,rfl,rfl,rfl,(fun e=>by cases e),ddc,ddc⟩
  ·cases h
   exact ⟨dw_suf _,by show (dwN s.cs).length<_;omega,rfl,rfl,rfl,id,om,om⟩
theorem bounds_spec {s:St} {b:Option (Int × Int)} {s':St} (h:boundsA s=some (.inl (b,s'))):
 (b=none→s'=s)∧s'.cs <:+ s.cs∧s'.np=s.np∧s'.ng=s.ng∧s'.ls=s.ls∧(s'.lg=false→s.lg=false)∧∀ x,b=some x→s'.cs.length<s.cs.length∧(s'.lg=false→0≤x.1∧x.1≤99∧ -1≤x.2∧x.2≤99∧(x.2<0∨x.1≤x.2)):=by
 unfold boundsA at h
 split at h
 ·rename_i hp
  cases h
  have:(s.skip 1).cs.length+1=s.cs.length:=skip_len (s:=s) (t:=[42]) hp
  exact ⟨fun e=>(by cases e),skip_suf _ _,rfl,rfl,rfl,id,fun x hx=>by cases hx;exact ⟨om,fun _=>by decide⟩⟩
 split at h
 ·rename_i hp
  cases h
  have:(s.skip 1).cs.length+1=s.cs.length:=skip_len (s:=s) (t:=[43]) hp
  exact ⟨fun e=>(by cases e),skip_suf _ _,rfl,rfl,rfl,id,fun x hx=>by cases hx;exact ⟨om,fun _=>by decide⟩⟩
 split at h
 ·rename_i hp
  cases h
  have:(s.skip 1).cs.length+1=s.cs.length:=skip_len (s:=s) (t:=[63]) hp
  exact ⟨fun e=>(by cases e),skip_suf _ _,rfl,rfl,rfl,id,fun x hx=>by cases hx;exact ⟨om,fun _=>by decide⟩⟩
 split at h
 ·cases h
  exact ⟨fun _=>rfl,ag _,rfl,rfl,rfl,id,fun x hx=>by cases hx⟩
 rename_i hp
 obtain ⟨⟨lo,s1⟩,h1,h⟩:=bd_ok h
 obtain ⟨⟨hi,s2⟩,h2,h⟩:=bd_ok h
 obtain ⟨a1,a2,a3,a4,a5,a6,a7,a8⟩:=digits_spec h1
 have hb:s2.cs <:+ s1.cs∧s2.np=s1.np∧s2.ng=s1.ng∧s2.ls=s1.ls∧(s2.lg=false→s1.lg=false)∧ -1≤hi∧hi≤99:=by
  simp only at h2
  split at h2
  ·split at h2
   ·cases h2
    exact ⟨skip_suf _ _,rfl,rfl,rfl,id,ddc,ddc⟩
   ·obtain ⟨b1,b2,b3,b4,b5,b6,b7,b8⟩:=digits_spec h2
    exact ⟨b1.trans (skip_suf _ _),b3,b4,b5,b6,om,b8⟩
  ·cases h2
   exact ⟨ag _,rfl,rfl,rfl,id,om,a8⟩
 obtain ⟨b1,b3,b4,b5,b6,b7,b8⟩:=hb
 simp only at h
 split at h
 ·cases h
  have hl:=b1.length_le
  have hl2:=(skip_suf s 1).length_le
  have hl3:=(skip_suf s2 1).length_le
  refine ⟨fun e=>(by cases e),(skip_suf _ _).trans (b1.trans (a1.trans (skip_suf _ _))),b3.trans a3,b4.trans a4,b5.trans a5,fun e=>?_,fun x hx=>?_⟩
  ·simp only[ac]at e
   exact a6 (b6 e.1)
  ·cases hx
   refine ⟨?_,fun e=>?_⟩
   ·show (s2.skip 1).cs.length<_
    omega
   ·simp only[ac,Bool.and_eq_false_iff,decide_eq_false_iff_not]at e
    simp only
    omega
 ·cases h
theorem proper_of:∀ {l:List (Int × Int)},gaps l→proper l
 | [],_,r,hr=>by cases hr
 | x::l,h,r,hr=>by
   rcases List.mem_cons.1 hr with rfl | hr
   ·exact gaps_head h
   ·exact proper_of (gaps_tail h) r hr
theorem named_ok {c:Nat}:(gaps (namedA c)∧proper (namedA c))∧∀ r∈namedA c,scal r.1=true∧scal r.2=true:=by
 have key:ordR (namedA c)=true:=by
  unfold namedA
  split
  ·decide
  split
  ·decide
  split
  ·decide
  ·rfl
 obtain ⟨h1,h2⟩:=of_ord key
 exact ⟨⟨h1,proper_of h1⟩,h2⟩
theorem sym_ok {c d:Nat} (h:symA c=some d):d<128:=by
 unfold symA at h
 split at h
 ·cases h;decide
 split at h
 ·cases h;decide
 split at h
 ·cases h
 ·cases h;omega
end Go.Gv.X
namespace Go.Gv.X
open Go Go.Gv Go.Gv.D Go.Gv.R Go.Gv.P Go.Lib
set_option maxRecDepth 100000
/-! Own work: what is read is well formed (2). -/
def All (s:St):Prop:=∀ c∈s.cs,Scal c
theorem All.suf {s s':St} (h:All s) (hs:s'.cs <:+ s.cs):All s':=fun c hc=>h c (hs.subset hc)
def Rg (l:List (Int × Int)):Prop:=proper l∧(∀ r∈l,scal r.1=true∧scal r.2=true)∧l≠[]
theorem Rg.one {a b:Int} (h:a≤b) (ha:scal a=true) (hb:scal b=true):Rg [(a,b)]:=
 ⟨fun r hr=>by have:r=(a,b):=by simpa using hr
               subst this;exact h,fun r hr=>by have:r=(a,b):=by simpa using hr
                                               subst this;exact ⟨ha,hb⟩,by simp⟩
theorem Rg.app {l m:List (Int × Int)} (hl:l=[]∨Rg l) (hm:Rg m):Rg (l++m):=by
 rcases hl with rfl | hl
 ·exact hm
 ·refine ⟨fun r hr=>?_,fun r hr=>?_,by simp[hl.2.2]⟩
  ·exact (List.mem_append.1 hr).elim (hl.1 r) (hm.1 r)
  ·exact (List.mem_append.1 hr).elim (hl.2.1 r) (hm.2.1 r)
theorem lt128 {c:Nat} (h:c<128):Scal c:=by unfold Scal;omega
theorem mem_spec {s:St} (ha:All s) {m:Nat ⊕ List (Int × Int)} {s':St} (h:memA s=some (.inl (m,s'))):
 s'.cs <:+ s.cs∧s'.cs.length<s.cs.length∧s'={ s with cs:=s'.cs}∧(match m with | .inl c=>Scal c | .inr l=>Rg l):=by
 unfold memA at h
 cases hcs:s.cs with
 | nil=>rw[hcs]at h;cases h
 | cons c r=>
   rw[hcs]at h
   simp only at h
   split at h
   ·cases h
   split at h
   ·cases h
    exact ⟨af ..,by simp,rfl,ha c (by rw[hcs];simp)⟩
   cases r with
   | nil=>cases h
   | cons d r=>
     simp only at h
     have hsuf:r <:+ c::d::r:=(af d r).trans (af ..)
     split at h
     ·rename_i hne
      cases h
      obtain ⟨⟨_,h1⟩,h2⟩:=named_ok (c:=d)
      exact ⟨hsuf,oss,rfl,h1,h2,hne⟩
     ·split at h
      ·cases h
      ·rename_i e he
       cases h
       exact ⟨hsuf,oss,rfl,lt128 (sym_ok he)⟩
theorem item_spec {s:St} (ha:All s) {l:List (Int × Int)} {s':St} (h:itemA s=some (.inl (l,s'))):
 s'.cs <:+ s.cs∧s'.cs.length<s.cs.length∧s'={ s with cs:=s'.cs}∧Rg l:=by
 unfold itemA at h
 obtain ⟨⟨m,s1⟩,h1,h⟩:=bd_ok h
 obtain ⟨a1,a2,a3,a4⟩:=mem_spec ha h1
 cases m with
 | inr l'=>
   cases h
   exact ⟨a1,a2,a3,a4⟩
 | inl low=>
   have a4:Scal low:=a4
   simp only at h
   split at h
   ·obtain ⟨⟨m2,s2⟩,h2,h⟩:=bd_ok h
    have hall:All (s1.skip 1):=ha.suf ((skip_suf _ _).trans a1)
    obtain ⟨b1,b2,b3,b4⟩:=mem_spec hall h2
    cases m2 with
    | inr l'=>cases h
    | inl high=>
      have b4:Scal high:=b4
      simp only at h
      split at h
      ·cases h
      ·cases h
       have hs:=(skip_suf s1 1).length_le
       refine ⟨b1.trans ((skip_suf _ _).trans a1),om,?_,Rg.one om (scal_of a4) (scal_of b4)⟩
       rw[b3,a3];rfl
   ·cases h
    exact ⟨a1,a2,a3,Rg.one (ad _) (scal_of a4) (scal_of a4)⟩
theorem cls_spec:∀ (n:Nat) (acc:List (Int × Int)) (s:St),All s→(acc=[]∨Rg acc)→∀ {l:List (Int × Int)} {s':St},clsA n acc s=some (.inl (l,s'))→
 s'.cs <:+ s.cs∧s'.cs.length+1<s.cs.length∧s'={ s with cs:=s'.cs}∧Rg l
 | 0,acc,s,_,_,l,s',h=>by cases h
 | n+1,acc,s,ha,hacc,l,s',h=>by
   rw[clsA]at h
   obtain ⟨⟨m,s1⟩,h1,h⟩:=bd_ok h
   obtain ⟨a1,a2,a3,a4⟩:=item_spec ha h1
   simp only at h
   split at h
   ·rename_i hp
    cases h
    have:=skip_len (s:=s1) (t:=[93]) hp
    have:(s1.skip 1).cs.length+1=s1.cs.length:=this
    exact ⟨(skip_suf _ _).trans a1,om,by rw[a3];rfl,Rg.app hacc a4⟩
   ·obtain ⟨b1,b2,b3,b4⟩:=cls_spec n (acc++m) s1 (ha.suf a1) (.inr (Rg.app hacc a4)) h
    exact ⟨b1.trans a1,om,by rw[b3,a3],b4⟩
/-- what an atom gives -/
structure Atm (s:St) (x:Pc × St):Prop where
 inv:Inv s [x.1] x.2
 sz:sizeP x.1+2*x.2.cs.length+1≤2*s.cs.length
 kd:Pc.kind x.1=1∨Pc.kind x.1=2∨Pc.kind x.1=3∨Pc.kind x.1=4∨Pc.kind x.1=5∨Pc.kind x.1=6∨Pc.kind x.1=7∨Pc.kind x.1=11∨Pc.kind x.1=12
theorem sizeL_nil:sizeL []=0:=by rw[sizeL]
theorem leaf_sz (k l h:Int) (n z:Bool) (r:List (Int × Int)):sizeP (.mk k l h n z r [])=1:=by rw[size_eq,sizeL_nil]
theorem class_node {r:List (Int × Int)} (hr:Rg r) (g:Nat) (no:Bool):nodeC g (3,0,0,no,false,mergedL r,[])= .inr g:=by
 obtain ⟨h1,h2,h3⟩:=merged_spec hr.1
 have ho:ordR (mergedL r)=true:=ord_of h1 fun x hx=>by
  obtain ⟨⟨y,hy,e⟩,⟨z,hz,f⟩⟩:=h3 x hx
  rw[← e,← f]
  exact ⟨(hr.2.1 y hy).1,(hr.2.1 z hz).2⟩
 have hne:(mergedL r).isEmpty=false:=by
  cases hm:mergedL r with
  | cons x l=>rfl
  | nil=>
    exfalso
    cases hrr:r with
    | nil=>exact hr.2.2 hrr
    | cons x l=>
      have hx:x∈r:=by rw[hrr];simp
      obtain ⟨u,hu,_⟩:=(h2 x.1).2 ⟨x,hx,ad _,hr.1 x hx⟩
      rw[hm]at hu;cases hu
 simp[nodeC,flatB,formedB,ho,hne]
theorem class_spec {n:Nat} {s:St} (ha:All s) {x:Pc × St} (h:classA n s=some (.inl x)):Inv s [x.1] x.2∧sizeP x.1+2*x.2.cs.length+1≤2*s.cs.length∧Pc.kind x.1=3:=by
 unfold classA at h
 obtain ⟨⟨l,s1⟩,h1,h⟩:=bd_ok h
 cases h
 have hsuf:(if pre [94] s.cs=true then s.skip 1 else s).cs <:+ s.cs:=by split;exact skip_suf _ _;exact ag _
 have heq:(if pre [94] s.cs=true then s.skip 1 else s)={ s with cs:=(if pre [94] s.cs=true then s.skip 1 else s).cs}:=by split<;>rfl
 obtain ⟨a1,a2,a3,a4⟩:=cls_spec n [] _ (ha.suf hsuf) (.inl rfl) h1
 rw[heq]at a3
 have hl:=hsuf.length_le
 refine ⟨Inv.leaf (a1.trans hsuf) (by rw[a3]) (by rw[a3]) (by rw[a3];exact id) (by rw[a3];exact id) (fun _ _=>class_node a4 _ _),?_,rfl⟩
 show sizeP (.mk _ _ _ _ _ _ [])+2*s1.cs.length+1≤_
 rw[leaf_sz]
 omega
theorem esc_spec {s:St} {x:Pc × St} (h:escA s=some (.inl x)):Atm s x:=by
 unfold escA at h
 cases hcs:s.cs with
 | nil=>rw[hcs]at h;cases h
 | cons c r=>
   rw[hcs]at h
   simp only at h
   have hsuf:r <:+ s.cs:=by rw[hcs];exact af ..
   have hlen:s.cs.length=r.length+1:=by rw[hcs];rfl
   split at h
   ·cases h
    exact ⟨Inv.leaf hsuf rfl rfl id id fun _ _=>by simp[nodeC,flatB,formedB],by show sizeP (.mk _ _ _ _ _ _ [])+2*r.length+1≤_;rw[leaf_sz];omega,by simp[Pc.kind,made]⟩
   split at h
   ·rename_i h2
    cases h
    refine ⟨Inv.leaf (s1:={ s with cs:=r,ls:=s.ls||decide (s.ng<c-48)}) hsuf rfl rfl id (fun e=>by simp only[ac]at e;exact e.1) fun _ e=>?_,by show sizeP (.mk _ _ _ _ _ _ [])+2*r.length+1≤_;rw[leaf_sz];omega,by simp[Pc.kind,made]⟩
    simp only[ac,decide_eq_false_iff_not]at e
    have e2:=e.2
    have h3:(1:Int)≤((c-48:Nat):Int)∧((c-48:Nat):Int)≤9:=by omega
    have h4:¬ ((s.ng:Int)<((c-48:Nat):Int)):=by omega
    simp only[nodeC,flatB,formedB]
    simp[h3,h4]
   split at h
   ·rename_i h3
    cases h
    obtain ⟨⟨g1,g2⟩,g3⟩:=named_ok (c:=c)
    have ho:=ord_of g1 g3
    refine ⟨Inv.leaf hsuf rfl rfl id id fun _ _=>?_,by show sizeP (.mk _ _ _ _ _ _ [])+2*r.length+1≤_;rw[leaf_sz];omega,by simp[Pc.kind,made]⟩
    simp[nodeC,flatB,formedB,ho,h3]
   split at h
   ·rename_i h3
    cases h
    obtain ⟨⟨g1,g2⟩,g3⟩:=named_ok (c:=c+32)
    have ho:=ord_of g1 g3
    have hne:namedA (c+32)≠[]:=by rcases h3 with rfl | rfl | rfl<;>simp[namedA]
    refine ⟨Inv.leaf hsuf rfl rfl id id fun _ _=>?_,by show sizeP (.mk _ _ _ _ _ _ [])+2*r.length+1≤_;rw[leaf_sz];omega,by simp[Pc.kind,made]⟩
    simp[nodeC,flatB,formedB,ho,hne]
   split at h
   ·cases h
   ·rename_i d hd
    cases h
    have:=scal_of (lt128 (sym_ok hd))
    refine ⟨Inv.leaf hsuf rfl rfl id id fun _ _=>?_,by show sizeP (.mk _ _ _ _ _ _ [])+2*r.length+1≤_;rw[leaf_sz];omega,by simp[Pc.kind,made]⟩
    simp[nodeC,flatB,formedB,this]
end Go.Gv.X
