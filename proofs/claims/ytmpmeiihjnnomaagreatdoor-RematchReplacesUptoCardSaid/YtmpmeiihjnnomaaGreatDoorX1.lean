import Derived.Test.YtmpmeiihjnnomaaGreatDoorL1
import Derived.Sort.AssemblyPlain
set_option linter.all false
open Nat renaming le_trans->aa
namespace Go.Gv.X
open Go Go.Gv Go.Gv.D Go.Gv.R Go.Gv.P Go.Lib
set_option maxRecDepth 100000
structure St where
 cs:List Nat
 np:Nat
 ng:Nat
 lg:Bool
 ls:Bool
abbrev Res (α:Type):=Option (α ⊕ Unit)
def bd {α β:Type} (x:Res α) (f:α->Res β):Res β:=match x with
 | none=>none
 | some (.inr u)=>some (.inr u)
 | some (.inl a)=>f a
def er {α:Type}:Res α:=some (.inr ())
def ok {α:Type} (a:α):Res α:=some (.inl a)
def pre (t cs:List Nat):Bool:=t.isPrefixOf cs
def St.skip (s:St) (k:Nat):St:={ s with cs:=s.cs.drop k}
def ah (t:List Nat) (s:St):Bool:=match s.cs with
 | []=>false
 | c::_=>t.contains c
def made (s:St) (p:Pc):Pc × St:=(p,{ s with np:=s.np+1})
def Pc.kind:Pc->Int | .mk k _ _ _ _ _ _=>k
def valD (t:List Nat):Nat:=valN 0 (enc t)
def zoV (s:St):Res (Int × St):=
 if twN s.cs=[]∨(1<(twN s.cs).length∧(twN s.cs).head? =some 48) then er else
 if valD (twN s.cs)>99 then ok (99,{ s with cs:=dwN s.cs,lg:=true}) else ok ((valD (twN s.cs):Int),{ s with cs:=dwN s.cs})
def zka (s:St):Res (Option (Int × Int) × St):=
 if pre [42] s.cs then ok (some (0, -1),s.skip 1) else
 if pre [43] s.cs then ok (some (1, -1),s.skip 1) else
 if pre [63] s.cs then ok (some (0,1),s.skip 1) else
 if !pre [123] s.cs then ok (none,s) else
 bd (zoV (s.skip 1)) fun x=>
  bd (if pre [44] x.2.cs then (if ah [125] (x.2.skip 1) then ok (-1,x.2.skip 1) else zoV (x.2.skip 1)) else ok (x.1,x.2)) fun y=>
   if pre [125] y.2.cs then ok (some (x.1,y.1),{ y.2.skip 1 with lg:=y.2.lg||(decide (0<=y.1)&&decide (y.1<x.1))}) else er
def zrq (c:Nat):List (Int × Int):=if c=100 then [(48,57)] else if c=119 then [(48,57),(65,90),(95,95),(97,122)] else if c=115 then [(9,10),(32,32)] else []
def symA (c:Nat):Option Nat:=if c=110 then some 10 else if c=116 then some 9 else
 if 128<=c∨c<33∨c=127∨(48<=c∧c<=57)∨(65<=c∧c<=90)∨(97<=c∧c<=122) then none else some c
def escA (s:St):Res (Pc × St):=match s.cs with
 | []=>er
 | c::r=>
   if c=98∨c=66 then ok (made { s with cs:=r} (.mk 6 0 0 (c==66) false [] [])) else
   if 49<=c∧c<=57 then ok (made { s with cs:=r,ls:=s.ls||decide (s.ng<c-48)} (.mk 12 ((c-48:Nat):Int) 0 false false [] [])) else
   if zrq c≠[] then ok (made { s with cs:=r} (.mk 3 0 0 false false (zrq c) [])) else
   if c=68∨c=87∨c=83 then ok (made { s with cs:=r} (.mk 3 0 0 true false (zrq (c+32)) [])) else
   match symA c with
   | none=>er
   | some d=>ok (made { s with cs:=r} (.mk 1 (d:Int) 0 false false [] []))
def memA (s:St):Res ((Nat ⊕ List (Int × Int)) × St):=match s.cs with
 | []=>er
 | c::r=>if c=91∨c=93∨c=45 then er else
   if c≠92 then ok (.inl c,{ s with cs:=r}) else
   match r with
   | []=>er
   | d::r=>if zrq d≠[] then ok (.inr (zrq d),{ s with cs:=r}) else
     match symA d with
     | none=>er
     | some e=>ok (.inl e,{ s with cs:=r})
def itemA (s:St):Res (List (Int × Int) × St):=bd (memA s) fun x=>match x.1 with
 | .inr l=>ok (l,x.2)
 | .inl low=>if pre [45] x.2.cs then bd (memA (x.2.skip 1)) fun y=>(match y.1 with
    | .inl high=>if high<low then er else ok ([((low:Int),(high:Int))],y.2)
    | .inr _=>er)
   else ok ([((low:Int),(low:Int))],x.2)
def clsA:Nat->List (Int × Int)->St->Res (List (Int × Int) × St)
 | 0,_,_=>none
 | n+1,acc,s=>bd (itemA s) fun x=>if pre [93] x.2.cs then ok (acc++x.1,x.2.skip 1) else clsA n (acc++x.1) x.2
def mStep (out:List (Int × Int)) (x:Int × Int):List (Int × Int):=match out.getLast? with
 | none=>[x]
 | some y=>if x.1<=y.2+1 then out.dropLast++[(y.1,max y.2 x.2)] else out++[x]
def zjf (l:List (Int × Int)):List (Int × Int):=(sortR l).foldl mStep []
def zi3 (n:Nat) (s:St):Res (Pc × St):=bd (clsA n [] (if pre [94] s.cs then s.skip 1 else s)) fun x=>ok (made x.2 (.mk 3 0 0 (pre [94] s.cs) false (zjf x.1) []))
def ziT (k:Int) (l:List Pc) (s:St):Pc × St:=match l with
 | [p]=>(p,s)
 | _=>made s (.mk k 0 0 false false [] l)
mutual
def altsA:Nat->St->Res (Pc × St)
 | 0,_=>none
 | n+1,s=>bd (seqA n s) fun x=>ziG n [x.1] x.2
def ziG:Nat->List Pc->St->Res (Pc × St)
 | 0,_,_=>none
 | n+1,l,s=>if pre [124] s.cs then bd (seqA n (s.skip 1)) fun x=>ziG n (l++[x.1]) x.2 else ok (ziT 9 l s)
def seqA:Nat->St->Res (Pc × St)
 | 0,_=>none
 | n+1,s=>zhn n [] s
def zhn:Nat->List Pc->St->Res (Pc × St)
 | 0,_,_=>none
 | n+1,l,s=>if s.cs=[]∨ah [124,41] s=true then ok (ziT 8 l s) else bd (zin n s) fun x=>zhn n (l++[x.1]) x.2
def zin:Nat->St->Res (Pc × St)
 | 0,_=>none
 | n+1,s=>bd (atomA n s) fun x=>bd (zka x.2) fun y=>match y.1 with
   | none=>ok (x.1,y.2)
   | some b=>if Pc.kind x.1=4∨Pc.kind x.1=5∨Pc.kind x.1=6∨Pc.kind x.1=11 then er else
     let s2:=if pre [63] y.2.cs then y.2.skip 1 else y.2
     if ah [42,43,63,123] s2 then er else ok (made s2 (.mk 10 b.1 b.2 false (pre [63] y.2.cs) [] [x.1]))
def atomA:Nat->St->Res (Pc × St)
 | 0,_=>none
 | n+1,s=>
   if pre [40,63,58] s.cs then insA n (s.skip 3) 7 0 false else
   if pre [40,63,61] s.cs then insA n (s.skip 3) 11 0 false else
   if pre [40,63,33] s.cs then insA n (s.skip 3) 11 0 true else
   if pre [40,63] s.cs then er else
   if pre [40] s.cs then insA n { s.skip 1 with ng:=s.ng+1} 7 ((s.ng+1:Nat):Int) false else
   if pre [91] s.cs then zi3 n (s.skip 1) else
   if pre [92] s.cs then escA (s.skip 1) else
   if pre [46] s.cs then ok (made (s.skip 1) (.mk 2 0 0 false false [] [])) else
   if pre [94] s.cs then ok (made (s.skip 1) (.mk 4 0 0 false false [] [])) else
   if pre [36] s.cs then ok (made (s.skip 1) (.mk 5 0 0 false false [] [])) else
   if ah [42,43,63,123,125,93] s then er else
   match s.cs with
   | []=>er
   | c::r=>ok (made { s with cs:=r} (.mk 1 (c:Int) 0 false false [] []))
def insA:Nat->St->Int->Int->Bool->Res (Pc × St)
 | 0,_,_,_,_=>none
 | n+1,s,k,low,no=>bd (altsA n s) fun x=>if pre [41] x.2.cs then ok (made (x.2.skip 1) (.mk k low 0 no false [] [x.1])) else er
end
mutual
def zxo:Pc->List Pc
 | .mk k l h n z r s=>.mk k l h n z r s::preL s
def preL:List Pc->List Pc
 | []=>[]
 | p::ps=>zxo p++preL ps
end
mutual
def zvD:Pc->Nat
 | .mk _ _ _ _ _ _ s=>1+sizeL s
def sizeL:List Pc->Nat
 | []=>0
 | p::ps=>zvD p+sizeL ps
end
theorem zqF:∀ (a b:List Pc),preL (a++b)=preL a++preL b
 | [],b=>by simp[preL]
 | p::a,b=>by rw[List.cons_append,preL,preL,zqF a b,List.append_assoc]
theorem zr2:∀ (a b:List Pc),sizeL (a++b)=sizeL a+sizeL b
 | [],b=>by simp[sizeL]
 | p::a,b=>by rw[List.cons_append,sizeL,sizeL,zr2 a b];omega
theorem ztU (k l h:Int) (n z:Bool) (r:List (Int × Int)) (s:List Pc):zxo (.mk k l h n z r s)= .mk k l h n z r s::preL s:=by rw[zxo]
theorem zvM (k l h:Int) (n z:Bool) (r:List (Int × Int)) (s:List Pc):zvD (.mk k l h n z r s)=1+sizeL s:=by rw[zvD]
theorem zlT (p:Pc):preL [p]=zxo p:=by rw[preL,preL,List.append_nil]
theorem zoO (p:Pc):sizeL [p]=zvD p:=by rw[sizeL,sizeL,Nat.add_zero]
mutual
theorem zth:∀ p:Pc,(zxo p).length=zvD p
 | .mk k l h n z r s=>by rw[ztU,zvM,List.length_cons,zu8 s];omega
theorem zu8:∀ l:List Pc,(preL l).length=sizeL l
 | []=>by simp[preL,sizeL]
 | p::ps=>by rw[preL,sizeL,List.length_append,zth p,zu8 ps]
end
theorem zpo (p:Pc):0<zvD p:=by cases p;rw[zvM];omega
def scal (n:Int):Bool:=decide (0<=n∧n<55296∨57343<n∧n<=1114111)
def zu9:List (Int × Int)->Bool
 | []=>true
 | [x]=>scal x.1&&(scal x.2&&decide (x.1<=x.2))
 | x::y::r=>scal x.1&&(scal x.2&&(decide (x.1<=x.2)&&(decide (x.2+1<y.1)&&zu9 (y::r))))
def kin (ks:List Int) (l:List Pc):Bool:=l.any fun p=>ks.contains (Pc.kind p)
def zyI (x:PcT):Bool:=
 (decide (x.1=1∨x.1=7∨x.1=10∨x.1=12)||decide (x.2.1=0))&&((decide (x.1=10)||(decide (x.2.2.1=0)&& !x.2.2.2.2.1))&&((decide (x.1=3∨x.1=6∨x.1=11)|| !x.2.2.2.1)&&(decide (x.1=3)||x.2.2.2.2.2.1.isEmpty)))
def zzY (x:PcT):Bool:=
 if x.1=1 then x.2.2.2.2.2.2.isEmpty&&scal x.2.1 else
 if x.1=3 then x.2.2.2.2.2.2.isEmpty&&(zu9 x.2.2.2.2.2.1&& !x.2.2.2.2.2.1.isEmpty) else
 if x.1=2∨x.1=4∨x.1=5∨x.1=6 then x.2.2.2.2.2.2.isEmpty else
 if x.1=12 then x.2.2.2.2.2.2.isEmpty&&decide (1<=x.2.1∧x.2.1<=9) else
 if x.1=7∨x.1=11 then decide (x.2.2.2.2.2.2.length=1) else
 if x.1=8 then decide (x.2.2.2.2.2.2.length≠1)&& !kin [8,9] x.2.2.2.2.2.2 else
 if x.1=9 then decide (2<=x.2.2.2.2.2.2.length)&& !kin [9] x.2.2.2.2.2.2 else
 decide (x.2.2.2.2.2.2.length=1)&& !kin [8,9,10,4,5,6,11] x.2.2.2.2.2.2
def zp7 (x:PcT):Bool:=decide (0<=x.2.1∧x.2.1<=99∧ -1<=x.2.2.1∧x.2.2.1<=99∧(x.2.2.1<0∨x.2.1<=x.2.2.1))
def zyO (g:Nat) (x:PcT):Int ⊕ Nat:=
 if x.1<1∨13<=x.1 then .inl 5 else
 if (zyI x&&zzY x)=false then .inl 6 else
 if x.1=10∧zp7 x=false then .inl 4 else
 if x.1=7∧x.2.1≠0 then (if x.2.1=(g+1:Nat)∧x.2.1<=9 then .inr (g+1) else .inl 11) else
 if x.1=12∧(g:Int)<x.2.1 then .inl 12 else .inr g
def chkL:Nat->List Pc->Option Nat
 | g,[]=>some g
 | g,p::l=>match zyO g p.un with
   | .inl _=>none
   | .inr g'=>chkL g' l
theorem zsT:∀ (a b:List Pc) (g:Nat),chkL g (a++b)=(chkL g a).bind fun g'=>chkL g' b
 | [],b,g=>rfl
 | p::a,b,g=>by
   rw[List.cons_append,chkL,chkL]
   cases zyO g p.un with
   | inl c=>rfl
   | inr g'=>exact zsT a b g'
theorem zlJ {g g':Nat} {p:Pc} {l:List Pc} (h:zyO g p.un= .inr g'):chkL g (p::l)=chkL g' l:=by rw[chkL,h]
def zif (l:List (Int × Int)):Prop:=∀ r∈l,r.1<=r.2
def zjx:List (Int × Int)->Prop
 | []=>True
 | [x]=>x.1<=x.2
 | x::y::r=>x.1<=x.2∧x.2+1<y.1∧zjx (y::r)
theorem zoQ {x:Int × Int} {r:List (Int × Int)} (h:zjx (x::r)):zjx r:=by
 cases r with
 | nil=>trivial
 | cons y r=>exact h.2.2
theorem zom {x:Int × Int} {r:List (Int × Int)} (h:zjx (x::r)):x.1<=x.2:=by
 cases r with
 | nil=>exact h
 | cons y r=>exact h.1
theorem zpZ:∀ {l:List (Int × Int)},zu9 l=true->zjx l∧∀ r∈l,scal r.1=true∧scal r.2=true
 | [],_=>⟨trivial,fun r hr=>by cases hr⟩
 | [x],h=>by
   simp only[zu9,Bool.and_eq_true,decide_eq_true_eq]at h
   exact ⟨h.2.2,fun r hr=>by have:r=x:=by simpa using hr
                             subst this;exact ⟨h.1,h.2.1⟩⟩
 | x::y::r,h=>by
   simp only[zu9,Bool.and_eq_true,decide_eq_true_eq]at h
   obtain ⟨g,hs⟩:=zpZ (l:=y::r) h.2.2.2.2
   refine ⟨⟨h.2.2.1,h.2.2.2.1,g⟩,fun u hu=>?_⟩
   rcases List.mem_cons.1 hu with rfl | hu
   ·exact ⟨h.1,h.2.1⟩
   ·exact hs u hu
structure Inv (s:St) (l:List Pc) (s':St):Prop where
 cs:s'.cs <:+ s.cs
 np:s'.np=s.np+sizeL l
 ng:s.ng<=s'.ng
 gl:s'.ng+s'.cs.length<=s.ng+s.cs.length
 lg:s'.lg=false->s.lg=false
 ls:s'.ls=false->s.ls=false
 ck:s'.lg=false->s'.ls=false->s'.ng<=9->chkL s.ng (preL l)=some s'.ng
theorem Inv.refl (s:St):Inv s [] s:=⟨List.suffix_refl _,by simp[sizeL],Nat.le_refl _,Nat.le_refl _,id,id,fun _ _ _=>by simp[preL,chkL]⟩
theorem Inv.trans {s s1 s2:St} {a b:List Pc} (h:Inv s a s1) (h':Inv s1 b s2):Inv s (a++b) s2 where
 cs:=h'.cs.trans h.cs
 np:=by rw[h'.np,h.np,zr2];omega
 ng:=aa h.ng h'.ng
 gl:=aa h'.gl h.gl
 lg:=fun e=>h.lg (h'.lg e)
 ls:=fun e=>h.ls (h'.ls e)
 ck:=fun e1 e2 e3=>by
  rw[zqF,zsT,h.ck (h'.lg e1) (h'.ls e2) (aa h'.ng e3)]
  exact h'.ck e1 e2 e3
theorem Inv.skip {s s1:St} (hc:s1.cs <:+ s.cs) (hnp:s1.np=s.np) (hng:s1.ng=s.ng) (hlg:s1.lg=false->s.lg=false) (hls:s1.ls=false->s.ls=false):Inv s [] s1:=
 ⟨hc,by rw[hnp];simp[sizeL],Nat.le_of_eq hng.symm,by rw[hng];exact Nat.add_le_add_left hc.length_le _,hlg,hls,fun _ _ _=>by rw[hng];simp[preL,chkL]⟩
theorem Inv.node {s s1 s2:St} {k lo hi:Int} {no lz:Bool} {rs:List (Int × Int)} {subs:List Pc} (h:Inv s1 subs s2) (hc:s1.cs <:+ s.cs) (hnp:s1.np=s.np) (hng:s1.ng=s.ng∨s1.ng=s.ng+1∧s1.cs.length<s.cs.length) (hlg:s1.lg=false->s.lg=false)
 (hls:s1.ls=false->s.ls=false) (hn:s2.lg=false->s2.ls=false->s2.ng<=9->zyO s.ng (k,lo,hi,no,lz,rs,subs)= .inr s1.ng):Inv s [.mk k lo hi no lz rs subs] (made s2 (.mk k lo hi no lz rs subs)).2 where
 cs:=h.cs.trans hc
 np:=by
  show s2.np+1=_
  rw[h.np,hnp,zoO,zvM];omega
 ng:=by
  show s.ng<=s2.ng
  have:=h.ng
  omega
 gl:=by
  show s2.ng+s2.cs.length<=_
  have h1:=h.gl
  have h2:=hc.length_le
  omega
 lg:=fun e=>hlg (h.lg e)
 ls:=fun e=>hls (h.ls e)
 ck:=fun e1 e2 e3=>by
  show chkL s.ng (preL [_])=some s2.ng
  rw[zlT,ztU,zlJ (hn e1 e2 e3)]
  exact h.ck e1 e2 e3
theorem zmj (s:St) (k:Nat):(s.skip k).cs <:+ s.cs:=List.drop_suffix _ _
def All (s:St):Prop:=∀ c∈s.cs,Scal c
theorem All.suf {s s':St} (h:All s) (hs:s'.cs <:+ s.cs):All s':=fun c hc=>h c (hs.subset hc)
def Rg (l:List (Int × Int)):Prop:=zif l∧(∀ r∈l,scal r.1=true∧scal r.2=true)∧l≠[]
theorem Rg.one {a b:Int} (h:a<=b) (ha:scal a=true) (hb:scal b=true):Rg [(a,b)]:=
 ⟨fun r hr=>by have:r=(a,b):=by simpa using hr
               subst this;exact h,fun r hr=>by have:r=(a,b):=by simpa using hr
                                               subst this;exact ⟨ha,hb⟩,by simp⟩
theorem Rg.app {l m:List (Int × Int)} (hl:l=[]∨Rg l) (hm:Rg m):Rg (l++m):=by
 rcases hl with rfl | hl
 ·exact hm
 ·refine ⟨fun r hr=>?_,fun r hr=>?_,by simp[hl.2.2]⟩
  ·exact (List.mem_append.1 hr).elim (hl.1 r) (hm.1 r)
  ·exact (List.mem_append.1 hr).elim (hl.2.1 r) (hm.2.1 r)
def SP:List Nat:=[92,46,94,36,42,43,63,40,41,91,93,123,125,124]
def IC:List Nat:=[92,93,94,45,91]
def zx8 (c:Int) (set:List Nat):List Nat:=if c=10 then [92,110] else if c=9 then [92,116] else if set.contains c.toNat then [92,c.toNat] else [c.toNat]
def zvg (n:Int):List Nat:=(Lib.itoa n).map (·.toNat)
def zou (r:Int × Int):List Nat:=zx8 r.1 IC++(if r.1<r.2 then 45::zx8 r.2 IC else [])
def zlt (no:Bool) (rs:List (Int × Int)):List Nat:=91::((if no then [94] else [])++(rs.flatMap zou++[93]))
def zvb (lo hi:Int):List Nat:=
 if hi= -1∧lo=0 then [42] else if hi= -1∧lo=1 then [43] else if lo=0∧hi=1 then [63] else
 if hi= -1 then 123::(zvg lo++[44,125]) else if hi=lo then 123::(zvg lo++[125]) else 123::(zvg lo++44::(zvg hi++[125]))
def zxH:List (List Nat)->List Nat
 | []=>[]
 | t::ts=>t++ts.flatMap fun u=>124::u
mutual
def txt:Pc->List Nat
 | .mk k lo hi no lz rs subs=>
   if k=1 then zx8 lo SP else if k=2 then [46] else if k=3 then zlt no rs else if k=4 then [94] else if k=5 then [36] else
   if k=6 then (if no then [92,66] else [92,98]) else
   if k=7 then (if lo=0 then [40,63,58] else [40])++((zx5 subs).headD []++[41]) else
   if k=8 then (zx5 subs).flatten else if k=9 then zxH (zx5 subs) else
   if k=10 then (zx5 subs).headD []++(zvb lo hi++if lz then [63] else []) else
   if k=11 then (if no then [40,63,33] else [40,63,61])++((zx5 subs).headD []++[41]) else 92::zvg lo
def zx5:List Pc->List (List Nat)
 | []=>[]
 | p::ps=>txt p::zx5 ps
end
theorem zo4:∀ l:List Pc,zx5 l=l.map txt
 | []=>by rw[zx5];rfl
 | p::l=>by rw[zx5,zo4 l];rfl
def up (s:St) (r:List Nat) (k g:Nat):St:={ s with cs:=r,np:=s.np+k,ng:=g}
theorem Tot.suc {α:Type} {f:Nat->Option α} {Q:α->Prop} (h:Tot (fun n=>f (n+1)) Q):Tot f Q:=by
 obtain ⟨a,ha,N,hN⟩:=h
 refine ⟨a,ha,N+1,fun n hn=>?_⟩
 obtain ⟨m,rfl⟩:∃ m,n=m+1:=⟨n-1,om⟩
 exact hN m om
theorem Tot.eqf {α:Type} {f g:Nat->Option α} {Q:α->Prop} (e:∀ n,f n=g n) (h:Tot g Q):Tot f Q:=by
 rw[show f=g from funext e];exact h
theorem zwR {α:Type} {l:List α} (h:l.length=1):∃ q,l=[q]:=by
 match l,h with
 | [q],_=>exact ⟨q,rfl⟩
theorem zty {g g1:Nat} {k lo hi:Int} {no lz:Bool} {rs:List (Int × Int)} {subs:List Pc} (h:zyO g (k,lo,hi,no,lz,rs,subs)= .inr g1):
 (k=1∧scal lo=true∧hi=0∧no=false∧lz=false∧rs=[]∧subs=[]∧g1=g)∨
 ((k=2∨k=4∨k=5)∧lo=0∧hi=0∧no=false∧lz=false∧rs=[]∧subs=[]∧g1=g)∨
 (k=3∧lo=0∧hi=0∧lz=false∧zu9 rs=true∧rs≠[]∧subs=[]∧g1=g)∨
 (k=6∧lo=0∧hi=0∧lz=false∧rs=[]∧subs=[]∧g1=g)∨
 (k=7∧hi=0∧no=false∧lz=false∧rs=[]∧subs.length=1∧(lo=0∧g1=g∨lo=(g+1:Nat)∧g1=g+1))∨
 (k=8∧lo=0∧hi=0∧no=false∧lz=false∧rs=[]∧subs.length≠1∧kin [8,9] subs=false∧g1=g)∨
 (k=9∧lo=0∧hi=0∧no=false∧lz=false∧rs=[]∧2<=subs.length∧kin [9] subs=false∧g1=g)∨
 (k=10∧no=false∧rs=[]∧subs.length=1∧kin [8,9,10,4,5,6,11] subs=false∧(0<=lo∧lo<=99∧ -1<=hi∧hi<=99∧(hi<0∨lo<=hi))∧g1=g)∨
 (k=11∧lo=0∧hi=0∧lz=false∧rs=[]∧subs.length=1∧g1=g)∨
 (k=12∧(1<=lo∧lo<=9)∧lo<=g∧hi=0∧no=false∧lz=false∧rs=[]∧subs=[]∧g1=g):=by
 unfold zyO at h
 split at h
 ·cases h
 rename_i hr
 split at h
 ·cases h
 rename_i hf
 split at h
 ·cases h
 rename_i hq
 simp only[Bool.not_eq_false]at hf
 simp only at hr hq h
 obtain rfl | rfl | rfl | rfl | rfl | rfl | rfl | rfl | rfl | rfl | rfl | rfl:k=1∨k=2∨k=3∨k=4∨k=5∨k=6∨k=7∨k=8∨k=9∨k=10∨k=11∨k=12:=by omega
 ·simp[zyI,zzY]at hf h;simp[hf,h]
 ·simp[zyI,zzY]at hf h;simp[hf,h]
 ·simp[zyI,zzY]at hf h;simp[hf,h]
 ·simp[zyI,zzY]at hf h;simp[hf,h]
 ·simp[zyI,zzY]at hf h;simp[hf,h]
 ·simp[zyI,zzY]at hf h;simp[hf,h]
 ·simp[zyI,zzY]at hf
  simp only[true_and]at h
  refine .inr (.inr (.inr (.inr (.inl ⟨rfl,hf.1.1.1,hf.1.2.1,hf.1.1.2,hf.1.2.2,hf.2,?_⟩))))
  split at h
  ·split at h
   ·rename_i h2;cases h;exact .inr ⟨h2.1,rfl⟩
   ·cases h
  ·rename_i h2
   simp at h h2
   exact .inl ⟨h2,h.symm⟩
 ·simp[zyI,zzY]at hf h;simp[hf,h]
 ·simp[zyI,zzY]at hf h;simp[hf,h]
 ·simp[zyI,zzY]at hf h
  simp only[true_and,Bool.not_eq_false,zp7,decide_eq_true_eq]at hq
  simp[hf,h]
  exact hq
 ·simp[zyI,zzY]at hf h;simp[hf,h]
 ·simp[zyI,zzY]at hf
  simp only[true_and]at h
  split at h
  ·rename_i h2;omega
  split at h
  ·cases h
  ·rename_i h2
   simp at h h2
   simp[hf,h]
   omega
theorem Tot.alln {α:Type} {f:Nat->Option α} {a:α} (h:∀ n,f n=some a):Tot f (· =a):=⟨a,rfl,0,fun n _=>h n⟩
theorem zv1 {g g':Nat} {a b:List Pc} (h:chkL g (a++b)=some g'):∃ g1,chkL g a=some g1∧chkL g1 b=some g':=by
 rw[zsT]at h
 cases hc:chkL g a with
 | none=>rw[hc]at h;cases h
 | some g1=>rw[hc]at h;exact ⟨g1,rfl,h⟩
def bs (t:List Nat):List UInt8:=t.map UInt8.ofNat
abbrev sp (s:St):ByteArray × Int × Int × Bool × Bool:=(strOf (enc s.cs),IntKind.i64.wrap (s.np:Int),(s.ng:Int),s.lg,s.ls)
structure St8 (S:List Nat):Prop where
 ib:∀ x:UInt8,decide (nIdxB (bytesOf (strOf (bs S))) (x.toNat:Int)>=0)=S.contains x.toNat
 low:∀ c∈S,c<128
theorem st8 {S:List Nat} (h1:(List.range 256).all (fun n=>decide (nIdxB (bytesOf (strOf (bs S))) (n:Int)>=0)==S.contains n)=true) (h2:∀ c∈S,c<128):St8 S where
 ib x:=beq_iff_eq.1 (zmb (p:=fun n=>decide (nIdxB (bytesOf (strOf (bs S))) (n:Int)>=0)==S.contains n) h1 x)
 low:=h2
def LT {τ ρ:Type} (F:Nat->τ->Option (τ ⊕ ρ)) (st:τ) (Q:ρ->Prop):Prop:=∃ r,Q r∧∃ N M,∀ n,N<=n->∀ m,M<=m->zzf (F n) m st=some r
theorem LT.fin {τ ρ:Type} {F:Nat->τ->Option (τ ⊕ ρ)} {st:τ} {r:ρ} {Q:ρ->Prop} (h:Tot (fun n=>F n st) (· = .inr r)) (hq:Q r):LT F st Q:=by
 obtain ⟨a,rfl,N,hN⟩:=h
 exact ⟨r,hq,N,1,fun n hn m hm=>by obtain ⟨m,rfl⟩:∃ k,m=k+1:=⟨m-1,om⟩;exact zus (hN n hn)⟩
theorem LT.step {τ ρ:Type} {F:Nat->τ->Option (τ ⊕ ρ)} {st st':τ} {Q:ρ->Prop} (h:Tot (fun n=>F n st) (· = .inl st')) (k:LT F st' Q):LT F st Q:=by
 obtain ⟨a,rfl,N,hN⟩:=h
 obtain ⟨r,hq,N',M,hk⟩:=k
 exact ⟨r,hq,max N N',M+1,fun n hn m hm=>by
  obtain ⟨m,rfl⟩:∃ k,m=k+1:=⟨m-1,om⟩
  rw[zrc (hN n om)]
  exact hk n om m om⟩
theorem LT.tot {τ ρ:Type} {F:Nat->τ->Option (τ ⊕ ρ)} {st:τ} {Q:ρ->Prop} (h:LT F st Q):Tot (fun n=>zzf (F n) n st) Q:=by
 obtain ⟨r,hq,N,M,hk⟩:=h
 exact ⟨r,hq,max N M,fun n hn=>hk n om n om⟩
def Sml (l:List (Int × Int)):Prop:=∀ y∈l, -4000000000000000000<=y.2∧y.2<=4000000000000000000
def Gd (s:St):Prop:=All s∧s.cs.length<=1000∧s.ng+s.cs.length<=100000
theorem Gd.inv {s s':St} {l:List Pc} (h:Gd s) (i:Inv s l s'):Gd s':=⟨h.1.suf i.cs,aa i.cs.length_le h.2.1,aa i.gl h.2.2⟩
theorem Gd.skip {s:St} (h:Gd s) (k:Nat):Gd (s.skip k):=h.inv (Inv.skip (zmj s k) rfl rfl id id)
def TT {α:Type} (x:Nat->Option α):Prop:=∃ r,∃ N,∀ n,N<=n->x n=some r
theorem TT.suc {α:Type} {f:Nat->Option α} (h:TT fun n=>f (n+1)):TT f:=by
 obtain ⟨r,N,h⟩:=h
 exact ⟨r,N+1,fun n hn=>by obtain ⟨n,rfl⟩:∃ k,n=k+1:=⟨n-1,om⟩;exact h n om⟩
theorem TT.bd {α β:Type} {x:Nat->Res α} {f:Nat->α->Res β} (h:TT x) (k:∀ a n,x n=some (.inl a)->TT fun n=>f n a):TT fun n=>bd (x n) (f n):=by
 obtain ⟨r,N,h⟩:=h
 cases r with
 | inr u=>exact ⟨.inr u,N,fun n hn=>by show Go.Gv.X.bd (x n) (f n)=_;rw[h n hn];rfl⟩
 | inl a=>
   obtain ⟨r,M,hk⟩:=k a N (h N (Nat.le_refl _))
   exact ⟨r,max N M,fun n hn=>by show Go.Gv.X.bd (x n) (f n)=_;rw[h n om];exact hk n om⟩
theorem TT.of {α:Type} {f g:Nat->Option α} (e:∀ n,f n=g n) (h:TT g):TT f:=by rw[funext e];exact h
theorem LT.mono {τ ρ:Type} {F:Nat->τ->Option (τ ⊕ ρ)} {st:τ} {Q Q':ρ->Prop} (h:LT F st Q) (k:∀ r,Q r->Q' r):LT F st Q':=by
 obtain ⟨r,hq,h⟩:=h
 exact ⟨r,k r hq,h⟩
def St9 (S:List Nat):Prop:=∀ k,(List.range 128).all (fun n=>zvh (k+30) (n:Int) (strOf (bs S))==some (S.contains n))=true
theorem Sml.app {a b:List (Int × Int)} (h:Sml a) (h':Sml b):Sml (a++b):=fun y hy=>(List.mem_append.1 hy).elim (h y) (h' y)
end Go.Gv.X
