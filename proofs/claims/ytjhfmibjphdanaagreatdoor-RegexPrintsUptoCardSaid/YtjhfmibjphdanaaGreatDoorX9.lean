import Derived.Test.YtjhfmibjphdanaaGreatDoorX5
set_option linter.all false
open List renaming append_assoc→aa,mem_cons_self→ac,mem_cons_of_mem→ad,nil_append→ae,isPrefixOf_iff_prefix→af,flatMap_cons→ag,singleton_append→ai,flatMap_nil→aj,isPrefixOf→am
open Bool renaming false_eq_true→ab,or_eq_false_iff→ak
namespace Go.Gv.X
open Go Go.Gv Go.Gv.D Go.Gv.R Go.Gv.P Go.Lib
set_option maxRecDepth 100000
/-! Own work: what is written is read as it was (2). -/
def HD:List Nat:=[124,41,42,43,63,123]
def QS:List Nat:=[42,43,63,123]
theorem Tot.alln {α:Type} {f:Nat→Option α} {a:α} (h:∀ n,f n=some a):Tot f (· =a):=⟨a,rfl,0,fun n _=>h n⟩
theorem st_HD:∀ c∈[124,41],c∈HD:=by decide
structure RTg (p:Pc) (g g':Nat):Prop where
 hd:Pc.kind p≠8→Pc.kind p≠9→∃ c t,txt p=c::t∧c∉HD
 nq:∀ c∈(txt p).head?,c≠63
 at_:Pc.kind p≠8→Pc.kind p≠9→Pc.kind p≠10→∀ (s:St) (r:List Nat),s.cs=txt p++r→s.ng=g→Tot (fun n=>atomA n s) (· = .inl (p,up s r (sizeP p) g'))
 it:Pc.kind p≠8→Pc.kind p≠9→∀ (s:St) (r:List Nat),s.cs=txt p++r→s.ng=g→noHd QS r→Tot (fun n=>repA n s) (· = .inl (p,up s r (sizeP p) g'))
 sq:Pc.kind p≠9→∀ (s:St) (r:List Nat),s.cs=txt p++r→s.ng=g→(∀ c∈r.head?,c=124∨c=41)→Tot (fun n=>seqA n s) (· = .inl (p,up s r (sizeP p) g'))
 al:∀ (s:St) (r:List Nat),s.cs=txt p++r→s.ng=g→(∀ c∈r.head?,c=41)→Tot (fun n=>altsA n s) (· = .inl (p,up s r (sizeP p) g'))
def RT (p:Pc):Prop:=∀ g g',chkL g (preP p)=some g'→RTg p g g'
theorem chk_split {g g':Nat} {a b:List Pc} (h:chkL g (a++b)=some g'):∃ g1,chkL g a=some g1∧chkL g1 b=some g':=by
 rw[chkL_app]at h
 cases hc:chkL g a with
 | none=>rw[hc]at h;cases h
 | some g1=>rw[hc]at h;exact ⟨g1,rfl,h⟩
theorem not_kin {ks:List Int} {p:Pc} {l:List Pc} (h:kin ks l=false) (hp:p∈l):Pc.kind p∉ks:=fun hk=>by
 have:=List.any_eq_false.1 h p hp
 exact this (by simpa using hk)
theorem noHd_hd {t:List Nat} {c:Nat} {u:List Nat} (h:c∉t):noHd t (c::u):=fun d hd=>by cases hd;exact h
theorem up_up (s:St) (r r':List Nat) (a b g g':Nat):up (up s r a g) r' b g'=up s r' (a+b) g':=by unfold up;simp only[Nat.add_assoc]
theorem hd_qs {c:Nat} (h:c∉HD):c∉QS:=fun hc=>h (by simp[HD,QS]at hc ⊢;omega)
theorem seqR_txt:∀ (ps:List Pc),(∀ p∈ps,RT p)→kin [8,9] ps=false→∀ (g g':Nat),chkL g (preL ps)=some g'→∀ (acc:List Pc) (s:St) (r:List Nat),s.cs=(txtL ps).flatten++r→s.ng=g→(∀ c∈r.head?,c=124∨c=41)→
 Tot (fun n=>seqRA n acc s) (· = .inl (wrapA 8 (acc++ps) (up s r (sizeL ps) g')))
 | [],_,_,g,g',hc,acc,s,r,hs,hg,hr=>by
   rw[preL,chkL]at hc
   cases hc
   rw[txtL,List.flatten_nil,ae]at hs
   refine Tot.suc (Tot.alln fun n=>?_)
   rw[seqRA,if_pos,List.append_nil,sizeL]
   ·have:up s r 0 g=s:=by unfold up;rw[← hs,← hg];rfl
    rw[this];rfl
   ·rw[hs]
    cases r with
    | nil=>exact .inl rfl
    | cons c r=>
      refine .inr ?_
      unfold ah
      rw[hs]
      have:=hr c rfl
      simpa using this
 | p::ps,hrt,hk,g,g',hc,acc,s,r,hs,hg,hr=>by
   rw[preL]at hc
   obtain ⟨g1,c1,c2⟩:=chk_split hc
   have R:=hrt p (ac ..) g g1 c1
   have hkp:=not_kin hk (ac ..)
   have k8:Pc.kind p≠8:=fun e=>hkp (by rw[e];simp)
   have k9:Pc.kind p≠9:=fun e=>hkp (by rw[e];simp)
   obtain ⟨c,t,e,hcH⟩:=R.hd k8 k9
   rw[txtL,List.flatten_cons,aa]at hs
   have hk':kin [8,9] ps=false:=by
    unfold kin at hk ⊢
    rw[List.any_cons,ak]at hk
    exact hk.2
   have hn:noHd QS ((txtL ps).flatten++r):=by
    cases ps with
    | nil=>
      rw[txtL,List.flatten_nil,ae]
      intro d hd
      have:=hr d hd
      simp[QS];omega
    | cons q qs=>
      rw[preL]at c2
      obtain ⟨g2,d1,_⟩:=chk_split c2
      have hkq:=not_kin hk' (ac ..)
      obtain ⟨d,u,e2,hd2⟩:=(hrt q (by simp) g1 g2 d1).hd (fun e=>hkq (by rw[e];simp)) (fun e=>hkq (by rw[e];simp))
      rw[txtL,List.flatten_cons,e2]
      exact noHd_hd (hd_qs hd2)
   have h1:=R.it k8 k9 s _ hs hg hn
   have ih:=seqR_txt ps (fun q hq=>hrt q (ad _ hq)) hk' g1 g' c2 (acc++[p]) (up s ((txtL ps).flatten++r) (sizeP p) g1) r rfl rfl hr
   rw[up_up,aa,ai]at ih
   refine Tot.suc (Tot.eqf (g:=fun n=>bd (repA n s) fun x=>seqRA n (acc++[x.1]) x.2) (fun n=>?_) (Tot.bdv h1 ?_))
   ·rw[seqRA,if_neg]
    rintro (h | h)
    ·rw[hs,e]at h;cases h
    ·rw[noHd_ah (noHd_hd (u:=t++((txtL ps).flatten++r)) (fun h=>hcH (st_HD c h))) (by rw[hs,e];rfl)]at h
     cases h
   ·rw[sizeL];exact ih
theorem altR_txt:∀ (ps:List Pc),(∀ p∈ps,RT p)→kin [9] ps=false→∀ (g g':Nat),chkL g (preL ps)=some g'→∀ (acc:List Pc) (s:St) (r:List Nat),s.cs=(txtL ps).flatMap (fun u=>124::u)++r→s.ng=g→(∀ c∈r.head?,c=41)→
 Tot (fun n=>altRA n acc s) (· = .inl (wrapA 9 (acc++ps) (up s r (sizeL ps) g')))
 | [],_,_,g,g',hc,acc,s,r,hs,hg,hr=>by
   rw[preL,chkL]at hc
   cases hc
   rw[txtL,aj,ae]at hs
   refine Tot.suc (Tot.alln fun n=>?_)
   rw[altRA,if_neg,List.append_nil,sizeL]
   ·have:up s r 0 g=s:=by unfold up;rw[← hs,← hg];rfl
    rw[this];rfl
   ·rw[hs]
    cases r with
    | nil=>decide
    | cons c r=>rw[hr c rfl];rw[pre_ne ddc];decide
 | p::ps,hrt,hk,g,g',hc,acc,s,r,hs,hg,hr=>by
   rw[preL]at hc
   obtain ⟨g1,c1,c2⟩:=chk_split hc
   have R:=hrt p (ac ..) g g1 c1
   have hkp:=not_kin hk (ac ..)
   have k9:Pc.kind p≠9:=fun e=>hkp (by rw[e];simp)
   rw[txtL,ag,aa,List.cons_append]at hs
   have hk':kin [9] ps=false:=by
    unfold kin at hk ⊢
    rw[List.any_cons,ak]at hk
    exact hk.2
   have hsk:s.skip 1={ s with cs:=txt p++((txtL ps).flatMap (fun u=>124::u)++r)}:=by unfold St.skip;rw[hs];rfl
   have h1:=R.sq k9 (s.skip 1) ((txtL ps).flatMap (fun u=>124::u)++r) (by rw[hsk]) hg (fun d hd=>by
    cases ps with
    | nil=>rw[txtL,aj,ae]at hd;exact .inr (hr d hd)
    | cons q qs=>rw[txtL,ag]at hd;cases hd;exact .inl rfl)
   have ih:=altR_txt ps (fun q hq=>hrt q (ad _ hq)) hk' g1 g' c2 (acc++[p]) (up s ((txtL ps).flatMap (fun u=>124::u)++r) (sizeP p) g1) r rfl rfl hr
   rw[up_up,aa,ai]at ih
   refine Tot.suc (Tot.eqf (g:=fun n=>bd (seqA n (s.skip 1)) fun x=>altRA n (acc++[x.1]) x.2) (fun n=>?_) (Tot.bdv h1 ?_))
   ·rw[altRA,if_pos]
    rw[hs];rfl
   ·rw[sizeL,hsk];exact ih
theorem up_made (s:St) (r:List Nat) (k g:Nat) (p:Pc):made (up s r k g) p=(p,up s r (1+k) g):=by unfold made up;simp only[Nat.add_assoc,Nat.add_comm 1 k]
theorem ins_txt {q:Pc} {s:St} {g g1:Nat} {r:List Nat} {k low:Int} {no:Bool} (hq:RTg q g g1) (hs:s.cs=txt q++41::r) (hg:s.ng=g):Tot (fun n=>insA n s k low no) (· = .inl (.mk k low 0 no false [] [q],up s r (1+sizeP q) g1)):=by
 refine Tot.suc (Tot.eqf (g:=fun n=>bd (altsA n s) fun x=>if pre [41] x.2.cs then ok (made (x.2.skip 1) (.mk k low 0 no false [] [x.1])) else er) (fun n=>by rw[insA]) ?_)
 refine Tot.bdv (hq.al s (41::r) hs hg (fun c hc=>by cases hc;rfl)) (Tot.const ?_)
 show (if pre [41] (41::r)=true then _ else _)=_
 rw[show pre [41] (41::r)=true from rfl,if_pos rfl]
 show some (Sum.inl (made (up s r (sizeP q) g1) _))=_
 rw[up_made]
theorem head_app {a b:List Nat} (ha:∀ c∈a.head?,c≠63) (hb:∀ c∈b.head?,c≠63):∀ c∈(a++b).head?,c≠63:=by
 cases a with
 | nil=>exact hb
 | cons d a=>exact ha
theorem flat_nq:∀ {ts:List (List Nat)},(∀ t∈ts,∀ c∈t.head?,c≠63)→∀ c∈ts.flatten.head?,c≠63
 | [],_,c,hc=>by cases hc
 | t::ts,h,c,hc=>by
   rw[List.flatten_cons]at hc
   exact head_app (h t (ac ..)) (flat_nq fun u hu=>h u (ad _ hu)) c hc
end Go.Gv.X
namespace Go.Gv.X
open Go Go.Gv Go.Gv.D Go.Gv.R Go.Gv.P Go.Lib
set_option maxRecDepth 100000
/-! Own work: what is written is read as it was (3). -/
/-- of an atom: what more there is to show -/
theorem of_atom {p:Pc} {g g':Nat} (k8:Pc.kind p≠8) (k9:Pc.kind p≠9) (k10:Pc.kind p≠10) (hd:∃ c t,txt p=c::t∧c∉HD)
 (hat:∀ (s:St) (r:List Nat),s.cs=txt p++r→s.ng=g→Tot (fun n=>atomA n s) (· = .inl (p,up s r (sizeP p) g'))):
 ∀ (s:St) (r:List Nat),s.cs=txt p++r→s.ng=g→noHd QS r→Tot (fun n=>repA n s) (· = .inl (p,up s r (sizeP p) g')):=fun s r hs hg hr=>by
 refine Tot.suc (Tot.eqf (fun n=>by rw[repA]) (Tot.bdv (hat s r hs hg) ?_))
 have:=bounds_none (s:=up s r (sizeP p) g') (r:=r) rfl hr
 refine Tot.bdv (Tot.const this) (Tot.const rfl)
/-- of what is no sequence and no choice -/
theorem of_item {p:Pc} {g g':Nat} (k8:Pc.kind p≠8) (k9:Pc.kind p≠9) (hd:∃ c t,txt p=c::t∧c∉HD)
 (hit:∀ (s:St) (r:List Nat),s.cs=txt p++r→s.ng=g→noHd QS r→Tot (fun n=>repA n s) (· = .inl (p,up s r (sizeP p) g'))):
 ∀ (s:St) (r:List Nat),s.cs=txt p++r→s.ng=g→(∀ c∈r.head?,c=124∨c=41)→Tot (fun n=>seqA n s) (· = .inl (p,up s r (sizeP p) g')):=fun s r hs hg hr=>by
 obtain ⟨c,t,e,hc⟩:=hd
 have h1:=hit s r hs hg (fun d hd=>by have:=hr d hd;simp[QS];omega)
 refine Tot.suc (Tot.eqf (g:=fun n=>seqRA n [] s) (fun n=>by rw[seqA]) ?_)
 refine Tot.suc (Tot.eqf (g:=fun n=>bd (repA n s) fun x=>seqRA n ([]++[x.1]) x.2) (fun n=>?_) (Tot.bdv h1 (Tot.suc (Tot.alln fun n=>?_))))
 ·rw[seqRA,if_neg]
  rintro (h | h)
  ·rw[hs,e]at h;cases h
  ·rw[noHd_ah (noHd_hd (u:=t++r) (fun h=>hc (st_HD c h))) (by rw[hs,e];rfl)]at h
   cases h
 ·rw[seqRA,if_pos]
  ·rfl
  ·show r=[]∨_
   cases r with
   | nil=>exact .inl rfl
   | cons c r=>
     refine .inr ?_
     show [124,41].contains c=true
     have:=hr c rfl
     simpa using this
theorem of_seq {p:Pc} {g g':Nat} (hsq:∀ (s:St) (r:List Nat),s.cs=txt p++r→s.ng=g→(∀ c∈r.head?,c=124∨c=41)→Tot (fun n=>seqA n s) (· = .inl (p,up s r (sizeP p) g'))):
 ∀ (s:St) (r:List Nat),s.cs=txt p++r→s.ng=g→(∀ c∈r.head?,c=41)→Tot (fun n=>altsA n s) (· = .inl (p,up s r (sizeP p) g')):=fun s r hs hg hr=>by
 refine Tot.suc (Tot.eqf (fun n=>by rw[altsA]) (Tot.bdv (hsq s r hs hg fun c hc=>.inr (hr c hc)) (Tot.suc (Tot.alln fun n=>?_))))
 rw[altRA,if_neg]
 ·rfl
 ·show ¬ pre [124] r=true
  cases r with
  | nil=>decide
  | cons c r=>rw[hr c rfl];rw[pre_ne ddc];decide
theorem RTg.ofAtom {p:Pc} {g g':Nat} (k8:Pc.kind p≠8) (k9:Pc.kind p≠9) (k10:Pc.kind p≠10) (hd:∃ c t,txt p=c::t∧c∉HD)
 (hat:∀ (s:St) (r:List Nat),s.cs=txt p++r→s.ng=g→Tot (fun n=>atomA n s) (· = .inl (p,up s r (sizeP p) g'))):RTg p g g' where
 hd _ _:=hd
 nq:=by
  obtain ⟨c,t,e,hc⟩:=hd
  rw[e]
  intro d hd
  cases hd
  exact fun e=>hc (by rw[e];decide)
 at_ _ _ _:=hat
 it _ _:=of_atom k8 k9 k10 hd hat
 sq _:=of_item k8 k9 hd (of_atom k8 k9 k10 hd hat)
 al:=of_seq (of_item k8 k9 hd (of_atom k8 k9 k10 hd hat))
theorem up_one (s:St) (r:List Nat) {g:Nat} (hg:s.ng=g) (p:Pc):made { s with cs:=r} p=(p,up s r 1 g):=by subst hg;rfl
theorem skip_eq {s:St} {a b:List Nat} (h:s.cs=a++b):s.skip a.length={ s with cs:=b}:=by unfold St.skip;rw[h,List.drop_left]
theorem dec_small {lo:Int} (h:1≤lo∧lo≤9):decN lo=[48+lo.toNat]:=by
 obtain rfl | rfl | rfl | rfl | rfl | rfl | rfl | rfl | rfl:lo=1∨lo=2∨lo=3∨lo=4∨lo=5∨lo=6∨lo=7∨lo=8∨lo=9:=by omega
 all_goals kernel_rfl
theorem rt_mk {k lo hi:Int} {no lz:Bool} {rs:List (Int × Int)} {subs:List Pc} (ih:∀ q∈subs,RT q):RT (.mk k lo hi no lz rs subs):=fun g g' hck=>by
 rw[pre_eq]at hck
 unfold chkL at hck
 have hun:(Pc.mk k lo hi no lz rs subs).un=(k,lo,hi,no,lz,rs,subs):=rfl
 rw[hun]at hck
 cases hn:nodeC g (k,lo,hi,no,lz,rs,subs) with
 | inl c=>rw[hn]at hck;cases hck
 | inr g1=>
 rw[hn]at hck
 simp only at hck
 rcases node_inv hn with ⟨rfl,hsc,rfl,rfl,rfl,rfl,rfl,rfl⟩ | ⟨hk,rfl,rfl,rfl,rfl,rfl,rfl,rfl⟩ | ⟨rfl,rfl,rfl,rfl,hor,hne,rfl,rfl⟩ | ⟨rfl,rfl,rfl,rfl,rfl,rfl,rfl⟩ | ⟨rfl,rfl,rfl,rfl,rfl,hl,hg⟩ | ⟨rfl,rfl,rfl,rfl,rfl,rfl,hl,hkin,rfl⟩ | ⟨rfl,rfl,rfl,rfl,rfl,rfl,hl,hkin,rfl⟩ | ⟨rfl,rfl,rfl,hl,hkin,hr,rfl⟩ | ⟨rfl,rfl,rfl,rfl,rfl,hl,rfl⟩ | ⟨rfl,hlo,hlg,rfl,rfl,rfl,rfl,rfl,rfl⟩
 · -- a character
   have hcc:g1=g':=by rw[preL,chkL]at hck;exact Option.some.inj hck
   subst hcc
   have ht:txt (.mk 1 lo 0 false false [] [])=spellN lo SP:=by rw[txt];rfl
   refine RTg.ofAtom (by simp[Pc.kind]) (by simp[Pc.kind]) (by simp[Pc.kind]) ?_ fun s r hs hg=>?_
   ·obtain ⟨d,t,e,hd⟩:=spell_hd hsc (S:=SP)
    refine ⟨d,t,ht.trans e,?_⟩
    rcases hd with rfl | hd
    ·decide
    ·intro h;apply hd;revert h;simp only[HD,SP,List.mem_cons,List.not_mem_nil,or_false];omega
   ·rw[ht]at hs
    refine Tot.suc (Tot.alln fun n=>?_)
    rw[char_txt hsc hs n,up_one s r hg,leaf_sz]
 · -- any, start, end
   have hcc:g1=g':=by rw[preL,chkL]at hck;exact Option.some.inj hck
   subst hcc
   have ht:∃ c,txt (.mk k 0 0 false false [] [])=[c]∧(k=2∧c=46∨k=4∧c=94∨k=5∧c=36):=by
    rcases hk with rfl | rfl | rfl
    ·exact ⟨46,by rw[txt];rfl,.inl ⟨rfl,rfl⟩⟩
    ·exact ⟨94,by rw[txt];rfl,.inr (.inl ⟨rfl,rfl⟩)⟩
    ·exact ⟨36,by rw[txt];rfl,.inr (.inr ⟨rfl,rfl⟩)⟩
   obtain ⟨c,ht,hc⟩:=ht
   refine RTg.ofAtom (by simp[Pc.kind];omega) (by simp[Pc.kind];omega) (by simp[Pc.kind];omega) ⟨c,[],ht,by rcases hc with ⟨_,rfl⟩ | ⟨_,rfl⟩ | ⟨_,rfl⟩<;>decide⟩ fun s r hs hg=>?_
   rw[ht]at hs
   refine Tot.suc (Tot.alln fun n=>?_)
   have hsk:s.skip 1={ s with cs:=r}:=skip_eq (a:=[c]) hs
   have hs':s.cs=c::r:=hs
   rw[leaf_sz,← up_one s r hg,atomA,hs',hsk]
   rcases hc with ⟨rfl,rfl⟩ | ⟨rfl,rfl⟩ | ⟨rfl,rfl⟩<;>simp[pre,am,ok]
 · -- a class
   have hcc:g1=g':=by rw[preL,chkL]at hck;exact Option.some.inj hck
   subst hcc
   have ht:txt (.mk 3 0 0 no false rs [])=clsN no rs:=by rw[txt];rfl
   obtain ⟨o1,o2⟩:=of_ord hor
   refine RTg.ofAtom (by simp[Pc.kind]) (by simp[Pc.kind]) (by simp[Pc.kind]) ⟨91,_,ht.trans rfl,ddc⟩ fun s r hs hg=>?_
   rw[ht]at hs
   rw[leaf_sz,← up_one s r hg]
   exact class_txt o1 o2 hne hs
 · -- an edge
   have hcc:g1=g':=by rw[preL,chkL]at hck;exact Option.some.inj hck
   subst hcc
   have ht:txt (.mk 6 0 0 no false [] [])=if no then [92,66] else [92,98]:=by rw[txt];rfl
   refine RTg.ofAtom (by simp[Pc.kind]) (by simp[Pc.kind]) (by simp[Pc.kind]) (by rw[ht];cases no<;>exact ⟨92,_,rfl,ddc⟩) fun s r hs hg=>?_
   rw[ht]at hs
   refine Tot.suc (Tot.alln fun n=>?_)
   rw[leaf_sz,← up_one s r hg]
   cases no with
   | true=>rw[atom_esc (r:=66::r) (by rw[hs];rfl)];rfl
   | false=>rw[atom_esc (r:=98::r) (by rw[hs];rfl)];rfl
 · -- a group
   obtain ⟨q,rfl⟩:=len_one hl
   rw[preL_one]at hck
   have R:=ih q (by simp) _ _ hck
   have ht:txt (.mk 7 lo 0 false false [] [q])=(if lo=0 then [40,63,58] else [40])++(txt q++[41]):=by rw[txt,txtL,txtL];rfl
   refine RTg.ofAtom (by simp[Pc.kind]) (by simp[Pc.kind]) (by simp[Pc.kind]) (by rw[ht];split<;>exact ⟨40,_,rfl,ddc⟩) fun s r hs hgs=>?_
   rw[size_eq,sizeL_one]
   rcases hg with ⟨rfl,rfl⟩ | ⟨rfl,rfl⟩
   ·rw[ht,if_pos rfl,aa,aa]at hs
    have hsk:s.skip 3={ s with cs:=txt q++41::r}:=skip_eq (a:=[40,63,58]) (by rw[hs];rfl)
    refine Tot.suc (Tot.eqf (g:=fun n=>insA n (s.skip 3) 7 0 false) (fun n=>?_) ?_)
    ·rw[atomA,if_pos];rw[hs];rfl
    ·rw[hsk]
     exact ins_txt (s:={ s with cs:=txt q++41::r}) R rfl hgs
   ·rw[ht,if_neg om,aa,aa]at hs
    have hs:s.cs=40::(txt q++41::r):=by rw[hs];rfl
    have hsk:s.skip 1={ s with cs:=txt q++41::r}:=skip_eq (a:=[40]) hs
    have hq:∀ t,pre (63::t) (txt q++41::r)=false:=fun t=>by
     have:=head_app R.nq (b:=41::r) (fun c hc=>by cases hc;decide)
     cases hu:txt q++41::r with
     | nil=>rfl
     | cons d u=>rw[hu]at this;exact pre_ne (Ne.symm (this d rfl))
    refine Tot.suc (Tot.eqf (g:=fun n=>insA n { s.skip 1 with ng:=s.ng+1} 7 ((s.ng+1:Nat):Int) false) (fun n=>?_) ?_)
    ·rw[atomA,hs,pre_cons,pre_cons,pre_cons,pre_cons,hq,hq,hq,hq,pre_cons,pre_nil];rfl
    ·rw[hsk,hgs]
     exact ins_txt (s:={ s with cs:=txt q++41::r,ng:=g+1}) R rfl rfl
 · -- a sequence
   have ht:txt (.mk 8 0 0 false false [] subs)=(txtL subs).flatten:=by rw[txt];rfl
   have hsq:∀ (s:St) (r:List Nat),s.cs=txt (.mk 8 0 0 false false [] subs)++r→s.ng=g1→(∀ c∈r.head?,c=124∨c=41)→Tot (fun n=>seqA n s) (· = .inl (.mk 8 0 0 false false [] subs,up s r (sizeP (.mk 8 0 0 false false [] subs)) g')):=fun s r hs hgs hr=>by
    rw[ht]at hs
    have:=seqR_txt subs ih hkin g1 g' hck [] s r hs hgs hr
    rw[ae]at this
    have hw:wrapA 8 subs (up s r (sizeL subs) g')=(.mk 8 0 0 false false [] subs,up s r (sizeP (.mk 8 0 0 false false [] subs)) g'):=by
     rw[size_eq,← up_made]
     unfold wrapA
     split
     ·exact absurd rfl hl
     ·rfl
    rw[hw]at this
    exact Tot.suc (Tot.eqf (fun n=>by rw[seqA]) this)
   refine ⟨fun e=>absurd rfl e,?_,fun e=>absurd rfl e,fun e=>absurd rfl e,fun _=>hsq,of_seq hsq⟩
   rw[ht]
   refine flat_nq fun t htm=>?_
   rw[txtL_eq]at htm
   obtain ⟨q,hq,rfl⟩:=List.mem_map.1 htm
   obtain ⟨a,b,hab⟩:=List.append_of_mem hq
   rw[hab,preL_app,preL]at hck
   obtain ⟨g2,_,c2⟩:=chk_split hck
   obtain ⟨g3,c3,_⟩:=chk_split c2
   exact (ih q hq g2 g3 c3).nq
 · -- a choice
   obtain ⟨q,qs,rfl⟩:∃ q qs,subs=q::qs:=by
    match subs,hl with
    | q::qs,_=>exact ⟨q,qs,rfl⟩
   rw[preL]at hck
   obtain ⟨g2,c1,c2⟩:=chk_split hck
   have R:=ih q (by simp) _ _ c1
   have hkq:Pc.kind q≠9:=fun e=>not_kin hkin (ac ..) (by rw[e];simp)
   have hk':kin [9] qs=false:=by
    unfold kin at hkin ⊢
    rw[List.any_cons,ak]at hkin
    exact hkin.2
   have ht:txt (.mk 9 0 0 false false [] (q::qs))=txt q++(txtL qs).flatMap (fun u=>124::u):=by rw[txt,txtL];rfl
   refine ⟨fun _ e=>absurd rfl e,?_,fun _ e=>absurd rfl e,fun _ e=>absurd rfl e,fun e=>absurd rfl e,fun s r hs hgs hr=>?_⟩
   ·rw[ht]
    refine head_app R.nq fun c hc=>?_
    cases qs with
    | nil=>rw[txtL]at hc;cases hc
    | cons p ps=>rw[txtL,ag]at hc;cases hc;decide
   ·rw[ht,aa]at hs
    have h1:=R.sq hkq s _ hs hgs (fun c hc=>by
     cases qs with
     | nil=>rw[txtL,aj,ae]at hc;exact .inr (hr c hc)
     | cons p ps=>rw[txtL,ag]at hc;cases hc;exact .inl rfl)
    have h2:=altR_txt qs (fun p hp=>ih p (ad _ hp)) hk' g2 g' c2 [q] (up s ((txtL qs).flatMap (fun u=>124::u)++r) (sizeP q) g2) r rfl rfl hr
    rw[up_up,ai]at h2
    have hw:wrapA 9 (q::qs) (up s r (sizeP q+sizeL qs) g')=(.mk 9 0 0 false false [] (q::qs),up s r (sizeP (.mk 9 0 0 false false [] (q::qs))) g'):=by
     rw[size_eq,sizeL,← up_made]
     cases qs with
     | nil=>simp at hl
     | cons p ps=>rfl
    rw[hw]at h2
    exact Tot.suc (Tot.eqf (fun n=>by rw[altsA]) (Tot.bdv h1 h2))
 · -- a repetition
   obtain ⟨q,rfl⟩:=len_one hl
   rw[preL_one]at hck
   have R:=ih q (by simp) _ _ hck
   have hkq:=not_kin hkin (ac ..)
   simp only[List.mem_cons,List.not_mem_nil,or_false,not_or]at hkq
   have ht:txt (.mk 10 lo hi false lz [] [q])=txt q++(tmsN lo hi++if lz then [63] else []):=by rw[txt,txtL,txtL];rfl
   obtain ⟨c,t,e,hc⟩:=R.hd hkq.1 hkq.2.1
   have hhd:∃ c t,txt (.mk 10 lo hi false lz [] [q])=c::t∧c∉HD:=⟨c,_,by rw[ht,e];rfl,hc⟩
   have hit:∀ (s:St) (r:List Nat),s.cs=txt (.mk 10 lo hi false lz [] [q])++r→s.ng=g1→noHd QS r→Tot (fun n=>repA n s) (· = .inl (.mk 10 lo hi false lz [] [q],up s r (sizeP (.mk 10 lo hi false lz [] [q])) g')):=fun s r hs hgs hr'=>by
    rw[ht,aa,aa]at hs
    have h1:=R.at_ hkq.1 hkq.2.1 hkq.2.2.1 s _ hs hgs
    refine Tot.suc (Tot.eqf (fun n=>by rw[repA]) (Tot.bdv h1 ?_))
    obtain ⟨r1,r2,r3,r4,r5⟩:=hr
    have h2:=bounds_txt (s:=up s (tmsN lo hi++((if lz then [63] else [])++r)) (sizeP q) g') (r:=(if lz then [63] else [])++r) rfl r1 r2 r3 r4 r5
    refine Tot.bdv (Tot.const h2) (Tot.const ?_)
    simp only
    rw[if_neg om]
    have hp:pre [63] ((if lz then [63] else [])++r)=lz:=by
     cases lz with
     | true=>rfl
     | false=>exact noHd_pre hr' ddc
    have hs2:(if pre [63] ((if lz then [63] else [])++r)=true then (({ up s (tmsN lo hi++((if lz then [63] else [])++r)) (sizeP q) g' with cs:=(if lz then [63] else [])++r}:St)).skip 1 else { up s (tmsN lo hi++((if lz then [63] else [])++r)) (sizeP q) g' with cs:=(if lz then [63] else [])++r})=up s r (sizeP q) g':=by
     rw[hp]
     cases lz with
     | true=>rfl
     | false=>rfl
    rw[hs2,hp,if_neg (by rw[show ah [42,43,63,123] (up s r (sizeP q) g')=false from noHd_ah (r:=r) hr' rfl];decide),size_eq,sizeL_one,← up_made]
    rfl
   refine ⟨fun _ _=>hhd,?_,fun _ _ e=>absurd rfl e,fun _ _=>hit,fun _=>of_item (by simp[Pc.kind]) (by simp[Pc.kind]) hhd hit,of_seq (of_item (by simp[Pc.kind]) (by simp[Pc.kind]) hhd hit)⟩
   obtain ⟨c,t,e,hc⟩:=hhd
   rw[e]
   intro d hd
   cases hd
   exact fun e=>hc (by rw[e];decide)
 · -- looking ahead
   obtain ⟨q,rfl⟩:=len_one hl
   rw[preL_one]at hck
   have R:=ih q (by simp) _ _ hck
   have ht:txt (.mk 11 0 0 no false [] [q])=(if no then [40,63,33] else [40,63,61])++(txt q++[41]):=by rw[txt,txtL,txtL];rfl
   refine RTg.ofAtom (by simp[Pc.kind]) (by simp[Pc.kind]) (by simp[Pc.kind]) (by rw[ht];cases no<;>exact ⟨40,_,rfl,ddc⟩) fun s r hs hgs=>?_
   rw[size_eq,sizeL_one]
   rw[ht,aa,aa]at hs
   have hsk:s.skip 3={ s with cs:=txt q++41::r}:=by
    cases no with
    | true=>exact skip_eq (a:=[40,63,33]) (by rw[hs];rfl)
    | false=>exact skip_eq (a:=[40,63,61]) (by rw[hs];rfl)
   refine Tot.suc (Tot.eqf (g:=fun n=>insA n (s.skip 3) 11 0 no) (fun n=>?_) ?_)
   ·cases no with
    | true=>
      have hs:s.cs=40::63::33::(txt q++(41::r)):=hs
      rw[atomA,hs,pre_cons,pre_cons,pre_ne ddc,pre_cons,pre_cons,pre_ne ddc,pre_cons,pre_cons,pre_cons,pre_nil];rfl
    | false=>
      have hs:s.cs=40::63::61::(txt q++(41::r)):=hs
      rw[atomA,hs,pre_cons,pre_cons,pre_ne ddc,pre_cons,pre_cons,pre_cons,pre_nil];rfl
   ·rw[hsk]
    exact ins_txt (s:={ s with cs:=txt q++41::r}) R rfl hgs
 · -- a reference
   have hcc:g1=g':=by rw[preL,chkL]at hck;exact Option.some.inj hck
   subst hcc
   have ht:txt (.mk 12 lo 0 false false [] [])=[92,48+lo.toNat]:=by rw[txt,dec_small hlo];rfl
   refine RTg.ofAtom (by simp[Pc.kind]) (by simp[Pc.kind]) (by simp[Pc.kind]) ⟨92,_,ht,ddc⟩ fun s r hs hg=>?_
   rw[ht]at hs
   refine Tot.suc (Tot.alln fun n=>?_)
   have hs:s.cs=92::(48+lo.toNat)::r:=hs
   rw[leaf_sz,← up_one s r hg,atom_esc hs]
   unfold escA
   simp only
   rw[if_neg om,if_pos om]
   have h1:decide (s.ng<48+lo.toNat-48)=false:=dff om
   have h2:((48+lo.toNat-48:Nat):Int)=lo:=by omega
   rw[h1,h2,Bool.or_false]
   rfl
mutual
theorem rt:∀ p:Pc,RT p
 | .mk k l h n z r s=>rt_mk (rtL s)
theorem rtL:∀ l:List Pc,∀ q∈l,RT q
 | [],q,hq=>by cases hq
 | p::ps,q,hq=>by
   rcases List.mem_cons.1 hq with h | h
   ·rw[h];exact rt p
   ·exact rtL ps q h
end
end Go.Gv.X
namespace Go.Gv.X
open Go Go.Gv Go.Gv.D Go.Gv.R Go.Gv.P Go.Lib
set_option maxRecDepth 100000
/-! Own work: the parser's small functions on what is left. -/
def bs (t:List Nat):List UInt8:=t.map UInt8.ofNat
abbrev sp (s:St):ByteArray × Int × Int × Bool × Bool:=(strOf (enc s.cs),IntKind.i64.wrap (s.np:Int),(s.ng:Int),s.lg,s.ls)
theorem hasPrefix_eq (n:Nat) (L T:List UInt8):stringslite_HasPrefix n (strOf L) (strOf T)=some (T.isPrefixOf L):=by
 unfold stringslite_HasPrefix
 rw[size_str,size_str]
 by_cases h:T.length≤L.length
 ·rw[if_pos (dtt (show ((L.length:Nat):Int)≥((T.length:Nat):Int) by omega))]
  have:=ssub_str (l:=L) (i:=0) (j:=T.length) (Nat.zero_le _) h
  rw[List.drop_zero]at this
  rw[show ssub (strOf L) 0 ((T.length:Nat):Int)=_ from this]
  simp only[Option.bind_some,str_eq]
  congr 1
  rw[Bool.eq_iff_iff,decide_eq_true_iff,af,List.prefix_iff_eq_take]
  exact ⟨fun e=>by have:=congrArg bytesOf e;rw[bytes_str,bytes_str]at this;exact this.symm,fun e=>by rw[← e]⟩
 ·rw[if_neg (by rw[dff (show ¬ ((L.length:Nat):Int)≥((T.length:Nat):Int) by omega)];decide)]
  simp only[Option.bind_some]
  congr 1
  symm
  rw[Bool.eq_false_iff]
  intro e
  exact h (af.1 e).length_le
theorem cutPrefix_eq (n:Nat) (L T:List UInt8):strings_CutPrefix n (strOf L) (strOf T)=some (if T.isPrefixOf L then (strOf (L.drop T.length),true) else (strOf L,false)):=by
 unfold strings_CutPrefix stringslite_CutPrefix
 rw[hasPrefix_eq]
 simp only[Option.bind_some]
 cases h:T.isPrefixOf L with
 | false=>rfl
 | true=>
   have:=(af.1 h).length_le
   have h2:=ssub_str (l:=L) (i:=T.length) (j:=L.length) this (Nat.le_refl _)
   rw[List.take_length]at h2
   rw[size_str,size_str,h2]
   rfl
theorem pre_enc:∀ (t cs:List Nat),(∀ c∈t,c<128)→(∀ c∈cs,Scal c)→(bs t).isPrefixOf (enc cs)=pre t cs∧(pre t cs=true→(enc cs).drop t.length=enc (cs.drop t.length))
 | [],cs,_,_=>⟨by simp[pre,bs],fun _=>rfl⟩
 | c::t,[],_,_=>⟨rfl,fun h=>by cases h⟩
 | c::t,d::r,ht,hc=>by
   obtain ⟨b,u,e,h1,h2⟩:=head_enc (hc d (by simp)) r
   have hcl:=ht c (by simp)
   obtain ⟨i1,i2⟩:=pre_enc t r (fun x hx=>ht x (ad _ hx)) (fun x hx=>hc x (ad _ hx))
   rw[e]
   rcases Nat.lt_or_ge d 128 with hd | hd
   ·obtain ⟨rfl,rfl⟩:=h1 hd
    by_cases hcd:c=d
    ·subst hcd
     rw[pre_cons]
     refine ⟨?_,fun h=>i2 h⟩
     rw[← i1]
     show (UInt8.ofNat c::bs t).isPrefixOf _=_
     simp[am]
    ·rw[pre_ne hcd]
     refine ⟨?_,fun h=>by cases h⟩
     show (UInt8.ofNat c::bs t).isPrefixOf _=_
     have:UInt8.ofNat c≠UInt8.ofNat d:=fun e=>hcd (by have:=congrArg UInt8.toNat e;rwa [ofNat_toNat' hcl,ofNat_toNat' hd]at this)
     simp[am,this]
   ·have hcd:c≠d:=by omega
    rw[pre_ne hcd]
    refine ⟨?_,fun h=>by cases h⟩
    show (UInt8.ofNat c::bs t).isPrefixOf _=_
    have:UInt8.ofNat c≠b:=fun e=>by have:=h2 hd;rw[← e,ofNat_toNat' hcl]at this;omega
    simp[am,this]
theorem bs_len (t:List Nat):(bs t).length=t.length:=by simp[bs]
theorem eat_eq (n:Nat) {s:St} (ha:All s) {t:List Nat} (ht:∀ c∈t,c<128) {T:List UInt8} (hT:T=bs t):
 regex_parser_eat n (sp s) (strOf T)=some (pre t s.cs,sp (if pre t s.cs then s.skip t.length else s)):=by
 subst hT
 obtain ⟨h1,h2⟩:=pre_enc t s.cs ht ha
 unfold regex_parser_eat
 rw[cutPrefix_eq,h1,bs_len]
 cases hp:pre t s.cs with
 | false=>rfl
 | true=>simp only[Option.bind_some,if_true,h2 hp];rfl
/-- a set that the parser looks for -/
structure St8 (S:List Nat):Prop where
 ib:∀ x:UInt8,decide (nIdxB (bytesOf (strOf (bs S))) (x.toNat:Int)≥0)=S.contains x.toNat
 low:∀ c∈S,c<128
theorem st8 {S:List Nat} (h1:(List.range 256).all (fun n=>decide (nIdxB (bytesOf (strOf (bs S))) (n:Int)≥0)==S.contains n)=true) (h2:∀ c∈S,c<128):St8 S where
 ib x:=beq_iff_eq.1 (byte_all (p:=fun n=>decide (nIdxB (bytesOf (strOf (bs S))) (n:Int)≥0)==S.contains n) h1 x)
 low:=h2
theorem ahead_eq (n:Nat) {s:St} (ha:All s) {S:List Nat} (hS:St8 S) {T:List UInt8} (hT:T=bs S):regex_parser_ahead n (sp s) (strOf T)=some (ah S s):=by
 subst hT
 unfold regex_parser_ahead ah
 cases hc:s.cs with
 | nil=>simp only[hc];rw[show enc []=[] from rfl,str_nil];rfl
 | cons c r=>
   have hsc:Scal c:=ha c (by rw[hc];simp)
   obtain ⟨b,u,e,h1,h2⟩:=head_enc hsc r
   simp only[hc,e]
   rw[str_ne,sidx0]
   simp only[Bool.not_false,if_true,Option.bind_some]
   unfold strings_IndexByte stringslite_IndexByte
   simp only[Option.bind_some]
   rw[hS.ib b]
   rcases Nat.lt_or_ge c 128 with h | h
   ·rw[(h1 h).1,ofNat_toNat' h]
   ·have hb:=h2 h
    have f1:S.contains b.toNat=false:=Bool.eq_false_iff.2 fun e=>by have:=hS.low _ (by simpa using e);omega
    have f2:S.contains c=false:=Bool.eq_false_iff.2 fun e=>by have:=hS.low _ (by simpa using e);omega
    rw[f1,f2]
theorem next_nil (n:Nat) {s:St} (hs:s.cs=[]):regex_parser_next n (sp s)=some (.inr 1):=by
 unfold regex_parser_next
 simp only[hs]
 rfl
theorem drop_bytes {A B:List UInt8}:ssub (strOf (A++B)) (A.length:Int) (((strOf (A++B)).size:Nat):Int)=some (strOf B):=by
 rw[size_str,ssub_str (l:=A++B) (by simp) (Nat.le_refl _),List.take_length,List.drop_left]
theorem next_cons (n:Nat) {s:St} {c:Nat} {r:List Nat} (hc:Scal c) (hs:s.cs=c::r):regex_parser_next n (sp s)=some (.inl ((c:Int),sp { s with cs:=r})):=by
 unfold regex_parser_next utf8_DecodeRuneInString
 simp only[hs]
 have hl:0<(encR c).length:=by
  obtain ⟨b,u,e,_,_⟩:=head_enc hc []
  rw[enc_cons]at e
  simp only[enc,aj,List.append_nil]at e
  rw[e];simp
 have hd:(Utf8.decode (strOf (enc (c::r))) 0)=(c,(encR c).length):=by
  rw[enc_cons];exact decode_enc c hc (enc r)
 rw[if_neg (by rw[enc_cons,size_str,List.length_append];omega),hd]
 simp only[Option.bind_some]
 have hne:(((encR c).length:Int)==0)=false:=by simpa using List.ne_nil_of_length_pos hl
 rw[if_neg (by rw[hne];decide)]
 simp only[Option.bind_some,cont]
 rw[enc_cons,drop_bytes]
 simp only[Option.bind_some]
 have:c≤1114111:=by unfold Scal at hc;omega
 rw[i64_small om om]
theorem wrap_inc (k:Nat):IntKind.i64.wrap (IntKind.i64.wrap (k:Int)+1)=IntKind.i64.wrap ((k+1:Nat):Int):=by
 simp[IntKind.wrap,IntKind.signed,IntKind.bits]
 omega
theorem made_eq (n:Nat) (s:St) (p:Pc):regex_parser_made n (sp s) p.un=some (p.un,sp (made s p).2):=by
 unfold regex_parser_made
 cases p
 show some _=some _
 congr 1
 simp only[Pc.un,made]
 congr 2
 congr 1
 show IntKind.i64.wrap (IntKind.i64.wrap (s.np:Int)+1)=IntKind.i64.wrap ((s.np+1:Nat):Int)
 exact wrap_inc s.np
theorem symbol_eq (n:Nat) (s:ByteArray × Int × Int × Bool × Bool) (c:Nat):regex_parser_symbol n s (c:Int)=some (match symA c with | some d=>.inl (d:Int) | none=>.inr 1):=by
 unfold regex_parser_symbol symA
 by_cases h1:c=110
 ·subst h1;rfl
 rw[if_neg oss,if_neg h1]
 by_cases h2:c=116
 ·subst h2;rfl
 rw[if_neg oss,if_neg h2]
 by_cases h3:128≤c∨c<33∨c=127∨(48≤c∧c≤57)∨(65≤c∧c≤90)∨(97≤c∧c≤122)
 ·rw[if_pos h3,if_pos]
  ·rfl
  ·simp only[ge_iff_le,Bool.or_eq_true,decide_eq_true_eq,beq_iff_eq,Bool.ite_eq_true_distrib,Bool.and_eq_true]
   split<;>split<;>omega
 ·rw[if_neg h3,if_neg]
  ·rfl
  ·simp only[ge_iff_le,Bool.or_eq_true,decide_eq_true_eq,beq_iff_eq,Bool.ite_eq_true_distrib,Bool.and_eq_true]
   split<;>split<;>omega
theorem named_eq (n:Nat) (c:Nat):regex_named n (c:Int)=some (namedA c):=by
 unfold regex_named namedA
 by_cases h1:c=100
 ·subst h1;rfl
 rw[if_neg oss,if_neg h1]
 by_cases h2:c=119
 ·subst h2;rfl
 rw[if_neg oss,if_neg h2]
 by_cases h3:c=115
 ·subst h3;rfl
 rw[if_neg oss,if_neg h3]
end Go.Gv.X
namespace Go.Gv.X
open Go Go.Gv Go.Gv.D Go.Gv.R Go.Gv.P Go.Lib
set_option maxRecDepth 100000
/-! Own work: the parser's small functions on what is left (2). -/
abbrev PSt:=ByteArray × Int × Int × Bool × Bool
def outD {α β:Type} (f:α→β):((α × St) ⊕ Unit)→((β × PSt) ⊕ Int)
 | .inl x=>.inl (f x.1,sp x.2)
 | .inr _=>.inr 1
theorem enc_dg:∀ (t:List Nat),(∀ c∈t,dgN c=true)→enc t=bs t
 | [],_=>rfl
 | c::t,h=>by
   have hc:=h c (by simp)
   simp only[dgN,Bool.and_eq_true,decide_eq_true_eq]at hc
   rw[enc_cons,encR1 om,enc_dg t fun x hx=>h x (ad _ hx)]
   rfl
theorem twN_dg (l:List Nat):∀ c∈twN l,dgN c=true:=fun c hc=>List.all_eq_true.1 (List.all_takeWhile (p:=dgN) (l:=l)) c hc
theorem digits_eq (n:Nat) {s:St} (ha:All s) (hl:s.cs.length≤1000):regex_parser_digits n (sp s)=(digitsA s).map (outD id):=by
 obtain ⟨e1,e2⟩:=tw_enc ha
 have hb:=enc_dg _ (twN_dg s.cs)
 have hL:(enc s.cs).length≤4000:=Nat.le_trans (enc_len_le s.cs) om
 have hk:=tw_len (enc s.cs)
 have ht:=tw_take (enc s.cs)
 have hd:=tw_drop (enc s.cs)
 have hkl:(tw (enc s.cs)).length=(twN s.cs).length:=by rw[e1,hb,bs_len]
 unfold regex_parser_digits
 rw[show strings_TrimLeft n (sp s).1 (strOf [48,49,50,51,52,53,54,55,56,57])=_ from trim_dg n (enc s.cs)]
 simp only[Option.bind_some]
 rw[show IntKind.i64.wrap (((sp s).1.size:Int)-((strOf (dw (enc s.cs))).size:Int))=(((twN s.cs).length:Nat):Int) by
  show IntKind.i64.wrap (((strOf (enc s.cs)).size:Int)-_)=_
  rw[size_str,size_str,← hkl,i64_small om om];omega]
 have h0:ssub (sp s).1 0 (((twN s.cs).length:Nat):Int)=some (strOf (tw (enc s.cs))):=by
  have:=ssub_str (l:=enc s.cs) (i:=0) (j:=(twN s.cs).length) (Nat.zero_le _) om
  rw[List.drop_zero]at this
  rw[show ssub (sp s).1 0 (((twN s.cs).length:Nat):Int)=_ from this,← hkl,ht]
 have h1:ssub (strOf (enc s.cs)) (((twN s.cs).length:Nat):Int) (((strOf (enc s.cs)).size:Nat):Int)=some (strOf (enc (dwN s.cs))):=by
  rw[size_str]
  have:=ssub_str (l:=enc s.cs) (i:=(twN s.cs).length) (j:=(enc s.cs).length) om (Nat.le_refl _)
  rw[List.take_length]at this
  rw[this,← hkl,hd,e2]
 rw[h0]
 simp only[Option.bind_some]
 have hv:valD (twN s.cs)=valN 0 (tw (enc s.cs)):=by unfold valD;rw[e1]
 cases hw:twN s.cs with
 | nil=>
   have hA:digitsA s=er:=by unfold digitsA;rw[if_pos (.inl hw)]
   rw[hA]
   rfl
 | cons c t=>
   have hc:dgN c=true:=twN_dg s.cs c (by rw[hw];simp)
   have hc':48≤c∧c≤57:=by simpa [dgN] using hc
   have hne:((((c::t).length:Nat):Int)==0)=false:=by simp;omega
   have hx:tw (enc s.cs)=UInt8.ofNat c::bs t:=by rw[e1,hb,hw];rfl
   rw[if_neg (by rw[hne];decide)]
   by_cases hz:1<(c::t).length∧(c::t).head? =some 48
   ·have hA:digitsA s=er:=by unfold digitsA;rw[if_pos (.inr (by rw[hw];exact hz))]
    rw[hA,if_pos (dtt om),hx,sidx0]
    have:c=48:=by simpa using hz.2
    subst this
    rfl
   ·have hj:(if decide ((((c::t).length:Nat):Int)>1)=true then (sidx (strOf (tw (enc s.cs))) 0).bind fun x21=>some (x21==48) else some false)=some false:=by
     split
     ·rename_i h
      have h:=odt h
      rw[hx,sidx0]
      simp only[Option.bind_some]
      rw[ofNat_toNat' om]
      congr 1
      rw[beq_eq_false_iff_ne]
      intro e
      exact hz ⟨om,oss⟩
     ·rfl
    rw[hj]
    simp only[Option.bind_some,ab,if_false,cont]
    rw[hw]at h1
    rw[h1]
    simp only[Option.bind_some]
    have hnt:tw (enc s.cs)≠[]:=by rw[hx];simp
    have hA:digitsA s=if valN 0 (tw (enc s.cs))>99 then ok (99,{ s with cs:=dwN s.cs,lg:=true}) else ok ((valN 0 (tw (enc s.cs)):Int),{ s with cs:=dwN s.cs}):=by
     unfold digitsA
     rw[if_neg (by rw[hw];rintro (h | h);cases h;exact hz h),hv]
    rw[hA]
    unfold strconv_Atoi
    rw[if_pos (show (strOf (tw (enc s.cs))).size≤281474976710656 by rw[size_str];omega),bytes_str]
    rcases atoi_dg (tw_dg _) hnt with e | ⟨e,e3⟩
    ·rw[e]
     simp only[Option.bind_some,ab,if_false]
     by_cases h9:valN 0 (tw (enc s.cs))>99
     ·rw[if_pos h9,dtt (show ((valN 0 (tw (enc s.cs)):Nat):Int)>99 by omega)];rfl
     ·rw[if_neg h9,dff (show ¬ ((valN 0 (tw (enc s.cs)):Nat):Int)>99 by omega)];rfl
    ·rw[e,if_pos (show valN 0 (tw (enc s.cs))>99 by omega)]
     rfl
def outB:((Option (Int × Int) × St) ⊕ Unit)→((Int × Int × Bool × PSt) ⊕ Int)
 | .inl (some b,s)=>.inl (b.1,b.2,true,sp s)
 | .inl (none,s)=>.inl (0,0,false,sp s)
 | .inr _=>.inr 1
theorem S125:St8 [125]:=st8 (by kernel_rfl) ddc
theorem digits_nn (s:St):digitsA s≠none:=by unfold digitsA;split;simp[er];split<;>simp[ok]
theorem bounds_eq (n:Nat) {s:St} (ha:All s) (hl:s.cs.length≤1000):regex_parser_bounds n (sp s)=(boundsA s).map outB:=by
 unfold regex_parser_bounds boundsA
 rw[eat_eq n ha (t:=[42]) (T:=[42]) ddc rfl]
 simp only[Option.bind_some]
 cases h1:pre [42] s.cs with
 | true=>rfl
 | false=>
 simp only[ab,if_false]
 rw[eat_eq n ha (t:=[43]) (T:=[43]) ddc rfl]
 simp only[Option.bind_some]
 cases h2:pre [43] s.cs with
 | true=>rfl
 | false=>
 simp only[ab,if_false]
 rw[eat_eq n ha (t:=[63]) (T:=[63]) ddc rfl]
 simp only[Option.bind_some]
 cases h3:pre [63] s.cs with
 | true=>rfl
 | false=>
 simp only[ab,if_false]
 rw[eat_eq n ha (t:=[123]) (T:=[123]) ddc rfl]
 simp only[Option.bind_some]
 cases h4:pre [123] s.cs with
 | false=>rfl
 | true=>
 simp only[Bool.not_true,ab,if_false,if_true]
 have ha1:All (s.skip 1):=ha.suf (skip_suf _ _)
 have hl1:=(skip_suf s 1).length_le
 rw[show (List.length [123])=1 from rfl,digits_eq n ha1 om]
 cases hd:digitsA (s.skip 1) with
 | none=>exact absurd hd (digits_nn _)
 | some x=>
 cases x with
 | inr u=>rfl
 | inl x=>
 obtain ⟨lo,s1⟩:=x
 obtain ⟨b1,_⟩:=digits_spec hd
 have ha2:All s1:=ha1.suf b1
 have hl2:=b1.length_le
 simp only[Option.map_some,outD,Option.bind_some,pcase,bd,id]
 rw[eat_eq n ha2 (t:=[44]) (T:=[44]) ddc rfl]
 simp only[Option.bind_some]
 have hi:∃ y,(if pre [44] s1.cs=true then (if ah [125] (s1.skip 1)=true then ok (-1,s1.skip 1) else digitsA (s1.skip 1)) else ok (lo,s1))=some y∧
  (if pre [44] s1.cs=true then (regex_parser_ahead n (sp (if pre [44] s1.cs=true then s1.skip 1 else s1)) (strOf [125])).bind fun r70=>(if (!r70)=true then (regex_parser_digits n (sp (if pre [44] s1.cs=true then s1.skip 1 else s1))).bind (pcase (fun r76=>some (Sum.inl (r76.1,r76.2))) (fun pn79=>some (Sum.inr (Sum.inr pn79)))) else some (Sum.inl (-1,sp (if pre [44] s1.cs=true then s1.skip 1 else s1))))
    else some (Sum.inl (lo,sp (if pre [44] s1.cs=true then s1.skip 1 else s1))))=some (match y with | .inl z=>(Sum.inl (z.1,sp z.2):(Int × PSt) ⊕ ((Int × Int × Bool × PSt) ⊕ Int)) | .inr _=>Sum.inr (Sum.inr 1))∧
  ∀ z,y= .inl z→All z.2:=by
  cases hp:pre [44] s1.cs with
  | false=>exact ⟨_,rfl,rfl,fun z e=>by cases e;exact ha2⟩
  | true=>
    simp only[if_true]
    have ha3:All (s1.skip 1):=ha2.suf (skip_suf _ _)
    have hl3:=(skip_suf s1 1).length_le
    rw[ahead_eq n ha3 (T:=[125]) S125 rfl]
    simp only[Option.bind_some]
    cases hh:ah [125] (s1.skip 1) with
    | true=>exact ⟨_,rfl,rfl,fun z e=>by cases e;exact ha3⟩
    | false=>
      simp only[Bool.not_false,ab,if_true,if_false]
      rw[digits_eq n ha3 om]
      cases hd:digitsA (s1.skip 1) with
      | none=>exact absurd hd (digits_nn _)
      | some x=>
        cases x with
        | inr u=>exact ⟨_,rfl,rfl,fun z e=>by cases e⟩
        | inl x=>
          obtain ⟨b1,_⟩:=digits_spec hd
          exact ⟨_,rfl,rfl,fun z e=>by cases e;exact ha3.suf b1⟩
 obtain ⟨y,y1,y2,y3⟩:=hi
 rw[y1]
 refine (congrArg (fun o=>Option.bind o _) y2).trans ?_
 cases y with
 | inr u=>rfl
 | inl z=>
 obtain ⟨hi,s2⟩:=z
 simp only[Option.bind_some,cont]
 rw[eat_eq n (y3 _ rfl) (t:=[125]) (T:=[125]) ddc rfl]
 simp only[Option.bind_some]
 cases h5:pre [125] s2.cs with
 | false=>rfl
 | true=>
 simp only[Bool.not_true,ab,if_false,if_true,Option.bind_some]
 show _=some (outB (.inl (some (lo,hi),{ s2.skip 1 with lg:=s2.lg||(decide (0≤hi)&&decide (hi<lo))})))
 obtain ⟨cs2,np2,ng2,lg2,ls2⟩:=s2
 cases lg2 with
 | true=>rfl
 | false=>
   by_cases h6:0≤hi
   ·simp only[ge_iff_le,h6,decide_true,Bool.false_or,Bool.true_and,cont,if_true,ab,if_false,Option.bind_some,outB,St.skip];rfl
   ·simp only[ge_iff_le,h6,decide_false,Bool.false_or,Bool.false_and,cont,ab,if_false,Option.bind_some,outB,St.skip];rfl
end Go.Gv.X
