import Derived.Test.YtjhfmibjphdanaaGreatDoorXU
import Derived.Test.YtjhfmibjphdanaaGreatDoorGpo
set_option linter.all false
open Go.Gv.Tot renaming bindq→aa,ret→ab,if_→ac,it→ad
namespace Go.Gv.X
open Go Go.Gv Go.Gv.D Go.Gv.R Go.Gv.P Go.Lib
set_option maxRecDepth 100000
/-! Own work: what the program's and the second reader's outer functions give. -/
def tl (p:Pc):Nat:=(enc (txt p)).length
def chkV (p:Pc):Int × Int:=match scanL 0 0 (preP p) with
 | .inl x=>(x.1,(x.2:Int))
 | .inr _=>if 200<tl p then (3, -1) else (0,0)
def okP (p:Pc):Prop:=∃ g',chkL 0 (preP p)=some g'∧sizeP p≤60∧tl p≤200
theorem chk_le9:∀ (l:List Pc) (g g':Nat),chkL g l=some g'→g≤9→g'≤9
 | [],g,g',h,hg=>by cases h;exact hg
 | q::l,g,g',h,hg=>by
   rw[chkL]at h
   cases hn:nodeC g q.un with
   | inl e=>rw[hn]at h;cases h
   | inr g1=>
     rw[hn]at h
     refine chk_le9 l g1 g' h ?_
     unfold nodeC at hn
     split at hn;cases hn
     split at hn;cases hn
     split at hn;cases hn
     split at hn
     ·split at hn<;>cases hn
      omega
     ·split at hn<;>cases hn
      exact hg
theorem scan_ok {p:Pc} {x:Nat × Nat} (h:scanL 0 0 (preP p)= .inr x):chkL 0 (preP p)=some x.2∧sizeP p≤60:=by
 obtain ⟨h1,h2,h3⟩:=(scan_chk _ 0 0 x.1 x.2 ddc).1 h
 rw[pre_len]at h2
 exact ⟨h1,om⟩
theorem ok_scan {p:Pc} {g':Nat} (h:chkL 0 (preP p)=some g') (hz:sizeP p≤60):scanL 0 0 (preP p)= .inr (sizeP p,g'):=
 (scan_chk _ 0 0 _ _ ddc).2 ⟨h,by rw[pre_len];omega,hz⟩
theorem chkV_ok {p:Pc} (h:okP p):chkV p=(0,0):=by
 obtain ⟨g',h1,h2,h3⟩:=h
 unfold chkV
 rw[ok_scan h1 h2]
 simp only
 rw[if_neg om]
theorem chkV_cases (p:Pc):(okP p∧chkV p=(0,0))∨(¬ okP p∧(chkV p).1≠0):=by
 cases hs:scanL 0 0 (preP p) with
 | inl x=>
   have hv:chkV p=(x.1,(x.2:Int)):=by unfold chkV;rw[hs]
   refine .inr ⟨fun ⟨g',h1,h2,_⟩=>?_,by rw[hv];exact (scan_err _ _ _ _ _ hs).1⟩
   rw[ok_scan h1 h2]at hs
   cases hs
 | inr x=>
   obtain ⟨h1,h2⟩:=scan_ok hs
   by_cases h3:tl p≤200
   ·exact .inl ⟨⟨x.2,h1,h2,h3⟩,chkV_ok ⟨x.2,h1,h2,h3⟩⟩
   ·have hv:chkV p=(3, -1):=by unfold chkV;rw[hs];simp only;rw[if_pos om]
    exact .inr ⟨fun ⟨_,_,_,h⟩=>h3 h,by rw[hv];simp⟩
theorem Check_tot {p:Pc} (hb:BdL (preP p)):Tot (fun n=>regex_Check n p.un) (· =chkV p):=by
 unfold regex_Check
 refine aa (look_p p 0 0 hb ddc (Nat.le_refl _)) fun r hr=>?_
 unfold lookQ at hr
 unfold chkV
 cases hs:scanL 0 0 (preP p) with
 | inl x=>
   rw[hs]at hr
   obtain ⟨h1,h2⟩:=hr
   obtain ⟨h3,h4⟩:=scan_err _ _ _ _ _ hs
   have h4:=h4 ddc
   refine ad (by rw[h1];simpa using h3) (Tot.bind0 (a:=(x.1,(x.2:Int))) ?_ (ab rfl))
   show some (r.1,IntKind.i64.wrap (r.2.1-1))=some (x.1,(x.2:Int))
   rw[h1,h2,i64_small om om]
   congr 2
   omega
 | inr x=>
   rw[hs]at hr
   have hr:r=(0,((x.1:Int),(x.2:Int))):=hr
   subst hr
   obtain ⟨h1,h2⟩:=scan_ok hs
   refine ac rfl (aa (text_p p 0 x.2 h1 om) fun a e=>?_)
   subst e
   rw[size_str]
   simp only
   by_cases h3:200<tl p
   ·rw[if_pos h3]
    exact ad (dtt (by unfold tl at h3;omega)) (ab rfl)
   ·rw[if_neg h3]
    exact ac (dff (by unfold tl at h3;omega)) (ab rfl)
theorem Fault_tot {p:Pc} (hb:BdL (preP p)):Tot (fun n=>ref4_PieceFault n p.un) (· =chkV p):=by
 unfold ref4_PieceFault
 refine aa (pre_p p [] hb ddc) fun a e=>?_
 subst e
 rw[List.nil_append]
 have hl:=fau_lt (r14:=(preP p).take 61) (by rw[List.length_take];omega) (fun q hq=>hb q (List.mem_of_mem_take hq)) ((preP p).take 61) [] 0 rfl (Nat.le_refl _)
 refine aa (LT.tot (F:=fauF ((preP p).take 61)) hl) fun y hy=>?_
 unfold fauQ at hy
 rw[show ([]:List Pc).length=0 from rfl,show (61:Nat)=61-0 from rfl,scan_take _ 0 0 ddc]at hy
 unfold chkV
 cases hs:scanL 0 0 (preP p) with
 | inl x=>
   rw[hs]at hy
   have hy:y= .inr (x.1,(x.2:Int)):=hy
   subst hy
   exact ab rfl
 | inr x=>
   rw[hs]at hy
   have hy:y= .inl (0,0):=hy
   subst hy
   obtain ⟨h1,h2⟩:=scan_ok hs
   refine aa (ptext_p p 0 x.2 h1 om) fun a e=>?_
   subst e
   rw[size_str]
   simp only
   by_cases h3:200<tl p
   ·rw[if_pos h3]
    exact ad (dtt (by unfold tl at h3;omega)) (ab rfl)
   ·rw[if_neg h3]
    exact ac (dff (by unfold tl at h3;omega)) (ab rfl)
theorem Print_ok {p:Pc} (hb:BdL (preP p)) (h:okP p):Tot (fun n=>regex_Print n p.un) (· =(strOf (enc (txt p)),((0:Int),(0:Int)))):=by
 obtain ⟨g',h1,h2,h3⟩:=id h
 unfold regex_Print
 refine aa (Check_tot hb) fun a e=>?_
 subst e
 rw[chkV_ok h]
 refine ac rfl (aa (text_p p 0 g' h1 om) fun a e=>?_)
 subst e
 exact ab rfl
theorem Print_bad {p:Pc} (hb:BdL (preP p)) (h:(chkV p).1≠0):Tot (fun n=>regex_Print n p.un) (· =(strOf [],chkV p)):=by
 unfold regex_Print
 refine aa (Check_tot hb) fun a e=>?_
 subst e
 exact ad (by simpa using h) (ab rfl)
theorem Groups_ok {p:Pc} (hb:BdL (preP p)) (h:okP p):Tot (fun n=>regex_Groups n p.un) (· =((cnt (preP p):Int),((0:Int),(0:Int)))):=by
 obtain ⟨g',h1,h2,h3⟩:=id h
 unfold regex_Groups
 refine aa (Check_tot hb) fun a e=>?_
 subst e
 rw[chkV_ok h]
 refine ac rfl (aa (groups_p p 0 g' h1 om) fun a e=>?_)
 subst e
 exact ab rfl
theorem Groups_bad {p:Pc} (hb:BdL (preP p)) (h:(chkV p).1≠0):Tot (fun n=>regex_Groups n p.un) (· =((0:Int),chkV p)):=by
 unfold regex_Groups
 refine aa (Check_tot hb) fun a e=>?_
 subst e
 exact ad (by simpa using h) (ab rfl)
def zeroT:PTu:=(0,0,0,false,false,[],[])
/-- what reading gives -/
def pv (r:(Pc × St) ⊕ Unit):PTu × (Int × Int):=match r with
 | .inr _=>(zeroT,(1, -1))
 | .inl (p,s)=>if s.cs≠[] then (zeroT,(1, -1)) else if s.lg=true then (zeroT,(4, -1)) else if 60<s.np∨9<s.ng then (zeroT,(2, -1)) else
   if s.ls=true then (zeroT,(12, -1)) else if 200<tl p then (zeroT,(3, -1)) else (p.un,(0,0))
def s0 (cs:List Nat):St:=⟨cs,0,0,false,false⟩
theorem read_facts {cs:List Nat} (ha:∀ c∈cs,Scal c) (hl:cs.length≤200) {k:Nat} {p:Pc} {s:St} (h:altsA k (s0 cs)=some (.inl (p,s))):
 s.np=sizeP p∧s.np≤500∧s.ng≤300∧s.cs <:+ cs∧(s.lg=false→s.ls=false→s.ng≤9→chkL 0 (preP p)=some s.ng):=by
 have hA:=(read_ok k).1 (s0 cs) (p,s) ha h
 have h1:=hA.inv.np
 have h2:=hA.sz
 have h3:=hA.inv.gl
 have h4:(s0 cs).cs.length=cs.length:=rfl
 simp only at h1 h2 h3
 rw[sizeL_one]at h1
 have h5:(s0 cs).np=0:=rfl
 have h6:(s0 cs).ng=0:=rfl
 refine ⟨om,om,om,hA.inv.cs,fun e1 e2 e3=>?_⟩
 have:=hA.inv.ck e1 e2 e3
 rwa [preL_one]at this
theorem Parse_tot {cs:List Nat} (ha:∀ c∈cs,Scal c) (hl:(enc cs).length≤200) {k:Nat} {r:(Pc × St) ⊕ Unit} (h:altsA k (s0 cs)=some r):Tot (fun n=>regex_Parse n (strOf (enc cs))) (· =pv r):=by
 have hlen:=enc_len_ge cs
 have hg:Gd (s0 cs):=⟨ha,show cs.length≤1000 by omega,show 0+cs.length≤100000 by omega⟩
 unfold regex_Parse
 rw[size_str]
 refine Tot.some_bind (ac (dff om) ?_)
 refine aa (ValidString_tot (by rw[size_str];omega)) fun a e=>?_
 subst e
 rw[bytes_str,valid_enc cs ha]
 refine ac rfl (aa ((read_tot k).1 (s0 cs) r hg h) fun a e=>?_)
 subst e
 cases r with
 | inr u=>exact ab rfl
 | inl x=>
   obtain ⟨p,s⟩:=x
   obtain ⟨f1,f2,f3,f4,f5⟩:=read_facts ha om h
   unfold pv
   simp only[outD,pcase]
   have hnp:IntKind.i64.wrap (s.np:Int)=(s.np:Int):=i64_small om om
   cases hcs:s.cs with
   | cons c t=>
     rw[if_pos (show (c::t)≠[] by simp)]
     have hsc:Scal c:=ha c (f4.subset (by rw[hcs];simp))
     refine aa (P:=(· = .inr (zeroT,((1:Int),(-1:Int))))) (ad (by rw[str_enc hsc];rfl) (ab rfl)) fun a e=>?_
     subst e
     exact ab rfl
   | nil=>
     rw[if_neg (show ¬ (([]:List Nat)≠[]) by simp)]
     have hne:(!((strOf (enc [])).toList==(strOf []).toList))=false:=by rw[show strOf (enc [])=strOf [] from rfl,str_nil];rfl
     cases hlg:s.lg with
     | true=>
       rw[if_pos (rfl:true=true)]
       refine aa (P:=(· = .inr (zeroT,((4:Int),(-1:Int))))) (ac hne (ad rfl (ab rfl))) fun a e=>?_
       subst e
       exact ab rfl
     | false=>
       rw[if_neg (show ¬ (false=true) by decide)]
       have hj:Tot (fun _=>if decide (IntKind.i64.wrap (s.np:Int)>60)=true then some true else some (decide ((s.ng:Int)>9))) (· =decide (60<s.np∨9<s.ng)):=by
        rw[hnp]
        by_cases h6:60<s.np
        ·refine ad (dtt om) (ab ?_)
         symm;exact dtt (.inl h6)
        ·refine ac (dff om) (ab ?_)
         rw[Bool.eq_iff_iff];simp only[decide_eq_true_eq];omega
       by_cases h6:60<s.np∨9<s.ng
       ·rw[if_pos h6]
        refine aa (P:=(· = .inr (zeroT,((2:Int),(-1:Int))))) (ac hne (ac rfl (aa hj fun a e=>?_))) fun a e=>?_
        ·subst e
         exact ad (dtt h6) (ab rfl)
        ·subst e
         exact ab rfl
       ·rw[if_neg h6]
        cases hls:s.ls with
        | true=>
          rw[if_pos (rfl:true=true)]
          refine aa (P:=(· = .inr (zeroT,((12:Int),(-1:Int))))) (ac hne (ac rfl (aa hj fun a e=>?_))) fun a e=>?_
          ·subst e
           exact ac (dff h6) (ad rfl (ab rfl))
          ·subst e
           exact ab rfl
        | false=>
          rw[if_neg (show ¬ (false=true) by decide)]
          have hck:=f5 hlg hls om
          have ht:=text_p p 0 s.ng hck om
          by_cases h7:200<tl p
          ·rw[if_pos h7]
           refine aa (P:=(· = .inr (zeroT,((3:Int),(-1:Int))))) (ac hne (ac rfl (aa hj fun a e=>?_))) fun a e=>?_
           ·subst e
            refine ac (dff h6) (ac rfl (aa ht fun a e=>?_))
            subst e
            rw[size_str]
            exact Tot.some_bind (ad (dtt (by unfold tl at h7;omega)) (ab rfl))
           ·subst e
            exact ab rfl
          ·rw[if_neg h7]
           refine aa (P:=(· = .inl (p.un,((0:Int),(0:Int))))) (ac hne (ac rfl (aa hj fun a e=>?_))) fun a e=>?_
           ·subst e
            refine ac (dff h6) (ac rfl (aa ht fun a e=>?_))
            subst e
            rw[size_str]
            exact Tot.some_bind (ac (dff (by unfold tl at h7;omega)) (ab rfl))
           ·subst e
            exact ab rfl
end Go.Gv.X
namespace Go.Gv.X
open Go Go.Gv Go.Gv.D Go.Gv.R Go.Gv.P Go.Lib
set_option maxRecDepth 100000
/-! Own work: the three laws of regular expressions. -/
def Sc (l:List Nat):Prop:=∀ c∈l,Scal c
theorem Sc.app {a b:List Nat} (h:Sc a) (h':Sc b):Sc (a++b):=fun c hc=>(List.mem_append.1 hc).elim (h c) (h' c)
theorem Sc.low {a:List Nat} (h:a.all (fun c=>decide (c<128))=true):Sc a:=fun c hc=>by
 have:=List.all_eq_true.1 h c hc
 exact .inl (by have:=odt this;omega)
theorem Sc.spell {c:Int} (h:scal c=true) (S:List Nat):Sc (spellN c S):=by
 obtain ⟨m,rfl,hm,h3,_⟩:=scal_nat2 h
 unfold spellN
 split
 ·exact Sc.low ddc
 split
 ·exact Sc.low ddc
 rw[h3]
 split
 ·intro c hc
  rcases List.mem_cons.1 hc with rfl | hc
  ·exact .inl om
  ·have:c=m:=by simpa using hc
   rw[this];exact hm
 ·intro c hc
  have:c=m:=by simpa using hc
  rw[this];exact hm
theorem Sc.dec {v:Int} (h0:0≤v) (h1:v≤99):Sc (decN v):=fun c hc=>by
 have:=(dec_ok h0 h1).1 c hc
 simp only[dgN,Bool.and_eq_true,decide_eq_true_eq]at this
 exact .inl om
theorem Sc.cons {c:Nat} {l:List Nat} (h:c<128) (h':Sc l):Sc (c::l):=fun d hd=>by
 rcases List.mem_cons.1 hd with rfl | hd
 ·exact .inl om
 ·exact h' d hd
theorem Sc.nil:Sc []:=fun c hc=>by cases hc
theorem Sc.rng {rs:List (Int × Int)} (h:∀ r∈rs,scal r.1=true∧scal r.2=true):Sc (rs.flatMap rngN):=fun c hc=>by
 obtain ⟨r,hr,hc⟩:=List.mem_flatMap.1 hc
 obtain ⟨h1,h2⟩:=h r hr
 unfold rngN at hc
 refine (Sc.app (Sc.spell h1 IC) ?_) c hc
 split
 ·exact Sc.cons ddc (Sc.spell h2 IC)
 ·exact Sc.nil
theorem Sc.tms {lo hi:Int} (h0:0≤lo) (h1:lo≤99) (h2: -1≤hi) (h3:hi≤99):Sc (tmsN lo hi):=by
 unfold tmsN
 split;exact Sc.low ddc
 split;exact Sc.low ddc
 split;exact Sc.low ddc
 split;exact Sc.cons ddc (Sc.app (Sc.dec h0 h1) (Sc.low ddc))
 split;exact Sc.cons ddc (Sc.app (Sc.dec h0 h1) (Sc.low ddc))
 exact Sc.cons ddc (Sc.app (Sc.dec h0 h1) (Sc.cons ddc (Sc.app (Sc.dec om h3) (Sc.low ddc))))
mutual
theorem txt_sc:∀ (p:Pc) (g g':Nat),chkL g (preP p)=some g'→Sc (txt p)
 | .mk k lo hi no lz rs subs,g,g',h=>by
   obtain ⟨g1,hn,hs⟩:=preL_node h
   have ih:=txtL_sc subs g1 g' hs
   rw[txt_node]
   rcases node_inv hn with ⟨rfl,hsc,rfl,rfl,rfl,rfl,rfl,rfl⟩ | ⟨hk,rfl,rfl,rfl,rfl,rfl,rfl,rfl⟩ | ⟨rfl,rfl,rfl,rfl,hor,hne,rfl,rfl⟩ | ⟨rfl,rfl,rfl,rfl,rfl,rfl,rfl⟩ | ⟨rfl,rfl,rfl,rfl,rfl,hl,hg⟩ | ⟨rfl,rfl,rfl,rfl,rfl,rfl,hl,hkin,rfl⟩ | ⟨rfl,rfl,rfl,rfl,rfl,rfl,hl,hkin,rfl⟩ | ⟨rfl,rfl,rfl,hl,hkin,hr,rfl⟩ | ⟨rfl,rfl,rfl,rfl,rfl,hl,rfl⟩ | ⟨rfl,hlo,hlg,rfl,rfl,rfl,rfl,rfl,rfl⟩
   ·exact Sc.spell hsc SP
   ·rcases hk with rfl | rfl | rfl<;>exact Sc.low ddc
   ·show Sc (clsN no rs)
    unfold clsN
    refine Sc.cons ddc (Sc.app ?_ (Sc.app (Sc.rng (of_ord hor).2) (Sc.low ddc)))
    split
    ·exact Sc.low ddc
    ·exact Sc.nil
   ·show Sc (if no then [92,66] else [92,98])
    split<;>exact Sc.low ddc
   ·obtain ⟨q,rfl⟩:=len_one hl
    show Sc ((if lo=0 then [40,63,58] else [40])++((txtL [q]).headD []++[41]))
    rw[txtL]
    refine Sc.app (by split<;>exact Sc.low ddc) (Sc.app (ih (txt q) (by simp[txtL])) (Sc.low ddc))
   ·show Sc (txtL subs).flatten
    intro c hc
    obtain ⟨t,ht,hc⟩:=List.mem_flatten.1 hc
    exact ih t ht c hc
   ·show Sc (interN (txtL subs))
    cases hs':txtL subs with
    | nil=>exact Sc.nil
    | cons t ts=>
      rw[hs']at ih
      rw[interN]
      refine Sc.app (ih t (List.mem_cons_self ..)) fun c hc=>?_
      obtain ⟨u,hu,hc⟩:=List.mem_flatMap.1 hc
      exact Sc.cons ddc (ih u (List.mem_cons_of_mem _ hu)) c hc
   ·obtain ⟨q,rfl⟩:=len_one hl
    show Sc ((txtL [q]).headD []++(tmsN lo hi++if lz then [63] else []))
    rw[txtL]
    refine Sc.app (ih (txt q) (by simp[txtL])) (Sc.app (Sc.tms hr.1 hr.2.1 hr.2.2.1 hr.2.2.2.1) ?_)
    split
    ·exact Sc.low ddc
    ·exact Sc.nil
   ·obtain ⟨q,rfl⟩:=len_one hl
    show Sc ((if no then [40,63,33] else [40,63,61])++((txtL [q]).headD []++[41]))
    rw[txtL]
    refine Sc.app (by split<;>exact Sc.low ddc) (Sc.app (ih (txt q) (by simp[txtL])) (Sc.low ddc))
   ·exact Sc.cons ddc (Sc.dec (v:=lo) om om)
theorem txtL_sc:∀ (l:List Pc) (g g':Nat),chkL g (preL l)=some g'→∀ t∈txtL l,Sc t
 | [],_,_,_,t,ht=>by rw[txtL]at ht;cases ht
 | p::l,g,g',h,t,ht=>by
   rw[preL]at h
   obtain ⟨g1,h1,h2⟩:=chk_split h
   rw[txtL]at ht
   rcases List.mem_cons.1 ht with rfl | ht
   ·exact txt_sc p g g1 h1
   ·exact txtL_sc l g1 g' h2 t ht
end
theorem pv_inl {p:Pc} {s:St} (h1:s.cs=[]) (h2:s.lg=false) (h3:¬ (60<s.np∨9<s.ng)) (h4:s.ls=false) (h5:tl p≤200):pv (.inl (p,s))=(p.un,((0:Int),(0:Int))):=by
 unfold pv
 simp only
 rw[if_neg (not_not_intro h1),if_neg (by rw[h2];decide),if_neg h3,if_neg (by rw[h4];decide),if_neg om]
/-- what is printed is parsed as the piece -/
theorem reparse {p:Pc} (h:okP p):Tot (fun n=>regex_Parse n (strOf (enc (txt p)))) (· =(p.un,((0:Int),(0:Int)))):=by
 obtain ⟨g',h1,h2,h3⟩:=h
 have hsc:=txt_sc p 0 g' h1
 have hal:=(rt p 0 g' h1).al (s0 (txt p)) [] (by rw[List.append_nil];rfl) rfl (fun c hc=>by cases hc)
 obtain ⟨k,hk⟩:=Tot.some hal
 refine (Parse_tot hsc h3 hk).mono fun a e=>?_
 rw[e]
 have h9:=chk_le9 _ _ _ h1 ddc
 exact pv_inl rfl rfl (show ¬ (60<0+sizeP p∨9<g') by omega) rfl h3
theorem bd_ok' {p:Pc} (h:okP p):BdL (preP p):=by
 obtain ⟨g',h1,h2,_⟩:=h
 exact bd_of_chk h1 om
def exS:List Nat:=[91,99,45,101,97,98,93,43,63]
def exP:Pc:=.mk 10 1 (-1) false true [] [.mk 3 0 0 false false [(97,101)] []]
theorem ex_read:altsA 60 (s0 exS)=some (.inl (exP,⟨[],2,0,false,false⟩)):=by kernel_rfl
theorem ex_chk:chkL 0 (preP exP)=some 0:=by kernel_rfl
theorem ex_txt:enc (txt exP)=[91,97,45,101,93,43,63]:=by kernel_rfl
theorem ex_ok:okP exP:=⟨0,ex_chk,by rw[show sizeP exP=2 by kernel_rfl];decide,by unfold tl;rw[ex_txt];decide⟩
theorem expressions_tot:Tot (fun n=>law4_expressions n) (· =true):=by
 unfold law4_expressions
 have h1:=Parse_tot (cs:=exS) (Sc.low ddc) (by rw[show (enc exS).length=9 by kernel_rfl];decide) ex_read
 have h2:pv (.inl (exP,⟨[],2,0,false,false⟩))=(exP.un,((0:Int),(0:Int))):=pv_inl rfl rfl ddc rfl (by unfold tl;rw[ex_txt];decide)
 rw[h2]at h1
 have hb:=bd_ok' ex_ok
 refine aa (P:=(· =(exP.un,((0:Int),(0:Int))))) h1 fun a e=>?_
 subst e
 refine aa (Print_ok hb ex_ok) fun a e=>?_
 subst e
 refine aa (Groups_ok hb ex_ok) fun a e=>?_
 subst e
 rw[ex_txt]
 have hc:cnt (preP exP)=0:=by kernel_rfl
 rw[hc]
 refine aa (P:=(· =true)) ?_ fun a e=>ab e
 refine ad rfl (ad rfl (ad rfl (ad rfl (ad ?_ (ad rfl (ab rfl))))))
 rw[str_eq]
 exact dtt rfl
theorem prints_tot (p:Pc) (hb:BdL (preP p)):Tot (fun n=>law4_RegexPrints n p.un) (· =true):=by
 unfold law4_RegexPrints
 rcases chkV_cases p with ⟨hok,hv⟩ | ⟨hno,hv⟩
 ·refine aa (Print_ok hb hok) fun a e=>?_
  subst e
  refine aa (Groups_ok hb hok) fun a e=>?_
  subst e
  refine aa (Fault_tot hb) fun a e=>?_
  subst e
  rw[hv]
  refine aa (P:=(· =false)) (aa expressions_tot fun a e=>?_) fun a e=>?_
  ·subst e
   refine ac rfl (aa (Check_tot hb) fun a e=>?_)
   subst e
   rw[hv]
   exact ac rfl (ac rfl (ab rfl))
  ·subst e
   refine ac rfl (ac rfl (aa (reparse hok) fun a e=>?_))
   subst e
   obtain ⟨g',h1,h2,h3⟩:=hok
   refine aa (P:=(· =true)) (aa (ptext_p p 0 g' h1 om) fun a e=>?_) fun a e=>ab e
   subst e
   refine ad (by rw[str_eq];exact dtt rfl) (aa (GroupsOf_tot hb h2) fun a e=>?_)
   subst e
   exact ad (by simp) (ad rfl (aa (same_p p hb) fun a e=>ab e))
 ·refine aa (Print_bad hb hv) fun a e=>?_
  subst e
  refine aa (Groups_bad hb hv) fun a e=>?_
  subst e
  refine aa (Fault_tot hb) fun a e=>?_
  subst e
  refine aa (P:=(· =false)) (aa expressions_tot fun a e=>?_) fun a e=>?_
  ·subst e
   refine ac rfl (aa (Check_tot hb) fun a e=>?_)
   subst e
   exact ac (by simp) (ac (by simp) (ab (by simp)))
  ·subst e
   refine ac rfl (ad (by simpa using hv) (ab ?_))
   rw[str_nil]
   rfl
end Go.Gv.X
namespace Go.Gv.X
open Go Go.Gv Go.Gv.D Go.Gv.R Go.Gv.P Go.Lib
set_option maxRecDepth 100000
/-! Own work: the third law of regular expressions. -/
end Go.Gv.X
namespace Go.Gv.X
open Go Go.Gv Go.Gv.D Go.Gv.R Go.Gv.P Go.Lib
set_option maxRecDepth 100000
/-! Own work: the law of printing, for an argument that was read. -/
theorem mPc_pos (p:Pc):0<mPc p:=by cases p;rw[mPc];omega
theorem mPcL_len:∀ l:List Pc,l.length≤mPcL l
 | []=>Nat.zero_le _
 | p::l=>by have:=mPcL_len l;have:=mPc_pos p;rw[mPcL,List.length_cons];omega
mutual
theorem bd_m:∀ (p:Pc),mPc p≤2000000→BdL (preP p)
 | .mk k lo hi no lz rs subs,h=>by
   rw[mPc]at h
   rw[pre_eq]
   intro q hq
   rcases List.mem_cons.1 hq with rfl | hq
   ·have:=mPcL_len subs
    exact ⟨show rs.length≤BigL by unfold BigL;omega,show subs.length≤BigL by unfold BigL;omega⟩
   ·exact bd_mL subs om q hq
theorem bd_mL:∀ (l:List Pc),mPcL l≤2000000→BdL (preL l)
 | [],_=>fun q hq=>by rw[preL]at hq;cases hq
 | p::l,h=>fun q hq=>by
   rw[mPcL]at h
   rw[preL]at hq
   rcases List.mem_append.1 hq with h1 | h1
   ·exact bd_m p om q h1
   ·exact bd_mL l om q h1
end
theorem RegexPrints_said (p:PcT) (_:inK .i64 p.1∧inK .i64 p.2.1∧inK .i64 p.2.2.1∧True∧True∧((∀ x∈p.2.2.2.2.2.1,(fun x=>inK .i64 x.1∧inK .i64 x.2) x)∧p.2.2.2.2.2.1.length≤maxLen)∧((∀ x∈p.2.2.2.2.2.2,(fun _=>True) x)∧p.2.2.2.2.2.2.length≤maxLen))
 (hb:1+(1+(1+(1+(1+(sumL (fun x:Int × Int=>1+1+1) p.2.2.2.2.2.1+sumL mPc p.2.2.2.2.2.2)))))+1≤1048576):Tot (fun n=>law4_RegexPrints n p) (· =true):=by
 have h1:=sum_ones p.2.2.2.2.2.1
 have h2:=mPcL_sum p.2.2.2.2.2.2
 have h3:((p.2.2.2.2.2.1.map fun _=>3).sum+1)+((p.2.2.2.2.2.2.map mPc).sum+1)≤1048576:=by
  have:sumL (fun x:Int × Int=>1+1+1) p.2.2.2.2.2.1=(p.2.2.2.2.2.1.map fun _=>3).sum+1:=rfl
  have:sumL mPc p.2.2.2.2.2.2=(p.2.2.2.2.2.2.map mPc).sum+1:=rfl
  omega
 have h4:mPc (Pc.of p)=1+p.2.2.2.2.2.1.length+mPcL p.2.2.2.2.2.2:=by
  show mPc (.mk _ _ _ _ _ _ _)=_
  rw[mPc]
 have:=prints_tot (Pc.of p) (bd_m _ om)
 exact this
end Go.Gv.X
