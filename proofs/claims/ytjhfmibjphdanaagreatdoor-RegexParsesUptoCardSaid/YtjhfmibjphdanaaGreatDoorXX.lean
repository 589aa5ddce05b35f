import Derived.Test.YtjhfmibjphdanaaGreatDoorXU
set_option linter.all false
open Go.Gv.Tot renaming bindq→aa,if_→ab,ret→ac,it→ad,some_bind→ae
namespace Go.Gv.X
open Go Go.Gv Go.Gv.D Go.Gv.R Go.Gv.P Go.Lib
set_option maxRecDepth 100000
/-! Own work: what the program's and the second reader's outer functions give. -/
def tl (p:Pc):Nat:=(enc (txt p)).length
def chkV (p:Pc):Int × Int:=match scanL 0 0 (preP p) with
 | .inl x=>(x.1,(x.2:Int))
 | .inr _=>if 200<tl p then (3, -1) else (0,0)
def okP (p:Pc):Prop:=∃ g',chkL 0 (preP p)=some g'∧sizeP p≤60∧tl p≤200
theorem scan_ok {p:Pc} {x:Nat × Nat} (h:scanL 0 0 (preP p)= .inr x):chkL 0 (preP p)=some x.2∧sizeP p≤60:=by
 obtain ⟨h1,h2,h3⟩:=(scan_chk _ 0 0 x.1 x.2 ddc).1 h
 rw[pre_len]at h2
 exact ⟨h1,om⟩
theorem ok_scan {p:Pc} {g':Nat} (h:chkL 0 (preP p)=some g') (hz:sizeP p≤60):scanL 0 0 (preP p)= .inr (sizeP p,g'):=
 (scan_chk _ 0 0 _ _ ddc).2 ⟨h,by rw[pre_len];omega,hz⟩
theorem chkV_ok {p:Pc} (h:okP p):chkV p=(0,0):=by
 obtain ⟨g',h1,h2,h3⟩:=h
 unfold chkV
 rw[ok_scan h1 h2]
 simp only
 rw[if_neg om]
theorem Check_tot {p:Pc} (hb:BdL (preP p)):Tot (fun n=>regex_Check n p.un) (· =chkV p):=by
 unfold regex_Check
 refine aa (look_p p 0 0 hb ddc (Nat.le_refl _)) fun r hr=>?_
 unfold lookQ at hr
 unfold chkV
 cases hs:scanL 0 0 (preP p) with
 | inl x=>
   rw[hs]at hr
   obtain ⟨h1,h2⟩:=hr
   obtain ⟨h3,h4⟩:=scan_err _ _ _ _ _ hs
   have h4:=h4 ddc
   refine ad (by rw[h1];simpa using h3) (Tot.bind0 (a:=(x.1,(x.2:Int))) ?_ (ac rfl))
   show some (r.1,IntKind.i64.wrap (r.2.1-1))=some (x.1,(x.2:Int))
   rw[h1,h2,i64_small om om]
   congr 2
   omega
 | inr x=>
   rw[hs]at hr
   have hr:r=(0,((x.1:Int),(x.2:Int))):=hr
   subst hr
   obtain ⟨h1,h2⟩:=scan_ok hs
   refine ab rfl (aa (text_p p 0 x.2 h1 om) fun a e=>?_)
   subst e
   rw[size_str]
   simp only
   by_cases h3:200<tl p
   ·rw[if_pos h3]
    exact ad (dtt (by unfold tl at h3;omega)) (ac rfl)
   ·rw[if_neg h3]
    exact ab (dff (by unfold tl at h3;omega)) (ac rfl)
theorem Print_ok {p:Pc} (hb:BdL (preP p)) (h:okP p):Tot (fun n=>regex_Print n p.un) (· =(strOf (enc (txt p)),((0:Int),(0:Int)))):=by
 obtain ⟨g',h1,h2,h3⟩:=id h
 unfold regex_Print
 refine aa (Check_tot hb) fun a e=>?_
 subst e
 rw[chkV_ok h]
 refine ab rfl (aa (text_p p 0 g' h1 om) fun a e=>?_)
 subst e
 exact ac rfl
theorem Groups_ok {p:Pc} (hb:BdL (preP p)) (h:okP p):Tot (fun n=>regex_Groups n p.un) (· =((cnt (preP p):Int),((0:Int),(0:Int)))):=by
 obtain ⟨g',h1,h2,h3⟩:=id h
 unfold regex_Groups
 refine aa (Check_tot hb) fun a e=>?_
 subst e
 rw[chkV_ok h]
 refine ab rfl (aa (groups_p p 0 g' h1 om) fun a e=>?_)
 subst e
 exact ac rfl
def zeroT:PTu:=(0,0,0,false,false,[],[])
/-- what reading gives -/
def pv (r:(Pc × St) ⊕ Unit):PTu × (Int × Int):=match r with
 | .inr _=>(zeroT,(1, -1))
 | .inl (p,s)=>if s.cs≠[] then (zeroT,(1, -1)) else if s.lg=true then (zeroT,(4, -1)) else if 60<s.np∨9<s.ng then (zeroT,(2, -1)) else
   if s.ls=true then (zeroT,(12, -1)) else if 200<tl p then (zeroT,(3, -1)) else (p.un,(0,0))
def s0 (cs:List Nat):St:=⟨cs,0,0,false,false⟩
theorem read_facts {cs:List Nat} (ha:∀ c∈cs,Scal c) (hl:cs.length≤200) {k:Nat} {p:Pc} {s:St} (h:altsA k (s0 cs)=some (.inl (p,s))):
 s.np=sizeP p∧s.np≤500∧s.ng≤300∧s.cs <:+ cs∧(s.lg=false→s.ls=false→s.ng≤9→chkL 0 (preP p)=some s.ng):=by
 have hA:=(read_ok k).1 (s0 cs) (p,s) ha h
 have h1:=hA.inv.np
 have h2:=hA.sz
 have h3:=hA.inv.gl
 have h4:(s0 cs).cs.length=cs.length:=rfl
 simp only at h1 h2 h3
 rw[sizeL_one]at h1
 have h5:(s0 cs).np=0:=rfl
 have h6:(s0 cs).ng=0:=rfl
 refine ⟨om,om,om,hA.inv.cs,fun e1 e2 e3=>?_⟩
 have:=hA.inv.ck e1 e2 e3
 rwa [preL_one]at this
theorem Parse_tot {cs:List Nat} (ha:∀ c∈cs,Scal c) (hl:(enc cs).length≤200) {k:Nat} {r:(Pc × St) ⊕ Unit} (h:altsA k (s0 cs)=some r):Tot (fun n=>regex_Parse n (strOf (enc cs))) (· =pv r):=by
 have hlen:=enc_len_ge cs
 have hg:Gd (s0 cs):=⟨ha,show cs.length≤1000 by omega,show 0+cs.length≤100000 by omega⟩
 unfold regex_Parse
 rw[size_str]
 refine ae (ab (dff om) ?_)
 refine aa (ValidString_tot (by rw[size_str];omega)) fun a e=>?_
 subst e
 rw[bytes_str,valid_enc cs ha]
 refine ab rfl (aa ((read_tot k).1 (s0 cs) r hg h) fun a e=>?_)
 subst e
 cases r with
 | inr u=>exact ac rfl
 | inl x=>
   obtain ⟨p,s⟩:=x
   obtain ⟨f1,f2,f3,f4,f5⟩:=read_facts ha om h
   unfold pv
   simp only[outD,pcase]
   have hnp:IntKind.i64.wrap (s.np:Int)=(s.np:Int):=i64_small om om
   cases hcs:s.cs with
   | cons c t=>
     rw[if_pos (show (c::t)≠[] by simp)]
     have hsc:Scal c:=ha c (f4.subset (by rw[hcs];simp))
     refine aa (P:=(· = .inr (zeroT,((1:Int),(-1:Int))))) (ad (by rw[str_enc hsc];rfl) (ac rfl)) fun a e=>?_
     subst e
     exact ac rfl
   | nil=>
     rw[if_neg (show ¬ (([]:List Nat)≠[]) by simp)]
     have hne:(!((strOf (enc [])).toList==(strOf []).toList))=false:=by rw[show strOf (enc [])=strOf [] from rfl,str_nil];rfl
     cases hlg:s.lg with
     | true=>
       rw[if_pos (rfl:true=true)]
       refine aa (P:=(· = .inr (zeroT,((4:Int),(-1:Int))))) (ab hne (ad rfl (ac rfl))) fun a e=>?_
       subst e
       exact ac rfl
     | false=>
       rw[if_neg (show ¬ (false=true) by decide)]
       have hj:Tot (fun _=>if decide (IntKind.i64.wrap (s.np:Int)>60)=true then some true else some (decide ((s.ng:Int)>9))) (· =decide (60<s.np∨9<s.ng)):=by
        rw[hnp]
        by_cases h6:60<s.np
        ·refine ad (dtt om) (ac ?_)
         symm;exact dtt (.inl h6)
        ·refine ab (dff om) (ac ?_)
         rw[Bool.eq_iff_iff];simp only[decide_eq_true_eq];omega
       by_cases h6:60<s.np∨9<s.ng
       ·rw[if_pos h6]
        refine aa (P:=(· = .inr (zeroT,((2:Int),(-1:Int))))) (ab hne (ab rfl (aa hj fun a e=>?_))) fun a e=>?_
        ·subst e
         exact ad (dtt h6) (ac rfl)
        ·subst e
         exact ac rfl
       ·rw[if_neg h6]
        cases hls:s.ls with
        | true=>
          rw[if_pos (rfl:true=true)]
          refine aa (P:=(· = .inr (zeroT,((12:Int),(-1:Int))))) (ab hne (ab rfl (aa hj fun a e=>?_))) fun a e=>?_
          ·subst e
           exact ab (dff h6) (ad rfl (ac rfl))
          ·subst e
           exact ac rfl
        | false=>
          rw[if_neg (show ¬ (false=true) by decide)]
          have hck:=f5 hlg hls om
          have ht:=text_p p 0 s.ng hck om
          by_cases h7:200<tl p
          ·rw[if_pos h7]
           refine aa (P:=(· = .inr (zeroT,((3:Int),(-1:Int))))) (ab hne (ab rfl (aa hj fun a e=>?_))) fun a e=>?_
           ·subst e
            refine ab (dff h6) (ab rfl (aa ht fun a e=>?_))
            subst e
            rw[size_str]
            exact ae (ad (dtt (by unfold tl at h7;omega)) (ac rfl))
           ·subst e
            exact ac rfl
          ·rw[if_neg h7]
           refine aa (P:=(· = .inl (p.un,((0:Int),(0:Int))))) (ab hne (ab rfl (aa hj fun a e=>?_))) fun a e=>?_
           ·subst e
            refine ab (dff h6) (ab rfl (aa ht fun a e=>?_))
            subst e
            rw[size_str]
            exact ae (ab (dff (by unfold tl at h7;omega)) (ac rfl))
           ·subst e
            exact ac rfl
theorem Scanned_tot {cs:List Nat} (ha:∀ c∈cs,Scal c) (hl:(enc cs).length≤200) {k:Nat} {r:(Pc × St) ⊕ Unit} (h:altsA k (s0 cs)=some r):Tot (fun n=>ref4_Scanned n (strOf (enc cs))) (· =pv r):=by
 have hlen:=enc_len_ge cs
 have hg:Gd (s0 cs):=⟨ha,show cs.length≤1000 by omega,show 0+cs.length≤100000 by omega⟩
 unfold ref4_Scanned
 rw[size_str]
 refine ab (dff om) ?_
 refine aa (P:=(· =(ints cs,true))) ((Points_tot (by rw[size_str];omega)).mono fun r hr=>?_) fun a e=>?_
 ·rw[bytes_str]at hr
  rcases hr with ⟨h1,_⟩ | ⟨q,h1,h2,h3⟩
  ·rw[valid_enc cs ha]at h1;cases h1
  ·rw[h3,enc_inj ha h1 h2]
 subst e
 have hr:=(read_ref (L:=cs) om k).1 (s0 cs) r hg (List.suffix_refl _) h
 have hst:rp cs false (s0 cs)=(ints cs,(0:Int),(0:Int),(0:Int),false,false,false):=by
  show (ints cs,((cs.length-cs.length:Nat):Int),_,_,_,_,_)=_
  rw[Nat.sub_self]
  rfl
 rw[hst]at hr
 refine ab rfl (aa hr fun x hx=>?_)
 obtain ⟨q,st⟩:=x
 have errf:∀ c:Int,c≠0→Tot (fun n=>if (c !=0)=true then (ref4_At n c (-1)).bind fun r235=>(some (((0,0,0,false,false,([]:List (Int × Int)),([]:List Pc)),(r235.1,r235.2))):Option (PTu × (Int × Int))) else some ((q.1,q.2.1,q.2.2.1,q.2.2.2.1,q.2.2.2.2.1,q.2.2.2.2.2.1,q.2.2.2.2.2.2),(0,0))) (· =(zeroT,(c, -1))):=fun c hc=>ad (by simpa using hc) (ac rfl)
 cases r with
 | inr u=>
   obtain ⟨s'',h1,h2⟩:=hx
   simp only at h2
   subst h2
   refine aa (P:=(· =true)) (ad rfl (ac rfl)) fun a e=>?_
   subst e
   refine aa (P:=(· =1)) (ad rfl (ac rfl)) fun a e=>?_
   subst e
   exact errf 1 ddc
 | inl x=>
   obtain ⟨p,s⟩:=x
   obtain ⟨h1,h2,h3⟩:=hx
   simp only at h1 h2 h3
   subst h1
   obtain ⟨f1,f2,f3,f4,f5⟩:=read_facts ha om h
   have hnp:IntKind.i64.wrap (s.np:Int)=(s.np:Int):=i64_small om om
   have hle:=f4.length_le
   unfold pv
   simp only
   refine aa (P:=(· =decide (s.cs≠[]))) (ab rfl (ae (ac ?_))) fun a e=>?_
   ·rw[ints_len,Bool.eq_iff_iff,decide_eq_true_iff,decide_eq_true_iff,← List.length_pos_iff]
    omega
   ·subst e
    by_cases hcs:s.cs=[]
    ·rw[dff (not_not_intro hcs),if_neg (not_not_intro hcs)]
     cases hlg:s.lg with
     | true=>
       rw[if_pos (rfl:true=true)]
       refine aa (P:=(· =4)) (ab rfl (ad rfl (ac rfl))) fun a e=>?_
       subst e
       exact errf 4 ddc
     | false=>
       rw[if_neg (show ¬ (false=true) by decide)]
       have hj:Tot (fun _=>if decide (IntKind.i64.wrap (s.np:Int)>60)=true then some true else some (decide ((s.ng:Int)>9))) (· =decide (60<s.np∨9<s.ng)):=by
        rw[hnp]
        by_cases h6:60<s.np
        ·refine ad (dtt om) (ac ?_)
         symm;exact dtt (.inl h6)
        ·refine ab (dff om) (ac ?_)
         rw[Bool.eq_iff_iff];simp only[decide_eq_true_eq];omega
       by_cases h6:60<s.np∨9<s.ng
       ·rw[if_pos h6]
        refine aa (P:=(· =2)) (ab rfl (ab rfl (aa hj fun a e=>?_))) fun a e=>?_
        ·subst e
         exact ad (dtt h6) (ac rfl)
        ·subst e
         exact errf 2 ddc
       ·rw[if_neg h6]
        cases hls:s.ls with
        | true=>
          rw[if_pos (rfl:true=true)]
          refine aa (P:=(· =12)) (ab rfl (ab rfl (aa hj fun a e=>?_))) fun a e=>?_
          ·subst e
           exact ab (dff h6) (ad rfl (ac rfl))
          ·subst e
           exact errf 12 ddc
        | false=>
          rw[if_neg (show ¬ (false=true) by decide)]
          have hck:=f5 hlg hls om
          have hq:q=p.un:=h3 hlg
          subst hq
          have ht:=ptext_p p 0 s.ng hck om
          by_cases h7:200<tl p
          ·rw[if_pos h7]
           refine aa (P:=(· =3)) (ab rfl (ab rfl (aa hj fun a e=>?_))) fun a e=>?_
           ·subst e
            refine ab (dff h6) (ab rfl (aa ht fun a e=>?_))
            subst e
            rw[size_str]
            exact ae (ad (dtt (by unfold tl at h7;omega)) (ac rfl))
           ·subst e
            exact errf 3 ddc
          ·rw[if_neg h7]
           refine aa (P:=(· =0)) (ab rfl (ab rfl (aa hj fun a e=>?_))) fun a e=>?_
           ·subst e
            refine ab (dff h6) (ab rfl (aa ht fun a e=>?_))
            subst e
            rw[size_str]
            exact ae (ab (dff (by unfold tl at h7;omega)) (ac rfl))
           ·subst e
            exact ab rfl (ac rfl)
    ·rw[dtt hcs,if_pos hcs]
     refine aa (P:=(· =1)) (ad rfl (ac rfl)) fun a e=>?_
     subst e
     exact errf 1 ddc
end Go.Gv.X
namespace Go.Gv.X
open Go Go.Gv Go.Gv.D Go.Gv.R Go.Gv.P Go.Lib
set_option maxRecDepth 100000
/-! Own work: the three laws of regular expressions. -/
def Sc (l:List Nat):Prop:=∀ c∈l,Scal c
theorem Sc.app {a b:List Nat} (h:Sc a) (h':Sc b):Sc (a++b):=fun c hc=>(List.mem_append.1 hc).elim (h c) (h' c)
theorem Sc.low {a:List Nat} (h:a.all (fun c=>decide (c<128))=true):Sc a:=fun c hc=>by
 have:=List.all_eq_true.1 h c hc
 exact .inl (by have:=odt this;omega)
theorem Sc.spell {c:Int} (h:scal c=true) (S:List Nat):Sc (spellN c S):=by
 obtain ⟨m,rfl,hm,h3,_⟩:=scal_nat2 h
 unfold spellN
 split
 ·exact Sc.low ddc
 split
 ·exact Sc.low ddc
 rw[h3]
 split
 ·intro c hc
  rcases List.mem_cons.1 hc with rfl | hc
  ·exact .inl om
  ·have:c=m:=by simpa using hc
   rw[this];exact hm
 ·intro c hc
  have:c=m:=by simpa using hc
  rw[this];exact hm
theorem Sc.cons {c:Nat} {l:List Nat} (h:c<128) (h':Sc l):Sc (c::l):=fun d hd=>by
 rcases List.mem_cons.1 hd with rfl | hd
 ·exact .inl om
 ·exact h' d hd
theorem Sc.nil:Sc []:=fun c hc=>by cases hc
theorem Sc.rng {rs:List (Int × Int)} (h:∀ r∈rs,scal r.1=true∧scal r.2=true):Sc (rs.flatMap rngN):=fun c hc=>by
 obtain ⟨r,hr,hc⟩:=List.mem_flatMap.1 hc
 obtain ⟨h1,h2⟩:=h r hr
 unfold rngN at hc
 refine (Sc.app (Sc.spell h1 IC) ?_) c hc
 split
 ·exact Sc.cons ddc (Sc.spell h2 IC)
 ·exact Sc.nil
theorem pv_inl {p:Pc} {s:St} (h1:s.cs=[]) (h2:s.lg=false) (h3:¬ (60<s.np∨9<s.ng)) (h4:s.ls=false) (h5:tl p≤200):pv (.inl (p,s))=(p.un,((0:Int),(0:Int))):=by
 unfold pv
 simp only
 rw[if_neg (not_not_intro h1),if_neg (by rw[h2];decide),if_neg h3,if_neg (by rw[h4];decide),if_neg om]
/-- what a reading gives -/
theorem pv_cases {cs:List Nat} (ha:∀ c∈cs,Scal c) (hl:cs.length≤200) {k:Nat} {r:(Pc × St) ⊕ Unit} (h:altsA k (s0 cs)=some r):
 (∃ p,okP p∧pv r=(p.un,((0:Int),(0:Int))))∨(∃ c:Int,c≠0∧pv r=(zeroT,(c,(-1:Int)))):=by
 cases r with
 | inr u=>exact .inr ⟨1,ddc,rfl⟩
 | inl x=>
   obtain ⟨p,s⟩:=x
   obtain ⟨f1,f2,f3,f4,f5⟩:=read_facts ha hl h
   unfold pv
   simp only
   by_cases h1:s.cs≠[]
   ·exact .inr ⟨1,ddc,by rw[if_pos h1]⟩
   rw[if_neg h1]
   by_cases h2:s.lg=true
   ·exact .inr ⟨4,ddc,by rw[if_pos h2]⟩
   rw[if_neg h2]
   by_cases h3:60<s.np∨9<s.ng
   ·exact .inr ⟨2,ddc,by rw[if_pos h3]⟩
   rw[if_neg h3]
   by_cases h4:s.ls=true
   ·exact .inr ⟨12,ddc,by rw[if_pos h4]⟩
   rw[if_neg h4]
   by_cases h5:200<tl p
   ·exact .inr ⟨3,ddc,by rw[if_pos h5]⟩
   rw[if_neg h5]
   exact .inl ⟨p,⟨s.ng,f5 (Bool.eq_false_iff.2 h2) (Bool.eq_false_iff.2 h4) om,om,om⟩,rfl⟩
theorem bd_ok' {p:Pc} (h:okP p):BdL (preP p):=by
 obtain ⟨g',h1,h2,_⟩:=h
 exact bd_of_chk h1 om
def zeroP:Pc:=.mk 0 0 0 false false [] []
theorem bd_zero:BdL (preP zeroP):=fun q hq=>by
 have:q=zeroP:=by
  unfold zeroP at hq
  rw[pre_eq,preL]at hq
  exact List.mem_singleton.1 hq
 subst this
 exact ⟨Nat.zero_le _,Nat.zero_le _⟩
/-- what any text is read as, by both readers -/
theorem both (s:ByteArray) (hs:s.size≤1048576):∃ v:PTu × (Int × Int),Tot (fun n=>regex_Parse n s) (· =v)∧Tot (fun n=>ref4_Scanned n s) (· =v)∧((∃ p,okP p∧v=(p.un,((0:Int),(0:Int))))∨(∃ c:Int,c≠0∧v=(zeroT,(c,(-1:Int))))):=by
 by_cases h1:200<s.size
 ·refine ⟨(zeroT,(3, -1)),?_,?_,.inr ⟨3,ddc,rfl⟩⟩
  ·unfold regex_Parse
   exact ae (ad (dtt om) (ac rfl))
  ·unfold ref4_Scanned
   exact ad (dtt om) (ac rfl)
 cases hv:validD (bytesOf s) with
 | false=>
   refine ⟨(zeroT,(6, -1)),?_,?_,.inr ⟨6,ddc,rfl⟩⟩
   ·unfold regex_Parse
    refine ae (ab (dff om) (aa (ValidString_tot om) fun a e=>?_))
    subst e
    rw[hv]
    exact ad rfl (ac rfl)
   ·unfold ref4_Scanned
    refine ab (dff om) (aa (P:=(· =([],false))) ((Points_tot om).mono fun r hr=>?_) fun a e=>?_)
    ·rcases hr with ⟨_,h⟩ | ⟨q,h1,h2,_⟩
     ·exact h
     ·rw[h2,valid_enc q h1]at hv;cases hv
    ·subst e
     exact ad rfl (ac rfl)
 | true=>
   obtain ⟨cs,hcs,he⟩:=valid_iff hv
   have hse:s=strOf (enc cs):=by rw[← he,str_bytes]
   have hsz:(enc cs).length≤200:=by rw[hse,size_str]at h1;omega
   have hlen:=enc_len_ge cs
   obtain ⟨r,N,hN⟩:=alts_TT (s:=s0 cs) hcs
   have hk:=hN N (Nat.le_refl _)
   refine ⟨pv r,?_,?_,pv_cases hcs om hk⟩
   ·rw[hse];exact Parse_tot hcs hsz hk
   ·rw[hse];exact Scanned_tot hcs hsz hk
def exS:List Nat:=[91,99,45,101,97,98,93,43,63]
def exP:Pc:=.mk 10 1 (-1) false true [] [.mk 3 0 0 false false [(97,101)] []]
theorem ex_read:altsA 60 (s0 exS)=some (.inl (exP,⟨[],2,0,false,false⟩)):=by kernel_rfl
theorem ex_chk:chkL 0 (preP exP)=some 0:=by kernel_rfl
theorem ex_txt:enc (txt exP)=[91,97,45,101,93,43,63]:=by kernel_rfl
theorem ex_ok:okP exP:=⟨0,ex_chk,by rw[show sizeP exP=2 by kernel_rfl];decide,by unfold tl;rw[ex_txt];decide⟩
theorem expressions_tot:Tot (fun n=>law4_expressions n) (· =true):=by
 unfold law4_expressions
 have h1:=Parse_tot (cs:=exS) (Sc.low ddc) (by rw[show (enc exS).length=9 by kernel_rfl];decide) ex_read
 have h2:pv (.inl (exP,⟨[],2,0,false,false⟩))=(exP.un,((0:Int),(0:Int))):=pv_inl rfl rfl ddc rfl (by unfold tl;rw[ex_txt];decide)
 rw[h2]at h1
 have hb:=bd_ok' ex_ok
 refine aa (P:=(· =(exP.un,((0:Int),(0:Int))))) h1 fun a e=>?_
 subst e
 refine aa (Print_ok hb ex_ok) fun a e=>?_
 subst e
 refine aa (Groups_ok hb ex_ok) fun a e=>?_
 subst e
 rw[ex_txt]
 have hc:cnt (preP exP)=0:=by kernel_rfl
 rw[hc]
 refine aa (P:=(· =true)) ?_ fun a e=>ac e
 refine ad rfl (ad rfl (ad rfl (ad rfl (ad ?_ (ad rfl (ac rfl))))))
 rw[str_eq]
 exact dtt rfl
theorem parses_tot (s:ByteArray) (hs:s.size≤1048576):Tot (fun n=>law4_RegexParses n s) (· =true):=by
 obtain ⟨v,h1,h2,h3⟩:=both s hs
 unfold law4_RegexParses
 refine aa h1 fun a e=>?_
 subst e
 refine aa h2 fun a2 e=>?_
 subst e
 refine aa (P:=(· =true)) (aa expressions_tot fun a3 e=>?_) fun a e=>ac e
 subst e
 refine ad rfl (ad (by simp) ?_)
 rcases h3 with ⟨p,hp,rfl⟩ | ⟨c,hc,rfl⟩
 ·refine aa (same_p p (bd_ok' hp)) fun a e=>?_
  subst e
  refine ad rfl (ab rfl (aa (Check_tot (bd_ok' hp)) fun a e=>ac ?_))
  rw[e,chkV_ok hp]
  rfl
 ·refine aa (same_p zeroP bd_zero) fun a e=>?_
  subst e
  exact ad rfl (ad (by simpa using hc) (ac rfl))
end Go.Gv.X
namespace Go.Gv.X
open Go Go.Gv Go.Gv.D Go.Gv.R Go.Gv.P Go.Lib
set_option maxRecDepth 100000
/-! Own work: the third law of regular expressions. -/
theorem RegexParses_said (s:ByteArray) (_:s.size≤maxLen) (hb:s.size+1≤1048576):Tot (fun n=>law4_RegexParses n s) (· =true):=parses_tot s om
end Go.Gv.X
