import Derived.Test.YtjhfmibjphdanaaGreatDoorXO
set_option linter.all false
open Go.Gv.Tot renaming ret→aa,bindq→ab,if_→ae,it→ag,bind0→al
open List renaming length_cons→ac,length_append→ad,append_nil→aj,append_assoc→ak
open Bool renaming false_eq_true→af,eq_iff_iff→ai
namespace Go.Gv.X
open Go Go.Gv Go.Gv.D Go.Gv.R Go.Gv.P Go.Lib
set_option maxRecDepth 100000
/-! Own work: what is asked of all pieces. -/
/-- own name for the loop body 0 of regex_survey_look -/
noncomputable def lookF (subs:List Pc) (fuel:Nat) (s138:(Int × (Int × Int))):Option ((Int × (Int × Int)) ⊕ ((Int × Int) ⊕ (Int × (Int × Int)))):=
 (if (decide (s138.1<((List.length subs:Nat):Int))) then (Option.bind (idx subs s138.1) fun x144=>(Option.bind (regex_survey_look fuel (s138.2.1,s138.2.2) ((Pc.un x144).1,(Pc.un x144).2.1,(Pc.un x144).2.2.1,(Pc.un x144).2.2.2.1,(Pc.un x144).2.2.2.2.1,(Pc.un x144).2.2.2.2.2.1,(Pc.un x144).2.2.2.2.2.2)) fun r164=>(if (r164.1 !=0) then (some (.inr (.inr ((r164.1,(r164.2.1,r164.2.2)))))) else (some (.inl ((IntKind.i64.wrap (s138.1+1)),(r164.2.1,r164.2.2))))))) else (some (.inr (.inl (s138.2.1,s138.2.2)))))
def scanL:Nat→Nat→List Pc→(Int × Nat) ⊕ (Nat × Nat)
 | c,g,[]=>.inr (c,g)
 | c,g,q::l=>if 60≤c then .inl (2,c) else match nodeC g q.un with
   | .inl e=>.inl (e,c)
   | .inr g'=>scanL (c+1) g' l
theorem scanL_app:∀ (a b:List Pc) (c g:Nat),scanL c g (a++b)=match scanL c g a with | .inl e=>.inl e | .inr x=>scanL x.1 x.2 b
 | [],b,c,g=>rfl
 | q::a,b,c,g=>by
   rw[List.cons_append,scanL,scanL]
   split
   ·rfl
   ·cases nodeC g q.un with
    | inl e=>rfl
    | inr g'=>exact scanL_app a b (c+1) g'
theorem node_le {g g':Nat} {x:PcT} (h:nodeC g x= .inr g'):g'≤g+1∧g≤g':=by
 unfold nodeC at h
 split at h;cases h
 split at h;cases h
 split at h;cases h
 split at h
 ·split at h<;>cases h
  exact ⟨om,om⟩
 ·split at h<;>cases h
  exact ⟨om,om⟩
theorem node_err {g:Nat} {x:PcT} {e:Int} (h:nodeC g x= .inl e):e≠0:=by
 unfold nodeC at h
 split at h;cases h;omega
 split at h;cases h;omega
 split at h;cases h;omega
 split at h
 ·split at h<;>cases h;omega
 ·split at h<;>cases h;omega
theorem scan_le:∀ (l:List Pc) (c g c' g':Nat),scanL c g l= .inr (c',g')→c≤60→g≤c→c'≤60∧g'≤c'
 | [],c,g,c',g',h,h1,h2=>by cases h;exact ⟨h1,h2⟩
 | q::l,c,g,c',g',h,h1,h2=>by
   rw[scanL]at h
   split at h
   ·cases h
   ·cases hn:nodeC g q.un with
    | inl e=>rw[hn]at h;cases h
    | inr g1=>
      rw[hn]at h
      have:=node_le hn
      exact scan_le l (c+1) g1 c' g' h om om
theorem scan_err:∀ (l:List Pc) (c g:Nat) (e:Int) (i:Nat),scanL c g l= .inl (e,i)→e≠0∧(c≤60→i≤60)
 | [],c,g,e,i,h=>by cases h
 | q::l,c,g,e,i,h=>by
   rw[scanL]at h
   split at h
   ·cases h;exact ⟨om,fun h=>h⟩
   ·cases hn:nodeC g q.un with
    | inl e'=>rw[hn]at h;cases h;exact ⟨node_err hn,fun h=>h⟩
    | inr g1=>
      rw[hn]at h
      obtain ⟨h1,h2⟩:=scan_err l (c+1) g1 e i h
      exact ⟨h1,fun h=>h2 om⟩
theorem scan_chk:∀ (l:List Pc) (c g c' g':Nat),c≤60→(scanL c g l= .inr (c',g')↔chkL g l=some g'∧c'=c+l.length∧c'≤60)
 | [],c,g,c',g',h=>by
   rw[scanL,chkL]
   constructor
   ·intro h';cases h';exact ⟨rfl,rfl,h⟩
   ·rintro ⟨h1,h2,h3⟩;cases h1;rw[h2];rfl
 | q::l,c,g,c',g',h=>by
   rw[scanL,chkL]
   by_cases h6:60≤c
   ·rw[if_pos h6]
    constructor
    ·intro h';cases h'
    ·rintro ⟨_,h2,h3⟩
     rw[ac]at h2
     omega
   ·rw[if_neg h6]
    cases hn:nodeC g q.un with
    | inl e=>
      constructor
      ·intro h';cases h'
      ·rintro ⟨h1,_⟩;cases h1
    | inr g1=>
      simp only
      rw[scan_chk l (c+1) g1 c' g' om,ac]
      constructor
      ·rintro ⟨h1,h2,h3⟩;exact ⟨h1,om,h3⟩
      ·rintro ⟨h1,h2,h3⟩;exact ⟨h1,om,h3⟩
def BdL (l:List Pc):Prop:=∀ q∈l,q.un.2.2.2.2.2.1.length≤BigL∧q.un.2.2.2.2.2.2.length≤BigL
/-- what survey.look gives -/
def lookQ (c g:Nat) (l:List Pc) (r:Int × (Int × Int)):Prop:=match scanL c g l with
 | .inr x=>r=(0,((x.1:Int),(x.2:Int)))
 | .inl x=>r.1=x.1∧r.2.1=((x.2+1:Nat):Int)
def lookL (c g:Nat) (l:List Pc) (y:(Int × Int) ⊕ (Int × (Int × Int))):Prop:=match scanL c g l with
 | .inr x=>y= .inl ((x.1:Int),(x.2:Int))
 | .inl x=>∃ r:Int × (Int × Int),y= .inr r∧r.1=x.1∧r.2.1=((x.2+1:Nat):Int)
theorem node_ok {k lo hi:Int} {no lz:Bool} {rs:List (Int × Int)} {subs:List Pc} {g:Nat} (hk:1≤k∧k≤12) (hf:(flatB (k,lo,hi,no,lz,rs,subs)&&formedB (k,lo,hi,no,lz,rs,subs))=true):
 nodeC g (k,lo,hi,no,lz,rs,subs)=if k=10∧rngB (k,lo,hi,no,lz,rs,subs)=false then .inl 4 else
  if k=7∧lo≠0 then (if lo=(g+1:Nat)∧lo≤9 then .inr (g+1) else .inl 11) else
  if k=12∧(g:Int)<lo then .inl 12 else .inr g:=by
 unfold nodeC
 rw[if_neg osm,if_neg (by rw[hf];decide)]
mutual
theorem look_p:∀ (p:Pc) (c g:Nat),BdL (preP p)→c≤60→g≤c→Tot (fun n=>regex_survey_look n ((c:Int),(g:Int)) p.un) (lookQ c g (preP p))
 | .mk k lo hi no lz rs subs,c,g,hb,hc,hg=>by
   rw[pre_eq]at hb ⊢
   have hn:=hb _ (List.mem_cons_self ..)
   have hbl:BdL (preL subs):=fun q hq=>hb q (List.mem_cons_of_mem _ hq)
   refine Tot.suc (Tot.eqf (fun n=>regex_survey_look.eq_2 ..) ?_)
   have hw:IntKind.i64.wrap ((c:Int)+1)=((c+1:Nat):Int):=by rw[i64_small om om];rfl
   have hwg:IntKind.i64.wrap ((g:Int)+1)=((g+1:Nat):Int):=by rw[i64_small om om];rfl
   unfold lookQ
   rw[scanL]
   simp only[hw,hwg,Pc.un]
   by_cases h6:60≤c
   ·rw[if_pos h6]
    exact ag (dtt om) (aa ⟨rfl,rfl⟩)
   rw[if_neg h6]
   refine ae (dff om) ?_
   by_cases hk:1≤k∧k≤12
   ·refine ab (P:=(· =false)) (ae (dff om) (aa (dff om))) fun a e=>?_
    subst e
    refine ae rfl ?_
    refine ab (P:=(· = !(flatB (k,lo,hi,no,lz,rs,subs)&&formedB (k,lo,hi,no,lz,rs,subs)))) ?_ fun a e=>?_
    ·refine ab (flat_tot (x:=(k,lo,hi,no,lz,rs,subs)) hk) fun a e=>?_
     subst e
     cases flatB (k,lo,hi,no,lz,rs,subs) with
     | false=>exact ag rfl (aa rfl)
     | true=>exact ae rfl (ab (formed_tot (x:=(k,lo,hi,no,lz,rs,subs)) hk hn.1 hn.2) fun a e=>aa (by rw[e];rfl))
    ·subst e
     cases hf:flatB (k,lo,hi,no,lz,rs,subs)&&formedB (k,lo,hi,no,lz,rs,subs) with
     | false=>
       have:nodeC g (k,lo,hi,no,lz,rs,subs)= .inl 6:=by unfold nodeC;rw[if_neg osm,if_pos hf]
       rw[this]
       exact ag rfl (aa ⟨rfl,rfl⟩)
     | true=>
       rw[node_ok hk hf]
       refine ae rfl ?_
       refine ab (P:=(· =decide (k=10∧rngB (k,lo,hi,no,lz,rs,subs)=false))) ?_ fun a e=>?_
       ·by_cases h10:k=10
        ·subst h10
         refine ag rfl ?_
         have hr:∀ b:Bool,(b=true↔¬ (0≤lo∧lo≤99∧ -1≤hi∧hi≤99∧(hi<0∨lo≤hi)))→b=decide ((10:Int)=10∧rngB (10,lo,hi,no,lz,rs,subs)=false):=fun b hb=>by
          rw[ai,hb,decide_eq_true_iff]
          exact ⟨fun h=>⟨rfl,dff h⟩,fun h=>odf h.2⟩
         by_cases g1:lo<0
         ·exact ag (dtt g1) (aa (hr _ oss))
         refine ae (dff g1) ?_
         by_cases g2:lo>99
         ·exact ag (dtt g2) (aa (hr _ oss))
         refine ae (dff g2) ?_
         by_cases g3:hi< -1
         ·exact ag (dtt g3) (aa (hr _ oss))
         refine ae (dff g3) ?_
         by_cases g4:hi>99
         ·exact ag (dtt g4) (aa (hr _ oss))
         refine ae (dff g4) ?_
         by_cases g5:hi≥0
         ·exact ag (dtt g5) (aa (hr _ ⟨fun h=>by have h:hi<lo:=odt h;omega,fun h=>dtt (show hi<lo by omega)⟩))
         ·exact ae (dff g5) (aa (hr _ oss))
        ·refine ae (beq_eq_false_iff_ne.2 h10) (aa ?_)
         symm
         exact dff fun h=>h10 h.1
       ·subst e
        by_cases h10:k=10∧rngB (k,lo,hi,no,lz,rs,subs)=false
        ·rw[if_pos h10,dtt h10]
         exact ag rfl (aa ⟨rfl,rfl⟩)
        rw[if_neg h10,dff h10]
        refine ae rfl ?_
        have fin:∀ g':Nat,g'≤c+1→Tot (fun n=>(loopN (fun (s138:(Int × (Int × Int)))=>lookF subs n s138) n (0,(((c+1:Nat):Int),(g':Int)))).bind (cont fun (s136:(Int × Int))=>(some (0,(s136.1,s136.2)):Option (Int × (Int × Int))))) (lookQ (c+1) g' (preL subs)):=fun g' hg'=>by
         refine ab (LT.tot (F:=lookF subs) (look_l subs subs [] (c+1) g' rfl hbl hn.2 om hg')) fun y hy=>?_
         unfold lookL at hy
         unfold lookQ
         cases hs:scanL (c+1) g' (preL subs) with
         | inr x=>
           rw[hs]at hy
           have hy:y= .inl ((x.1:Int),(x.2:Int)):=hy
           subst hy
           exact aa rfl
         | inl x=>
           rw[hs]at hy
           obtain ⟨r,rfl,h1,h2⟩:=hy
           exact aa ⟨h1,h2⟩
        have fin':∀ (g':Nat) (R:Int ⊕ Nat),R= .inr g'→g'≤c+1→Tot (fun n=>(loopN (fun (s138:(Int × (Int × Int)))=>lookF subs n s138) n (0,(((c+1:Nat):Int),(g':Int)))).bind (cont fun (s136:(Int × Int))=>(some (0,(s136.1,s136.2)):Option (Int × (Int × Int))))) (fun r=>match (match R with | .inl e=>(.inl (e,c):(Int × Nat) ⊕ (Nat × Nat)) | .inr g'=>scanL (c+1) g' (preL subs)) with
         | .inr x=>r=(0,((x.1:Int),(x.2:Int)))
         | .inl x=>r.1=x.1∧r.2.1=((x.2+1:Nat):Int)):=fun g' R hR hg'=>by
         subst hR
         exact fin g' hg'
        refine ab (P:=(· =decide (k=7∧lo≠0))) ?_ fun a e=>?_
        ·by_cases h7:k=7
         ·subst h7
          refine ag rfl (aa ?_)
          rw[ai];simp
         ·refine ae (beq_eq_false_iff_ne.2 h7) (aa ?_)
          symm
          exact dff fun h=>h7 h.1
        ·subst e
         by_cases h7:k=7∧lo≠0
         ·rw[if_pos h7,dtt h7]
          by_cases h9:lo=((g+1:Nat):Int)∧lo≤9
          ·rw[if_pos h9]
           refine ab (P:=(· = .inl (((c+1:Nat):Int),((g+1:Nat):Int)))) (ag rfl (ab (P:=(· =false)) (ae (by rw[h9.1];simp) (aa (dff om))) fun a e=>by subst e;exact ae rfl (aa rfl))) fun a e=>?_
           subst e
           exact fin' (g+1) _ rfl om
          ·rw[if_neg h9]
           refine ab (P:=fun y=>∃ r:Int × (Int × Int),y= .inr r∧r.1=11∧r.2.1=((c+1:Nat):Int)) (ag rfl (ab (P:=(· =true)) ?_ fun a e=>by subst e;exact ag rfl (aa ⟨_,rfl,rfl,rfl⟩))) fun a e=>?_
           ·by_cases hl:lo=((g+1:Nat):Int)
            ·exact ae (by rw[hl];simp) (aa (dtt om))
            ·exact ag (by simpa using hl) (aa rfl)
           ·obtain ⟨r,rfl,h1,h2⟩:=e
            exact aa ⟨h1,h2⟩
         ·rw[if_neg h7,dff h7]
          by_cases h12:k=12∧(g:Int)<lo
          ·rw[if_pos h12]
           refine ab (P:=fun y=>∃ r:Int × (Int × Int),y= .inr r∧r.1=12∧r.2.1=((c+1:Nat):Int)) (ae rfl (ab (P:=(· =true)) (ag (beq_iff_eq.2 h12.1) (aa (dtt h12.2))) fun a e=>by subst e;exact ag rfl (aa ⟨_,rfl,rfl,rfl⟩))) fun a e=>?_
           obtain ⟨r,rfl,h1,h2⟩:=e
           exact aa ⟨h1,h2⟩
          ·rw[if_neg h12]
           refine ab (P:=(· = .inl (((c+1:Nat):Int),(g:Int)))) (ae rfl (ab (P:=(· =false)) ?_ fun a e=>by subst e;exact ae rfl (aa rfl))) fun a e=>?_
           ·by_cases hk12:k=12
            ·exact ag (beq_iff_eq.2 hk12) (aa (dff fun h=>h12 ⟨hk12,h⟩))
            ·exact ae (beq_eq_false_iff_ne.2 hk12) (aa rfl)
           ·subst e
            exact fin' g _ rfl om
   ·have:nodeC g (k,lo,hi,no,lz,rs,subs)= .inl 5:=by unfold nodeC;rw[if_pos osm]
    rw[this]
    refine ab (P:=(· =true)) ?_ fun a e=>by subst e;exact ag rfl (aa ⟨rfl,rfl⟩)
    by_cases h1:k<1
    ·exact ag (dtt h1) (aa rfl)
    ·exact ae (dff h1) (aa (dtt om))
theorem look_l:∀ (rest subs pre:List Pc) (c g:Nat),subs=pre++rest→BdL (preL rest)→subs.length≤BigL→c≤60→g≤c→LT (lookF subs) ((pre.length:Int),((c:Int),(g:Int))) (lookL c g (preL rest))
 | [],subs,pre,c,g,e,_,_,_,_=>by
   refine LT.fin (r:=.inl ((c:Int),(g:Int))) (Tot.alln fun n=>?_) (by unfold lookL;rw[preL,scanL])
   unfold lookF
   rw[if_neg]
   rw[e,aj,dff osm];decide
 | x::rest,subs,pre,c,g,e,hb,hl,hc,hg=>by
   have hlen:=hl
   unfold BigL at hlen
   rw[e,ad,ac]at hlen
   rw[preL]at hb ⊢
   obtain ⟨r,hr,N,hN⟩:=look_p x c g (fun q hq=>hb q (List.mem_append_left _ hq)) hc hg
   have hT:Tot (fun n=>regex_survey_look n ((c:Int),(g:Int)) x.un) (· =r):=⟨r,rfl,N,hN⟩
   have hstep:Tot (fun n=>lookF subs n ((pre.length:Int),((c:Int),(g:Int)))) (· =if r.1 !=0 then .inr (.inr r) else .inl (((pre.length+1:Nat):Int),r.2)):=by
    unfold lookF
    refine ag (dtt (by simp only;rw[e,ad,ac];omega)) ?_
    refine al (show idx subs (pre.length:Int)=some x by rw[e];exact get_mid pre x rest rfl) (ab hT fun a ea=>?_)
    subst ea
    simp only[i64_small (x:=(pre.length:Int)+1) om om]
    cases (a.1 !=0) with
    | true=>exact ag rfl (aa rfl)
    | false=>exact ae rfl (aa rfl)
   unfold lookQ at hr
   unfold lookL
   rw[scanL_app]
   cases hs:scanL c g (preP x) with
   | inl z=>
     obtain ⟨e1,i1⟩:=z
     rw[hs]at hr
     have hne:=(scan_err _ _ _ _ _ hs).1
     have hr1:r.1=e1:=hr.1
     have:(r.1 !=0)=true:=by rw[hr1];simpa using hne
     rw[this]at hstep
     exact LT.fin (hstep.mono fun a ea=>ea) ⟨r,rfl,hr.1,hr.2⟩
   | inr z=>
     obtain ⟨c1,g1⟩:=z
     rw[hs]at hr
     have hr:r=(0,((c1:Int),(g1:Int))):=hr
     subst hr
     obtain ⟨h1,h2⟩:=scan_le _ _ _ _ _ hs hc hg
     have ih:=look_l rest subs (pre++[x]) c1 g1 (by rw[e];simp) (fun q hq=>hb q (List.mem_append_right _ hq)) hl h1 h2
     rw[show (((pre++[x]).length:Nat):Int)=((pre.length+1:Nat):Int) by simp]at ih
     exact LT.step (hstep.mono fun a ea=>ea) ih
end
end Go.Gv.X
namespace Go.Gv.X
open Go Go.Gv Go.Gv.D Go.Gv.R Go.Gv.P Go.Lib
set_option maxRecDepth 100000
/-! Own work: what is asked of all pieces (2). -/
end Go.Gv.X
namespace Go.Gv.X
open Go Go.Gv Go.Gv.D Go.Gv.R Go.Gv.P Go.Lib
set_option maxRecDepth 100000
/-! Own work: how a piece is written. -/
/-- own name for the loop body 0 of regex_class -/
noncomputable def clF (rs:List (Int × Int)) (fuel:Nat) (s19:(ByteArray × Int)):Option ((ByteArray × Int) ⊕ ByteArray):=
 (if (decide (s19.2<((List.length rs:Nat):Int))) then (Option.bind (idx rs s19.2) fun x24=>(Option.bind (regex_spell fuel x24.1 (strOf [92,93,94,45,91])) fun r37=>(Option.bind (cat s19.1 r37) fun x42=>(Option.bind (if (decide (x24.2>x24.1)) then (Option.bind (regex_spell fuel x24.2 (strOf [92,93,94,45,91])) fun r48=>(Option.bind (cat (strOf [45]) r48) fun x53=>(Option.bind (cat x42 x53) fun x55=>(some (x55))))) else (some (x42))) fun (j45:ByteArray)=>(some (.inl (j45,(IntKind.i64.wrap (s19.2+1))))))))) else (some (.inr (s19.1))))
/-- own name for the loop body 1 of ref4_PieceText -/
noncomputable def clRF (rs:List (Int × Int)) (fuel:Nat) (s72:(ByteArray × Int)):Option ((ByteArray × Int) ⊕ ByteArray):=
 (if (decide (s72.2<((List.length rs:Nat):Int))) then (Option.bind (idx rs s72.2) fun x82=>(Option.bind (idx rs s72.2) fun x86=>(Option.bind (ref4_written fuel x82.1 (strOf [92,93,94,45,91])) fun r89=>(Option.bind (cat s72.1 r89) fun x94=>(Option.bind (if (x82.1 !=x86.2) then (Option.bind (ref4_written fuel x86.2 (strOf [92,93,94,45,91])) fun r99=>(Option.bind (cat (strOf [45]) r99) fun x104=>(Option.bind (cat x94 x104) fun x106=>(some (x106))))) else (some (x94))) fun (j96:ByteArray)=>(some (.inl (j96,(IntKind.i64.wrap (s72.2+1)))))))))) else (some (.inr (s72.1))))
theorem scal_nat2 {c:Int} (h:scal c=true):∃ n:Nat,c=(n:Int)∧Scal n∧c.toNat=n∧n≤1114111:=by
 unfold scal at h
 simp only[decide_eq_true_eq]at h
 exact ⟨c.toNat,om,by unfold Scal;omega,rfl,om⟩
theorem encode_eq {n:Nat} (h:Scal n):Utf8.encode (n:Int)=strOf (encR n):=by
 have hn:n≤1114111:=by unfold Scal at h;omega
 have hv:Utf8.valid (n:Int)=true:=by
  unfold Scal at h
  unfold Utf8.valid
  simp
  omega
 unfold Utf8.encode
 simp only[hv,if_true,Int.toNat_natCast]
 by_cases h1:n<128
 ·rw[if_pos h1,encR1 om];rfl
 rw[if_neg h1]
 by_cases h2:n<2048
 ·rw[if_pos h2,encR2 om om];rfl
 rw[if_neg h2]
 by_cases h3:n<65536
 ·rw[if_pos h3,encR3 om om h];rfl
 ·rw[if_neg h3,encR4 om hn];rfl
theorem enc_one (n:Nat):enc [n]=encR n:=by rw[enc_cons];simp[enc]
theorem enc_two (n:Nat):enc [92,n]=92::encR n:=by rw[enc_cons,enc_one];rfl
theorem encR_len (n:Nat):(encR n).length≤4:=by rw[← enc_one];exact enc_len_le [n]
theorem SP8:St8 SP:=st8 (by kernel_rfl) ddc
theorem IC8:St8 IC:=st8 (by kernel_rfl) ddc
theorem SP9:St9 SP:=fun k=>by kernel_rfl
theorem IC9:St9 IC:=fun k=>by kernel_rfl
theorem spell_eq (n:Nat) {c:Int} (h:scal c=true) {S:List Nat} (hS:St8 S):regex_spell n c (strOf (bs S))=some (strOf (enc (spellN c S))):=by
 obtain ⟨m,rfl,hm,_,hm2⟩:=scal_nat2 h
 unfold regex_spell spellN
 by_cases h1:(m:Int)=10
 ·rw[if_pos (beq_iff_eq.2 h1),if_pos h1];rfl
 rw[if_neg (by simpa using h1),if_neg h1]
 by_cases h2:(m:Int)=9
 ·rw[if_pos (beq_iff_eq.2 h2),if_pos h2];rfl
 rw[if_neg (by simpa using h2),if_neg h2]
 have hw:IntKind.i32.wrap (m:Int)=(m:Int):=by simp[IntKind.wrap,IntKind.signed,IntKind.bits];omega
 rw[hw,encode_eq hm,Int.toNat_natCast]
 by_cases h3:m<128
 ·rw[if_pos (dtt om),u8_small om om]
  unfold strings_IndexByte stringslite_IndexByte
  simp only[Option.bind_some]
  have:=hS.ib (UInt8.ofNat m)
  rw[ofNat_toNat' h3]at this
  rw[this]
  cases hc:S.contains m with
  | true=>
    simp only[if_true]
    have e:=encR_len m
    rw[show strOf [92]=strOf ([92]:List UInt8) from rfl,cat_str oss,enc_two]
    rfl
  | false=>
    simp only[af,if_false]
    rw[enc_one]
 ·rw[if_neg (by rw[dff om];decide)]
  have:S.contains m=false:=Bool.eq_false_iff.2 fun e=>h3 (hS.low m (by simpa using e))
  rw[this]
  simp only[Option.bind_some,af,if_false]
  rw[enc_one]
theorem written_tot {c:Int} (h:scal c=true) {S:List Nat} (hS:St8 S) (h9:St9 S) {T:List UInt8} (hT:T=bs S):Tot (fun n=>ref4_written n c (strOf T)) (· =strOf (enc (spellN c S))):=by
 subst hT
 obtain ⟨m,rfl,hm,_,hm2⟩:=scal_nat2 h
 unfold ref4_written spellN
 have hst:Tot (fun n=>ref4_String n [(m:Int)]) (· =strOf (encR m)):=by
  have:=String_tot (p:=[m]) (by simpa using hm) (by simp)
  rw[enc_one]at this
  exact this
 by_cases h1:(m:Int)=10
 ·rw[if_pos h1];exact ag (beq_iff_eq.2 h1) (aa rfl)
 rw[if_neg h1]
 refine ae (beq_eq_false_iff_ne.2 h1) ?_
 by_cases h2:(m:Int)=9
 ·rw[if_pos h2];exact ag (beq_iff_eq.2 h2) (aa rfl)
 rw[if_neg h2,Int.toNat_natCast]
 refine ae (beq_eq_false_iff_ne.2 h2) (ab (P:=(· =S.contains m)) ?_ fun a e=>?_)
 ·by_cases h3:m<128
  ·refine ag (dtt om) ?_
   rw[u8_small om om]
   refine ab (P:=(· =S.contains m)) (Tot.of_all 30 (fun k=>?_) rfl) fun a e=>aa e
   exact beq_iff_eq.1 (List.all_eq_true.1 (h9 k) m (List.mem_range.2 h3))
  ·refine ae (dff om) (aa ?_)
   symm
   exact Bool.eq_false_iff.2 fun e=>h3 (hS.low m (by simpa using e))
 ·subst e
  cases S.contains m with
  | true=>
    refine ag rfl (ab hst fun a e=>?_)
    subst e
    have e:=encR_len m
    refine al (cat_str (l:=[92]) oss) (aa ?_)
    rw[if_pos rfl,enc_two]
    rfl
  | false=>
    refine ae rfl (ab hst fun a e=>aa ?_)
    rw[e,if_neg ddc,enc_one]
theorem spell_len (c:Int) (S:List Nat):(spellN c S).length≤2:=by
 unfold spellN
 split;simp
 split;simp
 split<;>simp
theorem rng_len (r:Int × Int):(rngN r).length≤5:=by
 unfold rngN
 have:=spell_len r.1 IC
 have:=spell_len r.2 IC
 rw[ad]
 split<;>simp<;>omega
theorem ord_len:∀ {l:List (Int × Int)},ordR l=true→∀ x∈l.head?,x.1+(l.length:Int)≤1114112
 | [],_,x,hx=>by cases hx
 | [y],h,x,hx=>by
   cases hx
   simp only[ordR,Bool.and_eq_true,decide_eq_true_eq]at h
   have:=scal_rng h.1
   simp;omega
 | y::z::r,h,x,hx=>by
   cases hx
   simp only[ordR,Bool.and_eq_true,decide_eq_true_eq]at h
   have:=ord_len (l:=z::r) h.2.2.2.2 z rfl
   simp only[ac]at this ⊢
   omega
theorem ord_len' {l:List (Int × Int)} (h:ordR l=true):l.length≤1114112:=by
 cases l with
 | nil=>simp
 | cons x r=>
   have h1:=ord_len h x rfl
   have h2:=scal_rng ((of_ord h).2 x (List.mem_cons_self ..)).1
   omega
theorem cat_enc {a b:List Nat} (h:a.length+b.length≤1000000000000):cat (strOf (enc a)) (strOf (enc b))=some (strOf (enc (a++b))):=by
 have h1:=enc_len_le a
 have h2:=enc_len_le b
 rw[cat_str om,enc_app]
theorem cl_lt {rs:List (Int × Int)} (hl:rs.length≤2000000) (hs:∀ r∈rs,scal r.1=true∧scal r.2=true):∀ (rest pre:List (Int × Int)) (acc:List Nat),rs=pre++rest→acc.length+5*rest.length≤100000000→
 LT (clF rs) (strOf (enc acc),(pre.length:Int)) (· =strOf (enc (acc++rest.flatMap rngN)))
 | [],pre,acc,e,_=>by
   refine LT.fin (Tot.alln fun n=>?_) (by rw[List.flatMap_nil,aj])
   unfold clF
   rw[if_neg]
   rw[e,aj,dff osm];decide
 | x::rest,pre,acc,e,ha=>by
   have hlen:=hl
   rw[e,ad,ac]at hlen
   rw[ac]at ha
   obtain ⟨s1,s2⟩:=hs x (by rw[e];simp)
   have l1:=spell_len x.1 IC
   have l2:=spell_len x.2 IC
   have hstep:∀ n,clF rs n (strOf (enc acc),(pre.length:Int))=some (.inl (strOf (enc (acc++rngN x)),((pre.length+1:Nat):Int))):=fun n=>by
    unfold clF
    rw[if_pos (dtt (by simp only;rw[e,ad,ac];omega))]
    simp only
    rw[show idx rs (pre.length:Int)=some x by rw[e];exact get_mid pre x rest rfl]
    simp only[Option.bind_some]
    rw[show strOf [92,93,94,45,91]=strOf (bs IC) from rfl,spell_eq n s1 IC8]
    simp only[Option.bind_some]
    rw[cat_enc om,i64_small (x:=(pre.length:Int)+1) om om]
    simp only[Option.bind_some]
    unfold rngN
    by_cases h:x.1<x.2
    ·rw[if_pos (dtt h),if_pos h,spell_eq n s2 IC8]
     simp only[Option.bind_some]
     rw[show strOf [45]=strOf (enc [45]) from rfl,cat_enc oss]
     simp only[Option.bind_some]
     rw[cat_enc oss]
     simp only[Option.bind_some,ak,List.singleton_append]
     rfl
    ·rw[if_neg (by rw[dff h];decide),if_neg h,aj]
     rfl
   have hr:=rng_len x
   have ih:=cl_lt hl hs rest (pre++[x]) (acc++rngN x) (by rw[e];simp) (by rw[ad];omega)
   rw[show (((pre++[x]).length:Nat):Int)=((pre.length+1:Nat):Int) by simp,ak]at ih
   rw[List.flatMap_cons]
   exact LT.step (Tot.alln hstep) ih
theorem flat_len (rs:List (Int × Int)):(rs.flatMap rngN).length≤5*rs.length:=by
 induction rs with
 | nil=>simp
 | cons x rs ih=>
   rw[List.flatMap_cons,ad,ac]
   have:=rng_len x
   omega
theorem classT_tot {k lo hi:Int} {no lz:Bool} {rs:List (Int × Int)} {subs:List Pc} (h:ordR rs=true):Tot (fun n=>regex_class n (k,lo,hi,no,lz,rs,subs)) (· =strOf (enc (clsN no rs))):=by
 have hl:=ord_len' h
 unfold regex_class
 refine ab (P:=(· =strOf (enc (91::(if no then [94] else []))))) ?_ fun a e=>?_
 ·cases no with
  | true=>exact ag rfl (al (a:=strOf [91,94]) rfl (aa rfl))
  | false=>exact ae rfl (aa rfl)
 ·subst e
  refine ab (LT.tot (F:=clF rs) (cl_lt om (of_ord h).2 rs [] (91::(if no then [94] else [])) rfl (by cases no<;>simp<;>omega))) fun a e=>?_
  subst e
  have:=flat_len rs
  refine al (cat_enc (b:=[93]) (by cases no<;>simp only[ad,ac,List.length_nil,af,if_false,if_true]<;>omega)) (aa ?_)
  unfold clsN
  simp only[List.cons_append,ak]
theorem clR_lt {rs:List (Int × Int)} (hl:rs.length≤2000000) (hs:∀ r∈rs,scal r.1=true∧scal r.2=true) (hle:∀ r∈rs,r.1≤r.2):∀ (rest pre:List (Int × Int)) (acc:List Nat),rs=pre++rest→acc.length+5*rest.length≤100000000→
 LT (clRF rs) (strOf (enc acc),(pre.length:Int)) (· =strOf (enc (acc++rest.flatMap rngN)))
 | [],pre,acc,e,_=>by
   refine LT.fin (Tot.alln fun n=>?_) (by rw[List.flatMap_nil,aj])
   unfold clRF
   rw[if_neg]
   rw[e,aj,dff osm];decide
 | x::rest,pre,acc,e,ha=>by
   have hlen:=hl
   rw[e,ad,ac]at hlen
   rw[ac]at ha
   obtain ⟨s1,s2⟩:=hs x (by rw[e];simp)
   have hxx:=hle x (by rw[e];simp)
   have l1:=spell_len x.1 IC
   have l2:=spell_len x.2 IC
   have hstep:Tot (fun n=>clRF rs n (strOf (enc acc),(pre.length:Int))) (· = .inl (strOf (enc (acc++rngN x)),((pre.length+1:Nat):Int))):=by
    unfold clRF
    have hix:idx rs (pre.length:Int)=some x:=by rw[e];exact get_mid pre x rest rfl
    refine ag (dtt (by simp only;rw[e,ad,ac];omega)) (al hix (al hix ?_))
    refine ab (written_tot s1 IC8 IC9 rfl) fun a ea=>?_
    subst ea
    refine al (cat_enc om) ?_
    simp only[i64_small (x:=(pre.length:Int)+1) om om]
    unfold rngN
    by_cases h:x.1<x.2
    ·rw[if_pos h]
     refine ab (P:=(· =strOf (enc (acc++(spellN x.1 IC++45::spellN x.2 IC))))) (ag oss (ab (written_tot s2 IC8 IC9 rfl) fun a ea=>?_)) fun a ea=>by subst ea;exact aa rfl
     subst ea
     refine al (cat_enc (a:=[45]) oss) (al (cat_enc oss) (aa ?_))
     simp only[ak,List.singleton_append]
    ·rw[if_neg h,aj]
     exact ab (P:=(· =strOf (enc (acc++spellN x.1 IC)))) (ae oss (aa rfl)) fun a ea=>by subst ea;exact aa rfl
   have hr:=rng_len x
   have ih:=clR_lt hl hs hle rest (pre++[x]) (acc++rngN x) (by rw[e];simp) (by rw[ad];omega)
   rw[show (((pre++[x]).length:Nat):Int)=((pre.length+1:Nat):Int) by simp,ak]at ih
   rw[List.flatMap_cons]
   exact LT.step hstep ih
/-! numbers -/
theorem itoa_enc:(List.range 100).all (fun n=>enc (decN (n:Int))==Lib.itoa (n:Int))=true:=by kernel_rfl
theorem dec_enc {n:Int} (h0:0≤n) (h1:n≤99):Lib.itoa n=enc (decN n):=by
 obtain ⟨m,rfl⟩:∃ m:Nat,n=m:=⟨n.toNat,om⟩
 exact (beq_iff_eq.1 (List.all_eq_true.1 itoa_enc m (List.mem_range.2 om))).symm
theorem dec_len:(List.range 100).all (fun n=>decide ((decN (n:Int)).length≤2))=true:=by kernel_rfl
theorem dec_len' {n:Int} (h0:0≤n) (h1:n≤99):(decN n).length≤2:=by
 obtain ⟨m,rfl⟩:∃ m:Nat,n=m:=⟨n.toNat,om⟩
 exact odt (List.all_eq_true.1 dec_len m (List.mem_range.2 om))
theorem Itoa_eq (n:Nat) {v:Int} (h0:0≤v) (h1:v≤99):strconv_Itoa n v=some (strOf (enc (decN v))):=by
 unfold strconv_Itoa
 rw[if_pos om,dec_enc h0 h1]
theorem decimal_all (k:Nat):(List.range 100).all (fun m=>match ref4_decimal (k+60) (m:Int) with | some b=>bytesOf b==Lib.itoa (m:Int) | none=>false)=true:=by kernel_rfl
theorem decimal_tot {v:Int} (h0:0≤v) (h1:v≤99):Tot (fun n=>ref4_decimal n v) (· =strOf (enc (decN v))):=by
 obtain ⟨m,rfl⟩:∃ m:Nat,v=m:=⟨v.toNat,om⟩
 refine Tot.of_all 60 (fun k=>?_) rfl
 have:=List.all_eq_true.1 (decimal_all k) m (List.mem_range.2 om)
 cases hd:ref4_decimal (k+60) (m:Int) with
 | none=>rw[hd]at this;cases this
 | some b=>
   rw[hd]at this
   rw[← dec_enc h0 h1,← beq_iff_eq.1 this,str_bytes]
theorem tms_len {lo hi:Int} (h0:0≤lo) (h1:lo≤99) (h2: -1≤hi) (h3:hi≤99):(tmsN lo hi).length≤7:=by
 have:=dec_len' h0 h1
 unfold tmsN
 split;simp
 split;simp
 split;simp
 split;simp;omega
 split;simp;omega
 have:=dec_len' (n:=hi) om h3
 simp;omega
theorem times_eq (n:Nat) {lo hi:Int} {no lz:Bool} {rs:List (Int × Int)} {subs:List Pc} (h0:0≤lo) (h1:lo≤99) (h2: -1≤hi) (h3:hi≤99):
 regex_times n (10,lo,hi,no,lz,rs,subs)=some (strOf (enc (tmsN lo hi++if lz then [63] else []))):=by
 have hd:=dec_len' h0 h1
 have key:∀ T:List Nat,T.length≤7→((some (strOf (enc T))).bind fun (j22:ByteArray)=>(Option.bind (if lz then (Option.bind (cat j22 (strOf [63])) fun x76=>(some (x76))) else (some (j22))) fun (j73:ByteArray)=>(some (j73))))=some (strOf (enc (T++if lz then [63] else []))):=fun T hT=>by
  cases lz with
  | true=>
    simp only[Option.bind_some,if_true]
    rw[show strOf [63]=strOf (enc [63]) from rfl,cat_enc oss]
    rfl
  | false=>simp
 have ht:=tms_len h0 h1 h2 h3
 unfold regex_times
 rw[Itoa_eq n h0 h1]
 simp only[Option.bind_some]
 rw[← key (tmsN lo hi) ht]
 have b1:(hi== -1)=decide (hi= -1):=by rw[ai];simp
 have b2:(lo==0)=decide (lo=0):=by rw[ai];simp
 have b3:(lo==1)=decide (lo=1):=by rw[ai];simp
 have b4:(hi==1)=decide (hi=1):=by rw[ai];simp
 have b5:(hi==lo)=decide (hi=lo):=by rw[ai];simp
 rw[b1,b2,b3,b4,b5]
 by_cases e1:hi= -1
 ·have e4:¬ hi=1:=by omega
  by_cases e2:lo=0
  ·rw[show tmsN lo hi=[42] by unfold tmsN;rw[if_pos ⟨e1,e2⟩]];simp[e1,e2];rfl
  ·by_cases e3:lo=1
   ·rw[show tmsN lo hi=[43] by unfold tmsN;rw[if_neg (fun h=>e2 h.2),if_pos ⟨e1,e3⟩]];simp[e1,e3];rfl
   ·rw[show tmsN lo hi=123::(decN lo++[44,125]) by unfold tmsN;rw[if_neg (fun h=>e2 h.2),if_neg (fun h=>e3 h.2),if_neg (fun h=>e2 h.1),if_pos e1]]
    simp only[e1,e2,e3,decide_true,decide_false,if_true,af,if_false,Option.bind_some]
    rw[show strOf [123]=strOf (enc [123]) from rfl,cat_enc oss]
    simp only[Option.bind_some]
    rw[show strOf [44,125]=strOf (enc [44,125]) from rfl,cat_enc oss]
    rfl
 ·by_cases e2:lo=0∧hi=1
  ·rw[show tmsN lo hi=[63] by unfold tmsN;rw[if_neg (fun h=>e1 h.1),if_neg (fun h=>e1 h.1),if_pos e2]];simp[e2.1,e2.2];rfl
  ·have hj:(if decide (lo=0)=true then some (decide (hi=1)) else some false)=some false:=by
    by_cases e3:lo=0
    ·rw[if_pos (dtt e3),dff (fun h=>e2 ⟨e3,h⟩)]
    ·rw[if_neg (by rw[dff e3];decide)]
   by_cases e5:hi=lo
   ·rw[show tmsN lo hi=123::(decN lo++[125]) by unfold tmsN;rw[if_neg (fun h=>e1 h.1),if_neg (fun h=>e1 h.1),if_neg e2,if_neg e1,if_pos e5]]
    simp only[e1,decide_false,af,if_false,Option.bind_some]
    rw[hj]
    simp only[Option.bind_some,af,if_false,e5,decide_true,if_true]
    rw[show strOf [123]=strOf (enc [123]) from rfl,cat_enc oss]
    simp only[Option.bind_some]
    rw[show strOf [125]=strOf (enc [125]) from rfl,cat_enc oss]
    rfl
   ·rw[show tmsN lo hi=123::(decN lo++44::(decN hi++[125])) by unfold tmsN;rw[if_neg (fun h=>e1 h.1),if_neg (fun h=>e1 h.1),if_neg e2,if_neg e1,if_neg e5]]
    have hd2:=dec_len' (n:=hi) om h3
    simp only[e1,decide_false,af,if_false,Option.bind_some]
    rw[hj]
    simp only[Option.bind_some,af,if_false,e5,decide_false]
    rw[show strOf [123]=strOf (enc [123]) from rfl,cat_enc oss]
    simp only[Option.bind_some]
    rw[show strOf [44]=strOf (enc [44]) from rfl,cat_enc oss,Itoa_eq n (v:=hi) om h3]
    simp only[Option.bind_some]
    rw[cat_enc oss]
    simp only[Option.bind_some]
    rw[show strOf [125]=strOf (enc [125]) from rfl,cat_enc oss]
    simp
end Go.Gv.X
