import Derived.Test.YtjhfmibjphdanaaGreatDoorXO
set_option linter.all false
open Go.Gv.Tot renaming ret→aa,bindq→ab,if_→ac,it→af,bind0→am
open List renaming length_append→ad,length_cons→ae,append_nil→ag,take_append_of_le_length→aj,append_assoc→ak,take_of_length_le→an,singleton_append→ao,length→ap
open Bool renaming false_eq_true→ai,eq_iff_iff→al
namespace Go.Gv.X
open Go Go.Gv Go.Gv.D Go.Gv.R Go.Gv.P Go.Lib
set_option maxRecDepth 100000
/-! Own work: what is asked of all pieces. -/
/-- own name for the loop body 0 of regex_survey_look -/
noncomputable def lookF (subs:List Pc) (fuel:Nat) (s138:(Int × (Int × Int))):Option ((Int × (Int × Int)) ⊕ ((Int × Int) ⊕ (Int × (Int × Int)))):=
 (if (decide (s138.1<((ap subs:Nat):Int))) then (Option.bind (idx subs s138.1) fun x144=>(Option.bind (regex_survey_look fuel (s138.2.1,s138.2.2) ((Pc.un x144).1,(Pc.un x144).2.1,(Pc.un x144).2.2.1,(Pc.un x144).2.2.2.1,(Pc.un x144).2.2.2.2.1,(Pc.un x144).2.2.2.2.2.1,(Pc.un x144).2.2.2.2.2.2)) fun r164=>(if (r164.1 !=0) then (some (.inr (.inr ((r164.1,(r164.2.1,r164.2.2)))))) else (some (.inl ((IntKind.i64.wrap (s138.1+1)),(r164.2.1,r164.2.2))))))) else (some (.inr (.inl (s138.2.1,s138.2.2)))))
/-- own name for the loop body 0 of ref4_preorder -/
noncomputable def preF (subs:List Pc) (fuel:Nat) (s61:((List Pc) × Int)):Option (((List Pc) × Int) ⊕ (List Pc)):=
 (Option.bind (if (decide (s61.2<((ap subs:Nat):Int))) then (some ((decide (((ap s61.1:Nat):Int)≤60)))) else (some (false))) fun (j76:Bool)=>(if j76 then (Option.bind (idx subs s61.2) fun x85=>(Option.bind (ref4_preorder fuel ((Pc.un x85).1,(Pc.un x85).2.1,(Pc.un x85).2.2.1,(Pc.un x85).2.2.2.1,(Pc.un x85).2.2.2.2.1,(Pc.un x85).2.2.2.2.2.1,(Pc.un x85).2.2.2.2.2.2) s61.1) fun r94=>(some (.inl (r94,(IntKind.i64.wrap (s61.2+1))))))) else (some (.inr (s61.1)))))
/-- own name for the loop body 0 of ref4_PieceFault -/
noncomputable def fauF (r14:List Pc) (fuel:Nat) (s34:(Int × Int × (Int × Int))):Option ((Int × Int × (Int × Int)) ⊕ ((Int × Int) ⊕ (Int × Int))):=
 (if (decide (s34.2.1<((ap r14:Nat):Int))) then (Option.bind (idx r14 s34.2.1) fun x45=>(if (s34.2.1==60) then (Option.bind (ref4_At fuel 2 s34.2.1) fun r65=>(some (.inr (.inr ((r65.1,r65.2)))))) else (Option.bind (if (decide ((Pc.un x45).1<1)) then (some (true)) else (some ((decide ((Pc.un x45).1>12))))) fun (j83:Bool)=>(if j83 then (Option.bind (ref4_At fuel 5 s34.2.1) fun r130=>(some (.inr (.inr ((r130.1,r130.2)))))) else (Option.bind (ref4_shaped fuel ((Pc.un x45).1,(Pc.un x45).2.1,(Pc.un x45).2.2.1,(Pc.un x45).2.2.2.1,(Pc.un x45).2.2.2.2.1,(Pc.un x45).2.2.2.2.2.1,(Pc.un x45).2.2.2.2.2.2)) fun r145=>(if (!r145) then (Option.bind (ref4_At fuel 6 s34.2.1) fun r152=>(some (.inr (.inr ((r152.1,r152.2)))))) else (Option.bind (if ((Pc.un x45).1==10) then (Option.bind (if (decide ((Pc.un x45).2.1<0)) then (some (true)) else (if (decide ((Pc.un x45).2.1>99)) then (some (true)) else (if (decide ((Pc.un x45).2.2.1>99)) then (some (true)) else (if (decide ((Pc.un x45).2.2.1<(Pc.un x45).2.1)) then (some (((Pc.un x45).2.2.1 !=(-1)))) else (some (false)))))) fun (j172:Bool)=>(if j172 then (Option.bind (ref4_At fuel 4 s34.2.1) fun r210=>(some (.inr (.inr (.inr ((r210.1,r210.2))))))) else (some (.inl (s34.1,(s34.2.2.1,s34.2.2.2)))))) else (if ((Pc.un x45).1==7) then (if ((Pc.un x45).2.1 !=0) then (Option.bind (if ((Pc.un x45).2.1 !=(IntKind.i64.wrap (s34.1+1))) then (some (true)) else (some ((decide ((IntKind.i64.wrap (s34.1+1))>9))))) fun (j227:Bool)=>(if j227 then (Option.bind (ref4_At fuel 11 s34.2.1) fun r247=>(some (.inr (.inr (.inr ((r247.1,r247.2))))))) else (some (.inl ((IntKind.i64.wrap (s34.1+1)),(s34.2.2.1,s34.2.2.2)))))) else (some (.inl (s34.1,(s34.2.2.1,s34.2.2.2))))) else (if ((Pc.un x45).1==12) then (if (decide ((Pc.un x45).2.1>s34.1)) then (Option.bind (ref4_At fuel 12 s34.2.1) fun r270=>(some (.inr (.inr (.inr ((r270.1,r270.2))))))) else (some (.inl (s34.1,(s34.2.2.1,s34.2.2.2))))) else (some (.inl (s34.1,(s34.2.2.1,s34.2.2.2))))))) (cont fun (s169:(Int × (Int × Int)))=>(some (.inl (s169.1,(IntKind.i64.wrap (s34.2.1+1)),(s169.2.1,s169.2.2)))))))))))) else (some (.inr (.inl (s34.2.2.1,s34.2.2.2)))))
def scanL:Nat→Nat→List Pc→(Int × Nat) ⊕ (Nat × Nat)
 | c,g,[]=>.inr (c,g)
 | c,g,q::l=>if 60≤c then .inl (2,c) else match nodeC g q.un with
   | .inl e=>.inl (e,c)
   | .inr g'=>scanL (c+1) g' l
theorem scanL_app:∀ (a b:List Pc) (c g:Nat),scanL c g (a++b)=match scanL c g a with | .inl e=>.inl e | .inr x=>scanL x.1 x.2 b
 | [],b,c,g=>rfl
 | q::a,b,c,g=>by
   rw[List.cons_append,scanL,scanL]
   split
   ·rfl
   ·cases nodeC g q.un with
    | inl e=>rfl
    | inr g'=>exact scanL_app a b (c+1) g'
theorem node_le {g g':Nat} {x:PcT} (h:nodeC g x= .inr g'):g'≤g+1∧g≤g':=by
 unfold nodeC at h
 split at h;cases h
 split at h;cases h
 split at h;cases h
 split at h
 ·split at h<;>cases h
  exact ⟨om,om⟩
 ·split at h<;>cases h
  exact ⟨om,om⟩
theorem node_err {g:Nat} {x:PcT} {e:Int} (h:nodeC g x= .inl e):e≠0:=by
 unfold nodeC at h
 split at h;cases h;omega
 split at h;cases h;omega
 split at h;cases h;omega
 split at h
 ·split at h<;>cases h;omega
 ·split at h<;>cases h;omega
theorem scan_le:∀ (l:List Pc) (c g c' g':Nat),scanL c g l= .inr (c',g')→c≤60→g≤c→c'≤60∧g'≤c'
 | [],c,g,c',g',h,h1,h2=>by cases h;exact ⟨h1,h2⟩
 | q::l,c,g,c',g',h,h1,h2=>by
   rw[scanL]at h
   split at h
   ·cases h
   ·cases hn:nodeC g q.un with
    | inl e=>rw[hn]at h;cases h
    | inr g1=>
      rw[hn]at h
      have:=node_le hn
      exact scan_le l (c+1) g1 c' g' h om om
theorem scan_err:∀ (l:List Pc) (c g:Nat) (e:Int) (i:Nat),scanL c g l= .inl (e,i)→e≠0∧(c≤60→i≤60)
 | [],c,g,e,i,h=>by cases h
 | q::l,c,g,e,i,h=>by
   rw[scanL]at h
   split at h
   ·cases h;exact ⟨om,fun h=>h⟩
   ·cases hn:nodeC g q.un with
    | inl e'=>rw[hn]at h;cases h;exact ⟨node_err hn,fun h=>h⟩
    | inr g1=>
      rw[hn]at h
      obtain ⟨h1,h2⟩:=scan_err l (c+1) g1 e i h
      exact ⟨h1,fun h=>h2 om⟩
theorem scan_take:∀ (l:List Pc) (c g:Nat),c≤60→scanL c g (l.take (61-c))=scanL c g l
 | [],c,g,_=>by rw[List.take_nil]
 | q::l,c,g,h=>by
   obtain ⟨m,hm⟩:∃ m,61-c=m+1:=⟨60-c,om⟩
   rw[hm,List.take_succ_cons,scanL,scanL]
   by_cases h6:60≤c
   ·rw[if_pos h6,if_pos h6]
   ·rw[if_neg h6,if_neg h6]
    cases nodeC g q.un with
    | inl e=>rfl
    | inr g'=>
      have:=scan_take l (c+1) g' om
      rw[show 61-(c+1)=m by omega]at this
      exact this
theorem scan_chk:∀ (l:List Pc) (c g c' g':Nat),c≤60→(scanL c g l= .inr (c',g')↔chkL g l=some g'∧c'=c+l.length∧c'≤60)
 | [],c,g,c',g',h=>by
   rw[scanL,chkL]
   constructor
   ·intro h';cases h';exact ⟨rfl,rfl,h⟩
   ·rintro ⟨h1,h2,h3⟩;cases h1;rw[h2];rfl
 | q::l,c,g,c',g',h=>by
   rw[scanL,chkL]
   by_cases h6:60≤c
   ·rw[if_pos h6]
    constructor
    ·intro h';cases h'
    ·rintro ⟨_,h2,h3⟩
     rw[ae]at h2
     omega
   ·rw[if_neg h6]
    cases hn:nodeC g q.un with
    | inl e=>
      constructor
      ·intro h';cases h'
      ·rintro ⟨h1,_⟩;cases h1
    | inr g1=>
      simp only
      rw[scan_chk l (c+1) g1 c' g' om,ae]
      constructor
      ·rintro ⟨h1,h2,h3⟩;exact ⟨h1,om,h3⟩
      ·rintro ⟨h1,h2,h3⟩;exact ⟨h1,om,h3⟩
def BdL (l:List Pc):Prop:=∀ q∈l,q.un.2.2.2.2.2.1.length≤BigL∧q.un.2.2.2.2.2.2.length≤BigL
/-- what survey.look gives -/
def lookQ (c g:Nat) (l:List Pc) (r:Int × (Int × Int)):Prop:=match scanL c g l with
 | .inr x=>r=(0,((x.1:Int),(x.2:Int)))
 | .inl x=>r.1=x.1∧r.2.1=((x.2+1:Nat):Int)
def lookL (c g:Nat) (l:List Pc) (y:(Int × Int) ⊕ (Int × (Int × Int))):Prop:=match scanL c g l with
 | .inr x=>y= .inl ((x.1:Int),(x.2:Int))
 | .inl x=>∃ r:Int × (Int × Int),y= .inr r∧r.1=x.1∧r.2.1=((x.2+1:Nat):Int)
theorem node_ok {k lo hi:Int} {no lz:Bool} {rs:List (Int × Int)} {subs:List Pc} {g:Nat} (hk:1≤k∧k≤12) (hf:(flatB (k,lo,hi,no,lz,rs,subs)&&formedB (k,lo,hi,no,lz,rs,subs))=true):
 nodeC g (k,lo,hi,no,lz,rs,subs)=if k=10∧rngB (k,lo,hi,no,lz,rs,subs)=false then .inl 4 else
  if k=7∧lo≠0 then (if lo=(g+1:Nat)∧lo≤9 then .inr (g+1) else .inl 11) else
  if k=12∧(g:Int)<lo then .inl 12 else .inr g:=by
 unfold nodeC
 rw[if_neg osm,if_neg (by rw[hf];decide)]
mutual
theorem look_p:∀ (p:Pc) (c g:Nat),BdL (preP p)→c≤60→g≤c→Tot (fun n=>regex_survey_look n ((c:Int),(g:Int)) p.un) (lookQ c g (preP p))
 | .mk k lo hi no lz rs subs,c,g,hb,hc,hg=>by
   rw[pre_eq]at hb ⊢
   have hn:=hb _ (List.mem_cons_self ..)
   have hbl:BdL (preL subs):=fun q hq=>hb q (List.mem_cons_of_mem _ hq)
   refine Tot.suc (Tot.eqf (fun n=>regex_survey_look.eq_2 ..) ?_)
   have hw:IntKind.i64.wrap ((c:Int)+1)=((c+1:Nat):Int):=by rw[i64_small om om];rfl
   have hwg:IntKind.i64.wrap ((g:Int)+1)=((g+1:Nat):Int):=by rw[i64_small om om];rfl
   unfold lookQ
   rw[scanL]
   simp only[hw,hwg,Pc.un]
   by_cases h6:60≤c
   ·rw[if_pos h6]
    exact af (dtt om) (aa ⟨rfl,rfl⟩)
   rw[if_neg h6]
   refine ac (dff om) ?_
   by_cases hk:1≤k∧k≤12
   ·refine ab (P:=(· =false)) (ac (dff om) (aa (dff om))) fun a e=>?_
    subst e
    refine ac rfl ?_
    refine ab (P:=(· = !(flatB (k,lo,hi,no,lz,rs,subs)&&formedB (k,lo,hi,no,lz,rs,subs)))) ?_ fun a e=>?_
    ·refine ab (flat_tot (x:=(k,lo,hi,no,lz,rs,subs)) hk) fun a e=>?_
     subst e
     cases flatB (k,lo,hi,no,lz,rs,subs) with
     | false=>exact af rfl (aa rfl)
     | true=>exact ac rfl (ab (formed_tot (x:=(k,lo,hi,no,lz,rs,subs)) hk hn.1 hn.2) fun a e=>aa (by rw[e];rfl))
    ·subst e
     cases hf:flatB (k,lo,hi,no,lz,rs,subs)&&formedB (k,lo,hi,no,lz,rs,subs) with
     | false=>
       have:nodeC g (k,lo,hi,no,lz,rs,subs)= .inl 6:=by unfold nodeC;rw[if_neg osm,if_pos hf]
       rw[this]
       exact af rfl (aa ⟨rfl,rfl⟩)
     | true=>
       rw[node_ok hk hf]
       refine ac rfl ?_
       refine ab (P:=(· =decide (k=10∧rngB (k,lo,hi,no,lz,rs,subs)=false))) ?_ fun a e=>?_
       ·by_cases h10:k=10
        ·subst h10
         refine af rfl ?_
         have hr:∀ b:Bool,(b=true↔¬ (0≤lo∧lo≤99∧ -1≤hi∧hi≤99∧(hi<0∨lo≤hi)))→b=decide ((10:Int)=10∧rngB (10,lo,hi,no,lz,rs,subs)=false):=fun b hb=>by
          rw[al,hb,decide_eq_true_iff]
          exact ⟨fun h=>⟨rfl,dff h⟩,fun h=>odf h.2⟩
         by_cases g1:lo<0
         ·exact af (dtt g1) (aa (hr _ oss))
         refine ac (dff g1) ?_
         by_cases g2:lo>99
         ·exact af (dtt g2) (aa (hr _ oss))
         refine ac (dff g2) ?_
         by_cases g3:hi< -1
         ·exact af (dtt g3) (aa (hr _ oss))
         refine ac (dff g3) ?_
         by_cases g4:hi>99
         ·exact af (dtt g4) (aa (hr _ oss))
         refine ac (dff g4) ?_
         by_cases g5:hi≥0
         ·exact af (dtt g5) (aa (hr _ ⟨fun h=>by have h:hi<lo:=odt h;omega,fun h=>dtt (show hi<lo by omega)⟩))
         ·exact ac (dff g5) (aa (hr _ oss))
        ·refine ac (beq_eq_false_iff_ne.2 h10) (aa ?_)
         symm
         exact dff fun h=>h10 h.1
       ·subst e
        by_cases h10:k=10∧rngB (k,lo,hi,no,lz,rs,subs)=false
        ·rw[if_pos h10,dtt h10]
         exact af rfl (aa ⟨rfl,rfl⟩)
        rw[if_neg h10,dff h10]
        refine ac rfl ?_
        have fin:∀ g':Nat,g'≤c+1→Tot (fun n=>(loopN (fun (s138:(Int × (Int × Int)))=>lookF subs n s138) n (0,(((c+1:Nat):Int),(g':Int)))).bind (cont fun (s136:(Int × Int))=>(some (0,(s136.1,s136.2)):Option (Int × (Int × Int))))) (lookQ (c+1) g' (preL subs)):=fun g' hg'=>by
         refine ab (LT.tot (F:=lookF subs) (look_l subs subs [] (c+1) g' rfl hbl hn.2 om hg')) fun y hy=>?_
         unfold lookL at hy
         unfold lookQ
         cases hs:scanL (c+1) g' (preL subs) with
         | inr x=>
           rw[hs]at hy
           have hy:y= .inl ((x.1:Int),(x.2:Int)):=hy
           subst hy
           exact aa rfl
         | inl x=>
           rw[hs]at hy
           obtain ⟨r,rfl,h1,h2⟩:=hy
           exact aa ⟨h1,h2⟩
        have fin':∀ (g':Nat) (R:Int ⊕ Nat),R= .inr g'→g'≤c+1→Tot (fun n=>(loopN (fun (s138:(Int × (Int × Int)))=>lookF subs n s138) n (0,(((c+1:Nat):Int),(g':Int)))).bind (cont fun (s136:(Int × Int))=>(some (0,(s136.1,s136.2)):Option (Int × (Int × Int))))) (fun r=>match (match R with | .inl e=>(.inl (e,c):(Int × Nat) ⊕ (Nat × Nat)) | .inr g'=>scanL (c+1) g' (preL subs)) with
         | .inr x=>r=(0,((x.1:Int),(x.2:Int)))
         | .inl x=>r.1=x.1∧r.2.1=((x.2+1:Nat):Int)):=fun g' R hR hg'=>by
         subst hR
         exact fin g' hg'
        refine ab (P:=(· =decide (k=7∧lo≠0))) ?_ fun a e=>?_
        ·by_cases h7:k=7
         ·subst h7
          refine af rfl (aa ?_)
          rw[al];simp
         ·refine ac (beq_eq_false_iff_ne.2 h7) (aa ?_)
          symm
          exact dff fun h=>h7 h.1
        ·subst e
         by_cases h7:k=7∧lo≠0
         ·rw[if_pos h7,dtt h7]
          by_cases h9:lo=((g+1:Nat):Int)∧lo≤9
          ·rw[if_pos h9]
           refine ab (P:=(· = .inl (((c+1:Nat):Int),((g+1:Nat):Int)))) (af rfl (ab (P:=(· =false)) (ac (by rw[h9.1];simp) (aa (dff om))) fun a e=>by subst e;exact ac rfl (aa rfl))) fun a e=>?_
           subst e
           exact fin' (g+1) _ rfl om
          ·rw[if_neg h9]
           refine ab (P:=fun y=>∃ r:Int × (Int × Int),y= .inr r∧r.1=11∧r.2.1=((c+1:Nat):Int)) (af rfl (ab (P:=(· =true)) ?_ fun a e=>by subst e;exact af rfl (aa ⟨_,rfl,rfl,rfl⟩))) fun a e=>?_
           ·by_cases hl:lo=((g+1:Nat):Int)
            ·exact ac (by rw[hl];simp) (aa (dtt om))
            ·exact af (by simpa using hl) (aa rfl)
           ·obtain ⟨r,rfl,h1,h2⟩:=e
            exact aa ⟨h1,h2⟩
         ·rw[if_neg h7,dff h7]
          by_cases h12:k=12∧(g:Int)<lo
          ·rw[if_pos h12]
           refine ab (P:=fun y=>∃ r:Int × (Int × Int),y= .inr r∧r.1=12∧r.2.1=((c+1:Nat):Int)) (ac rfl (ab (P:=(· =true)) (af (beq_iff_eq.2 h12.1) (aa (dtt h12.2))) fun a e=>by subst e;exact af rfl (aa ⟨_,rfl,rfl,rfl⟩))) fun a e=>?_
           obtain ⟨r,rfl,h1,h2⟩:=e
           exact aa ⟨h1,h2⟩
          ·rw[if_neg h12]
           refine ab (P:=(· = .inl (((c+1:Nat):Int),(g:Int)))) (ac rfl (ab (P:=(· =false)) ?_ fun a e=>by subst e;exact ac rfl (aa rfl))) fun a e=>?_
           ·by_cases hk12:k=12
            ·exact af (beq_iff_eq.2 hk12) (aa (dff fun h=>h12 ⟨hk12,h⟩))
            ·exact ac (beq_eq_false_iff_ne.2 hk12) (aa rfl)
           ·subst e
            exact fin' g _ rfl om
   ·have:nodeC g (k,lo,hi,no,lz,rs,subs)= .inl 5:=by unfold nodeC;rw[if_pos osm]
    rw[this]
    refine ab (P:=(· =true)) ?_ fun a e=>by subst e;exact af rfl (aa ⟨rfl,rfl⟩)
    by_cases h1:k<1
    ·exact af (dtt h1) (aa rfl)
    ·exact ac (dff h1) (aa (dtt om))
theorem look_l:∀ (rest subs pre:List Pc) (c g:Nat),subs=pre++rest→BdL (preL rest)→subs.length≤BigL→c≤60→g≤c→LT (lookF subs) ((pre.length:Int),((c:Int),(g:Int))) (lookL c g (preL rest))
 | [],subs,pre,c,g,e,_,_,_,_=>by
   refine LT.fin (r:=.inl ((c:Int),(g:Int))) (Tot.alln fun n=>?_) (by unfold lookL;rw[preL,scanL])
   unfold lookF
   rw[if_neg]
   rw[e,ag,dff osm];decide
 | x::rest,subs,pre,c,g,e,hb,hl,hc,hg=>by
   have hlen:=hl
   unfold BigL at hlen
   rw[e,ad,ae]at hlen
   rw[preL]at hb ⊢
   obtain ⟨r,hr,N,hN⟩:=look_p x c g (fun q hq=>hb q (List.mem_append_left _ hq)) hc hg
   have hT:Tot (fun n=>regex_survey_look n ((c:Int),(g:Int)) x.un) (· =r):=⟨r,rfl,N,hN⟩
   have hstep:Tot (fun n=>lookF subs n ((pre.length:Int),((c:Int),(g:Int)))) (· =if r.1 !=0 then .inr (.inr r) else .inl (((pre.length+1:Nat):Int),r.2)):=by
    unfold lookF
    refine af (dtt (by simp only;rw[e,ad,ae];omega)) ?_
    refine am (show idx subs (pre.length:Int)=some x by rw[e];exact get_mid pre x rest rfl) (ab hT fun a ea=>?_)
    subst ea
    simp only[i64_small (x:=(pre.length:Int)+1) om om]
    cases (a.1 !=0) with
    | true=>exact af rfl (aa rfl)
    | false=>exact ac rfl (aa rfl)
   unfold lookQ at hr
   unfold lookL
   rw[scanL_app]
   cases hs:scanL c g (preP x) with
   | inl z=>
     obtain ⟨e1,i1⟩:=z
     rw[hs]at hr
     have hne:=(scan_err _ _ _ _ _ hs).1
     have hr1:r.1=e1:=hr.1
     have:(r.1 !=0)=true:=by rw[hr1];simpa using hne
     rw[this]at hstep
     exact LT.fin (hstep.mono fun a ea=>ea) ⟨r,rfl,hr.1,hr.2⟩
   | inr z=>
     obtain ⟨c1,g1⟩:=z
     rw[hs]at hr
     have hr:r=(0,((c1:Int),(g1:Int))):=hr
     subst hr
     obtain ⟨h1,h2⟩:=scan_le _ _ _ _ _ hs hc hg
     have ih:=look_l rest subs (pre++[x]) c1 g1 (by rw[e];simp) (fun q hq=>hb q (List.mem_append_right _ hq)) hl h1 h2
     rw[show (((pre++[x]).length:Nat):Int)=((pre.length+1:Nat):Int) by simp]at ih
     exact LT.step (hstep.mono fun a ea=>ea) ih
end
theorem take_app61 (a b:List Pc):((a.take 61)++b).take 61=(a++b).take 61:=by
 rcases Nat.le_total a.length 61 with h | h
 ·rw[an h]
 ·rw[aj (by rw[List.length_take];omega),aj h,List.take_take]
  simp
mutual
theorem pre_p:∀ (p:Pc) (out:List Pc),BdL (preP p)→out.length≤61→Tot (fun n=>ref4_preorder n p.un out) (· =(out++preP p).take 61)
 | .mk k lo hi no lz rs subs,out,hb,ho=>by
   rw[pre_eq]at hb ⊢
   have hn:=hb _ (List.mem_cons_self ..)
   have hbl:BdL (preL subs):=fun q hq=>hb q (List.mem_cons_of_mem _ hq)
   refine Tot.suc (Tot.eqf (fun n=>ref4_preorder.eq_2 ..) ?_)
   by_cases h:60<out.length
   ·refine af (dtt om) (aa ?_)
    rw[aj om,an om]
   ·refine ac (dff om) (am (app_ok oss) ?_)
    refine ab (LT.tot (F:=preF subs) (pre_l subs subs [] (out++[.mk k lo hi no lz rs subs]) rfl hbl hn.2 oss)) fun a e=>aa ?_
    rw[e,ak,ao]
theorem pre_l:∀ (rest subs pre out:List Pc),subs=pre++rest→BdL (preL rest)→subs.length≤BigL→out.length≤61→LT (preF subs) (out,(pre.length:Int)) (· =(out++preL rest).take 61)
 | [],subs,pre,out,e,_,_,ho=>by
   refine LT.fin (r:=out) (Tot.alln fun n=>?_) (by rw[preL,ag,an ho])
   unfold preF
   rw[if_neg]
   ·rfl
   rw[e,ag,dff osm];decide
 | x::rest,subs,pre,out,e,hb,hl,ho=>by
   have hlen:=hl
   unfold BigL at hlen
   rw[e,ad,ae]at hlen
   rw[preL]at hb ⊢
   have hi:decide ((pre.length:Int)<((subs.length:Nat):Int))=true:=dtt (by rw[e,ad,ae];omega)
   by_cases h:out.length≤60
   ·have hstep:Tot (fun n=>preF subs n (out,(pre.length:Int))) (· = .inl ((out++preP x).take 61,((pre.length+1:Nat):Int))):=by
     unfold preF
     refine ab (P:=(· =true)) (af hi (aa (dtt osm))) fun a ea=>?_
     subst ea
     refine af rfl (am (show idx subs (pre.length:Int)=some x by rw[e];exact get_mid pre x rest rfl) (ab (pre_p x out (fun q hq=>hb q (List.mem_append_left _ hq)) ho) fun a ea=>aa ?_))
     rw[ea,i64_small (x:=(pre.length:Int)+1) om om]
     rfl
    have ih:=pre_l rest subs (pre++[x]) ((out++preP x).take 61) (by rw[e];simp) (fun q hq=>hb q (List.mem_append_right _ hq)) hl (by rw[List.length_take];omega)
    rw[show (((pre++[x]).length:Nat):Int)=((pre.length+1:Nat):Int) by simp,take_app61,ak]at ih
    exact LT.step hstep ih
   ·refine LT.fin (r:=out) (Tot.alln fun n=>?_) (by rw[aj om,an ho])
    unfold preF
    rw[if_pos hi,show decide (((out.length:Nat):Int)≤60)=false from dff om]
    rfl
end
end Go.Gv.X
namespace Go.Gv.X
open Go Go.Gv Go.Gv.D Go.Gv.R Go.Gv.P Go.Lib
set_option maxRecDepth 100000
/-! Own work: what is asked of all pieces (2). -/
def fauQ (c g:Nat) (l:List Pc) (y:(Int × Int) ⊕ (Int × Int)):Prop:=match scanL c g l with
 | .inr _=>y= .inl (0,0)
 | .inl x=>y= .inr (x.1,(x.2:Int))
theorem fau_step {r14 pre rest:List Pc} {x:Pc} {g:Nat} (e:r14=pre++x::rest) (hb:x.un.2.2.2.2.2.1.length≤BigL∧x.un.2.2.2.2.2.2.length≤BigL) (hl:r14.length≤61) (hg:g≤pre.length):
 Tot (fun n=>fauF r14 n ((g:Int),((pre.length:Int),((0:Int),(0:Int))))) (· =if 60≤pre.length then .inr (.inr (2,(pre.length:Int))) else match nodeC g x.un with
  | .inl c=>.inr (.inr (c,(pre.length:Int)))
  | .inr g'=>.inl ((g':Int),(((pre.length+1:Nat):Int),((0:Int),(0:Int))))):=by
 have hlen:=hl
 rw[e,ad,ae]at hlen
 obtain ⟨k,lo,hi,no,lz,rs,subs⟩:=x
 have hw:IntKind.i64.wrap ((pre.length:Int)+1)=((pre.length+1:Nat):Int):=by rw[i64_small om om];rfl
 have hwg:IntKind.i64.wrap ((g:Int)+1)=((g+1:Nat):Int):=by rw[i64_small om om];rfl
 unfold fauF
 refine af (dtt (by simp only;rw[e,ad,ae];omega)) ?_
 refine am (show idx r14 (pre.length:Int)=some (.mk k lo hi no lz rs subs) by rw[e];exact get_mid pre _ rest rfl) ?_
 simp only[hw,hwg,Pc.un]at hb ⊢
 by_cases h6:60≤pre.length
 ·rw[if_pos h6]
  exact af oss (aa rfl)
 rw[if_neg h6]
 refine ac oss ?_
 by_cases hk:1≤k∧k≤12
 ·refine ab (P:=(· =false)) (ac (dff om) (aa (dff om))) fun a e=>?_
  subst e
  refine ac rfl (ab (shaped_tot (x:=(k,lo,hi,no,lz,rs,subs)) hk hb.1 hb.2) fun a e=>?_)
  subst e
  cases hf:flatB (k,lo,hi,no,lz,rs,subs)&&formedB (k,lo,hi,no,lz,rs,subs) with
  | false=>
    have:nodeC g (k,lo,hi,no,lz,rs,subs)= .inl 6:=by unfold nodeC;rw[if_neg osm,if_pos hf]
    rw[this]
    exact af rfl (aa rfl)
  | true=>
    rw[node_ok hk hf]
    refine ac rfl ?_
    by_cases h10:k=10
    ·subst h10
     have e7:¬ ((10:Int)=7∧lo≠0):=fun h=>by omega
     have e12:¬ ((10:Int)=12∧(g:Int)<lo):=fun h=>by omega
     rw[if_neg e7,if_neg e12]
     refine ab (P:=(· =if rngB (10,lo,hi,no,lz,rs,subs)=false then .inr (.inr (.inr (4,(pre.length:Int)))) else .inl ((g:Int),((0:Int),(0:Int))))) (af rfl (ab (P:=(· =decide (rngB (10,lo,hi,no,lz,rs,subs)=false))) ?_ fun a e=>?_)) fun a e=>?_
     ·have hr:∀ b:Bool,(b=true↔¬ (0≤lo∧lo≤99∧ -1≤hi∧hi≤99∧(hi<0∨lo≤hi)))→b=decide (rngB (10,lo,hi,no,lz,rs,subs)=false):=fun b hb=>by
       rw[al,hb,decide_eq_true_iff]
       exact ⟨fun h=>dff h,fun h=>odf h⟩
      by_cases g1:lo<0
      ·exact af (dtt g1) (aa (hr _ oss))
      refine ac (dff g1) ?_
      by_cases g2:lo>99
      ·exact af (dtt g2) (aa (hr _ oss))
      refine ac (dff g2) ?_
      by_cases g4:hi>99
      ·exact af (dtt g4) (aa (hr _ oss))
      refine ac (dff g4) ?_
      by_cases g5:hi<lo
      ·refine af (dtt g5) (aa (hr _ ?_))
       constructor
       ·intro h
        have h:hi≠ -1:=by simpa using h
        omega
       ·intro h
        have:hi≠ -1:=by omega
        simpa using this
      ·exact ac (dff g5) (aa (hr _ oss))
     ·subst e
      cases rngB (10,lo,hi,no,lz,rs,subs) with
      | false=>exact af rfl (aa rfl)
      | true=>exact ac rfl (aa rfl)
     ·subst e
      cases rngB (10,lo,hi,no,lz,rs,subs) with
      | false=>exact aa rfl
      | true=>exact aa rfl
    have e10:¬ (k=10∧rngB (k,lo,hi,no,lz,rs,subs)=false):=fun h=>h10 h.1
    rw[if_neg e10]
    by_cases h7:k=7
    ·subst h7
     have e12:¬ ((7:Int)=12∧(g:Int)<lo):=fun h=>by omega
     rw[if_neg e12]
     by_cases hl0:lo=0
     ·have e7:¬ ((7:Int)=7∧lo≠0):=fun h=>h.2 hl0
      rw[if_neg e7]
      refine ab (P:=(· = .inl ((g:Int),((0:Int),(0:Int))))) (ac rfl (af rfl (ac (by rw[hl0];rfl) (aa rfl)))) fun a e=>?_
      subst e
      exact aa rfl
     ·have e7:(7:Int)=7∧lo≠0:=⟨rfl,hl0⟩
      rw[if_pos e7]
      by_cases h9:lo=((g+1:Nat):Int)∧lo≤9
      ·rw[if_pos h9]
       refine ab (P:=(· = .inl (((g+1:Nat):Int),((0:Int),(0:Int))))) (ac rfl (af rfl (af (by simpa using hl0) (ab (P:=(· =false)) (ac (by rw[h9.1];simp) (aa (dff om))) fun a e=>by subst e;exact ac rfl (aa rfl))))) fun a e=>?_
       subst e
       exact aa rfl
      ·rw[if_neg h9]
       refine ab (P:=(· = .inr (.inr (.inr (11,(pre.length:Int)))))) (ac rfl (af rfl (af (by simpa using hl0) (ab (P:=(· =true)) ?_ fun a e=>by subst e;exact af rfl (aa rfl))))) fun a e=>?_
       ·by_cases hl:lo=((g+1:Nat):Int)
        ·exact ac (by rw[hl];simp) (aa (dtt om))
        ·exact af (by simpa using hl) (aa rfl)
       ·subst e
        exact aa rfl
    have e7:¬ (k=7∧lo≠0):=fun h=>h7 h.1
    rw[if_neg e7]
    by_cases h12:k=12
    ·subst h12
     by_cases hgl:(g:Int)<lo
     ·have e12:(12:Int)=12∧(g:Int)<lo:=⟨rfl,hgl⟩
      rw[if_pos e12]
      refine ab (P:=(· = .inr (.inr (.inr (12,(pre.length:Int)))))) (ac rfl (ac rfl (af rfl (af (dtt hgl) (aa rfl))))) fun a e=>?_
      subst e
      exact aa rfl
     ·have e12:¬ ((12:Int)=12∧(g:Int)<lo):=fun h=>hgl h.2
      rw[if_neg e12]
      refine ab (P:=(· = .inl ((g:Int),((0:Int),(0:Int))))) (ac rfl (ac rfl (af rfl (ac (dff hgl) (aa rfl))))) fun a e=>?_
      subst e
      exact aa rfl
    ·have e12:¬ (k=12∧(g:Int)<lo):=fun h=>h12 h.1
     rw[if_neg e12]
     refine ab (P:=(· = .inl ((g:Int),((0:Int),(0:Int))))) (ac (beq_eq_false_iff_ne.2 h10) (ac (beq_eq_false_iff_ne.2 h7) (ac (beq_eq_false_iff_ne.2 h12) (aa rfl)))) fun a e=>?_
     subst e
     exact aa rfl
 ·have:nodeC g (k,lo,hi,no,lz,rs,subs)= .inl 5:=by unfold nodeC;rw[if_pos osm]
  rw[this]
  refine ab (P:=(· =true)) ?_ fun a e=>by subst e;exact af rfl (aa rfl)
  by_cases h1:k<1
  ·exact af (dtt h1) (aa rfl)
  ·exact ac (dff h1) (aa (dtt om))
theorem fau_lt {r14:List Pc} (hl:r14.length≤61) (hb:BdL r14):∀ (rest pre:List Pc) (g:Nat),r14=pre++rest→g≤pre.length→LT (fauF r14) ((g:Int),((pre.length:Int),((0:Int),(0:Int)))) (fauQ pre.length g rest)
 | [],pre,g,e,_=>by
   refine LT.fin (r:=.inl (0,0)) (Tot.alln fun n=>?_) (by unfold fauQ;rw[scanL])
   unfold fauF
   rw[if_neg]
   rw[e,ag,dff osm];decide
 | x::rest,pre,g,e,hg=>by
   have hstep:=fau_step e (hb x (by rw[e];simp)) hl hg
   unfold fauQ
   rw[scanL]
   by_cases h6:60≤pre.length
   ·rw[if_pos h6]at hstep ⊢
    exact LT.fin hstep rfl
   ·rw[if_neg h6]at hstep ⊢
    cases hn:nodeC g x.un with
    | inl c=>
      rw[hn]at hstep
      exact LT.fin hstep rfl
    | inr g'=>
      rw[hn]at hstep
      have:=node_le hn
      have ih:=fau_lt hl hb rest (pre++[x]) g' (by rw[e];simp) oss
      rw[show (((pre++[x]).length:Nat):Int)=((pre.length+1:Nat):Int) by simp,show (pre++[x]).length=pre.length+1 by simp]at ih
      exact LT.step hstep ih
end Go.Gv.X
namespace Go.Gv.X
open Go Go.Gv Go.Gv.D Go.Gv.R Go.Gv.P Go.Lib
set_option maxRecDepth 100000
/-! Own work: how a piece is written. -/
/-- own name for the loop body 0 of regex_class -/
noncomputable def clF (rs:List (Int × Int)) (fuel:Nat) (s19:(ByteArray × Int)):Option ((ByteArray × Int) ⊕ ByteArray):=
 (if (decide (s19.2<((ap rs:Nat):Int))) then (Option.bind (idx rs s19.2) fun x24=>(Option.bind (regex_spell fuel x24.1 (strOf [92,93,94,45,91])) fun r37=>(Option.bind (cat s19.1 r37) fun x42=>(Option.bind (if (decide (x24.2>x24.1)) then (Option.bind (regex_spell fuel x24.2 (strOf [92,93,94,45,91])) fun r48=>(Option.bind (cat (strOf [45]) r48) fun x53=>(Option.bind (cat x42 x53) fun x55=>(some (x55))))) else (some (x42))) fun (j45:ByteArray)=>(some (.inl (j45,(IntKind.i64.wrap (s19.2+1))))))))) else (some (.inr (s19.1))))
/-- own name for the loop body 1 of ref4_PieceText -/
noncomputable def clRF (rs:List (Int × Int)) (fuel:Nat) (s72:(ByteArray × Int)):Option ((ByteArray × Int) ⊕ ByteArray):=
 (if (decide (s72.2<((ap rs:Nat):Int))) then (Option.bind (idx rs s72.2) fun x82=>(Option.bind (idx rs s72.2) fun x86=>(Option.bind (ref4_written fuel x82.1 (strOf [92,93,94,45,91])) fun r89=>(Option.bind (cat s72.1 r89) fun x94=>(Option.bind (if (x82.1 !=x86.2) then (Option.bind (ref4_written fuel x86.2 (strOf [92,93,94,45,91])) fun r99=>(Option.bind (cat (strOf [45]) r99) fun x104=>(Option.bind (cat x94 x104) fun x106=>(some (x106))))) else (some (x94))) fun (j96:ByteArray)=>(some (.inl (j96,(IntKind.i64.wrap (s72.2+1)))))))))) else (some (.inr (s72.1))))
theorem scal_nat2 {c:Int} (h:scal c=true):∃ n:Nat,c=(n:Int)∧Scal n∧c.toNat=n∧n≤1114111:=by
 unfold scal at h
 simp only[decide_eq_true_eq]at h
 exact ⟨c.toNat,om,by unfold Scal;omega,rfl,om⟩
theorem encode_eq {n:Nat} (h:Scal n):Utf8.encode (n:Int)=strOf (encR n):=by
 have hn:n≤1114111:=by unfold Scal at h;omega
 have hv:Utf8.valid (n:Int)=true:=by
  unfold Scal at h
  unfold Utf8.valid
  simp
  omega
 unfold Utf8.encode
 simp only[hv,if_true,Int.toNat_natCast]
 by_cases h1:n<128
 ·rw[if_pos h1,encR1 om];rfl
 rw[if_neg h1]
 by_cases h2:n<2048
 ·rw[if_pos h2,encR2 om om];rfl
 rw[if_neg h2]
 by_cases h3:n<65536
 ·rw[if_pos h3,encR3 om om h];rfl
 ·rw[if_neg h3,encR4 om hn];rfl
theorem enc_one (n:Nat):enc [n]=encR n:=by rw[enc_cons];simp[enc]
theorem enc_two (n:Nat):enc [92,n]=92::encR n:=by rw[enc_cons,enc_one];rfl
theorem encR_len (n:Nat):(encR n).length≤4:=by rw[← enc_one];exact enc_len_le [n]
theorem SP8:St8 SP:=st8 (by kernel_rfl) ddc
theorem IC8:St8 IC:=st8 (by kernel_rfl) ddc
theorem SP9:St9 SP:=fun k=>by kernel_rfl
theorem IC9:St9 IC:=fun k=>by kernel_rfl
theorem spell_eq (n:Nat) {c:Int} (h:scal c=true) {S:List Nat} (hS:St8 S):regex_spell n c (strOf (bs S))=some (strOf (enc (spellN c S))):=by
 obtain ⟨m,rfl,hm,_,hm2⟩:=scal_nat2 h
 unfold regex_spell spellN
 by_cases h1:(m:Int)=10
 ·rw[if_pos (beq_iff_eq.2 h1),if_pos h1];rfl
 rw[if_neg (by simpa using h1),if_neg h1]
 by_cases h2:(m:Int)=9
 ·rw[if_pos (beq_iff_eq.2 h2),if_pos h2];rfl
 rw[if_neg (by simpa using h2),if_neg h2]
 have hw:IntKind.i32.wrap (m:Int)=(m:Int):=by simp[IntKind.wrap,IntKind.signed,IntKind.bits];omega
 rw[hw,encode_eq hm,Int.toNat_natCast]
 by_cases h3:m<128
 ·rw[if_pos (dtt om),u8_small om om]
  unfold strings_IndexByte stringslite_IndexByte
  simp only[Option.bind_some]
  have:=hS.ib (UInt8.ofNat m)
  rw[ofNat_toNat' h3]at this
  rw[this]
  cases hc:S.contains m with
  | true=>
    simp only[if_true]
    have e:=encR_len m
    rw[show strOf [92]=strOf ([92]:List UInt8) from rfl,cat_str oss,enc_two]
    rfl
  | false=>
    simp only[ai,if_false]
    rw[enc_one]
 ·rw[if_neg (by rw[dff om];decide)]
  have:S.contains m=false:=Bool.eq_false_iff.2 fun e=>h3 (hS.low m (by simpa using e))
  rw[this]
  simp only[Option.bind_some,ai,if_false]
  rw[enc_one]
theorem written_tot {c:Int} (h:scal c=true) {S:List Nat} (hS:St8 S) (h9:St9 S) {T:List UInt8} (hT:T=bs S):Tot (fun n=>ref4_written n c (strOf T)) (· =strOf (enc (spellN c S))):=by
 subst hT
 obtain ⟨m,rfl,hm,_,hm2⟩:=scal_nat2 h
 unfold ref4_written spellN
 have hst:Tot (fun n=>ref4_String n [(m:Int)]) (· =strOf (encR m)):=by
  have:=String_tot (p:=[m]) (by simpa using hm) (by simp)
  rw[enc_one]at this
  exact this
 by_cases h1:(m:Int)=10
 ·rw[if_pos h1];exact af (beq_iff_eq.2 h1) (aa rfl)
 rw[if_neg h1]
 refine ac (beq_eq_false_iff_ne.2 h1) ?_
 by_cases h2:(m:Int)=9
 ·rw[if_pos h2];exact af (beq_iff_eq.2 h2) (aa rfl)
 rw[if_neg h2,Int.toNat_natCast]
 refine ac (beq_eq_false_iff_ne.2 h2) (ab (P:=(· =S.contains m)) ?_ fun a e=>?_)
 ·by_cases h3:m<128
  ·refine af (dtt om) ?_
   rw[u8_small om om]
   refine ab (P:=(· =S.contains m)) (Tot.of_all 30 (fun k=>?_) rfl) fun a e=>aa e
   exact beq_iff_eq.1 (List.all_eq_true.1 (h9 k) m (List.mem_range.2 h3))
  ·refine ac (dff om) (aa ?_)
   symm
   exact Bool.eq_false_iff.2 fun e=>h3 (hS.low m (by simpa using e))
 ·subst e
  cases S.contains m with
  | true=>
    refine af rfl (ab hst fun a e=>?_)
    subst e
    have e:=encR_len m
    refine am (cat_str (l:=[92]) oss) (aa ?_)
    rw[if_pos rfl,enc_two]
    rfl
  | false=>
    refine ac rfl (ab hst fun a e=>aa ?_)
    rw[e,if_neg ddc,enc_one]
theorem spell_len (c:Int) (S:List Nat):(spellN c S).length≤2:=by
 unfold spellN
 split;simp
 split;simp
 split<;>simp
theorem rng_len (r:Int × Int):(rngN r).length≤5:=by
 unfold rngN
 have:=spell_len r.1 IC
 have:=spell_len r.2 IC
 rw[ad]
 split<;>simp<;>omega
theorem ord_len:∀ {l:List (Int × Int)},ordR l=true→∀ x∈l.head?,x.1+(l.length:Int)≤1114112
 | [],_,x,hx=>by cases hx
 | [y],h,x,hx=>by
   cases hx
   simp only[ordR,Bool.and_eq_true,decide_eq_true_eq]at h
   have:=scal_rng h.1
   simp;omega
 | y::z::r,h,x,hx=>by
   cases hx
   simp only[ordR,Bool.and_eq_true,decide_eq_true_eq]at h
   have:=ord_len (l:=z::r) h.2.2.2.2 z rfl
   simp only[ae]at this ⊢
   omega
theorem ord_len' {l:List (Int × Int)} (h:ordR l=true):l.length≤1114112:=by
 cases l with
 | nil=>simp
 | cons x r=>
   have h1:=ord_len h x rfl
   have h2:=scal_rng ((of_ord h).2 x (List.mem_cons_self ..)).1
   omega
theorem cat_enc {a b:List Nat} (h:a.length+b.length≤1000000000000):cat (strOf (enc a)) (strOf (enc b))=some (strOf (enc (a++b))):=by
 have h1:=enc_len_le a
 have h2:=enc_len_le b
 rw[cat_str om,enc_app]
theorem cl_lt {rs:List (Int × Int)} (hl:rs.length≤2000000) (hs:∀ r∈rs,scal r.1=true∧scal r.2=true):∀ (rest pre:List (Int × Int)) (acc:List Nat),rs=pre++rest→acc.length+5*rest.length≤100000000→
 LT (clF rs) (strOf (enc acc),(pre.length:Int)) (· =strOf (enc (acc++rest.flatMap rngN)))
 | [],pre,acc,e,_=>by
   refine LT.fin (Tot.alln fun n=>?_) (by rw[List.flatMap_nil,ag])
   unfold clF
   rw[if_neg]
   rw[e,ag,dff osm];decide
 | x::rest,pre,acc,e,ha=>by
   have hlen:=hl
   rw[e,ad,ae]at hlen
   rw[ae]at ha
   obtain ⟨s1,s2⟩:=hs x (by rw[e];simp)
   have l1:=spell_len x.1 IC
   have l2:=spell_len x.2 IC
   have hstep:∀ n,clF rs n (strOf (enc acc),(pre.length:Int))=some (.inl (strOf (enc (acc++rngN x)),((pre.length+1:Nat):Int))):=fun n=>by
    unfold clF
    rw[if_pos (dtt (by simp only;rw[e,ad,ae];omega))]
    simp only
    rw[show idx rs (pre.length:Int)=some x by rw[e];exact get_mid pre x rest rfl]
    simp only[Option.bind_some]
    rw[show strOf [92,93,94,45,91]=strOf (bs IC) from rfl,spell_eq n s1 IC8]
    simp only[Option.bind_some]
    rw[cat_enc om,i64_small (x:=(pre.length:Int)+1) om om]
    simp only[Option.bind_some]
    unfold rngN
    by_cases h:x.1<x.2
    ·rw[if_pos (dtt h),if_pos h,spell_eq n s2 IC8]
     simp only[Option.bind_some]
     rw[show strOf [45]=strOf (enc [45]) from rfl,cat_enc oss]
     simp only[Option.bind_some]
     rw[cat_enc oss]
     simp only[Option.bind_some,ak,ao]
     rfl
    ·rw[if_neg (by rw[dff h];decide),if_neg h,ag]
     rfl
   have hr:=rng_len x
   have ih:=cl_lt hl hs rest (pre++[x]) (acc++rngN x) (by rw[e];simp) (by rw[ad];omega)
   rw[show (((pre++[x]).length:Nat):Int)=((pre.length+1:Nat):Int) by simp,ak]at ih
   rw[List.flatMap_cons]
   exact LT.step (Tot.alln hstep) ih
theorem flat_len (rs:List (Int × Int)):(rs.flatMap rngN).length≤5*rs.length:=by
 induction rs with
 | nil=>simp
 | cons x rs ih=>
   rw[List.flatMap_cons,ad,ae]
   have:=rng_len x
   omega
theorem classT_tot {k lo hi:Int} {no lz:Bool} {rs:List (Int × Int)} {subs:List Pc} (h:ordR rs=true):Tot (fun n=>regex_class n (k,lo,hi,no,lz,rs,subs)) (· =strOf (enc (clsN no rs))):=by
 have hl:=ord_len' h
 unfold regex_class
 refine ab (P:=(· =strOf (enc (91::(if no then [94] else []))))) ?_ fun a e=>?_
 ·cases no with
  | true=>exact af rfl (am (a:=strOf [91,94]) rfl (aa rfl))
  | false=>exact ac rfl (aa rfl)
 ·subst e
  refine ab (LT.tot (F:=clF rs) (cl_lt om (of_ord h).2 rs [] (91::(if no then [94] else [])) rfl (by cases no<;>simp<;>omega))) fun a e=>?_
  subst e
  have:=flat_len rs
  refine am (cat_enc (b:=[93]) (by cases no<;>simp only[ad,ae,List.length_nil,ai,if_false,if_true]<;>omega)) (aa ?_)
  unfold clsN
  simp only[List.cons_append,ak]
theorem clR_lt {rs:List (Int × Int)} (hl:rs.length≤2000000) (hs:∀ r∈rs,scal r.1=true∧scal r.2=true) (hle:∀ r∈rs,r.1≤r.2):∀ (rest pre:List (Int × Int)) (acc:List Nat),rs=pre++rest→acc.length+5*rest.length≤100000000→
 LT (clRF rs) (strOf (enc acc),(pre.length:Int)) (· =strOf (enc (acc++rest.flatMap rngN)))
 | [],pre,acc,e,_=>by
   refine LT.fin (Tot.alln fun n=>?_) (by rw[List.flatMap_nil,ag])
   unfold clRF
   rw[if_neg]
   rw[e,ag,dff osm];decide
 | x::rest,pre,acc,e,ha=>by
   have hlen:=hl
   rw[e,ad,ae]at hlen
   rw[ae]at ha
   obtain ⟨s1,s2⟩:=hs x (by rw[e];simp)
   have hxx:=hle x (by rw[e];simp)
   have l1:=spell_len x.1 IC
   have l2:=spell_len x.2 IC
   have hstep:Tot (fun n=>clRF rs n (strOf (enc acc),(pre.length:Int))) (· = .inl (strOf (enc (acc++rngN x)),((pre.length+1:Nat):Int))):=by
    unfold clRF
    have hix:idx rs (pre.length:Int)=some x:=by rw[e];exact get_mid pre x rest rfl
    refine af (dtt (by simp only;rw[e,ad,ae];omega)) (am hix (am hix ?_))
    refine ab (written_tot s1 IC8 IC9 rfl) fun a ea=>?_
    subst ea
    refine am (cat_enc om) ?_
    simp only[i64_small (x:=(pre.length:Int)+1) om om]
    unfold rngN
    by_cases h:x.1<x.2
    ·rw[if_pos h]
     refine ab (P:=(· =strOf (enc (acc++(spellN x.1 IC++45::spellN x.2 IC))))) (af oss (ab (written_tot s2 IC8 IC9 rfl) fun a ea=>?_)) fun a ea=>by subst ea;exact aa rfl
     subst ea
     refine am (cat_enc (a:=[45]) oss) (am (cat_enc oss) (aa ?_))
     simp only[ak,ao]
    ·rw[if_neg h,ag]
     exact ab (P:=(· =strOf (enc (acc++spellN x.1 IC)))) (ac oss (aa rfl)) fun a ea=>by subst ea;exact aa rfl
   have hr:=rng_len x
   have ih:=clR_lt hl hs hle rest (pre++[x]) (acc++rngN x) (by rw[e];simp) (by rw[ad];omega)
   rw[show (((pre++[x]).length:Nat):Int)=((pre.length+1:Nat):Int) by simp,ak]at ih
   rw[List.flatMap_cons]
   exact LT.step hstep ih
/-! numbers -/
theorem itoa_enc:(List.range 100).all (fun n=>enc (decN (n:Int))==Lib.itoa (n:Int))=true:=by kernel_rfl
theorem dec_enc {n:Int} (h0:0≤n) (h1:n≤99):Lib.itoa n=enc (decN n):=by
 obtain ⟨m,rfl⟩:∃ m:Nat,n=m:=⟨n.toNat,om⟩
 exact (beq_iff_eq.1 (List.all_eq_true.1 itoa_enc m (List.mem_range.2 om))).symm
theorem dec_len:(List.range 100).all (fun n=>decide ((decN (n:Int)).length≤2))=true:=by kernel_rfl
theorem dec_len' {n:Int} (h0:0≤n) (h1:n≤99):(decN n).length≤2:=by
 obtain ⟨m,rfl⟩:∃ m:Nat,n=m:=⟨n.toNat,om⟩
 exact odt (List.all_eq_true.1 dec_len m (List.mem_range.2 om))
theorem Itoa_eq (n:Nat) {v:Int} (h0:0≤v) (h1:v≤99):strconv_Itoa n v=some (strOf (enc (decN v))):=by
 unfold strconv_Itoa
 rw[if_pos om,dec_enc h0 h1]
theorem decimal_all (k:Nat):(List.range 100).all (fun m=>match ref4_decimal (k+60) (m:Int) with | some b=>bytesOf b==Lib.itoa (m:Int) | none=>false)=true:=by kernel_rfl
theorem decimal_tot {v:Int} (h0:0≤v) (h1:v≤99):Tot (fun n=>ref4_decimal n v) (· =strOf (enc (decN v))):=by
 obtain ⟨m,rfl⟩:∃ m:Nat,v=m:=⟨v.toNat,om⟩
 refine Tot.of_all 60 (fun k=>?_) rfl
 have:=List.all_eq_true.1 (decimal_all k) m (List.mem_range.2 om)
 cases hd:ref4_decimal (k+60) (m:Int) with
 | none=>rw[hd]at this;cases this
 | some b=>
   rw[hd]at this
   rw[← dec_enc h0 h1,← beq_iff_eq.1 this,str_bytes]
theorem tms_len {lo hi:Int} (h0:0≤lo) (h1:lo≤99) (h2: -1≤hi) (h3:hi≤99):(tmsN lo hi).length≤7:=by
 have:=dec_len' h0 h1
 unfold tmsN
 split;simp
 split;simp
 split;simp
 split;simp;omega
 split;simp;omega
 have:=dec_len' (n:=hi) om h3
 simp;omega
theorem times_eq (n:Nat) {lo hi:Int} {no lz:Bool} {rs:List (Int × Int)} {subs:List Pc} (h0:0≤lo) (h1:lo≤99) (h2: -1≤hi) (h3:hi≤99):
 regex_times n (10,lo,hi,no,lz,rs,subs)=some (strOf (enc (tmsN lo hi++if lz then [63] else []))):=by
 have hd:=dec_len' h0 h1
 have key:∀ T:List Nat,T.length≤7→((some (strOf (enc T))).bind fun (j22:ByteArray)=>(Option.bind (if lz then (Option.bind (cat j22 (strOf [63])) fun x76=>(some (x76))) else (some (j22))) fun (j73:ByteArray)=>(some (j73))))=some (strOf (enc (T++if lz then [63] else []))):=fun T hT=>by
  cases lz with
  | true=>
    simp only[Option.bind_some,if_true]
    rw[show strOf [63]=strOf (enc [63]) from rfl,cat_enc oss]
    rfl
  | false=>simp
 have ht:=tms_len h0 h1 h2 h3
 unfold regex_times
 rw[Itoa_eq n h0 h1]
 simp only[Option.bind_some]
 rw[← key (tmsN lo hi) ht]
 have b1:(hi== -1)=decide (hi= -1):=by rw[al];simp
 have b2:(lo==0)=decide (lo=0):=by rw[al];simp
 have b3:(lo==1)=decide (lo=1):=by rw[al];simp
 have b4:(hi==1)=decide (hi=1):=by rw[al];simp
 have b5:(hi==lo)=decide (hi=lo):=by rw[al];simp
 rw[b1,b2,b3,b4,b5]
 by_cases e1:hi= -1
 ·have e4:¬ hi=1:=by omega
  by_cases e2:lo=0
  ·rw[show tmsN lo hi=[42] by unfold tmsN;rw[if_pos ⟨e1,e2⟩]];simp[e1,e2];rfl
  ·by_cases e3:lo=1
   ·rw[show tmsN lo hi=[43] by unfold tmsN;rw[if_neg (fun h=>e2 h.2),if_pos ⟨e1,e3⟩]];simp[e1,e3];rfl
   ·rw[show tmsN lo hi=123::(decN lo++[44,125]) by unfold tmsN;rw[if_neg (fun h=>e2 h.2),if_neg (fun h=>e3 h.2),if_neg (fun h=>e2 h.1),if_pos e1]]
    simp only[e1,e2,e3,decide_true,decide_false,if_true,ai,if_false,Option.bind_some]
    rw[show strOf [123]=strOf (enc [123]) from rfl,cat_enc oss]
    simp only[Option.bind_some]
    rw[show strOf [44,125]=strOf (enc [44,125]) from rfl,cat_enc oss]
    rfl
 ·by_cases e2:lo=0∧hi=1
  ·rw[show tmsN lo hi=[63] by unfold tmsN;rw[if_neg (fun h=>e1 h.1),if_neg (fun h=>e1 h.1),if_pos e2]];simp[e2.1,e2.2];rfl
  ·have hj:(if decide (lo=0)=true then some (decide (hi=1)) else some false)=some false:=by
    by_cases e3:lo=0
    ·rw[if_pos (dtt e3),dff (fun h=>e2 ⟨e3,h⟩)]
    ·rw[if_neg (by rw[dff e3];decide)]
   by_cases e5:hi=lo
   ·rw[show tmsN lo hi=123::(decN lo++[125]) by unfold tmsN;rw[if_neg (fun h=>e1 h.1),if_neg (fun h=>e1 h.1),if_neg e2,if_neg e1,if_pos e5]]
    simp only[e1,decide_false,ai,if_false,Option.bind_some]
    rw[hj]
    simp only[Option.bind_some,ai,if_false,e5,decide_true,if_true]
    rw[show strOf [123]=strOf (enc [123]) from rfl,cat_enc oss]
    simp only[Option.bind_some]
    rw[show strOf [125]=strOf (enc [125]) from rfl,cat_enc oss]
    rfl
   ·rw[show tmsN lo hi=123::(decN lo++44::(decN hi++[125])) by unfold tmsN;rw[if_neg (fun h=>e1 h.1),if_neg (fun h=>e1 h.1),if_neg e2,if_neg e1,if_neg e5]]
    have hd2:=dec_len' (n:=hi) om h3
    simp only[e1,decide_false,ai,if_false,Option.bind_some]
    rw[hj]
    simp only[Option.bind_some,ai,if_false,e5,decide_false]
    rw[show strOf [123]=strOf (enc [123]) from rfl,cat_enc oss]
    simp only[Option.bind_some]
    rw[show strOf [44]=strOf (enc [44]) from rfl,cat_enc oss,Itoa_eq n (v:=hi) om h3]
    simp only[Option.bind_some]
    rw[cat_enc oss]
    simp only[Option.bind_some]
    rw[show strOf [125]=strOf (enc [125]) from rfl,cat_enc oss]
    simp
end Go.Gv.X
