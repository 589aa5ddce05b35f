import Derived.Test.YtjhfmibjphdanaaGreatDoorXH
set_option linter.all false
open Go.Gv.Tot renaming bindq→aa,ret→ab,if_→ad,it→ae
open Bool renaming false_eq_true→ac
namespace Go.Gv.X
open Go Go.Gv Go.Gv.D Go.Gv.R Go.Gv.P Go.Lib
set_option maxRecDepth 100000
/-! Own work: the second reader's classes and escapes (2). -/
/-- own name for the loop body 0 of ref4_scanner_set -/
noncomputable def setF (s_0:RSt) (fuel:Nat) (s27:((List (Int × Int)) × ((List Int) × Int × Int × Int × Bool × Bool × Bool))):Option (((List (Int × Int)) × RSt) ⊕ ((List (Int × Int)) × RSt)):=
 (if (!s27.2.2.2.2.2.1) then (Option.bind (ref4_scanner_member fuel (s_0.1,s27.2.2.1,s27.2.2.2.1,s27.2.2.2.2.1,s27.2.2.2.2.2.1,s27.2.2.2.2.2.2.1,s27.2.2.2.2.2.2.2)) fun r54=>(Option.bind (if (((List.length r54.2.1:Nat):Int)==0) then (Option.bind (ref4_scanner_eat fuel (s_0.1,r54.2.2.2.1,r54.2.2.2.2.1,r54.2.2.2.2.2.1,r54.2.2.2.2.2.2.1,r54.2.2.2.2.2.2.2.1,r54.2.2.2.2.2.2.2.2) (strOf [45])) fun r68=>(Option.bind (if r68.1 then (Option.bind (ref4_scanner_member fuel (s_0.1,r68.2.2.1,r68.2.2.2.1,r68.2.2.2.2.1,r68.2.2.2.2.2.1,r68.2.2.2.2.2.2.1,r68.2.2.2.2.2.2.2)) fun r78=>(if r78.2.2.2.2.2.2.1 then (some ((r78.1,(s_0.1,r78.2.2.2.1,r78.2.2.2.2.1,r78.2.2.2.2.2.1,true,r78.2.2.2.2.2.2.2.1,r78.2.2.2.2.2.2.2.2)))) else (if (decide (((List.length r78.2.1:Nat):Int)>0)) then (some ((r78.1,(s_0.1,r78.2.2.2.1,r78.2.2.2.2.1,r78.2.2.2.2.2.1,true,r78.2.2.2.2.2.2.2.1,r78.2.2.2.2.2.2.2.2)))) else (some ((r78.1,(s_0.1,r78.2.2.2.1,r78.2.2.2.2.1,r78.2.2.2.2.2.1,(decide (r78.1<r54.1)),r78.2.2.2.2.2.2.2.1,r78.2.2.2.2.2.2.2.2))))))) else (some ((r54.1,(s_0.1,r68.2.2.1,r68.2.2.2.1,r68.2.2.2.2.1,r68.2.2.2.2.2.1,r68.2.2.2.2.2.2.1,r68.2.2.2.2.2.2.2))))) fun (j75:(Int × ((List Int) × Int × Int × Int × Bool × Bool × Bool)))=>(some ((([(r54.1,j75.1)]:List (Int × Int)),(s_0.1,j75.2.2.1,j75.2.2.2.1,j75.2.2.2.2.1,j75.2.2.2.2.2.1,j75.2.2.2.2.2.2.1,j75.2.2.2.2.2.2.2)))))) else (some ((r54.2.1,(s_0.1,r54.2.2.2.1,r54.2.2.2.2.1,r54.2.2.2.2.2.1,r54.2.2.2.2.2.2.1,r54.2.2.2.2.2.2.2.1,r54.2.2.2.2.2.2.2.2))))) fun (j65:((List (Int × Int)) × ((List Int) × Int × Int × Int × Bool × Bool × Bool)))=>(Option.bind (app s27.1 j65.1) fun l196=>(Option.bind (ref4_scanner_eat fuel (s_0.1,j65.2.2.1,j65.2.2.2.1,j65.2.2.2.2.1,j65.2.2.2.2.2.1,j65.2.2.2.2.2.2.1,j65.2.2.2.2.2.2.2) (strOf [93])) fun r211=>(if r211.1 then (some (.inr ((l196,(s_0.1,r211.2.2.1,r211.2.2.2.1,r211.2.2.2.2.1,r211.2.2.2.2.2.1,r211.2.2.2.2.2.2.1,r211.2.2.2.2.2.2.2))))) else (some (.inl (l196,(s_0.1,r211.2.2.1,r211.2.2.2.1,r211.2.2.2.2.1,r211.2.2.2.2.2.1,r211.2.2.2.2.2.2.1,r211.2.2.2.2.2.2.2))))))))) else (some (.inr ((s27.1,(s_0.1,s27.2.2.1,s27.2.2.2.1,s27.2.2.2.2.1,s27.2.2.2.2.2.1,s27.2.2.2.2.2.2.1,s27.2.2.2.2.2.2.2))))))
theorem memQ_true {L:List Nat} {s:St} (ha:All s) {x:Int × List (Int × Int) × RSt} (h:memQ L true s x):∃ (c:Nat) (l:List (Int × Int)) (s'':St),c≤1114111∧s''.cs <:+ s.cs∧x=((c:Int),l,rp L true s''):=by
 unfold memQ at h
 cases hm:memA s with
 | none=>rw[hm]at h;obtain ⟨c,s'',h1,h2,h3⟩:=h;exact ⟨c,[],s'',h1,h2,h3⟩
 | some y=>
 rw[hm]at h
 cases y with
 | inr u=>obtain ⟨c,s'',h1,h2,h3⟩:=h;exact ⟨c,[],s'',h1,h2,h3⟩
 | inl y=>
 obtain ⟨m,s'⟩:=y
 obtain ⟨a1,a2,a3,a4⟩:=mem_spec ha hm
 cases m with
 | inl c=>exact ⟨c,[],s',by have:Scal c:=a4;unfold Scal at this;omega,a1,h⟩
 | inr l=>exact ⟨0,l,s',om,a1,h⟩
theorem setStep {L:List Nat} (hL:L.length≤1000) {s0 s:St} (hs:s.cs <:+ L) (ha:All s) {acc:List (Int × Int)} (hl:acc.length≤100000):
 Tot (fun n=>setF (rp L false s0) n (acc,rp L false s)) (fun x=>match itemA s with
  | some (.inl (l,s'))=>x=if pre [93] s'.cs then .inr (acc++l,rp L false (s'.skip 1)) else .inl (acc++l,rp L false s')
  | _=>∃ (l':List (Int × Int)) (s'':St),l'.length≤4∧Sml l'∧s''.cs <:+ s.cs∧(x= .inr (acc++l',rp L true s'')∨x= .inl (acc++l',rp L true s''))):=by
 have tail:∀ {b':Bool} {l:List (Int × Int)} {s2:St},s2.cs <:+ L→l.length≤4→Tot (fun n=>(app acc l).bind fun l196=>(ref4_scanner_eat n (rp L b' s2) (strOf [93])).bind fun r211=>if r211.1=true then (some (.inr (l196,(ints L,r211.2.2))):Option (((List (Int × Int)) × RSt) ⊕ ((List (Int × Int)) × RSt))) else some (.inl (l196,(ints L,r211.2.2)))) (· =if pre [93] s2.cs then .inr (acc++l,rp L b' (s2.skip 1)) else .inl (acc++l,rp L b' s2)):=fun {b' l s2} h2 h4=>by
  refine Tot.bind0 (app_ok om) (aa (eatR hL h2 (t:=[93]) ddc ddc rfl) fun a e=>?_)
  subst e
  cases hp:pre [93] s2.cs with
  | true=>exact ab rfl
  | false=>exact ab rfl
 have sml1:∀ {c d:Nat},d≤1114111→Sml [((c:Int),(d:Int))]:=fun {c d} h y hy=>by
  have:y=((c:Int),(d:Int)):=by simpa using hy
  rw[this];simp only;omega
 have bad:∀ {c d:Nat} {s2:St},s2.cs <:+ s.cs→d≤1114111→∀ x:((List (Int × Int)) × RSt) ⊕ ((List (Int × Int)) × RSt),(x=if pre [93] s2.cs then .inr (acc++[((c:Int),(d:Int))],rp L true (s2.skip 1)) else .inl (acc++[((c:Int),(d:Int))],rp L true s2))→
  ∃ (l':List (Int × Int)) (s'':St),l'.length≤4∧Sml l'∧s''.cs <:+ s.cs∧(x= .inr (acc++l',rp L true s'')∨x= .inl (acc++l',rp L true s'')):=fun {c d s2} h1 h2 x hx=>by
  split at hx
  ·exact ⟨_,s2.skip 1,by simp,sml1 h2,(skip_suf _ _).trans h1,.inl hx⟩
  ·exact ⟨_,s2,by simp,sml1 h2,h1,.inr hx⟩
 unfold setF
 refine ae rfl (aa (memberR hL hs ha) fun x hx=>?_)
 have err:∀ {c:Nat} {s1:St},c≤1114111→s1.cs <:+ s.cs→x=((c:Int),[],rp L true s1)→itemA s=er→Tot (fun n=>(ref4_scanner_eat n (rp L true s1) (strOf [45])).bind fun r68=>(if r68.1=true then (ref4_scanner_member n (ints L,r68.2.2)).bind fun r78=>if r78.2.2.2.2.2.2.1=true then some (r78.1,(ints L,r78.2.2.2.1,r78.2.2.2.2.1,r78.2.2.2.2.2.1,true,r78.2.2.2.2.2.2.2.1,r78.2.2.2.2.2.2.2.2)) else if decide (((r78.2.1.length:Nat):Int)>0)=true then some (r78.1,(ints L,r78.2.2.2.1,r78.2.2.2.2.1,r78.2.2.2.2.2.1,true,r78.2.2.2.2.2.2.2.1,r78.2.2.2.2.2.2.2.2)) else some (r78.1,(ints L,r78.2.2.2.1,r78.2.2.2.2.1,r78.2.2.2.2.2.1,decide (r78.1<(c:Int)),r78.2.2.2.2.2.2.2.1,r78.2.2.2.2.2.2.2.2)) else some ((c:Int),(ints L,r68.2.2))).bind fun j75=>some ([((c:Int),j75.1)],(ints L,j75.2.2)))
  (fun y=>∃ (d:Nat) (s2:St),d≤1114111∧s2.cs <:+ s.cs∧y=([((c:Int),(d:Int))],rp L true s2)):=fun {c s1} hc h1 hx he=>by
  refine aa (eatR hL (h1.trans hs) (t:=[45]) ddc ddc rfl) fun a e=>?_
  subst e
  cases hp:pre [45] s1.cs with
  | false=>exact ab ⟨c,s1,hc,h1,rfl⟩
  | true=>
    have h1':(s1.skip 1).cs <:+ s.cs:=(skip_suf _ _).trans h1
    refine Tot.assoc (aa (memberR (b:=true) (s:=s1.skip 1) hL (h1'.trans hs) (ha.suf h1')) fun y hy=>?_)
    obtain ⟨d,l,s2,d1,d2,rfl⟩:=memQ_true (ha.suf h1') hy
    exact ab ⟨d,s2,d1,d2.trans h1',rfl⟩
 unfold memQ at hx
 cases hm:memA s with
 | none=>exact absurd hm (mem_nn s)
 | some y=>
 rw[hm]at hx
 cases y with
 | inr u=>
   obtain ⟨c,s1,h1,h2,rfl⟩:=hx
   have hI:itemA s=er:=by unfold itemA;rw[hm];rfl
   rw[hI]
   refine aa (P:=fun y=>∃ (d:Nat) (s2:St),d≤1114111∧s2.cs <:+ s.cs∧y=([((c:Int),(d:Int))],rp L true s2)) (ae rfl (err h1 h2 rfl hI)) fun y hy=>?_
   obtain ⟨d,s2,d1,d2,rfl⟩:=hy
   exact (tail (d2.trans hs) (by simp)).mono (bad (c:=c) d2 d1)
 | inl y=>
 obtain ⟨m,s1⟩:=y
 obtain ⟨a1,a2,a3,a4⟩:=mem_spec ha hm
 have ha1:All s1:=ha.suf a1
 cases m with
 | inr l=>
   have hx:x=(0,l,rp L false s1):=hx
   subst hx
   have hI:itemA s=ok (l,s1):=by unfold itemA;rw[hm];rfl
   rw[hI]
   have a4:Rg l:=a4
   refine aa (P:=(· =(l,rp L false s1))) (ad ?_ (ab rfl)) fun y hy=>?_
   ·have:=List.length_pos_iff.2 a4.2.2
    simp;intro h;rw[h]at this;simp at this
   ·subst hy
    exact tail (b':=false) (a1.trans hs) (mem_len hm)
 | inl low=>
   have hx:x=((low:Int),[],rp L false s1):=hx
   subst hx
   have hlow:low≤1114111:=by have:Scal low:=a4;unfold Scal at this;omega
   have rng:Tot (fun n=>(ref4_scanner_eat n (rp L false s1) (strOf [45])).bind fun r68=>(if r68.1=true then (ref4_scanner_member n (ints L,r68.2.2)).bind fun r78=>if r78.2.2.2.2.2.2.1=true then some (r78.1,(ints L,r78.2.2.2.1,r78.2.2.2.2.1,r78.2.2.2.2.2.1,true,r78.2.2.2.2.2.2.2.1,r78.2.2.2.2.2.2.2.2)) else if decide (((r78.2.1.length:Nat):Int)>0)=true then some (r78.1,(ints L,r78.2.2.2.1,r78.2.2.2.2.1,r78.2.2.2.2.2.1,true,r78.2.2.2.2.2.2.2.1,r78.2.2.2.2.2.2.2.2)) else some (r78.1,(ints L,r78.2.2.2.1,r78.2.2.2.2.1,r78.2.2.2.2.2.1,decide (r78.1<(low:Int)),r78.2.2.2.2.2.2.2.1,r78.2.2.2.2.2.2.2.2)) else some ((low:Int),(ints L,r68.2.2))).bind fun j75=>some ([((low:Int),j75.1)],(ints L,j75.2.2)))
    (fun y=>match itemA s with
      | some (.inl (l,s'))=>l.length≤4∧s'.cs <:+ L∧y=(l,rp L false s')
      | _=>∃ (d:Nat) (s2:St),d≤1114111∧s2.cs <:+ s.cs∧y=([((low:Int),(d:Int))],rp L true s2)):=by
    refine aa (eatR hL (a1.trans hs) (t:=[45]) ddc ddc rfl) fun a e=>?_
    subst e
    cases hp:pre [45] s1.cs with
    | false=>
      have hI:itemA s=ok ([((low:Int),(low:Int))],s1):=by unfold itemA;rw[hm];simp only[Go.Gv.X.bd,hp];rfl
      rw[hI]
      exact ab ⟨by simp,a1.trans hs,rfl⟩
    | true=>
      have h1':(s1.skip 1).cs <:+ s.cs:=(skip_suf _ _).trans a1
      have hI:itemA s=bd (memA (s1.skip 1)) fun y=>(match y.1 with
       | .inl high=>if high<low then er else ok ([((low:Int),(high:Int))],y.2)
       | .inr _=>er):=by unfold itemA;rw[hm];simp only[Go.Gv.X.bd,hp];rfl
      rw[hI]
      refine Tot.assoc (aa (memberR (b:=false) (s:=s1.skip 1) hL (h1'.trans hs) (ha.suf h1')) fun y hy=>?_)
      unfold memQ at hy
      cases hm2:memA (s1.skip 1) with
      | none=>exact absurd hm2 (mem_nn _)
      | some z=>
      rw[hm2]at hy
      cases z with
      | inr u=>
        obtain ⟨d,s2,d1,d2,rfl⟩:=hy
        exact ab ⟨d,s2,d1,d2.trans h1',rfl⟩
      | inl z=>
      obtain ⟨m2,s2⟩:=z
      obtain ⟨b1,b2,b3,b4⟩:=mem_spec (ha.suf h1') hm2
      cases m2 with
      | inr l=>
        have hy:y=(0,l,rp L false s2):=hy
        subst hy
        have b4:Rg l:=b4
        have hpos:=List.length_pos_iff.2 b4.2.2
        refine aa (P:=(· =(0,rp L true s2))) (ad rfl (ae (dtt osm) (ab rfl))) fun a e=>?_
        subst e
        exact ab ⟨0,s2,om,b1.trans h1',rfl⟩
      | inl high=>
        have hy:y=((high:Int),[],rp L false s2):=hy
        subst hy
        have hhi:high≤1114111:=by have:Scal high:=b4;unfold Scal at this;omega
        refine aa (P:=(· =((high:Int),rp L (decide (high<low)) s2))) (ad rfl (ad rfl (ab ?_))) fun a e=>?_
        ·have:decide ((high:Int)<(low:Int))=decide (high<low):=by rw[Bool.eq_iff_iff];simp only[decide_eq_true_eq];omega
         simp only[this]
        ·subst e
         simp only[Go.Gv.X.bd]
         by_cases h5:high<low
         ·rw[if_pos h5,dtt h5]
          exact ab ⟨high,s2,hhi,b1.trans h1',rfl⟩
         ·rw[if_neg h5,dff h5]
          exact ab ⟨by simp,(b1.trans h1').trans hs,rfl⟩
   refine aa (ae rfl rng) fun y hy=>?_
   cases hI:itemA s with
   | none=>exact absurd hI (item_nn s)
   | some z=>
   rw[hI]at hy
   cases z with
   | inr u=>
     obtain ⟨d,s2,d1,d2,rfl⟩:=hy
     exact (tail (d2.trans hs) (by simp)).mono (bad (c:=low) d2 d1)
   | inl z=>
     obtain ⟨l,s'⟩:=z
     obtain ⟨h4,hs',rfl⟩:=hy
     exact tail hs' h4
end Go.Gv.X
namespace Go.Gv.X
open Go Go.Gv Go.Gv.D Go.Gv.R Go.Gv.P Go.Lib
set_option maxRecDepth 100000
/-! Own work: the second reader's classes and escapes (3). -/
def setQ (L:List Nat) (r:(List (Int × Int) × St) ⊕ Unit) (y:(List (Int × Int)) × RSt):Prop:=match r with
 | .inl (l,s')=>y=(l,rp L false s')
 | .inr _=>∃ (acc':List (Int × Int)) (s'':St),s''.cs <:+ L∧Sml acc'∧acc'.length≤100100∧y=(acc',rp L true s'')
theorem Sml.app {a b:List (Int × Int)} (h:Sml a) (h':Sml b):Sml (a++b):=fun y hy=>(List.mem_append.1 hy).elim (h y) (h' y)
theorem setBad (L:List Nat) (s0:St) (n:Nat) (acc:List (Int × Int)) (s:St):setF (rp L false s0) n (acc,rp L true s)=some (.inr (acc,rp L true s)):=rfl
theorem set_lt {L:List Nat} (hL:L.length≤1000) {s0:St}:∀ (k:Nat) (acc:List (Int × Int)) (s:St) (r:(List (Int × Int) × St) ⊕ Unit),All s→s.cs <:+ L→acc.length+4*s.cs.length≤100000→Sml acc→clsA k acc s=some r→
 LT (setF (rp L false s0)) (acc,rp L false s) (setQ L r)
 | 0,_,_,_,_,_,_,_,h=>by cases h
 | k+1,acc,s,r,ha,hs,hl,hsm,h=>by
   rw[clsA]at h
   obtain ⟨x,hx,N,hN⟩:=setStep hL (s0:=s0) hs ha (acc:=acc) om
   have hT:Tot (fun n=>setF (rp L false s0) n (acc,rp L false s)) (· =x):=⟨x,rfl,N,hN⟩
   cases hI:itemA s with
   | none=>exact absurd hI (item_nn s)
   | some z=>
   rw[hI]at hx h
   cases z with
   | inr u=>
     cases h
     obtain ⟨l',s'',h4,hs4,h5,h6⟩:=hx
     have hq:setQ L (.inr u) (acc++l',rp L true s''):=⟨_,s'',h5.trans hs,hsm.app hs4,by rw[List.length_append];omega,rfl⟩
     rcases h6 with rfl | rfl
     ·exact LT.fin hT hq
     ·exact LT.step hT (LT.fin (Tot.alln fun n=>setBad L s0 n _ _) hq)
   | inl z=>
     obtain ⟨l,s1⟩:=z
     obtain ⟨a1,a2,a3,a4⟩:=item_spec ha hI
     have h4:=item_len hI
     simp only[Go.Gv.X.bd]at h
     by_cases hp:pre [93] s1.cs=true
     ·rw[if_pos hp]at h
      cases h
      have hx:x= .inr (acc++l,rp L false (s1.skip 1)):=by rw[hx];rw[if_pos hp]
      rw[hx]at hT
      exact LT.fin hT rfl
     ·rw[if_neg hp]at h
      have hx:x= .inl (acc++l,rp L false s1):=by rw[hx];rw[if_neg hp]
      rw[hx]at hT
      exact LT.step hT (set_lt hL k (acc++l) s1 r (ha.suf a1) (a1.trans hs) (by rw[List.length_append];omega) (hsm.app a4.sml) h)
/-- what a reading step of the second reader gives -/
def ref1 (L:List Nat) (r:(Pc × St) ⊕ Unit) (x:PTu × RSt):Prop:=match r with
 | .inl (p,s')=>x=(p.un,rp L false s')
 | .inr _=>∃ s'':St,s''.cs <:+ L∧x.2=rp L true s''
theorem setR {L:List Nat} (hL:L.length≤1000) {k:Nat} {s:St} {r:(Pc × St) ⊕ Unit} (ha:All s) (hs:s.cs <:+ L) (h:classA k s=some r):Tot (fun n=>ref4_scanner_set n (rp L false s)) (ref1 L r):=by
 unfold ref4_scanner_set
 unfold classA at h
 have hsuf:(if pre [94] s.cs=true then s.skip 1 else s).cs <:+ s.cs:=by split;exact skip_suf _ _;exact List.suffix_refl _
 have ha0:All (if pre [94] s.cs=true then s.skip 1 else s):=ha.suf hsuf
 have hl0:=(hsuf.trans hs).length_le
 refine aa (eatR hL hs (t:=[94]) ddc ddc rfl) fun a e=>?_
 subst e
 rw[show (List.length [94])=1 from rfl]
 cases hc:clsA k [] (if pre [94] s.cs=true then s.skip 1 else s) with
 | none=>rw[hc]at h;cases h
 | some z=>
 rw[hc]at h
 refine aa (P:=setQ L z) (LT.tot (F:=setF (rp L false s)) (set_lt hL k [] _ z ha0 (hsuf.trans hs) oss (fun y hy=>by cases hy) hc)) fun y hy=>?_
 cases z with
 | inr u=>
   cases h
   obtain ⟨acc',s'',h5,h6,h7,rfl⟩:=hy
   refine aa (unitedR (l:=acc') om h6) fun m _=>?_
   refine aa (Tot.alln fun n=>pieceR n L true s'' _) fun a e=>?_
   subst e
   exact ab ⟨{ s'' with np:=s''.np+1},h5,rfl⟩
 | inl z=>
   obtain ⟨l,s1⟩:=z
   have hy:y=(l,rp L false s1):=hy
   subst hy
   have hlen:=cls_len k [] _ ha0 hc
   obtain ⟨a1,a2,a3,a4⟩:=cls_spec k [] _ ha0 (.inl rfl) hc
   simp only[List.length_nil]at hlen
   cases h
   refine aa (unitedR' (l:=l) om a4) fun m e=>?_
   subst e
   refine aa (Tot.alln fun n=>pieceR n L false s1 _) fun a e=>?_
   subst e
   exact ab rfl
theorem escapeR {L:List Nat} (hL:L.length≤1000) {s:St} {r:(Pc × St) ⊕ Unit} (ha:All s) (hs:s.cs <:+ L) (h:escA s=some r):Tot (fun n=>ref4_scanner_escape n (rp L false s)) (ref1 L r):=by
 unfold ref4_scanner_escape
 cases hcs:s.cs with
 | nil=>
   have hE:escA s=er:=by unfold escA;rw[hcs]
   rw[hE]at h
   cases h
   exact ae ((at_end hs).trans (dtt hcs)) (ab ⟨s,hs,rfl⟩)
 | cons c t=>
 have hc:Scal c:=ha c (by rw[hcs];simp)
 have hcc:c≤1114111:=by unfold Scal at hc;omega
 have hE:escA s=
  if c=98∨c=66 then ok (made { s with cs:=t} (.mk 6 0 0 (c==66) false [] [])) else
  if 49≤c∧c≤57 then ok (made { s with cs:=t,ls:=s.ls||decide (s.ng<c-48)} (.mk 12 ((c-48:Nat):Int) 0 false false [] [])) else
  if namedA c≠[] then ok (made { s with cs:=t} (.mk 3 0 0 false false (namedA c) [])) else
  if c=68∨c=87∨c=83 then ok (made { s with cs:=t} (.mk 3 0 0 true false (namedA (c+32)) [])) else
  match symA c with
  | none=>er
  | some d=>ok (made { s with cs:=t} (.mk 1 (d:Int) 0 false false [] [])):=by unfold escA;rw[hcs];rfl
 rw[hE]at h
 have hn:=atNext hL hs hcs
 have e:∀ (b' ls':Bool),(ints L,IntKind.i64.wrap (((L.length-s.cs.length:Nat):Int)+1),IntKind.i64.wrap (s.np:Int),(s.ng:Int),b',s.lg,ls')=rp L b' { s with cs:=t,ls:=ls'}:=fun b' ls'=>by rw[hn]
 refine ad ((at_end hs).trans (dff (by rw[hcs];simp))) (Tot.bind0 (idxH hs hcs) ?_)
 rw[show (rp L false s).2.1=((L.length-s.cs.length:Nat):Int) from rfl]
 simp only[hn]
 by_cases h1:c=98∨c=66
 ·rw[if_pos h1]at h
  cases h
  refine ae oss (aa (Tot.alln fun n=>pieceR n L false { s with cs:=t} _) fun a ea=>?_)
  subst ea
  refine ab ?_
  have:((c:Int)==66)=(c==66):=by rw[Bool.eq_iff_iff];simp;omega
  rw[this]
  rfl
 rw[if_neg h1]at h
 refine ad oss ?_
 by_cases h2:49≤c∧c≤57
 ·rw[if_pos h2]at h
  cases h
  refine ae oss ?_
  have e1:IntKind.i64.wrap ((c:Int)-48)=((c-48:Nat):Int):=by rw[i64_small om om];omega
  rw[e1]
  refine aa (P:=(· =rp L false { s with cs:=t,ls:=s.ls||decide (s.ng<c-48)})) ?_ fun a ea=>?_
  ·cases hls:s.ls with
   | true=>
     exact ae rfl (ab rfl)
   | false=>
     refine ad rfl (ab ?_)
     have e2:decide (((c-48:Nat):Int)>(s.ng:Int))=decide (s.ng<c-48):=by rw[Bool.eq_iff_iff];simp only[decide_eq_true_eq];omega
     rw[Bool.false_or,← e2]
  ·subst ea
   refine aa (Tot.alln fun n=>pieceR n L false { s with cs:=t,ls:=s.ls||decide (s.ng<c-48)} _) fun a ea=>?_
   subst ea
   exact ab rfl
 rw[if_neg h2]at h
 refine ad oss (aa (Tot.alln fun n=>classOf_eq n c) fun a ea=>?_)
 subst ea
 by_cases h3:namedA c≠[]
 ·rw[if_pos h3]at h
  cases h
  have h97:=named_low h3
  have hpos:=List.length_pos_iff.2 h3
  refine Tot.some_bind (ae (dtt (by rw[class_low h97];omega)) (aa (Tot.alln fun n=>classOf_eq n c) fun a ea=>?_))
  subst ea
  refine aa (Tot.alln fun n=>pieceR n L false { s with cs:=t} _) fun a ea=>?_
  subst ea
  refine ab ?_
  have:decide ((c:Int)<97)=false:=dff om
  rw[this,class_low h97]
  rfl
 rw[if_neg h3]at h
 by_cases h4:c=68∨c=87∨c=83
 ·rw[if_pos h4]at h
  cases h
  have hcl:classN c=namedA (c+32):=by unfold classN;rw[if_neg h3,if_pos h4]
  have hpos:0<(namedA (c+32)).length:=by rcases h4 with rfl | rfl | rfl<;>decide
  refine Tot.some_bind (ae (dtt (by rw[hcl];omega)) (aa (Tot.alln fun n=>classOf_eq n c) fun a ea=>?_))
  subst ea
  refine aa (Tot.alln fun n=>pieceR n L false { s with cs:=t} _) fun a ea=>?_
  subst ea
  refine ab ?_
  have:decide ((c:Int)<97)=true:=dtt om
  rw[this,hcl]
  rfl
 rw[if_neg h4]at h
 have hcl:classN c=[]:=by unfold classN;rw[if_neg h3,if_neg h4]
 refine Tot.some_bind (ad (by rw[hcl];rfl) (aa (signR (b:=false) hL hs hcs) fun a ea=>?_))
 cases hy:symA c with
 | none=>
   rw[hy]at ea h
   simp only at ea
   cases h
   subst ea
   refine aa (Tot.alln fun n=>pieceR n L true { s with cs:=t} _) fun a ea=>?_
   subst ea
   exact ab ⟨{ s with cs:=t,np:=s.np+1},(List.suffix_cons _ _).trans (hcs ▸ hs),rfl⟩
 | some d=>
   rw[hy]at ea h
   simp only at ea
   cases h
   subst ea
   refine aa (Tot.alln fun n=>pieceR n L false { s with cs:=t} _) fun a ea=>?_
   subst ea
   exact ab rfl
end Go.Gv.X
namespace Go.Gv.X
open Go Go.Gv Go.Gv.D Go.Gv.R Go.Gv.P Go.Lib
set_option maxRecDepth 100000
/-! Own work: the second reader's bounds. -/
/-- own name for a part of ref4_scanner_some -/
noncomputable def midR (fuel:Nat) (s_0:RSt) (r150:Int × RSt) (r157:Bool × RSt):Option (Int × RSt):=
 (if r157.1 then (Option.bind (ref4_scanner_is fuel (s_0.1,r157.2.2.1,r157.2.2.2.1,r157.2.2.2.2.1,r157.2.2.2.2.2.1,r157.2.2.2.2.2.2.1,r157.2.2.2.2.2.2.2) (strOf [125])) fun r167=>(if (!r167) then (Option.bind (ref4_scanner_number fuel (s_0.1,r157.2.2.1,r157.2.2.2.1,r157.2.2.2.2.1,r157.2.2.2.2.2.1,r157.2.2.2.2.2.2.1,r157.2.2.2.2.2.2.2)) fun r174=>(if r174.2.2.2.2.2.2.1 then (some ((r174.1,(s_0.1,r174.2.2.1,r174.2.2.2.1,r174.2.2.2.2.1,r174.2.2.2.2.2.1,true,r174.2.2.2.2.2.2.2)))) else (some ((r174.1,(s_0.1,r174.2.2.1,r174.2.2.2.1,r174.2.2.2.2.1,r174.2.2.2.2.2.1,(decide (r174.1<r150.1)),r174.2.2.2.2.2.2.2)))))) else (some (((-1),(s_0.1,r157.2.2.1,r157.2.2.2.1,r157.2.2.2.2.1,r157.2.2.2.2.2.1,r157.2.2.2.2.2.2.1,r157.2.2.2.2.2.2.2)))))) else (some ((r150.1,(s_0.1,r157.2.2.1,r157.2.2.2.1,r157.2.2.2.2.1,r157.2.2.2.2.2.1,r157.2.2.2.2.2.2.1,r157.2.2.2.2.2.2.2)))))
/-- own name for a part of ref4_scanner_some -/
noncomputable def bndR (fuel:Nat) (s_0:RSt) (r7:PTu × RSt):Option (Int × Int × RSt):=
 (if r7.2.2.2.2.2.1 then (some (((-2),(-2),(s_0.1,r7.2.2.1,r7.2.2.2.1,r7.2.2.2.2.1,r7.2.2.2.2.2.1,r7.2.2.2.2.2.2.1,r7.2.2.2.2.2.2.2)))) else (Option.bind (ref4_scanner_eat fuel (s_0.1,r7.2.2.1,r7.2.2.2.1,r7.2.2.2.2.1,r7.2.2.2.2.2.1,r7.2.2.2.2.2.2.1,r7.2.2.2.2.2.2.2) (strOf [42])) fun r59=>(if r59.1 then (some ((0,(-1),(s_0.1,r59.2.2.1,r59.2.2.2.1,r59.2.2.2.2.1,r59.2.2.2.2.2.1,r59.2.2.2.2.2.2.1,r59.2.2.2.2.2.2.2)))) else (Option.bind (ref4_scanner_eat fuel (s_0.1,r59.2.2.1,r59.2.2.2.1,r59.2.2.2.2.1,r59.2.2.2.2.2.1,r59.2.2.2.2.2.2.1,r59.2.2.2.2.2.2.2) (strOf [43])) fun r87=>(if r87.1 then (some ((1,(-1),(s_0.1,r87.2.2.1,r87.2.2.2.1,r87.2.2.2.2.1,r87.2.2.2.2.2.1,r87.2.2.2.2.2.2.1,r87.2.2.2.2.2.2.2)))) else (Option.bind (ref4_scanner_eat fuel (s_0.1,r87.2.2.1,r87.2.2.2.1,r87.2.2.2.2.1,r87.2.2.2.2.2.1,r87.2.2.2.2.2.2.1,r87.2.2.2.2.2.2.2) (strOf [63])) fun r113=>(if r113.1 then (some ((0,1,(s_0.1,r113.2.2.1,r113.2.2.2.1,r113.2.2.2.2.1,r113.2.2.2.2.2.1,r113.2.2.2.2.2.2.1,r113.2.2.2.2.2.2.2)))) else (Option.bind (ref4_scanner_eat fuel (s_0.1,r113.2.2.1,r113.2.2.2.1,r113.2.2.2.2.1,r113.2.2.2.2.2.1,r113.2.2.2.2.2.2.1,r113.2.2.2.2.2.2.2) (strOf [123])) fun r141=>(if r141.1 then (Option.bind (ref4_scanner_number fuel (s_0.1,r141.2.2.1,r141.2.2.2.1,r141.2.2.2.2.1,r141.2.2.2.2.2.1,r141.2.2.2.2.2.2.1,r141.2.2.2.2.2.2.2)) fun r150=>(Option.bind (ref4_scanner_eat fuel (s_0.1,r150.2.2.1,r150.2.2.2.1,r150.2.2.2.2.1,r150.2.2.2.2.2.1,r150.2.2.2.2.2.2.1,r150.2.2.2.2.2.2.2) (strOf [44])) fun r157=>(Option.bind (if r157.1 then (Option.bind (ref4_scanner_is fuel (s_0.1,r157.2.2.1,r157.2.2.2.1,r157.2.2.2.2.1,r157.2.2.2.2.2.1,r157.2.2.2.2.2.2.1,r157.2.2.2.2.2.2.2) (strOf [125])) fun r167=>(if (!r167) then (Option.bind (ref4_scanner_number fuel (s_0.1,r157.2.2.1,r157.2.2.2.1,r157.2.2.2.2.1,r157.2.2.2.2.2.1,r157.2.2.2.2.2.2.1,r157.2.2.2.2.2.2.2)) fun r174=>(if r174.2.2.2.2.2.2.1 then (some ((r174.1,(s_0.1,r174.2.2.1,r174.2.2.2.1,r174.2.2.2.2.1,r174.2.2.2.2.2.1,true,r174.2.2.2.2.2.2.2)))) else (some ((r174.1,(s_0.1,r174.2.2.1,r174.2.2.2.1,r174.2.2.2.2.1,r174.2.2.2.2.2.1,(decide (r174.1<r150.1)),r174.2.2.2.2.2.2.2)))))) else (some (((-1),(s_0.1,r157.2.2.1,r157.2.2.2.1,r157.2.2.2.2.1,r157.2.2.2.2.2.1,r157.2.2.2.2.2.2.1,r157.2.2.2.2.2.2.2)))))) else (some ((r150.1,(s_0.1,r157.2.2.1,r157.2.2.2.1,r157.2.2.2.2.1,r157.2.2.2.2.2.1,r157.2.2.2.2.2.2.1,r157.2.2.2.2.2.2.2))))) fun (j164:(Int × ((List Int) × Int × Int × Int × Bool × Bool × Bool)))=>(if j164.2.2.2.2.2.1 then (some ((r150.1,j164.1,(s_0.1,j164.2.2.1,j164.2.2.2.1,j164.2.2.2.2.1,true,j164.2.2.2.2.2.2.1,j164.2.2.2.2.2.2.2)))) else (Option.bind (ref4_scanner_eat fuel (s_0.1,j164.2.2.1,j164.2.2.2.1,j164.2.2.2.2.1,j164.2.2.2.2.2.1,j164.2.2.2.2.2.2.1,j164.2.2.2.2.2.2.2) (strOf [125])) fun r334=>(some ((r150.1,j164.1,(s_0.1,r334.2.2.1,r334.2.2.2.1,r334.2.2.2.2.1,(!r334.1),r334.2.2.2.2.2.2.1,r334.2.2.2.2.2.2.2))))))))) else (some (((-2),(-2),(s_0.1,r141.2.2.1,r141.2.2.2.1,r141.2.2.2.2.1,r141.2.2.2.2.2.1,r141.2.2.2.2.2.2.1,r141.2.2.2.2.2.2.2)))))))))))))
theorem R125:St9 [125]:=fun k=>by kernel_rfl
theorem numberR_true {L:List Nat} (hL:L.length≤1000) {s:St} (hs:s.cs <:+ L):
 Tot (fun n=>ref4_scanner_number n (rp L true s)) (fun x=>0≤x.1∧x.1≤401∧∃ s'',s''.cs <:+ s.cs∧x.2=rp L true s''):=by
 refine (numberR hL hs).mono ?_
 rintro x ⟨h0,h1,s'',h2,h3⟩
 refine ⟨h0,h1,s'',h2,?_⟩
 split at h3
 ·obtain ⟨rfl,h3,_⟩:=h3;exact h3
 ·exact h3
theorem midBad {L:List Nat} (hL:L.length≤1000) {s0 s:St} (hs:s.cs <:+ L) (v:Int × RSt) (pp:Bool):Tot (fun n=>midR n (rp L false s0) v (pp,rp L true s)) (fun y=>∃ s3:St,s3.cs <:+ L∧y.2=rp L true s3):=by
 unfold midR
 cases pp with
 | false=>exact ad rfl (ab ⟨s,hs,rfl⟩)
 | true=>
   refine ae rfl (aa (isR hL hs R125 ddc rfl) fun a e=>?_)
   subst e
   cases ah [125] s with
   | true=>exact ad rfl (ab ⟨s,hs,rfl⟩)
   | false=>
     refine ae rfl (aa (numberR_true hL hs) fun x hx=>?_)
     obtain ⟨v2,st⟩:=x
     obtain ⟨h0,h1,s'',h2,h3⟩:=hx
     simp only at h3
     subst h3
     cases hlg:s''.lg with
     | true=>exact ae hlg (ab ⟨{ s'' with lg:=true},h2.trans hs,rfl⟩)
     | false=>exact ad hlg (ab ⟨{ s'' with lg:=decide (v2<v.1)},h2.trans hs,rfl⟩)
def midA (lo:Int) (s2:St):Res (Int × St):=if pre [44] s2.cs then (if ah [125] (s2.skip 1) then ok (-1,s2.skip 1) else digitsA (s2.skip 1)) else ok (lo,s2)
def lgA (lo hi:Int) (s3:St):St:={ s3 with lg:=s3.lg||(decide (0≤hi)&&decide (hi<lo))}
theorem midGood {L:List Nat} (hL:L.length≤1000) {s0 s2:St} (hs:s2.cs <:+ L) {lo v:Int} (st:RSt) (hv:s2.lg=false→v=lo) (h0:0≤lo):Tot (fun n=>midR n (rp L false s0) (v,st) (pre [44] s2.cs,rp L false (if pre [44] s2.cs then s2.skip 1 else s2)))
 (fun y=>match midA lo s2 with
   | some (.inl (hi,s3))=>s3.cs <:+ L∧y.2=rp L false (lgA lo hi s3)∧((lgA lo hi s3).lg=false→v=lo∧y.1=hi)
   | _=>∃ s3:St,s3.cs <:+ L∧y.2=rp L true s3):=by
 unfold midR midA
 by_cases hp:pre [44] s2.cs=true
 ·simp only[hp,if_true]
  have hs':(s2.skip 1).cs <:+ L:=(skip_suf _ _).trans hs
  refine aa (isR hL hs' R125 ddc rfl) fun a e=>?_
  subst e
  by_cases ha:ah [125] (s2.skip 1)=true
  ·simp only[ha,if_true]
   refine ad rfl (ab ⟨hs',?_,fun hl=>⟨hv ?_,rfl⟩⟩)
   ·show rp L false (s2.skip 1)=_
    unfold lgA
    rw[show decide ((0:Int)≤ -1)=false from rfl,Bool.false_and,Bool.or_false]
   ·unfold lgA at hl
    simp only[Bool.or_eq_false_iff]at hl
    exact hl.1
  ·simp only[ha,ac,if_false]
   refine ae rfl (aa (numberR hL hs') fun x hx=>?_)
   obtain ⟨v2,st2⟩:=x
   obtain ⟨g0,g1,s'',g2,g3⟩:=hx
   cases hd:digitsA (s2.skip 1) with
   | none=>exact absurd hd (digits_nn _)
   | some z=>
   rw[hd]at g3
   cases z with
   | inr u=>
     simp only at g3
     subst g3
     cases hlg:s''.lg with
     | true=>exact ae hlg (ab ⟨{ s'' with lg:=true},g2.trans hs',rfl⟩)
     | false=>exact ad hlg (ab ⟨{ s'' with lg:=decide (v2<v)},g2.trans hs',rfl⟩)
   | inl z=>
     obtain ⟨hi,s3⟩:=z
     obtain ⟨rfl,g4,g5⟩:=g3
     simp only at g4 g5
     subst g4
     obtain ⟨d1,d2,d3,d4,d5,d6,d7,d8⟩:=digits_spec hd
     obtain ⟨cs3,np3,ng3,lg3,ls3⟩:=s''
     cases lg3 with
     | true=>exact ae rfl (ab ⟨d1.trans hs',rfl,fun hl=>by simp[lgA]at hl⟩)
     | false=>
       have hv:=hv (d6 rfl)
       have g5:=g5 rfl
       subst hv g5
       refine ad rfl (ab ⟨d1.trans hs',?_,fun _=>⟨rfl,rfl⟩⟩)
       unfold lgA
       rw[dtt d7]
       rfl
 ·simp only[Bool.eq_false_iff.2 hp,ac,if_false]
  refine ab ⟨hs,?_,fun hl=>?_⟩
  ·unfold lgA
   rw[show decide (lo<lo)=false from dff om,Bool.and_false,Bool.or_false]
  ·unfold lgA at hl
   simp only[Bool.or_eq_false_iff]at hl
   exact ⟨hv hl.1,hv hl.1⟩
def bndQ (L:List Nat) (s1:St) (x:Int × Int × RSt):Prop:=match boundsA s1 with
 | some (.inl (none,s2))=>x=(-2, -2,rp L false s2)
 | some (.inl (some b,s2))=>0≤x.1∧x.2.2=rp L false s2∧(s2.lg=false→x.1=b.1∧x.2.1=b.2)
 | _=>0≤x.1∧∃ s'':St,s''.cs <:+ L∧x.2.2=rp L true s''
theorem bndR_spec {L:List Nat} (hL:L.length≤1000) {s0 s1:St} (hs:s1.cs <:+ L) (q:PTu):Tot (fun n=>bndR n (rp L false s0) (q,rp L false s1)) (bndQ L s1):=by
 unfold bndR
 refine ad rfl ?_
 refine aa (eatR hL hs (t:=[42]) ddc ddc rfl) fun a e=>?_
 subst e
 unfold bndQ boundsA
 by_cases h1:pre [42] s1.cs=true
 ·simp only[h1,if_true]
  exact ab ⟨show (0:Int)≤_ by simp only;omega,rfl,fun _=>⟨rfl,rfl⟩⟩
 simp only[Bool.eq_false_iff.2 h1,ac,if_false]
 refine aa (eatR hL hs (t:=[43]) ddc ddc rfl) fun a e=>?_
 subst e
 by_cases h2:pre [43] s1.cs=true
 ·simp only[h2,if_true]
  exact ab ⟨show (0:Int)≤_ by simp only;omega,rfl,fun _=>⟨rfl,rfl⟩⟩
 simp only[Bool.eq_false_iff.2 h2,ac,if_false]
 refine aa (eatR hL hs (t:=[63]) ddc ddc rfl) fun a e=>?_
 subst e
 by_cases h3:pre [63] s1.cs=true
 ·simp only[h3,if_true]
  exact ab ⟨show (0:Int)≤_ by simp only;omega,rfl,fun _=>⟨rfl,rfl⟩⟩
 simp only[Bool.eq_false_iff.2 h3,ac,if_false]
 refine aa (eatR hL hs (t:=[123]) ddc ddc rfl) fun a e=>?_
 subst e
 by_cases h4:pre [123] s1.cs=true
 ·simp only[h4,if_true,Bool.not_true,ac,if_false,List.length_singleton]
  have hs':(s1.skip 1).cs <:+ L:=(skip_suf _ _).trans hs
  refine aa (numberR hL hs') fun x hx=>?_
  obtain ⟨v1,st1⟩:=x
  obtain ⟨g0,g1,s'',g2,g3⟩:=hx
  have g0:0≤v1:=g0
  cases hd:digitsA (s1.skip 1) with
  | none=>exact absurd hd (digits_nn _)
  | some z=>
  rw[hd]at g3
  cases z with
  | inr u=>
    simp only at g3
    subst g3
    refine aa (eatR (b:=true) hL (g2.trans hs') (t:=[44]) ddc ddc rfl) fun a e=>?_
    subst e
    have hs3:(if pre [44] s''.cs=true then s''.skip (List.length [44]) else s'').cs <:+ L:=by split;exact (skip_suf _ _).trans (g2.trans hs');exact g2.trans hs'
    refine aa (midBad (s0:=s0) hL hs3 (v1,rp L true s'') (pre [44] s''.cs)) fun y hy=>?_
    obtain ⟨v3,st3⟩:=y
    obtain ⟨s3,h5,h6⟩:=hy
    simp only at h6
    subst h6
    exact ae rfl (ab ⟨g0,s3,h5,rfl⟩)
  | inl z=>
    obtain ⟨lo,s2⟩:=z
    obtain ⟨rfl,g4,g5⟩:=g3
    simp only at g4 g5
    subst g4
    obtain ⟨d1,d2,d3,d4,d5,d6,d7,d8⟩:=digits_spec hd
    have hs2:=g2.trans hs'
    refine aa (eatR (b:=false) hL hs2 (t:=[44]) ddc ddc rfl) fun a e=>?_
    subst e
    refine aa (midGood (s0:=s0) hL hs2 (rp L false s'') g5 d7) fun y hy=>?_
    simp only[Go.Gv.X.bd]
    have hm:midA lo s''=(if pre [44] s''.cs=true then (if ah [125] (s''.skip 1)=true then ok (-1,s''.skip 1) else digitsA (s''.skip 1)) else ok (lo,s'')):=rfl
    rw[← hm]
    obtain ⟨v3,st3⟩:=y
    cases hma:midA lo s'' with
    | none=>unfold midA at hma;split at hma;split at hma;cases hma;exact absurd hma (digits_nn _);cases hma
    | some z=>
    rw[hma]at hy
    cases z with
    | inr u=>
      obtain ⟨s3,h5,h6⟩:=hy
      simp only at h6
      subst h6
      exact ae rfl (ab ⟨g0,s3,h5,rfl⟩)
    | inl z=>
      obtain ⟨hi,s3⟩:=z
      obtain ⟨h5,h6,h7⟩:=hy
      simp only at h6
      subst h6
      refine ad rfl (aa (eatR (b:=false) (s:=lgA lo hi s3) hL h5 (t:=[125]) ddc ddc rfl) fun a e=>?_)
      subst e
      rw[show (lgA lo hi s3).cs=s3.cs from rfl]
      by_cases h8:pre [125] s3.cs=true
      ·simp only[h8,if_true]
       exact ab ⟨g0,rfl,fun hl=>h7 hl⟩
      ·simp only[Bool.eq_false_iff.2 h8,ac,if_false]
       exact ab ⟨g0,lgA lo hi s3,h5,rfl⟩
 ·simp only[Bool.eq_false_iff.2 h4,ac,if_false,Bool.not_false,if_true]
  exact ab rfl
end Go.Gv.X
