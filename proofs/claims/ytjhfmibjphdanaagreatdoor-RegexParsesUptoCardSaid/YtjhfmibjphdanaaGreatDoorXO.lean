import Derived.Test.YtjhfmibjphdanaaGreatDoorXL
set_option linter.all false
open Go.Gv.Tot renaming bindq→aa,ret→ac,if_→ae,it→ai,bind0→am
open Bool renaming false_eq_true→ab,eq_iff_iff→aj,true_and→al
open List renaming length_append→ad,length_cons→ag,length_singleton→ak,length→ao
open Int renaming reduceBEq→af
namespace Go.Gv.X
open Go Go.Gv Go.Gv.D Go.Gv.R Go.Gv.P Go.Lib
set_option maxRecDepth 100000
/-! Own work: the second reader does what the abstract one does. -/
/-- own name for the loop body 0 of ref4_scanner_either -/
noncomputable def eitF (s_0:RSt) (fuel:Nat) (s9:((List Pc) × ((List Int) × Int × Int × Int × Bool × Bool × Bool))):Option (((List Pc) × RSt) ⊕ ((List Pc) × RSt)):=
 (Option.bind (ref4_scanner_row fuel (s_0.1,s9.2.2.1,s9.2.2.2.1,s9.2.2.2.2.1,s9.2.2.2.2.2.1,s9.2.2.2.2.2.2.1,s9.2.2.2.2.2.2.2)) fun r25=>(Option.bind (app s9.1 ([(Pc.of (r25.1.1,r25.1.2.1,r25.1.2.2.1,r25.1.2.2.2.1,r25.1.2.2.2.2.1,r25.1.2.2.2.2.2.1,r25.1.2.2.2.2.2.2))]:List Pc)) fun l79=>(Option.bind (if r25.2.2.2.2.2.1 then (some ((true,(s_0.1,r25.2.2.1,r25.2.2.2.1,r25.2.2.2.2.1,r25.2.2.2.2.2.1,r25.2.2.2.2.2.2.1,r25.2.2.2.2.2.2.2)))) else (Option.bind (ref4_scanner_eat fuel (s_0.1,r25.2.2.1,r25.2.2.2.1,r25.2.2.2.2.1,r25.2.2.2.2.2.1,r25.2.2.2.2.2.2.1,r25.2.2.2.2.2.2.2) (strOf [124])) fun r113=>(some (((!r113.1),(s_0.1,r113.2.2.1,r113.2.2.2.1,r113.2.2.2.2.1,r113.2.2.2.2.2.1,r113.2.2.2.2.2.2.1,r113.2.2.2.2.2.2.2)))))) fun (j107:(Bool × ((List Int) × Int × Int × Int × Bool × Bool × Bool)))=>(if j107.1 then (some (.inr ((l79,(s_0.1,j107.2.2.1,j107.2.2.2.1,j107.2.2.2.2.1,j107.2.2.2.2.2.1,j107.2.2.2.2.2.2.1,j107.2.2.2.2.2.2.2))))) else (some (.inl (l79,(s_0.1,j107.2.2.1,j107.2.2.2.1,j107.2.2.2.2.1,j107.2.2.2.2.2.1,j107.2.2.2.2.2.2.1,j107.2.2.2.2.2.2.2))))))))
/-- own name for the loop body 0 of ref4_scanner_row -/
noncomputable def rowF (s_0:RSt) (fuel:Nat) (s9:((List Pc) × ((List Int) × Int × Int × Int × Bool × Bool × Bool))):Option (((List Pc) × RSt) ⊕ ((List Pc) × RSt)):=
 (Option.bind (if (decide (s9.2.2.1<((ao s_0.1:Nat):Int))) then (Option.bind (ref4_scanner_is fuel (s_0.1,s9.2.2.1,s9.2.2.2.1,s9.2.2.2.2.1,s9.2.2.2.2.2.1,s9.2.2.2.2.2.2.1,s9.2.2.2.2.2.2.2) (strOf [124,41])) fun r32=>(if (!r32) then (some (((!s9.2.2.2.2.2.1),(s_0.1,s9.2.2.1,s9.2.2.2.1,s9.2.2.2.2.1,s9.2.2.2.2.2.1,s9.2.2.2.2.2.2.1,s9.2.2.2.2.2.2.2)))) else (some ((false,(s_0.1,s9.2.2.1,s9.2.2.2.1,s9.2.2.2.2.1,s9.2.2.2.2.2.1,s9.2.2.2.2.2.2.1,s9.2.2.2.2.2.2.2)))))) else (some ((false,(s_0.1,s9.2.2.1,s9.2.2.2.1,s9.2.2.2.2.1,s9.2.2.2.2.2.1,s9.2.2.2.2.2.2.1,s9.2.2.2.2.2.2.2))))) fun (j25:(Bool × ((List Int) × Int × Int × Int × Bool × Bool × Bool)))=>(if j25.1 then (Option.bind (ref4_scanner_some fuel (s_0.1,j25.2.2.1,j25.2.2.2.1,j25.2.2.2.2.1,j25.2.2.2.2.2.1,j25.2.2.2.2.2.2.1,j25.2.2.2.2.2.2.2)) fun r65=>(Option.bind (app s9.1 ([(Pc.of (r65.1.1,r65.1.2.1,r65.1.2.2.1,r65.1.2.2.2.1,r65.1.2.2.2.2.1,r65.1.2.2.2.2.2.1,r65.1.2.2.2.2.2.2))]:List Pc)) fun l119=>(some (.inl (l119,(s_0.1,r65.2.2.1,r65.2.2.2.1,r65.2.2.2.2.1,r65.2.2.2.2.2.1,r65.2.2.2.2.2.2.1,r65.2.2.2.2.2.2.2)))))) else (some (.inr ((s9.1,(s_0.1,j25.2.2.1,j25.2.2.2.1,j25.2.2.2.2.1,j25.2.2.2.2.2.1,j25.2.2.2.2.2.2.1,j25.2.2.2.2.2.2.2)))))))
/-- own name for a part of ref4_scanner_some -/
noncomputable def somR (fuel:Nat) (s_0:RSt) (r7:PTu × RSt) (j41:Int × Int × RSt):Option (PTu × RSt):=
 (if (j41.1==(-2)) then (some (((r7.1.1,r7.1.2.1,r7.1.2.2.1,r7.1.2.2.2.1,r7.1.2.2.2.2.1,r7.1.2.2.2.2.2.1,r7.1.2.2.2.2.2.2),(s_0.1,j41.2.2.2.1,j41.2.2.2.2.1,j41.2.2.2.2.2.1,j41.2.2.2.2.2.2.1,j41.2.2.2.2.2.2.2.1,j41.2.2.2.2.2.2.2.2)))) else (Option.bind (if j41.2.2.2.2.2.2.1 then (some ((s_0.1,j41.2.2.2.1,j41.2.2.2.2.1,j41.2.2.2.2.2.1,true,j41.2.2.2.2.2.2.2.1,j41.2.2.2.2.2.2.2.2))) else (if (r7.1.1==4) then (some ((s_0.1,j41.2.2.2.1,j41.2.2.2.2.1,j41.2.2.2.2.2.1,true,j41.2.2.2.2.2.2.2.1,j41.2.2.2.2.2.2.2.2))) else (if (r7.1.1==5) then (some ((s_0.1,j41.2.2.2.1,j41.2.2.2.2.1,j41.2.2.2.2.2.1,true,j41.2.2.2.2.2.2.2.1,j41.2.2.2.2.2.2.2.2))) else (if (r7.1.1==6) then (some ((s_0.1,j41.2.2.2.1,j41.2.2.2.2.1,j41.2.2.2.2.2.1,true,j41.2.2.2.2.2.2.2.1,j41.2.2.2.2.2.2.2.2))) else (some ((s_0.1,j41.2.2.2.1,j41.2.2.2.2.1,j41.2.2.2.2.2.1,(r7.1.1==11),j41.2.2.2.2.2.2.2.1,j41.2.2.2.2.2.2.2.2))))))) fun (j404:((List Int) × Int × Int × Int × Bool × Bool × Bool))=>(Option.bind (ref4_scanner_eat fuel (s_0.1,j404.2.1,j404.2.2.1,j404.2.2.2.1,j404.2.2.2.2.1,j404.2.2.2.2.2.1,j404.2.2.2.2.2.2) (strOf [63])) fun r487=>(Option.bind (if r487.2.2.2.2.2.1 then (some ((s_0.1,r487.2.2.1,r487.2.2.2.1,r487.2.2.2.2.1,true,r487.2.2.2.2.2.2.1,r487.2.2.2.2.2.2.2))) else (Option.bind (ref4_scanner_is fuel (s_0.1,r487.2.2.1,r487.2.2.2.1,r487.2.2.2.2.1,r487.2.2.2.2.2.1,r487.2.2.2.2.2.2.1,r487.2.2.2.2.2.2.2) (strOf [42,43,63,123])) fun r513=>(some ((s_0.1,r487.2.2.1,r487.2.2.2.1,r487.2.2.2.2.1,r513,r487.2.2.2.2.2.2.1,r487.2.2.2.2.2.2.2))))) fun (j493:((List Int) × Int × Int × Int × Bool × Bool × Bool))=>(Option.bind (ref4_scanner_piece fuel (s_0.1,j493.2.1,j493.2.2.1,j493.2.2.2.1,j493.2.2.2.2.1,j493.2.2.2.2.2.1,j493.2.2.2.2.2.2) (10,j41.1,j41.2.1,false,r487.1,([]:List (Int × Int)),([(Pc.of (r7.1.1,r7.1.2.1,r7.1.2.2.1,r7.1.2.2.2.1,r7.1.2.2.2.2.1,r7.1.2.2.2.2.2.1,r7.1.2.2.2.2.2.2))]:List Pc))) fun r579=>(some (((r579.1.1,r579.1.2.1,r579.1.2.2.1,r579.1.2.2.2.1,r579.1.2.2.2.2.1,r579.1.2.2.2.2.2.1,r579.1.2.2.2.2.2.2),(s_0.1,r579.2.2.1,r579.2.2.2.1,r579.2.2.2.2.1,r579.2.2.2.2.2.1,r579.2.2.2.2.2.2.1,r579.2.2.2.2.2.2.2)))))))))
theorem R40:St9 [40]:=fun k=>by kernel_rfl
theorem R124:St9 [124,41]:=fun k=>by kernel_rfl
theorem R42:St9 [42,43,63,123]:=fun k=>by kernel_rfl
theorem R42b:St9 [42,43,63,123,125,93,41]:=fun k=>by kernel_rfl
def ref2 (L:List Nat) (r:(Pc × St) ⊕ Unit) (x:PTu × RSt):Prop:=match r with
 | .inl (p,s')=>x.2=rp L false s'∧x.1.1=Pc.kind p∧(s'.lg=false→x.1=p.un)
 | .inr _=>∃ s'':St,s''.cs <:+ L∧x.2=rp L true s''
def PL (lg:Bool) (l m:List Pc):Prop:=m.map Pc.kind=l.map Pc.kind∧(lg=false→m=l)
theorem PL.len {lg:Bool} {l m:List Pc} (h:PL lg l m):m.length=l.length:=by have:=congrArg ao h.1;simpa using this
theorem PL.snoc {lg lg':Bool} {l m:List Pc} {p p':Pc} (h:PL lg l m) (hl:lg'=false→lg=false) (hk:Pc.kind p'=Pc.kind p) (hp:lg'=false→p'=p):PL lg' (l++[p]) (m++[p']):=
 ⟨by simp[h.1,hk],fun e=>by rw[h.2 (hl e),hp e]⟩
theorem of_un (p:Pc):Pc.of p.un=p:=by cases p;rfl
theorem kind_of (q:PTu):Pc.kind (Pc.of q)=q.1:=rfl
def lpQ (L:List Nat) (kk:Int) (r:(Pc × St) ⊕ Unit) (y:List Pc × RSt):Prop:=
 (∃ (l':List Pc) (s':St),PL s'.lg l' y.1∧y.2=rp L false s'∧r= .inl (wrapA kk l' s'))∨(r= .inr ()∧∃ s'':St,s''.cs <:+ L∧y.2=rp L true s'')
theorem ref2_fix {L:List Nat} {r:(Pc × St) ⊕ Unit} {a:PTu × RSt} (h:ref2 L r a):ref2 L r (a.1,(ints L,a.2.2)):=by
 obtain ⟨q,st⟩:=a
 cases r with
 | inr u=>
   obtain ⟨s'',h1,h2⟩:=h
   simp only at h2
   subst h2
   exact ⟨s'',h1,rfl⟩
 | inl z=>
   obtain ⟨p,s'⟩:=z
   obtain ⟨h1,h2,h3⟩:=h
   simp only at h1 h2 h3
   subst h1
   exact ⟨rfl,h2,h3⟩
theorem wrapR {L:List Nat} {kk:Int} {r:(Pc × St) ⊕ Unit} {y:List Pc × RSt} (h:lpQ L kk r y):
 Tot (fun n=>if (((y.1.length:Nat):Int)==1)=true then (idx y.1 0).bind fun x=>some (x.un,(ints L,y.2.2)) else (ref4_scanner_piece n (ints L,y.2.2) (kk,0,0,false,false,[],y.1)).bind fun r=>some (r.1,(ints L,r.2.2))) (ref2 L r):=by
 obtain ⟨m,st⟩:=y
 rcases h with ⟨l',s',h1,h2,rfl⟩ | ⟨rfl,s'',h1,h2⟩
 ·simp only at h1 h2
  subst h2
  have hlen:=h1.len
  match l',m,hlen with
  | [],[],_=>
    refine ae rfl (aa (Tot.alln fun n=>pieceR n L false s' _) fun a e=>?_)
    subst e
    exact ac ⟨rfl,rfl,fun _=>rfl⟩
  | [p],[p'],_=>
    refine ai rfl (am (a:=p') rfl (ac ⟨rfl,?_,fun hl=>?_⟩))
    ·have:=h1.1
     simp only[List.map_cons,List.map_nil,List.cons.injEq,and_true]at this
     cases p';exact this
    ·have:=h1.2 hl
     simp only[List.cons.injEq,and_true]at this
     rw[this]
  | p::q::l,p'::q'::m,_=>
    refine ae oss (aa (Tot.alln fun n=>pieceR n L false s' _) fun a e=>?_)
    subst e
    refine ac ⟨rfl,rfl,fun hl=>?_⟩
    have:=h1.2 hl
    rw[this];rfl
 ·simp only at h2
  subst h2
  by_cases hl:m.length=1
  ·match m,hl with
   | [p'],_=>exact ai rfl (am (a:=p') rfl (ac ⟨s'',h1,rfl⟩))
  ·refine ae oss (aa (Tot.alln fun n=>pieceR n L true s'' _) fun a e=>?_)
   subst e
   exact ac ⟨{ s'' with np:=s''.np+1},h1,rfl⟩
theorem rowC {L:List Nat} (hL:L.length≤1000) {b:Bool} {s:St} (hs:s.cs <:+ L):
 Tot (fun n=>if decide ((rp L b s).2.1<(((ints L).length:Nat):Int))=true then (ref4_scanner_is n (rp L b s) (strOf [124,41])).bind fun r32=>if (!r32)=true then some (!b,rp L b s) else some (false,rp L b s) else some (false,rp L b s))
  (· =(decide (¬ (s.cs=[]∨ah [124,41] s=true))&& !b,rp L b s)):=by
 have hat:=at_end hs
 have hd:decide ((rp L b s).2.1<(((ints L).length:Nat):Int))=decide (¬ s.cs=[]):=by
  have h1:decide (((L.length-s.cs.length:Nat):Int)<(((ints L).length:Nat):Int))= !decide (((L.length-s.cs.length:Nat):Int)≥(((ints L).length:Nat):Int)):=by rw[aj];simp
  rw[h1,hat,aj];simp
 by_cases hc:s.cs=[]
 ·refine ae (hd.trans (by simp[hc])) (ac ?_)
  rw[dff (fun h=>h (.inl hc))];rfl
 ·refine ai (hd.trans (by simp[hc])) (aa (isR hL hs R124 ddc rfl) fun a e=>?_)
  subst e
  cases ha:ah [124,41] s with
  | true=>exact ae rfl (ac (by simp))
  | false=>exact ai rfl (ac (by simp[hc]))
theorem read_ref {L:List Nat} (hL:L.length≤1000):∀ k:Nat,
 (∀ s r,Gd s→s.cs <:+ L→altsA k s=some r→Tot (fun n=>ref4_scanner_either n (rp L false s)) (ref2 L r))∧
 (∀ l m s s0 r,Gd s→s.cs <:+ L→l.length+s.cs.length≤100000→PL s.lg l m→altRA k l s=some r→(pre [124] s.cs=true→LT (eitF (rp L false s0)) (m,rp L false (s.skip 1)) (lpQ L 9 r))∧(pre [124] s.cs=false→lpQ L 9 r (m,rp L false s)))∧
 (∀ s r,Gd s→s.cs <:+ L→seqA k s=some r→Tot (fun n=>ref4_scanner_row n (rp L false s)) (ref2 L r))∧
 (∀ l m s s0 r,Gd s→s.cs <:+ L→l.length+s.cs.length≤100000→PL s.lg l m→seqRA k l s=some r→LT (rowF (rp L false s0)) (m,rp L false s) (lpQ L 8 r))∧
 (∀ s r,Gd s→s.cs <:+ L→s.cs≠[]→ah [124,41] s=false→repA k s=some r→Tot (fun n=>ref4_scanner_some n (rp L false s)) (ref2 L r))∧
 (∀ s r,Gd s→s.cs <:+ L→s.cs≠[]→ah [124,41] s=false→atomA k s=some r→Tot (fun n=>ref4_scanner_atom n (rp L false s)) (ref2 L r))∧
 (∀ s kd low no r,Gd s→s.cs <:+ L→insA k s kd low no=some r→Tot (fun n=>ref4_scanner_bracket n (rp L false s) (kd,low,0,no,false,[],[])) (ref2 L r)):=by
 intro k
 induction k with
 | zero=>exact ⟨fun _ _ _ _ h=>(by cases h),fun _ _ _ _ _ _ _ _ _ h=>(by cases h),fun _ _ _ _ h=>(by cases h),fun _ _ _ _ _ _ _ _ _ h=>(by cases h),fun _ _ _ _ _ _ h=>(by cases h),fun _ _ _ _ _ _ h=>(by cases h),fun _ _ _ _ _ _ _ h=>(by cases h)⟩
 | succ k ih=>
   obtain ⟨iA,iAR,iS,iSR,iR,iAt,iI⟩:=ih
   obtain ⟨oA,oAR,oS,oSR,oR,oAt,oI⟩:=read_ok k
   have eitStep:∀ l m s s0 r,Gd s→s.cs <:+ L→l.length+s.cs.length+1≤100000→PL s.lg l m→(bd (seqA k s) fun x=>altRA k (l++[x.1]) x.2)=some r→LT (eitF (rp L false s0)) (m,rp L false s) (lpQ L 9 r):=fun l m s s0 r hg hs hl hpl h=>by
    cases h1:seqA k s with
    | none=>rw[h1]at h;cases h
    | some x=>
    rw[h1]at h
    obtain ⟨v,hv,N,hN⟩:=iS s _ hg hs h1
    have hT:Tot (fun n=>ref4_scanner_row n (rp L false s)) (· =v):=⟨v,rfl,N,hN⟩
    have hml:=hpl.len
    cases x with
    | inr u=>
      cases h
      obtain ⟨q,st⟩:=v
      obtain ⟨s'',h2,h3⟩:=hv
      simp only at h3
      subst h3
      refine LT.fin (r:=(m++[Pc.of q],rp L true s'')) ?_ (.inr ⟨rfl,s'',h2,rfl⟩)
      unfold eitF
      refine aa hT fun a e=>?_
      subst e
      exact am (app_ok oss) (ac rfl)
    | inl x=>
      obtain ⟨p,s1⟩:=x
      obtain ⟨q,st⟩:=v
      obtain ⟨h3,h4,h5⟩:=hv
      simp only at h3 h4 h5
      subst h3
      have hi:=(oS s _ hg.1 h1).inv
      have hle:s1.cs.length≤s.cs.length:=hi.cs.length_le
      have hs1:s1.cs <:+ L:=hi.cs.trans hs
      have hsn:PL s1.lg (l++[p]) (m++[Pc.of q]):=hpl.snoc hi.lg (by rw[kind_of];exact h4) (fun e=>by rw[h5 e,of_un])
      obtain ⟨hy,hn⟩:=iAR (l++[p]) (m++[Pc.of q]) s1 s0 r (hg.inv hi) hs1 (by rw[ad,ak];omega) hsn h
      have hstep:Tot (fun n=>eitF (rp L false s0) n (m,rp L false s)) (· =if pre [124] s1.cs=true then .inl (m++[Pc.of q],rp L false (s1.skip 1)) else .inr (m++[Pc.of q],rp L false s1)):=by
       unfold eitF
       refine aa hT fun a e=>?_
       subst e
       refine am (app_ok oss) ?_
       refine aa (P:=(· =(!pre [124] s1.cs,rp L false (if pre [124] s1.cs then s1.skip 1 else s1)))) (ae rfl (aa (eatR hL hs1 (t:=[124]) ddc ddc rfl) fun a e=>ac (by rw[e];rfl))) fun a e=>?_
       subst e
       cases pre [124] s1.cs with
       | true=>exact ae rfl (ac rfl)
       | false=>exact ai rfl (ac rfl)
      cases hp:pre [124] s1.cs with
      | true=>exact LT.step (hstep.mono fun a e=>by rw[e,hp,if_pos rfl]) (hy hp)
      | false=>exact LT.fin (hstep.mono fun a e=>by rw[e,hp,if_neg ddc]) (hn hp)
   refine ⟨fun s r hg hs h=>?_,fun l m s s0 r hg hs hl hpl h=>⟨fun hp=>?_,fun hp=>?_⟩,fun s r hg hs h=>?_,fun l m s s0 r hg hs hl hpl h=>?_,fun s r hg hs hne hah h=>?_,fun s r hg hs hne hah h=>?_,fun s kd low no r hg hs h=>?_⟩
   · -- alternatives
     rw[altsA]at h
     refine Tot.suc (Tot.eqf (fun n=>ref4_scanner_either.eq_2 ..) ?_)
     have:=hg.2.1
     refine aa (LT.tot (F:=eitF (rp L false s)) (eitStep [] [] s s r hg hs oss ⟨rfl,fun _=>rfl⟩ h)) fun y hy=>?_
     exact wrapR hy
   · -- more alternatives
     rw[altRA,if_pos hp]at h
     have hlen:(s.skip 1).cs.length+1=s.cs.length:=skip_len (t:=[124]) hp
     exact eitStep l m (s.skip 1) s0 r (hg.skip 1) ((skip_suf _ _).trans hs) om hpl h
   · -- no more
     rw[altRA,if_neg (by rw[hp];decide)]at h
     cases h
     exact .inl ⟨l,s,hpl,rfl,rfl⟩
   · -- a sequence
     rw[seqA]at h
     refine Tot.suc (Tot.eqf (fun n=>ref4_scanner_row.eq_2 ..) ?_)
     have:=hg.2.1
     refine aa (LT.tot (F:=rowF (rp L false s)) (iSR [] [] s s r hg hs oss ⟨rfl,fun _=>rfl⟩ h)) fun y hy=>?_
     exact wrapR hy
   · -- more of a sequence
     rw[seqRA]at h
     have hml:=hpl.len
     by_cases hp:s.cs=[]∨ah [124,41] s=true
     ·rw[if_pos hp]at h
      cases h
      refine LT.fin (r:=(m,rp L false s)) ?_ (.inl ⟨l,s,hpl,rfl,rfl⟩)
      unfold rowF
      refine aa (rowC (b:=false) hL hs) fun a e=>?_
      subst e
      exact ae (by rw[dff (not_not_intro hp)];rfl) (ac rfl)
     ·rw[if_neg hp]at h
      have hp1:s.cs≠[]:=fun e=>hp (.inl e)
      have hp2:ah [124,41] s=false:=Bool.eq_false_iff.2 fun e=>hp (.inr e)
      cases h1:repA k s with
      | none=>rw[h1]at h;cases h
      | some x=>
      rw[h1]at h
      obtain ⟨v,hv,N,hN⟩:=iR s _ hg hs hp1 hp2 h1
      have hT:Tot (fun n=>ref4_scanner_some n (rp L false s)) (· =v):=⟨v,rfl,N,hN⟩
      obtain ⟨q,st⟩:=v
      have hstep:Tot (fun n=>rowF (rp L false s0) n (m,rp L false s)) (· = .inl (m++[Pc.of q],(ints L,st.2))):=by
       unfold rowF
       refine aa (rowC (b:=false) hL hs) fun a e=>?_
       subst e
       refine ai (by rw[dtt hp];rfl) (aa hT fun a e=>?_)
       subst e
       exact am (app_ok oss) (ac rfl)
      cases x with
      | inr u=>
        cases h
        obtain ⟨s'',h2,h3⟩:=hv
        simp only at h3
        subst h3
        refine LT.step hstep (LT.fin (r:=(m++[Pc.of q],rp L true s'')) ?_ (.inr ⟨rfl,s'',h2,rfl⟩))
        unfold rowF
        refine aa (rowC (b:=true) hL h2) fun a e=>?_
        subst e
        exact ae (by rw[Bool.not_true,Bool.and_false]) (ac rfl)
      | inl x=>
        obtain ⟨p,s1⟩:=x
        obtain ⟨h3,h4,h5⟩:=hv
        simp only at h3 h4 h5
        subst h3
        have hR:=oR s _ hg.1 h1
        have hi:=hR.inv
        have hle:=hR.sz
        have hpos:=size_pos p
        simp only at hle
        have hsn:PL s1.lg (l++[p]) (m++[Pc.of q]):=hpl.snoc hi.lg (by rw[kind_of];exact h4) (fun e=>by rw[h5 e,of_un])
        exact LT.step hstep (iSR (l++[p]) (m++[Pc.of q]) s1 s0 r (hg.inv hi) (hi.cs.trans hs) (by rw[ad,ak];omega) hsn h)
   · -- a repetition
     rw[repA]at h
     refine Tot.suc (Tot.eqf (fun n=>ref4_scanner_some.eq_2 ..) ?_)
     cases h1:atomA k s with
     | none=>rw[h1]at h;cases h
     | some x=>
     rw[h1]at h
     refine aa (iAt s _ hg hs hne hah h1) fun a ha=>?_
     obtain ⟨q,st⟩:=a
     cases x with
     | inr u=>
       cases h
       obtain ⟨s'',h2,h3⟩:=ha
       simp only at h3
       subst h3
       refine aa (P:=(· =(-2, -2,rp L true s''))) (ai rfl (ac rfl)) fun a e=>?_
       subst e
       exact ai rfl (ac ⟨s'',h2,rfl⟩)
     | inl x=>
     obtain ⟨p,s1⟩:=x
     obtain ⟨h3,h4,h5⟩:=ha
     simp only at h3 h4 h5
     subst h3
     have hi:=(oAt s _ hg.1 h1).inv
     have hs1:s1.cs <:+ L:=hi.cs.trans hs
     simp only[bd]at h
     refine aa (bndR_spec (s0:=s) hL hs1 q) fun y hy=>?_
     unfold bndQ at hy
     have tail:∀ (v v':Int) (b:Bool) (s2:St),0≤v→s2.cs <:+ L→y=(v,v',rp L b s2)→∀ Q:PTu × RSt→Prop,Q ((10,v,v',false,pre [63] s2.cs,[],[Pc.of q]),rp L ((b||decide (q.1=4∨q.1=5∨q.1=6∨q.1=11))||ah [42,43,63,123] (if pre [63] s2.cs=true then s2.skip 1 else s2)) { (if pre [63] s2.cs=true then s2.skip 1 else s2) with np:=(if pre [63] s2.cs=true then s2.skip 1 else s2).np+1})→Tot (fun n=>somR n (rp L false s) (q,rp L false s1) y) Q:=fun v v' b s2 h0 hs2 hy Q hQ=>by
      subst hy
      unfold somR
      refine ae oss ?_
      refine aa (P:=(· =rp L (b||decide (q.1=4∨q.1=5∨q.1=6∨q.1=11)) s2)) ?_ fun a e=>?_
      ·cases b with
       | true=>exact ai rfl (ac rfl)
       | false=>
         refine ae rfl ?_
         by_cases k4:q.1=4
         ·exact ai (beq_iff_eq.2 k4) (ac (by simp[k4]))
         refine ae (beq_eq_false_iff_ne.2 k4) ?_
         by_cases k5:q.1=5
         ·exact ai (beq_iff_eq.2 k5) (ac (by simp[k5]))
         refine ae (beq_eq_false_iff_ne.2 k5) ?_
         by_cases k6:q.1=6
         ·exact ai (beq_iff_eq.2 k6) (ac (by simp[k6]))
         refine ae (beq_eq_false_iff_ne.2 k6) (ac ?_)
         simp only[k4,k5,k6,false_or,Bool.false_or]
         congr 5
      ·subst e
       generalize (b||decide (q.1=4∨q.1=5∨q.1=6∨q.1=11))=b1 at hQ ⊢
       refine aa (eatR hL hs2 (t:=[63]) ddc ddc rfl) fun a e=>?_
       subst e
       rw[ak]
       have hs3:(if pre [63] s2.cs=true then s2.skip 1 else s2).cs <:+ L:=by split;exact (skip_suf _ _).trans hs2;exact hs2
       generalize (if pre [63] s2.cs=true then s2.skip 1 else s2)=s3 at hs3 hQ ⊢
       refine aa (P:=(· =rp L (b1||ah [42,43,63,123] s3) s3)) ?_ fun a e=>?_
       ·cases b1 with
        | true=>exact ai rfl (ac rfl)
        | false=>exact ae rfl (aa (isR hL hs3 R42 ddc rfl) fun a e=>ac (by rw[e];rfl))
       ·subst e
        refine aa (Tot.alln fun n=>pieceR n L _ s3 _) fun a e=>?_
        subst e
        exact ac hQ
     cases hb:boundsA s1 with
     | none=>rw[hb]at h;cases h
     | some z=>
     rw[hb]at h hy
     cases z with
     | inr u=>
       cases h
       obtain ⟨v,v',st⟩:=y
       obtain ⟨g0,s'',g1,g2⟩:=hy
       simp only at g2
       subst g2
       refine tail v v' true s'' g0 g1 rfl _ ?_
       simp only[Bool.true_or]
       exact ⟨_,by split;exact (skip_suf _ _).trans g1;exact g1,rfl⟩
     | inl z=>
     obtain ⟨bo,s2⟩:=z
     obtain ⟨b1,b2,b3,b4,b5,b6,b7⟩:=bounds_spec hb
     have hs2:s2.cs <:+ L:=b2.trans hs1
     cases bo with
     | none=>
       cases h
       have hy:y=(-2, -2,rp L false s2):=hy
       subst hy
       have:s2=s1:=b1 rfl
       subst this
       exact ai rfl (ac ⟨rfl,h4,h5⟩)
     | some bb=>
       obtain ⟨lo,hi'⟩:=bb
       obtain ⟨v,v',st⟩:=y
       obtain ⟨g0,g1,g2⟩:=hy
       simp only at g1 g2
       subst g1
       refine tail v v' false s2 g0 hs2 rfl _ ?_
       simp only at h
       have hs3:(if pre [63] s2.cs=true then s2.skip 1 else s2).cs <:+ L:=by split;exact (skip_suf _ _).trans hs2;exact hs2
       have hlg3:(if pre [63] s2.cs=true then s2.skip 1 else s2).lg=s2.lg:=by split<;>rfl
       generalize (if pre [63] s2.cs=true then s2.skip 1 else s2)=s3 at hs3 hlg3 h ⊢
       have hk:q.1=Pc.kind p:=h4
       rw[hk]
       by_cases hkd:Pc.kind p=4∨Pc.kind p=5∨Pc.kind p=6∨Pc.kind p=11
       ·rw[if_pos hkd]at h
        cases h
        rw[dtt hkd]
        exact ⟨{ s3 with np:=s3.np+1},hs3,rfl⟩
       rw[if_neg hkd]at h
       rw[dff hkd]
       by_cases hq:ah [42,43,63,123] s3=true
       ·rw[if_pos hq]at h
        cases h
        rw[hq]
        exact ⟨{ s3 with np:=s3.np+1},hs3,rfl⟩
       ·rw[if_neg hq]at h
        cases h
        rw[Bool.eq_false_iff.2 hq]
        refine ⟨rfl,rfl,fun hl=>?_⟩
        have hl2:s2.lg=false:=hlg3 ▸ hl
        obtain ⟨rfl,rfl⟩:=g2 hl2
        rw[h5 (b6 hl2),of_un]
        rfl
   · -- an atom
     rw[atomA]at h
     refine Tot.suc (Tot.eqf (fun n=>ref4_scanner_atom.eq_2 ..) ?_)
     obtain ⟨c,t,hcs⟩:∃ c t,s.cs=c::t:=by
      cases hc:s.cs with
      | nil=>exact absurd hc hne
      | cons c t=>exact ⟨c,t,rfl⟩
     have hah0:ah [124,41] s=[124,41].contains c:=by unfold ah;rw[hcs]
     refine aa (eatR hL hs (t:=[40,63,58]) ddc ddc rfl) fun a e=>?_
     subst e
     by_cases hp:pre [40,63,58] s.cs=true
     ·rw[if_pos hp]at h
      simp only[hp,if_true]
      exact aa (iI (s.skip 3) _ _ _ r (hg.skip 3) ((skip_suf _ _).trans hs) h) fun a e=>ac (ref2_fix e)
     rw[if_neg hp]at h
     simp only[Bool.eq_false_iff.2 hp,ab,if_false]
     clear hp
     refine aa (eatR hL hs (t:=[40,63,61]) ddc ddc rfl) fun a e=>?_
     subst e
     by_cases hp:pre [40,63,61] s.cs=true
     ·rw[if_pos hp]at h
      simp only[hp,if_true]
      exact aa (iI (s.skip 3) _ _ _ r (hg.skip 3) ((skip_suf _ _).trans hs) h) fun a e=>ac (ref2_fix e)
     rw[if_neg hp]at h
     simp only[Bool.eq_false_iff.2 hp,ab,if_false]
     clear hp
     refine aa (eatR hL hs (t:=[40,63,33]) ddc ddc rfl) fun a e=>?_
     subst e
     by_cases hp:pre [40,63,33] s.cs=true
     ·rw[if_pos hp]at h
      simp only[hp,if_true]
      exact aa (iI (s.skip 3) _ _ _ r (hg.skip 3) ((skip_suf _ _).trans hs) h) fun a e=>ac (ref2_fix e)
     rw[if_neg hp]at h
     simp only[Bool.eq_false_iff.2 hp,ab,if_false]
     clear hp
     have hq:Tot (fun n=>(ref4_scanner_is n (rp L false s) (strOf [40])).bind fun r153=>if r153=true then (if decide (IntKind.i64.wrap ((rp L false s).2.1+1)<(((ints L).length:Nat):Int))=true then (idx (ints L) (IntKind.i64.wrap ((rp L false s).2.1+1))).bind fun x166=>some (x166==63,rp L false s) else some (false,rp L false s)) else some (false,rp L false s)) (· =(pre [40,63] s.cs,rp L false s)):=by
      refine aa (isR hL hs R40 ddc rfl) fun a e=>?_
      subst e
      rw[show (rp L false s).2.1=((L.length-s.cs.length:Nat):Int) from rfl,atNext hL hs hcs]
      by_cases h40:c=40
      ·subst h40
       refine ai (by unfold ah;rw[hcs];rfl) ?_
       have hst:t <:+ L:=(List.suffix_cons _ _).trans (hcs ▸ hs)
       cases t with
       | nil=>
         refine ae (dff (by rw[ints_len];simp)) (ac ?_)
         rw[hcs];rfl
       | cons d u=>
         have hlen:=hst.length_le
         rw[ag]at hlen
         refine ai (dtt (by rw[ints_len,ag];omega)) (am (idxH (s:={ s with cs:=d::u}) hst rfl) (ac ?_))
         rw[hcs,pre_cons]
         congr 1
         by_cases h63:d=63
         ·subst h63;rw[pre_cons,pre_nil];rfl
         ·rw[pre_ne (Ne.symm h63)];simp;omega
      ·refine ae (by unfold ah;rw[hcs];simpa using h40) (ac ?_)
       rw[hcs,pre_ne (Ne.symm h40)]
     refine aa hq fun a e=>?_
     subst e
     by_cases hp:pre [40,63] s.cs=true
     ·rw[if_pos hp]at h
      cases h
      exact ai hp (ac ⟨s,hs,rfl⟩)
     rw[if_neg hp]at h
     refine ae (Bool.eq_false_iff.2 hp) ?_
     clear hp
     refine aa (eatR hL hs (t:=[40]) ddc ddc rfl) fun a e=>?_
     subst e
     by_cases hp:pre [40] s.cs=true
     ·rw[if_pos hp]at h
      simp only[hp,if_true]
      have hlen:(s.skip 1).cs.length+1=s.cs.length:=skip_len (t:=[40]) hp
      have hgi:Gd { s.skip 1 with ng:=s.ng+1}:=⟨(hg.skip 1).1,(hg.skip 1).2.1,by have:=hg.2.2;show s.ng+1+(s.skip 1).cs.length≤_;omega⟩
      have hw:IntKind.i64.wrap ((s.ng:Int)+1)=((s.ng+1:Nat):Int):=by have:=hg.2.2;rw[i64_small om om];rfl
      have hh:=iI { s.skip 1 with ng:=s.ng+1} _ _ _ r hgi ((skip_suf _ _).trans hs) h
      have hw':IntKind.i64.wrap (((s.skip 1).ng:Int)+1)=((s.ng+1:Nat):Int):=hw
      rw[show (ao [40])=1 from rfl,hw']
      exact aa hh fun a e=>ac (ref2_fix e)
     rw[if_neg hp]at h
     simp only[Bool.eq_false_iff.2 hp,ab,if_false]
     clear hp
     refine aa (eatR hL hs (t:=[91]) ddc ddc rfl) fun a e=>?_
     subst e
     by_cases hp:pre [91] s.cs=true
     ·rw[if_pos hp]at h
      simp only[hp,if_true]
      refine aa (setR hL (hg.skip 1).1 ((skip_suf s 1).trans hs) h) fun a e=>ac ?_
      cases r with
      | inr u=>exact ref2_fix (r:=.inr u) e
      | inl z=>
        obtain ⟨p,s'⟩:=z
        have e:a=(p.un,rp L false s'):=e
        subst e
        exact ⟨rfl,by cases p;rfl,fun _=>rfl⟩
     rw[if_neg hp]at h
     simp only[Bool.eq_false_iff.2 hp,ab,if_false]
     clear hp
     by_cases h92:c=92
     ·subst h92
      rw[if_pos (show pre [92] s.cs=true by rw[hcs,pre_cons,pre_nil])]at h
      refine aa (eatR hL hs (t:=[46]) ddc ddc rfl) fun a e=>?_
      subst e
      rw[show pre [46] s.cs=false by rw[hcs];exact pre_ne ddc]
      simp only[ab,if_false]
      refine aa (eatR hL hs (t:=[94]) ddc ddc rfl) fun a e=>?_
      subst e
      rw[show pre [94] s.cs=false by rw[hcs];exact pre_ne ddc]
      simp only[ab,if_false]
      refine aa (eatR hL hs (t:=[36]) ddc ddc rfl) fun a e=>?_
      subst e
      rw[show pre [36] s.cs=false by rw[hcs];exact pre_ne ddc]
      simp only[ab,if_false]
      refine aa (isR hL hs R42b ddc rfl) fun a e=>?_
      subst e
      refine ae (by unfold ah;rw[hcs];rfl) (aa (eatR hL hs (t:=[92]) ddc ddc rfl) fun a e=>?_)
      subst e
      rw[show pre [92] s.cs=true by rw[hcs,pre_cons,pre_nil]]
      refine ai rfl (aa (escapeR (s:=s.skip 1) hL (hg.skip 1).1 ((skip_suf s 1).trans hs) h) fun a e=>ac ?_)
      cases r with
      | inr u=>exact ref2_fix (r:=.inr u) e
      | inl z=>
        obtain ⟨p,s'⟩:=z
        have e:a=(p.un,rp L false s'):=e
        subst e
        exact ⟨rfl,by cases p;rfl,fun _=>rfl⟩
     rw[if_neg (show ¬ pre [92] s.cs=true by rw[hcs,pre_ne (Ne.symm h92)];decide)]at h
     refine aa (eatR hL hs (t:=[46]) ddc ddc rfl) fun a e=>?_
     subst e
     by_cases hp:pre [46] s.cs=true
     ·rw[if_pos hp]at h
      simp only[hp,if_true]
      cases h
      refine aa (Tot.alln fun n=>pieceR n L false (s.skip 1) _) fun a e=>?_
      subst e
      exact ac ⟨rfl,rfl,fun _=>rfl⟩
     rw[if_neg hp]at h
     simp only[Bool.eq_false_iff.2 hp,ab,if_false]
     clear hp
     refine aa (eatR hL hs (t:=[94]) ddc ddc rfl) fun a e=>?_
     subst e
     by_cases hp:pre [94] s.cs=true
     ·rw[if_pos hp]at h
      simp only[hp,if_true]
      cases h
      refine aa (Tot.alln fun n=>pieceR n L false (s.skip 1) _) fun a e=>?_
      subst e
      exact ac ⟨rfl,rfl,fun _=>rfl⟩
     rw[if_neg hp]at h
     simp only[Bool.eq_false_iff.2 hp,ab,if_false]
     clear hp
     refine aa (eatR hL hs (t:=[36]) ddc ddc rfl) fun a e=>?_
     subst e
     by_cases hp:pre [36] s.cs=true
     ·rw[if_pos hp]at h
      simp only[hp,if_true]
      cases h
      refine aa (Tot.alln fun n=>pieceR n L false (s.skip 1) _) fun a e=>?_
      subst e
      exact ac ⟨rfl,rfl,fun _=>rfl⟩
     rw[if_neg hp]at h
     simp only[Bool.eq_false_iff.2 hp,ab,if_false]
     clear hp
     refine aa (isR hL hs R42b ddc rfl) fun a e=>?_
     subst e
     have h41:c≠41:=fun e=>by rw[hah0,e]at hah;simp at hah
     have hset:ah [42,43,63,123,125,93,41] s=ah [42,43,63,123,125,93] s:=by
      unfold ah
      rw[hcs,aj]
      simp[h41]
     rw[hset]
     by_cases hp:ah [42,43,63,123,125,93] s=true
     ·rw[if_pos hp]at h
      cases h
      exact ai hp (ac ⟨s,hs,rfl⟩)
     rw[if_neg hp]at h
     refine ae (Bool.eq_false_iff.2 hp) (aa (eatR hL hs (t:=[92]) ddc ddc rfl) fun a e=>?_)
     subst e
     rw[show pre [92] s.cs=false by rw[hcs];exact pre_ne (Ne.symm h92)]
     simp only[ab,if_false]
     have hlen:=suf_len hs
     rw[atNext hL hs hcs]
     have hb:IntKind.i64.wrap (((L.length-t.length:Nat):Int)-1)=((L.length-s.cs.length:Nat):Int):=by
      rw[hcs,ag]at hlen ⊢
      rw[i64_small om om];omega
     rw[hb]
     refine am (idxH hs hcs) (aa (Tot.alln fun n=>pieceR n L false { s with cs:=t} _) fun a e=>?_)
     subst e
     have h:some (Sum.inl (made { s with cs:=t} (.mk 1 (c:Int) 0 false false [] [])))=some r:=by rw[← h];rw[hcs];rfl
     cases h
     exact ac ⟨rfl,rfl,fun _=>rfl⟩
   · -- what is inside
     rw[insA]at h
     refine Tot.suc (Tot.eqf (fun n=>ref4_scanner_bracket.eq_2 ..) ?_)
     cases h1:altsA k s with
     | none=>rw[h1]at h;cases h
     | some x=>
     rw[h1]at h
     refine aa (iA s _ hg hs h1) fun a ha=>?_
     obtain ⟨q,st⟩:=a
     cases x with
     | inr u=>
       cases h
       obtain ⟨s'',h2,h3⟩:=ha
       simp only at h3
       subst h3
       refine aa (P:=(· =rp L true s'')) (ai rfl (ac rfl)) fun a e=>?_
       subst e
       refine aa (Tot.alln fun n=>pieceR n L true s'' _) fun a e=>?_
       subst e
       exact ac ⟨{ s'' with np:=s''.np+1},h2,rfl⟩
     | inl x=>
       obtain ⟨p,s1⟩:=x
       obtain ⟨h3,h4,h5⟩:=ha
       simp only at h3 h4 h5
       subst h3
       have hs1:s1.cs <:+ L:=(oA s _ hg.1 h1).inv.cs.trans hs
       simp only[bd]at h
       refine aa (P:=(· =rp L (!pre [41] s1.cs) (if pre [41] s1.cs then s1.skip 1 else s1))) (ae rfl (aa (eatR hL hs1 (t:=[41]) ddc ddc rfl) fun a e=>ac (by rw[e];rfl))) fun a e=>?_
       subst e
       refine aa (Tot.alln fun n=>pieceR n L _ _ _) fun a e=>?_
       subst e
       by_cases hp:pre [41] s1.cs=true
       ·rw[if_pos hp]at h
        cases h
        simp only[hp,if_true]
        refine ac ⟨rfl,rfl,fun hl=>?_⟩
        rw[h5 hl]
        show (kd,low,0,no,false,[],[Pc.of p.un])=(kd,low,0,no,false,[],[p])
        rw[of_un]
       ·rw[if_neg hp]at h
        cases h
        simp only[Bool.eq_false_iff.2 hp,ab,if_false]
        exact ac ⟨{ s1 with np:=s1.np+1},hs1,rfl⟩
end Go.Gv.X
namespace Go.Gv.X
open Go Go.Gv Go.Gv.D Go.Gv.R Go.Gv.P Go.Lib
set_option maxRecDepth 100000
/-! Own work: what is asked of one piece. -/
/-- own name for the loop body 0 of regex_ordered -/
noncomputable def ordF (l_0:List (Int × Int)) (fuel:Nat) (s4:Int):Option (Int ⊕ (Unit ⊕ Bool)):=
 (if (decide (s4<((ao l_0:Nat):Int))) then (Option.bind (idx l_0 s4) fun x9=>(Option.bind (Option.bind (regex_scalar fuel x9.1) fun r28=>(if (!r28) then (some (true)) else (Option.bind (regex_scalar fuel x9.2) fun r45=>(if (!r45) then (some (true)) else (if (decide (x9.1>x9.2)) then (some (true)) else (if (decide (s4>0)) then (Option.bind (idx l_0 (IntKind.i64.wrap (s4-1))) fun x70=>(some ((decide (x9.1≤(IntKind.i64.wrap (x70.2+1))))))) else (some (false)))))))) fun (j22:Bool)=>(if j22 then (some (.inr (.inr (false)))) else (some (.inl (IntKind.i64.wrap (s4+1))))))) else (some (.inr (.inl ()))))
/-- own name for the loop body 0 of slices_Index_sint_int -/
noncomputable def idxF (s_0:List Int) (v_1:Int) (s4:Int):Option (Int ⊕ (Unit ⊕ Int)):=
 (if (decide (s4<((ao s_0:Nat):Int))) then (Option.bind (idx s_0 s4) fun x9=>(if (v_1==x9) then (some (.inr (.inr (s4)))) else (some (.inl (IntKind.i64.wrap (s4+1)))))) else (some (.inr (.inl ()))))
/-- own name for the loop body 0 of api_Piece_1_1_1 -/
noncomputable def kinF (s_0:List Pc) (f_1c0:List Int) (fuel:Nat) (s4:Int):Option (Int ⊕ (Unit ⊕ Int)):=
 (if (decide (s4<((ao s_0:Nat):Int))) then (Option.bind (idx s_0 s4) fun x10=>(Option.bind (regex_formed_1_1 fuel ((Pc.un x10).1,(Pc.un x10).2.1,(Pc.un x10).2.2.1,(Pc.un x10).2.2.2.1,(Pc.un x10).2.2.2.2.1,(Pc.un x10).2.2.2.2.2.1,(Pc.un x10).2.2.2.2.2.2) f_1c0) fun r19=>(if r19 then (some (.inr (.inr (s4)))) else (some (.inl (IntKind.i64.wrap (s4+1))))))) else (some (.inr (.inl ()))))
theorem scalar_eq (n:Nat) (c:Int):regex_scalar n c=some (scal c):=by
 unfold regex_scalar utf8_ValidRune scal
 by_cases h1:c≥0
 ·rw[if_pos (dtt h1)]
  by_cases h2:c≤1114111
  ·rw[if_pos (dtt h2)]
   have hw:IntKind.i32.wrap c=c:=by simp[IntKind.wrap,IntKind.signed,IntKind.bits];omega
   rw[hw]
   by_cases h3:c<55296
   ·rw[if_pos oss,dtt om];rfl
   ·rw[if_neg oss]
    by_cases h4:57343<c
    ·rw[if_pos oss,dtt om];rfl
    ·rw[if_neg oss,dff om];rfl
  ·rw[if_neg (by simpa using h2),dff om];rfl
 ·rw[if_neg (by simpa using h1),dff om];rfl
def nxt:Option Int→Int→Bool
 | none,_=>true
 | some h,lo=>decide (h+1<lo)
def ordT:List (Int × Int)→Option Int→Bool
 | [],_=>true
 | x::r,prev=>(scal x.1&&(scal x.2&&(decide (x.1≤x.2)&&nxt prev x.1)))&&ordT r (some x.2)
def ordS (prev:Option Int) (l:List (Int × Int)):Bool:=ordT l prev
theorem ordS_nil (prev:Option Int):ordS prev []=true:=rfl
theorem ordS_cons (prev:Option Int) (x:Int × Int) (r:List (Int × Int)):ordS prev (x::r)=((scal x.1&&(scal x.2&&(decide (x.1≤x.2)&&nxt prev x.1)))&&ordS (some x.2) r):=rfl
theorem ordS_some (h:Int) (y:Int × Int) (r:List (Int × Int)):ordS (some h) (y::r)=(decide (h+1<y.1)&&ordS none (y::r)):=by
 rw[ordS_cons,ordS_cons]
 show ((scal y.1&&(scal y.2&&(decide (y.1≤y.2)&&decide (h+1<y.1))))&&_)=(decide (h+1<y.1)&&((scal y.1&&(scal y.2&&(decide (y.1≤y.2)&&true)))&&_))
 generalize ordS (some y.2) r=z
 generalize decide (h+1<y.1)=u
 cases scal y.1<;>cases scal y.2<;>cases decide (y.1≤y.2)<;>cases u<;>cases z<;>rfl
theorem ordS_eq:∀ l:List (Int × Int),ordS none l=ordR l
 | []=>rfl
 | [x]=>by rw[ordS_cons,ordS_nil,ordR];simp[nxt]
 | x::y::r=>by
   have ih:=ordS_eq (y::r)
   rw[ordR,← ih,← ordS_some]
   rw[ordS_cons]
   simp only[nxt,Bool.and_true,Bool.and_assoc]
theorem scal_rng {c:Int} (h:scal c=true):0≤c∧c≤1114111:=by
 unfold scal at h
 simp only[decide_eq_true_eq]at h
 omega
/-- the high end before a place -/
def prevH (pre:List (Int × Int)) (prev:Option Int):Prop:=match prev with
 | none=>pre=[]
 | some h=>(∃ p' y,pre=p'++[y]∧y.2=h)∧0≤h∧h≤1114111
theorem prev_snoc {pre:List (Int × Int)} {x:Int × Int} (h:scal x.2=true):prevH (pre++[x]) (some x.2):=⟨⟨pre,x,rfl,rfl⟩,scal_rng h⟩
theorem ord_lt {l:List (Int × Int)} (hl:l.length≤4000000000000000000):∀ (rest pre:List (Int × Int)) (prev:Option Int),l=pre++rest→prevH pre prev→LT (ordF l) (pre.length:Int) (· =if ordS prev rest then .inl () else .inr false)
 | [],pre,prev,e,_=>by
   refine LT.fin (r:=.inl ()) (Tot.alln fun n=>?_) (by rw[ordS_nil,if_pos rfl])
   unfold ordF
   rw[if_neg]
   rw[e,List.append_nil,dff om];decide
 | x::rest,pre,prev,e,hp=>by
   have hlen:=hl
   rw[e,ad,ag]at hlen
   have hstep:∀ n,ordF l n (pre.length:Int)=if (scal x.1&&(scal x.2&&(decide (x.1≤x.2)&&nxt prev x.1)))=true then some (.inl ((pre.length+1:Nat):Int)) else some (.inr (.inr false)):=fun n=>by
    unfold ordF
    rw[if_pos (dtt (by rw[e,ad,ag];omega))]
    rw[show idx l (pre.length:Int)=some x by rw[e];exact get_mid pre x rest rfl]
    simp only[Option.bind_some]
    rw[scalar_eq,i64_small (x:=(pre.length:Int)+1) om om]
    simp only[Option.bind_some]
    cases h1:scal x.1 with
    | false=>rfl
    | true=>
    simp only[Bool.not_true,ab,if_false,al]
    rw[scalar_eq]
    simp only[Option.bind_some]
    cases h2:scal x.2 with
    | false=>rfl
    | true=>
    simp only[Bool.not_true,ab,if_false,al]
    by_cases h3:x.1≤x.2
    ·rw[if_neg (by rw[dff om];decide),dtt h3,al]
     cases prev with
     | none=>
       have hp:pre=[]:=hp
       subst hp
       rfl
     | some h=>
       obtain ⟨⟨p',y,rfl,rfl⟩,h4,h5⟩:=hp
       rw[if_pos (dtt (by simp))]
       have hw:IntKind.i64.wrap ((((p'++[y]).length:Nat):Int)-1)=(p'.length:Int):=by
        rw[ad,ak]at hlen ⊢
        rw[i64_small om om];omega
       rw[hw,show idx l (p'.length:Int)=some y by rw[e,List.append_assoc];exact get_mid p' y _ rfl]
       simp only[Option.bind_some]
       rw[i64_small (x:=y.2+1) om om]
       by_cases h6:y.2+1<x.1
       ·rw[dff om,show nxt (some y.2) x.1=true from dtt h6];rfl
       ·rw[dtt om,show nxt (some y.2) x.1=false from dff h6];rfl
    ·rw[if_pos (dtt om),dff h3]
     rfl
   rw[ordS_cons]
   generalize hc:(scal x.1&&(scal x.2&&(decide (x.1≤x.2)&&nxt prev x.1)))=c at hstep ⊢
   cases c with
   | false=>
     exact LT.fin (r:=.inr false) (Tot.alln fun n=>by rw[hstep];rfl) rfl
   | true=>
     have h2:scal x.2=true:=by simp only[Bool.and_eq_true]at hc;exact hc.2.1
     have ih:=ord_lt hl rest (pre++[x]) (some x.2) (by rw[e];simp) (prev_snoc h2)
     rw[show (((pre++[x]).length:Nat):Int)=((pre.length+1:Nat):Int) by simp]at ih
     rw[al]
     exact LT.step (Tot.alln fun n=>by rw[hstep];rfl) ih
theorem ordered_tot {l:List (Int × Int)} (hl:l.length≤4000000000000000000):Tot (fun n=>regex_ordered n l) (· =(ordR l&& !l.isEmpty)):=by
 unfold regex_ordered
 refine aa (LT.tot (F:=ordF l) (ord_lt hl l [] none rfl rfl)) fun a e=>?_
 subst e
 rw[ordS_eq]
 cases ordR l with
 | false=>exact ac rfl
 | true=>
   refine ac ?_
   cases l with
   | nil=>rfl
   | cons x l=>simp
theorem contains_lt {ks:List Int} (hl:ks.length≤1000) (v:Int):∀ (rest pre:List Int),ks=pre++rest→LT (fun _=>idxF ks v) (pre.length:Int) (fun y=>(rest.contains v=true∧∃ i:Int,0≤i∧y= .inr i)∨(rest.contains v=false∧y= .inl ()))
 | [],pre,e=>by
   refine LT.fin (Tot.alln fun n=>?_) (.inr ⟨rfl,rfl⟩)
   unfold idxF
   rw[if_neg]
   rw[e,List.append_nil,dff om];decide
 | x::rest,pre,e=>by
   have hlen:=hl
   rw[e,ad,ag]at hlen
   have hstep:idxF ks v (pre.length:Int)=if v=x then some (.inr (.inr (pre.length:Int))) else some (.inl ((pre.length+1:Nat):Int)):=by
    unfold idxF
    rw[if_pos (dtt (by rw[e,ad,ag];omega))]
    rw[show idx ks (pre.length:Int)=some x by rw[e];exact get_mid pre x rest rfl]
    simp only[Option.bind_some]
    rw[i64_small (x:=(pre.length:Int)+1) om om]
    by_cases h:v=x
    ·rw[if_pos h,if_pos (beq_iff_eq.2 h)]
    ·rw[if_neg h,if_neg (by simpa using h)];rfl
   by_cases h:v=x
   ·exact LT.fin (Tot.alln fun n=>by rw[hstep,if_pos h]) (.inl ⟨by simp[h],(pre.length:Int),om,rfl⟩)
   ·have ih:=contains_lt hl v rest (pre++[x]) (by rw[e];simp)
    rw[show (((pre++[x]).length:Nat):Int)=((pre.length+1:Nat):Int) by simp]at ih
    have hc:(x::rest).contains v=rest.contains v:=by rw[List.contains_cons];simp[h]
    rw[hc]
    exact LT.step (Tot.alln fun n=>by rw[hstep,if_neg h]) ih
theorem contains_tot {ks:List Int} (hl:ks.length≤1000) (v:Int):Tot (fun n=>slices_Contains_sint_int n ks v) (· =ks.contains v):=by
 unfold slices_Contains_sint_int slices_Index_sint_int
 refine aa (P:=fun r=>decide (r≥0)=ks.contains v) (aa (LT.tot (F:=fun _=>idxF ks v) (contains_lt hl v ks [] rfl)) fun y hy=>?_) fun a e=>ac e
 rcases hy with ⟨h1,i,h2,rfl⟩ | ⟨h1,rfl⟩
 ·exact ac (by rw[h1];exact dtt h2)
 ·exact ac (by rw[h1];rfl)
theorem kin_cons (ks:List Int) (p:Pc) (l:List Pc):kin ks (p::l)=(ks.contains (Pc.kind p)||kin ks l):=by unfold kin;rw[List.any_cons]
theorem kind_un (p:Pc):(Pc.un p).1=Pc.kind p:=by cases p;rfl
theorem kin_lt {ks:List Int} (hk:ks.length≤1000) {l:List Pc} (hl:l.length≤4000000000000000000):∀ (rest pre:List Pc),l=pre++rest→LT (kinF l ks) (pre.length:Int) (fun y=>(kin ks rest=true∧∃ i:Int,0≤i∧y= .inr i)∨(kin ks rest=false∧y= .inl ()))
 | [],pre,e=>by
   refine LT.fin (Tot.alln fun n=>?_) (.inr ⟨rfl,rfl⟩)
   unfold kinF
   rw[if_neg]
   rw[e,List.append_nil,dff om];decide
 | x::rest,pre,e=>by
   have hlen:=hl
   rw[e,ad,ag]at hlen
   have hstep:Tot (fun n=>kinF l ks n (pre.length:Int)) (· =if ks.contains (Pc.kind x)=true then .inr (.inr (pre.length:Int)) else .inl ((pre.length+1:Nat):Int)):=by
    unfold kinF
    refine ai (dtt (by rw[e,ad,ag];omega)) ?_
    refine am (show idx l (pre.length:Int)=some x by rw[e];exact get_mid pre x rest rfl) ?_
    refine aa (P:=(· =ks.contains (Pc.kind x))) ?_ fun a ea=>?_
    ·unfold regex_formed_1_1
     exact aa (contains_tot hk (Pc.un x).1) fun a ea=>ac (by rw[ea,kind_un])
    ·subst ea
     rw[i64_small (x:=(pre.length:Int)+1) om om]
     cases ks.contains (Pc.kind x) with
     | true=>exact ac rfl
     | false=>exact ac rfl
   rw[kin_cons]
   cases hc:ks.contains (Pc.kind x) with
   | true=>exact LT.fin (hstep.mono fun a ea=>by rw[ea,hc,if_pos rfl]) (.inl ⟨rfl,(pre.length:Int),om,rfl⟩)
   | false=>
     have ih:=kin_lt hk hl rest (pre++[x]) (by rw[e];simp)
     rw[show (((pre++[x]).length:Nat):Int)=((pre.length+1:Nat):Int) by simp]at ih
     rw[Bool.false_or]
     exact LT.step (hstep.mono fun a ea=>by rw[ea,hc,if_neg ddc]) ih
theorem formed1_tot {ks:List Int} (hk:ks.length≤1000) (x:PcT) (hl:x.2.2.2.2.2.2.length≤4000000000000000000):Tot (fun n=>regex_formed_1 n ks x) (· = !kin ks x.2.2.2.2.2.2):=by
 unfold regex_formed_1 api_Piece_1_1 api_Piece_1_1_1
 refine aa (P:=fun r=>r=kin ks x.2.2.2.2.2.2) (aa (P:=fun r=>decide (r≥0)=kin ks x.2.2.2.2.2.2) (aa (LT.tot (F:=kinF x.2.2.2.2.2.2 ks) (kin_lt hk hl _ [] rfl)) fun y hy=>?_) fun a e=>ac e) fun a e=>ac (by rw[e])
 rcases hy with ⟨h1,i,h2,rfl⟩ | ⟨h1,rfl⟩
 ·exact ac (by rw[h1];exact dtt h2)
 ·exact ac (by rw[h1];rfl)
end Go.Gv.X
namespace Go.Gv.X
open Go Go.Gv Go.Gv.D Go.Gv.R Go.Gv.P Go.Lib
set_option maxRecDepth 100000
/-! Own work: what is asked of one piece (2). -/
/-- lists that a machine can hold -/
def BigL:Nat:=4000000000000000000
theorem one_eq {l:List Pc}:(((l.length:Nat):Int)==1)=decide (l.length=1):=by rw[aj];simp;omega
theorem nil_eq {α:Type} {l:List α}:(((l.length:Nat):Int)==0)=l.isEmpty:=by cases l<;>simp;omega
theorem flat_tot {x:PcT} (h:1≤x.1∧x.1≤12):Tot (fun n=>regex_flat n x) (· =flatB x):=by
 obtain ⟨k,lo,hi,no,lz,rs,subs⟩:=x
 simp only at h
 refine Tot.alln fun n=>?_
 have e:∀ a:Int,(a==0)=decide (a=0):=fun a=>by rw[aj];simp
 obtain rfl | rfl | rfl | rfl | rfl | rfl | rfl | rfl | rfl | rfl | rfl | rfl:k=1∨k=2∨k=3∨k=4∨k=5∨k=6∨k=7∨k=8∨k=9∨k=10∨k=11∨k=12:=by omega
 all_goals
  unfold regex_flat flatB
  simp only[nil_eq]
  simp only[e]
  generalize decide (lo=0)=a
  generalize decide (hi=0)=b
  generalize rs.isEmpty=c
  cases a<;>cases b<;>cases no<;>cases lz<;>cases c<;>rfl
theorem formed_tot {x:PcT} (h:1≤x.1∧x.1≤12) (h1:x.2.2.2.2.2.1.length≤BigL) (h2:x.2.2.2.2.2.2.length≤BigL):Tot (fun n=>regex_formed n x) (· =formedB x):=by
 obtain ⟨k,lo,hi,no,lz,rs,subs⟩:=x
 simp only at h h1 h2
 unfold regex_formed
 refine Tot.some_bind ?_
 obtain rfl | rfl | rfl | rfl | rfl | rfl | rfl | rfl | rfl | rfl | rfl | rfl:k=1∨k=2∨k=3∨k=4∨k=5∨k=6∨k=7∨k=8∨k=9∨k=10∨k=11∨k=12:=by omega
 ·simp only[af,ab,if_false,if_true,Option.bind_some]
  show Tot _ (· =(subs.isEmpty&&scal lo))
  refine aa (P:=(· =(subs.isEmpty&&scal lo))) ?_ fun a e=>ac e
  rw[nil_eq]
  cases subs.isEmpty with
  | true=>exact ai rfl (aa (Tot.alln fun n=>scalar_eq n lo) fun a e=>ac e)
  | false=>exact ae rfl (ac rfl)
 ·simp only[af,ab,if_false,if_true,Option.bind_some]
  exact ac nil_eq
 ·simp only[af,ab,if_false,if_true,Option.bind_some]
  show Tot _ (· =(subs.isEmpty&&(ordR rs&& !rs.isEmpty)))
  refine aa (P:=(· =(subs.isEmpty&&(ordR rs&& !rs.isEmpty)))) ?_ fun a e=>ac e
  rw[nil_eq]
  cases subs.isEmpty with
  | true=>exact ai rfl (aa (ordered_tot h1) fun a e=>ac e)
  | false=>exact ae rfl (ac rfl)
 ·simp only[af,ab,if_false,if_true,Option.bind_some]
  exact ac nil_eq
 ·simp only[af,ab,if_false,if_true,Option.bind_some]
  exact ac nil_eq
 ·simp only[af,ab,if_false,if_true,Option.bind_some]
  exact ac nil_eq
 ·simp only[af,ab,if_false,if_true,Option.bind_some]
  exact ac one_eq
 ·simp only[af,ab,if_false,if_true,Option.bind_some]
  show Tot _ (· =(decide (subs.length≠1)&& !kin [8,9] subs))
  refine aa (P:=(· =(decide (subs.length≠1)&& !kin [8,9] subs))) ?_ fun a e=>ac e
  by_cases hl:subs.length=1
  ·rw[dff (not_not_intro hl)]
   exact ae (by simp[hl]) (ac rfl)
  ·rw[dtt hl]
   exact ai oss (aa (formed1_tot ddc (8,lo,hi,no,lz,rs,subs) h2) fun a e=>ac e)
 ·simp only[af,ab,if_false,if_true,Option.bind_some]
  show Tot _ (· =(decide (2≤subs.length)&& !kin [9] subs))
  refine aa (P:=(· =(decide (2≤subs.length)&& !kin [9] subs))) ?_ fun a e=>ac e
  by_cases hl:2≤subs.length
  ·rw[dtt hl]
   exact ai (dtt om) (aa (formed1_tot ddc (9,lo,hi,no,lz,rs,subs) h2) fun a e=>ac e)
  ·rw[dff hl]
   exact ae (dff om) (ac rfl)
 ·simp only[af,ab,if_false,if_true,Option.bind_some]
  show Tot _ (· =(decide (subs.length=1)&& !kin [8,9,10,4,5,6,11] subs))
  refine aa (P:=(· =(decide (subs.length=1)&& !kin [8,9,10,4,5,6,11] subs))) ?_ fun a e=>ac e
  rw[one_eq]
  by_cases hl:subs.length=1
  ·rw[dtt hl]
   exact ai rfl (aa (formed1_tot ddc (10,lo,hi,no,lz,rs,subs) h2) fun a e=>ac e)
  ·rw[dff hl]
   exact ae rfl (ac rfl)
 ·simp only[af,ab,if_false,if_true,Option.bind_some]
  exact ac one_eq
 ·simp only[af,ab,if_false,if_true,Option.bind_some]
  show Tot _ (· =(subs.isEmpty&&decide (1≤lo∧lo≤9)))
  refine aa (P:=(· =(subs.isEmpty&&decide (1≤lo∧lo≤9)))) ?_ fun a e=>ac e
  rw[nil_eq]
  cases subs.isEmpty with
  | true=>
    refine ai rfl ?_
    by_cases h9:1≤lo
    ·refine ai (dtt h9) (ac ?_)
     rw[al,aj];simp[h9]
    ·refine ae (dff h9) (ac ?_)
     rw[al,dff (fun h=>h9 h.1)]
  | false=>exact ae rfl (ac rfl)
end Go.Gv.X
