import Derived.Test.YtmpmeiihjnnomaaGreatDoorY1
/-! Own work: searches from place to place (2). -/
set_option linter.all false
open Go.Gv.Tot renaming bindq→aa,ret→ac,if_→ae,it→ai
open List renaming length_append→ab,length→ad,length_singleton→ag
open Bool renaming false_eq_true→af
namespace Go.Gv.M
open Go Go.Gv Go.Gv.D Go.Gv.X Go.Gv.R Go.Gv.P
set_option maxHeartbeats 4000000
abbrev RunS:=Int × Sp × Bool × (Int × Int) × TSt
abbrev RunR:=Sp × Bool × (Int × Int)
noncomputable def runF (m:Nat) (p:PcT) (last:Int) (wh:Bool) (s67:RunS):Option (RunS ⊕ (RunR ⊕ RunR)):=
 (if (decide (s67.1≤last)) then (Option.bind (rematch_search_from m s67.2.2.2.2 p s67.1 wh) (pcase (fun r145=>(if r145.1 then (some (.inr (.inr ((r145.2.2.1,true,(0,0)))))) else (some (.inl ((IntKind.i64.wrap (s67.1+1)),s67.2.1,s67.2.2.1,(s67.2.2.2.1.1,s67.2.2.2.1.2),(s67.2.2.2.2.1,r145.2.2.1,r145.2.2.2)))))) (fun pn148=>(some (.inr (.inr ((([]:List (Int × Int)),false,(21,(-1)))))))))) else (some (.inr (.inl (s67.2.1,s67.2.2.1,(s67.2.2.2.1.1,s67.2.2.2.1.2))))))
noncomputable def gB (m:Nat) (p:PcT) (s50:Sp × Int):Option ((Sp × Int) ⊕ Sp):=
 (Option.bind (ref4_GroupsOf m p) fun r72=>(if (decide (s50.2≤r72)) then (Option.bind (app s50.1 ([((-1),(-1))]:List (Int × Int))) fun l90=>(some (.inl (l90,(IntKind.i64.wrap (s50.2+1)))))) else (some (.inr (s50.1)))))
noncomputable def srF (m:Nat) (p:PcT) (last:Int) (s16:Int × Eng):Option ((Int × Eng) ⊕ (Eng ⊕ (Sp × Bool × Bool))):=
 (Option.bind (if (decide (s16.1≤last)) then (some ((!s16.2.2.2.2))) else (some (false))) fun (j28:Bool)=>(if j28 then (Option.bind (loopN (gB m p) m (([]:List (Int × Int)),0)) fun (j48:(List (Int × Int)))=>(Option.bind (ref4_engine_try m s16.2 p s16.1 j48 rF) fun r155=>(if r155.2.1 then (Option.bind (idx r155.1 0) fun x173=>(Option.bind (upd r155.1 0 (s16.1,x173.2)) fun l175=>(some (.inr (.inr ((l175,true,false))))))) else (some (.inl ((IntKind.i64.wrap (s16.1+1)),(s16.2.1,r155.2.2.2.1,r155.2.2.2.2.1,r155.2.2.2.2.2))))))) else (some (.inr (.inl (s16.2.1,s16.2.2.1,s16.2.2.2.1,s16.2.2.2.2))))))
theorem run_eq (m:Nat) (p:PcT) (tx:List Int) (first last:Int) (wh:Bool):rematch_run m p tx first last wh=(regex_Groups m p).bind fun r=>(mk (IntKind.i64.wrap (r.1+1)) ((0:Int),(0:Int))).bind fun l=>(loopN (runF m p last wh) m (first,([]:Sp),false,(0,0),(tx,l,0))).bind (cont fun _=>some (([]:Sp),false,(0,0))):=rfl
theorem search_eq (m:Nat) (p:PcT) (tx:List Int) (first last:Int) (wh:Bool):ref4_Search m p tx first last wh=(loopN (srF m p last) m (first,(tx,0,wh,false))).bind (cont fun s=>some (([]:Sp),false,s.2.2.2)):=rfl
theorem gB_lt {p:PcT} {G:Nat} (hG:G≤1000) (hg:Tot (fun n=>ref4_GroupsOf n p) (· =(G:Int))):∀ (d k:Nat),k+d=G+1→LT (fun m=>gB m p) (neg k,(k:Int)) (· =neg (G+1))
 | 0,k,h=>by
   have h:k=G+1:=by omega
   subst h
   refine LT.fin (r:=neg (G+1)) (aa hg fun a e=>?_) rfl
   subst e
   exact ae (dff (by show ¬ (((G+1:Nat):Int)≤(G:Int));omega)) (ac rfl)
 | d+1,k,h=>by
   refine LT.step (aa hg fun a e=>?_) (gB_lt hG hg d (k+1) om)
   subst e
   refine ai (dtt (by show (k:Int)≤(G:Int);omega)) (Tot.alln fun m=>?_)
   unfold app
   rw[if_pos (by simp[neg];omega)]
   simp only[Option.bind_some,i64_small (x:=(k:Int)+1) om om]
   rw[show neg k++[((-1:Int),(-1:Int))]=neg (k+1) by simp[neg,List.replicate_succ']]
   rfl
inductive Fd where
 | over
 | no
 | yes (g:Sp)
def runO:Fd→RunR
 | .over=>([],false,(21, -1))
 | .no=>([],false,(0,0))
 | .yes g=>(g,true,(0,0))
def srcO:Fd→Sp × Bool × Bool
 | .over=>([],false,true)
 | .no=>([],false,false)
 | .yes g=>(g,true,false)
/-- what is found lies where it was searched -/
def Fine (G L:Nat) (first last:Int) (wh:Bool):Fd→Prop
 | .yes g=>Wf G L g∧∃ s k,g[0]? =some (s,k)∧first≤s∧s≤last∧s≤k∧k≤(L:Int)∧(wh=true→k=(L:Int))
 | _=>True
def RunQ:Fd→(RunR ⊕ RunR)→Prop
 | .no,y=>∃ z,y= .inl z
 | o,y=>y= .inr (runO o)
def SrQ (tx:List Int) (wh:Bool):Fd→(Eng ⊕ (Sp × Bool × Bool))→Prop
 | .over,y=>∃ t,y= .inl (tx,t,wh,true)
 | .no,y=>∃ t,y= .inl (tx,t,wh,false)
 | .yes g,y=>y= .inr (g,true,false)
theorem neg_wf (G L:Nat):Wf G L (neg (G+1)):=⟨by simp,fun j x hj h=>by
 have:=List.getElem?_replicate (a:=((-1:Int),(-1:Int))) (n:=G+1) (i:=j)
 rw[this]at h
 split at h
 ·cases h;exact .inl ddc
 ·cases h⟩
section
variable {tx:List Int} {G:Nat} (hx:Lets tx) (hL:tx.length≤1000) (hG:G≤1000) {p:Pc} (hp:okT G p) (hg:Tot (fun n=>ref4_GroupsOf n p.un) (· =(G:Int))) (wh:Bool) {last first:Int} (hl:last≤(tx.length:Int)) (h0:0≤first)
include hx hL hG hp hg hl h0
theorem search_lt:∀ (d:Nat) (q:Int) (n:Nat) (sp:Sp),q+d=last+1→first≤q→n≤20000→sp.length=G+1→∃ o,Fine G tx.length first last wh o∧
 LT (fun m=>runF m p.un last wh) (q,([]:Sp),false,(0,0),(tx,sp,(n:Int))) (RunQ o)∧LT (fun m=>srF m p.un last) (q,(tx,(n:Int),wh,false)) (SrQ tx wh o)
 | 0,q,n,sp,hq,hf,hn,hs=>by
   refine ⟨.no,trivial,LT.fin (r:=.inl (([]:Sp),false,(0,0))) (Tot.alln fun m=>?_) ⟨_,rfl⟩,LT.fin (r:=.inl (tx,(n:Int),wh,false)) (Tot.alln fun m=>?_) ⟨_,rfl⟩⟩
   ·unfold runF;rw[if_neg oss]
   ·unfold srF;rw[if_neg oss];rfl
 | d+1,q,n,sp,hq,hf,hn,hs=>by
   have hc:decide (q≤last)=true:=dtt om
   obtain ⟨o,ho,h2,h3⟩:=try_ok hx hL hG (20001-n) n om hn wh (Qf q tx.length wh) p q (neg (G+1)) (neg (G+1)) (fun m k st=>rematch_search_from_1 m k q (tx,st.2.1,st.2.2) wh) rF hp om om (E1.refl _) (neg_wf _ _) (fin_rel hG wh _ q)
   have hF:Tot (fun m=>rematch_search_from m (tx,sp,(n:Int)) p.un q wh) (PA tx (Qf q tx.length wh) (neg (G+1)) o):=by
    refine eqf (fun m=>fromA m tx sp n p.un q wh) (aa (LT.tot (clr_lt sp.length om tx n sp 0 (by simp))) fun a e=>?_)
    subst e
    rw[hs]
    exact thenA_tot h2
   have hB:Tot (fun m=>(loopN (gB m p.un) m (([]:List (Int × Int)),0)).bind fun j=>ref4_engine_try m (tx,(n:Int),wh,false) p.un q j rF) (PB tx wh o):=aa (LT.tot (gB_lt hG hg (G+1) 0 om)) fun a e=>by subst e;exact h3
   have eb:∀ m,srF m p.un last (q,(tx,(n:Int),wh,false))=((loopN (gB m p.un) m (([]:List (Int × Int)),0)).bind fun j=>ref4_engine_try m (tx,(n:Int),wh,false) p.un q j rF).bind fun r155=>(if r155.2.1 then (Option.bind (idx r155.1 0) fun x173=>(Option.bind (upd r155.1 0 (q,x173.2)) fun l175=>(some (.inr (.inr ((l175,true,false))))))) else (some (.inl ((IntKind.i64.wrap (q+1)),(tx,r155.2.2.2.1,r155.2.2.2.2.1,r155.2.2.2.2.2))))):=fun m=>by
    unfold srF
    simp only[hc,if_true,Bool.not_false,Option.bind_some]
    cases loopN (gB m p.un) m (([]:List (Int × Int)),0) with
    | none=>rfl
    | some j=>rfl
   have ea:∀ m,runF m p.un last wh (q,([]:Sp),false,(0,0),(tx,sp,(n:Int)))=(rematch_search_from m (tx,sp,(n:Int)) p.un q wh).bind (pcase (fun r145=>(if r145.1 then (some (.inr (.inr ((r145.2.2.1,true,(0,0)))))) else (some (.inl ((IntKind.i64.wrap (q+1)),([]:Sp),false,(0,0),(tx,r145.2.2.1,r145.2.2.2)))))) (fun pn148=>(some (.inr (.inr ((([]:List (Int × Int)),false,(21,(-1))))))))):=fun m=>by
    unfold runF
    simp only[hc,if_true]
   have hw:IntKind.i64.wrap (q+1)=q+1:=i64_small om om
   rw[hw]at ea eb
   cases o with
   | over=>
     obtain ⟨b,⟨hb1,t,hb2⟩,N,hN⟩:=hB
     obtain ⟨b1,b2,b3⟩:=b
     simp only at hb1 hb2
     subst hb1;subst hb2
     refine ⟨.over,trivial,LT.fin (r:=.inr ([],false,(21, -1))) (eqf ea (aa hF fun a ha=>?_)) (by exact rfl),LT.step (st':=(q+1,(tx,t,wh,true))) (eqf eb (tb hN fun m=>rfl)) (LT.fin (r:=.inl (tx,t,wh,true)) (Tot.alln fun m=>?_) ⟨t,rfl⟩)⟩
     ·cases ha;exact ac rfl
     ·unfold srF
      cases decide (q+1≤last)<;>rfl
   | no n2=>
     obtain ⟨a,⟨s2,rfl,hq2⟩,N,hN⟩:=hF
     have hn2:=ho.1
     obtain ⟨o,ho',iA,iB⟩:=search_lt d (q+1) n2 s2 om om ho.2 (by rw[hq2.1];simp)
     refine ⟨o,ho',LT.step (eqf ea (tb hN fun m=>rfl)) iA,LT.step (eqf eb (aa hB fun b hb=>?_)) iB⟩
     obtain ⟨b1,b2,b3⟩:=b
     cases hb;exact ac rfl
   | yes g n2=>
     obtain ⟨a,⟨s2,rfl,hq2⟩,N,hN⟩:=hF
     obtain ⟨hE,k,a0,e1,e2,e3,e4,e5⟩:=hq2
     have hlg:0<g.length:=(List.getElem?_eq_some_iff.1 e2).1
     have hs2:s2=g.set 0 (q,k):=by
      refine List.ext_getElem? fun j=>?_
      by_cases hj:j=0
      ·subst hj;rw[e1,List.getElem?_set_self hlg]
      ·rw[hE.2 j om,List.getElem?_set_ne om]
     subst hs2
     have hWg:=ho.2.2
     refine ⟨.yes (g.set 0 (q,k)),⟨hWg.set0 _,q,k,by rw[List.getElem?_set_self hlg],hf,om,e3,e4,e5⟩,LT.fin (r:=.inr (g.set 0 (q,k),true,(0,0))) (eqf ea (tb hN fun m=>rfl)) (by exact rfl),LT.fin (r:=.inr (g.set 0 (q,k),true,false)) (eqf eb (aa hB fun b hb=>?_)) (by exact rfl)⟩
     cases hb
     refine Tot.alln fun m=>?_
     have hi:idx g 0=some (a0,k):=by rw[show (0:Int)=((0:Nat):Int) from rfl,idx_nat,e2]
     have hu:upd g 0 (q,k)=some (g.set 0 (q,k)):=upd_nat hlg (q,k)
     simp only[if_true,hi,Option.bind_some,hu]
theorem search_rel (hgr:Tot (fun n=>regex_Groups n p.un) (· =((G:Int),((0:Int),(0:Int))))) (hfl:first≤last+1):∃ o,Fine G tx.length first last wh o∧Tot (fun m=>rematch_run m p.un tx first last wh) (· =runO o)∧Tot (fun m=>ref4_Search m p.un tx first last wh) (· =srcO o):=by
 obtain ⟨o,ho,hA,hB⟩:=search_lt hx hL hG hp hg wh hl h0 (last+1-first).toNat first 0 (List.replicate (G+1) (0,0)) om (Int.le_refl _) om (by simp)
 refine ⟨o,ho,eqf (fun m=>run_eq m p.un tx first last wh) (aa hgr fun a e=>?_),eqf (fun m=>search_eq m p.un tx first last wh) (aa (LT.tot hB) fun y hy=>?_)⟩
 ·subst e
  rw[i64_small (x:=(G:Int)+1) om om]
  have hmk:mk ((G:Int)+1) ((0:Int),(0:Int))=some (List.replicate (G+1) (0,0)):=by
   unfold mk
   rw[if_pos om]
   rw[show ((G:Int)+1).toNat=G+1 by omega]
  refine Tot.bind0 hmk (aa (LT.tot hA) fun y hy=>?_)
  cases o with
  | over=>cases hy;exact ac rfl
  | no=>obtain ⟨z,rfl⟩:=hy;exact ac rfl
  | yes g=>cases hy;exact ac rfl
 ·cases o with
  | over=>obtain ⟨t,rfl⟩:=hy;exact ac rfl
  | no=>obtain ⟨t,rfl⟩:=hy;exact ac rfl
  | yes g=>cases hy;exact ac rfl
end
end Go.Gv.M
/-! Own work: runes of texts and back (taken over from the seat of texts). -/
namespace Go.Gv.M
open Go Go.Gv Go.Gv.D Go.Gv.R Go.Gv.P Go.Lib
theorem scal_i32 {r:Nat} (h:Scal r):r≤1114111:=by rcases h with h | h<;>omega
/-! runes of texts -/
theorem encode_str {r:Nat} (h:Scal r):Utf8.encode (r:Int)=strOf (encR r):=by
 have hv:Utf8.valid (r:Int)=true:=by
  unfold Utf8.valid
  rcases h with h | ⟨h1,h2⟩
  ·rw[dtt (show (0:Int)≤(r:Int) by omega),dtt (show (r:Int)<0xD800 by omega)];rfl
  ·rw[dtt (show (0xE000:Int)≤(r:Int) by omega),dtt (show (r:Int)≤0x10FFFF by omega),Bool.and_true,Bool.or_true]
 have hs:=scal_i32 h
 unfold Utf8.encode
 simp only[hv,if_true,Int.toNat_natCast]
 by_cases h1:r<0x80
 ·rw[if_pos h1,encR1 om];rfl
 ·rw[if_neg h1]
  by_cases h2:r<0x800
  ·rw[if_pos h2,encR2 om om];rfl
  ·rw[if_neg h2]
   by_cases h3:r<0x10000
   ·rw[if_pos h3,encR3 om om h];rfl
   ·rw[if_neg h3,encR4 om hs];rfl
theorem strR_fold:∀ (p:List Nat) (l:List UInt8),(∀ r∈p,Scal r)→(ints p).foldl (fun r n=>r++Utf8.encode n) (strOf l)=strOf (l++enc p)
 | [],l,_=>by simp[ints,enc]
 | c::p,l,h=>by
   have hc:=h c (List.mem_cons_self ..)
   show (ints p).foldl _ (strOf l++Utf8.encode (c:Int))=_
   rw[encode_str hc,show strOf l++strOf (encR c)=strOf (l++encR c) from Option.some.inj (by have h:=cat_str (l:=l) (m:=encR c);unfold cat at h;by_cases hl:l.length+(encR c).length≤9223372036854775807<;>first | (have:=h hl;rwa [if_pos (by rw[size_str,size_str];exact hl)]at this) | rfl),strR_fold p _ (fun r hr=>h r (List.mem_cons_of_mem _ hr)),enc_cons,List.append_assoc]
theorem strR_ints {p:List Nat} (h:∀ r∈p,Scal r):strR (ints p)=strOf (enc p):=by
 have:=strR_fold p [] h
 rw[List.nil_append]at this
 exact this
theorem rnF_enc:∀ (b a p:List Nat) (n:Nat),(∀ r∈p,Scal r)→p=a++b→(enc b).length≤n→rnF (strOf (enc p)) n (enc a).length=ints b
 | [],a,p,n,_,e,_=>by
   rw[List.append_nil]at e;subst e
   cases n with
   | zero=>rfl
   | succ n=>unfold rnF;rw[if_neg (by rw[size_str];omega)];rfl
 | c::b,a,p,n,hp,e,hn=>by
   have hc:Scal c:=hp c (by rw[e];simp)
   have hcp:=encR_pos c
   rw[enc_cons,ab]at hn
   obtain ⟨n,rfl⟩:∃ m,n=m+1:=⟨n-1,om⟩
   obtain ⟨hr1,hr2⟩:=rune_at (s:=strOf (enc p)) (p:=a) (t:=b) hc (by rw[bytes_str,e])
   unfold rnF
   rw[if_pos (by rw[size_str,e,enc_app,enc_cons,ab,ab];omega),hr1,hr2]
   have:=rnF_enc b (a++[c]) p n hp (by rw[e];simp) om
   rw[enc_snoc,ab]at this
   rw[this];rfl
theorem rn_enc {p:List Nat} (h:∀ r∈p,Scal r) (hl:(enc p).length≤1048576):rn (strOf (enc p))=some (ints p):=by
 unfold rn
 rw[if_pos (by rw[size_str];omega)]
 have:=rnF_enc p [] p (strOf (enc p)).size h rfl (by rw[size_str];omega)
 exact congrArg some this
theorem RuneCount_tot {p:List Nat} (h:∀ r∈p,Scal r) (hl:(enc p).length≤1048576):Tot (fun n=>utf8_RuneCountInString n (strOf (enc p))) (· =(p.length:Int)):=by
 unfold utf8_RuneCountInString
 simp only[size_str]
 refine aa (P:=fun j=>j=(p.length:Int)) ?_ fun j hj=>ac hj
 refine Tot.loop (fun st=>∃ a b,p=a++b∧st=((a.length:Int),(enc a).length)) (fun st=>(enc p).length+1-st.2) ⟨[],p,rfl,rfl⟩ fun st ⟨a,b,e,hst⟩=>?_
 subst hst
 dsimp only
 cases b with
 | nil=>
   rw[List.append_nil]at e;subst e
   exact ae (dff om) (ac rfl)
 | cons c b=>
   have hc:Scal c:=h c (by rw[e];simp)
   have hlen:(enc p).length=(enc a).length+(encR c).length+(enc b).length:=by rw[e,enc_app,enc_cons,ab,ab];omega
   have hcp:=encR_pos c
   have hal:=enc_len_ge a
   refine ai (dtt om) ?_
   obtain ⟨hr1,hr2⟩:=rune_at (s:=strOf (enc p)) (p:=a) (t:=b) hc (by rw[bytes_str,e])
   rw[hr2]
   refine ac ⟨⟨a++[c],b,by rw[e];simp,?_⟩,by dsimp only;omega⟩
   rw[iw (n:=a.length+1) om om,enc_snoc,ab,ab];rfl
end Go.Gv.M
/-! Own work: what is checked first; the matches' outer functions. -/
namespace Go.Gv.M
open Go Go.Gv Go.Gv.D Go.Gv.X Go.Gv.R Go.Gv.P
set_option maxHeartbeats 4000000
/-! spans compared -/
def spF (a b:Sp) (s5:Int):Option (Int ⊕ (Unit ⊕ Bool)):=(if (decide (s5<((ad a:Nat):Int))) then (Option.bind (idx a s5) fun x12=>(Option.bind (idx b s5) fun x15=>(if (!((x12.1==x15.1)&&(x12.2==x15.2))) then (some (.inr (.inr (false)))) else (some (.inl (IntKind.i64.wrap (s5+1))))))) else (some (.inr (.inl ()))))
theorem sp_lt {a b:Sp} (hl:a.length≤BigR):∀ (r1 r2 p1 p2:Sp),a=p1++r1→b=p2++r2→p1.length=p2.length→r1.length=r2.length→LT (fun _=>spF a b) (p1.length:Int) (fun y=>y=if r1=r2 then .inl () else .inr false)
 | [],r2,p1,p2,e1,e2,h1,h2=>by
   have:r2=[]:=List.length_eq_zero_iff.1 h2.symm
   subst this
   refine LT.fin (r:=.inl ()) (Tot.alln fun n=>?_) (by rw[if_pos rfl])
   unfold spF
   rw[if_neg]
   rw[e1,List.append_nil,dff om];decide
 | x::r1,[],p1,p2,e1,e2,h1,h2=>by cases h2
 | x::r1,y::r2,p1,p2,e1,e2,h1,h2=>by
   have hlen:=hl
   unfold BigR at hlen
   rw[e1,ab,List.length_cons]at hlen
   have hstep:spF a b (p1.length:Int)=if (!((x.1==y.1)&&(x.2==y.2)))=true then some (.inr (.inr false)) else some (.inl ((p1.length+1:Nat):Int)):=by
    unfold spF
    rw[if_pos (dtt (by rw[e1,ab,List.length_cons];omega))]
    rw[show idx a (p1.length:Int)=some x by rw[e1];exact get_mid p1 x r1 rfl,show idx b (p1.length:Int)=some y by rw[e2];exact get_mid p2 y r2 h1]
    simp only[Option.bind_some]
    rw[i64_small (x:=(p1.length:Int)+1) om om]
    rfl
   by_cases h:x=y
   ·subst h
    have ih:=sp_lt (a:=a) (b:=b) hl r1 r2 (p1++[x]) (p2++[x]) (by rw[e1];simp) (by rw[e2];simp) (by simp[h1]) (by simpa using h2)
    rw[show (((p1++[x]).length:Nat):Int)=((p1.length+1:Nat):Int) by simp]at ih
    refine LT.step (Tot.alln fun n=>by rw[hstep,if_neg (by simp)]) (ih.mono fun r hr=>?_)
    rw[hr];simp
   ·refine LT.fin (r:=.inr false) (Tot.alln fun n=>by rw[hstep,if_pos];obtain ⟨x1,x2⟩:=x;obtain ⟨y1,y2⟩:=y;simp only[Prod.mk.injEq]at h;simp only[Bool.not_eq_true',Bool.and_eq_false_imp,beq_iff_eq,beq_eq_false_iff_ne];intro e e';exact h ⟨e,e'⟩) ?_
    rw[if_neg]
    intro e;cases e;exact h rfl
theorem Spans_tot {a b:Sp} (hl:a.length≤BigR):Tot (fun n=>ref4_SameSpans n a b) (· =decide (a=b)):=by
 show Tot (fun n=>if ((((ad a:Nat):Int))!=((ad b:Nat):Int))=true then some false else (loopN (spF a b) n 0).bind (cont fun _=>some true)) _
 by_cases h:a.length=b.length
 ·refine ae (by simp[h]) (aa (LT.tot (sp_lt hl a b [] [] rfl rfl rfl h)) fun y hy=>?_)
  subst hy
  by_cases he:a=b
  ·rw[if_pos he,dtt he];exact ac rfl
  ·rw[if_neg he,dff he];exact ac rfl
 ·refine ai oss (ac ?_)
  exact (dff fun e=>h (by rw[e])).symm
/-! well made nodes -/
theorem node_okN {G g g':Nat} {q:Pc} (h:nodeC g q.un= .inr g') (hG:g'≤G) (hb:q.un.2.2.2.2.2.1.length≤BigL∧q.un.2.2.2.2.2.2.length≤BigL):OkN G q.un∧g'=(if isG q then 1 else 0)+g:=by
 obtain ⟨k,lo,hi,no,lz,rs,subs⟩:=q
 change nodeC g (k,lo,hi,no,lz,rs,subs)= .inr g' at h
 unfold nodeC at h
 simp only[Pc.un]at hb ⊢
 by_cases h1:k<1∨13≤k
 ·rw[if_pos h1]at h;cases h
 rw[if_neg h1]at h
 by_cases h2:(flatB (k,lo,hi,no,lz,rs,subs)&&formedB (k,lo,hi,no,lz,rs,subs))=false
 ·rw[if_pos h2]at h;cases h
 rw[if_neg h2]at h
 have h2:flatB (k,lo,hi,no,lz,rs,subs)=true∧formedB (k,lo,hi,no,lz,rs,subs)=true:=by simpa using h2
 have hf:=h2.2
 by_cases h3:k=10∧rngB (k,lo,hi,no,lz,rs,subs)=false
 ·rw[if_pos h3]at h;cases h
 rw[if_neg h3]at h
 have e1:k=7∨k=10∨k=11→subs≠[]:=fun hk e=>by
  subst e
  rcases hk with rfl | rfl | rfl<;>simp[formedB]at hf
 have e12:k=12→1≤lo:=fun hk=>by
  subst hk
  simp[formedB]at hf
  exact hf.2.1
 by_cases h4:k=7∧lo≠0
 ·rw[if_pos h4]at h
  by_cases h5:lo=((g+1:Nat):Int)∧lo≤9
  ·rw[if_pos h5]at h
   cases h
   refine ⟨⟨by show 1≤k∧k≤12;omega,hb.1,hb.2,fun _=>⟨by show 0≤lo;omega,by show lo≤(G:Int);omega,e1 (.inl h4.1)⟩,fun hk=>e1 (.inr hk),fun hk=>by have:k=12:=hk;omega⟩,?_⟩
   unfold isG
   rw[if_pos (dtt ⟨h4.1,by show 0<lo;omega⟩)]
   omega
  ·rw[if_neg h5]at h;cases h
 ·rw[if_neg h4]at h
  by_cases h5:k=12∧(g:Int)<lo
  ·rw[if_pos h5]at h;cases h
  ·rw[if_neg h5]at h
   cases h
   refine ⟨⟨by show 1≤k∧k≤12;omega,hb.1,hb.2,fun hk=>?_,fun hk=>e1 (.inr hk),fun hk=>?_⟩,?_⟩
   ·have hk:k=7:=hk
    have:lo=0:=by
     by_cases e:lo=0
     ·exact e
     ·exact absurd ⟨hk,e⟩ h4
    exact ⟨by show 0≤lo;omega,by show lo≤(G:Int);omega,e1 (.inl hk)⟩
   ·have hk:k=12:=hk
    have:=e12 hk
    exact ⟨this,by show lo≤(G:Int);omega⟩
   ·unfold isG
    rw[dff]
    ·simp
    ·intro ⟨e,e'⟩
     have e:k=7:=e
     have e':0<lo:=e'
     exact h4 ⟨e,om⟩
theorem chk_cnt:∀ (l:List Pc) (g g':Nat),chkL g l=some g'→BdL l→g'=g+X.cnt l∧∀ G,g'≤G→∀ q∈l,OkN G q.un
 | [],g,g',h,_=>by cases h;exact ⟨by simp[X.cnt],fun _ _ q hq=>by cases hq⟩
 | q::l,g,g',h,hb=>by
   rw[chkL]at h
   cases hn:nodeC g q.un with
   | inl e=>rw[hn]at h;cases h
   | inr g1=>
     rw[hn]at h
     obtain ⟨ih1,ih2⟩:=chk_cnt l g1 g' h (fun x hx=>hb x (List.mem_cons_of_mem _ hx))
     have h2:=fun (G:Nat) (hG:g1≤G)=>node_okN hn hG (hb q (by simp))
     have h3:=(h2 g1 (Nat.le_refl _)).2
     refine ⟨by rw[ih1,h3,X.cnt];omega,fun G hG x hx=>?_⟩
     rcases List.mem_cons.1 hx with rfl | hx
     ·exact (h2 G om).1
     ·exact ih2 G hG x hx
abbrev gr (p:Pc):Nat:=X.cnt (preP p)
theorem ok_T {p:Pc} (h:okP p) (hb:BdL (preP p)):okT (gr p) p∧gr p≤9:=by
 obtain ⟨g',h1,h2,h3⟩:=h
 obtain ⟨e,h4⟩:=chk_cnt _ _ _ h1 hb
 have h5:=chk_le9 _ _ _ h1 ddc
 refine ⟨fun q hq=>h4 _ (by rw[e];simp) q hq,by unfold gr;omega⟩
end Go.Gv.M
/-! Own work: what is checked first (2); one match. -/
namespace Go.Gv.M
open Go Go.Gv Go.Gv.D Go.Gv.X Go.Gv.R Go.Gv.P Go.Lib
set_option maxHeartbeats 4000000
theorem pts_tot {ps:List Nat} (hp:∀ c∈ps,Scal c) (hl:(enc ps).length≤1048576):Tot (fun n=>ref4_Points n (strOf (enc ps))) (· =(ints ps,true)):=by
 refine (Points_tot (by rw[size_str];exact hl)).mono fun r hr=>?_
 rcases hr with ⟨h1,_⟩ | ⟨q,h1,h2,h3⟩
 ·rw[bytes_str,valid_enc ps hp]at h1;cases h1
 ·rw[bytes_str]at h2
  rw[h3,enc_inj hp h1 h2]
theorem pts_bad {s:ByteArray} (hs:s.size≤1048576) (h:validD (bytesOf s)=false):Tot (fun n=>ref4_Points n s) (· =([],false)):=by
 refine (Points_tot hs).mono fun r hr=>?_
 rcases hr with ⟨_,h1⟩ | ⟨q,h1,h2,h3⟩
 ·exact h1
 ·rw[h2,valid_enc q h1]at h;cases h
/-- what the texts are -/
structure TextOk (s:ByteArray) (ps:List Nat):Prop where
 scal:∀ c∈ps,Scal c
 str:s=strOf (enc ps)
 len:ps.length≤400
theorem TextOk.enc_le {s:ByteArray} {ps:List Nat} (h:TextOk s ps):(enc ps).length≤1600:=by have:=enc_len_le ps;have:=h.len;omega
theorem TextOk.rn {s:ByteArray} {ps:List Nat} (h:TextOk s ps):rn s=some (ints ps):=by
 have:=h.enc_le
 rw[h.str];exact rn_enc h.scal om
theorem ints_len (ps:List Nat):(ints ps).length=ps.length:=by simp[ints]
theorem TextOk.lets {s:ByteArray} {ps:List Nat} (h:TextOk s ps):Lets (ints ps):=fun c hc=>by
 obtain ⟨x,hx,rfl⟩:=List.mem_map.1 hc
 have:=scal_i32 (h.scal x hx)
 omega
theorem check_cases {p:Pc} {s:ByteArray} (hb:BdL (preP p)) (hs:s.size≤1048576):
 (∃ w:Int × Int,w.1≠0∧(∀ i,Tot (fun n=>rematch_check n p.un s i) (· =w))∧Tot (fun n=>law4_searchFault n p.un s) (· =(w,[])))∨
 (okP p∧∃ ps,TextOk s ps∧Tot (fun n=>law4_searchFault n p.un s) (· =((0,0),ints ps))∧∀ i,Tot (fun n=>rematch_check n p.un s i) (· =if i<0∨i>(ps.length:Int) then (4, -3) else (0,0))):=by
 rcases chkV_cases p with ⟨hok,hv⟩ | ⟨_,hv⟩
 ·cases hval:validD (bytesOf s) with
  | false=>
    refine .inl ⟨(6, -2),ddc,fun i=>?_,?_⟩
    ·unfold rematch_check
     refine aa (Check_tot hb) fun a e=>?_
     subst e
     rw[hv]
     refine ae rfl (aa (ValidString_tot om) fun a e=>?_)
     subst e
     rw[hval]
     exact ai rfl (ac rfl)
    ·unfold law4_searchFault
     refine aa (Fault_tot hb) fun a e=>?_
     subst e
     rw[hv]
     refine ae rfl (aa (pts_bad hs hval) fun a e=>?_)
     subst e
     exact ai rfl (ac rfl)
  | true=>
    obtain ⟨ps,hps,he⟩:=valid_iff hval
    have hse:s=strOf (enc ps):=by rw[← he,str_bytes]
    have hsz:(enc ps).length≤1048576:=by rw[hse,size_str]at hs;exact hs
    have hln:=enc_len_ge ps
    have hA:∀ i,Tot (fun n=>rematch_check n p.un s i) (· =if (ps.length:Int)>400 then (3, -2) else if i<0∨i>(ps.length:Int) then (4, -3) else (0,0)):=fun i=>by
     unfold rematch_check
     refine aa (Check_tot hb) fun a e=>?_
     subst e
     rw[hv]
     refine ae rfl (aa (ValidString_tot om) fun a e=>?_)
     subst e
     rw[hval]
     refine ae rfl (aa (P:=(· =(ps.length:Int))) (by rw[hse];exact RuneCount_tot hps hsz) fun a e=>?_)
     subst e
     by_cases h1:(ps.length:Int)>400
     ·rw[if_pos h1];exact ai (dtt h1) (ac rfl)
     ·rw[if_neg h1]
      refine ae (dff h1) ?_
      by_cases h2:i<0∨i>(ps.length:Int)
      ·rw[if_pos h2]
       refine ai ?_ (ac rfl)
       rcases h2 with h2 | h2
       ·rw[dtt h2,Bool.true_or]
       ·rw[dtt h2,Bool.or_true]
      ·rw[if_neg h2]
       exact ae (by rw[dff (fun h=>h2 (.inl h)),dff (fun h=>h2 (.inr h))];rfl) (ac rfl)
    have hB:Tot (fun n=>law4_searchFault n p.un s) (· =if (ps.length:Int)>400 then ((3, -2),[]) else ((0,0),ints ps)):=by
     unfold law4_searchFault
     refine aa (Fault_tot hb) fun a e=>?_
     subst e
     rw[hv]
     refine ae rfl (aa (P:=(· =(ints ps,true))) (by rw[hse];exact pts_tot hps hsz) fun a e=>?_)
     subst e
     refine ae rfl (Tot.some_bind ?_)
     rw[ints_len]
     by_cases h1:(ps.length:Int)>400
     ·rw[if_pos h1];exact ai (dtt h1) (ac rfl)
     ·rw[if_neg h1];exact ae (dff h1) (ac rfl)
    by_cases h1:(ps.length:Int)>400
    ·simp only[if_pos h1]at hA hB
     exact .inl ⟨(3, -2),ddc,hA,hB⟩
    ·simp only[if_neg h1]at hA hB
     exact .inr ⟨hok,ps,⟨hps,hse,om⟩,hB,hA⟩
 ·refine .inl ⟨((chkV p).1, -1),hv,fun i=>?_,?_⟩
  ·unfold rematch_check
   refine aa (Check_tot hb) fun a e=>?_
   subst e
   exact ai (by simpa using hv) (ac rfl)
  ·unfold law4_searchFault
   refine aa (Fault_tot hb) fun a e=>?_
   subst e
   exact ai (by simpa using hv) (ac rfl)
/-! one match -/
theorem found {p:Pc} {s:ByteArray} {ps:List Nat} (hok:okP p) (hb:BdL (preP p)) (ht:TextOk s ps) (first last:Int) (wh:Bool) (h0:0≤first) (h1:first≤last+1) (h2:last≤(ps.length:Int)):
 ∃ o,Fine (gr p) ps.length first last wh o∧Tot (fun m=>rematch_run m p.un (ints ps) first last wh) (· =runO o)∧Tot (fun m=>ref4_Search m p.un (ints ps) first last wh) (· =srcO o):=by
 obtain ⟨h3,h4⟩:=ok_T hok hb
 obtain ⟨_,_,hz,_⟩:=id hok
 have hl:=ht.len
 have:=search_rel (tx:=ints ps) (G:=gr p) ht.lets (by rw[ints_len];omega) om h3 (GroupsOf_tot hb hz) wh (last:=last) (first:=first) (by rw[ints_len];exact h2) h0 (Groups_ok hb hok) h1
 rw[ints_len]at this
 exact this
end Go.Gv.M
/-! Own work: all matches, one after another. -/
namespace Go.Gv.M
open Go Go.Gv Go.Gv.D Go.Gv.X Go.Gv.R Go.Gv.P Go.Lib
set_option maxHeartbeats 4000000
abbrev AllS:=List Sp × Int × (Int × Int)
abbrev AllR:=List Sp × (Int × Int)
noncomputable def allF (m:Nat) (p:PcT) (tx:List Int) (most:Int) (s16:AllS):Option (AllS ⊕ (AllR ⊕ AllR)):=
 (if ((decide (s16.2.1≤((ad tx:Nat):Int)))&&((decide (most<0))||(decide (((ad s16.1:Nat):Int)<most)))) then (Option.bind (rematch_run m p tx s16.2.1 ((ad tx:Nat):Int) false) fun r39=>(if (r39.2.2.1 !=0) then (some (.inr (.inr ((([]:List ((List (Int × Int)))),(r39.2.2.1,r39.2.2.2)))))) else (if (!r39.2.1) then (some (.inr (.inl (s16.1,(s16.2.2.1,s16.2.2.2))))) else (Option.bind (app s16.1 ([r39.1]:List ((List (Int × Int))))) fun l184=>(Option.bind (idx r39.1 0) fun x222=>(Option.bind (idx r39.1 0) fun x226=>(Option.bind (if (x226.1==x222.2) then (some ((IntKind.i64.wrap (x222.2+1)))) else (some (x222.2))) fun (j229:Int)=>(some (.inl (l184,j229,(s16.2.2.1,s16.2.2.2))))))))))) else (some (.inr (.inl (s16.1,(s16.2.2.1,s16.2.2.2))))))
noncomputable def evF (m:Nat) (p:PcT) (tx:List Int) (most:Int) (s10:List Sp × Int):Option ((List Sp × Int) ⊕ (List Sp ⊕ (List Sp × Bool))):=
 (if ((decide (s10.2≤((ad tx:Nat):Int)))&&((decide (most<0))||(decide (((ad s10.1:Nat):Int)<most)))) then (Option.bind (ref4_Search m p tx s10.2 ((ad tx:Nat):Int) false) fun r28=>(if r28.2.2 then (some (.inr (.inr ((([]:List (List (Int × Int))),true))))) else (if (!r28.2.1) then (some (.inr (.inl s10.1))) else (Option.bind (app s10.1 ([r28.1]:List (List (Int × Int)))) fun l71=>(Option.bind (idx r28.1 0) fun x97=>(Option.bind (idx r28.1 0) fun x103=>(Option.bind (idx r28.1 0) fun x106=>(Option.bind (if (x103.1==x106.2) then (some ((IntKind.i64.wrap (x97.2+1)))) else (some (x97.2))) fun (j111:Int)=>(some (.inl (l71,j111))))))))))) else (some (.inr (.inl s10.1))))
theorem all_eq (m:Nat) (p:PcT) (tx:List Int) (most:Int):rematch_all m p tx most=(loopN (allF m p tx most) m (([]:List Sp),0,(0,0))).bind (cont fun s=>some (s.1,(0,0))):=rfl
theorem every_eq (m:Nat) (p:PcT) (tx:List Int) (most:Int):ref4_Every m p tx most=(loopN (evF m p tx most) m (([]:List Sp),0)).bind (cont fun s=>some (s,false)):=rfl
/-- all matches, as a plain relation: from place i on, with some found before -/
inductive Ev (find:Int→Fd→Prop) (L:Int) (most:Int):Int→List Sp→Option (List Sp)→Prop where
 | stop {i out}:¬ (i≤L∧(most<0∨(out.length:Int)<most))→Ev find L most i out (some out)
 | over {i out}:i≤L→(most<0∨(out.length:Int)<most)→find i .over→Ev find L most i out none
 | none {i out}:i≤L→(most<0∨(out.length:Int)<most)→find i .no→Ev find L most i out (some out)
 | more {i out g s e r}:i≤L→(most<0∨(out.length:Int)<most)→find i (.yes g)→g[0]? =some (s,e)→Ev find L most (if s=e then e+1 else e) (out++[g]) r→Ev find L most i out r
def allO:Option (List Sp)→AllR
 | none=>([],(21, -1))
 | some l=>(l,(0,0))
def evO:Option (List Sp)→List Sp × Bool
 | none=>([],true)
 | some l=>(l,false)
/-- what is found at a place -/
def fnd (p:Pc) (ps:List Nat) (i:Int) (o:Fd):Prop:=Fine (gr p) ps.length i ps.length false o∧Tot (fun m=>rematch_run m p.un (ints ps) i ps.length false) (· =runO o)∧Tot (fun m=>ref4_Search m p.un (ints ps) i ps.length false) (· =srcO o)
def AQ:Option (List Sp)→(AllR ⊕ AllR)→Prop
 | none,y=>y= .inr ([],(21, -1))
 | some l,y=>∃ z,y= .inl (l,z)
def BQ:Option (List Sp)→(List Sp ⊕ (List Sp × Bool))→Prop
 | none,y=>y= .inr ([],true)
 | some l,y=>y= .inl l
section
variable {p:Pc} {s:ByteArray} {ps:List Nat} (hok:okP p) (hb:BdL (preP p)) (ht:TextOk s ps) (most:Int)
include hok hb ht
theorem all_lt:∀ (d:Nat) (i:Int) (out:List Sp),(ps.length:Int)+2≤i+d→0≤i→i≤(ps.length:Int)+1→(out.length:Int)≤i→∃ r,Ev (fnd p ps) ps.length most i out r∧
 LT (fun m=>allF m p.un (ints ps) most) (out,i,(0,0)) (AQ r)∧LT (fun m=>evF m p.un (ints ps) most) (out,i) (BQ r)
 | d,i,out,hd,h0,h1,ho=>by
   have hlen:=ht.len
   by_cases hc:i≤(ps.length:Int)∧(most<0∨(out.length:Int)<most)
   ·obtain ⟨d,rfl⟩:∃ k,d=k+1:=⟨d-1,om⟩
    obtain ⟨o,hf,hA,hB⟩:=found hok hb ht i ps.length false h0 om (Int.le_refl _)
    have hcb:(decide (i≤(((ints ps).length:Nat):Int))&&(decide (most<0)||decide (((out.length:Nat):Int)<most)))=true:=by
     rw[ints_len,dtt hc.1,Bool.true_and]
     rcases hc.2 with h | h
     ·rw[dtt h,Bool.true_or]
     ·rw[dtt h,Bool.or_true]
    have ea:∀ m,allF m p.un (ints ps) most (out,i,(0,0))=(rematch_run m p.un (ints ps) i ps.length false).bind fun r39=>(if (r39.2.2.1 !=0) then (some (.inr (.inr ((([]:List ((List (Int × Int)))),(r39.2.2.1,r39.2.2.2)))))) else (if (!r39.2.1) then (some (.inr (.inl (out,((0:Int),(0:Int)))))) else (Option.bind (app out ([r39.1]:List ((List (Int × Int))))) fun l184=>(Option.bind (idx r39.1 0) fun x222=>(Option.bind (idx r39.1 0) fun x226=>(Option.bind (if (x226.1==x222.2) then (some ((IntKind.i64.wrap (x222.2+1)))) else (some (x222.2))) fun (j229:Int)=>(some (.inl (l184,j229,((0:Int),(0:Int)))))))))):Option (AllS ⊕ (AllR ⊕ AllR))):=fun m=>by
     unfold allF;refine (if_pos hcb).trans ?_;simp only[ints_len]
    have eb:∀ m,evF m p.un (ints ps) most (out,i)=(ref4_Search m p.un (ints ps) i ps.length false).bind fun r28=>(if r28.2.2 then (some (.inr (.inr ((([]:List (List (Int × Int))),true))))) else (if (!r28.2.1) then (some (.inr (.inl out))) else (Option.bind (app out ([r28.1]:List (List (Int × Int)))) fun l71=>(Option.bind (idx r28.1 0) fun x97=>(Option.bind (idx r28.1 0) fun x103=>(Option.bind (idx r28.1 0) fun x106=>(Option.bind (if (x103.1==x106.2) then (some ((IntKind.i64.wrap (x97.2+1)))) else (some (x97.2))) fun (j111:Int)=>(some (.inl (l71,j111))))))))):Option ((List Sp × Int) ⊕ (List Sp ⊕ (List Sp × Bool)))):=fun m=>by
     unfold evF;refine (if_pos hcb).trans ?_;simp only[ints_len]
    cases o with
    | over=>
      refine ⟨none,.over hc.1 hc.2 ⟨hf,hA,hB⟩,LT.fin (r:=.inr ([],(21, -1))) (eqf ea (aa hA fun a e=>?_)) (by exact rfl),LT.fin (r:=.inr ([],true)) (eqf eb (aa hB fun a e=>?_)) (by exact rfl)⟩
      ·subst e;exact ac rfl
      ·subst e;exact ac rfl
    | no=>
      refine ⟨some out,.none hc.1 hc.2 ⟨hf,hA,hB⟩,LT.fin (r:=.inl (out,(0,0))) (eqf ea (aa hA fun a e=>?_)) ⟨_,rfl⟩,LT.fin (r:=.inl out) (eqf eb (aa hB fun a e=>?_)) (by exact rfl)⟩
      ·subst e;exact ac rfl
      ·subst e;exact ac rfl
    | yes g=>
      obtain ⟨hW,s1,e1,hg,f1,f2,f3,f4,f5⟩:=id hf
      obtain ⟨r,hr,iA,iB⟩:=all_lt d (if s1=e1 then e1+1 else e1) (out++[g]) (by split<;>omega) (by split<;>omega) (by split<;>omega) (by rw[ab,ag];split<;>omega)
      have hi:idx g 0=some (s1,e1):=by rw[show (0:Int)=((0:Nat):Int) from rfl,idx_nat,hg]
      have ha:app out [g]=some (out++[g]):=by unfold app;rw[if_pos (by rw[ag];omega)]
      have hj:(if (s1==e1)=true then some (IntKind.i64.wrap (e1+1)) else some e1)=some (if s1=e1 then e1+1 else e1):=by
       rw[i64_small (x:=e1+1) om om]
       by_cases h:s1=e1
       ·rw[if_pos (by simpa using h),if_pos h]
       ·rw[if_neg (by simpa using h),if_neg h]
      refine ⟨r,.more hc.1 hc.2 ⟨hf,hA,hB⟩ hg hr,LT.step (eqf ea (aa hA fun a e=>?_)) iA,LT.step (eqf eb (aa hB fun a e=>?_)) iB⟩
      ·subst e
       refine Tot.alln fun m=>?_
       simp only[runO,bne_self_eq_false,af,if_false,Bool.not_true,ha,hi,Option.bind_some,hj]
      ·subst e
       refine Tot.alln fun m=>?_
       simp only[srcO,af,if_false,Bool.not_true,ha,hi,Option.bind_some,hj]
   ·have hcb:(decide (i≤(((ints ps).length:Nat):Int))&&(decide (most<0)||decide (((out.length:Nat):Int)<most)))=false:=by
     rw[ints_len]
     by_cases h:i≤(ps.length:Int)
     ·rw[dff (fun e=>hc ⟨h,.inl e⟩),dff (fun e=>hc ⟨h,.inr e⟩)];simp
     ·rw[dff h,Bool.false_and]
    refine ⟨some out,.stop hc,LT.fin (r:=.inl (out,(0,0))) (Tot.alln fun m=>?_) ⟨_,rfl⟩,LT.fin (r:=.inl out) (Tot.alln fun m=>?_) (by exact rfl)⟩
    ·unfold allF;simp only[hcb,af,if_false]
    ·unfold evF;simp only[hcb,af,if_false]
theorem all_tot:∃ r,Ev (fnd p ps) ps.length most 0 [] r∧Tot (fun m=>rematch_all m p.un (ints ps) most) (· =allO r)∧Tot (fun m=>ref4_Every m p.un (ints ps) most) (· =evO r):=by
 obtain ⟨r,hr,hA,hB⟩:=all_lt hok hb ht most (ps.length+2) 0 [] om om om (by simp)
 refine ⟨r,hr,eqf (fun m=>all_eq m p.un (ints ps) most) (aa (LT.tot hA) fun y hy=>?_),eqf (fun m=>every_eq m p.un (ints ps) most) (aa (LT.tot hB) fun y hy=>?_)⟩
 ·cases r with
  | none=>cases hy;exact ac rfl
  | some l=>obtain ⟨z,rfl⟩:=hy;exact ac rfl
 ·cases r with
  | none=>cases hy;exact ac rfl
  | some l=>cases hy;exact ac rfl
end
end Go.Gv.M
/-! Own work: templates. -/
namespace Go.Gv.M
open Go Go.Gv Go.Gv.D Go.Gv.X Go.Gv.R Go.Gv.P Go.Lib
set_option maxHeartbeats 4000000
/-- parts of the program stand for a template's parts -/
inductive Ex:List (UInt8 ⊕ Nat)→List (ByteArray × Int)→Prop where
 | nil:Ex [] []
 | lit {its l} (a:List UInt8):Ex its l→Ex (a.map .inl++its) ((strOf a, -1)::l)
 | grp {its l} (k:Nat):Ex its l→Ex (.inr k::its) ((strOf [],(k:Int))::l)
theorem Ex.app {i1 i2:List (UInt8 ⊕ Nat)} {l1 l2:List (ByteArray × Int)} (h:Ex i1 l1) (h':Ex i2 l2):Ex (i1++i2) (l1++l2):=by
 induction h with
 | nil=>exact h'
 | lit a _ ih=>rw[List.append_assoc];exact .lit a ih
 | grp k _ ih=>exact .grp k ih
theorem app1 {α:Type} {l:List α} (x:α) (h:l.length≤100000000):app l [x]=some (l++[x]):=by unfold app;rw[if_pos (by rw[ag];omega)]
end Go.Gv.M
/-! Own work: replacing. -/
namespace Go.Gv.M
open Go Go.Gv Go.Gv.D Go.Gv.X Go.Gv.R Go.Gv.P Go.Lib
set_option maxHeartbeats 4000000
/-! parts of the text -/
def slice (ps:List Nat) (a b:Int):List Nat:=(ps.take b.toNat).drop a.toNat
theorem slice_scal {ps:List Nat} (h:∀ c∈ps,Scal c) (a b:Int):∀ c∈slice ps a b,Scal c:=fun c hc=>h c (List.mem_of_mem_take (List.mem_of_mem_drop hc))
theorem sub_ints {ps:List Nat} {a b:Int} (h0:0≤a) (h1:a≤b) (h2:b≤(ps.length:Int)):sub (ints ps) a b=some (ints (slice ps a b)):=by
 unfold sub
 rw[if_pos (by rw[ints_len];exact ⟨h0,h1,h2⟩)]
 simp[slice,ints]
/-- spans within a text -/
def GW (G L:Nat) (g:Sp):Prop:=g.length=G+1∧∀ (j:Nat) (x:Int × Int),g[j]? =some x→x.1<0∨(0≤x.1∧x.1≤x.2∧x.2≤(L:Int))
section
variable {ps:List Nat} (hp:∀ c∈ps,Scal c) (hl:ps.length≤400) {G:Nat}
include hp hl
/-- matches in their order from a place on -/
inductive Chain (G L:Nat):Int→List Sp→Prop where
 | nil {i}:Chain G L i []
 | cons {i g s e t}:GW G L g→g[0]? =some (s,e)→i≤s→s≤e→e≤(L:Int)→Chain G L (if s=e then e+1 else e) t→Chain G L i (g::t)
omit hp hl in
theorem Chain.le {G L:Nat} {i j:Int} {l:List Sp} (h:Chain G L i l) (hj:j≤i):Chain G L j l:=by
 cases h with
 | nil=>exact .nil
 | cons h1 h2 h3 h4 h5 h6=>exact .cons h1 h2 om h4 h5 h6
end
end Go.Gv.M
/-! Own work: replacing (2), splitting. -/
namespace Go.Gv.M
open Go Go.Gv Go.Gv.D Go.Gv.X Go.Gv.R Go.Gv.P Go.Lib
set_option maxHeartbeats 4000000
section
variable {p:Pc} {s:ByteArray} {ps:List Nat} (hok:okP p) (hb:BdL (preP p)) (ht:TextOk s ps) (hck:Tot (fun n=>rematch_check n p.un s 0) (· =(0,0)))
include hok hb ht hck
end
end Go.Gv.M
/-! Own work: the examples, which are a closed run. -/
namespace Go.Gv.M
open Go Go.Gv Go.Gv.D Go.Gv.X Go.Gv.R Go.Gv.P Go.Lib
set_option maxRecDepth 1000000
theorem finds_k:∀ k,law4_finds (k+100)=some true:=fun k=>by kernel_rfl
theorem finds_tot:Tot (fun n=>law4_finds n) (· =true):=Tot.of_all 100 finds_k rfl
end Go.Gv.M
/-! Own work: the law of finding. -/
namespace Go.Gv.M
open Go Go.Gv Go.Gv.D Go.Gv.X Go.Gv.R Go.Gv.P Go.Lib
set_option maxHeartbeats 4000000
section
variable {p:Pc} {s:ByteArray} {w:Int × Int} (hw:w.1≠0) (hc:∀ i,Tot (fun n=>rematch_check n p.un s i) (· =w))
include hw hc
end
section
variable {p:Pc} {s:ByteArray} {ps:List Nat} (ht:TextOk s ps) (hc:∀ i,Tot (fun n=>rematch_check n p.un s i) (· =if i<0∨i>(ps.length:Int) then (4, -3) else (0,0)))
include ht hc
theorem Find_o {i:Int} (h:¬ (i<0∨i>(ps.length:Int))) {o:Fd} (hr:Tot (fun m=>rematch_run m p.un (ints ps) i ps.length false) (· =runO o)):Tot (fun n=>rematch_Find n p.un s i) (· =runO o):=by
 unfold rematch_Find
 refine aa (hc i) fun a e=>?_
 rw[if_neg h]at e
 subst e
 refine ae rfl (Tot.bind0 ht.rn ?_)
 rw[ints_len]
 refine aa hr fun a e=>?_
 subst e
 exact ac rfl
end
end Go.Gv.M
