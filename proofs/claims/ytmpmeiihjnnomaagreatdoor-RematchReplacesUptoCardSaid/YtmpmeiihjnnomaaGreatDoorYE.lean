import Derived.Test.YtmpmeiihjnnomaaGreatDoorY1
set_option linter.all false
open List renaming length_append->aa,length_cons->ad,length->af,length_singleton->ag,append_assoc->aj,append_nil->al
open Go.Gv.Tot renaming bindq->ab,ret->ac,if_->ai,it->am,bind0->an
open Bool renaming false_eq_true->ae
open Int renaming le_refl->ak
namespace Go.Gv.M
open Go Go.Gv Go.Gv.D Go.Gv.X Go.Gv.R Go.Gv.P
set_option maxHeartbeats 4000000
abbrev RunS:=Int × Sp × Bool × (Int × Int) × TSt
abbrev ziv:=Sp × Bool × (Int × Int)
noncomputable def zig (m:Nat) (p:PcT) (last:Int) (wh:Bool) (s67:RunS):Option (RunS ⊕ (ziv ⊕ ziv)):=
 (if (decide (s67.1<=last)) then (Option.bind (zzQ m s67.2.2.2.2 p s67.1 wh) (pcase (fun r145=>(if r145.1 then (some (.inr (.inr ((r145.2.2.1,true,(0,0)))))) else (some (.inl ((IntKind.i64.wrap (s67.1+1)),s67.2.1,s67.2.2.1,(s67.2.2.2.1.1,s67.2.2.2.1.2),(s67.2.2.2.2.1,r145.2.2.1,r145.2.2.2)))))) (fun pn148=>(some (.inr (.inr ((([]:List (Int × Int)),false,(21,(-1)))))))))) else (some (.inr (.inl (s67.2.1,s67.2.2.1,(s67.2.2.2.1.1,s67.2.2.2.1.2))))))
noncomputable def gB (m:Nat) (p:PcT) (s50:Sp × Int):Option ((Sp × Int) ⊕ Sp):=
 (Option.bind (zzb m p) fun r72=>(if (decide (s50.2<=r72)) then (Option.bind (app s50.1 ([((-1),(-1))]:List (Int × Int))) fun l90=>(some (.inl (l90,(IntKind.i64.wrap (s50.2+1)))))) else (some (.inr (s50.1)))))
noncomputable def srF (m:Nat) (p:PcT) (last:Int) (s16:Int × Eng):Option ((Int × Eng) ⊕ (Eng ⊕ (Sp × Bool × Bool))):=
 (Option.bind (if (decide (s16.1<=last)) then (some ((!s16.2.2.2.2))) else (some (false))) fun (j28:Bool)=>(if j28 then (Option.bind (zzf (gB m p) m (([]:List (Int × Int)),0)) fun (j48:(List (Int × Int)))=>(Option.bind (zzy m s16.2 p s16.1 j48 rF) fun r155=>(if r155.2.1 then (Option.bind (idx r155.1 0) fun x173=>(Option.bind (upd r155.1 0 (s16.1,x173.2)) fun l175=>(some (.inr (.inr ((l175,true,false))))))) else (some (.inl ((IntKind.i64.wrap (s16.1+1)),(s16.2.1,r155.2.2.2.1,r155.2.2.2.2.1,r155.2.2.2.2.2))))))) else (some (.inr (.inl (s16.2.1,s16.2.2.1,s16.2.2.2.1,s16.2.2.2.2))))))
theorem zhw (m:Nat) (p:PcT) (tx:List Int) (first last:Int) (wh:Bool):zyl m p tx first last wh=(zyq m p).bind fun r=>(mk (IntKind.i64.wrap (r.1+1)) ((0:Int),(0:Int))).bind fun l=>(zzf (zig m p last wh) m (first,([]:Sp),false,(0,0),(tx,l,0))).bind (zyA fun _=>some (([]:Sp),false,(0,0))):=rfl
theorem zn0 (m:Nat) (p:PcT) (tx:List Int) (first last:Int) (wh:Bool):zyX m p tx first last wh=(zzf (srF m p last) m (first,(tx,0,wh,false))).bind (zyA fun s=>some (([]:Sp),false,s.2.2.2)):=rfl
theorem ziq {p:PcT} {G:Nat} (hG:G<=1000) (hg:Tot (fun n=>zzb n p) (· =(G:Int))):∀ (d k:Nat),k+d=G+1->LT (fun m=>gB m p) (neg k,(k:Int)) (· =neg (G+1))
 | 0,k,h=>by
   have h:k=G+1:=by omega
   subst h
   refine LT.fin (r:=neg (G+1)) (ab hg fun a e=>?_) rfl
   subst e
   exact ai (dff (by show ¬ (((G+1:Nat):Int)<=(G:Int));omega)) (ac rfl)
 | d+1,k,h=>by
   refine LT.step (ab hg fun a e=>?_) (ziq hG hg d (k+1) om)
   subst e
   refine am (dtt (by show (k:Int)<=(G:Int);omega)) (Tot.alln fun m=>?_)
   unfold app
   rw[if_pos (by simp[neg];omega)]
   simp only[Option.bind_some,zzw (x:=(k:Int)+1) om om]
   rw[show neg k++[((-1:Int),(-1:Int))]=neg (k+1) by simp[neg,List.replicate_succ']]
   rfl
inductive Fd where
 | over
 | no
 | yes (g:Sp)
def zi2:Fd->ziv
 | .over=>([],false,(21, -1))
 | .no=>([],false,(0,0))
 | .yes g=>(g,true,(0,0))
def srcO:Fd->Sp × Bool × Bool
 | .over=>([],false,true)
 | .no=>([],false,false)
 | .yes g=>(g,true,false)
def ziZ (G L:Nat) (first last:Int) (wh:Bool):Fd->Prop
 | .yes g=>Wf G L g∧∃ s k,g[0]? =some (s,k)∧first<=s∧s<=last∧s<=k∧k<=(L:Int)∧(wh=true->k=(L:Int))
 | _=>True
def RunQ:Fd->(ziv ⊕ ziv)->Prop
 | .no,y=>∃ z,y= .inl z
 | o,y=>y= .inr (zi2 o)
def SrQ (tx:List Int) (wh:Bool):Fd->(Eng ⊕ (Sp × Bool × Bool))->Prop
 | .over,y=>∃ t,y= .inl (tx,t,wh,true)
 | .no,y=>∃ t,y= .inl (tx,t,wh,false)
 | .yes g,y=>y= .inr (g,true,false)
theorem zis (G L:Nat):Wf G L (neg (G+1)):=⟨by simp,fun j x hj h=>by
 have:=List.getElem?_replicate (a:=((-1:Int),(-1:Int))) (n:=G+1) (i:=j)
 rw[this]at h
 split at h
 ·cases h;exact .inl ddc
 ·cases h⟩
section
variable {tx:List Int} {G:Nat} (hx:zjG tx) (hL:tx.length<=1000) (hG:G<=1000) {p:Pc} (hp:okT G p) (hg:Tot (fun n=>zzb n p.un) (· =(G:Int))) (wh:Bool) {last first:Int} (hl:last<=(tx.length:Int)) (h0:0<=first)
include hx hL hG hp hg hl h0
theorem zrk:∀ (d:Nat) (q:Int) (n:Nat) (sp:Sp),q+d=last+1->first<=q->n<=20000->sp.length=G+1->∃ o,ziZ G tx.length first last wh o∧
 LT (fun m=>zig m p.un last wh) (q,([]:Sp),false,(0,0),(tx,sp,(n:Int))) (RunQ o)∧LT (fun m=>srF m p.un last) (q,(tx,(n:Int),wh,false)) (SrQ tx wh o)
 | 0,q,n,sp,hq,hf,hn,hs=>by
   refine ⟨.no,trivial,LT.fin (r:=.inl (([]:Sp),false,(0,0))) (Tot.alln fun m=>?_) ⟨_,rfl⟩,LT.fin (r:=.inl (tx,(n:Int),wh,false)) (Tot.alln fun m=>?_) ⟨_,rfl⟩⟩
   ·unfold zig;rw[if_neg oss]
   ·unfold srF;rw[if_neg oss];rfl
 | d+1,q,n,sp,hq,hf,hn,hs=>by
   have hc:decide (q<=last)=true:=dtt om
   obtain ⟨o,ho,h2,h3⟩:=zl0 hx hL hG (20001-n) n om hn wh (Qf q tx.length wh) p q (neg (G+1)) (neg (G+1)) (fun m k st=>zzm m k q (tx,st.2.1,st.2.2) wh) rF hp om om (E1.refl _) (zis _ _) (zkM hG wh _ q)
   have hF:Tot (fun m=>zzQ m (tx,sp,(n:Int)) p.un q wh) (PA tx (Qf q tx.length wh) (neg (G+1)) o):=by
    refine eqf (fun m=>fromA m tx sp n p.un q wh) (ab (LT.tot (zkm sp.length om tx n sp 0 (by simp))) fun a e=>?_)
    subst e
    rw[hs]
    exact zzd h2
   have hB:Tot (fun m=>(zzf (gB m p.un) m (([]:List (Int × Int)),0)).bind fun j=>zzy m (tx,(n:Int),wh,false) p.un q j rF) (PB tx wh o):=ab (LT.tot (ziq hG hg (G+1) 0 om)) fun a e=>by subst e;exact h3
   have eb:∀ m,srF m p.un last (q,(tx,(n:Int),wh,false))=((zzf (gB m p.un) m (([]:List (Int × Int)),0)).bind fun j=>zzy m (tx,(n:Int),wh,false) p.un q j rF).bind fun f=>(if f.2.1 then (Option.bind (idx f.1 0) fun z=>(Option.bind (upd f.1 0 (q,z.2)) fun y=>(some (.inr (.inr ((y,true,false))))))) else (some (.inl ((IntKind.i64.wrap (q+1)),(tx,f.2.2.2.1,f.2.2.2.2.1,f.2.2.2.2.2))))):=fun m=>by
    unfold srF
    simp only[hc,if_true,Bool.not_false,Option.bind_some]
    cases zzf (gB m p.un) m (([]:List (Int × Int)),0) with
    | none=>rfl
    | some j=>rfl
   have ea:∀ m,zig m p.un last wh (q,([]:Sp),false,(0,0),(tx,sp,(n:Int)))=(zzQ m (tx,sp,(n:Int)) p.un q wh).bind (pcase (fun h=>(if h.1 then (some (.inr (.inr ((h.2.2.1,true,(0,0)))))) else (some (.inl ((IntKind.i64.wrap (q+1)),([]:Sp),false,(0,0),(tx,h.2.2.1,h.2.2.2)))))) (fun ar=>(some (.inr (.inr ((([]:List (Int × Int)),false,(21,(-1))))))))):=fun m=>by
    unfold zig
    simp only[hc,if_true]
   have hw:IntKind.i64.wrap (q+1)=q+1:=zzw om om
   rw[hw]at ea eb
   cases o with
   | over=>
     obtain ⟨b,⟨v,t,x⟩,N,hN⟩:=hB
     obtain ⟨b1,b2,b3⟩:=b
     simp only at v x
     subst v;subst x
     refine ⟨.over,trivial,LT.fin (r:=.inr ([],false,(21, -1))) (eqf ea (ab hF fun a ha=>?_)) (by exact rfl),LT.step (st':=(q+1,(tx,t,wh,true))) (eqf eb (tb hN fun m=>rfl)) (LT.fin (r:=.inl (tx,t,wh,true)) (Tot.alln fun m=>?_) ⟨t,rfl⟩)⟩
     ·cases ha;exact ac rfl
     ·unfold srF
      cases decide (q+1<=last)<;>rfl
   | no n2=>
     obtain ⟨a,⟨s2,rfl,u⟩,N,hN⟩:=hF
     have hn2:=ho.1
     obtain ⟨o,ao,iA,iB⟩:=zrk d (q+1) n2 s2 om om ho.2 (by rw[u.1];simp)
     refine ⟨o,ao,LT.step (eqf ea (tb hN fun m=>rfl)) iA,LT.step (eqf eb (ab hB fun b hb=>?_)) iB⟩
     obtain ⟨b1,b2,b3⟩:=b
     cases hb;exact ac rfl
   | yes g n2=>
     obtain ⟨a,⟨s2,rfl,u⟩,N,hN⟩:=hF
     obtain ⟨hE,k,a0,e1,e2,e3,e4,e5⟩:=u
     have l:0<g.length:=(List.getElem?_eq_some_iff.1 e2).1
     have ap:s2=g.set 0 (q,k):=by
      refine List.ext_getElem? fun j=>?_
      by_cases hj:j=0
      ·subst hj;rw[e1,List.getElem?_set_self l]
      ·rw[hE.2 j om,List.getElem?_set_ne om]
     subst ap
     have aq:=ho.2.2
     refine ⟨.yes (g.set 0 (q,k)),⟨aq.set0 _,q,k,by rw[List.getElem?_set_self l],hf,om,e3,e4,e5⟩,LT.fin (r:=.inr (g.set 0 (q,k),true,(0,0))) (eqf ea (tb hN fun m=>rfl)) (by exact rfl),LT.fin (r:=.inr (g.set 0 (q,k),true,false)) (eqf eb (ab hB fun b hb=>?_)) (by exact rfl)⟩
     cases hb
     refine Tot.alln fun m=>?_
     have hi:idx g 0=some (a0,k):=by rw[show (0:Int)=((0:Nat):Int) from rfl,idx_nat,e2]
     have hu:upd g 0 (q,k)=some (g.set 0 (q,k)):=zuR l (q,k)
     simp only[if_true,hi,Option.bind_some,hu]
theorem zpA (hgr:Tot (fun n=>zyq n p.un) (· =((G:Int),((0:Int),(0:Int))))) (hfl:first<=last+1):∃ o,ziZ G tx.length first last wh o∧Tot (fun m=>zyl m p.un tx first last wh) (· =zi2 o)∧Tot (fun m=>zyX m p.un tx first last wh) (· =srcO o):=by
 obtain ⟨o,ho,hA,hB⟩:=zrk hx hL hG hp hg wh hl h0 (last+1-first).toNat first 0 (List.replicate (G+1) (0,0)) om (ak _) om (by simp)
 refine ⟨o,ho,eqf (fun m=>zhw m p.un tx first last wh) (ab hgr fun a e=>?_),eqf (fun m=>zn0 m p.un tx first last wh) (ab (LT.tot hB) fun y hy=>?_)⟩
 ·subst e
  rw[zzw (x:=(G:Int)+1) om om]
  have b:mk ((G:Int)+1) ((0:Int),(0:Int))=some (List.replicate (G+1) (0,0)):=by
   unfold mk
   rw[if_pos om]
   rw[show ((G:Int)+1).toNat=G+1 by omega]
  refine an b (ab (LT.tot hA) fun y hy=>?_)
  cases o with
  | over=>cases hy;exact ac rfl
  | no=>obtain ⟨z,rfl⟩:=hy;exact ac rfl
  | yes g=>cases hy;exact ac rfl
 ·cases o with
  | over=>obtain ⟨t,rfl⟩:=hy;exact ac rfl
  | no=>obtain ⟨t,rfl⟩:=hy;exact ac rfl
  | yes g=>cases hy;exact ac rfl
end
end Go.Gv.M
namespace Go.Gv.M
open Go Go.Gv Go.Gv.D Go.Gv.R Go.Gv.P Go.Lib
theorem zsk {r:Nat} (h:Scal r):r<=1114111:=by rcases h with h | h<;>omega
theorem zp6 {r:Nat} (h:Scal r):Utf8.encode (r:Int)=strOf (zwV r):=by
 have hv:Utf8.valid (r:Int)=true:=by
  unfold Utf8.valid
  rcases h with h | ⟨h1,h2⟩
  ·rw[dtt (show (0:Int)<=(r:Int) by omega),dtt (show (r:Int)<0xD800 by omega)];rfl
  ·rw[dtt (show (0xE000:Int)<=(r:Int) by omega),dtt (show (r:Int)<=0x10FFFF by omega),Bool.and_true,Bool.or_true]
 have hs:=zsk h
 unfold Utf8.encode
 simp only[hv,if_true,Int.toNat_natCast]
 by_cases h1:r<0x80
 ·rw[if_pos h1,zqk om];rfl
 ·rw[if_neg h1]
  by_cases h2:r<0x800
  ·rw[if_pos h2,znN om om];rfl
  ·rw[if_neg h2]
   by_cases h3:r<0x10000
   ·rw[if_pos h3,zoH om om h];rfl
   ·rw[if_neg h3,zo5 om hs];rfl
theorem zrj:∀ (p:List Nat) (l:List UInt8),(∀ r∈p,Scal r)->(zzK p).foldl (fun r n=>r++Utf8.encode n) (strOf l)=strOf (l++enc p)
 | [],l,_=>by simp[zzK,enc]
 | c::p,l,h=>by
   have hc:=h c (List.mem_cons_self ..)
   show (zzK p).foldl _ (strOf l++Utf8.encode (c:Int))=_
   rw[zp6 hc,show strOf l++strOf (zwV c)=strOf (l++zwV c) from Option.some.inj (by have h:=zuP (l:=l) (m:=zwV c);unfold cat at h;by_cases hl:l.length+(zwV c).length<=9223372036854775807<;>first | (have:=h hl;rwa [if_pos (by rw[zzC,zzC];exact hl)]at this) | rfl),zrj p _ (fun r hr=>h r (List.mem_cons_of_mem _ hr)),zz7,aj]
theorem zvs {p:List Nat} (h:∀ r∈p,Scal r):ztB (zzK p)=strOf (enc p):=by
 have:=zrj p [] h
 rw[List.nil_append]at this
 exact this
theorem zo1:∀ (b a p:List Nat) (n:Nat),(∀ r∈p,Scal r)->p=a++b->(enc b).length<=n->rnF (strOf (enc p)) n (enc a).length=zzK b
 | [],a,p,n,_,e,_=>by
   rw[al]at e;subst e
   cases n with
   | zero=>rfl
   | succ n=>unfold rnF;rw[if_neg (by rw[zzC];omega)];rfl
 | c::b,a,p,n,hp,e,hn=>by
   have hc:Scal c:=hp c (by rw[e];simp)
   have hcp:=zuy c
   rw[zz7,aa]at hn
   obtain ⟨n,rfl⟩:∃ m,n=m+1:=⟨n-1,om⟩
   obtain ⟨d,f⟩:=zmq (s:=strOf (enc p)) (p:=a) (t:=b) hc (by rw[zyd,e])
   unfold rnF
   rw[if_pos (by rw[zzC,e,zyC,zz7,aa,aa];omega),d,f]
   have:=zo1 b (a++[c]) p n hp (by rw[e];simp) om
   rw[zsV,aa]at this
   rw[this];rfl
theorem zix {p:List Nat} (h:∀ r∈p,Scal r) (hl:(enc p).length<=1048576):rn (strOf (enc p))=some (zzK p):=by
 unfold rn
 rw[if_pos (by rw[zzC];omega)]
 have:=zo1 p [] p (strOf (enc p)).size h rfl (by rw[zzC];omega)
 exact congrArg some this
theorem zsY {p:List Nat} (h:∀ r∈p,Scal r) (hl:(enc p).length<=1048576):Tot (fun n=>zzG n (strOf (enc p))) (· =(p.length:Int)):=by
 unfold zzG
 simp only[zzC]
 refine ab (P:=fun j=>j=(p.length:Int)) ?_ fun j hj=>ac hj
 refine Tot.loop (fun st=>∃ a b,p=a++b∧st=((a.length:Int),(enc a).length)) (fun st=>(enc p).length+1-st.2) ⟨[],p,rfl,rfl⟩ fun st ⟨a,b,e,d⟩=>?_
 subst d
 dsimp only
 cases b with
 | nil=>
   rw[al]at e;subst e
   exact ai (dff om) (ac rfl)
 | cons c b=>
   have hc:Scal c:=h c (by rw[e];simp)
   have g:(enc p).length=(enc a).length+(zwV c).length+(enc b).length:=by rw[e,zyC,zz7,aa,aa];omega
   have hcp:=zuy c
   have hal:=zwc a
   refine am (dtt om) ?_
   obtain ⟨hr1,f⟩:=zmq (s:=strOf (enc p)) (p:=a) (t:=b) hc (by rw[zyd,e])
   rw[f]
   refine ac ⟨⟨a++[c],b,by rw[e];simp,?_⟩,by dsimp only;omega⟩
   rw[iw (n:=a.length+1) om om,zsV,aa,aa];rfl
theorem zlH {l m:List ByteArray} (hl:l.length<=100000000):Tot (fun n=>zy0 n l m) (· =decide (l=m)):=by
 unfold zy0
 refine Tot.ite (fun h=>ac ?_) fun h=>?_
 ·exact (dff fun e=>by subst e;simp at h).symm
 have b:l.length=m.length:=by
  by_cases e:(l.length:Int)=(m.length:Int)
  ·omega
  ·rw[bne_iff_ne.2 e]at h;cases h
 refine ab (P:=fun r=>(r= .inl ()∧l=m)∨(r= .inr false∧l≠m)) ?_ fun r hr=>?_
 ·refine Tot.loop (fun (st:Int)=>∃ i:Nat,st=(i:Int)∧i<=l.length∧l.take i=m.take i) (fun (st:Int)=>l.length-st.toNat) ⟨0,rfl,Nat.zero_le _,rfl⟩ fun st ⟨i,e,hi,a⟩=>?_
  subst e
  refine Tot.ite (fun h=>?_) fun h=>?_
  ·have h:i<l.length:=by have:=odt h;omega
   refine an (Go.Gv.R.idx_nat h) (an (Go.Gv.R.idx_nat (xs:=m) om) (Tot.ite (fun q=>ac (.inr ⟨rfl,fun e=>?_⟩)) fun q=>ac ⟨⟨i+1,iw om om,h,?_⟩,?_⟩))
   ·subst e;rw[zuF,dtt rfl]at q;cases q
   ·have q:l[i]=m[i]'(om):=by
     rw[zuF]at q
     by_cases e:l[i]=m[i]'(om)
     ·exact e
     ·rw[dff e]at q;cases q
    rw[List.take_succ_eq_append_getElem h,List.take_succ_eq_append_getElem om,a,q]
   ·rw[iw (n:=i+1) om om];omega
  ·have h:i=l.length:=by have:=odf h;omega
   subst h
   refine ac (.inl ⟨rfl,?_⟩)
   rw[List.take_length,b,List.take_length]at a;exact a
 ·rcases hr with ⟨e,h⟩ | ⟨e,h⟩
  ·subst e;exact Tot.contl (ac (dtt h).symm)
  ·subst e;exact Tot.contr (dff h).symm
end Go.Gv.M
namespace Go.Gv.M
open Go Go.Gv Go.Gv.D Go.Gv.X Go.Gv.R Go.Gv.P
set_option maxHeartbeats 4000000
def spF (a b:Sp) (s5:Int):Option (Int ⊕ (Unit ⊕ Bool)):=(if (decide (s5<((af a:Nat):Int))) then (Option.bind (idx a s5) fun x12=>(Option.bind (idx b s5) fun x15=>(if (!((x12.1==x15.1)&&(x12.2==x15.2))) then (some (.inr (.inr (false)))) else (some (.inl (IntKind.i64.wrap (s5+1))))))) else (some (.inr (.inl ()))))
theorem zij {a b:Sp} (hl:a.length<=BigR):∀ (r1 r2 p1 p2:Sp),a=p1++r1->b=p2++r2->p1.length=p2.length->r1.length=r2.length->LT (fun _=>spF a b) (p1.length:Int) (fun y=>y=if r1=r2 then .inl () else .inr false)
 | [],r2,p1,p2,e1,e2,h1,h2=>by
   have:r2=[]:=List.length_eq_zero_iff.1 h2.symm
   subst this
   refine LT.fin (r:=.inl ()) (Tot.alln fun n=>?_) (by rw[if_pos rfl])
   unfold spF
   rw[if_neg]
   rw[e1,al,dff om];decide
 | x::r1,[],p1,p2,e1,e2,h1,h2=>by cases h2
 | x::r1,y::r2,p1,p2,e1,e2,h1,h2=>by
   have f:=hl
   unfold BigR at f
   rw[e1,aa,ad]at f
   have d:spF a b (p1.length:Int)=if (!((x.1==y.1)&&(x.2==y.2)))=true then some (.inr (.inr false)) else some (.inl ((p1.length+1:Nat):Int)):=by
    unfold spF
    rw[if_pos (dtt (by rw[e1,aa,ad];omega))]
    rw[show idx a (p1.length:Int)=some x by rw[e1];exact zzL p1 x r1 rfl,show idx b (p1.length:Int)=some y by rw[e2];exact zzL p2 y r2 h1]
    simp only[Option.bind_some]
    rw[zzw (x:=(p1.length:Int)+1) om om]
    rfl
   by_cases h:x=y
   ·subst h
    have ih:=zij (a:=a) (b:=b) hl r1 r2 (p1++[x]) (p2++[x]) (by rw[e1];simp) (by rw[e2];simp) (by simp[h1]) (by simpa using h2)
    rw[show (((p1++[x]).length:Nat):Int)=((p1.length+1:Nat):Int) by simp]at ih
    refine LT.step (Tot.alln fun n=>by rw[d,if_neg (by simp)]) (ih.mono fun r hr=>?_)
    rw[hr];simp
   ·refine LT.fin (r:=.inr false) (Tot.alln fun n=>by rw[d,if_pos];obtain ⟨x1,x2⟩:=x;obtain ⟨y1,y2⟩:=y;simp only[Prod.mk.injEq]at h;simp only[Bool.not_eq_true',Bool.and_eq_false_imp,beq_iff_eq,beq_eq_false_iff_ne];intro e e';exact h ⟨e,e'⟩) ?_
    rw[if_neg]
    intro e;cases e;exact h rfl
theorem zrB {a b:Sp} (hl:a.length<=BigR):Tot (fun n=>zyz n a b) (· =decide (a=b)):=by
 show Tot (fun n=>if ((((af a:Nat):Int))!=((af b:Nat):Int))=true then some false else (zzf (spF a b) n 0).bind (zyA fun _=>some true)) _
 by_cases h:a.length=b.length
 ·refine ai (by simp[h]) (ab (LT.tot (zij hl a b [] [] rfl rfl rfl h)) fun y hy=>?_)
  subst hy
  by_cases he:a=b
  ·rw[if_pos he,dtt he];exact ac rfl
  ·rw[if_neg he,dff he];exact ac rfl
 ·refine am oss (ac ?_)
  exact (dff fun e=>h (by rw[e])).symm
theorem zlw {G g g':Nat} {q:Pc} (h:zyO g q.un= .inr g') (hG:g'<=G) (hb:q.un.2.2.2.2.2.1.length<=BigL∧q.un.2.2.2.2.2.2.length<=BigL):OkN G q.un∧g'=(if isG q then 1 else 0)+g:=by
 obtain ⟨k,lo,hi,no,lz,rs,a⟩:=q
 change zyO g (k,lo,hi,no,lz,rs,a)= .inr g' at h
 unfold zyO at h
 simp only[Pc.un]at hb ⊢
 by_cases h1:k<1∨13<=k
 ·rw[if_pos h1]at h;cases h
 rw[if_neg h1]at h
 by_cases h2:(zyI (k,lo,hi,no,lz,rs,a)&&zzY (k,lo,hi,no,lz,rs,a))=false
 ·rw[if_pos h2]at h;cases h
 rw[if_neg h2]at h
 have h2:zyI (k,lo,hi,no,lz,rs,a)=true∧zzY (k,lo,hi,no,lz,rs,a)=true:=by simpa using h2
 have hf:=h2.2
 by_cases h3:k=10∧zp7 (k,lo,hi,no,lz,rs,a)=false
 ·rw[if_pos h3]at h;cases h
 rw[if_neg h3]at h
 have e1:k=7∨k=10∨k=11->a≠[]:=fun hk e=>by
  subst e
  rcases hk with rfl | rfl | rfl<;>simp[zzY]at hf
 have b:k=12->1<=lo:=fun hk=>by
  subst hk
  simp[zzY]at hf
  exact hf.2.1
 by_cases h4:k=7∧lo≠0
 ·rw[if_pos h4]at h
  by_cases h5:lo=((g+1:Nat):Int)∧lo<=9
  ·rw[if_pos h5]at h
   cases h
   refine ⟨⟨by show 1<=k∧k<=12;omega,hb.1,hb.2,fun _=>⟨by show 0<=lo;omega,by show lo<=(G:Int);omega,e1 (.inl h4.1)⟩,fun hk=>e1 (.inr hk),fun hk=>by have:k=12:=hk;omega⟩,?_⟩
   unfold isG
   rw[if_pos (dtt ⟨h4.1,by show 0<lo;omega⟩)]
   omega
  ·rw[if_neg h5]at h;cases h
 ·rw[if_neg h4]at h
  by_cases h5:k=12∧(g:Int)<lo
  ·rw[if_pos h5]at h;cases h
  ·rw[if_neg h5]at h
   cases h
   refine ⟨⟨by show 1<=k∧k<=12;omega,hb.1,hb.2,fun hk=>?_,fun hk=>e1 (.inr hk),fun hk=>?_⟩,?_⟩
   ·have hk:k=7:=hk
    have:lo=0:=by
     by_cases e:lo=0
     ·exact e
     ·exact absurd ⟨hk,e⟩ h4
    exact ⟨by show 0<=lo;omega,by show lo<=(G:Int);omega,e1 (.inl hk)⟩
   ·have hk:k=12:=hk
    have:=b hk
    exact ⟨this,by show lo<=(G:Int);omega⟩
   ·unfold isG
    rw[dff]
    ·simp
    ·intro ⟨e,e'⟩
     have e:k=7:=e
     have e':0<lo:=e'
     exact h4 ⟨e,om⟩
theorem zmu:∀ (l:List Pc) (g g':Nat),chkL g l=some g'->BdL l->g'=g+X.cnt l∧∀ G,g'<=G->∀ q∈l,OkN G q.un
 | [],g,g',h,_=>by cases h;exact ⟨by simp[X.cnt],fun _ _ q hq=>by cases hq⟩
 | q::l,g,g',h,hb=>by
   rw[chkL]at h
   cases hn:zyO g q.un with
   | inl e=>rw[hn]at h;cases h
   | inr g1=>
     rw[hn]at h
     obtain ⟨a,b⟩:=zmu l g1 g' h (fun x hx=>hb x (List.mem_cons_of_mem _ hx))
     have h2:=fun (G:Nat) (hG:g1<=G)=>zlw hn hG (hb q (by simp))
     have h3:=(h2 g1 (Nat.le_refl _)).2
     refine ⟨by rw[a,h3,X.cnt];omega,fun G hG x hx=>?_⟩
     rcases List.mem_cons.1 hx with rfl | hx
     ·exact (h2 G om).1
     ·exact b G hG x hx
abbrev gr (p:Pc):Nat:=X.cnt (zxo p)
theorem ok_T {p:Pc} (h:okP p) (hb:BdL (zxo p)):okT (gr p) p∧gr p<=9:=by
 obtain ⟨g',h1,h2,h3⟩:=h
 obtain ⟨e,h4⟩:=zmu _ _ _ h1 hb
 have h5:=znR _ _ _ h1 ddc
 refine ⟨fun q hq=>h4 _ (by rw[e];simp) q hq,by unfold gr;omega⟩
end Go.Gv.M
namespace Go.Gv.M
open Go Go.Gv Go.Gv.D Go.Gv.X Go.Gv.R Go.Gv.P Go.Lib
set_option maxHeartbeats 4000000
theorem zor {ps:List Nat} (hp:∀ c∈ps,Scal c) (hl:(enc ps).length<=1048576):Tot (fun n=>zyG n (strOf (enc ps))) (· =(zzK ps,true)):=by
 refine (zsv (by rw[zzC];exact hl)).mono fun r hr=>?_
 rcases hr with ⟨h1,_⟩ | ⟨q,h1,h2,h3⟩
 ·rw[zyd,zti ps hp]at h1;cases h1
 ·rw[zyd]at h2
  rw[h3,znL hp h1 h2]
theorem zmy {s:ByteArray} (hs:s.size<=1048576) (h:validD (bytesOf s)=false):Tot (fun n=>zyG n s) (· =([],false)):=by
 refine (zsv hs).mono fun r hr=>?_
 rcases hr with ⟨_,h1⟩ | ⟨q,h1,h2,h3⟩
 ·exact h1
 ·rw[h2,zti q h1]at h;cases h
structure TextOk (s:ByteArray) (ps:List Nat):Prop where
 scal:∀ c∈ps,Scal c
 str:s=strOf (enc ps)
 len:ps.length<=400
theorem TextOk.enc_le {s:ByteArray} {ps:List Nat} (h:TextOk s ps):(enc ps).length<=1600:=by have:=zyb ps;have:=h.len;omega
theorem TextOk.rn {s:ByteArray} {ps:List Nat} (h:TextOk s ps):rn s=some (zzK ps):=by
 have:=h.enc_le
 rw[h.str];exact zix h.scal om
theorem zzW (ps:List Nat):(zzK ps).length=ps.length:=by simp[zzK]
theorem TextOk.lets {s:ByteArray} {ps:List Nat} (h:TextOk s ps):zjG (zzK ps):=fun c hc=>by
 obtain ⟨x,hx,rfl⟩:=List.mem_map.1 hc
 have:=zsk (h.scal x hx)
 omega
theorem zqy {p:Pc} {s:ByteArray} (hb:BdL (zxo p)) (hs:s.size<=1048576):
 (∃ w:Int × Int,w.1≠0∧(∀ i,Tot (fun n=>zzj n p.un s i) (· =w))∧Tot (fun n=>zzT n p.un s) (· =(w,[])))∨
 (okP p∧∃ ps,TextOk s ps∧Tot (fun n=>zzT n p.un s) (· =((0,0),zzK ps))∧∀ i,Tot (fun n=>zzj n p.un s i) (· =if i<0∨i>(ps.length:Int) then (4, -3) else (0,0))):=by
 rcases zpJ p with ⟨hok,hv⟩ | ⟨_,hv⟩
 ·cases b:validD (bytesOf s) with
  | false=>
    refine .inl ⟨(6, -2),ddc,fun i=>?_,?_⟩
    ·unfold zzj
     refine ab (zuu hb) fun a e=>?_
     subst e
     rw[hv]
     refine ai rfl (ab (zxM om) fun a e=>?_)
     subst e
     rw[b]
     exact am rfl (ac rfl)
    ·unfold zzT
     refine ab (ztD hb) fun a e=>?_
     subst e
     rw[hv]
     refine ai rfl (ab (zmy hs b) fun a e=>?_)
     subst e
     exact am rfl (ac rfl)
  | true=>
    obtain ⟨ps,f,he⟩:=zrT b
    have d:s=strOf (enc ps):=by rw[<- he,zxF]
    have g:(enc ps).length<=1048576:=by rw[d,zzC]at hs;exact hs
    have hln:=zwc ps
    have hA:∀ i,Tot (fun n=>zzj n p.un s i) (· =if (ps.length:Int)>400 then (3, -2) else if i<0∨i>(ps.length:Int) then (4, -3) else (0,0)):=fun i=>by
     unfold zzj
     refine ab (zuu hb) fun a e=>?_
     subst e
     rw[hv]
     refine ai rfl (ab (zxM om) fun a e=>?_)
     subst e
     rw[b]
     refine ai rfl (ab (P:=(· =(ps.length:Int))) (by rw[d];exact zsY f g) fun a e=>?_)
     subst e
     by_cases h1:(ps.length:Int)>400
     ·rw[if_pos h1];exact am (dtt h1) (ac rfl)
     ·rw[if_neg h1]
      refine ai (dff h1) ?_
      by_cases h2:i<0∨i>(ps.length:Int)
      ·rw[if_pos h2]
       refine am ?_ (ac rfl)
       rcases h2 with h2 | h2
       ·rw[dtt h2,Bool.true_or]
       ·rw[dtt h2,Bool.or_true]
      ·rw[if_neg h2]
       exact ai (by rw[dff (fun h=>h2 (.inl h)),dff (fun h=>h2 (.inr h))];rfl) (ac rfl)
    have hB:Tot (fun n=>zzT n p.un s) (· =if (ps.length:Int)>400 then ((3, -2),[]) else ((0,0),zzK ps)):=by
     unfold zzT
     refine ab (ztD hb) fun a e=>?_
     subst e
     rw[hv]
     refine ai rfl (ab (P:=(· =(zzK ps,true))) (by rw[d];exact zor f g) fun a e=>?_)
     subst e
     refine ai rfl (Tot.some_bind ?_)
     rw[zzW]
     by_cases h1:(ps.length:Int)>400
     ·rw[if_pos h1];exact am (dtt h1) (ac rfl)
     ·rw[if_neg h1];exact ai (dff h1) (ac rfl)
    by_cases h1:(ps.length:Int)>400
    ·simp only[if_pos h1]at hA hB
     exact .inl ⟨(3, -2),ddc,hA,hB⟩
    ·simp only[if_neg h1]at hA hB
     exact .inr ⟨hok,ps,⟨f,d,om⟩,hB,hA⟩
 ·refine .inl ⟨((zpN p).1, -1),hv,fun i=>?_,?_⟩
  ·unfold zzj
   refine ab (zuu hb) fun a e=>?_
   subst e
   exact am (by simpa using hv) (ac rfl)
  ·unfold zzT
   refine ab (ztD hb) fun a e=>?_
   subst e
   exact am (by simpa using hv) (ac rfl)
theorem zlE {p:Pc} {s:ByteArray} {ps:List Nat} (hok:okP p) (hb:BdL (zxo p)) (ht:TextOk s ps) (first last:Int) (wh:Bool) (h0:0<=first) (h1:first<=last+1) (h2:last<=(ps.length:Int)):
 ∃ o,ziZ (gr p) ps.length first last wh o∧Tot (fun m=>zyl m p.un (zzK ps) first last wh) (· =zi2 o)∧Tot (fun m=>zyX m p.un (zzK ps) first last wh) (· =srcO o):=by
 obtain ⟨h3,h4⟩:=ok_T hok hb
 obtain ⟨_,_,hz,_⟩:=id hok
 have hl:=ht.len
 have:=zpA (tx:=zzK ps) (G:=gr p) ht.lets (by rw[zzW];omega) om h3 (zuI hb hz) wh (last:=last) (first:=first) (by rw[zzW];exact h2) h0 (zrV hb hok) h1
 rw[zzW]at this
 exact this
abbrev AllS:=List Sp × Int × (Int × Int)
abbrev zjV:=List Sp × (Int × Int)
noncomputable def ziH (m:Nat) (p:PcT) (tx:List Int) (most:Int) (s16:AllS):Option (AllS ⊕ (zjV ⊕ zjV)):=
 (if ((decide (s16.2.1<=((af tx:Nat):Int)))&&((decide (most<0))||(decide (((af s16.1:Nat):Int)<most)))) then (Option.bind (zyl m p tx s16.2.1 ((af tx:Nat):Int) false) fun r39=>(if (r39.2.2.1 !=0) then (some (.inr (.inr ((([]:List ((List (Int × Int)))),(r39.2.2.1,r39.2.2.2)))))) else (if (!r39.2.1) then (some (.inr (.inl (s16.1,(s16.2.2.1,s16.2.2.2))))) else (Option.bind (app s16.1 ([r39.1]:List ((List (Int × Int))))) fun l184=>(Option.bind (idx r39.1 0) fun x222=>(Option.bind (idx r39.1 0) fun x226=>(Option.bind (if (x226.1==x222.2) then (some ((IntKind.i64.wrap (x222.2+1)))) else (some (x222.2))) fun (j229:Int)=>(some (.inl (l184,j229,(s16.2.2.1,s16.2.2.2))))))))))) else (some (.inr (.inl (s16.1,(s16.2.2.1,s16.2.2.2))))))
noncomputable def evF (m:Nat) (p:PcT) (tx:List Int) (most:Int) (s10:List Sp × Int):Option ((List Sp × Int) ⊕ (List Sp ⊕ (List Sp × Bool))):=
 (if ((decide (s10.2<=((af tx:Nat):Int)))&&((decide (most<0))||(decide (((af s10.1:Nat):Int)<most)))) then (Option.bind (zyX m p tx s10.2 ((af tx:Nat):Int) false) fun r28=>(if r28.2.2 then (some (.inr (.inr ((([]:List (List (Int × Int))),true))))) else (if (!r28.2.1) then (some (.inr (.inl s10.1))) else (Option.bind (app s10.1 ([r28.1]:List (List (Int × Int)))) fun l71=>(Option.bind (idx r28.1 0) fun x97=>(Option.bind (idx r28.1 0) fun x103=>(Option.bind (idx r28.1 0) fun x106=>(Option.bind (if (x103.1==x106.2) then (some ((IntKind.i64.wrap (x97.2+1)))) else (some (x97.2))) fun (j111:Int)=>(some (.inl (l71,j111))))))))))) else (some (.inr (.inl s10.1))))
theorem zhz (m:Nat) (p:PcT) (tx:List Int) (most:Int):zyw m p tx most=(zzf (ziH m p tx most) m (([]:List Sp),0,(0,0))).bind (zyA fun s=>some (s.1,(0,0))):=rfl
theorem zlM (m:Nat) (p:PcT) (tx:List Int) (most:Int):zxV m p tx most=(zzf (evF m p tx most) m (([]:List Sp),0)).bind (zyA fun s=>some (s,false)):=rfl
inductive Ev (find:Int->Fd->Prop) (L:Int) (most:Int):Int->List Sp->Option (List Sp)->Prop where
 | stop {i out}:¬ (i<=L∧(most<0∨(out.length:Int)<most))->Ev find L most i out (some out)
 | over {i out}:i<=L->(most<0∨(out.length:Int)<most)->find i .over->Ev find L most i out none
 | none {i out}:i<=L->(most<0∨(out.length:Int)<most)->find i .no->Ev find L most i out (some out)
 | more {i out g s e r}:i<=L->(most<0∨(out.length:Int)<most)->find i (.yes g)->g[0]? =some (s,e)->Ev find L most (if s=e then e+1 else e) (out++[g]) r->Ev find L most i out r
def zjL:Option (List Sp)->zjV
 | none=>([],(21, -1))
 | some l=>(l,(0,0))
def evO:Option (List Sp)->List Sp × Bool
 | none=>([],true)
 | some l=>(l,false)
def fnd (p:Pc) (ps:List Nat) (i:Int) (o:Fd):Prop:=ziZ (gr p) ps.length i ps.length false o∧Tot (fun m=>zyl m p.un (zzK ps) i ps.length false) (· =zi2 o)∧Tot (fun m=>zyX m p.un (zzK ps) i ps.length false) (· =srcO o)
def AQ:Option (List Sp)->(zjV ⊕ zjV)->Prop
 | none,y=>y= .inr ([],(21, -1))
 | some l,y=>∃ z,y= .inl (l,z)
def BQ:Option (List Sp)->(List Sp ⊕ (List Sp × Bool))->Prop
 | none,y=>y= .inr ([],true)
 | some l,y=>y= .inl l
section
variable {p:Pc} {s:ByteArray} {ps:List Nat} (hok:okP p) (hb:BdL (zxo p)) (ht:TextOk s ps) (most:Int)
include hok hb ht
theorem zkn:∀ (d:Nat) (i:Int) (out:List Sp),(ps.length:Int)+2<=i+d->0<=i->i<=(ps.length:Int)+1->(out.length:Int)<=i->∃ r,Ev (fnd p ps) ps.length most i out r∧
 LT (fun m=>ziH m p.un (zzK ps) most) (out,i,(0,0)) (AQ r)∧LT (fun m=>evF m p.un (zzK ps) most) (out,i) (BQ r)
 | d,i,out,hd,h0,h1,ho=>by
   have aq:=ht.len
   by_cases hc:i<=(ps.length:Int)∧(most<0∨(out.length:Int)<most)
   ·obtain ⟨d,rfl⟩:∃ k,d=k+1:=⟨d-1,om⟩
    obtain ⟨o,hf,hA,hB⟩:=zlE hok hb ht i ps.length false h0 om (ak _)
    have j:(decide (i<=(((zzK ps).length:Nat):Int))&&(decide (most<0)||decide (((out.length:Nat):Int)<most)))=true:=by
     rw[zzW,dtt hc.1,Bool.true_and]
     rcases hc.2 with h | h
     ·rw[dtt h,Bool.true_or]
     ·rw[dtt h,Bool.or_true]
    have ea:∀ m,ziH m p.un (zzK ps) most (out,i,(0,0))=(zyl m p.un (zzK ps) i ps.length false).bind fun b=>(if (b.2.2.1 !=0) then (some (.inr (.inr ((([]:List ((List (Int × Int)))),(b.2.2.1,b.2.2.2)))))) else (if (!b.2.1) then (some (.inr (.inl (out,((0:Int),(0:Int)))))) else (Option.bind (app out ([b.1]:List ((List (Int × Int))))) fun t=>(Option.bind (idx b.1 0) fun l=>(Option.bind (idx b.1 0) fun v=>(Option.bind (if (v.1==l.2) then (some ((IntKind.i64.wrap (l.2+1)))) else (some (l.2))) fun (ao:Int)=>(some (.inl (t,ao,((0:Int),(0:Int)))))))))):Option (AllS ⊕ (zjV ⊕ zjV))):=fun m=>by
     unfold ziH;refine (if_pos j).trans ?_;simp only[zzW]
    have eb:∀ m,evF m p.un (zzK ps) most (out,i)=(zyX m p.un (zzK ps) i ps.length false).bind fun f=>(if f.2.2 then (some (.inr (.inr ((([]:List (List (Int × Int))),true))))) else (if (!f.2.1) then (some (.inr (.inl out))) else (Option.bind (app out ([f.1]:List (List (Int × Int)))) fun ap=>(Option.bind (idx f.1 0) fun q=>(Option.bind (idx f.1 0) fun y=>(Option.bind (idx f.1 0) fun u=>(Option.bind (if (y.1==u.2) then (some ((IntKind.i64.wrap (q.2+1)))) else (some (q.2))) fun (z:Int)=>(some (.inl (ap,z))))))))):Option ((List Sp × Int) ⊕ (List Sp ⊕ (List Sp × Bool)))):=fun m=>by
     unfold evF;refine (if_pos j).trans ?_;simp only[zzW]
    cases o with
    | over=>
      refine ⟨none,.over hc.1 hc.2 ⟨hf,hA,hB⟩,LT.fin (r:=.inr ([],(21, -1))) (eqf ea (ab hA fun a e=>?_)) (by exact rfl),LT.fin (r:=.inr ([],true)) (eqf eb (ab hB fun a e=>?_)) (by exact rfl)⟩
      ·subst e;exact ac rfl
      ·subst e;exact ac rfl
    | no=>
      refine ⟨some out,.none hc.1 hc.2 ⟨hf,hA,hB⟩,LT.fin (r:=.inl (out,(0,0))) (eqf ea (ab hA fun a e=>?_)) ⟨_,rfl⟩,LT.fin (r:=.inl out) (eqf eb (ab hB fun a e=>?_)) (by exact rfl)⟩
      ·subst e;exact ac rfl
      ·subst e;exact ac rfl
    | yes g=>
      obtain ⟨hW,s1,e1,hg,f1,f2,f3,f4,f5⟩:=id hf
      obtain ⟨r,hr,iA,iB⟩:=zkn d (if s1=e1 then e1+1 else e1) (out++[g]) (by split<;>omega) (by split<;>omega) (by split<;>omega) (by rw[aa,ag];split<;>omega)
      have hi:idx g 0=some (s1,e1):=by rw[show (0:Int)=((0:Nat):Int) from rfl,idx_nat,hg]
      have ha:app out [g]=some (out++[g]):=by unfold app;rw[if_pos (by rw[ag];omega)]
      have hj:(if (s1==e1)=true then some (IntKind.i64.wrap (e1+1)) else some e1)=some (if s1=e1 then e1+1 else e1):=by
       rw[zzw (x:=e1+1) om om]
       by_cases h:s1=e1
       ·rw[if_pos (by simpa using h),if_pos h]
       ·rw[if_neg (by simpa using h),if_neg h]
      refine ⟨r,.more hc.1 hc.2 ⟨hf,hA,hB⟩ hg hr,LT.step (eqf ea (ab hA fun a e=>?_)) iA,LT.step (eqf eb (ab hB fun a e=>?_)) iB⟩
      ·subst e
       refine Tot.alln fun m=>?_
       simp only[zi2,bne_self_eq_false,ae,if_false,Bool.not_true,ha,hi,Option.bind_some,hj]
      ·subst e
       refine Tot.alln fun m=>?_
       simp only[srcO,ae,if_false,Bool.not_true,ha,hi,Option.bind_some,hj]
   ·have j:(decide (i<=(((zzK ps).length:Nat):Int))&&(decide (most<0)||decide (((out.length:Nat):Int)<most)))=false:=by
     rw[zzW]
     by_cases h:i<=(ps.length:Int)
     ·rw[dff (fun e=>hc ⟨h,.inl e⟩),dff (fun e=>hc ⟨h,.inr e⟩)];simp
     ·rw[dff h,Bool.false_and]
    refine ⟨some out,.stop hc,LT.fin (r:=.inl (out,(0,0))) (Tot.alln fun m=>?_) ⟨_,rfl⟩,LT.fin (r:=.inl out) (Tot.alln fun m=>?_) (by exact rfl)⟩
    ·unfold ziH;simp only[j,ae,if_false]
    ·unfold evF;simp only[j,ae,if_false]
theorem znY:∃ r,Ev (fnd p ps) ps.length most 0 [] r∧Tot (fun m=>zyw m p.un (zzK ps) most) (· =zjL r)∧Tot (fun m=>zxV m p.un (zzK ps) most) (· =evO r):=by
 obtain ⟨r,hr,hA,hB⟩:=zkn hok hb ht most (ps.length+2) 0 [] om om om (by simp)
 refine ⟨r,hr,eqf (fun m=>zhz m p.un (zzK ps) most) (ab (LT.tot hA) fun y hy=>?_),eqf (fun m=>zlM m p.un (zzK ps) most) (ab (LT.tot hB) fun y hy=>?_)⟩
 ·cases r with
  | none=>cases hy;exact ac rfl
  | some l=>obtain ⟨z,rfl⟩:=hy;exact ac rfl
 ·cases r with
  | none=>cases hy;exact ac rfl
  | some l=>cases hy;exact ac rfl
end
theorem zjg (c:UInt8):Lib.cut [] [c]=([],[],false):=rfl
theorem zoC (c:UInt8) (l:List UInt8):Lib.cut (c::l) [c]=([],l,true):=by
 have h:Lib.index (c::l) [c]=0:=by unfold Lib.index;simp
 unfold Lib.cut
 rw[h];rfl
theorem zpv {b c:UInt8} (h:b≠c) (l:List UInt8):Lib.cut (b::l) [c]=(b::(Lib.cut l [c]).1,(Lib.cut l [c]).2):=by
 have hp:([c]:List UInt8).isPrefixOf (b::l)=false:=by simp[List.isPrefixOf,Ne.symm h]
 have hi:Lib.index (b::l) [c]=if (Lib.index l [c]== -1)=true then-1 else Lib.index l [c]+1:=by
  rw[Lib.index,hp];rfl
 have hg:=Lib.index_ge l [c]
 unfold Lib.cut
 rw[hi]
 by_cases h0:0<=Lib.index l [c]
 ·have a:(Lib.index l [c]== -1)=false:=by rw[beq_eq_false_iff_ne];omega
  simp only[a,ae,if_false]
  rw[if_pos (show 0<=Lib.index l [c]+1 by omega),if_pos h0]
  obtain ⟨k,hk⟩:∃ k:Nat,Lib.index l [c]=k:=⟨(Lib.index l [c]).toNat,om⟩
  rw[hk,show ((k:Int)+1).toNat=k+1 by omega,Int.toNat_natCast]
  simp only[List.take_succ_cons,ag,List.drop_succ_cons]
 ·have he:Lib.index l [c]= -1:=by omega
  simp only[he,show ((-1:Int)== -1)=true from rfl,if_true]
  rfl
theorem zoW (c:UInt8):∀ l:List UInt8,(Lib.cut l [c]).2.1.length<=l.length∧((Lib.cut l [c]).2.2=true->(Lib.cut l [c]).1.length+1+(Lib.cut l [c]).2.1.length=l.length)∧(Lib.cut l [c]).1.length<=l.length
 | []=>by rw[zjg];simp
 | b::l=>by
   obtain ⟨i1,i2,i3⟩:=zoW c l
   by_cases h:b=c
   ·subst h;rw[zoC];simp;omega
   ·rw[zpv h]
    simp only[ad]
    exact ⟨om,fun e=>by have:=i2 e;omega,om⟩
def zw7 (G:Nat):List UInt8->Option (List (UInt8 ⊕ Nat))
 | []=>some []
 | [c]=>if c=92 then none else some [.inl c]
 | c::d::t=>if c=92 then (if d=92 then (zw7 G t).map (.inl 92:: ·) else if 48<=d.toNat∧d.toNat<=48+G then (zw7 G t).map (.inr (d.toNat-48):: ·) else none) else (zw7 G (d::t)).map (.inl c:: ·)
theorem zrO {G:Nat} {c:UInt8} (h:c≠92):∀ t,zw7 G (c::t)=(zw7 G t).map (.inl c:: ·)
 | []=>by rw[zw7.eq_2,if_neg h];rfl
 | d::t=>by rw[zw7.eq_3,if_neg h]
theorem zpR (G:Nat):∀ l:List UInt8,zw7 G l=if (Lib.cut l [92]).2.2=true then (zw7 G (92::(Lib.cut l [92]).2.1)).map ((Lib.cut l [92]).1.map .inl++ ·) else some (l.map .inl)
 | []=>rfl
 | b::l=>by
   by_cases h:b=92
   ·subst h
    rw[zoC]
    simp
   ·rw[zpv h,zrO h,zpR G l]
    cases hc:(Lib.cut l [92]).2.2 with
    | false=>simp
    | true=>
      simp only[if_true,Option.map_map]
      cases zw7 G (92::(Lib.cut l [92]).2.1) with
      | none=>rfl
      | some v=>simp
inductive Ex:List (UInt8 ⊕ Nat)->List (ByteArray × Int)->Prop where
 | nil:Ex [] []
 | lit {its l} (a:List UInt8):Ex its l->Ex (a.map .inl++its) ((strOf a, -1)::l)
 | grp {its l} (k:Nat):Ex its l->Ex (.inr k::its) ((strOf [],(k:Int))::l)
theorem Ex.app {i1 i2:List (UInt8 ⊕ Nat)} {l1 l2:List (ByteArray × Int)} (h:Ex i1 l1) (h':Ex i2 l2):Ex (i1++i2) (l1++l2):=by
 induction h with
 | nil=>exact h'
 | lit a _ ih=>rw[aj];exact .lit a ih
 | grp k _ ih=>exact .grp k ih
abbrev PtS:=ByteArray × List (ByteArray × Int)
abbrev PtR:=List (ByteArray × Int) × Bool
noncomputable def zqw (m:Nat) (G:Int) (s4:PtS):Option (PtS ⊕ (List (ByteArray × Int) ⊕ PtR)):=
 (if (!(s4.1.toList==(strOf []).toList)) then (Option.bind (strings_Cut m s4.1 (strOf [92])) fun r13=>(Option.bind (app s4.2 ([(r13.1,(-1))]:List (ByteArray × Int))) fun l30=>(if (!r13.2.2) then (some (.inr (.inl l30))) else (if (r13.2.1.toList==(strOf []).toList) then (some (.inr (.inr ((([]:List (ByteArray × Int)),false))))) else (Option.bind (zpB r13.2.1 0) fun x52=>(Option.bind (if (x52==92) then (Option.bind (app l30 ([((strOf [92]),(-1))]:List (ByteArray × Int))) fun l70=>(some (.inl l70))) else (if ((decide (x52>=48))&&(decide ((IntKind.i64.wrap ((IntKind.u8.wrap (x52-48))))<=G))) then (Option.bind (app l30 ([((strOf []),(IntKind.i64.wrap ((IntKind.u8.wrap (x52-48)))))]:List (ByteArray × Int))) fun l105=>(some (.inl l105))) else (some (.inr (.inr (.inr ((([]:List (ByteArray × Int)),false)))))))) (zyA fun (s55:(List (ByteArray × Int)))=>(Option.bind (zox r13.2.1 1 ((ByteArray.size r13.2.1:Nat):Int)) fun x133=>(some (.inl (x133,s55))))))))))) else (some (.inr (.inl s4.2))))
noncomputable def zjb (G:Int) (v:ByteArray) (f:Bool) (l30:List (ByteArray × Int)):Option (PtS ⊕ (List (ByteArray × Int) ⊕ PtR)):=
 (if (!f) then (some (.inr (.inl l30))) else (if (v.toList==(strOf []).toList) then (some (.inr (.inr ((([]:List (ByteArray × Int)),false))))) else (Option.bind (zpB v 0) fun x52=>(Option.bind (if (x52==92) then (Option.bind (app l30 ([((strOf [92]),(-1))]:List (ByteArray × Int))) fun l70=>(some (.inl l70))) else (if ((decide (x52>=48))&&(decide ((IntKind.i64.wrap ((IntKind.u8.wrap (x52-48))))<=G))) then (Option.bind (app l30 ([((strOf []),(IntKind.i64.wrap ((IntKind.u8.wrap (x52-48)))))]:List (ByteArray × Int))) fun l105=>(some (.inl l105))) else (some (.inr (.inr (.inr ((([]:List (ByteArray × Int)),false)))))))) (zyA fun (s55:(List (ByteArray × Int)))=>(Option.bind (zox v 1 ((ByteArray.size v:Nat):Int)) fun x133=>(some (.inl (x133,s55)))))))))
theorem zmg (m:Nat) (t:ByteArray) (G:Int):zyF m t G=(zzf (zqw m G) m (t,([]:List (ByteArray × Int)))).bind (zyA fun s=>some (s,true)):=rfl
def PtQ (G:Nat) (l:List UInt8) (acc:List (ByteArray × Int)) (y:List (ByteArray × Int) ⊕ PtR):Prop:=match zw7 G l with
 | none=>y= .inr ([],false)
 | some its=>∃ ps,y= .inl (acc++ps)∧Ex its ps∧ps.length<=2*l.length
theorem zjM {α:Type} {l:List α} (x:α) (h:l.length<=100000000):app l [x]=some (l++[x]):=by unfold app;rw[if_pos (by rw[ag];omega)]
theorem zsM {G:Nat} (hG:G<=9):∀ (k:Nat) (l:List UInt8) (acc:List (ByteArray × Int)),l.length<=k->l.length<=1048576->acc.length+2*l.length<=10000000->LT (fun m=>zqw m (G:Int)) (strOf l,acc) (PtQ G l acc)
 | k,[],acc,_,_,_=>by
   refine LT.fin (r:=.inl acc) (Tot.alln fun m=>?_) ⟨[],by simp,.nil,by simp⟩
   unfold zqw
   rw[if_neg (by rw[zsH];decide)]
 | 0,b::l,acc,h,_,_=>by simp at h
 | k+1,b::l,acc,hk,hl,ha=>by
   obtain ⟨i1,i2,i3⟩:=zoW 92 (b::l)
   have ao:∀ m,strings_Cut m (strOf (b::l)) (strOf [92])=some (strOf (Lib.cut (b::l) [92]).1,strOf (Lib.cut (b::l) [92]).2.1,(Lib.cut (b::l) [92]).2.2):=fun m=>by
    unfold strings_Cut
    rw[if_pos (by rw[zzC];omega)]
    have:=zyd (b::l)
    unfold bytesOf at this
    rw[this]
    rfl
   have g:∀ m,zqw m (G:Int) (strOf (b::l),acc)=zjb (G:Int) (strOf (Lib.cut (b::l) [92]).2.1) (Lib.cut (b::l) [92]).2.2 (acc++[(strOf (Lib.cut (b::l) [92]).1, -1)]):=fun m=>by
    unfold zqw
    simp only[zky,Bool.not_false,if_true,ao,Option.bind_some,zjM _ (show acc.length<=100000000 by omega)]
    rfl
   have hT:=zpR G (b::l)
   generalize hg:Lib.cut (b::l) [92]=r at*
   obtain ⟨a,v,f⟩:=r
   simp only at i1 i2 i3 g hT
   have q:(acc++[(strOf a,(-1:Int))]).length<=100000000:=by rw[aa,ag];omega
   cases f with
   | false=>
     simp only[zjb,Bool.not_false,if_true]at g
     have aq:a=b::l:=by
      have:=congrArg Prod.fst hg
      have h2:=congrArg (fun x=>x.2.2) hg
      unfold Lib.cut at this h2
      split at this
      ·rename_i h;rw[if_pos h]at h2;cases h2
      ·exact this.symm
     refine LT.fin (r:=.inl (acc++[(strOf a, -1)])) (Tot.alln g) ?_
     unfold PtQ
     rw[hT,if_neg ddc]
     exact ⟨[(strOf a, -1)],rfl,by rw[aq];have:=Ex.lit (b::l) .nil;rwa [al]at this,oss⟩
   | true=>
     simp only[zjb,Bool.not_true,ae,if_false]at g
     simp only[if_true]at hT
     have i2:=i2 rfl
     rw[ad]at i2 hk hl ha
     cases v with
     | nil=>
       refine LT.fin (r:=.inr ([],false)) (Tot.alln fun m=>by rw[g,if_pos (by rw[zsH])]) ?_
       unfold PtQ
       rw[hT,zw7.eq_2,if_pos rfl]
       exact rfl
     | cons d t=>
       rw[ad]at i2
       have hd:zpB (strOf (d::t)) 0=some (d.toNat:Int):=sidx0 d t
       have h3:=g
       simp only[zky,ae,if_false,hd,tail1,Option.bind_some]at h3
       have hdn:d.toNat<256:=d.toNat_lt
       by_cases j:d=92
       ·subst j
        have h4:∀ m,zqw m (G:Int) (strOf (b::l),acc)=some (.inl (strOf t,acc++[(strOf a, -1)]++[(strOf [92], -1)])):=fun m=>by
         rw[h3,if_pos ddc,zjM _ q];rfl
        refine LT.step (Tot.alln h4) ((zsM hG k t _ om om oss).mono fun y hy=>?_)
        unfold PtQ at hy ⊢
        rw[hT,zw7.eq_3,if_pos rfl,if_pos rfl]
        cases ht:zw7 G t with
        | none=>rw[ht]at hy;exact hy
        | some its=>
          rw[ht]at hy
          obtain ⟨ps,rfl,hx,ap⟩:=hy
          exact ⟨(strOf a, -1)::(strOf [92], -1)::ps,by simp,.lit a (.lit [92] hx),oss⟩
       ·have z:((d.toNat:Int)==92)=false:=by
         rw[beq_eq_false_iff_ne]
         intro e
         exact j (by rw[<- UInt8.toNat_inj];show d.toNat=92;omega)
        by_cases u:48<=d.toNat∧d.toNat<=48+G
        ·have hw:IntKind.i64.wrap (IntKind.u8.wrap ((d.toNat:Int)-48))=((d.toNat-48:Nat):Int):=by
          rw[zu6 om om,zzw om om];omega
         have h4:∀ m,zqw m (G:Int) (strOf (b::l),acc)=some (.inl (strOf t,acc++[(strOf a, -1)]++[(strOf [],((d.toNat-48:Nat):Int))])):=fun m=>by
          rw[h3,if_neg (by rw[z];decide),hw,if_pos (by rw[dtt (show (d.toNat:Int)>=48 by omega),dtt (show ((d.toNat-48:Nat):Int)<=(G:Int) by omega)];rfl),zjM _ q];rfl
         refine LT.step (Tot.alln h4) ((zsM hG k t _ om om oss).mono fun y hy=>?_)
         unfold PtQ at hy ⊢
         rw[hT,zw7.eq_3,if_pos rfl,if_neg j,if_pos u]
         cases ht:zw7 G t with
         | none=>rw[ht]at hy;exact hy
         | some its=>
           rw[ht]at hy
           obtain ⟨ps,rfl,hx,ap⟩:=hy
           exact ⟨(strOf a, -1)::(strOf [],((d.toNat-48:Nat):Int))::ps,by simp,.lit a (.grp _ hx),oss⟩
        ·have o:(decide ((d.toNat:Int)>=48)&&decide (IntKind.i64.wrap (IntKind.u8.wrap ((d.toNat:Int)-48))<=(G:Int)))=false:=by
          by_cases h48:48<=d.toNat
          ·rw[zu6 om om,zzw om om,dff (show ¬ ((d.toNat:Int)-48<=(G:Int)) by omega),Bool.and_false]
          ·rw[dff om,Bool.false_and]
         refine LT.fin (r:=.inr ([],false)) (Tot.alln fun m=>by rw[h3,if_neg (by rw[z];decide),o];rfl) ?_
         unfold PtQ
         rw[hT,zw7.eq_3,if_pos rfl,if_neg j,if_neg u]
         exact rfl
theorem znH {G:Nat} (hG:G<=9) {l:List UInt8} (hl:l.length<=1048576):Tot (fun m=>zyF m (strOf l) (G:Int)) (fun r=>match zw7 G l with | none=>r=([],false) | some its=>∃ ps,r=(ps,true)∧Ex its ps∧ps.length<=2*l.length):=by
 refine eqf (fun m=>zmg m (strOf l) G) (ab (LT.tot (zsM hG l.length l [] (Nat.le_refl _) hl oss)) fun y hy=>?_)
 unfold PtQ at hy
 cases ht:zw7 G l with
 | none=>rw[ht]at hy;cases hy;exact ac rfl
 | some its=>
   rw[ht]at hy
   obtain ⟨ps,rfl,hx,a⟩:=hy
   exact ac ⟨ps,rfl,hx,a⟩
theorem zvj {G:Nat}:∀ (k:Nat) (l:List UInt8) (its:List (UInt8 ⊕ Nat)),l.length<=k->zw7 G l=some its->its.length<=l.length∧∀ j,.inr j∈its->j<=G
 | _,[],its,_,h=>by rw[zw7]at h;cases h;simp
 | _,[c],its,_,h=>by
   rw[zw7.eq_2]at h
   split at h
   ·cases h
   ·cases h;simp
 | 0,c::d::t,its,hk,_=>by simp at hk
 | k+1,c::d::t,its,hk,h=>by
   rw[ad,ad]at hk
   rw[zw7.eq_3]at h
   split at h
   ·split at h
    ·cases ht:zw7 G t with
     | none=>rw[ht]at h;cases h
     | some v=>
       rw[ht]at h;cases h
       obtain ⟨i1,i2⟩:=zvj k t v om ht
       exact ⟨oss,fun j hj=>i2 j (by simpa using hj)⟩
    ·split at h
     ·rename_i hd
      cases ht:zw7 G t with
      | none=>rw[ht]at h;cases h
      | some v=>
        rw[ht]at h;cases h
        obtain ⟨i1,i2⟩:=zvj k t v om ht
        refine ⟨oss,fun j hj=>?_⟩
        rcases List.mem_cons.1 hj with e | e
        ·cases e;omega
        ·exact i2 j e
     ·cases h
   ·cases ht:zw7 G (d::t) with
    | none=>rw[ht]at h;cases h
    | some v=>
      rw[ht]at h;cases h
      obtain ⟨i1,i2⟩:=zvj k (d::t) v oss ht
      refine ⟨by simp at i1 ⊢;omega,fun j hj=>i2 j (by simpa using hj)⟩
def slice (ps:List Nat) (a b:Int):List Nat:=(ps.take b.toNat).drop a.toNat
theorem zxK (ps:List Nat) (a b:Int):(slice ps a b).length<=ps.length:=by unfold slice;simp;omega
theorem zyf {ps:List Nat} (h:∀ c∈ps,Scal c) (a b:Int):∀ c∈slice ps a b,Scal c:=fun c hc=>h c (List.mem_of_mem_take (List.mem_of_mem_drop hc))
theorem zxf {ps:List Nat} {a b:Int} (h0:0<=a) (h1:a<=b) (h2:b<=(ps.length:Int)):sub (zzK ps) a b=some (zzK (slice ps a b)):=by
 unfold sub
 rw[if_pos (by rw[zzW];exact ⟨h0,h1,h2⟩)]
 simp[slice,zzK]
def GW (G L:Nat) (g:Sp):Prop:=g.length=G+1∧∀ (j:Nat) (x:Int × Int),g[j]? =some x->x.1<0∨(0<=x.1∧x.1<=x.2∧x.2<=(L:Int))
def pcN (ps:List Nat) (g:Sp) (k:Nat):List Nat:=if (g.getD k (0,0)).1<0 then [] else slice ps (g.getD k (0,0)).1 (g.getD k (0,0)).2
theorem zqi (ps:List Nat) (g:Sp) (k:Nat):(pcN ps g k).length<=ps.length:=by unfold pcN;split;simp;exact zxK _ _ _
theorem zmV {ps:List Nat} (h:∀ c∈ps,Scal c) (g:Sp) (k:Nat):∀ c∈pcN ps g k,Scal c:=by
 unfold pcN;split
 ·intro c hc;cases hc
 ·exact zyf h _ _
theorem zlK {ps:List Nat} (hp:∀ c∈ps,Scal c) {G:Nat} {g:Sp} (hg:GW G ps.length g) {k:Nat} (hk:k<=G) (m:Nat):zyD m (zzK ps) g (k:Int)=some (strOf (enc (pcN ps g k))):=by
 have b:k<g.length:=by rw[hg.1];omega
 have hx:=hg.2 k g[k] (List.getElem?_eq_getElem b)
 have hd:g.getD k (0,0)=g[k]:=by simp[List.getD,List.getElem?_eq_getElem b]
 unfold zyD pcN
 rw[hd,idx_nat,List.getElem?_eq_getElem b,Option.bind_some]
 generalize g[k]=x at*
 by_cases h:x.1<0
 ·rw[if_pos (dtt h),if_pos h];rfl
 ·rw[if_neg (by simpa using h),if_neg h,zxf om om om,Option.bind_some,zvs (zyf hp _ _)]
def zoz (ps:List Nat) (g:Sp):List (UInt8 ⊕ Nat)->List UInt8
 | []=>[]
 | .inl b::t=>b::zoz ps g t
 | .inr k::t=>enc (pcN ps g k)++zoz ps g t
theorem zrw (ps:List Nat) (g:Sp) (t:List (UInt8 ⊕ Nat)):∀ a:List UInt8,zoz ps g (a.map .inl++t)=a++zoz ps g t
 | []=>rfl
 | b::a=>by rw[List.map_cons,List.cons_append,zoz,zrw ps g t a];rfl
abbrev Bld:=Option (List UInt8)
abbrev zic:=ByteArray × (Int × Int)
abbrev OutS:=Int × Int × (Int × Int) × Bld
abbrev OutZ:=Int × (Int × Int) × Bld
abbrev InnS:=Int × (Int × Int) × Bld
abbrev InnR:=((Int × Int) × Bld) ⊕ (OutS ⊕ (OutZ ⊕ zic))
noncomputable def zow (m:Nat) (tx:List Int) (g:Sp) (parts:List (ByteArray × Int)) (s328:InnS):Option (InnS ⊕ InnR):=
 (if (decide (s328.1<((af parts:Nat):Int))) then (Option.bind (idx parts s328.1) fun x340=>(Option.bind (zuj s328.2.2 x340.1) fun y353=>(Option.bind (if (decide (x340.2>=0)) then (Option.bind (zyD m tx g x340.2) fun r394=>(Option.bind (zuj y353 r394) fun y401=>(some (y401)))) else (some (y353))) fun (j391:(Option (List UInt8)))=>(Option.bind (zmG j391) fun n444=>(if (decide (n444>4000)) then (Option.bind (zyS m 3 (-1)) fun r447=>(some (.inr (.inr (.inr (.inr (((strOf []),(r447.1,r447.2))))))))) else (some (.inl ((IntKind.i64.wrap (s328.1+1)),(s328.2.1.1,s328.2.1.2),j391)))))))) else (some (.inr (.inl ((s328.2.1.1,s328.2.1.2),s328.2.2)))))
noncomputable def zlj (m:Nat) (tx:List Int) (parts:List (ByteArray × Int)) (all:List Sp) (s211:OutS):Option (OutS ⊕ (OutZ ⊕ zic)):=
 (if (decide (s211.2.1<((af all:Nat):Int))) then (Option.bind (idx all s211.2.1) fun x242=>(Option.bind (idx x242 0) fun x258=>(Option.bind (sub tx s211.1 x258.1) fun x265=>(Option.bind (zuj s211.2.2.2 (ztB x265)) fun y276=>(Option.bind (zzf (zow m tx x242 parts) m (0,(s211.2.2.1.1,s211.2.2.1.2),y276)) (zyA fun (s326:((Int × Int) × (Option (List UInt8))))=>(Option.bind (idx x242 0) fun x473=>(some (.inl (x473.2,(IntKind.i64.wrap (s211.2.1+1)),(s326.1.1,s326.1.2),s326.2)))))))))) else (some (.inr (.inl (s211.1,(s211.2.2.1.1,s211.2.2.1.2),s211.2.2.2)))))
theorem zsr (m:Nat) (p:PcT) (text tpl:ByteArray) (most:Int):zyx m p text tpl most=(zzj m p text 0).bind fun r14=>(if (r14.1 !=0) then (some (((strOf []),(r14.1,r14.2)))) else (zyq m p).bind fun o=>(rn text).bind fun b=>(zyF m tpl o.1).bind fun f=>(Option.bind (utf8_ValidString m tpl) fun j=>(if (!j) then (some (true)) else (some ((!f.2))))).bind fun (h:Bool)=>if h then some (strOf [],(1, -3)) else (zyw m p b most).bind fun a=>if (a.2.1 !=0) then some (strOf [],a.2) else (zzf (zlj m b f.1 a.1) m (0,0,(0,0),none)).bind (zyA fun e=>(sub b e.1 ((af b:Nat):Int)).bind fun k=>(zuj e.2.2 (ztB k)).bind fun d=>(zmG d).bind fun l=>if decide (l>4000) then some (strOf [],(3, -1)) else (strB d).bind fun g=>some (g,(0,0)))):=rfl
theorem ztR (y:Bld) (l:List UInt8) (h:(y.getD []).length+l.length<=100000000):zuj y (strOf l)=some (some (y.getD []++l)):=by
 unfold zuj
 have:=zyd l
 unfold bytesOf at this
 rw[if_pos (by rw[zzC];omega),this]
def InQ (T:List UInt8) (E:Prop) (y:InnR):Prop:=(∃ y',y= .inl ((0,0),y')∧y'.getD []=T∧(E∨T.length<=4000))∨(y= .inr (.inr (.inr (strOf [],(3, -1))))∧T.length>4000)
section
variable {ps:List Nat} (hp:∀ c∈ps,Scal c) (hl:ps.length<=400) {G:Nat}
include hp hl
theorem ztb {q:List Nat} (h:q.length<=ps.length):(enc q).length<=1600:=by have:=zyb q;omega
theorem zj1 {g:Sp} (hg:GW G ps.length g) (parts:List (ByteArray × Int)) (hpl:parts.length<=4000000):∀ (its:List (UInt8 ⊕ Nat)) (b:List (ByteArray × Int)),Ex its b->∀ (pre:List (ByteArray × Int)),parts=pre++b->its.length<=1048576->(∀ j,.inr j∈its->j<=G)->∀ (y:Bld),(y.getD []).length<=10000->
 LT (fun m=>zow m (zzK ps) g parts) ((pre.length:Int),(0,0),y) (InQ (y.getD []++zoz ps g its) (b=[])):=by
 intro its b hx
 induction hx with
 | nil=>
   intro pre e _ _ y hy
   refine LT.fin (r:=.inl ((0,0),y)) (Tot.alln fun m=>?_) (.inl ⟨y,rfl,by simp[zoz],.inl rfl⟩)
   unfold zow
   rw[if_neg (by simp[e])]
 | @lit its l a hx ih=>
   intro pre e d hj y hy
   rw[aa,List.length_map]at d
   have hi:idx parts (pre.length:Int)=some (strOf a, -1):=by rw[e];exact zzL pre _ l rfl
   have o:pre.length<parts.length:=by rw[e];simp
   have hs:∀ m,zow m (zzK ps) g parts ((pre.length:Int),(0,0),y)=if decide ((((y.getD []++a).length:Nat):Int)>4000)=true then some (.inr (.inr (.inr (.inr (strOf [],(3, -1)))))) else some (.inl (((pre.length+1:Nat):Int),(0,0),some (y.getD []++a))):=fun m=>by
    unfold zow
    simp only[dtt (show (pre.length:Int)<(parts.length:Int) by omega),if_true,hi,Option.bind_some,ztR y a om,show decide ((-1:Int)>=0)=false from rfl,ae,if_false,zmG,Option.getD_some,zzw (x:=(pre.length:Int)+1) om om]
    rfl
   rw[zrw,<- aj]
   by_cases h:(y.getD []++a).length>4000
   ·exact LT.fin (r:=.inr (.inr (.inr (strOf [],(3, -1))))) (Tot.alln fun m=>by rw[hs,if_pos (dtt om)]) (.inr ⟨rfl,by rw[aa];omega⟩)
   ·have:=ih (pre++[(strOf a, -1)]) (by rw[e];simp) om (fun j f=>hj j (by simp[f])) (some (y.getD []++a)) (by rw[Option.getD_some];omega)
    rw[show (((pre++[(strOf a,(-1:Int))]).length:Nat):Int)=((pre.length+1:Nat):Int) by simp]at this
    refine LT.step (Tot.alln fun m=>by rw[hs,if_neg (by simp only[decide_eq_true_eq];omega)]) (this.mono fun z hz=>?_)
    rcases hz with ⟨y',e1,e2,e3⟩ | ⟨e1,e2⟩
    ·refine .inl ⟨y',e1,e2,.inr ?_⟩
     rcases e3 with e3 | e3
     ·subst e3
      cases hx
      simpa [zoz] using h
     ·exact e3
    ·exact .inr ⟨e1,e2⟩
 | @grp its l k hx ih=>
   intro pre e d hj y hy
   rw[ad]at d
   have hi:idx parts (pre.length:Int)=some (strOf [],(k:Int)):=by rw[e];exact zzL pre _ l rfl
   have o:pre.length<parts.length:=by rw[e];simp
   have hq:=ztb (ps:=ps) hp hl (zqi ps g k)
   have hs:∀ m,zow m (zzK ps) g parts ((pre.length:Int),(0,0),y)=if decide ((((y.getD []++enc (pcN ps g k)).length:Nat):Int)>4000)=true then some (.inr (.inr (.inr (.inr (strOf [],(3, -1)))))) else some (.inl (((pre.length+1:Nat):Int),(0,0),some (y.getD []++enc (pcN ps g k)))):=fun m=>by
    unfold zow
    simp only[dtt (show (pre.length:Int)<(parts.length:Int) by omega),if_true,hi,Option.bind_some,ztR y [] oss,dtt (show (k:Int)>=0 by omega),zlK hp hg (hj k (by simp)) m,ztR (some (y.getD [])) (enc (pcN ps g k)) (by simp only[Option.getD_some];omega),zmG,Option.getD_some,zzw (x:=(pre.length:Int)+1) om om,al]
    rfl
   rw[zoz,<- aj]
   by_cases h:(y.getD []++enc (pcN ps g k)).length>4000
   ·exact LT.fin (r:=.inr (.inr (.inr (strOf [],(3, -1))))) (Tot.alln fun m=>by rw[hs,if_pos (dtt om)]) (.inr ⟨rfl,by rw[aa];omega⟩)
   ·have:=ih (pre++[(strOf [],(k:Int))]) (by rw[e];simp) om (fun j f=>hj j (by simp[f])) (some (y.getD []++enc (pcN ps g k))) (by rw[Option.getD_some];omega)
    rw[show (((pre++[(strOf [],(k:Int))]).length:Nat):Int)=((pre.length+1:Nat):Int) by simp]at this
    refine LT.step (Tot.alln fun m=>by rw[hs,if_neg (by simp only[decide_eq_true_eq];omega)]) (this.mono fun z hz=>?_)
    rcases hz with ⟨y',e1,e2,e3⟩ | ⟨e1,e2⟩
    ·refine .inl ⟨y',e1,e2,.inr ?_⟩
     rcases e3 with e3 | e3
     ·subst e3
      cases hx
      simpa [zoz] using h
     ·exact e3
    ·exact .inr ⟨e1,e2⟩
inductive Chain (G L:Nat):Int->List Sp->Prop where
 | nil {i}:Chain G L i []
 | cons {i g s e t}:GW G L g->g[0]? =some (s,e)->i<=s->s<=e->e<=(L:Int)->Chain G L (if s=e then e+1 else e) t->Chain G L i (g::t)
omit hp hl in
theorem Chain.le {G L:Nat} {i j:Int} {l:List Sp} (h:Chain G L i l) (hj:j<=i):Chain G L j l:=by
 cases h with
 | nil=>exact .nil
 | cons h1 h2 h3 h4 h5 h6=>exact .cons h1 h2 om h4 h5 h6
def st0 (g:Sp):Int × Int:=g.getD 0 (0,0)
def zq0 (ps:List Nat) (its:List (UInt8 ⊕ Nat)):Int->List Sp->List UInt8
 | last,[]=>enc (slice ps last ps.length)
 | last,g::t=>enc (slice ps last (st0 g).1)++(zoz ps g its++zq0 ps its (st0 g).2 t)
theorem zoS {parts:List (ByteArray × Int)} (hpl:parts.length<=4000000) {its:List (UInt8 ⊕ Nat)} (hx:Ex its parts) (hil:its.length<=1048576) (hj:∀ j,.inr j∈its->j<=G) (all:List Sp) (hal:all.length<=1000):
 ∀ (rest:List Sp) (i:Int),Chain G ps.length i rest->∀ (last:Int),0<=last->last<=i->last<=(ps.length:Int)->∀ (pre:List Sp),all=pre++rest->∀ (y:Bld),(parts=[]->(y.getD []).length+1600*rest.length<=4000000)->(y.getD []).length<=5000000->(parts≠[]->(y.getD []).length<=4000)->
   ∀ T,T=y.getD []++zq0 ps its last rest->LT (fun m=>zlj m (zzK ps) parts all) (last,(pre.length:Int),(0,0),y) (fun z=>(∃ last' y',z= .inl (last',(0,0),y')∧0<=last'∧last'<=(ps.length:Int)∧(y'.getD []).length<=5000000∧y'.getD []++enc (slice ps last' ps.length)=T)∨(z= .inr (strOf [],(3, -1))∧T.length>4000))
 | [],i,hc,last,h0,h1,h2,pre,e,y,_,hy2,_,T,hT=>by
   refine LT.fin (r:=.inl (last,(0,0),y)) (Tot.alln fun m=>?_) (.inl ⟨last,y,rfl,h0,h2,hy2,by rw[hT,zq0]⟩)
   unfold zlj
   rw[if_neg (by simp[e])]
 | g::t,i,hc,last,h0,h1,h2,pre,e,y,hy,hy2,hy3,T,hT=>by
   cases hc with
   | @cons _ _ s e' _ hW hg c1 c2 c3 c4=>
     have hi:idx all (pre.length:Int)=some g:=by rw[e];exact zzL pre _ t rfl
     have hg0:idx g 0=some (s,e'):=by rw[show (0:Int)=((0:Nat):Int) from rfl,idx_nat,hg]
     have u:st0 g=(s,e'):=by unfold st0;simp[List.getD,hg]
     have hq:=ztb hp hl (zxK ps last s)
     have hlp:pre.length<all.length:=by rw[e];simp
     have hyl:(y.getD []).length<=4000∨parts=[]:=by
      by_cases b:parts=[]
      ·exact .inr b
      ·exact .inl (hy3 b)
     have hs:∀ m,zlj m (zzK ps) parts all (last,(pre.length:Int),(0,0),y)=(zzf (zow m (zzK ps) g parts) m (0,(0,0),some (y.getD []++enc (slice ps last s)))).bind (zyA fun a=>some (.inl (e',((pre.length+1:Nat):Int),(a.1.1,a.1.2),a.2))):=fun m=>by
      unfold zlj
      simp only[dtt (show (pre.length:Int)<(all.length:Int) by omega),if_true,hi,Option.bind_some,hg0,zxf (ps:=ps) h0 (show last<=s by omega) (show s<=(ps.length:Int) by omega),zvs (zyf hp _ _),ztR y (enc (slice ps last s)) om,zzw (x:=(pre.length:Int)+1) om om]
      rfl
     have d:(((pre++[g]).length:Nat):Int)=((pre.length+1:Nat):Int):=by simp
     rw[zq0,u]at hT
     simp only at hT
     have o:Chain G ps.length e' t:=c4.le (by split<;>omega)
     by_cases b:parts=[]
     ·subst b
      cases hx
      have hin:∀ m,zzf (zow m (zzK ps) g []) (m+1) (0,(0,0),some (y.getD []++enc (slice ps last s)))=some (.inl ((0,0),some (y.getD []++enc (slice ps last s)))):=fun m=>zus (by unfold zow;rfl)
      have ao:Tot (fun m=>zlj m (zzK ps) [] all (last,(pre.length:Int),(0,0),y)) (· = .inl (e',((pre.length+1:Nat):Int),(0,0),some (y.getD []++enc (slice ps last s)))):=by
       refine ⟨_,rfl,1,fun m hm=>?_⟩
       obtain ⟨m,rfl⟩:∃ k,m=k+1:=⟨m-1,om⟩
       show zlj (m+1) (zzK ps) [] all (last,(pre.length:Int),(0,0),y)=_
       rw[hs]
       rw[zus (r:=.inl ((0,0),some (y.getD []++enc (slice ps last s)))) (by unfold zow;rfl)]
       rfl
      have q:=hy rfl
      rw[ad]at q
      have ih:=zoS (parts:=[]) (by simp) .nil (by simp) (fun j h=>by cases h) all hal t e' o e' om (ak _) c3 (pre++[g]) (by rw[e];simp) (some (y.getD []++enc (slice ps last s))) (fun _=>by rw[Option.getD_some,aa];omega) (by rw[Option.getD_some,aa];omega) (fun h=>absurd rfl h) T (by rw[hT,Option.getD_some,aj];rfl)
      rw[d]at ih
      exact LT.step ao ih
     ·have hy4:=hy3 b
      have l:=zj1 hp hl hW parts hpl its parts hx [] rfl hil hj (some (y.getD []++enc (slice ps last s))) (by rw[Option.getD_some,aa];omega)
      rw[Option.getD_some]at l
      obtain ⟨z,hz,N,hN⟩:=LT.tot l
      have v:∀ n,N<=n->zzf (zow n (zzK ps) g parts) n (0,(0,0),some (y.getD []++enc (slice ps last s)))=some z:=hN
      have f:∀ {w},zyA (fun a:(Int × Int) × Bld=>(some (.inl (e',((pre.length+1:Nat):Int),(a.1.1,a.1.2),a.2)):Option (OutS ⊕ (OutZ ⊕ zic)))) z=some w->Tot (fun m=>zlj m (zzK ps) parts all (last,(pre.length:Int),(0,0),y)) (· =w):=fun {w} hw=>⟨w,rfl,N,fun n hn=>by show zlj n (zzK ps) parts all (last,(pre.length:Int),(0,0),y)=_;rw[hs,v n hn];exact hw⟩
      rcases hz with ⟨y',rfl,e2,e3⟩ | ⟨rfl,e2⟩
      ·have e3:(y'.getD []).length<=4000:=by
        rcases e3 with e3 | e3
        ·exact absurd e3 b
        ·rw[e2];exact e3
       have ih:=zoS hpl hx hil hj all hal t e' o e' om (ak _) c3 (pre++[g]) (by rw[e];simp) y' (fun h=>absurd h b) om (fun _=>e3) T (by rw[hT,e2];simp)
       rw[d]at ih
       exact LT.step (f rfl) ih
      ·exact LT.fin (r:=.inr (strOf [],(3, -1))) (f rfl) (.inr ⟨rfl,by rw[hT];simp only[aa]at e2 ⊢;omega⟩)
end
theorem zjw {G L:Nat} {a b:Int} {wh:Bool} {g:Sp} (h:ziZ G L a b wh (.yes g)) (h0:0<=a):GW G L g:=by
 obtain ⟨hW,s,k,hg,f1,f2,f3,f4,f5⟩:=h
 refine ⟨hW.1,fun j x hx=>?_⟩
 by_cases hj:j=0
 ·subst hj;rw[hg]at hx;cases hx;exact .inr ⟨om,f3,f4⟩
 ·exact hW.2 j x om hx
theorem zpa {p:Pc} {ps:List Nat} {most:Int} {i:Int} {out:List Sp} {r:Option (List Sp)} (h:Ev (fnd p ps) ps.length most i out r):0<=i->i<=(ps.length:Int)+1->∀ l,r=some l->∃ l',l=out++l'∧Chain (gr p) ps.length i l'∧(l'.length:Int)<=(ps.length:Int)+1-i:=by
 induction h with
 | stop h=>intro h0 h1 l e;cases e;exact ⟨[],by simp,.nil,oss⟩
 | over _ _ _=>intro h0 h1 l e;cases e
 | none _ _ _=>intro h0 h1 l e;cases e;exact ⟨[],by simp,.nil,oss⟩
 | @more i out g s e' r h2 h3 hf hg hr ih=>
   intro h0 h1 l e
   have hW:=zjw hf.1 h0
   obtain ⟨_,s1,k1,hg1,f1,f2,f3,f4,f5⟩:=hf.1
   rw[hg]at hg1
   cases hg1
   obtain ⟨l',e1,e2,e3⟩:=ih (by split<;>omega) (by split<;>omega) l e
   refine ⟨g::l',by rw[e1];simp,.cons hW hg f1 f3 f4 e2,?_⟩
   rw[ad]
   split at e3<;>omega
def zkC (G:Nat) (ps:List Nat) (t:List UInt8) (r:Option (List Sp)):zic:=
 if validD t=false then (strOf [],(1, -3)) else match zw7 G t with
 | none=>(strOf [],(1, -3))
 | some its=>match r with
   | none=>(strOf [],(21, -1))
   | some l=>if (zq0 ps its 0 l).length>4000 then (strOf [],(3, -1)) else (strOf (zq0 ps its 0 l),(0,0))
section
variable {p:Pc} {s:ByteArray} {ps:List Nat} (hok:okP p) (hb:BdL (zxo p)) (ht:TextOk s ps) (hck:Tot (fun n=>zzj n p.un s 0) (· =(0,0)))
include hok hb ht hck
theorem zqb {tpl:ByteArray} (hts:tpl.size<=1048576) {most:Int} {r:Option (List Sp)} (hr:Ev (fnd p ps) ps.length most 0 [] r) (hall:Tot (fun m=>zyw m p.un (zzK ps) most) (· =zjL r)):
 Tot (fun m=>zyx m p.un s tpl most) (· =zkC (gr p) ps (bytesOf tpl) r):=by
 obtain ⟨hT9,hG⟩:=ok_T hok hb
 refine eqf (fun m=>zsr m p.un s tpl most) (ab hck fun a e=>?_)
 subst e
 refine ai rfl (ab (zrV hb hok) fun a e=>?_)
 subst e
 refine an ht.rn ?_
 rw[show tpl=strOf (bytesOf tpl) from (zxF tpl).symm]
 rw[zxw]at hts
 generalize bytesOf tpl=t at hts
 refine ab (znH hG hts) fun a ha=>?_
 rw[zyd]
 have g:∀ b:Bool,Tot (fun m=>Option.bind (utf8_ValidString m (strOf t)) fun h=>(if (!h) then (some (true)) else (some (!b)))) (· =(!validD t|| !b)):=fun b=>by
  refine ab (zxM (by rw[zzC];omega)) fun v e=>?_
  subst e
  rw[zyd]
  cases validD t
  ·exact am rfl (ac rfl)
  ·exact ai rfl (ac rfl)
 refine ab (g a.2) fun v e=>?_
 subst e
 unfold zkC
 cases hv:validD t with
 | false=>rw[if_pos rfl];exact am rfl (ac rfl)
 | true=>
   rw[if_neg ddc]
   cases f:zw7 (gr p) t with
   | none=>rw[f]at ha;subst ha;exact am rfl (ac rfl)
   | some its=>
     rw[f]at ha
     obtain ⟨parts,rfl,hx,hpl⟩:=ha
     refine ai rfl (ab hall fun a e=>?_)
     subst e
     cases r with
     | none=>exact am rfl (ac rfl)
     | some l=>
       obtain ⟨l',e1,hc,hcl⟩:=zpa hr (ak _) om l rfl
       rw[List.nil_append]at e1
       subst e1
       obtain ⟨hil,hj⟩:=zvj _ t its (Nat.le_refl _) f
       have o:=ht.len
       have k:=zoS ht.scal ht.len (parts:=parts) om hx om hj l om l 0 hc 0 (ak _) (ak _) om [] rfl none (fun _=>by simp;omega) (by simp) (fun _=>by simp) _ rfl
       refine ai rfl (ab (LT.tot k) fun y hy=>?_)
       rw[show ((none:Bld).getD []++zq0 ps its 0 l)=zq0 ps its 0 l by simp]at hy
       simp only
       rcases hy with ⟨last,y',rfl,h0,h1,h2,h3⟩ | ⟨rfl,h1⟩
       ·have j:sub (zzK ps) last (((zzK ps).length:Nat):Int)=some (zzK (slice ps last ps.length)):=by rw[zzW];exact zxf h0 h1 (ak _)
        have hq:=ztb ht.scal ht.len (zxK ps last ps.length)
        refine an j (an (by rw[zvs (zyf ht.scal _ _)];exact ztR y' _ om) (an (by unfold zmG;rfl) ?_))
        rw[Option.getD_some,h3]
        by_cases d:(zq0 ps its 0 l).length>4000
        ·rw[if_pos d];exact am (dtt om) (ac rfl)
        ·rw[if_neg d];exact ai (dff om) (ac rfl)
       ·rw[if_pos h1];exact ac rfl
end
set_option maxRecDepth 1000000
theorem zjy:∀ k,zwj (k+100)=some true:=fun k=>by kernel_rfl
theorem zrU:Tot (fun n=>zwj n) (· =true):=Tot.of_all 100 zjy rfl
section
variable {p:Pc} {s:ByteArray} {w:Int × Int} (hw:w.1≠0) (hc:∀ i,Tot (fun n=>zzj n p.un s i) (· =w))
include hw hc
end
section
variable {p:Pc} {s:ByteArray} {ps:List Nat} (ht:TextOk s ps) (hc:∀ i,Tot (fun n=>zzj n p.un s i) (· =if i<0∨i>(ps.length:Int) then (4, -3) else (0,0)))
include ht hc
end
end Go.Gv.M
