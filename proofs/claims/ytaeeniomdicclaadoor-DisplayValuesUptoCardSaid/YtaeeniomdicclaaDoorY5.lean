import Derived.Test.YtaeeniomdicclaaDoorY1
set_option linter.all false
open List renaming length_append->aa,append_assoc->ag,getElem_mem->ah,length_nil->aj,length_cons->ak,take_length->al,contains_iff_mem->am,take_succ_eq_append_getElem->ao,length_singleton->ap,append_nil->aw
open Go.Gv.Tot renaming ret->ab,bindq->ac,if_->ad,bind0->ae,it->af,ite->ai,contr->aq,contl->av,loop->ax
open Bool renaming and_eq_true->ar,eq_iff_iff->au
namespace Go.Gv.P
open Go Go.Gv Go.Gv.D Go.Gv.R Go.Lib
set_option maxRecDepth 100000
theorem Tot.succ {α:Type} {f g:Nat->Option α} {Q:α->Prop} (h:∀ n,f (n+1)=g n) (hg:Tot g Q):Tot f Q:=by
 obtain ⟨a,ha,N,hN⟩:=hg
 refine ⟨a,ha,N+1,fun n hn=>?_⟩
 obtain ⟨m,rfl⟩:∃ m,n=m+1:=⟨n-1,om⟩
 rw[h]
 exact hN m om
def zyV {α:Type} (f:α->List UInt8):List α->List UInt8
 | []=>[]
 | v::r=>f v++r.flatMap (fun x=>[44,32]++f x)
theorem zsi {α:Type} (f:α->List UInt8) (l:List α) (v:α):zyV f (l++[v])=zyV f l++(if l.length=0 then [] else [44,32])++f v:=by
 cases l with
 | nil=>simp[zyV]
 | cons x l=>simp[zyV,List.flatMap_append]
theorem zpU {α:Type} (f:α->List UInt8) (l m:List α):(zyV f l).length<=(zyV f (l++m)).length:=by
 cases l with
 | nil=>simp[zyV]
 | cons x l=>simp only[zyV,List.cons_append,List.flatMap_append,aa];omega
theorem zwi {α:Type} (f:α->List UInt8) {l:List α} {i:Nat} (h:i<l.length):zyV f (l.take (i+1))=zyV f (l.take i)++(if i=0 then [] else [44,32])++f l[i]:=by
 rw[ao h,zsi,List.length_take,Nat.min_eq_left om]
theorem zyD {α:Type} (f:α->List UInt8) (l:List α) (i:Nat):(zyV f (l.take i)).length<=(zyV f l).length:=by
 have:=zpU f (l.take i) (l.drop i)
 rwa [List.take_append_drop]at this
def again (kind:Int):List UInt8:=if kind=1 then [40,46,46,46,41] else if kind=2 then [91,46,46,46,93] else [123,46,46,46,125]
def zvT (f:Hv->List UInt8) (o:Ho):List UInt8:=
 if o.1=1 then [40]++(zyV f o.2.2.2.2.2.2.1++((if o.2.2.2.2.2.2.1.length=1 then [44] else [])++[41]))
 else if o.1=2 then [91]++(zyV f o.2.2.2.2.2.2.1++[93])
 else if o.1=4 then (if o.2.2.2.2.2.2.2.1.length=0 then [115,101,116,40,41] else [123]++(zyV f o.2.2.2.2.2.2.2.1++[125]))
 else if o.1=5 then [114,97,110,103,101,40]++(zyV f o.2.2.2.2.2.2.1++[41])
 else [123]++(zyV (fun p:Hv × Hv=>f p.1++([58,32]++f p.2)) (o.2.2.2.2.2.2.2.1.zip o.2.2.2.2.2.2.1)++[125])
def zpB (h:List Ho) (rec:List Int->Hv->List UInt8) (path:List Int) (v:Hv):List UInt8:=
 if v.1≠6 then atx v else
  match h[v.2.2.2.2.toNat]? with
  | none=>[]
  | some o=>if o.1=10 then [60,84,104,105,110,103,62] else if path.contains v.2.2.2.2 then again o.1 else zvT (rec (path++[v.2.2.2.2])) o
def txt (h:List Ho):Nat->List Int->Hv->List UInt8
 | 0=>zpB h (fun _ _=>[])
 | k+1=>zpB h (txt h k)
abbrev Ws:=List Ho × List UInt8 × List Int
def pr (h:List Ho) (out:List UInt8) (path:List Int) (t:List UInt8):Ws ⊕ Unit:=if out.length+t.length<=4000 then .inl (h,out++t,path) else .inr ()
section
variable {h:List Ho} {out:List UInt8} {path:List Int}
theorem zzY {s:List UInt8} (ho:out.length<=4000) (hs:s.length<=1000000):Tot (fun n=>zzy n (h,out,path) (strOf s)) (· =pr h out path s):=by
 unfold zzy
 dsimp only
 rw[zzd]
 refine ae (zzt om) ?_
 unfold pr
 refine ai (fun hc=>?_) fun hc=>?_
 ·have hc:((out++s).length:Int)>4000:=odt hc
  rw[aa]at hc
  exact ab (by rw[if_neg om])
 ·have hc:¬ ((out++s).length:Int)>4000:=odf hc
  rw[aa]at hc
  exact ab (by rw[if_pos om])
theorem over {x y:Nat} {l m:List UInt8} (hy:y=x) (h1:4000<x+l.length):4000<y+(l++m).length:=by
 rw[aa]
 omega
theorem Tot.seq {ρ:Type} {s:List UInt8} {X:Nat->Option (Ws ⊕ Unit)} {A:Nat->Ws->Option ρ} {B:Nat->Unit->Option ρ} {Q:ρ->Prop} (hx:Tot X (· =pr h out path s))
 (ha:out.length+s.length<=4000->Tot (fun n=>A n (h,out++s,path)) Q) (hb:4000<out.length+s.length->Tot (fun n=>B n ()) Q):Tot (fun n=>(X n).bind (Gv.pcase (A n) (B n))) Q:=by
 refine ac hx fun q hq=>?_
 subst hq
 unfold pr
 by_cases hc:out.length+s.length<=4000
 ·rw[if_pos hc];exact ha hc
 ·rw[if_neg hc];exact hb om
def Res (h:List Ho) (out:List UInt8) (path:List Int) (t:List UInt8) (q:Ws ⊕ (Ws ⊕ Unit)):Prop:=
 match q with
 | .inl s=>out.length+t.length<=4000∧s=(h,out++t,path)
 | .inr z=>z= .inr ()∧4000<out.length+t.length
theorem Res.fin {t:List UInt8} {q:Ws ⊕ (Ws ⊕ Unit)} (hq:Res h out path t q):Tot (fun _=>Gv.cont (fun s:Ws=>(some (Sum.inl (h,s.2.1,s.2.2)):Option (Ws ⊕ Unit))) q) (· =pr h out path t):=by
 cases q with
 | inl s=>
   obtain ⟨h1,rfl⟩:=hq
   exact av (f:=fun (_:Nat) (s:Ws)=>(some (Sum.inl (h,s.2.1,s.2.2)):Option (Ws ⊕ Unit))) (ab (by unfold pr;rw[if_pos h1]))
 | inr z=>
   obtain ⟨rfl,h1⟩:=hq
   exact aq (f:=fun (_:Nat) (s:Ws)=>(some (Sum.inl (h,s.2.1,s.2.2)):Option (Ws ⊕ Unit))) (by unfold pr;rw[if_neg om])
def zrm (h:List Ho) (path:List Int) (f:Hv->List UInt8):Prop:=∀ v,zxv 50 h.length v->∀ out:List UInt8,out.length<=4000->Tot (fun n=>zzw n (h,out,path) v) (· =pr h out path (f v))
theorem zwc {f:Hv->List UInt8} {l:List Hv} (hf:zrm h path f) (hl:zxl 50 h.length l) (ho:out.length<=4000):Tot (fun n=>zzu n (h,out,path) l) (· =pr h out path (zyV f l)):=by
 refine Tot.succ (fun n=>zzu.eq_2 _ _ _) ?_
 refine ac (P:=Res h out path (zyV f l)) ?_ fun q hq=>hq.fin
 refine ax (fun st=>∃ i:Nat,st.1=(i:Int)∧i<=l.length∧st.2=(h,out++zyV f (l.take i),path)∧out.length+(zyV f (l.take i)).length<=4000) (fun st=>l.length-st.1.toNat) ⟨0,rfl,om,by simp[zyV],by simp[zyV];exact ho⟩ fun st ⟨i,e,hi,e2,hn⟩=>?_
 obtain ⟨j,st⟩:=st
 simp only at e e2
 subst e;subst e2
 have hl2:=hl.2
 refine ai (fun hc=>?_) fun hc=>?_
 ·have hc:(i:Int)<l.length:=odt hc
  have a:i<l.length:=by omega
  have d:=zwi f a
  have c:=zyD f l (i+1)
  rw[d]at c
  simp only[aa]at c
  refine ae (idx_nat a) ?_
  refine ac (P:=fun q=>match q with
   | .inl s=>s=(h,out++zyV f (l.take i)++(if i=0 then [] else [44,32]),path)∧out.length+(zyV f (l.take i)).length+(if i=0 then ([]:List UInt8) else [44,32]).length<=4000
   | .inr z=>z= .inr (.inr (.inr ()))∧4000<out.length+(zyV f l).length) ?_ fun q hq=>?_
  ·refine ai (fun h0=>?_) fun h0=>?_
   ·have h0:(i:Int)>0:=odt h0
    have h0:i≠0:=by omega
    rw[if_neg h0]at c ⊢
    refine Tot.seq (zzY (s:=[44,32]) (by simp only[aa];omega) (by simp)) (fun hf=>ab ⟨rfl,?_⟩) fun hf=>ab ⟨rfl,?_⟩
    ·simp only[aa]at hf;exact hf
    ·simp only[aa]at hf;omega
   ·have h0:¬ (i:Int)>0:=odf h0
    have h0:i=0:=by omega
    rw[if_pos h0]
    exact ab ⟨by simp,by simpa using hn⟩
  ·cases q with
   | inr z=>obtain ⟨rfl,hz⟩:=hq;exact aq ⟨rfl,hz⟩
   | inl s=>
     obtain ⟨rfl,hz⟩:=hq
     refine av (Tot.seq (hf _ (hl.1 _ (ah a)) _ (by simp only[aa];exact hz)) (fun g=>ab ?_) fun g=>ab ⟨rfl,?_⟩)
     ·dsimp only
      rw[iw (n:=i+1) om om]
      refine ⟨⟨i+1,rfl,om,?_,?_⟩,om⟩
      ·rw[d];simp only[ag]
      ·rw[d];simp only[aa]at g ⊢;omega
     ·simp only[aa]at g;omega
 ·have hc:¬ (i:Int)<l.length:=odf hc
  have:i=l.length:=by omega
  subst this
  rw[al]at hn
  exact ab ⟨hn,by rw[al]⟩
theorem zsg {f:Hv->List UInt8} {o:Ho} (hf:zrm h path f) (hob:zsS 50 h.length o) (h10:o.1≠10) (ho:out.length<=4000):Tot (fun n=>zzs n (h,out,path) o) (· =pr h out path (zvT f o)):=by
 refine Tot.succ (fun n=>zzs.eq_2 _ _ _) ?_
 refine ac (P:=Res h out path (zvT f o)) ?_ fun q hq=>hq.fin
 unfold zvT
 rcases hob with ⟨hk,hi⟩ | ⟨hk,hi,c,he⟩ | ⟨hk,c⟩ | hk
 ·rcases hk with hk | hk | hk
  ·rw[if_pos hk]
   refine af (kt hk) (Tot.seq (zzY (s:=[40]) ho (by simp)) (fun h1=>?_) fun h1=>ab ⟨rfl,over rfl h1⟩)
   refine Tot.seq (zwc hf hi (by simp only[aa];omega)) (fun h2=>?_) fun h2=>ab ⟨rfl,by simp only[aa]at h2 ⊢;omega⟩
   simp only[aa]at h2
   refine ac (P:=fun q=>match q with
    | .inl s=>s=(h,out++[40]++zyV f o.2.2.2.2.2.2.1++(if o.2.2.2.2.2.2.1.length=1 then [44] else []),path)∧out.length+([40]:List UInt8).length+(zyV f o.2.2.2.2.2.2.1).length+(if o.2.2.2.2.2.2.1.length=1 then ([44]:List UInt8) else []).length<=4000
    | .inr z=>z= .inr (.inr ())∧4000<out.length+([40]:List UInt8).length+(zyV f o.2.2.2.2.2.2.1).length+(if o.2.2.2.2.2.2.1.length=1 then ([44]:List UInt8) else []).length) ?_ fun q hq=>?_
   ·refine ai (fun h1=>?_) fun h1=>?_
    ·have h1:o.2.2.2.2.2.2.1.length=1:=by
      have:(o.2.2.2.2.2.2.1.length:Int)=1:=by simpa using h1
      omega
     rw[if_pos h1]
     refine Tot.seq (zzY (s:=[44]) (by simp only[aa];omega) (by simp)) (fun h3=>ab ⟨rfl,?_⟩) fun h3=>ab ⟨rfl,?_⟩
     ·simp only[aa]at h3;exact h3
     ·simp only[aa]at h3;exact h3
    ·have h1:o.2.2.2.2.2.2.1.length≠1:=by
      have:(o.2.2.2.2.2.2.1.length:Int)≠1:=by simpa using h1
      omega
     rw[if_neg h1]
     exact ab ⟨by simp,by simpa using h2⟩
   ·cases q with
    | inr z=>obtain ⟨rfl,hz⟩:=hq;exact aq ⟨rfl,by simp only[aa];omega⟩
    | inl s=>
      obtain ⟨rfl,hz⟩:=hq
      refine av (Tot.seq (zzY (s:=[41]) (by simp only[aa];omega) (by simp)) (fun h3=>ab ⟨?_,?_⟩) fun h3=>ab ⟨rfl,?_⟩)
      ·simp only[aa]at h3 ⊢;omega
      ·simp only[ag]
      ·simp only[aa]at h3 ⊢;omega
  ·have n1:o.1≠1:=by omega
   rw[if_neg n1,if_pos hk]
   refine ad (kf n1) (af (kt hk) (Tot.seq (zzY (s:=[91]) ho (by simp)) (fun h1=>?_) fun h1=>ab ⟨rfl,over rfl h1⟩))
   refine Tot.seq (zwc hf hi (by simp only[aa];omega)) (fun h2=>?_) fun h2=>ab ⟨rfl,by simp only[aa]at h2 ⊢;omega⟩
   refine Tot.seq (zzY (s:=[93]) (by simp only[aa]at h2 ⊢;omega) (by simp)) (fun h3=>ab ⟨?_,?_⟩) fun h3=>ab ⟨rfl,?_⟩
   ·simp only[aa]at h3 ⊢;omega
   ·simp only[ag]
   ·simp only[aa]at h3 ⊢;omega
  ·have n1:o.1≠1:=by omega
   have n2:o.1≠2:=by omega
   have n4:o.1≠4:=by omega
   rw[if_neg n1,if_neg n2,if_neg n4,if_pos hk]
   refine ad (kf n1) (ad (kf n2) (ac (P:=(· =false)) (ad (kf n4) (ab rfl)) fun b hb=>?_))
   subst hb
   refine ad rfl (ad (kf n4) (af (kt hk) (Tot.seq (zzY (s:=[114,97,110,103,101,40]) ho (by simp)) (fun h1=>?_) fun h1=>ab ⟨rfl,over rfl h1⟩)))
   refine Tot.seq (zwc hf hi (by simp only[aa];omega)) (fun h2=>?_) fun h2=>ab ⟨rfl,by simp only[aa]at h2 ⊢;omega⟩
   refine Tot.seq (zzY (s:=[41]) (by simp only[aa]at h2 ⊢;omega) (by simp)) (fun h3=>ab ⟨?_,?_⟩) fun h3=>ab ⟨rfl,?_⟩
   ·simp only[aa]at h3 ⊢;omega
   ·simp only[ag]
   ·simp only[aa]at h3 ⊢;omega
 ·have n1:o.1≠1:=by omega
  have n2:o.1≠2:=by omega
  have n4:o.1≠4:=by omega
  have n5:o.1≠5:=by omega
  rw[if_neg n1,if_neg n2,if_neg n4,if_neg n5]
  refine ad (kf n1) (ad (kf n2) (ac (P:=(· =false)) (ad (kf n4) (ab rfl)) fun b hb=>?_))
  subst hb
  refine ad rfl (ad (kf n4) (ad (kf n5) (Tot.seq (zzY (s:=[123]) ho (by simp)) (fun h1=>?_) fun h1=>ab ⟨rfl,over rfl h1⟩)))
  generalize hg:(fun p:Hv × Hv=>f p.1++([58,32]++f p.2))=g
  generalize hK:o.2.2.2.2.2.2.2.1=K at*
  generalize hI:o.2.2.2.2.2.2.1=I at*
  have x:(K.zip I).length=K.length:=by rw[List.length_zip,he,Nat.min_self]
  refine ac (P:=fun q=>match q with
   | .inl s=>s=(h,out++[123]++zyV g (K.zip I),path)∧out.length+([123]:List UInt8).length+(zyV g (K.zip I)).length<=4000
   | .inr z=>z= .inr (.inr ())∧4000<out.length+([123]:List UInt8).length+(zyV g (K.zip I)).length) ?_ fun q hq=>?_
  ·refine ax (fun st=>∃ i:Nat,st.1=(i:Int)∧i<=K.length∧st.2=(h,out++[123]++zyV g ((K.zip I).take i),path)∧out.length+([123]:List UInt8).length+(zyV g ((K.zip I).take i)).length<=4000) (fun st=>K.length-st.1.toNat) ⟨0,rfl,om,by simp[zyV],by simp only[List.take_zero,zyV,aj];omega⟩ fun st ⟨i,e,hii,e2,hn⟩=>?_
   obtain ⟨j,st⟩:=st
   simp only at e e2
   subst e;subst e2
   have hl2:=c.2
   refine ai (fun hc=>?_) fun hc=>?_
   ·have hc:(i:Int)<K.length:=odt hc
    have m:i<K.length:=by omega
    have u:i<I.length:=by omega
    have hz:i<(K.zip I).length:=by omega
    have a:=zwi g hz
    have d:=zyD g (K.zip I) (i+1)
    have l:g (K.zip I)[i]=f K[i]++([58,32]++f I[i]):=by rw[<- hg,List.getElem_zip]
    rw[a,l]at d
    rw[l]at a
    simp only[aa]at d
    refine ae (idx_nat m) ?_
    refine ac (P:=fun q=>match q with
     | .inl s=>s=(h,out++[123]++zyV g ((K.zip I).take i)++(if i=0 then [] else [44,32]),path)∧out.length+([123]:List UInt8).length+(zyV g ((K.zip I).take i)).length+(if i=0 then ([]:List UInt8) else [44,32]).length<=4000
     | .inr z=>z= .inr (.inr (.inr (.inr ())))∧4000<out.length+([123]:List UInt8).length+(zyV g (K.zip I)).length) ?_ fun q hq=>?_
    ·refine ai (fun h0=>?_) fun h0=>?_
     ·have h0:(i:Int)>0:=odt h0
      have h0:i≠0:=by omega
      rw[if_neg h0]at d ⊢
      refine Tot.seq (zzY (s:=[44,32]) (by simp only[aa];omega) (by simp)) (fun hf=>ab ⟨rfl,?_⟩) fun hf=>ab ⟨rfl,?_⟩
      ·simp only[aa]at hf;exact hf
      ·simp only[aa]at hf;omega
     ·have h0:¬ (i:Int)>0:=odf h0
      have h0:i=0:=by omega
      rw[if_pos h0]
      exact ab ⟨by simp,by simpa using hn⟩
    ·cases q with
     | inr z=>obtain ⟨rfl,hz⟩:=hq;exact aq ⟨rfl,hz⟩
     | inl s=>
       obtain ⟨rfl,hz⟩:=hq
       refine av (Tot.seq (hf _ (c.1 _ (ah m)) _ (by simp only[aa];omega)) (fun h2=>?_) fun h2=>ab ⟨rfl,?_⟩)
       ·refine Tot.seq (zzY (s:=[58,32]) (by simp only[aa]at h2 ⊢;omega) (by simp)) (fun h3=>?_) fun h3=>ab ⟨rfl,?_⟩
        ·refine ae (idx_nat u) (Tot.seq (hf _ (hi.1 _ (ah u)) _ (by simp only[aa]at h3 ⊢;omega)) (fun h4=>ab ?_) fun h4=>ab ⟨rfl,?_⟩)
         ·dsimp only
          rw[iw (n:=i+1) om om]
          refine ⟨⟨i+1,rfl,om,?_,?_⟩,om⟩
          ·rw[a];simp only[ag]
          ·rw[a];simp only[aa]at h4 ⊢;omega
         ·simp only[aa]at h4;omega
        ·simp only[aa]at h3;omega
       ·simp only[aa]at h2;omega
   ·have hc:¬ (i:Int)<K.length:=odf hc
    have:i=K.length:=by omega
    subst this
    have k:(K.zip I).take K.length=K.zip I:=by rw[<- x,al]
    rw[k]at hn
    exact ab ⟨by rw[k],hn⟩
  ·cases q with
   | inr z=>obtain ⟨rfl,hz⟩:=hq;exact aq ⟨rfl,by simp only[aa];omega⟩
   | inl s=>
     obtain ⟨rfl,hz⟩:=hq
     refine av (Tot.seq (zzY (s:=[125]) (by simp only[aa];omega) (by simp)) (fun h3=>ab ⟨?_,?_⟩) fun h3=>ab ⟨rfl,?_⟩)
     ·simp only[aa]at h3 ⊢;omega
     ·simp only[ag]
     ·simp only[aa]at h3 ⊢;omega
 ·have n1:o.1≠1:=by omega
  have n2:o.1≠2:=by omega
  rw[if_neg n1,if_neg n2,if_pos hk]
  refine ad (kf n1) (ad (kf n2) (ac (P:=(· =decide (o.2.2.2.2.2.2.2.1.length=0))) (af (kt hk) (ae rfl (ab ?_))) fun b hb=>?_))
  ·rw[au];simp
  subst hb
  by_cases hz:o.2.2.2.2.2.2.2.1.length=0
  ·rw[if_pos hz]
   refine af (dtt hz) (Tot.seq (zzY (s:=[115,101,116,40,41]) ho (by simp)) (fun h1=>ab ⟨h1,rfl⟩) fun h1=>ab ⟨rfl,h1⟩)
  ·rw[if_neg hz]
   refine ad (dff hz) (af (kt hk) (Tot.seq (zzY (s:=[123]) ho (by simp)) (fun h1=>?_) fun h1=>ab ⟨rfl,over rfl h1⟩))
   refine Tot.seq (zwc hf c (by simp only[aa];omega)) (fun h2=>?_) fun h2=>ab ⟨rfl,by simp only[aa]at h2 ⊢;omega⟩
   refine Tot.seq (zzY (s:=[125]) (by simp only[aa]at h2 ⊢;omega) (by simp)) (fun h3=>ab ⟨?_,?_⟩) fun h3=>ab ⟨rfl,?_⟩
   ·simp only[aa]at h3 ⊢;omega
   ·simp only[ag]
   ·simp only[aa]at h3 ⊢;omega
 ·exact absurd hk.1 h10
end
theorem zrx {l:List Int} {x:Int} (hl:l.length<=1000000):Tot (fun n=>zzc n l x) (fun r=>(0<=r↔x∈l)):=by
 unfold zzc
 refine ac (P:=fun q=>match q with | .inl _=>x∉l | .inr r=>0<=r∧x∈l) ?_ fun q hq=>?_
 ·refine ax (fun st=>∃ i:Nat,st=(i:Int)∧i<=l.length∧x∉l.take i) (fun st=>l.length-st.toNat) ⟨0,rfl,om,by simp⟩ fun st ⟨i,e,hi,hx⟩=>?_
  subst e
  refine ai (fun hc=>?_) fun hc=>?_
  ·have hc:(i:Int)<l.length:=odt hc
   have a:i<l.length:=by omega
   refine ae (idx_nat a) (ai (fun he=>ab ⟨om,?_⟩) fun he=>ab ?_)
   ·have he:x=l[i]:=by simpa using he
    rw[he];exact ah a
   ·have he:x≠l[i]:=by simpa using he
    rw[iw (n:=i+1) om om]
    refine ⟨⟨i+1,rfl,om,?_⟩,om⟩
    rw[ao a,List.mem_append,List.mem_singleton]
    exact fun h=>h.elim hx he
  ·have hc:¬ (i:Int)<l.length:=odf hc
   have:i=l.length:=by omega
   subst this
   rw[al]at hx
   exact ab hx
 ·cases q with
  | inl _=>exact av (ab ⟨fun h=>absurd h ddc,fun h=>absurd h hq⟩)
  | inr r=>exact aq ⟨fun _=>hq.2,fun _=>hq.1⟩
theorem zwA {l:List Int} {x:Int} (hl:l.length<=1000000):Tot (fun n=>zzg n l x) (· =l.contains x):=by
 unfold zzg
 refine ac (zrx hl) fun r hr=>ab ?_
 rw[au,am,<- hr]
 exact decide_eq_true_iff
theorem zrw (k:Int):Tot (fun n=>zyt n k) (fun r=>r=strOf (again k)):=by
 unfold zyt again
 by_cases h1:k=1
 ·rw[if_pos h1];exact af (kt h1) (ab rfl)
 ·rw[if_neg h1]
  refine ad (kf h1) ?_
  by_cases h2:k=2
  ·rw[if_pos h2];exact af (kt h2) (ab rfl)
  ·rw[if_neg h2];exact ad (kf h2) (ab rfl)
theorem zuS (k:Int):(again k).length=5:=by unfold again;split;rfl;split<;>rfl
def room (n:Nat) (path:List Int):Nat:=((List.range n).filter (fun i:Nat=> !(path.contains (i:Int)))).length
theorem zvs {n:Nat} {path:List Int} {r:Int} (h0:0<=r) (h1:r<n) (h:path.contains r=false):room n (path++[r])<room n path:=by
 unfold room
 have e:(List.range n).filter (fun i:Nat=> !((path++[r]).contains (i:Int)))=((List.range n).filter (fun i:Nat=> !(path.contains (i:Int)))).filter (fun i:Nat=>decide ((i:Int)≠r)):=by
  rw[List.filter_filter]
  refine List.filter_congr fun i _=>?_
  rw[au]
  simp only[Bool.not_eq_true',ar,decide_eq_true_eq]
  rw[<- Bool.not_eq_true,<- Bool.not_eq_true,am,am,List.mem_append,List.mem_singleton]
  exact ⟨fun h=>⟨fun e=>h (.inr e),fun h'=>h (.inl h')⟩,fun ⟨a,b⟩ h=>h.elim b a⟩
 rw[e]
 refine List.length_filter_lt_length_iff_exists.2 ⟨r.toNat,List.mem_filter.2 ⟨List.mem_range.2 om,?_⟩,?_⟩
 ·rw[show ((r.toNat:Nat):Int)=r by omega,h];rfl
 ·simp;omega
theorem zqA {α:Type} (l:List α) (x:α):sub (l++[x]) 0 (l.length:Int)=some l:=by
 unfold sub
 rw[if_pos ⟨ddc,om,by simp only[aa,ap];omega⟩,Int.toNat_natCast,List.take_left]
 rfl
theorem zro:base[49]? =some zrl:=by
 unfold base
 rw[List.getElem?_append_right (by rw[zxU];exact Nat.le_refl _),zxU]
 rfl
theorem zv8 {b:Nat} {h:List Ho} (w:zxi b h) {i:Nat} (hi:i<50):h[i]? =base[i]?:=by
 rw[<- w.2.1,List.getElem?_take,if_pos hi]
theorem ztc {b:Nat} {h:List Ho} (w:zxi b h):idx h 49=some zrl:=by
 have:=zv8 w (i:=49) ddc
 rw[zro]at this
 unfold idx
 rw[if_pos ddc]
 exact this
section
variable {h:List Ho} {b:Nat}
theorem over0 {x y n:Nat} (hy:y=x) (h1:4000<x+n):¬ y+n<=4000:=by omega
theorem ztX (w:zxi b h) {rec:List Int->Hv->List UInt8} {path:List Int} (hp:path.length<=10000)
 (hrec:∀ r:Int,0<=r->r<h.length->path.contains r=false->zrm h (path++[r]) (rec (path++[r]))):zrm h path (zpB h rec path):=by
 intro v hv out ho
 refine Tot.succ (fun n=>zzw.eq_2 _ _ _) ?_
 unfold zpB
 by_cases h6:v.1=6
 ·rw[if_neg (by simpa using h6)]
  have hr:50<=v.2.2.2.2∧v.2.2.2.2<h.length:=by
   refine hv.cases ?_ ?_ ?_ ?_ ?_ ?_ ?_ (fun _ h1 h2=>⟨h1,h2⟩)<;>intros<;>omega
  obtain ⟨o,e1,e2,_⟩:=ztT (xs:=h) (i:=v.2.2.2.2) om hr.2
  rw[e2]
  have f:=w.1.2.2 _ o om e2
  refine ad (by rw[h6];rfl) (ae e1 ?_)
  dsimp only
  by_cases d:o.1=10
  ·rw[if_pos d]
   have n1:o.1≠1:=by omega
   have n2:o.1≠2:=by omega
   have n3:o.1≠3:=by omega
   have n4:o.1≠4:=by omega
   have n5:o.1≠5:=by omega
   have hc:o.2.2.1=49:=by
    rcases f with h | h | h | h
    ·omega
    ·omega
    ·omega
    ·exact h.2
   refine ac (P:=(· =false)) (ad (kf n1) (ad (kf n2) (ad (kf n3) (ad (kf n4) (ab (kf n5)))))) fun j hj=>?_
   subst hj
   refine ac (P:=Res h out path [60,84,104,105,110,103,62]) ?_ fun q hq=>hq.fin
   refine ad rfl (af (kt d) (ae (a:=zrl) (by rw[hc];exact ztc w) ?_))
   refine ae (zyi (l:=[60]) (m:=[84,104,105,110,103]) ddc) (ae (zyi (l:=[60,84,104,105,110,103]) (m:=[62]) ddc) ?_)
   exact Tot.seq (zzY (s:=[60,84,104,105,110,103,62]) ho (by simp)) (fun h1=>ab ⟨h1,rfl⟩) fun h1=>ab ⟨rfl,h1⟩
  ·rw[if_neg d]
   have hk:o.1=1∨o.1=2∨o.1=3∨o.1=4∨o.1=5:=by
    rcases f with h | h | h | h
    ·omega
    ·omega
    ·omega
    ·exact absurd h.1 d
   refine ac (P:=(· =true)) ?_ fun j hj=>?_
   ·by_cases n1:o.1=1
    ·exact af (kt n1) (ab (kt n1))
    refine ad (kf n1) ?_
    by_cases n2:o.1=2
    ·exact af (kt n2) (ab (kt n2))
    refine ad (kf n2) ?_
    by_cases n3:o.1=3
    ·exact af (kt n3) (ab (kt n3))
    refine ad (kf n3) ?_
    by_cases n4:o.1=4
    ·exact af (kt n4) (ab (kt n4))
    have n5:o.1=5:=by omega
    exact ad (kf n4) (ab (kt n5))
   ·subst hj
    cases e:path.contains v.2.2.2.2 with
    | true=>
      rw[if_pos rfl]
      refine ac (P:=(· =Sum.inr (pr h out path (again o.1)))) ?_ fun q hq=>by subst hq;exact aq rfl
      refine af rfl (ac (zwA om) fun c hc=>?_)
      rw[e]at hc
      subst hc
      refine af rfl (ac (zrw o.1) fun s hs=>?_)
      subst hs
      exact Tot.seq (zzY ho (by rw[zuS];decide)) (fun h1=>ab (by unfold pr;rw[if_pos h1])) fun h1=>ab (by unfold pr;rw[if_neg om])
    | false=>
      rw[if_neg ddc]
      refine ac (P:=Res h out path (zvT (rec (path++[v.2.2.2.2])) o)) ?_ fun q hq=>hq.fin
      refine af rfl (ac (zwA om) fun c hc=>?_)
      rw[e]at hc
      subst hc
      refine ad rfl (ae (zzt (by simp only[ak,aj];omega)) ?_)
      refine Tot.seq (zsg (hrec _ om hr.2 e) f d ho) (fun h1=>?_) fun h1=>ab ⟨rfl,h1⟩
      have hs:sub (path++[v.2.2.2.2]) 0 (IntKind.i64.wrap (((path++[v.2.2.2.2]).length:Int)-1))=some path:=by
       rw[aa,ap,iw (n:=path.length) om om]
       exact zqA _ _
      exact ae hs (ab ⟨h1,rfl⟩)
 ·rw[if_pos h6]
  refine af (by simp[h6]) (ac (zrW (v:=v) hv h6) fun r ⟨r1,r2⟩=>?_)
  subst r1
  refine Tot.seq (zzY (s:=atx v) ho om) (fun h1=>ab (by unfold pr;rw[if_pos h1])) fun h1=>ab (by unfold pr;rw[if_neg (over0 rfl h1)])
theorem ztR (w:zxi b h):∀ (k:Nat) (path:List Int),path.length+k<=10000->room h.length path<=k->zrm h path (txt h k path)
 | 0,path,hl,hr=>ztX w om fun r h0 h1 hc=>absurd (zvs h0 h1 hc) om
 | k+1,path,hl,hr=>ztX w om fun r h0 h1 hc=>ztR w k (path++[r]) (by simp only[aa,ap];omega) (by have:=zvs h0 h1 hc;omega)
end
abbrev Rs:=List Ho × List UInt8 × Bool
def RR (h:List Ho) (out:List UInt8) (full:Bool) (t:List UInt8) (r:Rs):Prop:=
 r.1=h∧r.2.1.length<=4000∧(r.2.2=false->full=false∧r.2.1=out++t)∧(r.2.2=true->full=true∨4000<out.length+t.length)
section
variable {h:List Ho} {out:List UInt8} {full:Bool} {s t:List UInt8} {r r2:Rs}
theorem RR.refl (ho:out.length<=4000):RR h out full [] (h,out,full):=⟨rfl,ho,fun e=>⟨e,by simp⟩,fun e=>.inl e⟩
theorem RR.pack (hr:RR h out full t r):RR h out full t (h,r.2.1,r.2.2):=⟨rfl,hr.2⟩
theorem RR.trans (h1:RR h out full s r) (h2:RR h r.2.1 r.2.2 t r2):RR h out full (s++t) r2:=by
 obtain ⟨a1,a2,a3,a4⟩:=h1
 obtain ⟨b1,b2,b3,b4⟩:=h2
 refine ⟨b1,b2,fun e=>?_,fun e=>?_⟩
 ·obtain ⟨c1,c2⟩:=b3 e
  obtain ⟨d1,d2⟩:=a3 c1
  exact ⟨d1,by rw[c2,d2,ag]⟩
 ·rw[aa]
  cases hr:r.2.2 with
  | true=>exact (a4 hr).elim .inl fun h=>.inr om
  | false=>
    obtain ⟨d1,d2⟩:=a3 hr
    rcases b4 e with h | h
    ·rw[hr]at h;cases h
    ·rw[d2,aa]at h;exact .inr om
theorem RR.stop (h1:RR h out full s r) (hf:r.2.2=true) (hl:s.length<=t.length):RR h out full t r:=
 ⟨h1.1,h1.2.1,fun e=>(by rw[hf]at e;cases e),fun e=>(h1.2.2.2 e).elim .inl fun h=>.inr om⟩
theorem zz3 (ho:out.length<=4000) (hs:s.length<=1000000):Tot (fun n=>zzx n (h,out,full) (strOf s)) (RR h out full s):=by
 unfold zzx
 refine ac (P:=fun j=>j=(h,out,(full||decide (4000<out.length+s.length)))) ?_ fun j hj=>?_
 ·cases full with
  | true=>exact af rfl (ab rfl)
  | false=>
    refine ad rfl (ab ?_)
    rw[zyg]
    dsimp only
    rw[i64_small om om]
    have e:decide (((out.length:Nat):Int)+((s.length:Nat):Int)>4000)=decide (4000<out.length+s.length):=by rw[decide_eq_decide];omega
    rw[e];rfl
 ·subst hj
  rw[zzd]
  refine ac (P:=RR h out full s) ?_ fun j hj=>ab hj.pack
  by_cases hc:full=false∧out.length+s.length<=4000
  ·obtain ⟨rfl,hc⟩:=hc
   have e:decide (4000<out.length+s.length)=false:=dff (show ¬ 4000<out.length+s.length by omega)
   rw[e]
   exact af rfl (ae (zzt (by dsimp only;omega)) (ab ⟨rfl,by simp only[aa];omega,fun _=>⟨rfl,rfl⟩,fun e=>(by cases e)⟩))
  ·have e:(full||decide (4000<out.length+s.length))=true:=by
    cases full with
    | true=>rfl
    | false=>exact dtt (show 4000<out.length+s.length from Nat.lt_of_not_le fun h=>hc ⟨rfl,h⟩)
   have e2:full=true∨4000<out.length+s.length:=by
    cases full with
    | true=>exact .inl rfl
    | false=>exact .inr (Nat.lt_of_not_le fun h=>hc ⟨rfl,h⟩)
   rw[e]
   exact ad rfl (ab ⟨rfl,ho,fun e=>(by cases e),fun _=>e2⟩)
theorem zwE (h1:RR h out full s r) (hs:t.length<=1000000):Tot (fun n=>zzx n (h,r.2.1,r.2.2) (strOf t)) (RR h out full (s++t)):=(zz3 (h:=h) (out:=r.2.1) (full:=r.2.2) h1.2.1 hs).mono fun _ hr=>h1.trans hr
def zuF (h:List Ho) (path:List Int) (f:Hv->List UInt8):Prop:=∀ v,zxv 50 h.length v->∀ (out:List UInt8) (full:Bool),out.length<=4000->Tot (fun n=>zzv n (h,out,full) v path) (RR h out full (f v))
theorem zuF.on {path:List Int} {f:Hv->List UInt8} (hf:zuF h path f) {v:Hv} (hv:zxv 50 h.length v) (h1:RR h out full s r):Tot (fun n=>zzv n (h,r.2.1,r.2.2) v path) (RR h out full (s++f v)):=
 (hf v hv r.2.1 r.2.2 h1.2.1).mono fun _ hr=>h1.trans hr
theorem zuR {path:List Int} {f:Hv->List UInt8} {l:List Hv} (hf:zuF h path f) (hl:zxl 50 h.length l) (ho:out.length<=4000):Tot (fun n=>zzf n (h,out,full) l path) (RR h out full (zyV f l)):=by
 refine Tot.succ (fun n=>zzf.eq_2 _ _ _ _) ?_
 refine ac (P:=RR h out full (zyV f l)) ?_ fun j hj=>ab hj.pack
 refine ax (fun st=>∃ i:Nat,st.1=(i:Int)∧i<=l.length∧RR h out full (zyV f (l.take i)) st.2) (fun st=>l.length-st.1.toNat) ⟨0,rfl,om,RR.refl ho⟩ fun st ⟨i,e,hi,hr⟩=>?_
 obtain ⟨j,st⟩:=st
 simp only at e hr
 subst e
 have hl2:=hl.2
 refine ac (P:=(· =(decide (i<l.length)&& !st.2.2))) ?_ fun b hb=>?_
 ·refine ai (fun hc=>ab ?_) fun hc=>ab ?_
  ·have hc:(i:Int)<l.length:=odt hc
   rw[dtt (show i<l.length by omega)];rfl
  ·have hc:¬ (i:Int)<l.length:=odf hc
   rw[dff (show ¬ i<l.length by omega)];rfl
 ·subst hb
  refine ai (fun hc=>?_) fun hc=>?_
  ·have a:i<l.length:=odt ((ar _ _).mp hc).1
   refine ac (P:=RR h out full (zyV f (l.take i)++(if i=0 then [] else [44,32]))) ?_ fun m hm=>?_
   ·refine ai (fun h0=>?_) fun h0=>?_
    ·have h0:(i:Int)>0:=odt h0
     rw[if_neg (show i≠0 by omega)]
     exact ac (zwE (t:=[44,32]) hr (by simp)) fun z hz=>ab hz.pack
    ·have h0:¬ (i:Int)>0:=odf h0
     rw[if_pos (show i=0 by omega),aw]
     exact ab hr.pack
   ·refine ae (idx_nat a) (ac (hf.on (hl.1 _ (ah a)) hm) fun z hz=>ab ?_)
    rw[iw (n:=i+1) om om]
    refine ⟨⟨i+1,rfl,om,?_⟩,by dsimp only;omega⟩
    rw[zwi f a]
    exact hz.pack
  ·refine ab ?_
   rcases (Bool.and_eq_false_iff).1 hc with hc | hc
   ·have:i=l.length:=by have:¬ i<l.length:=odf hc;omega
    subst this
    rw[al]at hr
    exact hr.pack
   ·exact (hr.stop (by simpa using hc) (zyD f l i)).pack
def zsl (k:Int):List UInt8:=if k=1 then [40] else if k=2 then [91] else if k=5 then [114,97,110,103,101,40] else [123]
def zuA (k:Int):List UInt8:=if k=1 then [41] else if k=2 then [93] else if k=5 then [41] else [125]
def zs3 (f:Hv->List UInt8) (o:Ho):List UInt8:=
 if o.1=3 then zyV (fun p:Hv × Hv=>f p.1++([58,32]++f p.2)) (o.2.2.2.2.2.2.2.1.zip o.2.2.2.2.2.2.1) else if o.1=4 then zyV f o.2.2.2.2.2.2.2.1 else zyV f o.2.2.2.2.2.2.1
theorem zqK (f:Hv->List UInt8) {o:Ho} (hk:o.1=1∨o.1=2∨o.1=3∨o.1=4∨o.1=5) (h4:¬ (o.1=4∧o.2.2.2.2.2.2.2.1.length=0)):
 zvT f o=zsl o.1++zs3 f o++(if o.1=1∧o.2.2.2.2.2.2.1.length=1 then [44] else [])++zuA o.1:=by
 unfold zvT zsl zs3 zuA
 rcases hk with hk | hk | hk | hk | hk
 ·simp[hk]
 ·simp[hk]
 ·simp[hk]
 ·have:o.2.2.2.2.2.2.2.1.length≠0:=fun e=>h4 ⟨hk,e⟩
  simp[hk,this]
 ·simp[hk]
end
section
variable {h:List Ho} {out:List UInt8} {full:Bool} {b:Nat}
theorem zqc (w:zxi b h) {f:Hv->List UInt8} {path:List Int} {ref:Int} {o:Ho} (hp:path.length<=10000) (e1:idx h ref=some o) (hob:zsS 50 h.length o)
 (hf:path.contains ref=false->o.1≠10->zuF h (path++[ref]) f) (ho:out.length<=4000):
 Tot (fun n=>zzm n (h,out,full) ref path) (RR h out full (if o.1=10 then [60,84,104,105,110,103,62] else if path.contains ref then again o.1 else zvT f o)):=by
 refine Tot.succ (fun n=>zzm.eq_2 _ _ _ _) ?_
 refine ae e1 ?_
 by_cases k:o.1=10
 ·rw[if_pos k]
  have n1:o.1≠1:=by omega
  have n2:o.1≠2:=by omega
  have n3:o.1≠3:=by omega
  have n4:o.1≠4:=by omega
  have n5:o.1≠5:=by omega
  have hc:o.2.2.1=49:=by
   rcases hob with h | h | h | h
   ·omega
   ·omega
   ·omega
   ·exact h.2
  refine ac (P:=fun q=>∃ z,q=Sum.inr z∧RR h out full [60,84,104,105,110,103,62] z) ?_ fun q ⟨z,hz,hr⟩=>by subst hz;exact aq hr
  refine ad (kf n1) (ad (kf n2) (ad (kf n5) (ac (P:=(· =false)) (ad (kf n3) (ab (kf n4))) fun j hj=>?_)))
  subst hj
  refine ad rfl (af (kt k) (ae (a:=zrl) (by rw[hc];exact ztc w) ?_))
  refine ae (zyi (l:=[60]) (m:=[84,104,105,110,103]) ddc) (ae (zyi (l:=[60,84,104,105,110,103]) (m:=[62]) ddc) ?_)
  exact ac (zz3 (s:=[60,84,104,105,110,103,62]) ho (by simp)) fun z hz=>ab ⟨_,rfl,hz.pack⟩
 rw[if_neg k]
 have hk:o.1=1∨o.1=2∨o.1=3∨o.1=4∨o.1=5:=by
  rcases hob with h | h | h | h
  ·omega
  ·omega
  ·omega
  ·exact absurd h.1 k
 refine ac (P:=(· =Sum.inl (strOf (zsl o.1),strOf (zuA o.1),strOf (again o.1),(h,out,full)))) ?_ fun q hq=>?_
 ·unfold zsl zuA again
  by_cases n1:o.1=1
  ·rw[if_pos n1,if_pos n1,if_pos n1];exact af (kt n1) (ab rfl)
  rw[if_neg n1,if_neg n1,if_neg n1]
  refine ad (kf n1) ?_
  by_cases n2:o.1=2
  ·rw[if_pos n2,if_pos n2,if_pos n2];exact af (kt n2) (ab rfl)
  rw[if_neg n2,if_neg n2,if_neg n2]
  refine ad (kf n2) ?_
  by_cases n5:o.1=5
  ·rw[if_pos n5,if_pos n5];exact af (kt n5) (ab rfl)
  rw[if_neg n5,if_neg n5]
  refine ad (kf n5) (ac (P:=(· =true)) ?_ fun j hj=>?_)
  ·by_cases n3:o.1=3
   ·exact af (kt n3) (ab (kt n3))
   ·exact ad (kf n3) (ab (kt om))
  ·subst hj;exact af rfl (ab rfl)
 subst hq
 refine av ?_
 dsimp only
 refine ac (P:=fun q=>match q with | .inl s=>path.contains ref=false∧s=(h,out,full) | .inr z=>path.contains ref=true∧RR h out full (again o.1) z) ?_ fun q hq=>?_
 ·refine ax (fun st=>∃ i:Nat,st.1=(i:Int)∧i<=path.length∧st.2=(h,out,full)∧ref∉path.take i) (fun st=>path.length-st.1.toNat) ⟨0,rfl,om,rfl,by simp⟩ fun st ⟨i,e,hi,e2,hx⟩=>?_
  obtain ⟨j,st⟩:=st
  simp only at e e2
  subst e;subst e2
  refine ai (fun hc=>?_) fun hc=>?_
  ·have hc:(i:Int)<path.length:=odt hc
   have d:i<path.length:=by omega
   refine ae (idx_nat d) (ai (fun he=>?_) fun he=>ab ?_)
   ·have he:path[i]=ref:=by simpa using he
    refine ac (zz3 (s:=again o.1) ho (by rw[zuS];decide)) fun z hz=>ab ⟨?_,hz.pack⟩
    rw[am,<- he];exact ah d
   ·have he:path[i]≠ref:=by simpa using he
    dsimp only
    rw[iw (n:=i+1) om om]
    refine ⟨⟨i+1,rfl,om,rfl,?_⟩,om⟩
    rw[ao d,List.mem_append,List.mem_singleton]
    exact fun h=>h.elim hx fun e=>he e.symm
  ·have hc:¬ (i:Int)<path.length:=odf hc
   have:i=path.length:=by omega
   subst this
   rw[al]at hx
   refine ab ⟨?_,rfl⟩
   rw[<- Bool.not_eq_true,am];exact hx
 cases q with
 | inr z=>
   obtain ⟨hc,hz⟩:=hq
   rw[if_pos hc]
   exact aq hz
 | inl s=>
   obtain ⟨az,rfl⟩:=hq
   rw[if_neg (show ¬ (path.contains ref=true) by rw[az];decide)]
   have hf:=hf az k
   refine av (ae (zzt (by simp only[aj];omega)) (ae (zzt (by simp only[List.nil_append,ak,aj];omega)) ?_))
   rw[List.nil_append]
   refine ac (P:=(· =decide (o.1=4∧o.2.2.2.2.2.2.2.1.length=0))) ?_ fun j hj=>?_
   ·refine ai (fun h4=>ab ?_) fun h4=>ab ?_
    ·have h4:o.1=4:=by simpa using h4
     rw[au];simp[h4]
    ·have h4:o.1≠4:=by simpa using h4
     rw[dff (fun h=>h4 h.1)]
   subst hj
   by_cases h4:o.1=4∧o.2.2.2.2.2.2.2.1.length=0
   ·have e:zvT f o=[115,101,116,40,41]:=by unfold zvT;simp[h4.1,h4.2]
    rw[e]
    exact af (dtt h4) (ac (zz3 (s:=[115,101,116,40,41]) ho (by simp)) fun z hz=>ab hz.pack)
   refine ad (dff h4) ?_
   rw[zqK f hk h4]
   have a0:(zsl o.1).length<=1000000∧(zuA o.1).length<=1000000:=by
    unfold zsl zuA
    constructor<;>(repeat' split)<;>decide
   refine ac (zz3 (s:=zsl o.1) ho a0.1) fun r1 an=>?_
   refine ac (P:=RR h out full (zsl o.1++zs3 f o)) ?_ fun r2 a3=>?_
   ·unfold zs3
    by_cases n3:o.1=3
    ·rw[if_pos n3]
     have hd:zxl 50 h.length o.2.2.2.2.2.2.1∧zxl 50 h.length o.2.2.2.2.2.2.2.1∧o.2.2.2.2.2.2.1.length=o.2.2.2.2.2.2.2.1.length:=by
      rcases hob with h | h | h | h
      ·omega
      ·exact h.2
      ·omega
      ·omega
     obtain ⟨hi,ay,he⟩:=hd
     generalize hg:(fun p:Hv × Hv=>f p.1++([58,32]++f p.2))=g
     generalize hK:o.2.2.2.2.2.2.2.1=K at*
     generalize hI:o.2.2.2.2.2.2.1=I at*
     have a6:(K.zip I).length=K.length:=by rw[List.length_zip,he,Nat.min_self]
     refine af (kt n3) (ac (P:=RR h out full (zsl o.1++zyV g (K.zip I))) ?_ fun z hz=>ab hz.pack)
     refine ax (fun st=>∃ i:Nat,st.1=(i:Int)∧i<=K.length∧RR h out full (zsl o.1++zyV g ((K.zip I).take i)) st.2) (fun st=>K.length-st.1.toNat) ⟨0,rfl,om,by simp only[List.take_zero,zyV,aw];exact an.pack⟩ fun st ⟨i,e,hii,hr⟩=>?_
     obtain ⟨j,st⟩:=st
     simp only at e hr
     subst e
     have hl2:=ay.2
     refine ac (P:=(· =(decide (i<K.length)&& !st.2.2))) ?_ fun c hc=>?_
     ·refine ai (fun hc=>ab ?_) fun hc=>ab ?_
      ·have hc:(i:Int)<K.length:=odt hc
       rw[dtt (show i<K.length by omega)];rfl
      ·have hc:¬ (i:Int)<K.length:=odf hc
       rw[dff (show ¬ i<K.length by omega)];rfl
     subst hc
     refine ai (fun hc=>?_) fun hc=>?_
     ·have d:i<K.length:=odt ((ar _ _).mp hc).1
      have a2:i<I.length:=by omega
      have hz:i<(K.zip I).length:=by omega
      have a1:=zwi g hz
      have a5:g (K.zip I)[i]=f K[i]++([58,32]++f I[i]):=by rw[<- hg,List.getElem_zip]
      rw[a5]at a1
      refine ac (P:=RR h out full (zsl o.1++zyV g ((K.zip I).take i)++(if i=0 then [] else [44,32]))) ?_ fun m hm=>?_
      ·refine ai (fun h0=>?_) fun h0=>?_
       ·have h0:(i:Int)>0:=odt h0
        rw[if_neg (show i≠0 by omega)]
        exact ac (zwE (t:=[44,32]) hr (by simp)) fun z hz=>ab hz.pack
       ·have h0:¬ (i:Int)>0:=odf h0
        rw[if_pos (show i=0 by omega),aw]
        exact ab hr.pack
      ·refine ae (idx_nat d) (ac (hf.on (ay.1 _ (ah d)) hm) fun y hy=>?_)
       refine ac (zwE (t:=[58,32]) hy (by simp)) fun x hx=>?_
       refine ae (idx_nat a2) (ac (hf.on (hi.1 _ (ah a2)) hx) fun u hu=>ab ?_)
       dsimp only
       rw[iw (n:=i+1) om om]
       refine ⟨⟨i+1,rfl,om,?_⟩,om⟩
       rw[a1]
       have:=hu.pack
       simp only[ag]at this ⊢
       exact this
     ·refine ab ?_
      rcases (Bool.and_eq_false_iff).1 hc with hc | hc
      ·have:i=K.length:=by have:¬ i<K.length:=odf hc;omega
       subst this
       have a4:(K.zip I).take K.length=K.zip I:=by rw[<- a6,al]
       rw[a4]at hr
       exact hr.pack
      ·have:=zyD g (K.zip I) i
       exact (hr.stop (by simpa using hc) (by simp only[aa];omega)).pack
    ·rw[if_neg n3]
     refine ad (kf n3) ?_
     by_cases n4:o.1=4
     ·rw[if_pos n4]
      have ay:zxl 50 h.length o.2.2.2.2.2.2.2.1:=by
       rcases hob with h | h | h | h
       ·omega
       ·omega
       ·exact h.2
       ·omega
      exact af (kt n4) (ac (zuR (out:=r1.2.1) (full:=r1.2.2) hf ay an.2.1) fun z hz=>ab (an.trans hz).pack)
     ·rw[if_neg n4]
      have hi:zxl 50 h.length o.2.2.2.2.2.2.1:=by
       rcases hob with h | h | h | h
       ·exact h.2
       ·omega
       ·omega
       ·omega
      exact ad (kf n4) (ac (zuR (out:=r1.2.1) (full:=r1.2.2) hf hi an.2.1) fun z hz=>ab (an.trans hz).pack)
   ·refine ac (P:=(· =decide (o.1=1∧o.2.2.2.2.2.2.1.length=1))) ?_ fun j hj=>?_
    ·refine ai (fun h1=>ab ?_) fun h1=>ab ?_
     ·have h1:o.1=1:=by simpa using h1
      rw[au];simp[h1];omega
     ·have h1:o.1≠1:=by simpa using h1
      rw[dff (fun h=>h1 h.1)]
    subst hj
    refine ac (P:=RR h out full (zsl o.1++zs3 f o++(if o.1=1∧o.2.2.2.2.2.2.1.length=1 then [44] else []))) ?_ fun r3 a7=>?_
    ·by_cases hc:o.1=1∧o.2.2.2.2.2.2.1.length=1
     ·rw[if_pos hc]
      exact af (dtt hc) (ac (zwE (t:=[44]) a3 (by simp)) fun z hz=>ab hz.pack)
     ·rw[if_neg hc,aw]
      exact ad (dff hc) (ab a3.pack)
    ·exact ac (zwE (t:=zuA o.1) a7 a0.2) fun z hz=>ab hz.pack
theorem zrr (w:zxi b h) {rec:List Int->Hv->List UInt8} {path:List Int} (hp:path.length<=10000)
 (hrec:∀ r:Int,0<=r->r<h.length->path.contains r=false->zuF h (path++[r]) (rec (path++[r]))):zuF h path (zpB h rec path):=by
 intro v hv out full ho
 refine Tot.succ (fun n=>zzv.eq_2 _ _ _ _) ?_
 refine ac (P:=RR h out full (zpB h rec path v)) ?_ fun q hq=>ab hq.pack
 unfold zpB
 by_cases h6:v.1=6
 ·rw[if_neg (by simpa using h6)]
  have hr:50<=v.2.2.2.2∧v.2.2.2.2<h.length:=by
   refine hv.cases ?_ ?_ ?_ ?_ ?_ ?_ ?_ (fun _ h1 h2=>⟨h1,h2⟩)<;>intros<;>omega
  obtain ⟨o,e1,e2,_⟩:=ztT (xs:=h) (i:=v.2.2.2.2) om hr.2
  rw[e2]
  have f:=w.1.2.2 _ o om e2
  have n0:v.1≠0:=by omega
  have n1:v.1≠1:=by omega
  have n2:v.1≠2:=by omega
  have n3:v.1≠3:=by omega
  have n4:v.1≠4:=by omega
  have n5:v.1≠5:=by omega
  have n7:v.1≠7:=by omega
  have n8:v.1≠8:=by omega
  have n9:v.1≠9:=by omega
  refine ad (kf n0) (ad (kf n1) (ad (kf n2) (ad (kf n3) (ad (kf n4) (ad (kf n5) (ad (kf n8) (ad (kf n7) (ad (kf n9) ?_))))))))
  exact ac (zqc w hp e1 f (fun hc _=>hrec _ om hr.2 hc) ho) fun z hz=>ab hz.pack
 ·rw[if_pos h6]
  refine hv.cases (fun h=>?_) (fun h hb=>?_) (fun h ha=>?_) (fun h ha hb=>?_) (fun h hs=>?_) (fun h hs=>?_) (fun h=>?_) (fun h=>absurd h h6)
  ·rw[show atx v=[110,105,108] by unfold atx;simp[h]]
   exact af (kt h) (ac (zz3 (s:=[110,105,108]) ho (by simp)) fun z hz=>ab hz.pack)
  ·rw[show atx v=if v.2.2.2.2=1 then [116,114,117,101] else [102,97,108,115,101] by unfold atx;simp[h]]
   have h0:v.1≠0:=by omega
   refine ad (kf h0) (af (kt h) ?_)
   rcases hb with hr | hr
   ·rw[hr]
    rw[if_neg ddc]
    exact ae (a:=strOf [102,97,108,115,101]) rfl (ac (zz3 (s:=[102,97,108,115,101]) ho (by simp)) fun z hz=>ab hz.pack)
   ·rw[hr]
    rw[if_pos rfl]
    exact ae (a:=strOf [116,114,117,101]) rfl (ac (zz3 (s:=[116,114,117,101]) ho (by simp)) fun z hz=>ab hz.pack)
  ·have d:(num v.2.1).length<=30000:=by obtain ⟨_,⟨_,h2⟩,_⟩:=zyQ ha;exact h2
   rw[show atx v=num v.2.1 by unfold atx;simp[h]]
   have h0:v.1≠0:=by omega
   have h1:v.1≠1:=by omega
   refine ad (kf h0) (ad (kf h1) (af (kt h) (ac (zxe (a:=v.2.1) ha) fun r hr=>?_)))
   subst hr
   exact ac (zz3 (s:=num v.2.1) ho om) fun z hz=>ab hz.pack
  ·have d:(num v.2.1).length<=30000:=by obtain ⟨_,⟨_,h2⟩,_⟩:=zyQ ha;exact h2
   have g:(num v.2.2.1).length<=30000:=by obtain ⟨_,⟨_,h2⟩,_⟩:=zyQ hb;exact h2
   rw[show atx v=num v.2.1++[47]++num v.2.2.1 by unfold atx;simp[h]]
   have h0:v.1≠0:=by omega
   have h1:v.1≠1:=by omega
   have h2:v.1≠2:=by omega
   refine ad (kf h0) (ad (kf h1) (ad (kf h2) (af (kt h) (ac (zxe (a:=v.2.1) ha) fun r hr=>?_))))
   subst hr
   refine ae (zyi (by simp only[ak,aj];omega)) (ac (zxe (a:=v.2.2.1) hb) fun s hs=>?_)
   subst hs
   refine ae (zyi (by simp only[aa,ak,aj];omega)) ?_
   exact ac (zz3 (s:=num v.2.1++[47]++num v.2.2.1) ho (by simp only[aa,ak,aj];omega)) fun z hz=>ab hz.pack
  ·rw[show atx v=lit [] (bytesOf v.2.2.2.1) true by unfold atx;simp[h]]
   have hl:(bytesOf v.2.2.2.1).length<=100:=by rw[<- zzP];exact hs
   have h0:v.1≠0:=by omega
   have h1:v.1≠1:=by omega
   have h2:v.1≠2:=by omega
   have h3:v.1≠3:=by omega
   have e:=zvK (l:=bytesOf v.2.2.2.1) true om
   rw[zya]at e
   have c:=zwe (pre:=[]) (wide:=true) hs (by simp)
   refine ad (kf h0) (ad (kf h1) (ad (kf h2) (ad (kf h3) (af (kt h) (ac e fun r hr=>?_)))))
   subst hr
   exact ac (zz3 (s:=lit [] (bytesOf v.2.2.2.1) true) ho om) fun z hz=>ab hz.pack
  ·rw[show atx v=lit [98] (bytesOf v.2.2.2.1) false by unfold atx;simp[h]]
   have hl:(bytesOf v.2.2.2.1).length<=100:=by rw[<- zzP];exact hs
   have h0:v.1≠0:=by omega
   have h1:v.1≠1:=by omega
   have h2:v.1≠2:=by omega
   have h3:v.1≠3:=by omega
   have h4:v.1≠4:=by omega
   have e:=zvK (l:=bytesOf v.2.2.2.1) false om
   rw[zya]at e
   have c:=zwe (pre:=[98]) (wide:=false) hs (by simp)
   rw[lit_b]at c ⊢
   refine ad (kf h0) (ad (kf h1) (ad (kf h2) (ad (kf h3) (ad (kf h4) (af (kt h) (ac e fun r hr=>?_))))))
   subst hr
   refine ae (zyi (l:=[98]) (by simp only[aa]at c ⊢;omega)) ?_
   exact ac (zz3 (s:=[98]++lit [] (bytesOf v.2.2.2.1) false) ho om) fun z hz=>ab hz.pack
  ·rw[show atx v=[112,97,115,115,95] by unfold atx;simp[h]]
   have h0:v.1≠0:=by omega
   have h1:v.1≠1:=by omega
   have h2:v.1≠2:=by omega
   have h3:v.1≠3:=by omega
   have h4:v.1≠4:=by omega
   have h5:v.1≠5:=by omega
   exact ad (kf h0) (ad (kf h1) (ad (kf h2) (ad (kf h3) (ad (kf h4) (ad (kf h5) (af (kt h) (ac (zz3 (s:=[112,97,115,115,95]) ho (by simp)) fun z hz=>ab hz.pack)))))))
theorem zsA (w:zxi b h):∀ (k:Nat) (path:List Int),path.length+k<=10000->room h.length path<=k->zuF h path (txt h k path)
 | 0,path,hl,hr=>zrr w om fun r h0 h1 hc=>absurd (zvs h0 h1 hc) om
 | k+1,path,hl,hr=>zrr w om fun r h0 h1 hc=>zsA w k (path++[r]) (by simp only[aa,ap];omega) (by have:=zvs h0 h1 hc;omega)
end
def zra (h:List Ho) (v:Hv):Prop:=zxv 50 h.length v∨(v.1=6∧0<=v.2.2.2.2∧v.2.2.2.2<50)
noncomputable def zp7 (h:List Ho) (v:Hv):List UInt8:=if v.1=6∧v.2.2.2.2<50 then [60,99,108,97,115,115,62] else txt h 1000 [] v
theorem zsT:base.all (fun o=>o.1==9)=true:=by kernel_rfl
theorem zrC:(base[1]?).map (fun o=>o.2.1)=some (strOf [99,108,97,115,115]):=by kernel_rfl
theorem zse:(List.range 49).all (fun i=>decide (((cls[i]?).map fun o=>bytesOf o.2.1)=some [99,108,97,115,115])==decide (i=1))=true:=by kernel_rfl
theorem zsK {b:Nat} {h:List Ho} (w:zxi b h) {r:Int} (h0:0<=r) (h1:r<50):∃ o,idx h r=some o∧o.1=9:=by
 have hl:=w.1.1
 obtain ⟨o,e1,e2,_⟩:=ztT (xs:=h) (i:=r) h0 om
 refine ⟨o,e1,?_⟩
 rw[zv8 w om]at e2
 exact beq_iff_eq.1 (List.all_eq_true.1 zsT o (List.mem_of_getElem? e2))
theorem zs1 {b:Nat} {h:List Ho} (w:zxi b h):∃ o,idx h 1=some o∧o.2.1=strOf [99,108,97,115,115]:=by
 have e:=zv8 w (i:=1) ddc
 have e1:=zrC
 rw[<- e]at e1
 obtain ⟨o,e2,e3⟩:=Option.map_eq_some_iff.1 e1
 exact ⟨o,by unfold idx;rw[if_pos ddc];exact e2,e3⟩
theorem zrc (i:Nat):Tot (fun n=>zzD n i) (fun r=>(r=strOf [99,108,97,115,115]↔i=1)):=by
 unfold zzD
 refine ac (Tot.of_all (Q:=(· =cls)) 100 zq6 rfl) fun r hr=>?_
 subst hr
 refine ai (fun hc=>?_) fun hc=>?_
 ·have hc:(i:Int)<cls.length:=odt hc
  have a:i<cls.length:=by omega
  rw[zxU]at hc
  refine ae (idx_nat a) (ab ?_)
  have hn:=beq_iff_eq.1 (List.all_eq_true.1 zse i (List.mem_range.2 om))
  rw[List.getElem?_eq_getElem a,decide_eq_decide]at hn
  rw[<- hn]
  constructor
  ·intro e
   show some (bytesOf (cls[i]).2.1)=_
   rw[e];rfl
  ·intro e
   have e:bytesOf (cls[i]).2.1=[99,108,97,115,115]:=Option.some.inj e
   rw[<- zya ((cls[i]).2.1),e]
 ·have hc:¬ (i:Int)<cls.length:=odf hc
  rw[zxU]at hc
  refine ab ⟨fun e=>?_,fun e=>by omega⟩
  have:=congrArg bytesOf e
  rw[zzd,zzd]at this
  exact absurd this ddc
section
variable {h:List Ho} {b:Nat} {v:Hv}
theorem zrn (n:Nat):room n []<=n:=by
 unfold room
 exact Nat.le_trans (List.length_filter_le _ _) (by rw[List.length_range];exact Nat.le_refl _)
theorem zqD (w:zxi b h) (hv:zra h v):Tot (fun n=>zzw n (h,[],[]) v) (· =pr h [] [] (zp7 h v)):=by
 unfold zp7
 by_cases hc:v.1=6∧v.2.2.2.2<50
 ·rw[if_pos hc]
  obtain ⟨h6,d⟩:=hc
  have h0:0<=v.2.2.2.2:=by
   rcases hv with hv | hv
   ·refine hv.cases ?_ ?_ ?_ ?_ ?_ ?_ ?_ ?_<;>intros<;>omega
   ·exact hv.2.1
  obtain ⟨o,e1,h9⟩:=zsK w h0 d
  obtain ⟨c,e2,e3⟩:=zs1 w
  refine Tot.succ (fun n=>zzw.eq_2 _ _ _) ?_
  have n1:o.1≠1:=by omega
  have n2:o.1≠2:=by omega
  have n3:o.1≠3:=by omega
  have n4:o.1≠4:=by omega
  have n5:o.1≠5:=by omega
  have e:o.1≠10:=by omega
  have n0:o.1≠0:=by omega
  refine ad (by rw[h6];rfl) (ae e1 (ac (P:=(· =false)) (ad (kf n1) (ad (kf n2) (ad (kf n3) (ad (kf n4) (ab (kf n5)))))) fun j hj=>?_))
  subst hj
  refine ac (P:=Res h [] [] [60,99,108,97,115,115,62]) ?_ fun q hq=>hq.fin
  refine ad rfl (ad (kf e) (ad (kf n0) (ac (Tot.all fun k=>rfl) fun l hl=>?_)))
  subst hl
  rw[h9]
  refine ae (a:=1) ddc (ae e2 ?_)
  rw[e3]
  refine ae (zyi (l:=[60]) (m:=[99,108,97,115,115]) ddc) (ae (zyi (l:=[60,99,108,97,115,115]) (m:=[62]) ddc) ?_)
  exact Tot.seq (zzY (s:=[60,99,108,97,115,115,62]) (by simp) (by simp)) (fun h1=>ab ⟨h1,rfl⟩) fun h1=>ab ⟨rfl,h1⟩
 ·rw[if_neg hc]
  have hv:zxv 50 h.length v:=by
   rcases hv with hv | hv
   ·exact hv
   ·exact absurd ⟨hv.1,hv.2.2⟩ hc
  exact ztR w 1000 [] (by simp) (Nat.le_trans (zrn _) w.1.2.1) v hv [] (by simp)
theorem zp5 (w:zxi b h) (hv:zra h v):Tot (fun n=>zzv n (h,[],false) v []) (RR h [] false (zp7 h v)):=by
 unfold zp7
 by_cases hc:v.1=6∧v.2.2.2.2<50
 ·rw[if_pos hc]
  obtain ⟨h6,g⟩:=hc
  have h0:0<=v.2.2.2.2:=by
   rcases hv with hv | hv
   ·refine hv.cases ?_ ?_ ?_ ?_ ?_ ?_ ?_ ?_<;>intros<;>omega
   ·exact hv.2.1
  obtain ⟨o,e1,h9⟩:=zsK w h0 g
  obtain ⟨c,e2,e3⟩:=zs1 w
  have x:=w.1.1
  have f:=w.1.2.1
  refine Tot.succ (fun n=>zzv.eq_2 _ _ _ _) ?_
  refine ac (P:=RR h [] false [60,99,108,97,115,115,62]) ?_ fun q hq=>ab hq.pack
  have m0:v.1≠0:=by omega
  have m1:v.1≠1:=by omega
  have m2:v.1≠2:=by omega
  have m3:v.1≠3:=by omega
  have m4:v.1≠4:=by omega
  have m5:v.1≠5:=by omega
  have m7:v.1≠7:=by omega
  have m8:v.1≠8:=by omega
  have m9:v.1≠9:=by omega
  refine ad (kf m0) (ad (kf m1) (ad (kf m2) (ad (kf m3) (ad (kf m4) (ad (kf m5) (ad (kf m8) (ad (kf m7) (ad (kf m9) ?_))))))))
  refine ac (P:=RR h [] false [60,99,108,97,115,115,62]) ?_ fun q hq=>ab hq.pack
  refine Tot.succ (fun n=>zzm.eq_2 _ _ _ _) ?_
  have n1:o.1≠1:=by omega
  have n2:o.1≠2:=by omega
  have n3:o.1≠3:=by omega
  have n4:o.1≠4:=by omega
  have n5:o.1≠5:=by omega
  have p:o.1≠10:=by omega
  have n0:o.1≠0:=by omega
  refine ae e1 (ac (P:=fun q=>∃ z,q=Sum.inr z∧RR h [] false [60,99,108,97,115,115,62] z) ?_ fun q ⟨z,hz,hr⟩=>by subst hz;exact aq hr)
  refine ad (kf n1) (ad (kf n2) (ad (kf n5) (ac (P:=(· =false)) (ad (kf n3) (ab (kf n4))) fun j hj=>?_)))
  subst hj
  refine ad rfl (ad (kf p) (ad (kf n0) (ac (P:=RR h [] false [60,99,108,97,115,115,62]) ?_ fun q hq=>ab ⟨_,rfl,hq.pack⟩)))
  refine ax (fun st=>∃ i:Nat,st.1=(i:Int)∧i<=h.length∧RR h [] false (if i<=1 then [] else [60,99,108,97,115,115,62]) st.2) (fun st=>h.length-st.1.toNat) ⟨0,rfl,om,RR.refl (by simp)⟩ fun st ⟨i,e,hi,hr⟩=>?_
  obtain ⟨j,st⟩:=st
  simp only at e hr
  subst e
  refine ai (fun hc=>?_) fun hc=>?_
  ·have hc:(i:Int)<h.length:=odt hc
   have hlt:i<h.length:=by omega
   rw[h9]
   refine ae (a:=strOf [99,108,97,115,115]) rfl (ac (zrc i) fun m hm=>?_)
   refine ac (P:=RR h [] false (if i+1<=1 then [] else [60,99,108,97,115,115,62])) ?_ fun z hz=>ab ?_
   ·rw[ztO]
    by_cases d:i=1
    ·have u:=hm.2 d
     subst u
     subst d
     refine af (dtt rfl) (ae (a:=c) e2 ?_)
     rw[e3]
     refine ae (zyi (l:=[60]) (m:=[99,108,97,115,115]) ddc) (ae (zyi (l:=[60,99,108,97,115,115]) (m:=[62]) ddc) ?_)
     exact ac (zwE (t:=[60,99,108,97,115,115,62]) hr (by simp)) fun z hz=>ab hz.pack
    ·refine ad (dff fun e=>d (hm.1 e)) (ab ?_)
     by_cases k:i=0
     ·subst k;exact hr.pack
     ·rw[if_neg (show ¬ i<=1 by omega)]at hr
      rw[if_neg (show ¬ i+1<=1 by omega)]
      exact hr.pack
   ·rw[iw (n:=i+1) om om]
    exact ⟨⟨i+1,rfl,om,hz.pack⟩,by dsimp only;omega⟩
  ·have hc:¬ (i:Int)<h.length:=odf hc
   rw[if_neg (show ¬ i<=1 by omega)]at hr
   exact ab hr.pack
 ·rw[if_neg hc]
  have hv:zxv 50 h.length v:=by
   rcases hv with hv | hv
   ·exact hv
   ·exact absurd ⟨hv.1,hv.2.2⟩ hc
  exact zsA w 1000 [] (by simp) (Nat.le_trans (zrn _) w.1.2.1) v hv [] false (by simp)
noncomputable def zpx (h:List Ho) (v:Hv):Bool:=decide ((zp7 h v).length<=4000)
theorem zvb (w:zxi b h) (hv:zra h v):Tot (fun n=>zzW n h v) (· =if zpx h v then (strOf (zp7 h v),(0,0)) else (strOf [],(3, -1))):=by
 unfold zzW
 refine Tot.seq (zqD w hv) (fun h1=>?_) fun h1=>?_
 ·have e:zpx h v=true:=dtt (by simpa using h1)
  rw[e,if_pos rfl]
  exact ab rfl
 ·have e:zpx h v=false:=dff (by simpa using h1)
  rw[e,if_neg ddc]
  exact ab rfl
theorem zs4 (w:zxi b h) (hv:zra h v):Tot (fun n=>zxz n h v) (fun r=>r.2=zpx h v∧(zpx h v=true->r.1=strOf (zp7 h v))):=by
 unfold zxz
 refine ac (zp5 w hv) fun r ⟨r1,r2,r3,r4⟩=>ab ?_
 cases hf:r.2.2 with
 | false=>
   obtain ⟨_,e⟩:=r3 hf
   rw[e]at r2 ⊢
   have:zpx h v=true:=dtt (by simpa using r2)
   rw[this]
   exact ⟨rfl,fun _=>by simp⟩
 | true=>
   have:zpx h v=false:=by
    rcases r4 hf with h | h
    ·cases h
    ·exact dff (by simpa using h)
   rw[this]
   exact ⟨rfl,fun e=>by cases e⟩
end
theorem zxi.list {b:Nat} {h:List Ho} {v:Hv} (w:zxi b h) (hv:zxv 50 h.length v) (hb:2<=b) (hl:h.length<1000):zxi b (h++[(2,strOf [],0,[],[],[],[v,v],[],0,0)]):=
 w.snoc (.inl ⟨.inr (.inl rfl),⟨fun u hu=>by
  simp only[List.mem_cons,List.not_mem_nil,or_false,or_self]at hu
  subst hu
  exact hv.mono om,by simp⟩⟩) hb hl
theorem ztA {seeds:List Int} {depth:Int} (h1:∀ x∈seeds, -9223372036854775808<=x∧x<=9223372036854775807) (h2:seeds.length<=1048576):Tot (fun n=>zzT n seeds depth) (· =true):=by
 unfold zzT
 refine ac (zsQ ⟨h1,h2,ddc,om⟩) fun r ⟨w,hl,d,hs⟩=>?_
 obtain ⟨h,fr,s1,p⟩:=r
 simp only at w hl d hs
 subst d
 refine ac (zxh (lo:=50) hs ddc ddc om) fun v ⟨hv,m⟩=>?_
 refine ac (P:=fun j=>zxi 1100 j.1∧j.1.length<=100∧zxv 50 j.1.length j.2) ?_ fun j ⟨w2,l2,v2⟩=>?_
 ·refine ax (fun st=>∃ i:Nat,st.1=(i:Int)∧i<=40∧zxi 1100 st.2.1∧st.2.1.length<=60+i∧zxv 50 st.2.1.length st.2.2) (fun st=>40-st.1.toNat) ⟨0,rfl,om,w,osm,hv⟩ fun st ⟨i,e,hi,w3,l3,v3⟩=>?_
  obtain ⟨j,h3,u⟩:=st
  simp only at e w3 l3 v3
  subst e
  refine ai (fun hc=>?_) fun hc=>ab ⟨w3,osm,v3⟩
  have hc:(i:Int)<40:=odt ((ar _ _).mp hc).2
  refine ae (zzt (by simp only[ak,aj];omega)) (ab ?_)
  have c:(h3++[((2,strOf [],0,[],[],[],[u,u],[],0,0):Ho)]).length=h3.length+1:=by simp
  have w4:=w3.list v3 om om
  have hb:=w3.1.1
  dsimp only
  rw[iw (n:=i+1) om om]
  refine ⟨⟨i+1,rfl,om,w4,by show (h3++_).length<=_;rw[c];omega,?_⟩,om⟩
  refine .inr (.inr (.inr (.inr (.inr (.inr (.inr ⟨rfl,?_,?_⟩))))))
  ·show (50:Int)<=IntKind.i64.wrap (((h3++_).length:Int)-1)
   rw[c,i64_small om om];omega
  ·show IntKind.i64.wrap (((h3++_).length:Int)-1)<((h3++_).length:Int)
   rw[c,i64_small om om];omega
 ·refine ac (zzq m ddc ddc) fun q ⟨q1,q2,q3⟩=>?_
  have hb:=w2.1.1
  refine ac (P:=fun v=>zra j.1 v) ?_ fun y hy=>?_
  ·refine ai (fun _=>?_) fun _=>ab (.inl v2)
   refine ac (zzq q3 om om) fun z ⟨z1,z2,z3⟩=>ab ?_
   by_cases hz:z.1<50
   ·exact .inr ⟨rfl,z1,hz⟩
   ·exact .inl (.inr (.inr (.inr (.inr (.inr (.inr (.inr ⟨rfl,osm,z2⟩)))))))
  ·refine ac (zvb w2 hy) fun a ha=>?_
   refine ac (P:=fun t=>t=if y.1=4 then (y.2.2.2.1,(0,0)) else a) ?_ fun t ht=>?_
   ·unfold zyB
    by_cases h4:y.1=4
    ·rw[if_pos h4];exact af (kt h4) (ab rfl)
    ·rw[if_neg h4]
     refine ad (kf h4) (ac (zvb w2 hy) fun a' l=>ab ?_)
     rw[ha,l]
   ·refine ac (zs4 w2 hy) fun s ⟨s2,s3⟩=>?_
    refine ac zuN fun li an=>?_
    subst an
    refine ad rfl (ac (P:=(· =a)) ?_ fun x hx=>?_)
    ·rw[s2]
     cases hf:zpx j.1 y with
     | true=>
       rw[hf,if_pos rfl]at ha
       exact ad rfl (ab (by rw[ha,s3 hf]))
     | false=>
       rw[hf,if_neg ddc]at ha
       exact af rfl (ac (Tot.all fun k=>rfl) fun f hf=>by subst hf;exact ab ha.symm)
    ·subst hx
     refine ac (P:=(· =false)) ?_ fun bb o=>?_
     ·refine ad (by simp) (ab ?_)
      rw[ztO,dtt rfl];rfl
     ·subst o
      refine ad rfl ?_
      by_cases h4:y.1=4
      ·rw[if_pos h4]at ht
       subst ht
       refine af (kt h4) (ac (P:=(· =true)) (af rfl (ab (by rw[ztO,dtt rfl]))) fun b3 g=>by subst g;exact ab rfl)
      ·rw[if_neg h4]at ht
       subst ht
       refine ad (kf h4) (ac (P:=(· =true)) (af (by simp) (ab (by rw[ztO,dtt rfl]))) fun b3 g=>by subst g;exact ab rfl)
theorem inK64 {n:Int} (h:inK .i64 n): -9223372036854775808<=n∧n<=9223372036854775807:=by
 simp only[inK,Lit.wf,ar,decide_eq_true_eq]at h
 exact h
theorem zrg {α:Type} (l:List α):l.length<=zoq (fun _=>1) l:=by
 unfold zoq
 induction l with
 | nil=>simp
 | cons x l ih=>simp only[List.map_cons,List.sum_cons,ak];omega
theorem DisplayValues_said (seeds:List Int) (depth:Int) (h1:(∀ x∈seeds,inK .i64 x)∧seeds.length<=maxLen) (_:inK .i64 depth) (hb:zoq (fun _=>1) seeds+1<=1048576):Tot (fun n=>zzT n seeds depth) (· =true):=
 ztA (fun x hx=>inK64 (h1.1 x hx)) (by have:=zrg seeds;omega)
end Go.Gv.P
