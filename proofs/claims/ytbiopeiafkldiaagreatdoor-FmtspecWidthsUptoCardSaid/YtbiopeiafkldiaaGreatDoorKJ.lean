import Derived.Test.YtbiopeiafkldiaaGreatDoorKH
set_option linter.all false
namespace Go.Gv.P
open Go Go.Gv Go.Gv.D Go.Gv.R Go.Lib
open Go.Gv.RI (val Dg Nz OkL OkI OkN vb Db IsB noz NDigits_tot DivMod_tot NMul_tot NAdd_tot NCmp_tot Gcd_tot val_big val_bound pow_mono pow_le_left)
set_option maxRecDepth 100000
/-! Own work: which values are valid. -/
abbrev Vl:=Int × (Bool × List Int) × (Bool × List Int) × ByteArray × Int
theorem ivalid_tot {neg:Bool} {l:List Int} (hd:Dg l):Tot (fun n=>integer_Valid n (neg,l)) (fun r=>(r=true↔OkI (neg,l))):=by
 unfold integer_Valid
 refine Tot.bindq (P:=fun j=>(j=true↔OkI (neg,l))) ?_ fun j hj=>Tot.ret hj
 by_cases h128:l.length≤128
 ·refine Tot.it (decide_eq_true (show ((l.length:Nat):Int)≤128 by omega)) ?_
  by_cases h0:l=[]
  ·subst h0
   refine Tot.it rfl ?_
   cases neg with
   | false=>exact Tot.it rfl (Tot.ret ⟨fun _=>⟨⟨fun x hx=>by simp at hx,.inl rfl,by simp⟩,fun _=>rfl⟩,fun _=>rfl⟩)
   | true=>
     refine Tot.if_ rfl (Tot.if_ rfl (Tot.ret ⟨fun h=>(by cases h),fun h=>?_⟩))
     have:=h.2 rfl
     cases this
  ·have hlen:0<l.length:=List.length_pos_iff.2 h0
   obtain ⟨n,hn⟩:∃ n,l.length=n+1:=⟨l.length-1,by omega⟩
   have hlast:l.getLast? =some (l[n]'(by omega)):=by
    rw[List.getLast?_eq_getElem?,show l.length-1=n by omega]
    exact List.getElem?_eq_getElem (by omega)
   have hiff:((l[n]'(by omega)!=0)=true↔OkI (neg,l)):=by
    constructor
    ·intro h
     have h:l[n]'(by omega)≠0:=by simpa using h
     exact ⟨⟨hd,.inr (by rw[hlast];simpa using h),h128⟩,fun e=>absurd e h0⟩
    ·intro h
     rcases h.1.2.1 with h1 | h1
     ·exact absurd h1 h0
     ·have:l.getLast? ≠some 0:=h1
      rw[hlast]at this
      simpa using this
   refine Tot.if_ (by simpa using h0) (Tot.it (decide_eq_true (show ((l.length:Nat):Int)>0 by omega)) ?_)
   have hw:IntKind.i64.wrap (((l.length:Nat):Int)-1)=(n:Int):=iw (by omega) (by omega)
   show Tot (fun _=>Option.bind (idx l (IntKind.i64.wrap (((l.length:Nat):Int)-1))) fun x19=>some (x19 !=0)) _
   rw[hw]
   exact Tot.bind0 (RI.idx_nat (show n<l.length by omega)) (Tot.ret hiff)
 ·refine Tot.if_ (decide_eq_false (show ¬ ((l.length:Nat):Int)≤128 by omega)) (Tot.ret ⟨fun h=>(by cases h),fun h=>absurd h.1.2.2 h128⟩)
def ROk (x y:Bool × List Int):Prop:=OkI x∧OkI y∧y.1=false∧y.2≠[]∧Nat.gcd (val x.2).toNat (val y.2).toNat=1
theorem one_val {l:List Int} (h:OkN l):(l=[1]↔val l=1):=by
 constructor
 ·intro h;subst h;simp[val]
 ·intro hv
  exact RI.norm_inj h.1 (okN_one (x:=1) (by decide)).1 h.2.1 (okN_one (x:=1) (by decide)).2.1 (by rw[hv];simp[val])
theorem is_one_tot {l:List Int}:Tot (fun _=>if ((((List.length l:Nat):Int)==1))=true then (Option.bind (idx l 0) fun x63=>(some ((x63==1)))) else (some (false))) (fun r=>(r=true↔l=[1])):=by
 refine Tot.ite (fun h=>?_) (fun h=>Tot.ret ⟨fun h=>(by cases h),fun e=>?_⟩)
 ·have h:l.length=1:=by
   have:((l.length:Nat):Int)=1:=by simpa using h
   omega
  obtain ⟨x,rfl⟩:=List.length_eq_one_iff.1 h
  refine Tot.bind0 (a:=x) rfl (Tot.ret ?_)
  simp
 ·subst e;cases h
theorem rvalid_tot {x y:Bool × List Int} (hx:Dg x.2) (hy:Dg y.2):Tot (fun n=>rational_Valid n (x,y)) (fun r=>(r=true↔ROk x y)):=by
 obtain ⟨nx,lx⟩:=x
 obtain ⟨ny,ly⟩:=y
 unfold rational_Valid
 refine Tot.bindq (P:=fun j=>(j=false↔(OkI (nx,lx)∧OkI (ny,ly)∧ny=false∧ly≠[]))) ?_ fun j hj=>?_
 ·refine Tot.bindq (ivalid_tot hx) fun r hr=>?_
  refine Tot.ite (fun h=>Tot.ret ?_) (fun h=>?_)
  ·have h:r=false:=by simpa using h
   constructor
   ·intro h;cases h
   ·intro ⟨h1,_⟩;rw[hr.2 h1]at h;cases h
  ·have h:r=true:=by simpa using h
   have h1:=hr.1 h
   refine Tot.bindq (ivalid_tot hy) fun r2 hr2=>?_
   refine Tot.ite (fun h=>Tot.ret ?_) (fun h=>?_)
   ·have h:r2=false:=by simpa using h
    constructor
    ·intro h;cases h
    ·intro ⟨_,h2,_⟩;rw[hr2.2 h2]at h;cases h
   ·have h:r2=true:=by simpa using h
    have h2:=hr2.1 h
    refine Tot.ite (fun h=>Tot.ret ?_) (fun h=>Tot.ret ?_)
    ·constructor
     ·intro h;cases h
     ·intro ⟨_,_,h3,_⟩
      have h:ny=true:=h
      rw[h3]at h;cases h
    ·have h:ny=false:=h
     show ((((ly.length:Nat):Int)==0)=false↔_)
     constructor
     ·intro h3
      refine ⟨h1,h2,h,fun e=>?_⟩
      subst e
      cases h3
     ·intro ⟨_,_,_,h4⟩
      simpa using h4
 ·refine Tot.ite (fun h=>Tot.ret ?_) (fun h=>?_)
  ·constructor
   ·intro h;cases h
   ·intro ⟨h1,h2,h3,h4,_⟩
    rw[hj.2 ⟨h1,h2,h3,h4⟩]at h
    cases h
  ·obtain ⟨h1,h2,h3,h4⟩:=hj.1 h
   refine Tot.bindq (Gcd_tot (okN_of h1.1) (okN_of h2.1)) fun r ⟨r1,r2,r3⟩=>?_
   refine Tot.bindq is_one_tot fun j hj=>Tot.ret ?_
   rw[hj,one_val r2,r3]
   constructor
   ·intro h5
    refine ⟨h1,h2,h3,h4,?_⟩
    have h5:(((Nat.gcd (val lx).toNat (val ly).toNat:Nat)):Int)=1:=h5
    simp only
    omega
   ·intro ⟨_,_,_,_,h5⟩
    have h5:Nat.gcd (val lx).toNat (val ly).toNat=1:=h5
    show (((Nat.gcd (val lx).toNat (val ly).toNat:Nat)):Int)=1
    omega
structure VHyp (v:Vl):Prop where
 num:Dg v.2.1.2
 den:Dg v.2.2.1.2
 txt:v.2.2.2.1.size≤1048576
def VOk (v:Vl):Prop:=(v.1=1∧(v.2.2.2.2=0∨v.2.2.2.2=1))∨(v.1=2∧OkI v.2.1)∨(v.1=3∧ROk v.2.1 v.2.2.1∧v.2.2.1.2≠[1])∨(v.1=4∧R.okS v.2.2.2.1=true)
theorem valid_tot {v:Vl} (hv:VHyp v):Tot (fun n=>fmtspec_valid n v) (fun r=>(r=true↔VOk v)):=by
 unfold fmtspec_valid VOk
 refine Tot.ite (fun h=>?_) (fun h=>?_)
 ·have h:v.1=1:=by simpa using h
  refine Tot.bindq (P:=fun j=>(j=true↔(v.2.2.2.2=0∨v.2.2.2.2=1))) ?_ fun j hj=>Tot.ret ?_
  ·refine Tot.ite (fun h=>Tot.ret ?_) (fun h=>Tot.ret ?_)
   ·have h:v.2.2.2.2=0:=by simpa using h
    simp[h]
   ·have h:v.2.2.2.2≠0:=by simpa using h
    simp[h]
  ·rw[hj];simp[h]
 ·have h1:v.1≠1:=by simpa using h
  refine Tot.ite (fun h=>?_) (fun h=>?_)
  ·have h:v.1=2:=by simpa using h
   refine Tot.bindq (ivalid_tot hv.num) fun r hr=>Tot.ret ?_
   rw[hr];simp[h]
  ·have h2:v.1≠2:=by simpa using h
   refine Tot.ite (fun h=>?_) (fun h=>?_)
   ·have h:v.1=3:=by simpa using h
    refine Tot.bindq (P:=fun j=>(j=true↔(ROk v.2.1 v.2.2.1∧v.2.2.1.2≠[1]))) ?_ fun j hj=>Tot.ret ?_
    ·refine Tot.bindq (rvalid_tot hv.num hv.den) fun r hr=>?_
     refine Tot.ite (fun h=>?_) (fun h=>Tot.ret ?_)
     ·have hr:=hr.1 h
      refine Tot.ite (fun h=>?_) (fun h=>Tot.ret ?_)
      ·have h:v.2.2.1.2.length=1:=by
        have:((v.2.2.1.2.length:Nat):Int)=1:=by simpa using h
        omega
       obtain ⟨x,hx⟩:=List.length_eq_one_iff.1 h
       rw[hx]
       refine Tot.bind0 (a:=x) rfl (Tot.ret ?_)
       simp
       intro _
       exact hr
      ·constructor
       ·intro _
        refine ⟨hr,fun e=>?_⟩
        rw[e]at h;cases h
       ·intro _;rfl
     ·constructor
      ·intro h;cases h
      ·intro ⟨h1,_⟩;rw[hr.2 h1]at h;cases h
    ·rw[hj];simp[h]
   ·have h3:v.1≠3:=by simpa using h
    refine Tot.bindq (P:=fun j=>(j=true↔(v.1=4∧R.okS v.2.2.2.1=true))) ?_ fun j hj=>Tot.ret (by rw[hj];simp[h1,h2,h3])
    refine Tot.ite (fun h=>?_) (fun h=>Tot.ret ?_)
    ·have h:v.1=4:=by simpa using h
     have htx:=hv.txt
     refine Tot.bindq (ValidString_tot (by omega)) fun r hr=>?_
     subst hr
     unfold R.okS
     refine Tot.ite (fun h2=>?_) (fun h2=>Tot.ret ?_)
     ·refine Tot.some_bind (Tot.ret ?_)
      rw[h2]
      simp[h]
      omega
     ·rw[h2];simp
    ·have h:v.1≠4:=by simpa using h
     simp[h]
end Go.Gv.P
namespace Go.Gv.P
open Go Go.Gv Go.Gv.D Go.Gv.R Go.Lib
open Go.Gv.RI (val Dg Nz OkL OkI OkN vb Db IsB noz NDigits_tot DivMod_tot NMul_tot NAdd_tot NCmp_tot Gcd_tot val_big val_bound pow_mono pow_le_left)
set_option maxRecDepth 100000
/-! Own work: what Format gives. -/
open Classical in
noncomputable def pts (t:ByteArray):List Nat:=if h:R.okS t=true then Classical.choose (okS_text h) else []
theorem pts_spec {t:ByteArray} (h:R.okS t=true):(∀ r∈pts t,Scal r)∧t=strOf (enc (pts t))∧(enc (pts t)).length≤4000:=by
 unfold pts
 rw[dif_pos h]
 exact Classical.choose_spec (okS_text h)
def tf (r:Int):List Nat:=if r=1 then [116,114,117,101] else [102,97,108,115,101]
/-- the text of a value that is none of numbers -/
noncomputable def vtxt (v:Vl):List Nat:=if v.1=1 then tf v.2.2.2.2 else pts v.2.2.2.1
/-- the field of a value -/
noncomputable def fdf (v:Vl) (s:Sp):Fd:=
 if v.1=2 then numF v.2.1.1 (val v.2.1.2) s else if v.1=3 then ratF v.2.1.1 (val v.2.1.2) (val v.2.2.1.2) s else txtF (vtxt v) s
noncomputable def phf (v:Vl) (s:Sp):List Nat:=(fdf v s).1.1.map (·.toNat)
noncomputable def pbf (v:Vl) (s:Sp):List Nat:=if v.1=2∨v.1=3 then (fdf v s).1.2.1.map (·.toNat) else cutT (vtxt v) s
theorem cut_scal {p:List Nat} (hp:∀ r∈p,Scal r) (s:Sp):∀ r∈cutT p s,Scal r:=by
 unfold cutT
 split
 ·exact fun r hr=>hp r (List.mem_of_mem_take hr)
 ·exact hp
theorem low_scal {l:List UInt8} (h:low l):∀ r∈l.map (·.toNat),Scal r:=fun r hr=>by
 obtain ⟨b,hb,rfl⟩:=List.mem_map.1 hr
 have:=h b hb
 unfold Scal;omega
theorem cut_len {p:List Nat} (s:Sp):(enc (cutT p s)).length≤4*p.length:=by
 have:=enc_len_le (cutT p s)
 have h2:(cutT p s).length≤p.length:=by
  unfold cutT
  split
  ·simp;omega
  ·omega
 omega
/-- what the parts of a field are, as letters -/
theorem fd_parts {v:Vl} (ok:VOk v) {s:Sp} (g:Good s):((fdf v s).2=(0,0)∨((fdf v s).2.1≠0))∧
 ((fdf v s).2=(0,0)→(fdf v s).1.1=enc (phf v s)∧(fdf v s).1.2.1=enc (pbf v s)∧(∀ r∈phf v s,Scal r)∧(∀ r∈pbf v s,Scal r)∧(enc (phf v s)).length≤10∧(enc (pbf v s)).length≤1048576):=by
 have two:∀ f:Fd,FdOk f→f.2=(0,0)→f.1.1=enc (f.1.1.map (·.toNat))∧f.1.2.1=enc (f.1.2.1.map (·.toNat))∧(∀ r∈f.1.1.map (·.toNat),Scal r)∧(∀ r∈f.1.2.1.map (·.toNat),Scal r)∧(enc (f.1.1.map (·.toNat))).length≤10∧(enc (f.1.2.1.map (·.toNat))).length≤1048576:=fun f hf h0=>by
  obtain ⟨⟨h1,h2⟩,⟨h3,h4⟩,_⟩:=hf h0
  have e1:=enc_bytes h1
  have e2:=enc_bytes h3
  exact ⟨e1.symm,e2.symm,low_scal h1,low_scal h3,by rw[e1];exact h2,by rw[e2];omega⟩
 have codes:∀ f:Fd,(∃ c,c≠0∧f=noF c)∨f.2=(0,0)→(f.2=(0,0)∨f.2.1≠0):=fun f h=>by
  rcases h with ⟨c,hc,rfl⟩ | h
  ·exact .inr hc
  ·exact .inl h
 have cfrc:∀ (neg:Bool) (a b:Int),(∃ c,c≠0∧frcF neg a b s=noF c)∨(frcF neg a b s).2=(0,0):=fun neg a b=>by
  unfold frcF
  split
  ·exact .inl ⟨6,by decide,rfl⟩
  ·exact .inr rfl
 rcases ok with ⟨h,hr⟩ | ⟨h,hI⟩ | ⟨h,hR,hne⟩ | ⟨h,hT⟩
 ·have e1:fdf v s=txtF (tf v.2.2.2.2) s:=by unfold fdf vtxt;rw[if_neg (by omega),if_neg (by omega),if_pos h]
  have e2:pbf v s=cutT (tf v.2.2.2.2) s:=by unfold pbf vtxt;rw[if_neg (by omega),if_pos h]
  unfold phf
  rw[e1,e2]
  have ht:∀ r∈tf v.2.2.2.2,Scal r:=by
   unfold tf
   split<;>(intro r hr;simp at hr;unfold Scal;omega)
  have hl:(tf v.2.2.2.2).length≤5:=by unfold tf;split<;>simp
  have hc:=cut_len (p:=tf v.2.2.2.2) s
  unfold txtF
  split
  ·exact ⟨.inr (by show (13:Int)≠0;decide),fun h=>by simp[noF]at h⟩
  ·split
   ·exact ⟨.inr (by show (6:Int)≠0;decide),fun h=>by simp[noF]at h⟩
   ·exact ⟨.inl rfl,fun _=>⟨rfl,rfl,fun r hr=>by simp at hr,cut_scal ht s,by simp[enc],by omega⟩⟩
 ·have e1:fdf v s=numF v.2.1.1 (val v.2.1.2) s:=by unfold fdf;rw[if_pos h]
  have e2:pbf v s=(fdf v s).1.2.1.map (·.toNat):=by unfold pbf;rw[if_pos (.inl h)]
  unfold phf
  rw[e2,e1]
  refine ⟨codes _ ?_,two _ (num_ok hI.1 g)⟩
  unfold numF
  split
  ·exact .inl ⟨13,by decide,rfl⟩
  ·split
   ·exact cfrc _ _ _
   ·unfold whoF
    split
    ·exact .inl ⟨6,by decide,rfl⟩
    ·exact .inr rfl
 ·have e1:fdf v s=ratF v.2.1.1 (val v.2.1.2) (val v.2.2.1.2) s:=by unfold fdf;rw[if_neg (by omega),if_pos h]
  have e2:pbf v s=(fdf v s).1.2.1.map (·.toNat):=by unfold pbf;rw[if_pos (.inr h)]
  unfold phf
  rw[e2,e1]
  refine ⟨codes _ ?_,two _ (rat_ok hR.1.1 hR.2.1.1 hR.2.2.2.1 g)⟩
  unfold ratF
  split
  ·exact cfrc _ _ _
  ·split
   ·exact .inl ⟨13,by decide,rfl⟩
   ·split
    ·exact .inl ⟨6,by decide,rfl⟩
    ·exact .inr rfl
 ·have e1:fdf v s=txtF (pts v.2.2.2.1) s:=by unfold fdf vtxt;rw[if_neg (by omega),if_neg (by omega),if_neg (by omega)]
  have e2:pbf v s=cutT (pts v.2.2.2.1) s:=by unfold pbf vtxt;rw[if_neg (by omega),if_neg (by omega)]
  unfold phf
  rw[e1,e2]
  obtain ⟨p1,p2,p3⟩:=pts_spec hT
  have hc:=cut_len (p:=pts v.2.2.2.1) s
  have:=enc_len_ge (pts v.2.2.2.1)
  unfold txtF
  split
  ·exact ⟨.inr (by show (13:Int)≠0;decide),fun h=>by simp[noF]at h⟩
  ·split
   ·exact ⟨.inr (by show (6:Int)≠0;decide),fun h=>by simp[noF]at h⟩
   ·exact ⟨.inl rfl,fun _=>⟨rfl,rfl,fun r hr=>by simp at hr,cut_scal p1 s,by simp[enc],by omega⟩⟩
noncomputable def fin (v:Vl) (s:Sp) (s':Sp):ByteArray × (Int × Int):=
 if (fdf v s).2.1≠0 then (strOf [],(fdf v s).2) else
 if (enc (padP (phf v s) (pbf v s) (fdf v s).1.2.2 s')).length≤4000 then (strOf (enc (padP (phf v s) (pbf v s) (fdf v s).1.2.2 s')),(0,0)) else (strOf [],(3, -1))
theorem Format_bad {v:Vl} (hv:VHyp v) (ok:¬ VOk v) (t:ByteArray):Tot (fun n=>fmtspec_Format n v t) (· =(strOf [],(5, -1))):=by
 unfold fmtspec_Format
 refine Tot.bindq (valid_tot hv) fun r hr=>?_
 have:r=false:=by
  cases r with
  | false=>rfl
  | true=>exact absurd (hr.1 rfl) ok
 subst this
 exact Tot.it rfl (Tot.bind0 (at_eq 0 5 (-1)) (Tot.ret rfl))
theorem Format_tot {v:Vl} (hv:VHyp v) (ok:VOk v) {q:List Nat} (hq:∀ r∈q,Scal r) (lq:(enc q).length≤40) {s:Sp} (hrd:rd q=(s,(0,0))) (g:Good s):
 Tot (fun n=>fmtspec_Format n v (strOf (enc q))) (· =fin v s s):=by
 obtain ⟨hc,hp⟩:=fd_parts ok g
 unfold fmtspec_Format
 refine Tot.bindq (valid_tot hv) fun r hr=>?_
 have:r=true:=hr.2 ok
 subst this
 refine Tot.if_ rfl (Tot.bindq (Parse_tot hq lq) fun r hr=>?_)
 subst hr
 rw[hrd]
 refine Tot.if_ rfl ?_
 refine Tot.bindq (P:=(· =((fdf v s).2,(strOf (fdf v s).1.1,strOf (fdf v s).1.2.1,(fdf v s).1.2.2)))) ?_ fun j hj=>?_
 ·rcases ok with ⟨h,hr⟩ | ⟨h,hI⟩ | ⟨h,hR,hne⟩ | ⟨h,hT⟩
  ·have e1:fdf v s=txtF (tf v.2.2.2.2) s:=by unfold fdf vtxt;rw[if_neg (by omega),if_neg (by omega),if_pos h]
   rw[e1]
   refine Tot.if_ (by rw[h];rfl) (Tot.if_ (by rw[h];rfl) (Tot.it (by rw[h];rfl) ?_))
   have hx:idx ([(strOf [102,97,108,115,101]),(strOf [116,114,117,101])]:List ByteArray) v.2.2.2.2=some (strOf (enc (tf v.2.2.2.2))):=by
    rcases hr with hr | hr<;>rw[hr]<;>rfl
   refine Tot.bind0 hx (Tot.bindq (text_tot (p:=tf v.2.2.2.2) ?_ ?_ g) fun r hr=>by subst hr;exact Tot.ret rfl)
   ·unfold tf
    split<;>(intro r hr;simp at hr;unfold Scal;omega)
   ·have:=enc_len_le (tf v.2.2.2.2)
    have hl:(tf v.2.2.2.2).length≤5:=by unfold tf;split<;>simp
    omega
  ·have e1:fdf v s=numF v.2.1.1 (val v.2.1.2) s:=by unfold fdf;rw[if_pos h]
   rw[e1]
   refine Tot.it (by rw[h];rfl) (Tot.bindq (numb_tot (neg:=v.2.1.1) hI.1 g) fun r hr=>by subst hr;exact Tot.ret rfl)
  ·have e1:fdf v s=ratF v.2.1.1 (val v.2.1.2) (val v.2.2.1.2) s:=by unfold fdf;rw[if_neg (by omega),if_pos h]
   rw[e1]
   refine Tot.if_ (by rw[h];rfl) (Tot.it (by rw[h];rfl) (Tot.bindq (ratio_tot (neg:=v.2.1.1) (nb:=v.2.2.1.1) hR.1.1 hR.2.1.1 hR.2.2.2.1 g) fun r hr=>by subst hr;exact Tot.ret rfl))
  ·have e1:fdf v s=txtF (pts v.2.2.2.1) s:=by unfold fdf vtxt;rw[if_neg (by omega),if_neg (by omega),if_neg (by omega)]
   rw[e1]
   obtain ⟨p1,p2,p3⟩:=pts_spec hT
   refine Tot.if_ (by rw[h];rfl) (Tot.if_ (by rw[h];rfl) (Tot.if_ (by rw[h];rfl) ?_))
   have ht:=text_tot (p:=pts v.2.2.2.1) p1 (by omega) g
   rw[← p2]at ht
   exact Tot.bindq ht fun r hr=>by subst hr;exact Tot.ret rfl
 ·subst hj
  unfold fin
  refine Tot.ite (fun h=>Tot.ret ?_) (fun h=>?_)
  ·have h:(fdf v s).2.1≠0:=by simpa using h
   rw[if_pos h]
  ·have h:(fdf v s).2.1=0:=by simpa using h
   have h0:(fdf v s).2=(0,0):=by
    rcases hc with hc | hc
    ·exact hc
    ·exact absurd h hc
   obtain ⟨x1,x2,x3,x4,x5,x6⟩:=hp h0
   rw[if_neg (by omega)]
   have hpad:=padn_tot x3 x4 (by omega) x6 (left:=(fdf v s).1.2.2) g
   rw[← x1,← x2]at hpad
   refine Tot.bindq hpad fun r hr=>?_
   subst hr
   rw[size_str]
   refine Tot.ite (fun h=>Tot.ret ?_) (fun h=>?_)
   ·have h:((enc (padP (phf v s) (pbf v s) (fdf v s).1.2.2 s)).length:Int)≤4000:=of_decide_eq_true h
    rw[if_pos (by omega)]
   ·have h:¬ ((enc (padP (phf v s) (pbf v s) (fdf v s).1.2.2 s)).length:Int)≤4000:=of_decide_eq_false h
    rw[if_neg (by omega)]
    exact Tot.bind0 (at_eq 0 3 (-1)) (Tot.ret rfl)
end Go.Gv.P
