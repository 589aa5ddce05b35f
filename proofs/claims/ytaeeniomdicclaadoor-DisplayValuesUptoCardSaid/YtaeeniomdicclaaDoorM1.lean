import Derived.Test.YtaeeniomdicclaaDoorNA
set_option linter.all false
open Go.Gv.Tot renaming bind0->aa,ret->ab,bindq->ac,ite->ah
open List renaming take_succ_eq_append_getElem->ad,length_append->ae,length_cons->af,length_nil->ai
open Bool renaming eq_iff_iff->ag
namespace Go.Gv.P
open Go Go.Gv Go.Gv.D Go.Gv.R Go.Lib
open Go.Gv.RI (val Dg Nz OkL OkI OkN vb Db IsB Ok3 zzh zyv zzr zze h16 zzo b2 zwu val_bound iv3)
set_option maxRecDepth 100000
def hv (l:List Int):Int:=l.foldl (fun a x=>a*10+x) 0
open Go.Gv.RI (val Dg Nz OkL OkI OkN vb Db IsB Ok3 zzh zyv zzr zze h16 zzo b2 zwu val_bound iv3)
set_option maxRecDepth 100000
abbrev Rt:=(Bool × List Int) × List Int
structure RtOk (x:Rt) (k:Nat):Prop where
 num:Ok3 x.1.2
 den:Ok3 x.2
 pos:0<vb 65536 x.2
 ln:x.1.2.length<=k
 ld:x.2.length<=k
theorem zsv {x:Rt} {k:Nat} (hx:RtOk x k) (hk:k<=1000):Tot (fun f=>zzi f x) (fun r=>RtOk r k∧iv3 r.1*vb 65536 x.2=iv3 x.1*vb 65536 r.2):=by
 obtain ⟨⟨sg,n⟩,d⟩:=x
 obtain ⟨h1,h2,h3,h4,h5⟩:=hx
 simp only at h1 h2 h3 h4 h5
 unfold zzi
 refine ac (ztB (a:=n) (b:=d) h1 h2 om om) fun g ⟨g1,g2⟩=>?_
 have c:0<wN d:=by have:=zz0 h2;omega
 have hgp:0<Nat.gcd (wN n) (wN d):=Nat.gcd_pos_of_pos_right _ c
 have hg0:0<vb 65536 g:=by omega
 have hgl:g.length<=k:=by
  have:vb 65536 g<=vb 65536 d:=by
   rw[g2,zz0 h2]
   have:=Nat.gcd_le_right (wN n) c
   omega
  have:=zxY g1 h2 this
  omega
 refine ac (zvI (a:=n) (b:=g) h1 g1 om om hg0) fun p ⟨p1,p2,p3,p4⟩=>?_
 refine ac (zvI (a:=d) (b:=g) h2 g1 om om hg0) fun q ⟨q1,q2,q3,q4⟩=>ab ?_
 obtain ⟨u,hu⟩:=Nat.gcd_dvd_left (wN n) (wN d)
 obtain ⟨w,hw⟩:=Nat.gcd_dvd_right (wN n) (wN d)
 have en:vb 65536 n=vb 65536 g*u:=by rw[zz0 h1,g2];exact_mod_cast hu
 have ed:vb 65536 d=vb 65536 g*w:=by rw[zz0 h2,g2];exact_mod_cast hw
 have ep:vb 65536 p.1=u:=by rw[p3,en,Int.mul_ediv_cancel_left _ om]
 have eq:vb 65536 q.1=w:=by rw[q3,ed,Int.mul_ediv_cancel_left _ om]
 have hwp:0<w:=by
  rcases Nat.eq_zero_or_pos w with e | e
  ·rw[e]at hw;omega
  ·exact e
 have hun:(u:Int)<=vb 65536 n:=by
  rw[en]
  have:1*(u:Int)<=vb 65536 g*u:=Int.mul_le_mul_of_nonneg_right om om
  omega
 have hwd:(w:Int)<=vb 65536 d:=by
  rw[ed]
  have:1*(w:Int)<=vb 65536 g*w:=Int.mul_le_mul_of_nonneg_right om om
  omega
 refine ⟨⟨p1,q1,osm,?_,?_⟩,?_⟩
 ·have:=zxY p1 h1 om;simp only;omega
 ·have:=zxY q1 h2 om;simp only;omega
 ·unfold iv3
  simp only
  cases sg
  ·show vb 65536 p.1*vb 65536 d=vb 65536 n*vb 65536 q.1
   rw[ep,eq,en,ed]
   grind
  ·show-vb 65536 p.1*vb 65536 d= -vb 65536 n*vb 65536 q.1
   rw[ep,eq,en,ed]
   grind
set_option maxRecDepth 100000
theorem Tot.all {α:Type} {f:Nat->Option α} {a:α} (h:∀ k,f k=some a):Tot f (· =a):=Tot.of_all 0 (fun k=>h _) rfl
theorem zua:∀ (l:List UInt8) (c:UInt8),decide (index l [c]>=0)=l.contains c
 | [],c=>rfl
 | b::l,c=>by
   have ih:=zua l c
   unfold index
   have hp:List.isPrefixOf [c] (b::l)=(c==b):=by simp[List.isPrefixOf]
   rw[hp,List.contains_cons]
   cases h:c==b with
   | true=>simp
   | false=>
     simp only[Bool.false_eq_true,if_false,Bool.false_or]
     rw[<- ih]
     have hge:=index_ge l [c]
     by_cases hi:index l [c]= -1
     ·rw[hi];rfl
     ·rw[if_neg (by simpa using hi)]
      rw[decide_eq_decide]
      omega
theorem zul (l:List UInt8) (x y:UInt8):(l++[x]).contains y=(l.contains y||decide (x=y)):=by
 rw[ag]
 simp only[List.contains_iff_mem,List.mem_append,List.mem_singleton,Bool.or_eq_true,decide_eq_true_eq]
 exact or_congr Iff.rfl eq_comm
def mk (l:List UInt8):UInt8:=if l.contains 39&& !l.contains 34 then 34 else 39
def esc (m:UInt8) (wide:Bool) (c:UInt8):List UInt8:=
 if c=10 then [92,110] else if c=9 then [92,116] else if c=92∨c=m then [92,c]
 else if c.toNat<32∨c.toNat=127∨(127<c.toNat∧wide=false) then [92,120,hx (c.toNat/16),hx (c.toNat%16)] else [c]
def lit (pre l:List UInt8) (wide:Bool):List UInt8:=pre++[mk l]++l.flatMap (esc (mk l) wide)++[mk l]
theorem zpG (m:UInt8) (wide:Bool) (c:UInt8):(esc m wide c).length<=4:=by
 unfold esc
 repeat' split
 all_goals simp
theorem zwV (m:UInt8) (wide:Bool) (l:List UInt8):(l.flatMap (esc m wide)).length<=4*l.length:=by
 induction l with
 | nil=>simp
 | cons c l ih=>
   have:=zpG m wide c
   rw[List.flatMap_cons,ae,af];omega
theorem zwY {l:List UInt8} (hl:l.length<=1048576) (c:UInt8) (n:Nat):zzV n (strOf l) (strOf [c])=some (l.contains c):=by
 unfold zzV strings_Index
 rw[zyg,zzd,zzd,if_pos om]
 show some (decide (index l [c]>=0))=_
 rw[zua]
theorem zsP {l:List UInt8} (hl:l.length<=1048576):Tot (fun n=>zz8 n (strOf l)) (· =((mk l).toNat:Int)):=by
 unfold zz8 mk
 refine ac (P:=(· =(l.contains 39&& !l.contains 34))) ?_ fun j hj=>?_
 ·refine ac (Tot.all (fun n=>zwY hl 39 n)) fun r hr=>?_
  subst hr
  cases h:l.contains 39 with
  | true=>exact Tot.it rfl (ac (Tot.all (fun n=>zwY hl 34 n)) fun r hr=>by subst hr;exact ab (by simp))
  | false=>exact Tot.if_ rfl (ab rfl)
 ·subst hj
  cases h:(l.contains 39&& !l.contains 34) with
  | true=>exact Tot.it rfl (ab rfl)
  | false=>exact Tot.if_ rfl (ab rfl)
theorem zwx {c:UInt8} {n:Nat} (h:n<256):(((c.toNat:Nat):Int)==(n:Int))=decide (c=UInt8.ofNat n):=by
 by_cases e:c=UInt8.ofNat n
 ·rw[dtt e,e,UInt8.toNat_ofNat',Nat.mod_eq_of_lt om];exact beq_self_eq_true _
 ·rw[dff e,beq_eq_false_iff_ne]
  intro h2
  exact e (UInt8.toNat_inj.1 (by rw[UInt8.toNat_ofNat',Nat.mod_eq_of_lt om];omega))
theorem zt9 {out:List UInt8} (hl:out.length<=100000000) (c m:UInt8) (wide:Bool):Tot (fun n=>zz5 n out (c.toNat:Int) (m.toNat:Int) wide) (· =out++esc m wide c):=by
 unfold zz5 esc
 have d:=zwx (c:=c) (n:=10) ddc
 have e9:=zwx (c:=c) (n:=9) ddc
 have f:=zwx (c:=c) (n:=92) ddc
 have em:(((c.toNat:Nat):Int)==(m.toNat:Int))=decide (c=m):=by
  by_cases e:c=m
  ·rw[e,dtt rfl];exact beq_self_eq_true _
  ·rw[dff e,beq_eq_false_iff_ne];exact fun h=>e (UInt8.toNat_inj.1 om)
 refine ah (fun h=>?_) (fun h=>?_)
 ·have h:c=10:=odt (d.symm.trans h)
  rw[if_pos h]
  exact aa (zzt oss) (ab rfl)
 have h:¬ c=10:=odf (d.symm.trans h)
 rw[if_neg h]
 refine ah (fun h=>?_) (fun h=>?_)
 ·have h:c=9:=odt (e9.symm.trans h)
  rw[if_pos h]
  exact aa (zzt oss) (ab rfl)
 have h:¬ c=9:=odf (e9.symm.trans h)
 rw[if_neg h]
 have e3:(((c.toNat:Nat):Int)==92||((c.toNat:Nat):Int)==(m.toNat:Int))=decide (c=92∨c=m):=by
  rw[em,show (((c.toNat:Nat):Int)==92)=decide (c=92) from f]
  by_cases a:c=92<;>by_cases b:c=m<;>simp[a,b]
 refine ah (fun h=>?_) (fun h=>?_)
 ·rw[if_pos (odt (e3.symm.trans h))]
  exact aa (zyj c) (aa (zzt oss) (ab rfl))
 rw[if_neg (odf (e3.symm.trans h))]
 have hb:=zwL c
 have e4:(decide (((c.toNat:Nat):Int)<32)||(((c.toNat:Nat):Int)==127||(decide (((c.toNat:Nat):Int)>127)&& !wide)))=decide (c.toNat<32∨c.toNat=127∨(127<c.toNat∧wide=false)):=by
  rw[show (((c.toNat:Nat):Int)==127)=decide (c.toNat=127) by rw[ag];simp;omega]
  cases wide<;>rw[ag]<;>simp<;>omega
 refine ah (fun h=>?_) (fun h=>?_)
 ·rw[if_pos (odt (e4.symm.trans h))]
  exact aa (zod c) (aa (zoZ c) (aa (zyj _) (aa (zyj _) (aa (zzt oss) (ab rfl)))))
 ·rw[if_neg (odf (e4.symm.trans h))]
  exact aa (zyj c) (aa (zzt oss) (ab rfl))
theorem zvk {l pre:List UInt8} (wide:Bool) (hl:l.length<=1048576) (hp:pre.length<=10):Tot (fun n=>zzb n (strOf l) (strOf pre) wide) (· =strOf (lit pre l wide)):=by
 unfold zzb
 refine ac (zsP hl) fun r hr=>?_
 subst hr
 refine aa (a:=pre) (by unfold bl;rw[zyg,if_pos om,zzd]) (aa (zyj _) (aa (zzt oss) ?_))
 refine ac (P:=(· =pre++[mk l]++l.flatMap (esc (mk l) wide))) ?_ fun j hj=>?_
 ·refine Tot.loop (fun st=>∃ i:Nat,i<=l.length∧st=(pre++[mk l]++(l.take i).flatMap (esc (mk l) wide),(i:Int))) (fun st=>l.length-st.2.toNat) ⟨0,om,by simp⟩ fun st ⟨i,hi,b⟩=>?_
  subst b
  dsimp only
  rw[zyg]
  refine ah (fun h=>?_) (fun h=>?_)
  ·have h:i<l.length:=by have:(i:Int)<(l.length:Int):=odt h;omega
   refine aa (zuv (by rw[zzd];exact h)) ?_
   have hg:(bytesOf (strOf l))[i]'(by rw[zzd];exact h)=l[i]:=by simp only[zzd]
   rw[hg]
   have hf:=zwV (mk l) wide (l.take i)
   rw[List.length_take]at hf
   refine ac (zt9 (by simp only[ae,af,ai];omega) _ _ _) fun r hr=>ab ?_
   subst hr
   rw[iw (n:=i+1) om om]
   refine ⟨⟨i+1,om,?_⟩,by dsimp only;omega⟩
   rw[ad h,List.flatMap_append]
   simp
  ·have h:i=l.length:=by have:¬ (i:Int)<(l.length:Int):=odf h;omega
   subst h
   exact ab (by rw[List.take_length])
 ·subst hj
  have hf:=zwV (mk l) wide l
  refine aa (zyj _) (aa (zzt (by simp only[ae,af,ai];omega)) (ab rfl))
set_option maxHeartbeats 2000000 in
theorem zvK {l:List UInt8} (wide:Bool) (hl:l.length<=1048576):Tot (fun n=>zyk n (strOf l) wide) (· =strOf (lit [] l wide)):=by
 unfold zyk
 refine ac (P:=(· =(l.contains 39,l.contains 34))) ?_ fun j hj=>?_
 ·refine Tot.loop (fun st=>∃ i:Nat,i<=l.length∧st=((l.take i).contains 39,(l.take i).contains 34,(i:Int))) (fun st=>l.length-st.2.2.toNat) ⟨0,om,by simp⟩ fun st ⟨i,hi,d⟩=>?_
  subst d
  dsimp only
  rw[zyg]
  refine ah (fun h=>?_) (fun h=>?_)
  ·have h:i<l.length:=by have:(i:Int)<(l.length:Int):=odt h;omega
   have hs:=zuv (s:=strOf l) (i:=i) (by rw[zzd];exact h)
   have hg:(bytesOf (strOf l))[i]'(by rw[zzd];exact h)=l[i]:=by simp only[zzd]
   rw[hg]at hs
   have key:∀ n:Nat,n<256->Tot (fun _:Nat=>if (l.take i).contains (UInt8.ofNat n)=true then some true else (Option.bind (zvo (strOf l) (i:Int)) fun x=>some (x==(n:Int)))) (· =(l.take (i+1)).contains (UInt8.ofNat n)):=fun n hn=>by
    rw[ad h]
    have hc:(l.take i++[l[i]]).contains (UInt8.ofNat n)=((l.take i).contains (UInt8.ofNat n)||decide (l[i]=UInt8.ofNat n)):=by
     exact zul _ _ _
    rw[hc]
    refine ah (fun h1=>ab (by rw[h1];rfl)) (fun h1=>aa hs (ab ?_))
    rw[h1,zwx hn];rfl
   refine ac (key 39 ddc) fun a ha=>?_
   subst ha
   refine ac (key 34 ddc) fun a ha=>ab ?_
   subst ha
   rw[iw (n:=i+1) om om]
   exact ⟨⟨i+1,om,rfl⟩,by dsimp only;omega⟩
  ·have h:i=l.length:=by have:¬ (i:Int)<(l.length:Int):=odf h;omega
   subst h
   exact ab (by rw[List.take_length])
 subst hj
 refine ac (P:=(· =((mk l).toNat:Int))) ?_ fun j hj=>?_
 ·unfold mk
  cases h:(l.contains 39&& !l.contains 34) with
  | true=>exact Tot.it rfl (ab rfl)
  | false=>exact Tot.if_ rfl (ab rfl)
 subst hj
 refine aa (zyj _) ?_
 refine ac (P:=(· =[mk l]++l.flatMap (esc (mk l) wide))) ?_ fun j hj=>?_
 ·refine Tot.loop (fun st=>∃ i:Nat,i<=l.length∧st=([mk l]++(l.take i).flatMap (esc (mk l) wide),(i:Int))) (fun st=>l.length-st.2.toNat) ⟨0,om,by simp⟩ fun st ⟨i,hi,d⟩=>?_
  subst d
  dsimp only
  rw[zyg]
  refine ah (fun h=>?_) (fun h=>?_)
  ·have h:i<l.length:=by have:(i:Int)<(l.length:Int):=odt h;omega
   refine aa (zuv (by rw[zzd];exact h)) ?_
   have hg:(bytesOf (strOf l))[i]'(by rw[zzd];exact h)=l[i]:=by simp only[zzd]
   rw[hg]
   have hf:=zwV (mk l) wide (l.take i)
   rw[List.length_take]at hf
   generalize hO:[mk l]++(l.take i).flatMap (esc (mk l) wide)=out
   have hol:out.length<=100000000:=by rw[<- hO];simp only[ae,af,ai];omega
   refine ac (P:=(· =out++esc (mk l) wide l[i])) ?_ fun r hr=>ab ?_
   · -- the same steps as the program's
     generalize l[i]=c
     generalize mk l=m
     unfold esc
     have f:=zwx (c:=c) (n:=10) ddc
     have e9:=zwx (c:=c) (n:=9) ddc
     have g:=zwx (c:=c) (n:=92) ddc
     have em:(((c.toNat:Nat):Int)==(m.toNat:Int))=decide (c=m):=by
      by_cases e:c=m
      ·rw[e,dtt rfl];exact beq_self_eq_true _
      ·rw[dff e,beq_eq_false_iff_ne];exact fun h=>e (UInt8.toNat_inj.1 om)
     refine ah (fun h=>?_) (fun h=>?_)
     ·have h:c=10:=odt (f.symm.trans h)
      rw[if_pos h]
      exact aa (zzt oss) (ab rfl)
     have h:¬ c=10:=odf (f.symm.trans h)
     rw[if_neg h]
     refine ah (fun h=>?_) (fun h=>?_)
     ·have h:c=9:=odt (e9.symm.trans h)
      rw[if_pos h]
      exact aa (zzt oss) (ab rfl)
     have h:¬ c=9:=odf (e9.symm.trans h)
     rw[if_neg h]
     have e3:(((c.toNat:Nat):Int)==92||((c.toNat:Nat):Int)==(m.toNat:Int))=decide (c=92∨c=m):=by
      rw[em,show (((c.toNat:Nat):Int)==92)=decide (c=92) from g]
      by_cases a:c=92<;>by_cases b:c=m<;>simp[a,b]
     refine ah (fun h=>?_) (fun h=>?_)
     ·rw[if_pos (odt (e3.symm.trans h))]
      exact aa (zyj c) (aa (zzt oss) (ab rfl))
     rw[if_neg (odf (e3.symm.trans h))]
     have hb:=zwL c
     have e4:(decide (((c.toNat:Nat):Int)<32)||(((c.toNat:Nat):Int)==127||(decide (((c.toNat:Nat):Int)>=128)&& !wide)))=decide (c.toNat<32∨c.toNat=127∨(127<c.toNat∧wide=false)):=by
      rw[show (((c.toNat:Nat):Int)==127)=decide (c.toNat=127) by rw[ag];simp;omega]
      cases wide<;>rw[ag]<;>simp<;>omega
     refine ah (fun h=>?_) (fun h=>?_)
     ·rw[if_pos (odt (e4.symm.trans h))]
      have h1:IntKind.u8.wrap (((c.toNat:Nat):Int).tdiv 16)=((c.toNat/16:Nat):Int):=by
       rw[Int.tdiv_eq_ediv_of_nonneg om,zvt om om];omega
      have h2:((c.toNat:Nat):Int).tmod 16=((c.toNat%16:Nat):Int):=by rw[Int.tmod_eq_emod_of_nonneg om];omega
      rw[h1,h2]
      exact aa (ztS om) (aa (ztS om) (aa (zyj _) (aa (zyj _) (aa (zzt oss) (ab rfl)))))
     ·rw[if_neg (odf (e4.symm.trans h))]
      exact aa (zyj c) (aa (zzt oss) (ab rfl))
   ·subst hr
    rw[iw (n:=i+1) om om]
    refine ⟨⟨i+1,om,?_⟩,by dsimp only;omega⟩
    rw[ad h,List.flatMap_append,<- hO]
    simp
  ·have h:i=l.length:=by have:¬ (i:Int)<(l.length:Int):=odf h;omega
   subst h
   exact ab (by rw[List.take_length])
 ·subst hj
  have hf:=zwV (mk l) wide l
  refine aa (zyj _) (aa (zzt (by simp only[ae,af,ai];omega)) (ab rfl))
theorem zuN:Tot (fun n=>zyT n) (· =true):=Tot.of_all 100 (fun k=>by kernel_rfl) rfl
end Go.Gv.P
