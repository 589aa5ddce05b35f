import Derived.Test.YtbiopeiafkldiaaGreatDoorKJ
import Derived.Test.YtbiopeiafkldiaaGreatDoorX1
set_option linter.all false
namespace Go.Gv.P
open Go Go.Gv Go.Gv.D Go.Gv.R Go.Lib
open Go.Gv.RI (val Dg Nz OkL OkI OkN vb Db IsB noz)
set_option maxRecDepth 100000
/-! Own work: the law FmtspecWidths. -/
theorem alike_tot {l:List Nat} (hl:l.length≤1000000) (c:Nat):Tot (fun n=>law4_alike n (ints l) (c:Int)) (· =decide (∀ x∈l,x=c)):=by
 unfold law4_alike
 rw[ints_len]
 refine Tot.bindq (P:=fun r=>(r= .inl ()∧∀ x∈l,x=c)∨(r= .inr false∧¬ ∀ x∈l,x=c)) ?_ fun r hr=>?_
 ·refine Tot.loop (fun (st:Int)=>∃ i:Nat,st=(i:Int)∧i≤l.length∧∀ x∈l.take i,x=c) (fun (st:Int)=>l.length-st.toNat) ⟨0,rfl,Nat.zero_le _,by simp⟩ fun st ⟨i,e,hi,hall⟩=>?_
  subst e
  refine Tot.ite (fun h=>?_) fun h=>?_
  ·have h:i<l.length:=by have:=of_decide_eq_true h;omega
   refine Tot.bind0 (ints_get h) (Tot.ite (fun q=>Tot.ret (.inr ⟨rfl,fun e=>?_⟩)) fun q=>Tot.ret ⟨⟨i+1,iw (by omega) (by omega),h,?_⟩,?_⟩)
   ·have:=e l[i] (List.getElem_mem h)
    rw[this]at q;simp at q
   ·have q:l[i]=c:=by
     by_cases e:((l[i]:Nat):Int)=(c:Int)
     ·omega
     ·rw[bne_iff_ne.2 e]at q;cases q
    intro x hx
    rw[List.take_succ_eq_append_getElem h]at hx
    rcases List.mem_append.1 hx with hx | hx
    ·exact hall x hx
    ·simp at hx;rw[hx,q]
   ·rw[iw (n:=i+1) (by omega) (by omega)];omega
  ·have h:i=l.length:=by have:=of_decide_eq_false h;omega
   subst h
   rw[List.take_length]at hall
   exact Tot.ret (.inl ⟨rfl,hall⟩)
 ·rcases hr with ⟨e,h⟩ | ⟨e,h⟩
  ·subst e;exact Tot.contl (Tot.ret (decide_eq_true h).symm)
  ·subst e;exact Tot.contr (decide_eq_false h).symm
theorem ints_take (l:List Nat) (k:Nat):(ints l).take k=ints (l.take k):=by simp[ints,List.map_take]
theorem ints_drop (l:List Nat) (k:Nat):(ints l).drop k=ints (l.drop k):=by simp[ints,List.map_drop]
theorem sub_ints {l:List Nat} {i j:Nat} (h1:i≤j) (h2:j≤l.length):sub (ints l) (i:Int) (j:Int)=some (ints ((l.take j).drop i)):=by
 rw[sub_ok (by omega) (by omega) (by rw[ints_len];omega),Int.toNat_natCast,Int.toNat_natCast,ints_take,ints_drop]
def tst (X Y:List Nat) (n c i:Nat):Prop:=Y.take i=X.take i∧Y.drop (i+n)=X.drop i∧∀ z∈(Y.take (i+n)).drop i,z=c
theorem scan_tot {X Y:List Nat} {n c:Nat} (hY:Y.length=X.length+n) (hl:Y.length≤100000):
 Tot (fun fuel=>(loopN (fun (s480:Int)=>(if (decide (s480≤((List.length (ints X):Nat):Int))) then (Option.bind (Option.bind (sub (ints Y) 0 s480) fun x491=>(Option.bind (sub (ints X) 0 s480) fun x498=>(Option.bind (ref4_Numbers fuel x491 x498) fun r505=>(if r505 then (Option.bind (sub (ints Y) (IntKind.i64.wrap (s480+(n:Int))) ((List.length (ints Y):Nat):Int)) fun x511=>(Option.bind (sub (ints X) s480 ((List.length (ints X):Nat):Int)) fun x518=>(Option.bind (ref4_Numbers fuel x511 x518) fun r525=>(if r525 then (Option.bind (sub (ints Y) s480 (IntKind.i64.wrap (s480+(n:Int)))) fun x531=>(Option.bind (law4_alike fuel x531 (c:Int)) fun r538=>(some (r538)))) else (some (false)))))) else (some (false)))))) fun (j487:Bool)=>(if j487 then (some (.inr (.inr (true)))) else (some (.inl (IntKind.i64.wrap (s480+1)))))) else (some (.inr (.inl ()))))) fuel 0:Option (Unit ⊕ Bool)))
  (fun r=>r= .inr true∨(r= .inl ()∧∀ i≤X.length,¬ tst X Y n c i)):=by
 simp only[ints_len]
 refine Tot.loop (fun (st:Int)=>∃ i:Nat,st=(i:Int)∧i≤X.length+1∧∀ k<i,¬ tst X Y n c k) (fun (st:Int)=>X.length+1-st.toNat) ⟨0,rfl,by omega,fun k hk=>by omega⟩ fun st ⟨i,e,hi,hall⟩=>?_
 subst e
 refine Tot.ite (fun h=>?_) fun h=>?_
 ·have h:i≤X.length:=by have:=of_decide_eq_true h;omega
  have w:IntKind.i64.wrap ((i:Int)+(n:Int))=((i+n:Nat):Int):=iw (by omega) (by omega)
  refine Tot.bindq (P:=fun j=>(j=true↔tst X Y n c i)) ?_ fun j hj=>?_
  ·rw[w]
   refine Tot.bind0 (sub_ints (i:=0) (by omega) (by omega)) (Tot.bind0 (sub_ints (i:=0) (by omega) (by omega)) ?_)
   refine Tot.bindq (Numbers_tot (by simp;omega)) fun r hr=>?_
   subst hr
   rw[List.drop_zero,List.drop_zero]
   refine Tot.ite (fun h1=>?_) (fun h1=>Tot.ret ⟨fun h=>(by cases h),fun h=>absurd h.1 (of_decide_eq_false h1)⟩)
   have h1:=of_decide_eq_true h1
   refine Tot.bind0 (sub_ints (by omega) (Nat.le_refl _)) (Tot.bind0 (sub_ints (by omega) (Nat.le_refl _)) ?_)
   refine Tot.bindq (Numbers_tot (by simp;omega)) fun r hr=>?_
   subst hr
   rw[List.take_length,List.take_length]
   refine Tot.ite (fun h2=>?_) (fun h2=>Tot.ret ⟨fun h=>(by cases h),fun h=>absurd h.2.1 (of_decide_eq_false h2)⟩)
   have h2:=of_decide_eq_true h2
   refine Tot.bind0 (sub_ints (by omega) (by omega)) (Tot.bindq (alike_tot (by simp;omega) c) fun r hr=>Tot.ret ?_)
   subst hr
   exact ⟨fun h=>⟨h1,h2,of_decide_eq_true h⟩,fun h=>decide_eq_true h.2.2⟩
  ·refine Tot.ite (fun h1=>Tot.ret (.inl rfl)) (fun h1=>Tot.ret ⟨⟨i+1,iw (by omega) (by omega),by omega,fun k hk=>?_⟩,?_⟩)
   ·rcases Nat.lt_or_ge k i with h2 | h2
    ·exact hall k h2
    ·have:k=i:=by omega
     subst this
     intro ht
     rw[hj.2 ht]at h1;cases h1
   ·rw[iw (n:=i+1) (by omega) (by omega)];omega
 ·have h:¬ i≤X.length:=by have:=of_decide_eq_false h;omega
  exact Tot.ret (.inr ⟨rfl,fun k hk=>hall k (by omega)⟩)
/-- where what was added stands -/
theorem pad_places {ph pb:List Nat} {left:Bool} {s:Sp} {n:Nat} (hn:s.2.2.2.2.2.1.toNat-ph.length-pb.length=n):
 (padP ph pb left s).length=(ph++pb).length+n∧((∃ i≤(ph++pb).length,tst (ph++pb) (padP ph pb left s) n (fillN s) i)∨padP ph pb left s=List.replicate (n/2) (fillN s)++(ph++pb)++List.replicate (n-n/2) (fillN s)):=by
 unfold padP
 simp only[hn]
 split
 ·refine ⟨by simp;omega,.inl ⟨(ph++pb).length,Nat.le_refl _,?_,?_,?_⟩⟩
  ·rw[List.take_left' rfl,List.take_length]
  ·rw[List.drop_of_length_le (by simp;omega),List.drop_length]
  ·intro z hz
   rw[List.take_of_length_le (by simp;omega),List.drop_left' rfl]at hz
   exact List.eq_of_mem_replicate hz
 ·split
  ·refine ⟨by simp;omega,.inr (by simp)⟩
  ·split
   ·refine ⟨by simp;omega,.inl ⟨ph.length,by simp,?_,?_,?_⟩⟩
    ·rw[List.append_assoc,List.take_left' rfl,List.take_left' rfl]
    ·rw[List.drop_left' (by simp),List.drop_left' rfl]
    ·intro z hz
     rw[List.take_left' (by simp),List.drop_left' rfl]at hz
     exact List.eq_of_mem_replicate hz
   ·refine ⟨by simp;omega,.inl ⟨0,by omega,by simp,?_,?_⟩⟩
    ·rw[List.append_assoc,Nat.zero_add,List.drop_left' (by simp),List.drop_zero]
    ·intro z hz
     rw[List.append_assoc,Nat.zero_add,List.take_left' (by simp),List.drop_zero]at hz
     exact List.eq_of_mem_replicate hz
theorem good_with {s:Sp} (g:Good s) {w:Int} (h0:0≤w) (h1:w≤400):Good (s.1,s.2.1,s.2.2.1,s.2.2.2.1,false,w,s.2.2.2.2.2.2.1,s.2.2.2.2.2.2.2.1,s.2.2.2.2.2.2.2.2.1,s.2.2.2.2.2.2.2.2.2):=
 ⟨⟨g.ok.al,g.ok.sg,g.ok.gr,g.ok.ty⟩,g.fill,g.al,g.sg,g.gr,g.ty,⟨h0,h1⟩,g.p,g.pz⟩
theorem final_tot {X Y:List Nat} {n c:Nat} (h:Y=List.replicate (n/2) c++X++List.replicate (n-n/2) c) (hl:Y.length≤100000):
 Tot (fun fuel=>Option.bind (sub (ints Y) (IntKind.i64.wrap (((n:Nat):Int).tdiv 2)) (IntKind.i64.wrap ((IntKind.i64.wrap (((n:Nat):Int).tdiv 2))+((List.length (ints X):Nat):Int)))) fun x573=>(Option.bind (ref4_Numbers fuel x573 (ints X)) fun r579=>(if r579 then (Option.bind (sub (ints Y) 0 (IntKind.i64.wrap (((n:Nat):Int).tdiv 2))) fun x585=>(Option.bind (law4_alike fuel x585 (c:Int)) fun r592=>(if r592 then (Option.bind (sub (ints Y) (IntKind.i64.wrap ((IntKind.i64.wrap (((n:Nat):Int).tdiv 2))+((List.length (ints X):Nat):Int))) ((List.length (ints Y):Nat):Int)) fun x598=>(Option.bind (law4_alike fuel x598 (c:Int)) fun r605=>(some (r605)))) else (some (false))))) else (some (false))))) (· =true):=by
 have hYl:Y.length=X.length+n:=by rw[h];simp;omega
 have e2:IntKind.i64.wrap ((n:Int).tdiv 2)=((n/2:Nat):Int):=by rw[Int.tdiv_eq_ediv_of_nonneg (by omega)];exact iw (by omega) (by omega)
 simp only[ints_len]
 rw[e2]
 have e3:IntKind.i64.wrap (((n/2:Nat):Int)+((X.length:Nat):Int))=((n/2+X.length:Nat):Int):=iw (by omega) (by omega)
 rw[e3]
 have m1:(Y.take (n/2+X.length)).drop (n/2)=X:=by rw[h,List.take_left' (by simp),List.drop_left' (by simp)]
 have m2:Y.take (n/2)=List.replicate (n/2) c:=by rw[h,List.append_assoc,List.take_left' (by simp)]
 have m3:Y.drop (n/2+X.length)=List.replicate (n-n/2) c:=by rw[h,List.drop_left' (by simp)]
 refine Tot.bind0 (sub_ints (by omega) (by omega)) ?_
 rw[m1]
 refine Tot.bindq (Numbers_tot (by omega)) fun r hr=>?_
 subst hr
 refine Tot.it (decide_eq_true rfl) (Tot.bind0 (sub_ints (i:=0) (by omega) (by omega)) ?_)
 rw[List.drop_zero,m2]
 refine Tot.bindq (alike_tot (by simp;omega) c) fun r hr=>?_
 subst hr
 refine Tot.it (decide_eq_true fun x hx=>List.eq_of_mem_replicate hx) (Tot.bind0 (sub_ints (by omega) (Nat.le_refl _)) ?_)
 rw[List.take_length,m3]
 exact Tot.bindq (alike_tot (by simp;omega) c) fun r hr=>Tot.ret (by rw[hr];exact decide_eq_true fun x hx=>List.eq_of_mem_replicate hx)
end Go.Gv.P
namespace Go.Gv.P
open Go Go.Gv Go.Gv.D Go.Gv.R Go.Lib
open Go.Gv.RI (val Dg Nz OkL OkI OkN vb Db IsB noz)
set_option maxRecDepth 100000
theorem pad_enc (ph pb:List Nat) (left:Bool) (s:Sp):(enc (ph++pb)).length≤(enc (padP ph pb left s)).length:=by
 unfold padP
 simp only
 split
 ·simp only[enc_app,List.length_append];omega
 ·split
  ·simp only[enc_app,List.length_append];omega
  ·split<;>(simp only[enc_app,List.length_append];omega)
theorem pad_zero {ph pb:List Nat} {left:Bool} {s:Sp} (h:s.2.2.2.2.2.1.toNat-ph.length-pb.length=0):padP ph pb left s=ph++pb:=by
 unfold padP
 simp only[h]
 split
 ·simp
 ·split
  ·simp
  ·split<;>simp
theorem pad_scal {ph pb:List Nat} (h1:∀ r∈ph,Scal r) (h2:∀ r∈pb,Scal r) (left:Bool) {s:Sp} (g:Good s):∀ r∈padP ph pb left s,Scal r:=by
 have hf:=(fill_scal g).1
 intro r hr
 unfold padP at hr
 simp only at hr
 have key:r∈ph∨r∈pb∨r=fillN s:=by
  split at hr
  ·simp only[List.mem_append,List.mem_replicate]at hr
   rcases hr with (h | h) | h
   ·exact .inl h
   ·exact .inr (.inl h)
   ·exact .inr (.inr h.2)
  ·split at hr
   ·simp only[List.mem_append,List.mem_replicate]at hr
    rcases hr with ((h | h) | h) | h
    ·exact .inr (.inr h.2)
    ·exact .inl h
    ·exact .inr (.inl h)
    ·exact .inr (.inr h.2)
   ·split at hr
    ·simp only[List.mem_append,List.mem_replicate]at hr
     rcases hr with (h | h) | h
     ·exact .inl h
     ·exact .inr (.inr h.2)
     ·exact .inr (.inl h)
    ·simp only[List.mem_append,List.mem_replicate]at hr
     rcases hr with (h | h) | h
     ·exact .inr (.inr h.2)
     ·exact .inl h
     ·exact .inr (.inl h)
 rcases key with h | h | h
 ·exact h1 r h
 ·exact h2 r h
 ·rw[h];exact hf
/-- the two answers of Format, without and with a width -/
structure Two (s1:Sp) (w:Int) (a b:ByteArray × (Int × Int)):Prop where
 cases:(a=b∧a.1=strOf []∧a.2.1≠0)∨(b=(strOf [],(3, -1))∧(a.2.1=0∨a.2.1≠0))∨
  ∃ (ph pb:List Nat) (left:Bool),(∀ r∈ph++pb,Scal r)∧(∀ r∈padP ph pb left s1,Scal r)∧(enc (ph++pb)).length≤4000∧(enc (padP ph pb left s1)).length≤4000∧a=(strOf (enc (ph++pb)),(0,0))∧b=(strOf (enc (padP ph pb left s1)),(0,0))
def s0 (s:Sp):Sp:=(s.1,s.2.1,s.2.2.1,s.2.2.2.1,false,0,s.2.2.2.2.2.2.1,s.2.2.2.2.2.2.2.1,s.2.2.2.2.2.2.2.2.1,s.2.2.2.2.2.2.2.2.2)
def sw (s:Sp) (w:Int):Sp:=(s.1,s.2.1,s.2.2.1,s.2.2.2.1,false,w,s.2.2.2.2.2.2.1,s.2.2.2.2.2.2.2.1,s.2.2.2.2.2.2.2.2.1,s.2.2.2.2.2.2.2.2.2)
theorem fdf_width (v:Vl) (s:Sp) (w:Int):fdf v (sw s w)=fdf v (s0 s):=rfl
theorem two_tot {v:Vl} (hv:VHyp v) {s:Sp} (g:Good s) {w:Int} (h0:0≤w) (h1:w≤400):
 ∃ a b,Tot (fun n=>fmtspec_Format n v (strOf (enc (wr (s0 s))))) (· =a)∧Tot (fun n=>fmtspec_Format n v (strOf (enc (wr (sw s w))))) (· =b)∧Two (sw s w) w a b:=by
 have g0:Good (s0 s):=good_with g (by decide) (by decide)
 have gw:Good (sw s w):=good_with g h0 h1
 by_cases ok:VOk v
 ·refine ⟨_,_,Format_tot hv ok (wr_scal g0) (wr_len g0) (rd_wr g0) g0,Format_tot hv ok (wr_scal gw) (wr_len gw) (rd_wr gw) gw,⟨?_⟩⟩
  obtain ⟨hc,hp⟩:=fd_parts ok g0
  have ef:fdf v (sw s w)=fdf v (s0 s):=fdf_width v s w
  have eh:phf v (sw s w)=phf v (s0 s):=rfl
  have eb:pbf v (sw s w)=pbf v (s0 s):=rfl
  unfold fin
  rw[ef,eh,eb]
  generalize hF:fdf v (s0 s)=F at*
  generalize phf v (s0 s)=ph at*
  generalize pbf v (s0 s)=pb at*
  rcases hc with hc | hc
  ·obtain ⟨x1,x2,x3,x4,x5,x6⟩:=hp hc
   have hz:¬ F.2.1≠0:=by rw[hc];decide
   rw[if_neg hz,if_neg hz]
   have e0:padP ph pb F.1.2.2 (s0 s)=ph++pb:=pad_zero (by show (0:Int).toNat-_-_=0;simp)
   rw[e0]
   have hle:=pad_enc ph pb F.1.2.2 (sw s w)
   by_cases hb:(enc (padP ph pb F.1.2.2 (sw s w))).length≤4000
   ·rw[if_pos hb,if_pos (by omega)]
    exact .inr (.inr ⟨ph,pb,F.1.2.2,fun r hr=>(List.mem_append.1 hr).elim (x3 r) (x4 r),pad_scal x3 x4 _ gw,by omega,hb,rfl,rfl⟩)
   ·rw[if_neg hb]
    exact .inr (.inl ⟨rfl,Classical.em _⟩)
  ·rw[if_pos hc,if_pos hc]
   exact .inl ⟨rfl,rfl,hc⟩
 ·exact ⟨_,_,Format_bad hv ok _,Format_bad hv ok _,⟨.inl ⟨rfl,rfl,by decide⟩⟩⟩
theorem said_w {v:Vl} {s:Sp} {width:Int} (hv:VHyp v) (hok:SpOk s):Tot (fun n=>law4_FmtspecWidths n v s width) (· =true):=by
 unfold law4_FmtspecWidths
 refine Tot.bindq (P:=fun j=>j=false→Good s∧0≤width∧width≤400) ?_ fun j hj=>?_
 ·refine Tot.bindq (SpecFault_tot hok) fun r hr=>?_
  subst hr
  refine Tot.ite (fun h=>Tot.ret fun h=>(by cases h)) (fun h=>?_)
  have h:(spF s).1=0:=by simpa using h
  have hg:Good s:=by
   cases hb:badS s
   ·cases ho:outS s
    ·exact good_of hok hb ho
    ·rw[spF_out hb ho]at h;cases h
   ·rw[spF_bad hb]at h;cases h
  refine Tot.ite (fun h=>Tot.ret fun h=>(by cases h)) (fun h0=>Tot.ite (fun h=>Tot.ret fun h=>(by cases h)) (fun h1=>?_))
  have h0:¬ width<0:=of_decide_eq_false h0
  have h1:¬ width>400:=of_decide_eq_false h1
  exact Tot.ite (fun h=>Tot.ret fun _=>⟨hg,by omega,by omega⟩) (fun h=>Tot.ret fun _=>⟨hg,by omega,by omega⟩)
 refine Tot.ite (fun h=>Tot.ret rfl) (fun h=>?_)
 obtain ⟨g,w0,w1⟩:=hj h
 have g0:Good (s0 s):=good_with g (by decide) (by decide)
 have gw:Good (sw s width):=good_with g w0 w1
 obtain ⟨a,b,ha,hb,⟨hc⟩⟩:=two_tot hv g w0 w1
 refine Tot.bindq (SpecText_tot g0) fun r hr=>?_
 subst hr
 refine Tot.bindq ha fun r hr=>?_
 subst hr
 refine Tot.bindq (SpecText_tot gw) fun r hr=>?_
 subst hr
 refine Tot.bindq hb fun r hr=>?_
 subst hr
 refine Tot.bindq (P:=(· =false)) ?_ fun j hj=>?_
 ·refine Tot.bindq formats_tot fun r hr=>?_
  subst hr
  refine Tot.if_ rfl ?_
  rcases hc with ⟨e,h1,h2⟩ | ⟨e,h1⟩ | ⟨ph,pb,left,c1,c2,c3,c4,e1,e2⟩
  ·subst e
   exact Tot.if_ (by simp) (Tot.ret rfl)
  ·subst e
   exact Tot.ite (fun h=>Tot.bind0 (at_ref 0 3 (-1)) (Tot.ret (by simp))) (fun h=>Tot.ret rfl)
  ·subst e1;subst e2
   exact Tot.if_ (by simp) (Tot.ret rfl)
 subst hj
 refine Tot.if_ rfl ?_
 rcases hc with ⟨e,h1,h2⟩ | ⟨e,h1⟩ | ⟨ph,pb,left,c1,c2,c3,c4,e1,e2⟩
 ·subst e
  exact Tot.it (by simpa using h2) (Tot.ret (by rw[h1];exact str_nil))
 ·subst e
  exact Tot.it rfl (Tot.ret str_nil)
 ·subst e1;subst e2
  refine Tot.if_ rfl ?_
  obtain ⟨n,hn⟩:∃ n,(sw s width).2.2.2.2.2.1.toNat-ph.length-pb.length=n:=⟨_,rfl⟩
  obtain ⟨q1,q2⟩:=pad_places (left:=left) hn
  have hYl:=enc_len_ge (padP ph pb left (sw s width))
  have hXl:=enc_len_ge (ph++pb)
  have hn':width.toNat-ph.length-pb.length=n:=hn
  have hz:n=0→padP ph pb left (sw s width)=ph++pb:=fun e=>pad_zero (by rw[hn,e])
  have hxl:(ph++pb).length=ph.length+pb.length:=List.length_append
  refine Tot.bindq (points_enc c1 (by omega)) fun r hr=>?_
  subst hr
  refine Tot.bindq (points_enc c2 (by omega)) fun r hr=>?_
  subst hr
  generalize hY:padP ph pb left (sw s width)=Y at*
  generalize hX:ph++pb=X at*
  have k1:(X.length:Int)≥width→n=0:=by clear q2 hz;omega
  have k2:¬ (X.length:Int)≥width→(Y.length:Int)=width:=by clear q2 hz;omega
  have k3:(Y.length:Int)-(X.length:Int)=(n:Int):=by clear q2 hz;omega
  have k4:n<4611686018427387904:=by clear q2 hz;omega
  have k5:Y.length≤100000:=by clear q2 hz;omega
  simp only[ints_len]
  refine Tot.if_ ?_ ?_
  ·simp only[Bool.not_true,Bool.false_or]
   by_cases hw:(X.length:Int)≥width
   ·have e:=hz (k1 hw)
    rw[if_pos (decide_eq_true hw),e,str_eq]
    have:¬ (X.length:Int)<width:=by clear q2 hz;omega
    simp[this]
   ·rw[if_neg (by simpa using hw)]
    have:(Y.length:Int)=width:=k2 hw
    simp[this]
  ·refine Tot.bindq (P:=(· =(fillN (sw s width):Int))) ?_ fun j hj=>?_
   ·unfold fillN
    refine Tot.ite (fun h=>Tot.ret ?_) (fun h=>Tot.ret ?_)
    ·have h:s.1=0:=by simpa using h
     rw[if_pos (show (sw s width).1=0 from h),if_neg (show ¬ ((sw s width).2.2.2.2.1=true) by show ¬ (false=true);decide)]
     rfl
    ·have h:s.1≠0:=by simpa using h
     rw[if_neg (show ¬ (sw s width).1=0 from h)]
     have:=gw.fill
     rcases this with h1 | h1
     ·exact absurd h1 h
     ·have:0≤s.1:=h1.2.1
      show s.1=(s.1.toNat:Int)
      omega
   ·subst hj
    rw[iw (x:=(Y.length:Int)-(X.length:Int)) (n:=n) k3 k4]
    refine Tot.some_bind ?_
    have hsc:=scan_tot (X:=X) (Y:=Y) (n:=n) (c:=fillN (sw s width)) q1 k5
    simp only[ints_len]at hsc
    refine Tot.bindq hsc fun r hr=>?_
    rcases hr with hr | ⟨hr,hno⟩
    ·subst hr;exact Tot.contr rfl
    ·subst hr
     refine Tot.contl ?_
     rcases q2 with ⟨i,hi,ht⟩ | q2
     ·exact absurd ht (hno i hi)
     ·have hf:=final_tot q2 k5
      simp only[ints_len]at hf
      exact Tot.bindq hf fun r hr=>Tot.ret hr
theorem FmtspecWidths_said (v:Vl) (s:Sp) (width:Int)
 (hv:inK .i64 v.1∧(True∧(∀ x∈v.2.1.2,inK .u32 x)∧v.2.1.2.length≤maxLen)∧(True∧(∀ x∈v.2.2.1.2,inK .u32 x)∧v.2.2.1.2.length≤maxLen)∧v.2.2.2.1.size≤maxLen∧inK .i64 v.2.2.2.2)
 (hs:inK .i64 s.1∧inK .u8 s.2.1∧inK .u8 s.2.2.1∧True∧True∧inK .i64 s.2.2.2.2.2.1∧inK .u8 s.2.2.2.2.2.2.1∧True∧inK .i64 s.2.2.2.2.2.2.2.2.1∧inK .u8 s.2.2.2.2.2.2.2.2.2) (_:inK .i64 width) (hb:v.2.2.2.1.size+1≤1048576):
 Tot (fun n=>law4_FmtspecWidths n v s width) (· =true):=by
 have hok:SpOk s:=by
  obtain ⟨_,h1,h2,_,_,_,h3,_,_,h4⟩:=hs
  have h1:=inK_u8 h1
  have h2:=inK_u8 h2
  have h3:=inK_u8 h3
  have h4:=inK_u8 h4
  exact ⟨by omega,by omega,by omega,by omega⟩
 obtain ⟨_,⟨_,hn,_⟩,⟨_,hd,_⟩,_,_⟩:=hv
 exact said_w ⟨fun x hx=>inK_u32 (hn x hx),fun x hx=>inK_u32 (hd x hx),by omega⟩ hok
end Go.Gv.P
