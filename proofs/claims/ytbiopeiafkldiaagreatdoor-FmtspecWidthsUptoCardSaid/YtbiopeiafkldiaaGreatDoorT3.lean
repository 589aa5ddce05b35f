import Derived.Test.YtbiopeiafkldiaaGreatDoorT0
set_option linter.all false
namespace Go.Gv.P
open Go Go.Gv Go.Gv.D Go.Gv.R Go.Lib
set_option maxRecDepth 100000
abbrev Sp:=Int × Int × Int × Bool × Bool × Int × Int × Bool × Int × Int
def zS:Sp:=(0,0,0,false,false,0,0,false,0,0)
def wd (l:List Nat):Int × List Nat:=if l.head? =some 48 then (0,l) else (if 0<(nb l).1 then (nb l).1 else 0,(nb l).2)
def prc (q:Nat × List Nat):Bool × Int × List Nat:=if ((q.1:Int)!=0)=true then (true,(nb q.2).1,(nb q.2).2) else (false,0,q.2)
/-- what is read behind the filling -/
def rdP (fill:Int) (l0:List Nat):Sp × (Int × Int):=
 let a:=tk AL l0
 let g:=tk SG a.2
 let b:=tk BA g.2
 let z:=tk ZE b.2
 let w:=wd z.2
 let gr:=tk GR w.2
 let pr:=prc (tk PT gr.2)
 let ty:=tk TY pr.2.2
 if ty.2≠[]∨pr.2.1<0 then (zS,(1, -1)) else if w.1>400∨pr.2.1>400 then (zS,(4, -1)) else
  (((fill,(a.1:Int),(g.1:Int),((b.1:Int)!=0),((z.1:Int)!=0),w.1,(gr.1:Int),pr.1,pr.2.1,(ty.1:Int)):Sp),(0,0))
def rd:List Nat→Sp × (Int × Int)
 | c::d::r=>if inC AL d=true then (if c=123∨c=125∨c=0 then (zS,(1, -1)) else rdP c (d::r)) else rdP 0 (c::d::r)
 | p=>rdP 0 p
theorem enc_suffix {l m:List Nat} (h:l <:+ m):(enc l).length≤(enc m).length:=by
 obtain ⟨t,rfl⟩:=h
 rw[enc_app,List.length_append];omega
theorem tk_suffix {S:List UInt8} {l:List Nat}:(tk S l).2 <:+ l:=by
 cases l with
 | nil=>exact List.suffix_refl _
 | cons c r=>
   simp only[tk]
   split
   ·exact List.suffix_cons ..
   ·exact List.suffix_refl _
theorem nb_suffix {l:List Nat}:(nb l).2 <:+ l:=by
 cases l with
 | nil=>exact List.suffix_refl _
 | cons c r=>
   simp only[nb]
   split
   ·exact List.suffix_cons ..
   ·split
    ·exact List.dropWhile_suffix _
    ·exact List.suffix_refl _
theorem wd_suffix {l:List Nat}:(wd l).2 <:+ l:=by
 unfold wd;split
 ·exact List.suffix_refl _
 ·exact nb_suffix
theorem prc_suffix {q:Nat × List Nat}:(prc q).2.2 <:+ q.2:=by
 unfold prc;split
 ·exact nb_suffix
 ·exact List.suffix_refl _
theorem scal_suffix {l m:List Nat} (h:l <:+ m) (hm:∀ r∈m,Scal r):∀ r∈l,Scal r:=fun r hr=>hm r (h.subset hr)
theorem enc_eq_nil {l:List Nat}:enc l=[]↔l=[]:=by
 constructor
 ·intro h
  cases l with
  | nil=>rfl
  | cons c r=>exact absurd h enc_ne
 ·rintro rfl;rfl
theorem str_emp {l:List Nat}:((strOf (enc l)).toList==(strOf []).toList)=decide (l=[]):=by
 rw[str_eq]
 refine decide_eq_decide.2 ⟨fun e=>?_,fun e=>by rw[e];rfl⟩
 have:=congrArg bytesOf e
 rw[bytes_str,bytes_str]at this
 exact enc_eq_nil.1 this
theorem at_eq (n:Nat) (a b:Int):fmtspec_at n a b=some (a,b):=rfl
theorem Parse_tot {p:List Nat} (hp:∀ r∈p,Scal r) (hz:(enc p).length≤40):Tot (fun n=>fmtspec_Parse n (strOf (enc p))) (· =rd p):=by
 unfold fmtspec_Parse
 refine Tot.some_bind (Tot.if_ (decide_eq_false (by rw[size_str];omega)) ?_)
 refine Tot.bindq (P:=(· =true)) ((ValidString_tot (by rw[size_str];omega)).mono fun r hr=>by rw[hr,bytes_str,valid_enc p hp]) fun r hr=>?_
 subst hr
 refine Tot.if_ rfl ?_
 refine Tot.bindq (P:=fun r=>(p=[]∧r=(65533,0))∨∃ c t,p=c::t∧r=((c:Int),(((encR c).length:Nat):Int))) ?_ fun r86 hr=>?_
 ·cases p with
  | nil=>exact Decode0_tot.mono fun r hr=>.inl ⟨rfl,hr⟩
  | cons c t=>
    have hc:=hp c (List.mem_cons_self ..)
    refine (DecodeS_tot (List.length_pos_iff.2 enc_ne)).mono fun r hr=>.inr ⟨c,t,rfl,?_⟩
    rw[hr,enc_cons,decode_enc c hc]
 refine Tot.bindq (P:=(· =match p with | _::d::_=>inC AL d | _=>false)) ?_ fun j hj=>?_
 ·rcases hr with ⟨rfl,rfl⟩ | ⟨c,t,rfl,rfl⟩
  ·exact Tot.if_ rfl (Tot.ret rfl)
  ·have hpos:=(encR_pos c).1
   refine Tot.it (decide_eq_true (by dsimp only;omega)) ?_
   cases t with
   | nil=>exact Tot.if_ (decide_eq_false (by rw[size_str,enc_cons,show enc []=[] from rfl,List.append_nil];dsimp only;omega)) (Tot.ret rfl)
   | cons d r=>
     have hd:=hp d (by simp)
     obtain ⟨b,t,e,_,_⟩:=head_enc hd r
     obtain ⟨h1,_⟩:=inC_head AL_ok hd e
     have hlt:(encR c).length<(enc (c::d::r)).length:=by rw[enc_cons,e,List.length_append];simp
     refine Tot.it (decide_eq_true (by rw[size_str];dsimp only;omega)) ?_
     have hs:=getD_sidx hlt
     have hg:(enc (c::d::r)).getD (encR c).length 0=b:=by rw[enc_cons,e];simp
     rw[hg]at hs
     exact Tot.bind0 hs (Tot.bindq (in_tot AL_ok b) fun x hx=>Tot.ret (by rw[hx,h1]))
 subst hj
 refine Tot.bindq (P:=fun x=>(x= .inr (zS,((1:Int),(-1:Int)))∧rd p=(zS,(1, -1)))∨∃ (fill:Int) (l0:List Nat),x= .inl (zS,((0:Int),(0:Int)),((fill,0,0,false,false,0,0,false,0,0):Sp),strOf (enc l0))∧rd p=rdP fill l0∧l0 <:+ p) ?_ fun s137 hs=>?_
 ·refine Tot.ite (fun h=>?_) (fun h=>Tot.ret (.inr ⟨0,p,rfl,?_,List.suffix_refl _⟩))
  ·rcases hr with ⟨rfl,rfl⟩ | ⟨c,t,rfl,rfl⟩
   ·cases h
   cases t with
   | nil=>cases h
   | cons d r=>
     have h:inC AL d=true:=h
     have hrd:rd (c::d::r)=if c=123∨c=125∨c=0 then (zS,(1, -1)) else rdP c (d::r):=by simp only[rd,if_pos h]
     have hb:(((c:Int)==123)||(((c:Int)==125)||((c:Int)==0)))=decide (c=123∨c=125∨c=0):=by
      rw[Bool.eq_iff_iff,Bool.or_eq_true,Bool.or_eq_true,beq_iff_eq,beq_iff_eq,beq_iff_eq,decide_eq_true_eq];omega
     refine Tot.ite (fun hh=>?_) (fun hh=>?_)
     ·rw[hb]at hh
      exact Tot.some_bind (Tot.ret (.inl ⟨rfl,by rw[hrd,if_pos (of_decide_eq_true hh)]⟩))
     ·rw[hb]at hh
      have hlen:(enc (c::d::r)).length=(encR c).length+(enc (d::r)).length:=by rw[enc_cons,List.length_append]
      have hsub:=ssub_str (l:=enc (c::d::r)) (i:=(encR c).length) (j:=(enc (c::d::r)).length) (by omega) (Nat.le_refl _)
      rw[List.take_length,enc_cons,List.drop_left,← enc_cons]at hsub
      refine Tot.bind0 (by rw[size_str];exact hsub) (Tot.ret (.inr ⟨c,d::r,?_,by rw[hrd,if_neg (of_decide_eq_false hh)],List.suffix_cons ..⟩))
      have hc:=hp c (List.mem_cons_self ..)
      have:IntKind.i64.wrap (c:Int)=(c:Int):=i64_small (by omega) (by unfold Scal at hc;omega)
      simp only[this];rfl
  ·cases p with
   | nil=>rfl
   | cons c t=>
     cases t with
     | nil=>rfl
     | cons d r=>
       have h:inC AL d=false:=h
       simp only[rd,h,Bool.false_eq_true,if_false]
 rcases hs with ⟨rfl,e⟩ | ⟨fill,l0,rfl,e,hsf⟩
 ·exact Tot.contr e.symm
 rw[e]
 have hl0:=scal_suffix hsf hp
 have hz0:(enc l0).length≤40:=by have:=enc_suffix hsf;omega
 refine Tot.contl ?_
 refine Tot.bindq (take_tot AL_ok hl0) fun ra ha=>?_
 subst ha
 have f1:=tk_suffix (S:=AL) (l:=l0)
 refine Tot.bindq (take_tot SG_ok (scal_suffix f1 hl0)) fun rg hg=>?_
 subst hg
 have f2:=(tk_suffix (S:=SG)).trans f1
 refine Tot.bindq (take_tot BA_ok (scal_suffix f2 hl0)) fun rb hb=>?_
 subst hb
 have f3:=(tk_suffix (S:=BA)).trans f2
 refine Tot.bindq (take_tot ZE_ok (scal_suffix f3 hl0)) fun rz hzz=>?_
 subst hzz
 have f4:=(tk_suffix (S:=ZE)).trans f3
 generalize hzd:tk ZE (tk BA (tk SG (tk AL l0).2).2).2=z at f4
 have hzl:=scal_suffix f4 hl0
 refine Tot.bindq (P:=(· =decide (z.2.head? ≠some 48))) ?_ fun j hj=>?_
 ·refine Tot.ite (fun h=>?_) (fun h=>?_)
  ·rw[str_emp]at h
   rw[of_decide_eq_true h];exact Tot.ret rfl
  ·cases hz2:z.2 with
   | nil=>rw[hz2,show enc []=[] from rfl,str_nil]at h;cases h
   | cons c r=>
     rw[hz2]at hzl
     obtain ⟨b,t,e2,g1,g2⟩:=head_enc (hzl c (List.mem_cons_self ..)) r
     rw[e2]
     refine Tot.bind0 (sidx0 b t) (Tot.ret ?_)
     rw[Bool.eq_iff_iff,bne_iff_ne,decide_eq_true_eq,List.head?_cons,ne_eq,ne_eq,Option.some.injEq]
     rcases Nat.lt_or_ge c 128 with hc | hc
     ·rw[(g1 hc).1,ofNat_toNat' hc];omega
     ·have:=g2 hc;omega
 subst hj
 refine Tot.bindq (P:=(· =(((fill,((tk AL l0).1:Int),((tk SG (tk AL l0).2).1:Int),(((tk BA (tk SG (tk AL l0).2).2).1:Int)!=0),((z.1:Int)!=0),(wd z.2).1,0,false,0,0):Sp),strOf (enc (wd z.2).2)))) ?_ fun j hj=>?_
 ·refine Tot.ite (fun h=>?_) (fun h=>?_)
  ·have h:=of_decide_eq_true h
   refine Tot.bindq (number_tot hzl (by have:=enc_suffix f4;omega)) fun r hr=>Tot.ret ?_
   subst hr
   unfold wd;rw[if_neg h]
  ·have h:=of_decide_eq_false h
   refine Tot.ret ?_
   unfold wd;rw[if_pos (Classical.not_not.1 h)]
 subst hj
 have f5:=(wd_suffix (l:=z.2)).trans f4
 refine Tot.bindq (take_tot GR_ok (scal_suffix f5 hl0)) fun rgr hgr=>?_
 subst hgr
 have f6:=(tk_suffix (S:=GR)).trans f5
 refine Tot.bindq (take_tot PT_ok (scal_suffix f6 hl0)) fun rp hrp=>?_
 subst hrp
 have f7:=(tk_suffix (S:=PT)).trans f6
 generalize hpd:tk PT (tk GR (wd z.2).2).2=pq at f7
 have hpl:=scal_suffix f7 hl0
 refine Tot.bindq (P:=(· =(((fill,((tk AL l0).1:Int),((tk SG (tk AL l0).2).1:Int),(((tk BA (tk SG (tk AL l0).2).2).1:Int)!=0),((z.1:Int)!=0),(wd z.2).1,((tk GR (wd z.2).2).1:Int),(prc pq).1,(prc pq).2.1,0):Sp),strOf (enc (prc pq).2.2)))) ?_ fun j hj=>?_
 ·refine Tot.ite (fun h=>?_) (fun h=>?_)
  ·refine Tot.bindq (number_tot hpl (by have:=enc_suffix f7;omega)) fun r hr=>Tot.ret ?_
   subst hr
   unfold prc;rw[if_pos h]
  ·refine Tot.ret ?_
   unfold prc;rw[if_neg (by rw[h];decide)]
 subst hj
 have f8:=(prc_suffix (q:=pq)).trans f7
 refine Tot.bindq (take_tot TY_ok (scal_suffix f8 hl0)) fun rt hrt=>?_
 subst hrt
 have hrdP:rdP fill l0=if (tk TY (prc pq).2.2).2≠[]∨(prc pq).2.1<0 then (zS,(1, -1)) else if (wd z.2).1>400∨(prc pq).2.1>400 then (zS,(4, -1)) else
  (((fill,((tk AL l0).1:Int),((tk SG (tk AL l0).2).1:Int),(((tk BA (tk SG (tk AL l0).2).2).1:Int)!=0),((z.1:Int)!=0),(wd z.2).1,((tk GR (wd z.2).2).1:Int),(prc pq).1,(prc pq).2.1,((tk TY (prc pq).2.2).1:Int)):Sp),(0,0)):=by
  subst hpd;subst hzd;rfl
 rw[hrdP]
 refine Tot.bindq (P:=(· =decide ((tk TY (prc pq).2.2).2≠[]∨(prc pq).2.1<0))) ?_ fun j hj=>?_
 ·rw[str_emp]
  refine Tot.ite (fun h=>Tot.ret ?_) (fun h=>Tot.ret ?_)
  ·simp only[Bool.not_eq_true',decide_eq_false_iff_not]at h
   exact (decide_eq_true (.inl h)).symm
  ·simp only[Bool.not_eq_false',decide_eq_true_eq]at h
   refine decide_eq_decide.2 ⟨fun hh=>.inr hh,fun hh=>hh.elim (fun hh=>absurd h hh) id⟩
 subst hj
 refine Tot.ite (fun h=>?_) (fun h=>?_)
 ·rw[if_pos (of_decide_eq_true h)]
  exact Tot.some_bind (Tot.ret rfl)
 rw[if_neg (of_decide_eq_false h)]
 refine Tot.bindq (P:=(· =decide ((wd z.2).1>400∨(prc pq).2.1>400))) ?_ fun j hj=>?_
 ·refine Tot.ite (fun h=>Tot.ret (decide_eq_true (.inl (of_decide_eq_true h))).symm) (fun h=>Tot.some_bind (Tot.ret ?_))
  have h:=of_decide_eq_false h
  exact decide_eq_decide.2 ⟨fun hh=>.inr hh,fun hh=>hh.elim (fun hh=>absurd hh h) id⟩
 subst hj
 refine Tot.ite (fun h=>?_) (fun h=>?_)
 ·rw[if_pos (of_decide_eq_true h)]
  exact Tot.some_bind (Tot.ret rfl)
 ·rw[if_neg (of_decide_eq_false h)]
  exact Tot.ret rfl
end Go.Gv.P
namespace Go.Gv.P
open Go Go.Gv Go.Gv.D Go.Gv.R Go.Lib
set_option maxRecDepth 100000
def hdC (S:List UInt8) (l:List Nat):Bool:=match l with | c::_=>inC S c | []=>false
theorem tk_hd (S:List UInt8) (l:List Nat):tk S l=if hdC S l then (l.headD 0,l.tail) else (0,l):=by
 cases l with
 | nil=>rfl
 | cons c r=>rfl
theorem twN_dwN (l:List Nat):twN l++dwN l=l:=List.takeWhile_append_dropWhile
theorem dg_range {c:Nat} (h:dgN c=true):48≤c∧c≤57:=by simpa [dgN] using h
theorem val_snoc {l:List Nat} {c:Nat} (h:dgN c=true):valN 0 (enc (l++[c]))=10*valN 0 (enc l)+(c-48):=by
 have hc:=dg_range h
 rw[enc_app,show enc [c]=[UInt8.ofNat c] by rw[enc_cons,encR1 (by omega)];rfl,valN_snoc,ofNat_toNat' (by omega)]
end Go.Gv.P
