import Derived.Test.YtmpmeiihjnnomaaGreatDoorX1
set_option linter.all false
open Go.Gv.Tot renaming ret->aa,bindq->ad,if_->ag,bind0->ai,it->ak
open Bool renaming false_eq_true->ab,eq_iff_iff->am,true_and->ar,and_eq_true->ay
open List renaming length_append->ac,length_cons->ae,append_nil->aj,append_assoc->al,flatten_cons->an,length_nil->ao,length->ap,flatten_nil->aq,take_append_of_le_length->au,take_of_length_le->av,length_singleton->aw,flatMap_cons->ax,nil_append->az,singleton_append->aA,intercalate->aB,map_cons->aC
open Int renaming reduceBEq->af
open Nat renaming le_refl->aD
namespace Go.Gv.X
open Go Go.Gv Go.Gv.D Go.Gv.R Go.Gv.P Go.Lib
set_option maxRecDepth 100000
def PL (lg:Bool) (l m:List Pc):Prop:=m.map Pc.kind=l.map Pc.kind∧(lg=false->m=l)
theorem PL.len {lg:Bool} {l m:List Pc} (h:PL lg l m):m.length=l.length:=by have:=congrArg ap h.1;simpa using this
noncomputable def ziS (l_0:List (Int × Int)) (fuel:Nat) (s4:Int):Option (Int ⊕ (Unit ⊕ Bool)):=
 (if (decide (s4<((ap l_0:Nat):Int))) then (Option.bind (idx l_0 s4) fun x9=>(Option.bind (Option.bind (zyn fuel x9.1) fun r28=>(if (!r28) then (some (true)) else (Option.bind (zyn fuel x9.2) fun r45=>(if (!r45) then (some (true)) else (if (decide (x9.1>x9.2)) then (some (true)) else (if (decide (s4>0)) then (Option.bind (idx l_0 (IntKind.i64.wrap (s4-1))) fun x70=>(some ((decide (x9.1<=(IntKind.i64.wrap (x70.2+1))))))) else (some (false)))))))) fun (j22:Bool)=>(if j22 then (some (.inr (.inr (false)))) else (some (.inl (IntKind.i64.wrap (s4+1))))))) else (some (.inr (.inl ()))))
noncomputable def ziC (l_0:List (Int × Int)) (fuel:Nat) (s103:(Bool × Int)):Option ((Bool × Int) ⊕ Bool):=
 (if (decide (s103.2<((ap l_0:Nat):Int))) then (Option.bind (idx l_0 s103.2) fun x114=>(Option.bind (idx l_0 s103.2) fun x118=>(Option.bind (if s103.1 then (Option.bind (zyV fuel x114.1) fun r124=>(if r124 then (Option.bind (zyV fuel x118.2) fun r131=>(if r131 then (if (decide (x114.1<=x118.2)) then (if (s103.2==0) then (some (true)) else (Option.bind (idx l_0 (IntKind.i64.wrap (s103.2-1))) fun x147=>(Option.bind (some (decide ((IntKind.i64.wrap (x114.1-x147.2))>=2))) fun n151=>(some (n151))))) else (some (false))) else (some (false)))) else (some (false)))) else (some (false))) fun (j121:Bool)=>(some (.inl (j121,(IntKind.i64.wrap (s103.2+1)))))))) else (some (.inr (s103.1))))
noncomputable def ziM (s_0:List Int) (v_1:Int) (s4:Int):Option (Int ⊕ (Unit ⊕ Int)):=
 (if (decide (s4<((ap s_0:Nat):Int))) then (Option.bind (idx s_0 s4) fun x9=>(if (v_1==x9) then (some (.inr (.inr (s4)))) else (some (.inl (IntKind.i64.wrap (s4+1)))))) else (some (.inr (.inl ()))))
noncomputable def zil (s_0:List Pc) (f_1c0:List Int) (fuel:Nat) (s4:Int):Option (Int ⊕ (Unit ⊕ Int)):=
 (if (decide (s4<((ap s_0:Nat):Int))) then (Option.bind (idx s_0 s4) fun x10=>(Option.bind (zyT fuel ((Pc.un x10).1,(Pc.un x10).2.1,(Pc.un x10).2.2.1,(Pc.un x10).2.2.2.1,(Pc.un x10).2.2.2.2.1,(Pc.un x10).2.2.2.2.2.1,(Pc.un x10).2.2.2.2.2.2) f_1c0) fun r19=>(if r19 then (some (.inr (.inr (s4)))) else (some (.inl (IntKind.i64.wrap (s4+1))))))) else (some (.inr (.inl ()))))
noncomputable def zhu (l_0:List Pc) (kinds_1:List Int) (fuel:Nat) (s4:Int):Option (Int ⊕ (Unit ⊕ Bool)):=
 (if (decide (s4<((ap l_0:Nat):Int))) then (Option.bind (zzf (fun (s12:Int)=>(if (decide (s12<((ap kinds_1:Nat):Int))) then (Option.bind (idx l_0 s4) fun x19=>(Option.bind (idx kinds_1 s12) fun x22=>(if ((Pc.un x19).1==x22) then (some (.inr (.inr (.inr (.inr (true)))))) else (some (.inl (IntKind.i64.wrap (s12+1))))))) else (some (.inr (.inl ()))))) fuel 0) (zyA fun (s10:Unit)=>(some (.inl (IntKind.i64.wrap (s4+1)))))) else (some (.inr (.inl ()))))
noncomputable def ziw (l_0:List Pc) (kinds_1:List Int) (s4:Int) (s12:Int):Option (Int ⊕ (Unit ⊕ (Int ⊕ (Unit ⊕ Bool)))):=
 (if (decide (s12<((ap kinds_1:Nat):Int))) then (Option.bind (idx l_0 s4) fun x19=>(Option.bind (idx kinds_1 s12) fun x22=>(if ((Pc.un x19).1==x22) then (some (.inr (.inr (.inr (.inr (true)))))) else (some (.inl (IntKind.i64.wrap (s12+1))))))) else (some (.inr (.inl ()))))
theorem zto (n:Nat) (c:Int):zyn n c=some (scal c):=by
 unfold zyn zxq scal
 by_cases h1:c>=0
 ·rw[if_pos (dtt h1)]
  by_cases h2:c<=1114111
  ·rw[if_pos (dtt h2)]
   have hw:IntKind.i32.wrap c=c:=by simp[IntKind.wrap,IntKind.signed,IntKind.bits];omega
   rw[hw]
   by_cases h3:c<55296
   ·rw[if_pos oss,dtt om];rfl
   ·rw[if_neg oss]
    by_cases h4:57343<c
    ·rw[if_pos oss,dtt om];rfl
    ·rw[if_neg oss,dff om];rfl
  ·rw[if_neg (by simpa using h2),dff om];rfl
 ·rw[if_neg (by simpa using h1),dff om];rfl
theorem ztZ (n:Nat) (c:Int):zyV n c=some (scal c):=by
 unfold zyV scal
 congr 1
 rw[am]
 simp only[ge_iff_le,Bool.ite_eq_true_distrib,Bool.or_eq_true,ay,decide_eq_true_eq]
 split<;>omega
def nxt:Option Int->Int->Bool
 | none,_=>true
 | some h,lo=>decide (h+1<lo)
def ordT:List (Int × Int)->Option Int->Bool
 | [],_=>true
 | x::r,prev=>(scal x.1&&(scal x.2&&(decide (x.1<=x.2)&&nxt prev x.1)))&&ordT r (some x.2)
def zme (prev:Option Int) (l:List (Int × Int)):Bool:=ordT l prev
theorem zsN (prev:Option Int):zme prev []=true:=rfl
theorem zwZ (prev:Option Int) (x:Int × Int) (r:List (Int × Int)):zme prev (x::r)=((scal x.1&&(scal x.2&&(decide (x.1<=x.2)&&nxt prev x.1)))&&zme (some x.2) r):=rfl
theorem znQ (h:Int) (y:Int × Int) (r:List (Int × Int)):zme (some h) (y::r)=(decide (h+1<y.1)&&zme none (y::r)):=by
 rw[zwZ,zwZ]
 show ((scal y.1&&(scal y.2&&(decide (y.1<=y.2)&&decide (h+1<y.1))))&&_)=(decide (h+1<y.1)&&((scal y.1&&(scal y.2&&(decide (y.1<=y.2)&&true)))&&_))
 generalize zme (some y.2) r=z
 generalize decide (h+1<y.1)=u
 cases scal y.1<;>cases scal y.2<;>cases decide (y.1<=y.2)<;>cases u<;>cases z<;>rfl
theorem zqm:∀ l:List (Int × Int),zme none l=zu9 l
 | []=>rfl
 | [x]=>by rw[zwZ,zsN,zu9];simp[nxt]
 | x::y::r=>by
   have ih:=zqm (y::r)
   rw[zu9,<- ih,<- znQ]
   rw[zwZ]
   simp only[nxt,Bool.and_true,Bool.and_assoc]
theorem ztw {c:Int} (h:scal c=true):0<=c∧c<=1114111:=by
 unfold scal at h
 simp only[decide_eq_true_eq]at h
 omega
def zkb (pre:List (Int × Int)) (prev:Option Int):Prop:=match prev with
 | none=>pre=[]
 | some h=>(∃ p' y,pre=p'++[y]∧y.2=h)∧0<=h∧h<=1114111
theorem zrG {pre:List (Int × Int)} {x:Int × Int} (h:scal x.2=true):zkb (pre++[x]) (some x.2):=⟨⟨pre,x,rfl,rfl⟩,ztw h⟩
theorem zkl {l:List (Int × Int)} (hl:l.length<=4000000000000000000):∀ (rest pre:List (Int × Int)) (prev:Option Int),l=pre++rest->zkb pre prev->LT (ziS l) (pre.length:Int) (· =if zme prev rest then .inl () else .inr false)
 | [],pre,prev,e,_=>by
   refine LT.fin (r:=.inl ()) (Tot.alln fun n=>?_) (by rw[zsN,if_pos rfl])
   unfold ziS
   rw[if_neg]
   rw[e,aj,dff om];decide
 | x::rest,pre,prev,e,hp=>by
   have b:=hl
   rw[e,ac,ae]at b
   have a:∀ n,ziS l n (pre.length:Int)=if (scal x.1&&(scal x.2&&(decide (x.1<=x.2)&&nxt prev x.1)))=true then some (.inl ((pre.length+1:Nat):Int)) else some (.inr (.inr false)):=fun n=>by
    unfold ziS
    rw[if_pos (dtt (by rw[e,ac,ae];omega))]
    rw[show idx l (pre.length:Int)=some x by rw[e];exact zzL pre x rest rfl]
    simp only[Option.bind_some]
    rw[zto,zzw (x:=(pre.length:Int)+1) om om]
    simp only[Option.bind_some]
    cases h1:scal x.1 with
    | false=>rfl
    | true=>
    simp only[Bool.not_true,ab,if_false,ar]
    rw[zto]
    simp only[Option.bind_some]
    cases h2:scal x.2 with
    | false=>rfl
    | true=>
    simp only[Bool.not_true,ab,if_false,ar]
    by_cases h3:x.1<=x.2
    ·rw[if_neg (by rw[dff om];decide),dtt h3,ar]
     cases prev with
     | none=>
       have hp:pre=[]:=hp
       subst hp
       rfl
     | some h=>
       obtain ⟨⟨p',y,rfl,rfl⟩,h4,h5⟩:=hp
       rw[if_pos (dtt (by simp))]
       have hw:IntKind.i64.wrap ((((p'++[y]).length:Nat):Int)-1)=(p'.length:Int):=by
        rw[ac,aw]at b ⊢
        rw[zzw om om];omega
       rw[hw,show idx l (p'.length:Int)=some y by rw[e,al];exact zzL p' y _ rfl]
       simp only[Option.bind_some]
       rw[zzw (x:=y.2+1) om om]
       by_cases h6:y.2+1<x.1
       ·rw[dff om,show nxt (some y.2) x.1=true from dtt h6];rfl
       ·rw[dtt om,show nxt (some y.2) x.1=false from dff h6];rfl
    ·rw[if_pos (dtt om),dff h3]
     rfl
   rw[zwZ]
   generalize hc:(scal x.1&&(scal x.2&&(decide (x.1<=x.2)&&nxt prev x.1)))=c at a ⊢
   cases c with
   | false=>
     exact LT.fin (r:=.inr false) (Tot.alln fun n=>by rw[a];rfl) rfl
   | true=>
     have h2:scal x.2=true:=by simp only[ay]at hc;exact hc.2.1
     have ih:=zkl hl rest (pre++[x]) (some x.2) (by rw[e];simp) (zrG h2)
     rw[show (((pre++[x]).length:Nat):Int)=((pre.length+1:Nat):Int) by simp]at ih
     rw[ar]
     exact LT.step (Tot.alln fun n=>by rw[a];rfl) ih
theorem zqr {l:List (Int × Int)} (hl:l.length<=4000000000000000000):Tot (fun n=>zyE n l) (· =(zu9 l&& !l.isEmpty)):=by
 unfold zyE
 refine ad (LT.tot (F:=ziS l) (zkl hl l [] none rfl rfl)) fun a e=>?_
 subst e
 rw[zqm]
 cases zu9 l with
 | false=>exact aa rfl
 | true=>
   refine aa ?_
   cases l with
   | nil=>rfl
   | cons x l=>simp
theorem zlA {l:List (Int × Int)} (hl:l.length<=4000000000000000000):∀ (rest pre:List (Int × Int)) (prev:Option Int) (f:Bool),l=pre++rest->(f=true->zkb pre prev)->LT (ziC l) (f,(pre.length:Int)) (· =(f&&zme prev rest))
 | [],pre,prev,f,e,_=>by
   refine LT.fin (Tot.alln fun n=>?_) (by rw[zsN,Bool.and_true])
   unfold ziC
   rw[if_neg]
   rw[e,aj,dff om];decide
 | x::rest,pre,prev,f,e,hp=>by
   have b:=hl
   rw[e,ac,ae]at b
   have a:∀ n,ziC l n (f,(pre.length:Int))=some (.inl (f&&(scal x.1&&(scal x.2&&(decide (x.1<=x.2)&&nxt prev x.1))),((pre.length+1:Nat):Int))):=fun n=>by
    unfold ziC
    rw[if_pos (dtt (by simp only;rw[e,ac,ae];omega))]
    simp only
    rw[show idx l (pre.length:Int)=some x by rw[e];exact zzL pre x rest rfl]
    simp only[Option.bind_some]
    rw[zzw (x:=(pre.length:Int)+1) om om]
    cases f with
    | false=>rfl
    | true=>
    have hp:=hp rfl
    simp only[if_true,ar]
    rw[ztZ]
    simp only[Option.bind_some]
    cases h1:scal x.1 with
    | false=>rfl
    | true=>
    simp only[if_true,ar]
    rw[ztZ]
    simp only[Option.bind_some]
    cases h2:scal x.2 with
    | false=>rfl
    | true=>
    simp only[if_true,ar]
    by_cases h3:x.1<=x.2
    ·rw[if_pos (dtt h3),dtt h3,ar]
     cases prev with
     | none=>
       have hp:pre=[]:=hp
       subst hp
       rfl
     | some h=>
       obtain ⟨⟨p',y,rfl,rfl⟩,h4,h5⟩:=hp
       have hx:=ztw h1
       rw[if_neg oss]
       have hw:IntKind.i64.wrap ((((p'++[y]).length:Nat):Int)-1)=(p'.length:Int):=by
        rw[ac,aw]at b ⊢
        rw[zzw om om];omega
       rw[hw,show idx l (p'.length:Int)=some y by rw[e,al];exact zzL p' y _ rfl]
       simp only[Option.bind_some]
       rw[zzw (x:=x.1-y.2) om om]
       have:decide (x.1-y.2>=2)=decide (y.2+1<x.1):=by rw[am];simp only[decide_eq_true_eq];omega
       rw[this];rfl
    ·rw[if_neg (by rw[dff h3];decide),dff h3]
     rfl
   rw[zwZ]
   generalize hc:(scal x.1&&(scal x.2&&(decide (x.1<=x.2)&&nxt prev x.1)))=c at a ⊢
   have h2:c=true->scal x.2=true:=fun d=>by rw[d]at hc;simp only[ay]at hc;exact hc.2.1
   have ih:=zlA hl rest (pre++[x]) (some x.2) (f&&c) (by rw[e];simp) (fun h=>zrG (h2 (by simp only[ay]at h;exact h.2)))
   rw[show (((pre++[x]).length:Nat):Int)=((pre.length+1:Nat):Int) by simp]at ih
   rw[<- Bool.and_assoc]
   exact LT.step (Tot.alln fun n=>by rw[a]) ih
theorem ztQ {ks:List Int} (hl:ks.length<=1000) (v:Int):∀ (rest pre:List Int),ks=pre++rest->LT (fun _=>ziM ks v) (pre.length:Int) (fun y=>(rest.contains v=true∧∃ i:Int,0<=i∧y= .inr i)∨(rest.contains v=false∧y= .inl ()))
 | [],pre,e=>by
   refine LT.fin (Tot.alln fun n=>?_) (.inr ⟨rfl,rfl⟩)
   unfold ziM
   rw[if_neg]
   rw[e,aj,dff om];decide
 | x::rest,pre,e=>by
   have b:=hl
   rw[e,ac,ae]at b
   have a:ziM ks v (pre.length:Int)=if v=x then some (.inr (.inr (pre.length:Int))) else some (.inl ((pre.length+1:Nat):Int)):=by
    unfold ziM
    rw[if_pos (dtt (by rw[e,ac,ae];omega))]
    rw[show idx ks (pre.length:Int)=some x by rw[e];exact zzL pre x rest rfl]
    simp only[Option.bind_some]
    rw[zzw (x:=(pre.length:Int)+1) om om]
    by_cases h:v=x
    ·rw[if_pos h,if_pos (beq_iff_eq.2 h)]
    ·rw[if_neg h,if_neg (by simpa using h)];rfl
   by_cases h:v=x
   ·exact LT.fin (Tot.alln fun n=>by rw[a,if_pos h]) (.inl ⟨by simp[h],(pre.length:Int),om,rfl⟩)
   ·have ih:=ztQ hl v rest (pre++[x]) (by rw[e];simp)
    rw[show (((pre++[x]).length:Nat):Int)=((pre.length+1:Nat):Int) by simp]at ih
    have hc:(x::rest).contains v=rest.contains v:=by rw[List.contains_cons];simp[h]
    rw[hc]
    exact LT.step (Tot.alln fun n=>by rw[a,if_neg h]) ih
theorem zrS {ks:List Int} (hl:ks.length<=1000) (v:Int):Tot (fun n=>zzO n ks v) (· =ks.contains v):=by
 unfold zzO zz0
 refine ad (P:=fun r=>decide (r>=0)=ks.contains v) (ad (LT.tot (F:=fun _=>ziM ks v) (ztQ hl v ks [] rfl)) fun y hy=>?_) fun a e=>aa e
 rcases hy with ⟨h1,i,h2,rfl⟩ | ⟨h1,rfl⟩
 ·exact aa (by rw[h1];exact dtt h2)
 ·exact aa (by rw[h1];rfl)
theorem zq1 (ks:List Int) (p:Pc) (l:List Pc):kin ks (p::l)=(ks.contains (Pc.kind p)||kin ks l):=by unfold kin;rw[List.any_cons]
theorem zoR (p:Pc):(Pc.un p).1=Pc.kind p:=by cases p;rfl
theorem zlC {ks:List Int} (hk:ks.length<=1000) {l:List Pc} (hl:l.length<=4000000000000000000):∀ (rest pre:List Pc),l=pre++rest->LT (zil l ks) (pre.length:Int) (fun y=>(kin ks rest=true∧∃ i:Int,0<=i∧y= .inr i)∨(kin ks rest=false∧y= .inl ()))
 | [],pre,e=>by
   refine LT.fin (Tot.alln fun n=>?_) (.inr ⟨rfl,rfl⟩)
   unfold zil
   rw[if_neg]
   rw[e,aj,dff om];decide
 | x::rest,pre,e=>by
   have c:=hl
   rw[e,ac,ae]at c
   have b:Tot (fun n=>zil l ks n (pre.length:Int)) (· =if ks.contains (Pc.kind x)=true then .inr (.inr (pre.length:Int)) else .inl ((pre.length+1:Nat):Int)):=by
    unfold zil
    refine ak (dtt (by rw[e,ac,ae];omega)) ?_
    refine ai (show idx l (pre.length:Int)=some x by rw[e];exact zzL pre x rest rfl) ?_
    refine ad (P:=(· =ks.contains (Pc.kind x))) ?_ fun a ea=>?_
    ·unfold zyT
     exact ad (zrS hk (Pc.un x).1) fun a ea=>aa (by rw[ea,zoR])
    ·subst ea
     rw[zzw (x:=(pre.length:Int)+1) om om]
     cases ks.contains (Pc.kind x) with
     | true=>exact aa rfl
     | false=>exact aa rfl
   rw[zq1]
   cases hc:ks.contains (Pc.kind x) with
   | true=>exact LT.fin (b.mono fun a ea=>by rw[ea,hc,if_pos rfl]) (.inl ⟨rfl,(pre.length:Int),om,rfl⟩)
   | false=>
     have ih:=zlC hk hl rest (pre++[x]) (by rw[e];simp)
     rw[show (((pre++[x]).length:Nat):Int)=((pre.length+1:Nat):Int) by simp]at ih
     rw[Bool.false_or]
     exact LT.step (b.mono fun a ea=>by rw[ea,hc,if_neg ddc]) ih
theorem zvC {ks:List Int} (hk:ks.length<=1000) (x:PcT) (hl:x.2.2.2.2.2.2.length<=4000000000000000000):Tot (fun n=>zyk n ks x) (· = !kin ks x.2.2.2.2.2.2):=by
 unfold zyk zxd zyJ
 refine ad (P:=fun r=>r=kin ks x.2.2.2.2.2.2) (ad (P:=fun r=>decide (r>=0)=kin ks x.2.2.2.2.2.2) (ad (LT.tot (F:=zil x.2.2.2.2.2.2 ks) (zlC hk hl _ [] rfl)) fun y hy=>?_) fun a e=>aa e) fun a e=>aa (by rw[e])
 rcases hy with ⟨h1,i,h2,rfl⟩ | ⟨h1,rfl⟩
 ·exact aa (by rw[h1];exact dtt h2)
 ·exact aa (by rw[h1];rfl)
theorem zl5 {ks:List Int} (hk:ks.length<=1000) {l:List Pc} {i:Int} {x:Pc} (hx:idx l i=some x):∀ (rest pre:List Int),ks=pre++rest->LT (fun _=>ziw l ks i) (pre.length:Int) (· =if rest.contains (Pc.kind x) then .inr (.inr (.inr true)) else .inl ())
 | [],pre,e=>by
   refine LT.fin (Tot.alln fun n=>?_) rfl
   unfold ziw
   rw[if_neg]
   ·rfl
   rw[e,aj,dff om];decide
 | k::rest,pre,e=>by
   have b:=hk
   rw[e,ac,ae]at b
   have a:ziw l ks i (pre.length:Int)=if Pc.kind x=k then some (.inr (.inr (.inr (.inr true)))) else some (.inl ((pre.length+1:Nat):Int)):=by
    unfold ziw
    rw[if_pos (dtt (by rw[e,ac,ae];omega)),hx,show idx ks (pre.length:Int)=some k by rw[e];exact zzL pre k rest rfl]
    simp only[Option.bind_some]
    rw[zzw (x:=(pre.length:Int)+1) om om,zoR]
    by_cases h:Pc.kind x=k
    ·rw[if_pos h,if_pos (beq_iff_eq.2 h)]
    ·rw[if_neg h,if_neg (by simpa using h)];rfl
   by_cases h:Pc.kind x=k
   ·refine LT.fin (Tot.alln fun n=>by rw[a,if_pos h]) ?_
    rw[if_pos (by simp[h])]
   ·have ih:=zl5 hk hx rest (pre++[k]) (by rw[e];simp)
    rw[show (((pre++[k]).length:Nat):Int)=((pre.length+1:Nat):Int) by simp]at ih
    have hc:(k::rest).contains (Pc.kind x)=rest.contains (Pc.kind x):=by rw[List.contains_cons];simp[h]
    rw[hc]
    exact LT.step (Tot.alln fun n=>by rw[a,if_neg h]) ih
theorem zkg {ks:List Int} (hk:ks.length<=1000) {l:List Pc} (hl:l.length<=4000000000000000000):∀ (rest pre:List Pc),l=pre++rest->LT (zhu l ks) (pre.length:Int) (· =if kin ks rest then .inr true else .inl ())
 | [],pre,e=>by
   refine LT.fin (r:=.inl ()) (Tot.alln fun n=>?_) rfl
   unfold zhu
   rw[if_neg]
   rw[e,aj,dff om];decide
 | x::rest,pre,e=>by
   have c:=hl
   rw[e,ac,ae]at c
   have b:Tot (fun n=>zhu l ks n (pre.length:Int)) (· =if ks.contains (Pc.kind x)=true then .inr (.inr true) else .inl ((pre.length+1:Nat):Int)):=by
    unfold zhu
    refine ak (dtt (by rw[e,ac,ae];omega)) ?_
    refine ad (LT.tot (F:=fun _=>ziw l ks (pre.length:Int)) (zl5 hk (show idx l (pre.length:Int)=some x by rw[e];exact zzL pre x rest rfl) ks [] rfl)) fun a ea=>?_
    subst ea
    rw[zzw (x:=(pre.length:Int)+1) om om]
    cases ks.contains (Pc.kind x) with
    | true=>exact aa rfl
    | false=>exact aa rfl
   rw[zq1]
   cases hc:ks.contains (Pc.kind x) with
   | true=>exact LT.fin (b.mono fun a ea=>by rw[ea,hc,if_pos rfl]) (by rw[Bool.true_or,if_pos rfl])
   | false=>
     have ih:=zkg hk hl rest (pre++[x]) (by rw[e];simp)
     rw[show (((pre++[x]).length:Nat):Int)=((pre.length+1:Nat):Int) by simp]at ih
     rw[Bool.false_or]
     exact LT.step (b.mono fun a ea=>by rw[ea,hc,if_neg ddc]) ih
theorem ztf {ks:List Int} (hk:ks.length<=1000) {l:List Pc} (hl:l.length<=4000000000000000000):Tot (fun n=>zzH n l ks) (· =kin ks l):=by
 unfold zzH
 refine ad (LT.tot (F:=zhu l ks) (zkg hk hl l [] rfl)) fun a e=>?_
 subst e
 cases kin ks l with
 | true=>exact aa rfl
 | false=>exact aa rfl
def BigL:Nat:=4000000000000000000
theorem zsw {l:List Pc}:(((l.length:Nat):Int)==1)=decide (l.length=1):=by rw[am];simp;omega
theorem zxg {α:Type} {l:List α}:(((l.length:Nat):Int)==0)=l.isEmpty:=by cases l<;>simp;omega
theorem zlz {x:PcT} (h:1<=x.1∧x.1<=12):Tot (fun n=>zwk n x) (· =zyI x):=by
 obtain ⟨k,lo,hi,no,lz,rs,d⟩:=x
 simp only at h
 refine Tot.alln fun n=>?_
 have e:∀ a:Int,(a==0)=decide (a=0):=fun a=>by rw[am];simp
 obtain rfl | rfl | rfl | rfl | rfl | rfl | rfl | rfl | rfl | rfl | rfl | rfl:k=1∨k=2∨k=3∨k=4∨k=5∨k=6∨k=7∨k=8∨k=9∨k=10∨k=11∨k=12:=by omega
 all_goals
  unfold zwk zyI
  simp only[zxg]
  simp only[e]
  generalize decide (lo=0)=a
  generalize decide (hi=0)=b
  generalize rs.isEmpty=c
  cases a<;>cases b<;>cases no<;>cases lz<;>cases c<;>rfl
theorem zpL {x:PcT} (h:1<=x.1∧x.1<=12) (h1:x.2.2.2.2.2.1.length<=BigL) (h2:x.2.2.2.2.2.2.length<=BigL):Tot (fun n=>zxn n x) (· =zzY x):=by
 obtain ⟨k,lo,hi,no,lz,rs,b⟩:=x
 simp only at h h1 h2
 unfold zxn
 refine Tot.some_bind ?_
 obtain rfl | rfl | rfl | rfl | rfl | rfl | rfl | rfl | rfl | rfl | rfl | rfl:k=1∨k=2∨k=3∨k=4∨k=5∨k=6∨k=7∨k=8∨k=9∨k=10∨k=11∨k=12:=by omega
 ·simp only[af,ab,if_false,if_true,Option.bind_some]
  show Tot _ (· =(b.isEmpty&&scal lo))
  refine ad (P:=(· =(b.isEmpty&&scal lo))) ?_ fun a e=>aa e
  rw[zxg]
  cases b.isEmpty with
  | true=>exact ak rfl (ad (Tot.alln fun n=>zto n lo) fun a e=>aa e)
  | false=>exact ag rfl (aa rfl)
 ·simp only[af,ab,if_false,if_true,Option.bind_some]
  exact aa zxg
 ·simp only[af,ab,if_false,if_true,Option.bind_some]
  show Tot _ (· =(b.isEmpty&&(zu9 rs&& !rs.isEmpty)))
  refine ad (P:=(· =(b.isEmpty&&(zu9 rs&& !rs.isEmpty)))) ?_ fun a e=>aa e
  rw[zxg]
  cases b.isEmpty with
  | true=>exact ak rfl (ad (zqr h1) fun a e=>aa e)
  | false=>exact ag rfl (aa rfl)
 ·simp only[af,ab,if_false,if_true,Option.bind_some]
  exact aa zxg
 ·simp only[af,ab,if_false,if_true,Option.bind_some]
  exact aa zxg
 ·simp only[af,ab,if_false,if_true,Option.bind_some]
  exact aa zxg
 ·simp only[af,ab,if_false,if_true,Option.bind_some]
  exact aa zsw
 ·simp only[af,ab,if_false,if_true,Option.bind_some]
  show Tot _ (· =(decide (b.length≠1)&& !kin [8,9] b))
  refine ad (P:=(· =(decide (b.length≠1)&& !kin [8,9] b))) ?_ fun a e=>aa e
  by_cases hl:b.length=1
  ·rw[dff (not_not_intro hl)]
   exact ag (by simp[hl]) (aa rfl)
  ·rw[dtt hl]
   exact ak oss (ad (zvC ddc (8,lo,hi,no,lz,rs,b) h2) fun a e=>aa e)
 ·simp only[af,ab,if_false,if_true,Option.bind_some]
  show Tot _ (· =(decide (2<=b.length)&& !kin [9] b))
  refine ad (P:=(· =(decide (2<=b.length)&& !kin [9] b))) ?_ fun a e=>aa e
  by_cases hl:2<=b.length
  ·rw[dtt hl]
   exact ak (dtt om) (ad (zvC ddc (9,lo,hi,no,lz,rs,b) h2) fun a e=>aa e)
  ·rw[dff hl]
   exact ag (dff om) (aa rfl)
 ·simp only[af,ab,if_false,if_true,Option.bind_some]
  show Tot _ (· =(decide (b.length=1)&& !kin [8,9,10,4,5,6,11] b))
  refine ad (P:=(· =(decide (b.length=1)&& !kin [8,9,10,4,5,6,11] b))) ?_ fun a e=>aa e
  rw[zsw]
  by_cases hl:b.length=1
  ·rw[dtt hl]
   exact ak rfl (ad (zvC ddc (10,lo,hi,no,lz,rs,b) h2) fun a e=>aa e)
  ·rw[dff hl]
   exact ag rfl (aa rfl)
 ·simp only[af,ab,if_false,if_true,Option.bind_some]
  exact aa zsw
 ·simp only[af,ab,if_false,if_true,Option.bind_some]
  show Tot _ (· =(b.isEmpty&&decide (1<=lo∧lo<=9)))
  refine ad (P:=(· =(b.isEmpty&&decide (1<=lo∧lo<=9)))) ?_ fun a e=>aa e
  rw[zxg]
  cases b.isEmpty with
  | true=>
    refine ak rfl ?_
    by_cases h9:1<=lo
    ·refine ak (dtt h9) (aa ?_)
     rw[ar,am];simp[h9]
    ·refine ag (dff h9) (aa ?_)
     rw[ar,dff (fun h=>h9 h.1)]
  | false=>exact ag rfl (aa rfl)
theorem zp2 {x:PcT} (h:1<=x.1∧x.1<=12) (h1:x.2.2.2.2.2.1.length<=BigL) (h2:x.2.2.2.2.2.2.length<=BigL):Tot (fun n=>zy3 n x) (· =(zyI x&&zzY x)):=by
 obtain ⟨k,lo,hi,no,lz,rs,d⟩:=x
 simp only at h h1 h2
 unfold zy3
 refine Tot.some_bind ?_
 have fin:∀ (f:Bool) (g i:Int) (l j:Bool) (b:Bool),(f&&(decide (lo=g)&&(decide (hi=i)&&((no==l)&&((lz==j)&&(decide (k=3)||rs.isEmpty))))))=b->
  Tot (fun n=>(if f=true then (if (lo==g)=true then (if (hi==i)=true then (if (no==l)=true then (if (lz==j)=true then (if (k==3)=true then some true else (some (((rs.length:Nat):Int)==0)).bind fun m=>some m) else some false) else some false) else some false) else some false) else some false).bind fun o=>some o) (· =b):=fun f g i l j b hb=>by
  refine Tot.alln fun n=>?_
  rw[<- hb]
  rw[zxg,show (lo==g)=decide (lo=g) by rw[am];simp,show (hi==i)=decide (hi=i) by rw[am];simp,show (k==3)=decide (k=3) by rw[am];simp]
  generalize decide (lo=g)=a
  generalize decide (hi=i)=a2
  generalize (no==l)=a3
  generalize (lz==j)=a4
  generalize decide (k=3)=a5
  generalize rs.isEmpty=a6
  cases f<;>cases a<;>cases a2<;>cases a3<;>cases a4<;>cases a5<;>cases a6<;>rfl
 obtain rfl | rfl | rfl | rfl | rfl | rfl | rfl | rfl | rfl | rfl | rfl | rfl:k=1∨k=2∨k=3∨k=4∨k=5∨k=6∨k=7∨k=8∨k=9∨k=10∨k=11∨k=12:=by omega
 ·refine ad (P:=(· =((d.isEmpty&&scal lo),((1:Int),(lo:Int),(0:Int),false,false,([]:List (Int × Int)),([]:List Pc))))) ?_ fun a e=>?_
  ·simp only[af,ab,if_false,if_true,Option.bind_some]
   rw[zxg]
   cases d.isEmpty with
   | true=>exact ak rfl (ad (Tot.alln fun n=>ztZ n lo) fun a e=>aa (by rw[e];rfl))
   | false=>exact ag rfl (aa rfl)
  ·subst e
   refine fin (d.isEmpty&&scal lo) lo 0 false false _ ?_
   rw[show zzY (1,lo,hi,no,lz,rs,d)=(d.isEmpty&&scal lo) from rfl]
   unfold zyI
   generalize (d.isEmpty&&scal lo)=ff
   simp only[decide_true]
   generalize decide (lo=0)=a
   generalize decide (hi=0)=b
   generalize rs.isEmpty=c
   cases a<;>cases b<;>cases no<;>cases lz<;>cases c<;>cases ff<;>rfl
 ·refine ad (P:=(· =(d.isEmpty,((2:Int),(0:Int),(0:Int),false,false,([]:List (Int × Int)),([]:List Pc))))) ?_ fun a e=>?_
  ·simp only[af,ab,if_false,if_true,Option.bind_some]
   exact aa (by rw[zxg])
  ·subst e
   refine fin d.isEmpty 0 0 false false _ ?_
   rw[show zzY (2,lo,hi,no,lz,rs,d)=d.isEmpty from rfl]
   unfold zyI
   generalize d.isEmpty=ff
   simp only[decide_true]
   generalize decide (lo=0)=a
   generalize decide (hi=0)=b
   generalize rs.isEmpty=c
   cases a<;>cases b<;>cases no<;>cases lz<;>cases c<;>cases ff<;>rfl
 ·refine ad (P:=(· =((d.isEmpty&&(zu9 rs&& !rs.isEmpty)),((3:Int),(0:Int),(0:Int),no,false,([]:List (Int × Int)),([]:List Pc))))) ?_ fun a e=>?_
  ·simp only[af,ab,if_false,if_true,Option.bind_some]
   refine ad (P:=(· =(d.isEmpty&& !rs.isEmpty))) ?_ fun a e=>?_
   ·rw[zxg]
    cases d.isEmpty with
    | true=>exact ak rfl (Tot.some_bind (aa (by cases rs<;>simp)))
    | false=>exact ag rfl (aa rfl)
   ·subst e
    refine ad (LT.tot (F:=ziC rs) (zlA h1 rs [] none _ rfl fun _=>rfl)) fun a e=>aa ?_
    rw[e,zqm]
    cases d.isEmpty<;>cases rs.isEmpty<;>cases zu9 rs<;>rfl
  ·subst e
   refine fin (d.isEmpty&&(zu9 rs&& !rs.isEmpty)) 0 0 no false _ ?_
   rw[show zzY (3,lo,hi,no,lz,rs,d)=(d.isEmpty&&(zu9 rs&& !rs.isEmpty)) from rfl]
   unfold zyI
   generalize (d.isEmpty&&(zu9 rs&& !rs.isEmpty))=ff
   simp only[decide_true]
   generalize decide (lo=0)=a
   generalize decide (hi=0)=b
   generalize rs.isEmpty=c
   cases a<;>cases b<;>cases no<;>cases lz<;>cases c<;>cases ff<;>rfl
 ·refine ad (P:=(· =(d.isEmpty,((4:Int),(0:Int),(0:Int),false,false,([]:List (Int × Int)),([]:List Pc))))) ?_ fun a e=>?_
  ·simp only[af,ab,if_false,if_true,Option.bind_some]
   exact aa (by rw[zxg])
  ·subst e
   refine fin d.isEmpty 0 0 false false _ ?_
   rw[show zzY (4,lo,hi,no,lz,rs,d)=d.isEmpty from rfl]
   unfold zyI
   generalize d.isEmpty=ff
   simp only[decide_true]
   generalize decide (lo=0)=a
   generalize decide (hi=0)=b
   generalize rs.isEmpty=c
   cases a<;>cases b<;>cases no<;>cases lz<;>cases c<;>cases ff<;>rfl
 ·refine ad (P:=(· =(d.isEmpty,((5:Int),(0:Int),(0:Int),false,false,([]:List (Int × Int)),([]:List Pc))))) ?_ fun a e=>?_
  ·simp only[af,ab,if_false,if_true,Option.bind_some]
   exact aa (by rw[zxg])
  ·subst e
   refine fin d.isEmpty 0 0 false false _ ?_
   rw[show zzY (5,lo,hi,no,lz,rs,d)=d.isEmpty from rfl]
   unfold zyI
   generalize d.isEmpty=ff
   simp only[decide_true]
   generalize decide (lo=0)=a
   generalize decide (hi=0)=b
   generalize rs.isEmpty=c
   cases a<;>cases b<;>cases no<;>cases lz<;>cases c<;>cases ff<;>rfl
 ·refine ad (P:=(· =(d.isEmpty,((6:Int),(0:Int),(0:Int),no,false,([]:List (Int × Int)),([]:List Pc))))) ?_ fun a e=>?_
  ·simp only[af,ab,if_false,if_true,Option.bind_some]
   exact aa (by rw[zxg])
  ·subst e
   refine fin d.isEmpty 0 0 no false _ ?_
   rw[show zzY (6,lo,hi,no,lz,rs,d)=d.isEmpty from rfl]
   unfold zyI
   generalize d.isEmpty=ff
   simp only[decide_true]
   generalize decide (lo=0)=a
   generalize decide (hi=0)=b
   generalize rs.isEmpty=c
   cases a<;>cases b<;>cases no<;>cases lz<;>cases c<;>cases ff<;>rfl
 ·refine ad (P:=(· =(decide (d.length=1),((7:Int),(lo:Int),(0:Int),false,false,([]:List (Int × Int)),([]:List Pc))))) ?_ fun a e=>?_
  ·simp only[af,ab,if_false,if_true,Option.bind_some]
   exact aa (by rw[zsw])
  ·subst e
   refine fin (decide (d.length=1)) lo 0 false false _ ?_
   rw[show zzY (7,lo,hi,no,lz,rs,d)=decide (d.length=1) from rfl]
   unfold zyI
   generalize decide (d.length=1)=ff
   simp only[decide_true]
   generalize decide (lo=0)=a
   generalize decide (hi=0)=b
   generalize rs.isEmpty=c
   cases a<;>cases b<;>cases no<;>cases lz<;>cases c<;>cases ff<;>rfl
 ·refine ad (P:=(· =((decide (d.length≠1)&& !kin [8,9] d),((8:Int),(0:Int),(0:Int),false,false,([]:List (Int × Int)),([]:List Pc))))) ?_ fun a e=>?_
  ·simp only[af,ab,if_false,if_true,Option.bind_some]
   by_cases hl:d.length=1
   ·rw[dff (not_not_intro hl)]
    exact ag (by simp[hl]) (aa rfl)
   ·rw[dtt hl]
    exact ak oss (ad (ztf ddc h2) fun a e=>aa (by rw[e];rfl))
  ·subst e
   refine fin (decide (d.length≠1)&& !kin [8,9] d) 0 0 false false _ ?_
   rw[show zzY (8,lo,hi,no,lz,rs,d)=(decide (d.length≠1)&& !kin [8,9] d) from rfl]
   unfold zyI
   generalize (decide (d.length≠1)&& !kin [8,9] d)=ff
   simp only[decide_true]
   generalize decide (lo=0)=a
   generalize decide (hi=0)=b
   generalize rs.isEmpty=c
   cases a<;>cases b<;>cases no<;>cases lz<;>cases c<;>cases ff<;>rfl
 ·refine ad (P:=(· =((decide (2<=d.length)&& !kin [9] d),((9:Int),(0:Int),(0:Int),false,false,([]:List (Int × Int)),([]:List Pc))))) ?_ fun a e=>?_
  ·simp only[af,ab,if_false,if_true,Option.bind_some]
   by_cases hl:2<=d.length
   ·rw[dtt hl]
    exact ak (dtt om) (ad (ztf ddc h2) fun a e=>aa (by rw[e];rfl))
   ·rw[dff hl]
    exact ag (dff om) (aa rfl)
  ·subst e
   refine fin (decide (2<=d.length)&& !kin [9] d) 0 0 false false _ ?_
   rw[show zzY (9,lo,hi,no,lz,rs,d)=(decide (2<=d.length)&& !kin [9] d) from rfl]
   unfold zyI
   generalize (decide (2<=d.length)&& !kin [9] d)=ff
   simp only[decide_true]
   generalize decide (lo=0)=a
   generalize decide (hi=0)=b
   generalize rs.isEmpty=c
   cases a<;>cases b<;>cases no<;>cases lz<;>cases c<;>cases ff<;>rfl
 ·refine ad (P:=(· =((decide (d.length=1)&& !kin [8,9,10,4,5,6,11] d),((10:Int),(lo:Int),(hi:Int),false,lz,([]:List (Int × Int)),([]:List Pc))))) ?_ fun a e=>?_
  ·simp only[af,ab,if_false,if_true,Option.bind_some]
   rw[zsw]
   by_cases hl:d.length=1
   ·rw[dtt hl]
    exact ak rfl (ad (ztf ddc h2) fun a e=>aa (by rw[e];rfl))
   ·rw[dff hl]
    exact ag rfl (aa rfl)
  ·subst e
   refine fin (decide (d.length=1)&& !kin [8,9,10,4,5,6,11] d) lo hi false lz _ ?_
   rw[show zzY (10,lo,hi,no,lz,rs,d)=(decide (d.length=1)&& !kin [8,9,10,4,5,6,11] d) from rfl]
   unfold zyI
   generalize (decide (d.length=1)&& !kin [8,9,10,4,5,6,11] d)=ff
   simp only[decide_true]
   generalize decide (lo=0)=a
   generalize decide (hi=0)=b
   generalize rs.isEmpty=c
   cases a<;>cases b<;>cases no<;>cases lz<;>cases c<;>cases ff<;>rfl
 ·refine ad (P:=(· =(decide (d.length=1),((11:Int),(0:Int),(0:Int),no,false,([]:List (Int × Int)),([]:List Pc))))) ?_ fun a e=>?_
  ·simp only[af,ab,if_false,if_true,Option.bind_some]
   exact aa (by rw[zsw])
  ·subst e
   refine fin (decide (d.length=1)) 0 0 no false _ ?_
   rw[show zzY (11,lo,hi,no,lz,rs,d)=decide (d.length=1) from rfl]
   unfold zyI
   generalize decide (d.length=1)=ff
   simp only[decide_true]
   generalize decide (lo=0)=a
   generalize decide (hi=0)=b
   generalize rs.isEmpty=c
   cases a<;>cases b<;>cases no<;>cases lz<;>cases c<;>cases ff<;>rfl
 ·refine ad (P:=(· =((d.isEmpty&&decide (1<=lo∧lo<=9)),((12:Int),(lo:Int),(0:Int),false,false,([]:List (Int × Int)),([]:List Pc))))) ?_ fun a e=>?_
  ·simp only[af,ab,if_false,if_true,Option.bind_some]
   rw[zxg]
   cases d.isEmpty with
   | true=>
     refine ak rfl ?_
     by_cases h9:1<=lo
     ·refine ak (dtt h9) (aa ?_)
      rw[show decide (1<=lo∧lo<=9)=decide (lo<=9) by rw[am];simp[h9]]
      rfl
     ·refine ag (dff h9) (aa ?_)
      rw[show decide (1<=lo∧lo<=9)=false from dff (fun h=>h9 h.1)]
      rfl
   | false=>exact ag rfl (aa rfl)
  ·subst e
   refine fin (d.isEmpty&&decide (1<=lo∧lo<=9)) lo 0 false false _ ?_
   rw[show zzY (12,lo,hi,no,lz,rs,d)=(d.isEmpty&&decide (1<=lo∧lo<=9)) from rfl]
   unfold zyI
   generalize (d.isEmpty&&decide (1<=lo∧lo<=9))=ff
   simp only[decide_true]
   generalize decide (lo=0)=a
   generalize decide (hi=0)=b
   generalize rs.isEmpty=c
   cases a<;>cases b<;>cases no<;>cases lz<;>cases c<;>cases ff<;>rfl
noncomputable def zqg (subs:List Pc) (fuel:Nat) (s138:(Int × (Int × Int))):Option ((Int × (Int × Int)) ⊕ ((Int × Int) ⊕ (Int × (Int × Int)))):=
 (if (decide (s138.1<((ap subs:Nat):Int))) then (Option.bind (idx subs s138.1) fun x144=>(Option.bind (zzc fuel (s138.2.1,s138.2.2) ((Pc.un x144).1,(Pc.un x144).2.1,(Pc.un x144).2.2.1,(Pc.un x144).2.2.2.1,(Pc.un x144).2.2.2.2.1,(Pc.un x144).2.2.2.2.2.1,(Pc.un x144).2.2.2.2.2.2)) fun r164=>(if (r164.1 !=0) then (some (.inr (.inr ((r164.1,(r164.2.1,r164.2.2)))))) else (some (.inl ((IntKind.i64.wrap (s138.1+1)),(r164.2.1,r164.2.2))))))) else (some (.inr (.inl (s138.2.1,s138.2.2)))))
noncomputable def zjT (subs:List Pc) (fuel:Nat) (s61:((List Pc) × Int)):Option (((List Pc) × Int) ⊕ (List Pc)):=
 (Option.bind (if (decide (s61.2<((ap subs:Nat):Int))) then (some ((decide (((ap s61.1:Nat):Int)<=60)))) else (some (false))) fun (j76:Bool)=>(if j76 then (Option.bind (idx subs s61.2) fun x85=>(Option.bind (zzA fuel ((Pc.un x85).1,(Pc.un x85).2.1,(Pc.un x85).2.2.1,(Pc.un x85).2.2.2.1,(Pc.un x85).2.2.2.2.1,(Pc.un x85).2.2.2.2.2.1,(Pc.un x85).2.2.2.2.2.2) s61.1) fun r94=>(some (.inl (r94,(IntKind.i64.wrap (s61.2+1))))))) else (some (.inr (s61.1)))))
noncomputable def zii (r14:List Pc) (fuel:Nat) (s34:(Int × Int × (Int × Int))):Option ((Int × Int × (Int × Int)) ⊕ ((Int × Int) ⊕ (Int × Int))):=
 (if (decide (s34.2.1<((ap r14:Nat):Int))) then (Option.bind (idx r14 s34.2.1) fun x45=>(if (s34.2.1==60) then (Option.bind (zz9 fuel 2 s34.2.1) fun r65=>(some (.inr (.inr ((r65.1,r65.2)))))) else (Option.bind (if (decide ((Pc.un x45).1<1)) then (some (true)) else (some ((decide ((Pc.un x45).1>12))))) fun (j83:Bool)=>(if j83 then (Option.bind (zz9 fuel 5 s34.2.1) fun r130=>(some (.inr (.inr ((r130.1,r130.2)))))) else (Option.bind (zy3 fuel ((Pc.un x45).1,(Pc.un x45).2.1,(Pc.un x45).2.2.1,(Pc.un x45).2.2.2.1,(Pc.un x45).2.2.2.2.1,(Pc.un x45).2.2.2.2.2.1,(Pc.un x45).2.2.2.2.2.2)) fun r145=>(if (!r145) then (Option.bind (zz9 fuel 6 s34.2.1) fun r152=>(some (.inr (.inr ((r152.1,r152.2)))))) else (Option.bind (if ((Pc.un x45).1==10) then (Option.bind (if (decide ((Pc.un x45).2.1<0)) then (some (true)) else (if (decide ((Pc.un x45).2.1>99)) then (some (true)) else (if (decide ((Pc.un x45).2.2.1>99)) then (some (true)) else (if (decide ((Pc.un x45).2.2.1<(Pc.un x45).2.1)) then (some (((Pc.un x45).2.2.1 !=(-1)))) else (some (false)))))) fun (j172:Bool)=>(if j172 then (Option.bind (zz9 fuel 4 s34.2.1) fun r210=>(some (.inr (.inr (.inr ((r210.1,r210.2))))))) else (some (.inl (s34.1,(s34.2.2.1,s34.2.2.2)))))) else (if ((Pc.un x45).1==7) then (if ((Pc.un x45).2.1 !=0) then (Option.bind (if ((Pc.un x45).2.1 !=(IntKind.i64.wrap (s34.1+1))) then (some (true)) else (some ((decide ((IntKind.i64.wrap (s34.1+1))>9))))) fun (j227:Bool)=>(if j227 then (Option.bind (zz9 fuel 11 s34.2.1) fun r247=>(some (.inr (.inr (.inr ((r247.1,r247.2))))))) else (some (.inl ((IntKind.i64.wrap (s34.1+1)),(s34.2.2.1,s34.2.2.2)))))) else (some (.inl (s34.1,(s34.2.2.1,s34.2.2.2))))) else (if ((Pc.un x45).1==12) then (if (decide ((Pc.un x45).2.1>s34.1)) then (Option.bind (zz9 fuel 12 s34.2.1) fun r270=>(some (.inr (.inr (.inr ((r270.1,r270.2))))))) else (some (.inl (s34.1,(s34.2.2.1,s34.2.2.2))))) else (some (.inl (s34.1,(s34.2.2.1,s34.2.2.2))))))) (zyA fun (s169:(Int × (Int × Int)))=>(some (.inl (s169.1,(IntKind.i64.wrap (s34.2.1+1)),(s169.2.1,s169.2.2)))))))))))) else (some (.inr (.inl (s34.2.2.1,s34.2.2.2)))))
def zyB:Nat->Nat->List Pc->(Int × Nat) ⊕ (Nat × Nat)
 | c,g,[]=>.inr (c,g)
 | c,g,q::l=>if 60<=c then .inl (2,c) else match zyO g q.un with
   | .inl e=>.inl (e,c)
   | .inr g'=>zyB (c+1) g' l
theorem zrH:∀ (a b:List Pc) (c g:Nat),zyB c g (a++b)=match zyB c g a with | .inl e=>.inl e | .inr x=>zyB x.1 x.2 b
 | [],b,c,g=>rfl
 | q::a,b,c,g=>by
   rw[List.cons_append,zyB,zyB]
   split
   ·rfl
   ·cases zyO g q.un with
    | inl e=>rfl
    | inr g'=>exact zrH a b (c+1) g'
theorem zn9 {g g':Nat} {x:PcT} (h:zyO g x= .inr g'):g'<=g+1∧g<=g':=by
 unfold zyO at h
 split at h;cases h
 split at h;cases h
 split at h;cases h
 split at h
 ·split at h<;>cases h
  exact ⟨om,om⟩
 ·split at h<;>cases h
  exact ⟨om,om⟩
theorem zmY {g:Nat} {x:PcT} {e:Int} (h:zyO g x= .inl e):e≠0:=by
 unfold zyO at h
 split at h;cases h;omega
 split at h;cases h;omega
 split at h;cases h;omega
 split at h
 ·split at h<;>cases h;omega
 ·split at h<;>cases h;omega
theorem znb:∀ (l:List Pc) (c g c' g':Nat),zyB c g l= .inr (c',g')->c<=60->g<=c->c'<=60∧g'<=c'
 | [],c,g,c',g',h,h1,h2=>by cases h;exact ⟨h1,h2⟩
 | q::l,c,g,c',g',h,h1,h2=>by
   rw[zyB]at h
   split at h
   ·cases h
   ·cases hn:zyO g q.un with
    | inl e=>rw[hn]at h;cases h
    | inr g1=>
      rw[hn]at h
      have:=zn9 hn
      exact znb l (c+1) g1 c' g' h om om
theorem ztz:∀ (l:List Pc) (c g:Nat) (e:Int) (i:Nat),zyB c g l= .inl (e,i)->e≠0∧(c<=60->i<=60)
 | [],c,g,e,i,h=>by cases h
 | q::l,c,g,e,i,h=>by
   rw[zyB]at h
   split at h
   ·cases h;exact ⟨om,fun h=>h⟩
   ·cases hn:zyO g q.un with
    | inl e'=>rw[hn]at h;cases h;exact ⟨zmY hn,fun h=>h⟩
    | inr g1=>
      rw[hn]at h
      obtain ⟨h1,h2⟩:=ztz l (c+1) g1 e i h
      exact ⟨h1,fun h=>h2 om⟩
theorem zr1:∀ (l:List Pc) (c g:Nat),c<=60->zyB c g (l.take (61-c))=zyB c g l
 | [],c,g,_=>by rw[List.take_nil]
 | q::l,c,g,h=>by
   obtain ⟨m,hm⟩:∃ m,61-c=m+1:=⟨60-c,om⟩
   rw[hm,List.take_succ_cons,zyB,zyB]
   by_cases h6:60<=c
   ·rw[if_pos h6,if_pos h6]
   ·rw[if_neg h6,if_neg h6]
    cases zyO g q.un with
    | inl e=>rfl
    | inr g'=>
      have:=zr1 l (c+1) g' om
      rw[show 61-(c+1)=m by omega]at this
      exact this
theorem zsX:∀ (l:List Pc) (c g c' g':Nat),c<=60->(zyB c g l= .inr (c',g')↔chkL g l=some g'∧c'=c+l.length∧c'<=60)
 | [],c,g,c',g',h=>by
   rw[zyB,chkL]
   constructor
   ·intro h';cases h';exact ⟨rfl,rfl,h⟩
   ·rintro ⟨h1,h2,h3⟩;cases h1;rw[h2];rfl
 | q::l,c,g,c',g',h=>by
   rw[zyB,chkL]
   by_cases h6:60<=c
   ·rw[if_pos h6]
    constructor
    ·intro h';cases h'
    ·rintro ⟨_,h2,h3⟩
     rw[ae]at h2
     omega
   ·rw[if_neg h6]
    cases hn:zyO g q.un with
    | inl e=>
      constructor
      ·intro h';cases h'
      ·rintro ⟨h1,_⟩;cases h1
    | inr g1=>
      simp only
      rw[zsX l (c+1) g1 c' g' om,ae]
      constructor
      ·rintro ⟨h1,h2,h3⟩;exact ⟨h1,om,h3⟩
      ·rintro ⟨h1,h2,h3⟩;exact ⟨h1,om,h3⟩
def BdL (l:List Pc):Prop:=∀ q∈l,q.un.2.2.2.2.2.1.length<=BigL∧q.un.2.2.2.2.2.2.length<=BigL
def zp3 (c g:Nat) (l:List Pc) (r:Int × (Int × Int)):Prop:=match zyB c g l with
 | .inr x=>r=(0,((x.1:Int),(x.2:Int)))
 | .inl x=>r.1=x.1∧r.2.1=((x.2+1:Nat):Int)
def zmi (c g:Nat) (l:List Pc) (y:(Int × Int) ⊕ (Int × (Int × Int))):Prop:=match zyB c g l with
 | .inr x=>y= .inl ((x.1:Int),(x.2:Int))
 | .inl x=>∃ r:Int × (Int × Int),y= .inr r∧r.1=x.1∧r.2.1=((x.2+1:Nat):Int)
theorem zod {k lo hi:Int} {no lz:Bool} {rs:List (Int × Int)} {subs:List Pc} {g:Nat} (hk:1<=k∧k<=12) (hf:(zyI (k,lo,hi,no,lz,rs,subs)&&zzY (k,lo,hi,no,lz,rs,subs))=true):
 zyO g (k,lo,hi,no,lz,rs,subs)=if k=10∧zp7 (k,lo,hi,no,lz,rs,subs)=false then .inl 4 else
  if k=7∧lo≠0 then (if lo=(g+1:Nat)∧lo<=9 then .inr (g+1) else .inl 11) else
  if k=12∧(g:Int)<lo then .inl 12 else .inr g:=by
 unfold zyO
 rw[if_neg osm,if_neg (by rw[hf];decide)]
mutual
theorem zkw:∀ (p:Pc) (c g:Nat),BdL (zxo p)->c<=60->g<=c->Tot (fun n=>zzc n ((c:Int),(g:Int)) p.un) (zp3 c g (zxo p))
 | .mk k lo hi no lz rs subs,c,g,hb,hc,hg=>by
   rw[ztU]at hb ⊢
   have hn:=hb _ (List.mem_cons_self ..)
   have s:BdL (preL subs):=fun q hq=>hb q (List.mem_cons_of_mem _ hq)
   refine Tot.suc (Tot.eqf (fun n=>zzc.eq_2 ..) ?_)
   have hw:IntKind.i64.wrap ((c:Int)+1)=((c+1:Nat):Int):=by rw[zzw om om];rfl
   have t:IntKind.i64.wrap ((g:Int)+1)=((g+1:Nat):Int):=by rw[zzw om om];rfl
   unfold zp3
   rw[zyB]
   simp only[hw,t,Pc.un]
   by_cases h6:60<=c
   ·rw[if_pos h6]
    exact ak (dtt om) (aa ⟨rfl,rfl⟩)
   rw[if_neg h6]
   refine ag (dff om) ?_
   by_cases hk:1<=k∧k<=12
   ·refine ad (P:=(· =false)) (ag (dff om) (aa (dff om))) fun a e=>?_
    subst e
    refine ag rfl ?_
    refine ad (P:=(· = !(zyI (k,lo,hi,no,lz,rs,subs)&&zzY (k,lo,hi,no,lz,rs,subs)))) ?_ fun a e=>?_
    ·refine ad (zlz (x:=(k,lo,hi,no,lz,rs,subs)) hk) fun a e=>?_
     subst e
     cases zyI (k,lo,hi,no,lz,rs,subs) with
     | false=>exact ak rfl (aa rfl)
     | true=>exact ag rfl (ad (zpL (x:=(k,lo,hi,no,lz,rs,subs)) hk hn.1 hn.2) fun a e=>aa (by rw[e];rfl))
    ·subst e
     cases hf:zyI (k,lo,hi,no,lz,rs,subs)&&zzY (k,lo,hi,no,lz,rs,subs) with
     | false=>
       have:zyO g (k,lo,hi,no,lz,rs,subs)= .inl 6:=by unfold zyO;rw[if_neg osm,if_pos hf]
       rw[this]
       exact ak rfl (aa ⟨rfl,rfl⟩)
     | true=>
       rw[zod hk hf]
       refine ag rfl ?_
       refine ad (P:=(· =decide (k=10∧zp7 (k,lo,hi,no,lz,rs,subs)=false))) ?_ fun a e=>?_
       ·by_cases d:k=10
        ·subst d
         refine ak rfl ?_
         have hr:∀ b:Bool,(b=true↔¬ (0<=lo∧lo<=99∧ -1<=hi∧hi<=99∧(hi<0∨lo<=hi)))->b=decide ((10:Int)=10∧zp7 (10,lo,hi,no,lz,rs,subs)=false):=fun b hb=>by
          rw[am,hb,decide_eq_true_iff]
          exact ⟨fun h=>⟨rfl,dff h⟩,fun h=>odf h.2⟩
         by_cases g1:lo<0
         ·exact ak (dtt g1) (aa (hr _ oss))
         refine ag (dff g1) ?_
         by_cases g2:lo>99
         ·exact ak (dtt g2) (aa (hr _ oss))
         refine ag (dff g2) ?_
         by_cases g3:hi< -1
         ·exact ak (dtt g3) (aa (hr _ oss))
         refine ag (dff g3) ?_
         by_cases g4:hi>99
         ·exact ak (dtt g4) (aa (hr _ oss))
         refine ag (dff g4) ?_
         by_cases g5:hi>=0
         ·exact ak (dtt g5) (aa (hr _ ⟨fun h=>by have h:hi<lo:=odt h;omega,fun h=>dtt (show hi<lo by omega)⟩))
         ·exact ag (dff g5) (aa (hr _ oss))
        ·refine ag (beq_eq_false_iff_ne.2 d) (aa ?_)
         symm
         exact dff fun h=>d h.1
       ·subst e
        by_cases d:k=10∧zp7 (k,lo,hi,no,lz,rs,subs)=false
        ·rw[if_pos d,dtt d]
         exact ak rfl (aa ⟨rfl,rfl⟩)
        rw[if_neg d,dff d]
        refine ag rfl ?_
        have fin:∀ g':Nat,g'<=c+1->Tot (fun n=>(zzf (fun (j:(Int × (Int × Int)))=>zqg subs n j) n (0,(((c+1:Nat):Int),(g':Int)))).bind (zyA fun (f:(Int × Int))=>(some (0,(f.1,f.2)):Option (Int × (Int × Int))))) (zp3 (c+1) g' (preL subs)):=fun g' o=>by
         refine ad (LT.tot (F:=zqg subs) (zkp subs subs [] (c+1) g' rfl s hn.2 om o)) fun y hy=>?_
         unfold zmi at hy
         unfold zp3
         cases hs:zyB (c+1) g' (preL subs) with
         | inr x=>
           rw[hs]at hy
           have hy:y= .inl ((x.1:Int),(x.2:Int)):=hy
           subst hy
           exact aa rfl
         | inl x=>
           rw[hs]at hy
           obtain ⟨r,rfl,h1,h2⟩:=hy
           exact aa ⟨h1,h2⟩
        have m:∀ (g':Nat) (R:Int ⊕ Nat),R= .inr g'->g'<=c+1->Tot (fun n=>(zzf (fun (j:(Int × (Int × Int)))=>zqg subs n j) n (0,(((c+1:Nat):Int),(g':Int)))).bind (zyA fun (f:(Int × Int))=>(some (0,(f.1,f.2)):Option (Int × (Int × Int))))) (fun r=>match (match R with | .inl e=>(.inl (e,c):(Int × Nat) ⊕ (Nat × Nat)) | .inr g'=>zyB (c+1) g' (preL subs)) with
         | .inr x=>r=(0,((x.1:Int),(x.2:Int)))
         | .inl x=>r.1=x.1∧r.2.1=((x.2+1:Nat):Int)):=fun g' R hR o=>by
         subst hR
         exact fin g' o
        refine ad (P:=(· =decide (k=7∧lo≠0))) ?_ fun a e=>?_
        ·by_cases h7:k=7
         ·subst h7
          refine ak rfl (aa ?_)
          rw[am];simp
         ·refine ag (beq_eq_false_iff_ne.2 h7) (aa ?_)
          symm
          exact dff fun h=>h7 h.1
        ·subst e
         by_cases h7:k=7∧lo≠0
         ·rw[if_pos h7,dtt h7]
          by_cases h9:lo=((g+1:Nat):Int)∧lo<=9
          ·rw[if_pos h9]
           refine ad (P:=(· = .inl (((c+1:Nat):Int),((g+1:Nat):Int)))) (ak rfl (ad (P:=(· =false)) (ag (by rw[h9.1];simp) (aa (dff om))) fun a e=>by subst e;exact ag rfl (aa rfl))) fun a e=>?_
           subst e
           exact m (g+1) _ rfl om
          ·rw[if_neg h9]
           refine ad (P:=fun y=>∃ r:Int × (Int × Int),y= .inr r∧r.1=11∧r.2.1=((c+1:Nat):Int)) (ak rfl (ad (P:=(· =true)) ?_ fun a e=>by subst e;exact ak rfl (aa ⟨_,rfl,rfl,rfl⟩))) fun a e=>?_
           ·by_cases hl:lo=((g+1:Nat):Int)
            ·exact ag (by rw[hl];simp) (aa (dtt om))
            ·exact ak (by simpa using hl) (aa rfl)
           ·obtain ⟨r,rfl,h1,h2⟩:=e
            exact aa ⟨h1,h2⟩
         ·rw[if_neg h7,dff h7]
          by_cases i:k=12∧(g:Int)<lo
          ·rw[if_pos i]
           refine ad (P:=fun y=>∃ r:Int × (Int × Int),y= .inr r∧r.1=12∧r.2.1=((c+1:Nat):Int)) (ag rfl (ad (P:=(· =true)) (ak (beq_iff_eq.2 i.1) (aa (dtt i.2))) fun a e=>by subst e;exact ak rfl (aa ⟨_,rfl,rfl,rfl⟩))) fun a e=>?_
           obtain ⟨r,rfl,h1,h2⟩:=e
           exact aa ⟨h1,h2⟩
          ·rw[if_neg i]
           refine ad (P:=(· = .inl (((c+1:Nat):Int),(g:Int)))) (ag rfl (ad (P:=(· =false)) ?_ fun a e=>by subst e;exact ag rfl (aa rfl))) fun a e=>?_
           ·by_cases l:k=12
            ·exact ak (beq_iff_eq.2 l) (aa (dff fun h=>i ⟨l,h⟩))
            ·exact ag (beq_eq_false_iff_ne.2 l) (aa rfl)
           ·subst e
            exact m g _ rfl om
   ·have:zyO g (k,lo,hi,no,lz,rs,subs)= .inl 5:=by unfold zyO;rw[if_pos osm]
    rw[this]
    refine ad (P:=(· =true)) ?_ fun a e=>by subst e;exact ak rfl (aa ⟨rfl,rfl⟩)
    by_cases h1:k<1
    ·exact ak (dtt h1) (aa rfl)
    ·exact ag (dff h1) (aa (dtt om))
theorem zkp:∀ (rest subs pre:List Pc) (c g:Nat),subs=pre++rest->BdL (preL rest)->subs.length<=BigL->c<=60->g<=c->LT (zqg subs) ((pre.length:Int),((c:Int),(g:Int))) (zmi c g (preL rest))
 | [],subs,pre,c,g,e,_,_,_,_=>by
   refine LT.fin (r:=.inl ((c:Int),(g:Int))) (Tot.alln fun n=>?_) (by unfold zmi;rw[preL,zyB])
   unfold zqg
   rw[if_neg]
   rw[e,aj,dff osm];decide
 | x::rest,subs,pre,c,g,e,hb,hl,hc,hg=>by
   have d:=hl
   unfold BigL at d
   rw[e,ac,ae]at d
   rw[preL]at hb ⊢
   obtain ⟨r,hr,N,hN⟩:=zkw x c g (fun q hq=>hb q (List.mem_append_left _ hq)) hc hg
   have hT:Tot (fun n=>zzc n ((c:Int),(g:Int)) x.un) (· =r):=⟨r,rfl,N,hN⟩
   have b:Tot (fun n=>zqg subs n ((pre.length:Int),((c:Int),(g:Int)))) (· =if r.1 !=0 then .inr (.inr r) else .inl (((pre.length+1:Nat):Int),r.2)):=by
    unfold zqg
    refine ak (dtt (by simp only;rw[e,ac,ae];omega)) ?_
    refine ai (show idx subs (pre.length:Int)=some x by rw[e];exact zzL pre x rest rfl) (ad hT fun a ea=>?_)
    subst ea
    simp only[zzw (x:=(pre.length:Int)+1) om om]
    cases (a.1 !=0) with
    | true=>exact ak rfl (aa rfl)
    | false=>exact ag rfl (aa rfl)
   unfold zp3 at hr
   unfold zmi
   rw[zrH]
   cases hs:zyB c g (zxo x) with
   | inl z=>
     obtain ⟨e1,i1⟩:=z
     rw[hs]at hr
     have h:=(ztz _ _ _ _ _ hs).1
     have f:r.1=e1:=hr.1
     have:(r.1 !=0)=true:=by rw[f];simpa using h
     rw[this]at b
     exact LT.fin (b.mono fun a ea=>ea) ⟨r,rfl,hr.1,hr.2⟩
   | inr z=>
     obtain ⟨c1,g1⟩:=z
     rw[hs]at hr
     have hr:r=(0,((c1:Int),(g1:Int))):=hr
     subst hr
     obtain ⟨h1,h2⟩:=znb _ _ _ _ _ hs hc hg
     have ih:=zkp rest subs (pre++[x]) c1 g1 (by rw[e];simp) (fun q hq=>hb q (List.mem_append_right _ hq)) hl h1 h2
     rw[show (((pre++[x]).length:Nat):Int)=((pre.length+1:Nat):Int) by simp]at ih
     exact LT.step (b.mono fun a ea=>ea) ih
end
theorem zpH (a b:List Pc):((a.take 61)++b).take 61=(a++b).take 61:=by
 rcases Nat.le_total a.length 61 with h | h
 ·rw[av h]
 ·rw[au (by rw[List.length_take];omega),au h,List.take_take]
  simp
mutual
theorem zjW:∀ (p:Pc) (out:List Pc),BdL (zxo p)->out.length<=61->Tot (fun n=>zzA n p.un out) (· =(out++zxo p).take 61)
 | .mk k lo hi no lz rs subs,out,hb,ho=>by
   rw[ztU]at hb ⊢
   have hn:=hb _ (List.mem_cons_self ..)
   have b:BdL (preL subs):=fun q hq=>hb q (List.mem_cons_of_mem _ hq)
   refine Tot.suc (Tot.eqf (fun n=>zzA.eq_2 ..) ?_)
   by_cases h:60<out.length
   ·refine ak (dtt om) (aa ?_)
    rw[au om,av om]
   ·refine ag (dff om) (ai (zq8 oss) ?_)
    refine ad (LT.tot (F:=zjT subs) (ziF subs subs [] (out++[.mk k lo hi no lz rs subs]) rfl b hn.2 oss)) fun a e=>aa ?_
    rw[e,al,aA]
theorem ziF:∀ (rest subs pre out:List Pc),subs=pre++rest->BdL (preL rest)->subs.length<=BigL->out.length<=61->LT (zjT subs) (out,(pre.length:Int)) (· =(out++preL rest).take 61)
 | [],subs,pre,out,e,_,_,ho=>by
   refine LT.fin (r:=out) (Tot.alln fun n=>?_) (by rw[preL,aj,av ho])
   unfold zjT
   rw[if_neg]
   ·rfl
   rw[e,aj,dff osm];decide
 | x::rest,subs,pre,out,e,hb,hl,ho=>by
   have b:=hl
   unfold BigL at b
   rw[e,ac,ae]at b
   rw[preL]at hb ⊢
   have hi:decide ((pre.length:Int)<((subs.length:Nat):Int))=true:=dtt (by rw[e,ac,ae];omega)
   by_cases h:out.length<=60
   ·have c:Tot (fun n=>zjT subs n (out,(pre.length:Int))) (· = .inl ((out++zxo x).take 61,((pre.length+1:Nat):Int))):=by
     unfold zjT
     refine ad (P:=(· =true)) (ak hi (aa (dtt osm))) fun a ea=>?_
     subst ea
     refine ak rfl (ai (show idx subs (pre.length:Int)=some x by rw[e];exact zzL pre x rest rfl) (ad (zjW x out (fun q hq=>hb q (List.mem_append_left _ hq)) ho) fun a ea=>aa ?_))
     rw[ea,zzw (x:=(pre.length:Int)+1) om om]
     rfl
    have ih:=ziF rest subs (pre++[x]) ((out++zxo x).take 61) (by rw[e];simp) (fun q hq=>hb q (List.mem_append_right _ hq)) hl (by rw[List.length_take];omega)
    rw[show (((pre++[x]).length:Nat):Int)=((pre.length+1:Nat):Int) by simp,zpH,al]at ih
    exact LT.step c ih
   ·refine LT.fin (r:=out) (Tot.alln fun n=>?_) (by rw[au om,av ho])
    unfold zjT
    rw[if_pos hi,show decide (((out.length:Nat):Int)<=60)=false from dff om]
    rfl
end
def fauQ (c g:Nat) (l:List Pc) (y:(Int × Int) ⊕ (Int × Int)):Prop:=match zyB c g l with
 | .inr _=>y= .inl (0,0)
 | .inl x=>y= .inr (x.1,(x.2:Int))
theorem zmL {r14 pre rest:List Pc} {x:Pc} {g:Nat} (e:r14=pre++x::rest) (hb:x.un.2.2.2.2.2.1.length<=BigL∧x.un.2.2.2.2.2.2.length<=BigL) (hl:r14.length<=61) (hg:g<=pre.length):
 Tot (fun n=>zii r14 n ((g:Int),((pre.length:Int),((0:Int),(0:Int))))) (· =if 60<=pre.length then .inr (.inr (2,(pre.length:Int))) else match zyO g x.un with
  | .inl c=>.inr (.inr (c,(pre.length:Int)))
  | .inr g'=>.inl ((g':Int),(((pre.length+1:Nat):Int),((0:Int),(0:Int))))):=by
 have o:=hl
 rw[e,ac,ae]at o
 obtain ⟨k,lo,hi,no,lz,rs,d⟩:=x
 have hw:IntKind.i64.wrap ((pre.length:Int)+1)=((pre.length+1:Nat):Int):=by rw[zzw om om];rfl
 have p:IntKind.i64.wrap ((g:Int)+1)=((g+1:Nat):Int):=by rw[zzw om om];rfl
 unfold zii
 refine ak (dtt (by simp only;rw[e,ac,ae];omega)) ?_
 refine ai (show idx r14 (pre.length:Int)=some (.mk k lo hi no lz rs d) by rw[e];exact zzL pre _ rest rfl) ?_
 simp only[hw,p,Pc.un]at hb ⊢
 by_cases h6:60<=pre.length
 ·rw[if_pos h6]
  exact ak oss (aa rfl)
 rw[if_neg h6]
 refine ag oss ?_
 by_cases hk:1<=k∧k<=12
 ·refine ad (P:=(· =false)) (ag (dff om) (aa (dff om))) fun a e=>?_
  subst e
  refine ag rfl (ad (zp2 (x:=(k,lo,hi,no,lz,rs,d)) hk hb.1 hb.2) fun a e=>?_)
  subst e
  cases hf:zyI (k,lo,hi,no,lz,rs,d)&&zzY (k,lo,hi,no,lz,rs,d) with
  | false=>
    have:zyO g (k,lo,hi,no,lz,rs,d)= .inl 6:=by unfold zyO;rw[if_neg osm,if_pos hf]
    rw[this]
    exact ak rfl (aa rfl)
  | true=>
    rw[zod hk hf]
    refine ag rfl ?_
    by_cases l:k=10
    ·subst l
     have e7:¬ ((10:Int)=7∧lo≠0):=fun h=>by omega
     have f:¬ ((10:Int)=12∧(g:Int)<lo):=fun h=>by omega
     rw[if_neg e7,if_neg f]
     refine ad (P:=(· =if zp7 (10,lo,hi,no,lz,rs,d)=false then .inr (.inr (.inr (4,(pre.length:Int)))) else .inl ((g:Int),((0:Int),(0:Int))))) (ak rfl (ad (P:=(· =decide (zp7 (10,lo,hi,no,lz,rs,d)=false))) ?_ fun a e=>?_)) fun a e=>?_
     ·have hr:∀ b:Bool,(b=true↔¬ (0<=lo∧lo<=99∧ -1<=hi∧hi<=99∧(hi<0∨lo<=hi)))->b=decide (zp7 (10,lo,hi,no,lz,rs,d)=false):=fun b hb=>by
       rw[am,hb,decide_eq_true_iff]
       exact ⟨fun h=>dff h,fun h=>odf h⟩
      by_cases g1:lo<0
      ·exact ak (dtt g1) (aa (hr _ oss))
      refine ag (dff g1) ?_
      by_cases g2:lo>99
      ·exact ak (dtt g2) (aa (hr _ oss))
      refine ag (dff g2) ?_
      by_cases g4:hi>99
      ·exact ak (dtt g4) (aa (hr _ oss))
      refine ag (dff g4) ?_
      by_cases g5:hi<lo
      ·refine ak (dtt g5) (aa (hr _ ?_))
       constructor
       ·intro h
        have h:hi≠ -1:=by simpa using h
        omega
       ·intro h
        have:hi≠ -1:=by omega
        simpa using this
      ·exact ag (dff g5) (aa (hr _ oss))
     ·subst e
      cases zp7 (10,lo,hi,no,lz,rs,d) with
      | false=>exact ak rfl (aa rfl)
      | true=>exact ag rfl (aa rfl)
     ·subst e
      cases zp7 (10,lo,hi,no,lz,rs,d) with
      | false=>exact aa rfl
      | true=>exact aa rfl
    have q:¬ (k=10∧zp7 (k,lo,hi,no,lz,rs,d)=false):=fun h=>l h.1
    rw[if_neg q]
    by_cases h7:k=7
    ·subst h7
     have f:¬ ((7:Int)=12∧(g:Int)<lo):=fun h=>by omega
     rw[if_neg f]
     by_cases i:lo=0
     ·have e7:¬ ((7:Int)=7∧lo≠0):=fun h=>h.2 i
      rw[if_neg e7]
      refine ad (P:=(· = .inl ((g:Int),((0:Int),(0:Int))))) (ag rfl (ak rfl (ag (by rw[i];rfl) (aa rfl)))) fun a e=>?_
      subst e
      exact aa rfl
     ·have e7:(7:Int)=7∧lo≠0:=⟨rfl,i⟩
      rw[if_pos e7]
      by_cases h9:lo=((g+1:Nat):Int)∧lo<=9
      ·rw[if_pos h9]
       refine ad (P:=(· = .inl (((g+1:Nat):Int),((0:Int),(0:Int))))) (ag rfl (ak rfl (ak (by simpa using i) (ad (P:=(· =false)) (ag (by rw[h9.1];simp) (aa (dff om))) fun a e=>by subst e;exact ag rfl (aa rfl))))) fun a e=>?_
       subst e
       exact aa rfl
      ·rw[if_neg h9]
       refine ad (P:=(· = .inr (.inr (.inr (11,(pre.length:Int)))))) (ag rfl (ak rfl (ak (by simpa using i) (ad (P:=(· =true)) ?_ fun a e=>by subst e;exact ak rfl (aa rfl))))) fun a e=>?_
       ·by_cases hl:lo=((g+1:Nat):Int)
        ·exact ag (by rw[hl];simp) (aa (dtt om))
        ·exact ak (by simpa using hl) (aa rfl)
       ·subst e
        exact aa rfl
    have e7:¬ (k=7∧lo≠0):=fun h=>h7 h.1
    rw[if_neg e7]
    by_cases m:k=12
    ·subst m
     by_cases j:(g:Int)<lo
     ·have f:(12:Int)=12∧(g:Int)<lo:=⟨rfl,j⟩
      rw[if_pos f]
      refine ad (P:=(· = .inr (.inr (.inr (12,(pre.length:Int)))))) (ag rfl (ag rfl (ak rfl (ak (dtt j) (aa rfl))))) fun a e=>?_
      subst e
      exact aa rfl
     ·have f:¬ ((12:Int)=12∧(g:Int)<lo):=fun h=>j h.2
      rw[if_neg f]
      refine ad (P:=(· = .inl ((g:Int),((0:Int),(0:Int))))) (ag rfl (ag rfl (ak rfl (ag (dff j) (aa rfl))))) fun a e=>?_
      subst e
      exact aa rfl
    ·have f:¬ (k=12∧(g:Int)<lo):=fun h=>m h.1
     rw[if_neg f]
     refine ad (P:=(· = .inl ((g:Int),((0:Int),(0:Int))))) (ag (beq_eq_false_iff_ne.2 l) (ag (beq_eq_false_iff_ne.2 h7) (ag (beq_eq_false_iff_ne.2 m) (aa rfl)))) fun a e=>?_
     subst e
     exact aa rfl
 ·have:zyO g (k,lo,hi,no,lz,rs,d)= .inl 5:=by unfold zyO;rw[if_pos osm]
  rw[this]
  refine ad (P:=(· =true)) ?_ fun a e=>by subst e;exact ak rfl (aa rfl)
  by_cases h1:k<1
  ·exact ak (dtt h1) (aa rfl)
  ·exact ag (dff h1) (aa (dtt om))
theorem zkx {r14:List Pc} (hl:r14.length<=61) (hb:BdL r14):∀ (rest pre:List Pc) (g:Nat),r14=pre++rest->g<=pre.length->LT (zii r14) ((g:Int),((pre.length:Int),((0:Int),(0:Int)))) (fauQ pre.length g rest)
 | [],pre,g,e,_=>by
   refine LT.fin (r:=.inl (0,0)) (Tot.alln fun n=>?_) (by unfold fauQ;rw[zyB])
   unfold zii
   rw[if_neg]
   rw[e,aj,dff osm];decide
 | x::rest,pre,g,e,hg=>by
   have a:=zmL e (hb x (by rw[e];simp)) hl hg
   unfold fauQ
   rw[zyB]
   by_cases h6:60<=pre.length
   ·rw[if_pos h6]at a ⊢
    exact LT.fin a rfl
   ·rw[if_neg h6]at a ⊢
    cases hn:zyO g x.un with
    | inl c=>
      rw[hn]at a
      exact LT.fin a rfl
    | inr g'=>
      rw[hn]at a
      have:=zn9 hn
      have ih:=zkx hl hb rest (pre++[x]) g' (by rw[e];simp) oss
      rw[show (((pre++[x]).length:Nat):Int)=((pre.length+1:Nat):Int) by simp,show (pre++[x]).length=pre.length+1 by simp]at ih
      exact LT.step a ih
noncomputable def clF (rs:List (Int × Int)) (fuel:Nat) (s19:(ByteArray × Int)):Option ((ByteArray × Int) ⊕ ByteArray):=
 (if (decide (s19.2<((ap rs:Nat):Int))) then (Option.bind (idx rs s19.2) fun x24=>(Option.bind (zyW fuel x24.1 (strOf [92,93,94,45,91])) fun r37=>(Option.bind (cat s19.1 r37) fun x42=>(Option.bind (if (decide (x24.2>x24.1)) then (Option.bind (zyW fuel x24.2 (strOf [92,93,94,45,91])) fun r48=>(Option.bind (cat (strOf [45]) r48) fun x53=>(Option.bind (cat x42 x53) fun x55=>(some (x55))))) else (some (x42))) fun (j45:ByteArray)=>(some (.inl (j45,(IntKind.i64.wrap (s19.2+1))))))))) else (some (.inr (s19.1))))
noncomputable def ziJ (rs:List (Int × Int)) (fuel:Nat) (s72:(ByteArray × Int)):Option ((ByteArray × Int) ⊕ ByteArray):=
 (if (decide (s72.2<((ap rs:Nat):Int))) then (Option.bind (idx rs s72.2) fun x82=>(Option.bind (idx rs s72.2) fun x86=>(Option.bind (zys fuel x82.1 (strOf [92,93,94,45,91])) fun r89=>(Option.bind (cat s72.1 r89) fun x94=>(Option.bind (if (x82.1 !=x86.2) then (Option.bind (zys fuel x86.2 (strOf [92,93,94,45,91])) fun r99=>(Option.bind (cat (strOf [45]) r99) fun x104=>(Option.bind (cat x94 x104) fun x106=>(some (x106))))) else (some (x94))) fun (j96:ByteArray)=>(some (.inl (j96,(IntKind.i64.wrap (s72.2+1)))))))))) else (some (.inr (s72.1))))
theorem zrI {c:Int} (h:scal c=true):∃ n:Nat,c=(n:Int)∧Scal n∧c.toNat=n∧n<=1114111:=by
 unfold scal at h
 simp only[decide_eq_true_eq]at h
 exact ⟨c.toNat,om,by unfold Scal;omega,rfl,om⟩
theorem znB {n:Nat} (h:Scal n):Utf8.encode (n:Int)=strOf (zwV n):=by
 have hn:n<=1114111:=by unfold Scal at h;omega
 have hv:Utf8.valid (n:Int)=true:=by
  unfold Scal at h
  unfold Utf8.valid
  simp
  omega
 unfold Utf8.encode
 simp only[hv,if_true,Int.toNat_natCast]
 by_cases h1:n<128
 ·rw[if_pos h1,zqk om];rfl
 rw[if_neg h1]
 by_cases h2:n<2048
 ·rw[if_pos h2,znN om om];rfl
 rw[if_neg h2]
 by_cases h3:n<65536
 ·rw[if_pos h3,zoH om om h];rfl
 ·rw[if_neg h3,zo5 om hn];rfl
theorem zuf (n:Nat):enc [n]=zwV n:=by rw[zz7];simp[enc]
theorem zoa (n:Nat):enc [92,n]=92::zwV n:=by rw[zz7,zuf];rfl
theorem zpc (n:Nat):(zwV n).length<=4:=by rw[<- zuf];exact zyb [n]
theorem SP8:St8 SP:=st8 (by kernel_rfl) ddc
theorem IC8:St8 IC:=st8 (by kernel_rfl) ddc
theorem SP9:St9 SP:=fun k=>by kernel_rfl
theorem IC9:St9 IC:=fun k=>by kernel_rfl
theorem zsL (n:Nat) {c:Int} (h:scal c=true) {S:List Nat} (hS:St8 S):zyW n c (strOf (bs S))=some (strOf (enc (zx8 c S))):=by
 obtain ⟨m,rfl,hm,_,hm2⟩:=zrI h
 unfold zyW zx8
 by_cases h1:(m:Int)=10
 ·rw[if_pos (beq_iff_eq.2 h1),if_pos h1];rfl
 rw[if_neg (by simpa using h1),if_neg h1]
 by_cases h2:(m:Int)=9
 ·rw[if_pos (beq_iff_eq.2 h2),if_pos h2];rfl
 rw[if_neg (by simpa using h2),if_neg h2]
 have hw:IntKind.i32.wrap (m:Int)=(m:Int):=by simp[IntKind.wrap,IntKind.signed,IntKind.bits];omega
 rw[hw,znB hm,Int.toNat_natCast]
 by_cases h3:m<128
 ·rw[if_pos (dtt om),zu6 om om]
  unfold zye zyt
  simp only[Option.bind_some]
  have:=hS.ib (UInt8.ofNat m)
  rw[zrW h3]at this
  rw[this]
  cases hc:S.contains m with
  | true=>
    simp only[if_true]
    have e:=zpc m
    rw[show strOf [92]=strOf ([92]:List UInt8) from rfl,zuP oss,zoa]
    rfl
  | false=>
    simp only[ab,if_false]
    rw[zuf]
 ·rw[if_neg (by rw[dff om];decide)]
  have:S.contains m=false:=Bool.eq_false_iff.2 fun e=>h3 (hS.low m (by simpa using e))
  rw[this]
  simp only[Option.bind_some,ab,if_false]
  rw[zuf]
theorem zvK {c:Int} (h:scal c=true) {S:List Nat} (hS:St8 S) (h9:St9 S) {T:List UInt8} (hT:T=bs S):Tot (fun n=>zys n c (strOf T)) (· =strOf (enc (zx8 c S))):=by
 subst hT
 obtain ⟨m,rfl,hm,_,hm2⟩:=zrI h
 unfold zys zx8
 have b:Tot (fun n=>zzD n [(m:Int)]) (· =strOf (zwV m)):=by
  have:=zvl (p:=[m]) (by simpa using hm) (by simp)
  rw[zuf]at this
  exact this
 by_cases h1:(m:Int)=10
 ·rw[if_pos h1];exact ak (beq_iff_eq.2 h1) (aa rfl)
 rw[if_neg h1]
 refine ag (beq_eq_false_iff_ne.2 h1) ?_
 by_cases h2:(m:Int)=9
 ·rw[if_pos h2];exact ak (beq_iff_eq.2 h2) (aa rfl)
 rw[if_neg h2,Int.toNat_natCast]
 refine ag (beq_eq_false_iff_ne.2 h2) (ad (P:=(· =S.contains m)) ?_ fun a e=>?_)
 ·by_cases h3:m<128
  ·refine ak (dtt om) ?_
   rw[zu6 om om]
   refine ad (P:=(· =S.contains m)) (Tot.of_all 30 (fun k=>?_) rfl) fun a e=>aa e
   exact beq_iff_eq.1 (List.all_eq_true.1 (h9 k) m (List.mem_range.2 h3))
  ·refine ag (dff om) (aa ?_)
   symm
   exact Bool.eq_false_iff.2 fun e=>h3 (hS.low m (by simpa using e))
 ·subst e
  cases S.contains m with
  | true=>
    refine ak rfl (ad b fun a e=>?_)
    subst e
    have e:=zpc m
    refine ai (zuP (l:=[92]) oss) (aa ?_)
    rw[if_pos rfl,zoa]
    rfl
  | false=>
    refine ag rfl (ad b fun a e=>aa ?_)
    rw[e,if_neg ddc,zuf]
theorem zxQ (c:Int) (S:List Nat):(zx8 c S).length<=2:=by
 unfold zx8
 split;simp
 split;simp
 split<;>simp
theorem zqh (r:Int × Int):(zou r).length<=5:=by
 unfold zou
 have:=zxQ r.1 IC
 have:=zxQ r.2 IC
 rw[ac]
 split<;>simp<;>omega
theorem znj:∀ {l:List (Int × Int)},zu9 l=true->∀ x∈l.head?,x.1+(l.length:Int)<=1114112
 | [],_,x,hx=>by cases hx
 | [y],h,x,hx=>by
   cases hx
   simp only[zu9,ay,decide_eq_true_eq]at h
   have:=ztw h.1
   simp;omega
 | y::z::r,h,x,hx=>by
   cases hx
   simp only[zu9,ay,decide_eq_true_eq]at h
   have:=znj (l:=z::r) h.2.2.2.2 z rfl
   simp only[ae]at this ⊢
   omega
theorem zsS {l:List (Int × Int)} (h:zu9 l=true):l.length<=1114112:=by
 cases l with
 | nil=>simp
 | cons x r=>
   have h1:=znj h x rfl
   have h2:=ztw ((zpZ h).2 x (List.mem_cons_self ..)).1
   omega
theorem zzk {a b:List Nat} (h:a.length+b.length<=1000000000000):cat (strOf (enc a)) (strOf (enc b))=some (strOf (enc (a++b))):=by
 have h1:=zyb a
 have h2:=zyb b
 rw[zuP om,zyC]
theorem zht {rs:List (Int × Int)} (hl:rs.length<=2000000) (hs:∀ r∈rs,scal r.1=true∧scal r.2=true):∀ (rest pre:List (Int × Int)) (acc:List Nat),rs=pre++rest->acc.length+5*rest.length<=100000000->
 LT (clF rs) (strOf (enc acc),(pre.length:Int)) (· =strOf (enc (acc++rest.flatMap zou)))
 | [],pre,acc,e,_=>by
   refine LT.fin (Tot.alln fun n=>?_) (by rw[List.flatMap_nil,aj])
   unfold clF
   rw[if_neg]
   rw[e,aj,dff osm];decide
 | x::rest,pre,acc,e,ha=>by
   have b:=hl
   rw[e,ac,ae]at b
   rw[ae]at ha
   obtain ⟨s1,s2⟩:=hs x (by rw[e];simp)
   have l1:=zxQ x.1 IC
   have l2:=zxQ x.2 IC
   have a:∀ n,clF rs n (strOf (enc acc),(pre.length:Int))=some (.inl (strOf (enc (acc++zou x)),((pre.length+1:Nat):Int))):=fun n=>by
    unfold clF
    rw[if_pos (dtt (by simp only;rw[e,ac,ae];omega))]
    simp only
    rw[show idx rs (pre.length:Int)=some x by rw[e];exact zzL pre x rest rfl]
    simp only[Option.bind_some]
    rw[show strOf [92,93,94,45,91]=strOf (bs IC) from rfl,zsL n s1 IC8]
    simp only[Option.bind_some]
    rw[zzk om,zzw (x:=(pre.length:Int)+1) om om]
    simp only[Option.bind_some]
    unfold zou
    by_cases h:x.1<x.2
    ·rw[if_pos (dtt h),if_pos h,zsL n s2 IC8]
     simp only[Option.bind_some]
     rw[show strOf [45]=strOf (enc [45]) from rfl,zzk oss]
     simp only[Option.bind_some]
     rw[zzk oss]
     simp only[Option.bind_some,al,aA]
     rfl
    ·rw[if_neg (by rw[dff h];decide),if_neg h,aj]
     rfl
   have hr:=zqh x
   have ih:=zht hl hs rest (pre++[x]) (acc++zou x) (by rw[e];simp) (by rw[ac];omega)
   rw[show (((pre++[x]).length:Nat):Int)=((pre.length+1:Nat):Int) by simp,al]at ih
   rw[ax]
   exact LT.step (Tot.alln a) ih
theorem zsh (rs:List (Int × Int)):(rs.flatMap zou).length<=5*rs.length:=by
 induction rs with
 | nil=>simp
 | cons x rs ih=>
   rw[ax,ac,ae]
   have:=zqh x
   omega
theorem zpD {k lo hi:Int} {no lz:Bool} {rs:List (Int × Int)} {subs:List Pc} (h:zu9 rs=true):Tot (fun n=>zxt n (k,lo,hi,no,lz,rs,subs)) (· =strOf (enc (zlt no rs))):=by
 have hl:=zsS h
 unfold zxt
 refine ad (P:=(· =strOf (enc (91::(if no then [94] else []))))) ?_ fun a e=>?_
 ·cases no with
  | true=>exact ak rfl (ai (a:=strOf [91,94]) rfl (aa rfl))
  | false=>exact ag rfl (aa rfl)
 ·subst e
  refine ad (LT.tot (F:=clF rs) (zht om (zpZ h).2 rs [] (91::(if no then [94] else [])) rfl (by cases no<;>simp<;>omega))) fun a e=>?_
  subst e
  have:=zsh rs
  refine ai (zzk (b:=[93]) (by cases no<;>simp only[ac,ae,ao,ab,if_false,if_true]<;>omega)) (aa ?_)
  unfold zlt
  simp only[List.cons_append,al]
theorem zko {rs:List (Int × Int)} (hl:rs.length<=2000000) (hs:∀ r∈rs,scal r.1=true∧scal r.2=true) (hle:∀ r∈rs,r.1<=r.2):∀ (rest pre:List (Int × Int)) (acc:List Nat),rs=pre++rest->acc.length+5*rest.length<=100000000->
 LT (ziJ rs) (strOf (enc acc),(pre.length:Int)) (· =strOf (enc (acc++rest.flatMap zou)))
 | [],pre,acc,e,_=>by
   refine LT.fin (Tot.alln fun n=>?_) (by rw[List.flatMap_nil,aj])
   unfold ziJ
   rw[if_neg]
   rw[e,aj,dff osm];decide
 | x::rest,pre,acc,e,ha=>by
   have d:=hl
   rw[e,ac,ae]at d
   rw[ae]at ha
   obtain ⟨s1,s2⟩:=hs x (by rw[e];simp)
   have hxx:=hle x (by rw[e];simp)
   have l1:=zxQ x.1 IC
   have l2:=zxQ x.2 IC
   have b:Tot (fun n=>ziJ rs n (strOf (enc acc),(pre.length:Int))) (· = .inl (strOf (enc (acc++zou x)),((pre.length+1:Nat):Int))):=by
    unfold ziJ
    have c:idx rs (pre.length:Int)=some x:=by rw[e];exact zzL pre x rest rfl
    refine ak (dtt (by simp only;rw[e,ac,ae];omega)) (ai c (ai c ?_))
    refine ad (zvK s1 IC8 IC9 rfl) fun a ea=>?_
    subst ea
    refine ai (zzk om) ?_
    simp only[zzw (x:=(pre.length:Int)+1) om om]
    unfold zou
    by_cases h:x.1<x.2
    ·rw[if_pos h]
     refine ad (P:=(· =strOf (enc (acc++(zx8 x.1 IC++45::zx8 x.2 IC))))) (ak oss (ad (zvK s2 IC8 IC9 rfl) fun a ea=>?_)) fun a ea=>by subst ea;exact aa rfl
     subst ea
     refine ai (zzk (a:=[45]) oss) (ai (zzk oss) (aa ?_))
     simp only[al,aA]
    ·rw[if_neg h,aj]
     exact ad (P:=(· =strOf (enc (acc++zx8 x.1 IC)))) (ag oss (aa rfl)) fun a ea=>by subst ea;exact aa rfl
   have hr:=zqh x
   have ih:=zko hl hs hle rest (pre++[x]) (acc++zou x) (by rw[e];simp) (by rw[ac];omega)
   rw[show (((pre++[x]).length:Nat):Int)=((pre.length+1:Nat):Int) by simp,al]at ih
   rw[ax]
   exact LT.step b ih
theorem zls:(List.range 100).all (fun n=>enc (zvg (n:Int))==Lib.itoa (n:Int))=true:=by kernel_rfl
theorem zon {n:Int} (h0:0<=n) (h1:n<=99):Lib.itoa n=enc (zvg n):=by
 obtain ⟨m,rfl⟩:∃ m:Nat,n=m:=⟨n.toNat,om⟩
 exact (beq_iff_eq.1 (List.all_eq_true.1 zls m (List.mem_range.2 om))).symm
theorem zjs:(List.range 100).all (fun n=>decide ((zvg (n:Int)).length<=2))=true:=by kernel_rfl
theorem zxc {n:Int} (h0:0<=n) (h1:n<=99):(zvg n).length<=2:=by
 obtain ⟨m,rfl⟩:∃ m:Nat,n=m:=⟨n.toNat,om⟩
 exact odt (List.all_eq_true.1 zjs m (List.mem_range.2 om))
theorem zqQ (n:Nat) {v:Int} (h0:0<=v) (h1:v<=99):strconv_Itoa n v=some (strOf (enc (zvg v))):=by
 unfold strconv_Itoa
 rw[if_pos om,zon h0 h1]
theorem zqj (k:Nat):(List.range 100).all (fun m=>match zz3 (k+60) (m:Int) with | some b=>bytesOf b==Lib.itoa (m:Int) | none=>false)=true:=by kernel_rfl
theorem zvB {v:Int} (h0:0<=v) (h1:v<=99):Tot (fun n=>zz3 n v) (· =strOf (enc (zvg v))):=by
 obtain ⟨m,rfl⟩:∃ m:Nat,v=m:=⟨v.toNat,om⟩
 refine Tot.of_all 60 (fun k=>?_) rfl
 have:=List.all_eq_true.1 (zqj k) m (List.mem_range.2 om)
 cases hd:zz3 (k+60) (m:Int) with
 | none=>rw[hd]at this;cases this
 | some b=>
   rw[hd]at this
   rw[<- zon h0 h1,<- beq_iff_eq.1 this,zxF]
theorem zsm {lo hi:Int} (h0:0<=lo) (h1:lo<=99) (h2: -1<=hi) (h3:hi<=99):(zvb lo hi).length<=7:=by
 have:=zxc h0 h1
 unfold zvb
 split;simp
 split;simp
 split;simp
 split;simp;omega
 split;simp;omega
 have:=zxc (n:=hi) om h3
 simp;omega
theorem zlR (n:Nat) {lo hi:Int} {no lz:Bool} {rs:List (Int × Int)} {subs:List Pc} (h0:0<=lo) (h1:lo<=99) (h2: -1<=hi) (h3:hi<=99):
 zxG n (10,lo,hi,no,lz,rs,subs)=some (strOf (enc (zvb lo hi++if lz then [63] else []))):=by
 have hd:=zxc h0 h1
 have key:∀ T:List Nat,T.length<=7->((some (strOf (enc T))).bind fun (a:ByteArray)=>(Option.bind (if lz then (Option.bind (cat a (strOf [63])) fun b=>(some (b))) else (some (a))) fun (c:ByteArray)=>(some (c))))=some (strOf (enc (T++if lz then [63] else []))):=fun T hT=>by
  cases lz with
  | true=>
    simp only[Option.bind_some,if_true]
    rw[show strOf [63]=strOf (enc [63]) from rfl,zzk oss]
    rfl
  | false=>simp
 have ht:=zsm h0 h1 h2 h3
 unfold zxG
 rw[zqQ n h0 h1]
 simp only[Option.bind_some]
 rw[<- key (zvb lo hi) ht]
 have b1:(hi== -1)=decide (hi= -1):=by rw[am];simp
 have b2:(lo==0)=decide (lo=0):=by rw[am];simp
 have b3:(lo==1)=decide (lo=1):=by rw[am];simp
 have b4:(hi==1)=decide (hi=1):=by rw[am];simp
 have b5:(hi==lo)=decide (hi=lo):=by rw[am];simp
 rw[b1,b2,b3,b4,b5]
 by_cases e1:hi= -1
 ·have e4:¬ hi=1:=by omega
  by_cases e2:lo=0
  ·rw[show zvb lo hi=[42] by unfold zvb;rw[if_pos ⟨e1,e2⟩]];simp[e1,e2];rfl
  ·by_cases e3:lo=1
   ·rw[show zvb lo hi=[43] by unfold zvb;rw[if_neg (fun h=>e2 h.2),if_pos ⟨e1,e3⟩]];simp[e1,e3];rfl
   ·rw[show zvb lo hi=123::(zvg lo++[44,125]) by unfold zvb;rw[if_neg (fun h=>e2 h.2),if_neg (fun h=>e3 h.2),if_neg (fun h=>e2 h.1),if_pos e1]]
    simp only[e1,e2,e3,decide_true,decide_false,if_true,ab,if_false,Option.bind_some]
    rw[show strOf [123]=strOf (enc [123]) from rfl,zzk oss]
    simp only[Option.bind_some]
    rw[show strOf [44,125]=strOf (enc [44,125]) from rfl,zzk oss]
    rfl
 ·by_cases e2:lo=0∧hi=1
  ·rw[show zvb lo hi=[63] by unfold zvb;rw[if_neg (fun h=>e1 h.1),if_neg (fun h=>e1 h.1),if_pos e2]];simp[e2.1,e2.2];rfl
  ·have hj:(if decide (lo=0)=true then some (decide (hi=1)) else some false)=some false:=by
    by_cases e3:lo=0
    ·rw[if_pos (dtt e3),dff (fun h=>e2 ⟨e3,h⟩)]
    ·rw[if_neg (by rw[dff e3];decide)]
   by_cases e5:hi=lo
   ·rw[show zvb lo hi=123::(zvg lo++[125]) by unfold zvb;rw[if_neg (fun h=>e1 h.1),if_neg (fun h=>e1 h.1),if_neg e2,if_neg e1,if_pos e5]]
    simp only[e1,decide_false,ab,if_false,Option.bind_some]
    rw[hj]
    simp only[Option.bind_some,ab,if_false,e5,decide_true,if_true]
    rw[show strOf [123]=strOf (enc [123]) from rfl,zzk oss]
    simp only[Option.bind_some]
    rw[show strOf [125]=strOf (enc [125]) from rfl,zzk oss]
    rfl
   ·rw[show zvb lo hi=123::(zvg lo++44::(zvg hi++[125])) by unfold zvb;rw[if_neg (fun h=>e1 h.1),if_neg (fun h=>e1 h.1),if_neg e2,if_neg e1,if_neg e5]]
    have hd2:=zxc (n:=hi) om h3
    simp only[e1,decide_false,ab,if_false,Option.bind_some]
    rw[hj]
    simp only[Option.bind_some,ab,if_false,e5,decide_false]
    rw[show strOf [123]=strOf (enc [123]) from rfl,zzk oss]
    simp only[Option.bind_some]
    rw[show strOf [44]=strOf (enc [44]) from rfl,zzk oss,zqQ n (v:=hi) om h3]
    simp only[Option.bind_some]
    rw[zzk oss]
    simp only[Option.bind_some]
    rw[show strOf [125]=strOf (enc [125]) from rfl,zzk oss]
    simp
noncomputable def ziL (subs:List Pc) (fuel:Nat) (s9:((List ByteArray) × Int)):Option (((List ByteArray) × Int) ⊕ (List ByteArray)):=
 (if (decide (s9.2<((ap subs:Nat):Int))) then (Option.bind (idx subs s9.2) fun x22=>(Option.bind (zyR fuel ((Pc.un x22).1,(Pc.un x22).2.1,(Pc.un x22).2.2.1,(Pc.un x22).2.2.2.1,(Pc.un x22).2.2.2.2.1,(Pc.un x22).2.2.2.2.2.1,(Pc.un x22).2.2.2.2.2.2)) fun r41=>(Option.bind (app s9.1 ([r41]:List ByteArray)) fun l61=>(some (.inl (l61,(IntKind.i64.wrap (s9.2+1)))))))) else (some (.inr (s9.1))))
noncomputable def ptF (k:Int) (subs:List Pc) (fuel:Nat) (s9:(ByteArray × Int)):Option ((ByteArray × Int) ⊕ ByteArray):=
 (if (decide (s9.2<((ap subs:Nat):Int))) then (Option.bind (if (decide (s9.2>0)) then (some ((k==9))) else (some (false))) fun (j16:Bool)=>(Option.bind (if j16 then (Option.bind (cat s9.1 (strOf [124])) fun x26=>(some (x26))) else (some (s9.1))) fun (j23:ByteArray)=>(Option.bind (idx subs s9.2) fun x32=>(Option.bind (zzJ fuel ((Pc.un x32).1,(Pc.un x32).2.1,(Pc.un x32).2.2.1,(Pc.un x32).2.2.2.1,(Pc.un x32).2.2.2.2.1,(Pc.un x32).2.2.2.2.2.1,(Pc.un x32).2.2.2.2.2.2)) fun r41=>(Option.bind (cat j23 r41) fun x46=>(some (.inl (x46,(IntKind.i64.wrap (s9.2+1)))))))))) else (some (.inr (s9.1))))
def nodeT (k lo hi:Int) (no lz:Bool) (rs:List (Int × Int)) (ts:List (List Nat)):List Nat:=
    if k=1 then zx8 lo SP else if k=2 then [46] else if k=3 then zlt no rs else if k=4 then [94] else if k=5 then [36] else
    if k=6 then (if no then [92,66] else [92,98]) else
    if k=7 then (if lo=0 then [40,63,58] else [40])++(ts.headD []++[41]) else
    if k=8 then ts.flatten else if k=9 then zxH ts else
    if k=10 then ts.headD []++(zvb lo hi++if lz then [63] else []) else
    if k=11 then (if no then [40,63,33] else [40,63,61])++(ts.headD []++[41]) else 92::zvg lo
theorem zsO (k lo hi:Int) (no lz:Bool) (rs:List (Int × Int)) (subs:List Pc):txt (.mk k lo hi no lz rs subs)=nodeT k lo hi no lz rs (zx5 subs):=by rw[txt];rfl
theorem zlv {no:Bool} {rs:List (Int × Int)} (h:zu9 rs=true):(zlt no rs).length<=5600000:=by
 have h1:=zsS h
 have h2:=zsh rs
 unfold zlt
 cases no<;>simp only[ac,ae,ao,ab,if_false,if_true]<;>omega
theorem zrM:∀ (ts:List (List Nat)),(zxH ts).length<=ts.flatten.length+ts.length
 | []=>by simp[zxH]
 | t::ts=>by
   have:(ts.flatMap fun u=>124::u).length=ts.flatten.length+ts.length:=by
    induction ts with
    | nil=>rfl
    | cons u us ih=>rw[ax,ac,ih,an,ac,ae,ae];omega
   rw[zxH,ac,this,an,ac,ae]
   omega
theorem zun {g g':Nat} {k lo hi:Int} {no lz:Bool} {rs:List (Int × Int)} {subs:List Pc} (h:chkL g (zxo (.mk k lo hi no lz rs subs))=some g'):∃ g1,zyO g (k,lo,hi,no,lz,rs,subs)= .inr g1∧chkL g1 (preL subs)=some g':=by
 rw[ztU,chkL]at h
 cases hn:zyO g (k,lo,hi,no,lz,rs,subs) with
 | inl e=>rw[show (Pc.mk k lo hi no lz rs subs).un=(k,lo,hi,no,lz,rs,subs) from rfl,hn]at h;cases h
 | inr g1=>rw[show (Pc.mk k lo hi no lz rs subs).un=(k,lo,hi,no,lz,rs,subs) from rfl,hn]at h;exact ⟨g1,rfl,h⟩
mutual
theorem zkf:∀ (p:Pc) (g g':Nat),chkL g (zxo p)=some g'->(txt p).length+1<=6000000*zvD p
 | .mk k lo hi no lz rs subs,g,g',h=>by
   obtain ⟨g1,hn,hs⟩:=zun h
   have ih:=zpr subs g1 g' hs
   rw[zsO,zvM]
   rcases zty hn with ⟨rfl,hsc,rfl,rfl,rfl,rfl,rfl,rfl⟩ | ⟨hk,rfl,rfl,rfl,rfl,rfl,rfl,rfl⟩ | ⟨rfl,rfl,rfl,rfl,b,hne,rfl,rfl⟩ | ⟨rfl,rfl,rfl,rfl,rfl,rfl,rfl⟩ | ⟨rfl,rfl,rfl,rfl,rfl,hl,hg⟩ | ⟨rfl,rfl,rfl,rfl,rfl,rfl,hl,a,rfl⟩ | ⟨rfl,rfl,rfl,rfl,rfl,rfl,hl,a,rfl⟩ | ⟨rfl,rfl,rfl,hl,a,hr,rfl⟩ | ⟨rfl,rfl,rfl,rfl,rfl,hl,rfl⟩ | ⟨rfl,hlo,hlg,rfl,rfl,rfl,rfl,rfl,rfl⟩
   ·have:=zxQ lo SP
    show (zx8 lo SP).length+1<=_
    omega
   ·rcases hk with rfl | rfl | rfl<;>(show 2<=_;omega)
   ·have:=zlv (no:=no) b
    show (zlt no rs).length+1<=_
    omega
   ·show (if no then [92,66] else [92,98]:List Nat).length+1<=_
    cases no<;>simp<;>omega
   ·obtain ⟨q,rfl⟩:=zwR hl
    rw[zx5,zx5]at ih ⊢
    show ((if lo=0 then [40,63,58] else [40]:List Nat)++(txt q++[41])).length+1<=_
    simp only[an,aq,aj,ac,ae,ao]at ih ⊢
    split<;>simp<;>omega
   ·show ((zx5 subs).flatten).length+1<=_
    omega
   ·show (zxH (zx5 subs)).length+1<=_
    have:=zrM (zx5 subs)
    omega
   ·obtain ⟨q,rfl⟩:=zwR hl
    rw[zx5,zx5]at ih ⊢
    have:=zsm hr.1 hr.2.1 hr.2.2.1 hr.2.2.2.1
    show (txt q++(zvb lo hi++if lz then [63] else [])).length+1<=_
    simp only[an,aq,aj,ac,ae,ao]at ih ⊢
    split<;>simp<;>omega
   ·obtain ⟨q,rfl⟩:=zwR hl
    rw[zx5,zx5]at ih ⊢
    show ((if no then [40,63,33] else [40,63,61]:List Nat)++(txt q++[41])).length+1<=_
    simp only[an,aq,aj,ac,ae,ao]at ih ⊢
    split<;>simp<;>omega
   ·have:=zxc (n:=lo) om om
    show (92::zvg lo).length+1<=_
    rw[ae]
    omega
theorem zpr:∀ (l:List Pc) (g g':Nat),chkL g (preL l)=some g'->(zx5 l).flatten.length+(zx5 l).length<=6000000*sizeL l
 | [],_,_,_=>by rw[zx5];simp[sizeL]
 | p::l,g,g',h=>by
   rw[preL]at h
   obtain ⟨g1,h1,h2⟩:=zv1 h
   have a:=zkf p g g1 h1
   have b:=zpr l g1 g' h2
   have c:=zpo p
   rw[zx5,sizeL,an,ac,ae]
   omega
end
theorem zur:∀ (l:List Pc),l.length<=sizeL l
 | []=>by simp
 | p::l=>by have:=zur l;have:=zpo p;rw[sizeL,ae];omega
theorem zpe (l:List Pc):(zx5 l).length=l.length:=by rw[zo4,List.length_map]
theorem zr6:∀ (ts:List (List UInt8)),Lib.join ts []=ts.flatten
 | []=>rfl
 | [t]=>by simp[Lib.join,aB,List.intersperse]
 | t::u::ts=>by
   have ih:=zr6 (u::ts)
   unfold Lib.join aB at ih ⊢
   rw[List.intersperse_cons₂,an,an,ih,az]
   simp
theorem zrY:∀ (ts:List (List Nat)),Lib.join (ts.map enc) [124]=enc (zxH ts)
 | []=>rfl
 | [t]=>by simp[Lib.join,aB,List.intersperse,zxH]
 | t::u::ts=>by
   have ih:=zrY (u::ts)
   unfold Lib.join aB at ih ⊢
   rw[aC,aC,List.intersperse_cons₂,an,an,<- aC,ih,zxH,zxH,ax,zyC,zyC,zyC,show enc (124::u)=124::enc u from rfl]
   simp
theorem zpl:∀ (ts:List (List Nat)),(ts.map enc).flatten=enc ts.flatten
 | []=>rfl
 | t::ts=>by rw[aC,an,an,zyC,zpl ts]
theorem zra (ts:List (List Nat)):(ts.map (fun t=>strOf (enc t))).map bytesOf=ts.map enc:=by rw[List.map_map];congr 1
theorem zlP {n:Nat} (ts:List (List Nat)) (h:ts.length<=1000) (hl:ts.flatten.length+ts.length<=10000000000):strings_Join n (ts.map (fun t=>strOf (enc t))) (strOf [])=some (strOf (enc ts.flatten)):=by
 unfold strings_Join
 have e:Lib.join ((ts.map (fun t=>strOf (enc t))).map bytesOf) (bytesOf (strOf []))=enc ts.flatten:=by rw[zra,zyd,zr6,zpl]
 have:=zyb ts.flatten
 rw[e,if_pos ⟨by rw[List.length_map];omega,om⟩]
theorem zma {n:Nat} (ts:List (List Nat)) (h:ts.length<=1000) (hl:ts.flatten.length+ts.length<=10000000000):strings_Join n (ts.map (fun t=>strOf (enc t))) (strOf [124])=some (strOf (enc (zxH ts))):=by
 unfold strings_Join
 have e:Lib.join ((ts.map (fun t=>strOf (enc t))).map bytesOf) (bytesOf (strOf [124]))=enc (zxH ts):=by rw[zra,zyd,zrY]
 have:=zyb (zxH ts)
 have:=zrM ts
 rw[e,if_pos ⟨by rw[List.length_map];omega,om⟩]
mutual
theorem zkv:∀ (p:Pc) (g g':Nat),chkL g (zxo p)=some g'->zvD p<=70->Tot (fun n=>zyR n p.un) (· =strOf (enc (txt p)))
 | .mk k lo hi no lz rs subs,g,g',h,hz=>by
   obtain ⟨g1,hn,hs⟩:=zun h
   rw[zvM]at hz
   have hsl:=zur subs
   have ih:=zkk subs subs [] [] g1 g' rfl hs om om (aD _)
   rw[az]at ih
   have c:=zpr subs g1 g' hs
   refine Tot.suc (Tot.eqf (fun n=>zyR.eq_2 ..) (ad (LT.tot (F:=ziL subs) ih) fun a e=>?_))
   subst e
   rw[zsO]
   simp only[Pc.un]
   rcases zty hn with ⟨rfl,i,rfl,rfl,rfl,rfl,rfl,rfl⟩ | ⟨hk,rfl,rfl,rfl,rfl,rfl,rfl,rfl⟩ | ⟨rfl,rfl,rfl,rfl,f,hne,rfl,rfl⟩ | ⟨rfl,rfl,rfl,rfl,rfl,rfl,rfl⟩ | ⟨rfl,rfl,rfl,rfl,rfl,hl,hg⟩ | ⟨rfl,rfl,rfl,rfl,rfl,rfl,hl,d,rfl⟩ | ⟨rfl,rfl,rfl,rfl,rfl,rfl,hl,d,rfl⟩ | ⟨rfl,rfl,rfl,hl,d,hr,rfl⟩ | ⟨rfl,rfl,rfl,rfl,rfl,hl,rfl⟩ | ⟨rfl,hlo,hlg,rfl,rfl,rfl,rfl,rfl,rfl⟩
   ·simp only[af,ab,if_false,if_true,Option.bind_some]
    exact ad (Tot.alln fun n=>zsL n i SP8) fun a e=>aa e
   ·rcases hk with rfl | rfl | rfl<;>(simp only[af,ab,if_false,if_true,Option.bind_some];exact aa rfl)
   ·simp only[af,ab,if_false,if_true,Option.bind_some]
    exact ad (zpD f) fun a e=>aa e
   ·simp only[af,ab,if_false,if_true,Option.bind_some]
    cases no<;>exact aa rfl
   ·obtain ⟨q,rfl⟩:=zwR hl
    rw[zx5,zx5]at c ⊢
    simp only[an,aq,aj,ae,ao]at c
    simp only[af,ab,if_false,if_true,Option.bind_some]
    refine ai (a:=strOf (enc (txt q))) rfl ?_
    by_cases h0:lo=0
    ·subst h0
     refine ai (a:=strOf (enc [40,63,58])) rfl (ai (zzk oss) (ai (zzk (b:=[41]) oss) (aa ?_)))
     rw[al];rfl
    ·refine ad (P:=(· =strOf (enc [40]))) (Tot.alln fun n=>by unfold zxW;rw[if_neg (by simpa using h0)];rfl) fun a e=>?_
     subst e
     refine (ai (zzk oss) (ai (zzk (b:=[41]) oss) (aa ?_)))
     rw[al]
     show _=strOf (enc ((if lo=0 then [40,63,58] else [40])++(txt q++[41])))
     rw[if_neg h0]
   ·simp only[af,ab,if_false,if_true,Option.bind_some]
    refine ad (Tot.alln fun n=>zlP (zx5 subs) (by have:=zpe subs;omega) om) fun a e=>?_
    subst e
    exact aa rfl
   ·simp only[af,ab,if_false,if_true,Option.bind_some]
    refine ad (Tot.alln fun n=>zma (zx5 subs) (by have:=zpe subs;omega) om) fun a e=>?_
    subst e
    exact aa rfl
   ·obtain ⟨q,rfl⟩:=zwR hl
    rw[zx5,zx5]at c ⊢
    simp only[an,aq,aj,ae,ao]at c
    have ht:=zsm hr.1 hr.2.1 hr.2.2.1 hr.2.2.2.1
    simp only[af,ab,if_false,if_true,Option.bind_some]
    refine ai (a:=strOf (enc (txt q))) rfl (ad (Tot.alln fun n=>zlR n hr.1 hr.2.1 hr.2.2.1 hr.2.2.2.1) fun a e=>?_)
    subst e
    exact ai (zzk (by cases lz<;>simp<;>omega)) (aa rfl)
   ·obtain ⟨q,rfl⟩:=zwR hl
    rw[zx5,zx5]at c ⊢
    simp only[an,aq,aj,ae,ao]at c
    simp only[af,ab,if_false,if_true,Option.bind_some]
    refine ai (a:=strOf (enc (txt q))) rfl ?_
    cases no with
    | true=>
      refine ai (a:=strOf (enc [40,63,33])) rfl (ai (zzk oss) (ai (zzk (b:=[41]) oss) (aa ?_)))
      rw[al];rfl
    | false=>
      refine ai (a:=strOf (enc [40,63,61])) rfl (ai (zzk oss) (ai (zzk (b:=[41]) oss) (aa ?_)))
      rw[al];rfl
   ·have:=zxc (n:=lo) om om
    simp only[af,ab,if_false,if_true,Option.bind_some]
    refine ad (Tot.alln fun n=>zqQ n (v:=lo) om om) fun a e=>?_
    subst e
    exact ai (zzk (a:=[92]) oss) (aa rfl)
theorem zkk:∀ (rest subs pre:List Pc) (acc:List ByteArray) (g g':Nat),subs=pre++rest->chkL g (preL rest)=some g'->sizeL rest<=70->subs.length<=1000->acc.length<=pre.length->
 LT (ziL subs) (acc,(pre.length:Int)) (· =acc++(zx5 rest).map (fun t=>strOf (enc t)))
 | [],subs,pre,acc,g,g',e,_,_,_,_=>by
   refine LT.fin (Tot.alln fun n=>?_) (by rw[zx5,List.map_nil,aj])
   unfold ziL
   rw[if_neg]
   rw[e,aj,dff osm];decide
 | x::rest,subs,pre,acc,g,g',e,h,hz,hl,ha=>by
   rw[preL]at h
   obtain ⟨g1,h1,h2⟩:=zv1 h
   rw[sizeL]at hz
   have c:=hl
   have hsl:=zur rest
   rw[e,ac,ae]at c
   have hT:=zkv x g g1 h1 om
   have b:Tot (fun n=>ziL subs n (acc,(pre.length:Int))) (· = .inl (acc++[strOf (enc (txt x))],((pre.length+1:Nat):Int))):=by
    unfold ziL
    refine ak (dtt (by simp only;rw[e,ac,ae];omega)) (ai (show idx subs (pre.length:Int)=some x by rw[e];exact zzL pre x rest rfl) (ad hT fun a ea=>?_))
    subst ea
    refine ai (zq8 oss) (aa ?_)
    rw[zzw (x:=(pre.length:Int)+1) om om]
    rfl
   have ih:=zkk rest subs (pre++[x]) (acc++[strOf (enc (txt x))]) g1 g' (by rw[e];simp) h2 om hl (by simp only[ac,aw];omega)
   rw[show (((pre++[x]).length:Nat):Int)=((pre.length+1:Nat):Int) by simp,al]at ih
   rw[zx5,aC]
   exact LT.step b ih
end
def zpO (nine:Bool):Bool->List (List Nat)->List Nat
 | _,[]=>[]
 | first,t::ts=>(if nine&& !first then [124] else [])++(t++zpO nine false ts)
theorem zw5:∀ (f:Bool) (ts:List (List Nat)),zpO false f ts=ts.flatten
 | _,[]=>rfl
 | f,t::ts=>by rw[zpO,zw5 false ts];simp
theorem zqE:∀ (ts:List (List Nat)),zpO true false ts=ts.flatMap (fun u=>124::u)
 | []=>rfl
 | t::ts=>by rw[zpO,zqE ts,ax];simp
theorem zpP:∀ (ts:List (List Nat)),zpO true true ts=zxH ts
 | []=>rfl
 | t::ts=>by rw[zpO,zqE ts,zxH];simp
theorem zrK (k:Nat):(match zz3 (k+60) (-1) with | some b=>bytesOf b==[45,49] | none=>false)=true:=by kernel_rfl
theorem zpE {v:Int} (h0: -1<=v) (h1:v<=99):∃ t:List UInt8,t.length<=100∧(0<=v->t=enc (zvg v))∧Tot (fun n=>zz3 n v) (· =strOf t):=by
 by_cases h:0<=v
 ·have:=zxc h h1
  have:=zyb (zvg v)
  exact ⟨enc (zvg v),om,fun _=>rfl,zvB h h1⟩
 ·have:v= -1:=by omega
  subst this
  refine ⟨[45,49],ddc,fun h'=>absurd h' h,Tot.of_all 60 (fun k=>?_) rfl⟩
  have:=zrK k
  cases hd:zz3 (k+60) (-1) with
  | none=>rw[hd]at this;cases this
  | some b=>
    rw[hd]at this
    rw[<- beq_iff_eq.1 this,zxF]
theorem znA:∀ {l:List (Int × Int)},zjx l->∀ r∈l,r.1<=r.2
 | [],_,r,hr=>by cases hr
 | x::l,h,r,hr=>by
   rcases List.mem_cons.1 hr with rfl | hr
   ·exact zom h
   ·exact znA (zoQ h) r hr
mutual
theorem zn7:∀ (p:Pc) (g g':Nat),chkL g (zxo p)=some g'->zvD p<=70->Tot (fun n=>zzJ n p.un) (· =strOf (enc (txt p)))
 | .mk k lo hi no lz rs subs,g,g',h,hz=>by
   obtain ⟨g1,hn,hs⟩:=zun h
   rw[zvM]at hz
   have hsl:=zur subs
   have ih:=pt_l k subs subs [] [] g1 g' rfl hs om om oss
   rw[az]at ih
   have c:=zpr subs g1 g' hs
   refine Tot.suc (Tot.eqf (fun n=>zzJ.eq_2 ..) (ad (LT.tot (F:=ptF k subs) ih) fun a e=>?_))
   subst e
   rw[zsO]
   simp only[Pc.un]
   rcases zty hn with ⟨rfl,j,rfl,rfl,rfl,rfl,rfl,rfl⟩ | ⟨hk,rfl,rfl,rfl,rfl,rfl,rfl,rfl⟩ | ⟨rfl,rfl,rfl,rfl,f,hne,rfl,rfl⟩ | ⟨rfl,rfl,rfl,rfl,rfl,rfl,rfl⟩ | ⟨rfl,rfl,rfl,rfl,rfl,hl,hg⟩ | ⟨rfl,rfl,rfl,rfl,rfl,rfl,hl,d,rfl⟩ | ⟨rfl,rfl,rfl,rfl,rfl,rfl,hl,d,rfl⟩ | ⟨rfl,rfl,rfl,hl,d,hr,rfl⟩ | ⟨rfl,rfl,rfl,rfl,rfl,hl,rfl⟩ | ⟨rfl,hlo,hlg,rfl,rfl,rfl,rfl,rfl,rfl⟩
   ·simp only[af,ab,if_false,if_true,Option.bind_some]
    exact ad (zvK j SP8 SP9 rfl) fun a e=>aa e
   ·rcases hk with rfl | rfl | rfl<;>(simp only[af,ab,if_false,if_true,Option.bind_some];exact aa rfl)
   ·simp only[af,ab,if_false,if_true,Option.bind_some]
    obtain ⟨o1,o2⟩:=zpZ f
    have hl:=zsS f
    have hfl:=zsh rs
    have i:∀ r∈rs,r.1<=r.2:=znA o1
    refine ad (P:=(· =strOf (enc (if no then [94] else [])))) ?_ fun a e=>?_
    ·cases no with
     | true=>exact ak rfl (aa rfl)
     | false=>exact ag rfl (aa rfl)
    ·subst e
     refine ad (LT.tot (F:=ziJ rs) (zko om o2 i rs [] (if no then [94] else []) rfl (by cases no<;>simp<;>omega))) fun a e=>?_
     subst e
     refine ai (zzk (a:=[91]) (by cases no<;>simp only[ac,ae,ao,ab,if_false,if_true]<;>omega)) (ai (zzk (b:=[93]) (by cases no<;>simp only[ac,ae,ao,ab,if_false,if_true]<;>omega)) (aa ?_))
     show _=strOf (enc (zlt no rs))
     unfold zlt
     cases no<;>simp
   ·simp only[af,ab,if_false,if_true,Option.bind_some]
    cases no<;>exact aa rfl
   ·obtain ⟨q,rfl⟩:=zwR hl
    rw[zx5,zx5]at c ⊢
    simp only[an,aq,aj,ae,ao]at c
    simp only[af,ab,if_false,if_true,Option.bind_some]
    have hc:zpO ((7:Int)==9) ([]:List Pc).isEmpty [txt q]=txt q:=by rw[show ((7:Int)==9)=false from rfl,zw5];simp
    simp only[show ((7:Int)==9)=false from rfl]at hc
    rw[hc]
    by_cases h0:lo=0
    ·subst h0
     refine ak rfl (ai (zzk (a:=[40,63,58]) oss) (ai (zzk (b:=[41]) oss) (aa ?_)))
     rw[al];rfl
    ·refine ag (by simpa using h0) (ai (zzk (a:=[40]) oss) (ai (zzk (b:=[41]) oss) (aa ?_)))
     rw[al]
     show _=strOf (enc ((if lo=0 then [40,63,58] else [40])++(txt q++[41])))
     rw[if_neg h0]
   ·simp only[af,ab,if_false,if_true,Option.bind_some]
    rw[zw5]
    exact aa rfl
   ·simp only[af,ab,if_false,if_true,Option.bind_some]
    rw[show ([]:List Pc).isEmpty=true from rfl,zpP]
    exact aa rfl
   ·obtain ⟨q,rfl⟩:=zwR hl
    rw[zx5,zx5]at c ⊢
    simp only[an,aq,aj,ae,ao]at c
    obtain ⟨r1,r2,r3,r4,r5⟩:=hr
    have hd:=zxc r1 r2
    have hde:=zyb (zvg lo)
    obtain ⟨ht,t1,t2,t3⟩:=zpE r3 r4
    simp only[af,ab,if_false,if_true,Option.bind_some]
    have hc:zpO false ([]:List Pc).isEmpty [txt q]=txt q:=by rw[zw5];simp
    rw[hc]
    refine ad (zvB r1 r2) fun a e=>?_
    subst e
    refine ad t3 fun a e=>?_
    subst e
    refine ai (zzk (a:=[123]) oss) (ai (zzk (b:=[44]) oss) ?_)
    have e1:=zyb ([123]++zvg lo++[44])
    have e2:([123]++zvg lo++[44]).length<=4:=by simp;omega
    refine ai (zuP om) (ai (zuP (m:=[125]) (by rw[ac];simp only[aw];omega)) ?_)
    have l:=zsm r1 r2 r3 r4
    refine ad (P:=(· =decide (hi= -1∧lo=0))) ?_ fun a e=>?_
    ·by_cases h0:lo=0
     ·refine ak (beq_iff_eq.2 h0) (aa ?_)
      rw[am];simp[h0]
     ·refine ag (beq_eq_false_iff_ne.2 h0) (aa ?_)
      symm;exact dff fun h=>h0 h.2
    subst e
    refine ad (P:=(· =strOf (enc (zvb lo hi)))) ?_ fun a e=>?_
    ·by_cases c1:hi= -1∧lo=0
     ·rw[dtt c1,show zvb lo hi=[42] by unfold zvb;rw[if_pos c1]]
      exact ak rfl (aa rfl)
     rw[dff c1]
     refine ag rfl (ad (P:=(· =decide (hi= -1∧lo=1))) ?_ fun a e=>?_)
     ·by_cases h0:lo=1
      ·refine ak (beq_iff_eq.2 h0) (aa ?_)
       rw[am];simp[h0]
      ·refine ag (beq_eq_false_iff_ne.2 h0) (aa ?_)
       symm;exact dff fun h=>h0 h.2
     subst e
     by_cases c2:hi= -1∧lo=1
     ·rw[dtt c2,show zvb lo hi=[43] by unfold zvb;rw[if_neg c1,if_pos c2]]
      exact ak rfl (aa rfl)
     rw[dff c2]
     refine ag rfl (ad (P:=(· =decide (lo=0∧hi=1))) ?_ fun a e=>?_)
     ·by_cases h0:lo=0
      ·refine ak (beq_iff_eq.2 h0) (aa ?_)
       rw[am];simp[h0]
      ·refine ag (beq_eq_false_iff_ne.2 h0) (aa ?_)
       symm;exact dff fun h=>h0 h.1
     subst e
     by_cases c3:lo=0∧hi=1
     ·rw[dtt c3,show zvb lo hi=[63] by unfold zvb;rw[if_neg c1,if_neg c2,if_pos c3]]
      exact ak rfl (aa rfl)
     rw[dff c3]
     refine ag rfl ?_
     by_cases c4:hi= -1
     ·rw[show zvb lo hi=123::(zvg lo++[44,125]) by unfold zvb;rw[if_neg c1,if_neg c2,if_neg c3,if_pos c4]]
      exact ak (beq_iff_eq.2 c4) (ai (zzk (a:=[123]) oss) (ai (zzk (b:=[44,125]) oss) (aa rfl)))
     refine ag (beq_eq_false_iff_ne.2 c4) ?_
     by_cases c5:hi=lo
     ·rw[show zvb lo hi=123::(zvg lo++[125]) by unfold zvb;rw[if_neg c1,if_neg c2,if_neg c3,if_neg c4,if_pos c5]]
      exact ak (beq_iff_eq.2 c5.symm) (ai (zzk (a:=[123]) oss) (ai (zzk (b:=[125]) oss) (aa rfl)))
     ·rw[show zvb lo hi=123::(zvg lo++44::(zvg hi++[125])) by unfold zvb;rw[if_neg c1,if_neg c2,if_neg c3,if_neg c4,if_neg c5]]
      refine ag (beq_eq_false_iff_ne.2 (Ne.symm c5)) (aa ?_)
      rw[t2 om]
      rw[show (123::(zvg lo++44::(zvg hi++[125])))=([123]++zvg lo++[44])++(zvg hi++[125]) by simp]
      rw[zyC ([123]++zvg lo++[44]) (zvg hi++[125]),zyC (zvg hi) [125],<- al]
      rfl
    ·subst e
     refine ad (P:=(· =strOf (enc (zvb lo hi++if lz then [63] else [])))) ?_ fun a e=>?_
     ·cases lz with
      | true=>exact ak rfl (ai (zzk (b:=[63]) oss) (aa rfl))
      | false=>exact ag rfl (aa (by simp))
     ·subst e
      exact ai (zzk (by cases lz<;>simp<;>omega)) (aa rfl)
   ·obtain ⟨q,rfl⟩:=zwR hl
    rw[zx5,zx5]at c ⊢
    simp only[an,aq,aj,ae,ao]at c
    simp only[af,ab,if_false,if_true,Option.bind_some]
    have hc:zpO false ([]:List Pc).isEmpty [txt q]=txt q:=by rw[zw5];simp
    rw[hc]
    cases no with
    | true=>
      refine ak rfl (ai (zzk (a:=[40,63,33]) oss) (ai (zzk (b:=[41]) oss) (aa ?_)))
      rw[al];rfl
    | false=>
      refine ag rfl (ai (zzk (a:=[40,63,61]) oss) (ai (zzk (b:=[41]) oss) (aa ?_)))
      rw[al];rfl
   ·have:=zxc (n:=lo) om om
    simp only[af,ab,if_false,if_true,Option.bind_some]
    refine ad (zvB (v:=lo) om om) fun a e=>?_
    subst e
    exact ai (zzk (a:=[92]) oss) (aa rfl)
theorem pt_l (k:Int):∀ (rest subs pre:List Pc) (acc:List Nat) (g g':Nat),subs=pre++rest->chkL g (preL rest)=some g'->sizeL rest<=70->subs.length<=1000->acc.length+6000000*sizeL rest<=10000000000->
 LT (ptF k subs) (strOf (enc acc),(pre.length:Int)) (· =strOf (enc (acc++zpO (k==9) pre.isEmpty (zx5 rest))))
 | [],subs,pre,acc,g,g',e,_,_,_,_=>by
   refine LT.fin (Tot.alln fun n=>?_) (by rw[zx5,zpO,aj])
   unfold ptF
   rw[if_neg]
   rw[e,aj,dff osm];decide
 | x::rest,subs,pre,acc,g,g',e,h,hz,hl,ha=>by
   rw[preL]at h
   obtain ⟨g1,h1,h2⟩:=zv1 h
   rw[sizeL]at hz ha
   have d:=hl
   rw[e,ac,ae]at d
   have hT:=zn7 x g g1 h1 om
   have hx:=zkf x g g1 h1
   have c:Tot (fun n=>ptF k subs n (strOf (enc acc),(pre.length:Int))) (· = .inl (strOf (enc (acc++((if (k==9)&& !pre.isEmpty then [124] else [])++txt x))),((pre.length+1:Nat):Int))):=by
    unfold ptF
    refine ak (dtt (by simp only;rw[e,ac,ae];omega)) ?_
    refine ad (P:=(· =((k==9)&& !pre.isEmpty))) ?_ fun a ea=>?_
    ·cases pre with
     | nil=>exact ag rfl (aa (by simp))
     | cons y ys=>exact ak (dtt (by simp only[ae];omega)) (aa (by simp))
    ·subst ea
     refine ad (P:=(· =strOf (enc (acc++if ((k==9)&& !pre.isEmpty)=true then [124] else [])))) ?_ fun a ea=>?_
     ·cases (k==9)&& !pre.isEmpty with
      | true=>exact ak rfl (ai (zzk (b:=[124]) oss) (aa rfl))
      | false=>exact ag rfl (aa (by simp))
     ·subst ea
      refine ai (show idx subs (pre.length:Int)=some x by rw[e];exact zzL pre x rest rfl) (ad hT fun a ea=>?_)
      subst ea
      refine ai (zzk (by split<;>simp<;>omega)) (aa ?_)
      rw[zzw (x:=(pre.length:Int)+1) om om,al]
      rfl
   have ih:=pt_l k rest subs (pre++[x]) (acc++((if (k==9)&& !pre.isEmpty then [124] else [])++txt x)) g1 g' (by rw[e];simp) h2 om hl (by rw[ac,ac];split<;>simp<;>omega)
   rw[show (((pre++[x]).length:Nat):Int)=((pre.length+1:Nat):Int) by simp,al,al,show (pre++[x]).isEmpty=false by simp]at ih
   rw[zx5,zpO]
   exact LT.step c ih
end
noncomputable def zi4 (subs:List Pc) (fuel:Nat) (s17:(Int × Int)):Option ((Int × Int) ⊕ Int):=
 (if (decide (s17.2<((ap subs:Nat):Int))) then (Option.bind (idx subs s17.2) fun x22=>(Option.bind (zyp fuel ((Pc.un x22).1,(Pc.un x22).2.1,(Pc.un x22).2.2.1,(Pc.un x22).2.2.2.1,(Pc.un x22).2.2.2.2.1,(Pc.un x22).2.2.2.2.2.1,(Pc.un x22).2.2.2.2.2.2)) fun r41=>(some (.inl ((IntKind.i64.wrap (s17.1+r41)),(IntKind.i64.wrap (s17.2+1))))))) else (some (.inr (s17.1))))
noncomputable def ziA (r7:List Pc) (fuel:Nat) (s25:(Int × Int)):Option ((Int × Int) ⊕ Int):=
 (if (decide (s25.2<((ap r7:Nat):Int))) then (Option.bind (Option.bind (idx r7 s25.2) fun x34=>(if ((Pc.un x34).1==7) then (Option.bind (idx r7 s25.2) fun x44=>(some ((decide ((Pc.un x44).2.1>0))))) else (some (false)))) fun (j32:Bool)=>(Option.bind (if j32 then (some ((IntKind.i64.wrap (s25.1+1)))) else (some (s25.1))) fun (j57:Int)=>(some (.inl (j57,(IntKind.i64.wrap (s25.2+1))))))) else (some (.inr (s25.1))))
def isG (q:Pc):Bool:=decide (q.un.1=7∧0<q.un.2.1)
def cnt:List Pc->Nat
 | []=>0
 | q::l=>(if isG q then 1 else 0)+cnt l
theorem zmr:∀ (a b:List Pc),cnt (a++b)=cnt a+cnt b
 | [],b=>by simp[cnt]
 | q::a,b=>by rw[List.cons_append,cnt,cnt,zmr a b];omega
theorem zsZ:∀ (a:List Pc),cnt a<=a.length
 | []=>aD _
 | q::a=>by have:=zsZ a;rw[cnt,ae];split<;>omega
mutual
theorem zpU:∀ (p:Pc) (g g':Nat),chkL g (zxo p)=some g'->zvD p<=70->Tot (fun n=>zyp n p.un) (· =(cnt (zxo p):Int))
 | .mk k lo hi no lz rs subs,g,g',h,hz=>by
   obtain ⟨g1,hn,hs⟩:=zun h
   rw[zvM]at hz
   have hsl:=zur subs
   have b:k=7->lo=0∨1<=lo:=fun hk=>by
    rcases zty hn with ⟨rfl,_⟩ | ⟨hk',_⟩ | ⟨rfl,_⟩ | ⟨rfl,_⟩ | ⟨_,_,_,_,_,_,hg⟩ | ⟨rfl,_⟩ | ⟨rfl,_⟩ | ⟨rfl,_⟩ | ⟨rfl,_⟩ | ⟨rfl,_⟩
    all_goals first | omega | (rcases hg with ⟨h,_⟩ | ⟨h,_⟩<;>omega)
   have c:=zsZ (preL subs)
   rw[zu8]at c
   refine Tot.suc (Tot.eqf (fun n=>zyp.eq_2 ..) ?_)
   refine ad (P:=(· =((if isG (.mk k lo hi no lz rs subs) then 1 else 0:Nat):Int))) ?_ fun a e=>?_
   ·by_cases hk:k=7
    ·refine ak (beq_iff_eq.2 hk) (aa ?_)
     rcases b hk with h0 | h0
     ·have hG:isG (.mk k lo hi no lz rs subs)=false:=dff (p:=k=7∧0<lo) om
      rw[hG]
      show (if 1<lo then 1 else lo)=0
      rw[if_neg om,h0]
     ·have hG:isG (.mk k lo hi no lz rs subs)=true:=dtt (p:=k=7∧0<lo) om
      rw[hG]
      show (if 1<lo then 1 else lo)=1
      split<;>omega
    ·have hG:isG (.mk k lo hi no lz rs subs)=false:=dff (p:=k=7∧0<lo) (fun h=>hk h.1)
     rw[hG]
     exact ag (beq_eq_false_iff_ne.2 hk) (aa rfl)
   ·subst e
    have ih:=zq7 subs subs [] (if isG (.mk k lo hi no lz rs subs) then 1 else 0) g1 g' rfl hs om om (by split<;>omega)
    refine ad (LT.tot (F:=zi4 subs) ih) fun a e=>aa ?_
    rw[e,ztU,cnt]
theorem zq7:∀ (rest subs pre:List Pc) (acc g g':Nat),subs=pre++rest->chkL g (preL rest)=some g'->sizeL rest<=70->subs.length<=1000->acc+sizeL rest<=1000->
 LT (zi4 subs) ((acc:Int),(pre.length:Int)) (· =((acc+cnt (preL rest):Nat):Int))
 | [],subs,pre,acc,g,g',e,_,_,_,_=>by
   refine LT.fin (Tot.alln fun n=>?_) (by rw[preL,cnt,Nat.add_zero])
   unfold zi4
   rw[if_neg]
   rw[e,aj,dff osm];decide
 | x::rest,subs,pre,acc,g,g',e,h,hz,hl,ha=>by
   rw[preL]at h ⊢
   obtain ⟨g1,h1,h2⟩:=zv1 h
   rw[sizeL]at hz
   rw[sizeL]at ha
   have c:=hl
   rw[e,ac,ae]at c
   have hc:=zsZ (zxo x)
   rw[zth]at hc
   have hT:=zpU x g g1 h1 om
   have b:Tot (fun n=>zi4 subs n ((acc:Int),(pre.length:Int))) (· = .inl (((acc+cnt (zxo x):Nat):Int),((pre.length+1:Nat):Int))):=by
    unfold zi4
    refine ak (dtt (by simp only;rw[e,ac,ae];omega)) (ai (show idx subs (pre.length:Int)=some x by rw[e];exact zzL pre x rest rfl) (ad hT fun a ea=>aa ?_))
    subst ea
    rw[zzw (x:=(pre.length:Int)+1) om om,zzw (x:=(acc:Int)+_) om om]
    rfl
   have d:=zsZ (preL rest)
   rw[zu8]at d
   have ih:=zq7 rest subs (pre++[x]) (acc+cnt (zxo x)) g1 g' (by rw[e];simp) h2 om hl om
   rw[show (((pre++[x]).length:Nat):Int)=((pre.length+1:Nat):Int) by simp]at ih
   rw[zmr,<- Nat.add_assoc]
   exact LT.step b ih
end
theorem zki {l:List Pc} (hl:l.length<=1000):∀ (rest pre:List Pc) (acc:Nat),l=pre++rest->acc<=pre.length->LT (ziA l) ((acc:Int),(pre.length:Int)) (· =((acc+cnt rest:Nat):Int))
 | [],pre,acc,e,_=>by
   refine LT.fin (Tot.alln fun n=>?_) (by rw[cnt,Nat.add_zero])
   unfold ziA
   rw[if_neg]
   rw[e,aj,dff osm];decide
 | x::rest,pre,acc,e,ha=>by
   have d:=hl
   rw[e,ac,ae]at d
   have c:idx l (pre.length:Int)=some x:=by rw[e];exact zzL pre x rest rfl
   have b:Tot (fun n=>ziA l n ((acc:Int),(pre.length:Int))) (· = .inl (((acc+(if isG x then 1 else 0):Nat):Int),((pre.length+1:Nat):Int))):=by
    unfold ziA
    refine ak (dtt (by simp only;rw[e,ac,ae];omega)) ?_
    refine ad (P:=(· =isG x)) (ai c ?_) fun a ea=>?_
    ·unfold isG
     by_cases hk:x.un.1=7
     ·refine ak (beq_iff_eq.2 hk) (ai c (aa ?_))
      rw[am];simp[hk]
     ·refine ag (beq_eq_false_iff_ne.2 hk) (aa ?_)
      symm;exact dff fun h=>hk h.1
    ·subst ea
     rw[zzw (x:=(pre.length:Int)+1) om om,zzw (x:=(acc:Int)+1) om om]
     cases isG x with
     | true=>exact ad (P:=(· =(acc:Int)+1)) (ak rfl (aa rfl)) fun a ea=>by subst ea;exact aa rfl
     | false=>exact ad (P:=(· =(acc:Int))) (ag rfl (aa rfl)) fun a ea=>by subst ea;exact aa rfl
   have ih:=zki hl rest (pre++[x]) (acc+(if isG x then 1 else 0)) (by rw[e];simp) (by rw[ac,aw];split<;>omega)
   rw[show (((pre++[x]).length:Nat):Int)=((pre.length+1:Nat):Int) by simp]at ih
   rw[cnt,<- Nat.add_assoc]
   exact LT.step b ih
theorem zuI {p:Pc} (hb:BdL (zxo p)) (hz:zvD p<=60):Tot (fun n=>zzb n p.un) (· =(cnt (zxo p):Int)):=by
 unfold zzb
 have hl:=zth p
 refine ad (zjW p [] hb ddc) fun a e=>?_
 subst e
 rw[az,av om]
 refine ad (LT.tot (F:=ziA (zxo p)) (zki om (zxo p) [] 0 rfl (aD _))) fun a e=>aa ?_
 rw[e,Nat.zero_add]
def tl (p:Pc):Nat:=(enc (txt p)).length
def zpN (p:Pc):Int × Int:=match zyB 0 0 (zxo p) with
 | .inl x=>(x.1,(x.2:Int))
 | .inr _=>if 200<tl p then (3, -1) else (0,0)
def okP (p:Pc):Prop:=∃ g',chkL 0 (zxo p)=some g'∧zvD p<=60∧tl p<=200
theorem znR:∀ (l:List Pc) (g g':Nat),chkL g l=some g'->g<=9->g'<=9
 | [],g,g',h,hg=>by cases h;exact hg
 | q::l,g,g',h,hg=>by
   rw[chkL]at h
   cases hn:zyO g q.un with
   | inl e=>rw[hn]at h;cases h
   | inr g1=>
     rw[hn]at h
     refine znR l g1 g' h ?_
     unfold zyO at hn
     split at hn;cases hn
     split at hn;cases hn
     split at hn;cases hn
     split at hn
     ·split at hn<;>cases hn
      omega
     ·split at hn<;>cases hn
      exact hg
theorem zqc {p:Pc} {x:Nat × Nat} (h:zyB 0 0 (zxo p)= .inr x):chkL 0 (zxo p)=some x.2∧zvD p<=60:=by
 obtain ⟨h1,h2,h3⟩:=(zsX _ 0 0 x.1 x.2 ddc).1 h
 rw[zth]at h2
 exact ⟨h1,om⟩
theorem zms {p:Pc} {g':Nat} (h:chkL 0 (zxo p)=some g') (hz:zvD p<=60):zyB 0 0 (zxo p)= .inr (zvD p,g'):=
 (zsX _ 0 0 _ _ ddc).2 ⟨h,by rw[zth];omega,hz⟩
theorem znd {p:Pc} (h:okP p):zpN p=(0,0):=by
 obtain ⟨g',h1,h2,h3⟩:=h
 unfold zpN
 rw[zms h1 h2]
 simp only
 rw[if_neg om]
theorem zpJ (p:Pc):(okP p∧zpN p=(0,0))∨(¬ okP p∧(zpN p).1≠0):=by
 cases hs:zyB 0 0 (zxo p) with
 | inl x=>
   have hv:zpN p=(x.1,(x.2:Int)):=by unfold zpN;rw[hs]
   refine .inr ⟨fun ⟨g',h1,h2,_⟩=>?_,by rw[hv];exact (ztz _ _ _ _ _ hs).1⟩
   rw[zms h1 h2]at hs
   cases hs
 | inr x=>
   obtain ⟨h1,h2⟩:=zqc hs
   by_cases h3:tl p<=200
   ·exact .inl ⟨⟨x.2,h1,h2,h3⟩,znd ⟨x.2,h1,h2,h3⟩⟩
   ·have hv:zpN p=(3, -1):=by unfold zpN;rw[hs];simp only;rw[if_pos om]
    exact .inr ⟨fun ⟨_,_,_,h⟩=>h3 h,by rw[hv];simp⟩
theorem zuu {p:Pc} (hb:BdL (zxo p)):Tot (fun n=>zxr n p.un) (· =zpN p):=by
 unfold zxr
 refine ad (zkw p 0 0 hb ddc (aD _)) fun r hr=>?_
 unfold zp3 at hr
 unfold zpN
 cases hs:zyB 0 0 (zxo p) with
 | inl x=>
   rw[hs]at hr
   obtain ⟨h1,h2⟩:=hr
   obtain ⟨h3,h4⟩:=ztz _ _ _ _ _ hs
   have h4:=h4 ddc
   refine ak (by rw[h1];simpa using h3) (ai (a:=(x.1,(x.2:Int))) ?_ (aa rfl))
   show some (r.1,IntKind.i64.wrap (r.2.1-1))=some (x.1,(x.2:Int))
   rw[h1,h2,zzw om om]
   congr 2
   omega
 | inr x=>
   rw[hs]at hr
   have hr:r=(0,((x.1:Int),(x.2:Int))):=hr
   subst hr
   obtain ⟨h1,h2⟩:=zqc hs
   refine ag rfl (ad (zkv p 0 x.2 h1 om) fun a e=>?_)
   subst e
   rw[zzC]
   simp only
   by_cases h3:200<tl p
   ·rw[if_pos h3]
    exact ak (dtt (by unfold tl at h3;omega)) (aa rfl)
   ·rw[if_neg h3]
    exact ag (dff (by unfold tl at h3;omega)) (aa rfl)
theorem ztD {p:Pc} (hb:BdL (zxo p)):Tot (fun n=>zyg n p.un) (· =zpN p):=by
 unfold zyg
 refine ad (zjW p [] hb ddc) fun a e=>?_
 subst e
 rw[az]
 have hl:=zkx (r14:=(zxo p).take 61) (by rw[List.length_take];omega) (fun q hq=>hb q (List.mem_of_mem_take hq)) ((zxo p).take 61) [] 0 rfl (aD _)
 refine ad (LT.tot (F:=zii ((zxo p).take 61)) hl) fun y hy=>?_
 unfold fauQ at hy
 rw[show ([]:List Pc).length=0 from rfl,show (61:Nat)=61-0 from rfl,zr1 _ 0 0 ddc]at hy
 unfold zpN
 cases hs:zyB 0 0 (zxo p) with
 | inl x=>
   rw[hs]at hy
   have hy:y= .inr (x.1,(x.2:Int)):=hy
   subst hy
   exact aa rfl
 | inr x=>
   rw[hs]at hy
   have hy:y= .inl (0,0):=hy
   subst hy
   obtain ⟨h1,h2⟩:=zqc hs
   refine ad (zn7 p 0 x.2 h1 om) fun a e=>?_
   subst e
   rw[zzC]
   simp only
   by_cases h3:200<tl p
   ·rw[if_pos h3]
    exact ak (dtt (by unfold tl at h3;omega)) (aa rfl)
   ·rw[if_neg h3]
    exact ag (dff (by unfold tl at h3;omega)) (aa rfl)
theorem zrV {p:Pc} (hb:BdL (zxo p)) (h:okP p):Tot (fun n=>zyq n p.un) (· =((cnt (zxo p):Int),((0:Int),(0:Int)))):=by
 obtain ⟨g',h1,h2,h3⟩:=id h
 unfold zyq
 refine ad (zuu hb) fun a e=>?_
 subst e
 rw[znd h]
 refine ag rfl (ad (zpU p 0 g' h1 om) fun a e=>?_)
 subst e
 exact aa rfl
end Go.Gv.X
