import Derived.Test.YtmpmeiihjnnomaaGreatDoorX1
set_option linter.all false
open Go.Gv.Tot renaming ret→aa,bindq→ad,if_→ag,bind0→ai,it→ak
open Bool renaming false_eq_true→ab,eq_iff_iff→am,true_and→ar,and_eq_true→ay
open List renaming length_append→ac,length_cons→ae,append_nil→aj,append_assoc→al,flatten_cons→an,length_nil→ao,length→ap,flatten_nil→aq,take_append_of_le_length→au,take_of_length_le→av,length_singleton→aw,flatMap_cons→ax,nil_append→az,singleton_append→aA,intercalate→aB,map_cons→aC
open Int renaming reduceBEq→af
open Nat renaming le_refl→aD
namespace Go.Gv.X
open Go Go.Gv Go.Gv.D Go.Gv.R Go.Gv.P Go.Lib
set_option maxRecDepth 100000
/-! Own work: the second reader does what the abstract one does. -/
def PL (lg:Bool) (l m:List Pc):Prop:=m.map Pc.kind=l.map Pc.kind∧(lg=false→m=l)
theorem PL.len {lg:Bool} {l m:List Pc} (h:PL lg l m):m.length=l.length:=by have:=congrArg ap h.1;simpa using this
end Go.Gv.X
namespace Go.Gv.X
open Go Go.Gv Go.Gv.D Go.Gv.R Go.Gv.P Go.Lib
set_option maxRecDepth 100000
/-! Own work: what is asked of one piece. -/
/-- own name for the loop body 0 of regex_ordered -/
noncomputable def ordF (l_0:List (Int × Int)) (fuel:Nat) (s4:Int):Option (Int ⊕ (Unit ⊕ Bool)):=
 (if (decide (s4<((ap l_0:Nat):Int))) then (Option.bind (idx l_0 s4) fun x9=>(Option.bind (Option.bind (regex_scalar fuel x9.1) fun r28=>(if (!r28) then (some (true)) else (Option.bind (regex_scalar fuel x9.2) fun r45=>(if (!r45) then (some (true)) else (if (decide (x9.1>x9.2)) then (some (true)) else (if (decide (s4>0)) then (Option.bind (idx l_0 (IntKind.i64.wrap (s4-1))) fun x70=>(some ((decide (x9.1≤(IntKind.i64.wrap (x70.2+1))))))) else (some (false)))))))) fun (j22:Bool)=>(if j22 then (some (.inr (.inr (false)))) else (some (.inl (IntKind.i64.wrap (s4+1))))))) else (some (.inr (.inl ()))))
/-- own name for the loop body 0 of ref4_shaped -/
noncomputable def shpF (l_0:List (Int × Int)) (fuel:Nat) (s103:(Bool × Int)):Option ((Bool × Int) ⊕ Bool):=
 (if (decide (s103.2<((ap l_0:Nat):Int))) then (Option.bind (idx l_0 s103.2) fun x114=>(Option.bind (idx l_0 s103.2) fun x118=>(Option.bind (if s103.1 then (Option.bind (ref4_Scalar fuel x114.1) fun r124=>(if r124 then (Option.bind (ref4_Scalar fuel x118.2) fun r131=>(if r131 then (if (decide (x114.1≤x118.2)) then (if (s103.2==0) then (some (true)) else (Option.bind (idx l_0 (IntKind.i64.wrap (s103.2-1))) fun x147=>(Option.bind (some (decide ((IntKind.i64.wrap (x114.1-x147.2))≥2))) fun n151=>(some (n151))))) else (some (false))) else (some (false)))) else (some (false)))) else (some (false))) fun (j121:Bool)=>(some (.inl (j121,(IntKind.i64.wrap (s103.2+1)))))))) else (some (.inr (s103.1))))
/-- own name for the loop body 0 of slices_Index_sint_int -/
noncomputable def idxF (s_0:List Int) (v_1:Int) (s4:Int):Option (Int ⊕ (Unit ⊕ Int)):=
 (if (decide (s4<((ap s_0:Nat):Int))) then (Option.bind (idx s_0 s4) fun x9=>(if (v_1==x9) then (some (.inr (.inr (s4)))) else (some (.inl (IntKind.i64.wrap (s4+1)))))) else (some (.inr (.inl ()))))
/-- own name for the loop body 0 of api_Piece_1_1_3 -/
noncomputable def kinF (s_0:List Pc) (f_1c0:List Int) (fuel:Nat) (s4:Int):Option (Int ⊕ (Unit ⊕ Int)):=
 (if (decide (s4<((ap s_0:Nat):Int))) then (Option.bind (idx s_0 s4) fun x10=>(Option.bind (regex_formed_1_1 fuel ((Pc.un x10).1,(Pc.un x10).2.1,(Pc.un x10).2.2.1,(Pc.un x10).2.2.2.1,(Pc.un x10).2.2.2.2.1,(Pc.un x10).2.2.2.2.2.1,(Pc.un x10).2.2.2.2.2.2) f_1c0) fun r19=>(if r19 then (some (.inr (.inr (s4)))) else (some (.inl (IntKind.i64.wrap (s4+1))))))) else (some (.inr (.inl ()))))
/-- own name for the loop body 0 of ref4_kindsAmong -/
noncomputable def ka1F (l_0:List Pc) (kinds_1:List Int) (fuel:Nat) (s4:Int):Option (Int ⊕ (Unit ⊕ Bool)):=
 (if (decide (s4<((ap l_0:Nat):Int))) then (Option.bind (loopN (fun (s12:Int)=>(if (decide (s12<((ap kinds_1:Nat):Int))) then (Option.bind (idx l_0 s4) fun x19=>(Option.bind (idx kinds_1 s12) fun x22=>(if ((Pc.un x19).1==x22) then (some (.inr (.inr (.inr (.inr (true)))))) else (some (.inl (IntKind.i64.wrap (s12+1))))))) else (some (.inr (.inl ()))))) fuel 0) (cont fun (s10:Unit)=>(some (.inl (IntKind.i64.wrap (s4+1)))))) else (some (.inr (.inl ()))))
/-- own name for the loop body 1 of ref4_kindsAmong -/
noncomputable def ka2F (l_0:List Pc) (kinds_1:List Int) (s4:Int) (s12:Int):Option (Int ⊕ (Unit ⊕ (Int ⊕ (Unit ⊕ Bool)))):=
 (if (decide (s12<((ap kinds_1:Nat):Int))) then (Option.bind (idx l_0 s4) fun x19=>(Option.bind (idx kinds_1 s12) fun x22=>(if ((Pc.un x19).1==x22) then (some (.inr (.inr (.inr (.inr (true)))))) else (some (.inl (IntKind.i64.wrap (s12+1))))))) else (some (.inr (.inl ()))))
theorem scalar_eq (n:Nat) (c:Int):regex_scalar n c=some (scal c):=by
 unfold regex_scalar utf8_ValidRune scal
 by_cases h1:c≥0
 ·rw[if_pos (dtt h1)]
  by_cases h2:c≤1114111
  ·rw[if_pos (dtt h2)]
   have hw:IntKind.i32.wrap c=c:=by simp[IntKind.wrap,IntKind.signed,IntKind.bits];omega
   rw[hw]
   by_cases h3:c<55296
   ·rw[if_pos oss,dtt om];rfl
   ·rw[if_neg oss]
    by_cases h4:57343<c
    ·rw[if_pos oss,dtt om];rfl
    ·rw[if_neg oss,dff om];rfl
  ·rw[if_neg (by simpa using h2),dff om];rfl
 ·rw[if_neg (by simpa using h1),dff om];rfl
theorem Scalar_eq (n:Nat) (c:Int):ref4_Scalar n c=some (scal c):=by
 unfold ref4_Scalar scal
 congr 1
 rw[am]
 simp only[ge_iff_le,Bool.ite_eq_true_distrib,Bool.or_eq_true,ay,decide_eq_true_eq]
 split<;>omega
def nxt:Option Int→Int→Bool
 | none,_=>true
 | some h,lo=>decide (h+1<lo)
def ordT:List (Int × Int)→Option Int→Bool
 | [],_=>true
 | x::r,prev=>(scal x.1&&(scal x.2&&(decide (x.1≤x.2)&&nxt prev x.1)))&&ordT r (some x.2)
def ordS (prev:Option Int) (l:List (Int × Int)):Bool:=ordT l prev
theorem ordS_nil (prev:Option Int):ordS prev []=true:=rfl
theorem ordS_cons (prev:Option Int) (x:Int × Int) (r:List (Int × Int)):ordS prev (x::r)=((scal x.1&&(scal x.2&&(decide (x.1≤x.2)&&nxt prev x.1)))&&ordS (some x.2) r):=rfl
theorem ordS_some (h:Int) (y:Int × Int) (r:List (Int × Int)):ordS (some h) (y::r)=(decide (h+1<y.1)&&ordS none (y::r)):=by
 rw[ordS_cons,ordS_cons]
 show ((scal y.1&&(scal y.2&&(decide (y.1≤y.2)&&decide (h+1<y.1))))&&_)=(decide (h+1<y.1)&&((scal y.1&&(scal y.2&&(decide (y.1≤y.2)&&true)))&&_))
 generalize ordS (some y.2) r=z
 generalize decide (h+1<y.1)=u
 cases scal y.1<;>cases scal y.2<;>cases decide (y.1≤y.2)<;>cases u<;>cases z<;>rfl
theorem ordS_eq:∀ l:List (Int × Int),ordS none l=ordR l
 | []=>rfl
 | [x]=>by rw[ordS_cons,ordS_nil,ordR];simp[nxt]
 | x::y::r=>by
   have ih:=ordS_eq (y::r)
   rw[ordR,← ih,← ordS_some]
   rw[ordS_cons]
   simp only[nxt,Bool.and_true,Bool.and_assoc]
theorem scal_rng {c:Int} (h:scal c=true):0≤c∧c≤1114111:=by
 unfold scal at h
 simp only[decide_eq_true_eq]at h
 omega
/-- the high end before a place -/
def prevH (pre:List (Int × Int)) (prev:Option Int):Prop:=match prev with
 | none=>pre=[]
 | some h=>(∃ p' y,pre=p'++[y]∧y.2=h)∧0≤h∧h≤1114111
theorem prev_snoc {pre:List (Int × Int)} {x:Int × Int} (h:scal x.2=true):prevH (pre++[x]) (some x.2):=⟨⟨pre,x,rfl,rfl⟩,scal_rng h⟩
theorem ord_lt {l:List (Int × Int)} (hl:l.length≤4000000000000000000):∀ (rest pre:List (Int × Int)) (prev:Option Int),l=pre++rest→prevH pre prev→LT (ordF l) (pre.length:Int) (· =if ordS prev rest then .inl () else .inr false)
 | [],pre,prev,e,_=>by
   refine LT.fin (r:=.inl ()) (Tot.alln fun n=>?_) (by rw[ordS_nil,if_pos rfl])
   unfold ordF
   rw[if_neg]
   rw[e,aj,dff om];decide
 | x::rest,pre,prev,e,hp=>by
   have hlen:=hl
   rw[e,ac,ae]at hlen
   have hstep:∀ n,ordF l n (pre.length:Int)=if (scal x.1&&(scal x.2&&(decide (x.1≤x.2)&&nxt prev x.1)))=true then some (.inl ((pre.length+1:Nat):Int)) else some (.inr (.inr false)):=fun n=>by
    unfold ordF
    rw[if_pos (dtt (by rw[e,ac,ae];omega))]
    rw[show idx l (pre.length:Int)=some x by rw[e];exact get_mid pre x rest rfl]
    simp only[Option.bind_some]
    rw[scalar_eq,i64_small (x:=(pre.length:Int)+1) om om]
    simp only[Option.bind_some]
    cases h1:scal x.1 with
    | false=>rfl
    | true=>
    simp only[Bool.not_true,ab,if_false,ar]
    rw[scalar_eq]
    simp only[Option.bind_some]
    cases h2:scal x.2 with
    | false=>rfl
    | true=>
    simp only[Bool.not_true,ab,if_false,ar]
    by_cases h3:x.1≤x.2
    ·rw[if_neg (by rw[dff om];decide),dtt h3,ar]
     cases prev with
     | none=>
       have hp:pre=[]:=hp
       subst hp
       rfl
     | some h=>
       obtain ⟨⟨p',y,rfl,rfl⟩,h4,h5⟩:=hp
       rw[if_pos (dtt (by simp))]
       have hw:IntKind.i64.wrap ((((p'++[y]).length:Nat):Int)-1)=(p'.length:Int):=by
        rw[ac,aw]at hlen ⊢
        rw[i64_small om om];omega
       rw[hw,show idx l (p'.length:Int)=some y by rw[e,al];exact get_mid p' y _ rfl]
       simp only[Option.bind_some]
       rw[i64_small (x:=y.2+1) om om]
       by_cases h6:y.2+1<x.1
       ·rw[dff om,show nxt (some y.2) x.1=true from dtt h6];rfl
       ·rw[dtt om,show nxt (some y.2) x.1=false from dff h6];rfl
    ·rw[if_pos (dtt om),dff h3]
     rfl
   rw[ordS_cons]
   generalize hc:(scal x.1&&(scal x.2&&(decide (x.1≤x.2)&&nxt prev x.1)))=c at hstep ⊢
   cases c with
   | false=>
     exact LT.fin (r:=.inr false) (Tot.alln fun n=>by rw[hstep];rfl) rfl
   | true=>
     have h2:scal x.2=true:=by simp only[ay]at hc;exact hc.2.1
     have ih:=ord_lt hl rest (pre++[x]) (some x.2) (by rw[e];simp) (prev_snoc h2)
     rw[show (((pre++[x]).length:Nat):Int)=((pre.length+1:Nat):Int) by simp]at ih
     rw[ar]
     exact LT.step (Tot.alln fun n=>by rw[hstep];rfl) ih
theorem ordered_tot {l:List (Int × Int)} (hl:l.length≤4000000000000000000):Tot (fun n=>regex_ordered n l) (· =(ordR l&& !l.isEmpty)):=by
 unfold regex_ordered
 refine ad (LT.tot (F:=ordF l) (ord_lt hl l [] none rfl rfl)) fun a e=>?_
 subst e
 rw[ordS_eq]
 cases ordR l with
 | false=>exact aa rfl
 | true=>
   refine aa ?_
   cases l with
   | nil=>rfl
   | cons x l=>simp
theorem shp_lt {l:List (Int × Int)} (hl:l.length≤4000000000000000000):∀ (rest pre:List (Int × Int)) (prev:Option Int) (f:Bool),l=pre++rest→(f=true→prevH pre prev)→LT (shpF l) (f,(pre.length:Int)) (· =(f&&ordS prev rest))
 | [],pre,prev,f,e,_=>by
   refine LT.fin (Tot.alln fun n=>?_) (by rw[ordS_nil,Bool.and_true])
   unfold shpF
   rw[if_neg]
   rw[e,aj,dff om];decide
 | x::rest,pre,prev,f,e,hp=>by
   have hlen:=hl
   rw[e,ac,ae]at hlen
   have hstep:∀ n,shpF l n (f,(pre.length:Int))=some (.inl (f&&(scal x.1&&(scal x.2&&(decide (x.1≤x.2)&&nxt prev x.1))),((pre.length+1:Nat):Int))):=fun n=>by
    unfold shpF
    rw[if_pos (dtt (by simp only;rw[e,ac,ae];omega))]
    simp only
    rw[show idx l (pre.length:Int)=some x by rw[e];exact get_mid pre x rest rfl]
    simp only[Option.bind_some]
    rw[i64_small (x:=(pre.length:Int)+1) om om]
    cases f with
    | false=>rfl
    | true=>
    have hp:=hp rfl
    simp only[if_true,ar]
    rw[Scalar_eq]
    simp only[Option.bind_some]
    cases h1:scal x.1 with
    | false=>rfl
    | true=>
    simp only[if_true,ar]
    rw[Scalar_eq]
    simp only[Option.bind_some]
    cases h2:scal x.2 with
    | false=>rfl
    | true=>
    simp only[if_true,ar]
    by_cases h3:x.1≤x.2
    ·rw[if_pos (dtt h3),dtt h3,ar]
     cases prev with
     | none=>
       have hp:pre=[]:=hp
       subst hp
       rfl
     | some h=>
       obtain ⟨⟨p',y,rfl,rfl⟩,h4,h5⟩:=hp
       have hx:=scal_rng h1
       rw[if_neg oss]
       have hw:IntKind.i64.wrap ((((p'++[y]).length:Nat):Int)-1)=(p'.length:Int):=by
        rw[ac,aw]at hlen ⊢
        rw[i64_small om om];omega
       rw[hw,show idx l (p'.length:Int)=some y by rw[e,al];exact get_mid p' y _ rfl]
       simp only[Option.bind_some]
       rw[i64_small (x:=x.1-y.2) om om]
       have:decide (x.1-y.2≥2)=decide (y.2+1<x.1):=by rw[am];simp only[decide_eq_true_eq];omega
       rw[this];rfl
    ·rw[if_neg (by rw[dff h3];decide),dff h3]
     rfl
   rw[ordS_cons]
   generalize hc:(scal x.1&&(scal x.2&&(decide (x.1≤x.2)&&nxt prev x.1)))=c at hstep ⊢
   have h2:c=true→scal x.2=true:=fun hct=>by rw[hct]at hc;simp only[ay]at hc;exact hc.2.1
   have ih:=shp_lt hl rest (pre++[x]) (some x.2) (f&&c) (by rw[e];simp) (fun h=>prev_snoc (h2 (by simp only[ay]at h;exact h.2)))
   rw[show (((pre++[x]).length:Nat):Int)=((pre.length+1:Nat):Int) by simp]at ih
   rw[← Bool.and_assoc]
   exact LT.step (Tot.alln fun n=>by rw[hstep]) ih
theorem contains_lt {ks:List Int} (hl:ks.length≤1000) (v:Int):∀ (rest pre:List Int),ks=pre++rest→LT (fun _=>idxF ks v) (pre.length:Int) (fun y=>(rest.contains v=true∧∃ i:Int,0≤i∧y= .inr i)∨(rest.contains v=false∧y= .inl ()))
 | [],pre,e=>by
   refine LT.fin (Tot.alln fun n=>?_) (.inr ⟨rfl,rfl⟩)
   unfold idxF
   rw[if_neg]
   rw[e,aj,dff om];decide
 | x::rest,pre,e=>by
   have hlen:=hl
   rw[e,ac,ae]at hlen
   have hstep:idxF ks v (pre.length:Int)=if v=x then some (.inr (.inr (pre.length:Int))) else some (.inl ((pre.length+1:Nat):Int)):=by
    unfold idxF
    rw[if_pos (dtt (by rw[e,ac,ae];omega))]
    rw[show idx ks (pre.length:Int)=some x by rw[e];exact get_mid pre x rest rfl]
    simp only[Option.bind_some]
    rw[i64_small (x:=(pre.length:Int)+1) om om]
    by_cases h:v=x
    ·rw[if_pos h,if_pos (beq_iff_eq.2 h)]
    ·rw[if_neg h,if_neg (by simpa using h)];rfl
   by_cases h:v=x
   ·exact LT.fin (Tot.alln fun n=>by rw[hstep,if_pos h]) (.inl ⟨by simp[h],(pre.length:Int),om,rfl⟩)
   ·have ih:=contains_lt hl v rest (pre++[x]) (by rw[e];simp)
    rw[show (((pre++[x]).length:Nat):Int)=((pre.length+1:Nat):Int) by simp]at ih
    have hc:(x::rest).contains v=rest.contains v:=by rw[List.contains_cons];simp[h]
    rw[hc]
    exact LT.step (Tot.alln fun n=>by rw[hstep,if_neg h]) ih
theorem contains_tot {ks:List Int} (hl:ks.length≤1000) (v:Int):Tot (fun n=>slices_Contains_sint_int n ks v) (· =ks.contains v):=by
 unfold slices_Contains_sint_int slices_Index_sint_int
 refine ad (P:=fun r=>decide (r≥0)=ks.contains v) (ad (LT.tot (F:=fun _=>idxF ks v) (contains_lt hl v ks [] rfl)) fun y hy=>?_) fun a e=>aa e
 rcases hy with ⟨h1,i,h2,rfl⟩ | ⟨h1,rfl⟩
 ·exact aa (by rw[h1];exact dtt h2)
 ·exact aa (by rw[h1];rfl)
theorem kin_cons (ks:List Int) (p:Pc) (l:List Pc):kin ks (p::l)=(ks.contains (Pc.kind p)||kin ks l):=by unfold kin;rw[List.any_cons]
theorem kind_un (p:Pc):(Pc.un p).1=Pc.kind p:=by cases p;rfl
theorem kin_lt {ks:List Int} (hk:ks.length≤1000) {l:List Pc} (hl:l.length≤4000000000000000000):∀ (rest pre:List Pc),l=pre++rest→LT (kinF l ks) (pre.length:Int) (fun y=>(kin ks rest=true∧∃ i:Int,0≤i∧y= .inr i)∨(kin ks rest=false∧y= .inl ()))
 | [],pre,e=>by
   refine LT.fin (Tot.alln fun n=>?_) (.inr ⟨rfl,rfl⟩)
   unfold kinF
   rw[if_neg]
   rw[e,aj,dff om];decide
 | x::rest,pre,e=>by
   have hlen:=hl
   rw[e,ac,ae]at hlen
   have hstep:Tot (fun n=>kinF l ks n (pre.length:Int)) (· =if ks.contains (Pc.kind x)=true then .inr (.inr (pre.length:Int)) else .inl ((pre.length+1:Nat):Int)):=by
    unfold kinF
    refine ak (dtt (by rw[e,ac,ae];omega)) ?_
    refine ai (show idx l (pre.length:Int)=some x by rw[e];exact get_mid pre x rest rfl) ?_
    refine ad (P:=(· =ks.contains (Pc.kind x))) ?_ fun a ea=>?_
    ·unfold regex_formed_1_1
     exact ad (contains_tot hk (Pc.un x).1) fun a ea=>aa (by rw[ea,kind_un])
    ·subst ea
     rw[i64_small (x:=(pre.length:Int)+1) om om]
     cases ks.contains (Pc.kind x) with
     | true=>exact aa rfl
     | false=>exact aa rfl
   rw[kin_cons]
   cases hc:ks.contains (Pc.kind x) with
   | true=>exact LT.fin (hstep.mono fun a ea=>by rw[ea,hc,if_pos rfl]) (.inl ⟨rfl,(pre.length:Int),om,rfl⟩)
   | false=>
     have ih:=kin_lt hk hl rest (pre++[x]) (by rw[e];simp)
     rw[show (((pre++[x]).length:Nat):Int)=((pre.length+1:Nat):Int) by simp]at ih
     rw[Bool.false_or]
     exact LT.step (hstep.mono fun a ea=>by rw[ea,hc,if_neg ddc]) ih
theorem formed1_tot {ks:List Int} (hk:ks.length≤1000) (x:PcT) (hl:x.2.2.2.2.2.2.length≤4000000000000000000):Tot (fun n=>regex_formed_1 n ks x) (· = !kin ks x.2.2.2.2.2.2):=by
 unfold regex_formed_1 api_Piece_1_1 api_Piece_1_1_3
 refine ad (P:=fun r=>r=kin ks x.2.2.2.2.2.2) (ad (P:=fun r=>decide (r≥0)=kin ks x.2.2.2.2.2.2) (ad (LT.tot (F:=kinF x.2.2.2.2.2.2 ks) (kin_lt hk hl _ [] rfl)) fun y hy=>?_) fun a e=>aa e) fun a e=>aa (by rw[e])
 rcases hy with ⟨h1,i,h2,rfl⟩ | ⟨h1,rfl⟩
 ·exact aa (by rw[h1];exact dtt h2)
 ·exact aa (by rw[h1];rfl)
theorem ka2_lt {ks:List Int} (hk:ks.length≤1000) {l:List Pc} {i:Int} {x:Pc} (hx:idx l i=some x):∀ (rest pre:List Int),ks=pre++rest→LT (fun _=>ka2F l ks i) (pre.length:Int) (· =if rest.contains (Pc.kind x) then .inr (.inr (.inr true)) else .inl ())
 | [],pre,e=>by
   refine LT.fin (Tot.alln fun n=>?_) rfl
   unfold ka2F
   rw[if_neg]
   ·rfl
   rw[e,aj,dff om];decide
 | k::rest,pre,e=>by
   have hlen:=hk
   rw[e,ac,ae]at hlen
   have hstep:ka2F l ks i (pre.length:Int)=if Pc.kind x=k then some (.inr (.inr (.inr (.inr true)))) else some (.inl ((pre.length+1:Nat):Int)):=by
    unfold ka2F
    rw[if_pos (dtt (by rw[e,ac,ae];omega)),hx,show idx ks (pre.length:Int)=some k by rw[e];exact get_mid pre k rest rfl]
    simp only[Option.bind_some]
    rw[i64_small (x:=(pre.length:Int)+1) om om,kind_un]
    by_cases h:Pc.kind x=k
    ·rw[if_pos h,if_pos (beq_iff_eq.2 h)]
    ·rw[if_neg h,if_neg (by simpa using h)];rfl
   by_cases h:Pc.kind x=k
   ·refine LT.fin (Tot.alln fun n=>by rw[hstep,if_pos h]) ?_
    rw[if_pos (by simp[h])]
   ·have ih:=ka2_lt hk hx rest (pre++[k]) (by rw[e];simp)
    rw[show (((pre++[k]).length:Nat):Int)=((pre.length+1:Nat):Int) by simp]at ih
    have hc:(k::rest).contains (Pc.kind x)=rest.contains (Pc.kind x):=by rw[List.contains_cons];simp[h]
    rw[hc]
    exact LT.step (Tot.alln fun n=>by rw[hstep,if_neg h]) ih
theorem ka1_lt {ks:List Int} (hk:ks.length≤1000) {l:List Pc} (hl:l.length≤4000000000000000000):∀ (rest pre:List Pc),l=pre++rest→LT (ka1F l ks) (pre.length:Int) (· =if kin ks rest then .inr true else .inl ())
 | [],pre,e=>by
   refine LT.fin (r:=.inl ()) (Tot.alln fun n=>?_) rfl
   unfold ka1F
   rw[if_neg]
   rw[e,aj,dff om];decide
 | x::rest,pre,e=>by
   have hlen:=hl
   rw[e,ac,ae]at hlen
   have hstep:Tot (fun n=>ka1F l ks n (pre.length:Int)) (· =if ks.contains (Pc.kind x)=true then .inr (.inr true) else .inl ((pre.length+1:Nat):Int)):=by
    unfold ka1F
    refine ak (dtt (by rw[e,ac,ae];omega)) ?_
    refine ad (LT.tot (F:=fun _=>ka2F l ks (pre.length:Int)) (ka2_lt hk (show idx l (pre.length:Int)=some x by rw[e];exact get_mid pre x rest rfl) ks [] rfl)) fun a ea=>?_
    subst ea
    rw[i64_small (x:=(pre.length:Int)+1) om om]
    cases ks.contains (Pc.kind x) with
    | true=>exact aa rfl
    | false=>exact aa rfl
   rw[kin_cons]
   cases hc:ks.contains (Pc.kind x) with
   | true=>exact LT.fin (hstep.mono fun a ea=>by rw[ea,hc,if_pos rfl]) (by rw[Bool.true_or,if_pos rfl])
   | false=>
     have ih:=ka1_lt hk hl rest (pre++[x]) (by rw[e];simp)
     rw[show (((pre++[x]).length:Nat):Int)=((pre.length+1:Nat):Int) by simp]at ih
     rw[Bool.false_or]
     exact LT.step (hstep.mono fun a ea=>by rw[ea,hc,if_neg ddc]) ih
theorem among_tot {ks:List Int} (hk:ks.length≤1000) {l:List Pc} (hl:l.length≤4000000000000000000):Tot (fun n=>ref4_kindsAmong n l ks) (· =kin ks l):=by
 unfold ref4_kindsAmong
 refine ad (LT.tot (F:=ka1F l ks) (ka1_lt hk hl l [] rfl)) fun a e=>?_
 subst e
 cases kin ks l with
 | true=>exact aa rfl
 | false=>exact aa rfl
end Go.Gv.X
namespace Go.Gv.X
open Go Go.Gv Go.Gv.D Go.Gv.R Go.Gv.P Go.Lib
set_option maxRecDepth 100000
/-! Own work: what is asked of one piece (2). -/
/-- lists that a machine can hold -/
def BigL:Nat:=4000000000000000000
theorem one_eq {l:List Pc}:(((l.length:Nat):Int)==1)=decide (l.length=1):=by rw[am];simp;omega
theorem nil_eq {α:Type} {l:List α}:(((l.length:Nat):Int)==0)=l.isEmpty:=by cases l<;>simp;omega
theorem flat_tot {x:PcT} (h:1≤x.1∧x.1≤12):Tot (fun n=>regex_flat n x) (· =flatB x):=by
 obtain ⟨k,lo,hi,no,lz,rs,subs⟩:=x
 simp only at h
 refine Tot.alln fun n=>?_
 have e:∀ a:Int,(a==0)=decide (a=0):=fun a=>by rw[am];simp
 obtain rfl | rfl | rfl | rfl | rfl | rfl | rfl | rfl | rfl | rfl | rfl | rfl:k=1∨k=2∨k=3∨k=4∨k=5∨k=6∨k=7∨k=8∨k=9∨k=10∨k=11∨k=12:=by omega
 all_goals
  unfold regex_flat flatB
  simp only[nil_eq]
  simp only[e]
  generalize decide (lo=0)=a
  generalize decide (hi=0)=b
  generalize rs.isEmpty=c
  cases a<;>cases b<;>cases no<;>cases lz<;>cases c<;>rfl
theorem formed_tot {x:PcT} (h:1≤x.1∧x.1≤12) (h1:x.2.2.2.2.2.1.length≤BigL) (h2:x.2.2.2.2.2.2.length≤BigL):Tot (fun n=>regex_formed n x) (· =formedB x):=by
 obtain ⟨k,lo,hi,no,lz,rs,subs⟩:=x
 simp only at h h1 h2
 unfold regex_formed
 refine Tot.some_bind ?_
 obtain rfl | rfl | rfl | rfl | rfl | rfl | rfl | rfl | rfl | rfl | rfl | rfl:k=1∨k=2∨k=3∨k=4∨k=5∨k=6∨k=7∨k=8∨k=9∨k=10∨k=11∨k=12:=by omega
 ·simp only[af,ab,if_false,if_true,Option.bind_some]
  show Tot _ (· =(subs.isEmpty&&scal lo))
  refine ad (P:=(· =(subs.isEmpty&&scal lo))) ?_ fun a e=>aa e
  rw[nil_eq]
  cases subs.isEmpty with
  | true=>exact ak rfl (ad (Tot.alln fun n=>scalar_eq n lo) fun a e=>aa e)
  | false=>exact ag rfl (aa rfl)
 ·simp only[af,ab,if_false,if_true,Option.bind_some]
  exact aa nil_eq
 ·simp only[af,ab,if_false,if_true,Option.bind_some]
  show Tot _ (· =(subs.isEmpty&&(ordR rs&& !rs.isEmpty)))
  refine ad (P:=(· =(subs.isEmpty&&(ordR rs&& !rs.isEmpty)))) ?_ fun a e=>aa e
  rw[nil_eq]
  cases subs.isEmpty with
  | true=>exact ak rfl (ad (ordered_tot h1) fun a e=>aa e)
  | false=>exact ag rfl (aa rfl)
 ·simp only[af,ab,if_false,if_true,Option.bind_some]
  exact aa nil_eq
 ·simp only[af,ab,if_false,if_true,Option.bind_some]
  exact aa nil_eq
 ·simp only[af,ab,if_false,if_true,Option.bind_some]
  exact aa nil_eq
 ·simp only[af,ab,if_false,if_true,Option.bind_some]
  exact aa one_eq
 ·simp only[af,ab,if_false,if_true,Option.bind_some]
  show Tot _ (· =(decide (subs.length≠1)&& !kin [8,9] subs))
  refine ad (P:=(· =(decide (subs.length≠1)&& !kin [8,9] subs))) ?_ fun a e=>aa e
  by_cases hl:subs.length=1
  ·rw[dff (not_not_intro hl)]
   exact ag (by simp[hl]) (aa rfl)
  ·rw[dtt hl]
   exact ak oss (ad (formed1_tot ddc (8,lo,hi,no,lz,rs,subs) h2) fun a e=>aa e)
 ·simp only[af,ab,if_false,if_true,Option.bind_some]
  show Tot _ (· =(decide (2≤subs.length)&& !kin [9] subs))
  refine ad (P:=(· =(decide (2≤subs.length)&& !kin [9] subs))) ?_ fun a e=>aa e
  by_cases hl:2≤subs.length
  ·rw[dtt hl]
   exact ak (dtt om) (ad (formed1_tot ddc (9,lo,hi,no,lz,rs,subs) h2) fun a e=>aa e)
  ·rw[dff hl]
   exact ag (dff om) (aa rfl)
 ·simp only[af,ab,if_false,if_true,Option.bind_some]
  show Tot _ (· =(decide (subs.length=1)&& !kin [8,9,10,4,5,6,11] subs))
  refine ad (P:=(· =(decide (subs.length=1)&& !kin [8,9,10,4,5,6,11] subs))) ?_ fun a e=>aa e
  rw[one_eq]
  by_cases hl:subs.length=1
  ·rw[dtt hl]
   exact ak rfl (ad (formed1_tot ddc (10,lo,hi,no,lz,rs,subs) h2) fun a e=>aa e)
  ·rw[dff hl]
   exact ag rfl (aa rfl)
 ·simp only[af,ab,if_false,if_true,Option.bind_some]
  exact aa one_eq
 ·simp only[af,ab,if_false,if_true,Option.bind_some]
  show Tot _ (· =(subs.isEmpty&&decide (1≤lo∧lo≤9)))
  refine ad (P:=(· =(subs.isEmpty&&decide (1≤lo∧lo≤9)))) ?_ fun a e=>aa e
  rw[nil_eq]
  cases subs.isEmpty with
  | true=>
    refine ak rfl ?_
    by_cases h9:1≤lo
    ·refine ak (dtt h9) (aa ?_)
     rw[ar,am];simp[h9]
    ·refine ag (dff h9) (aa ?_)
     rw[ar,dff (fun h=>h9 h.1)]
  | false=>exact ag rfl (aa rfl)
theorem shaped_tot {x:PcT} (h:1≤x.1∧x.1≤12) (h1:x.2.2.2.2.2.1.length≤BigL) (h2:x.2.2.2.2.2.2.length≤BigL):Tot (fun n=>ref4_shaped n x) (· =(flatB x&&formedB x)):=by
 obtain ⟨k,lo,hi,no,lz,rs,subs⟩:=x
 simp only at h h1 h2
 unfold ref4_shaped
 refine Tot.some_bind ?_
 have fin:∀ (f:Bool) (lo' hi':Int) (no' lz':Bool) (b:Bool),(f&&(decide (lo=lo')&&(decide (hi=hi')&&((no==no')&&((lz==lz')&&(decide (k=3)||rs.isEmpty))))))=b→
  Tot (fun n=>(if f=true then (if (lo==lo')=true then (if (hi==hi')=true then (if (no==no')=true then (if (lz==lz')=true then (if (k==3)=true then some true else (some (((rs.length:Nat):Int)==0)).bind fun n379=>some n379) else some false) else some false) else some false) else some false) else some false).bind fun j371=>some j371) (· =b):=fun f lo' hi' no' lz' b hb=>by
  refine Tot.alln fun n=>?_
  rw[← hb]
  rw[nil_eq,show (lo==lo')=decide (lo=lo') by rw[am];simp,show (hi==hi')=decide (hi=hi') by rw[am];simp,show (k==3)=decide (k=3) by rw[am];simp]
  generalize decide (lo=lo')=a
  generalize decide (hi=hi')=a2
  generalize (no==no')=a3
  generalize (lz==lz')=a4
  generalize decide (k=3)=a5
  generalize rs.isEmpty=a6
  cases f<;>cases a<;>cases a2<;>cases a3<;>cases a4<;>cases a5<;>cases a6<;>rfl
 obtain rfl | rfl | rfl | rfl | rfl | rfl | rfl | rfl | rfl | rfl | rfl | rfl:k=1∨k=2∨k=3∨k=4∨k=5∨k=6∨k=7∨k=8∨k=9∨k=10∨k=11∨k=12:=by omega
 ·refine ad (P:=(· =((subs.isEmpty&&scal lo),((1:Int),(lo:Int),(0:Int),false,false,([]:List (Int × Int)),([]:List Pc))))) ?_ fun a e=>?_
  ·simp only[af,ab,if_false,if_true,Option.bind_some]
   rw[nil_eq]
   cases subs.isEmpty with
   | true=>exact ak rfl (ad (Tot.alln fun n=>Scalar_eq n lo) fun a e=>aa (by rw[e];rfl))
   | false=>exact ag rfl (aa rfl)
  ·subst e
   refine fin (subs.isEmpty&&scal lo) lo 0 false false _ ?_
   rw[show formedB (1,lo,hi,no,lz,rs,subs)=(subs.isEmpty&&scal lo) from rfl]
   unfold flatB
   generalize (subs.isEmpty&&scal lo)=ff
   simp only[decide_true]
   generalize decide (lo=0)=a
   generalize decide (hi=0)=b
   generalize rs.isEmpty=c
   cases a<;>cases b<;>cases no<;>cases lz<;>cases c<;>cases ff<;>rfl
 ·refine ad (P:=(· =(subs.isEmpty,((2:Int),(0:Int),(0:Int),false,false,([]:List (Int × Int)),([]:List Pc))))) ?_ fun a e=>?_
  ·simp only[af,ab,if_false,if_true,Option.bind_some]
   exact aa (by rw[nil_eq])
  ·subst e
   refine fin subs.isEmpty 0 0 false false _ ?_
   rw[show formedB (2,lo,hi,no,lz,rs,subs)=subs.isEmpty from rfl]
   unfold flatB
   generalize subs.isEmpty=ff
   simp only[decide_true]
   generalize decide (lo=0)=a
   generalize decide (hi=0)=b
   generalize rs.isEmpty=c
   cases a<;>cases b<;>cases no<;>cases lz<;>cases c<;>cases ff<;>rfl
 ·refine ad (P:=(· =((subs.isEmpty&&(ordR rs&& !rs.isEmpty)),((3:Int),(0:Int),(0:Int),no,false,([]:List (Int × Int)),([]:List Pc))))) ?_ fun a e=>?_
  ·simp only[af,ab,if_false,if_true,Option.bind_some]
   refine ad (P:=(· =(subs.isEmpty&& !rs.isEmpty))) ?_ fun a e=>?_
   ·rw[nil_eq]
    cases subs.isEmpty with
    | true=>exact ak rfl (Tot.some_bind (aa (by cases rs<;>simp)))
    | false=>exact ag rfl (aa rfl)
   ·subst e
    refine ad (LT.tot (F:=shpF rs) (shp_lt h1 rs [] none _ rfl fun _=>rfl)) fun a e=>aa ?_
    rw[e,ordS_eq]
    cases subs.isEmpty<;>cases rs.isEmpty<;>cases ordR rs<;>rfl
  ·subst e
   refine fin (subs.isEmpty&&(ordR rs&& !rs.isEmpty)) 0 0 no false _ ?_
   rw[show formedB (3,lo,hi,no,lz,rs,subs)=(subs.isEmpty&&(ordR rs&& !rs.isEmpty)) from rfl]
   unfold flatB
   generalize (subs.isEmpty&&(ordR rs&& !rs.isEmpty))=ff
   simp only[decide_true]
   generalize decide (lo=0)=a
   generalize decide (hi=0)=b
   generalize rs.isEmpty=c
   cases a<;>cases b<;>cases no<;>cases lz<;>cases c<;>cases ff<;>rfl
 ·refine ad (P:=(· =(subs.isEmpty,((4:Int),(0:Int),(0:Int),false,false,([]:List (Int × Int)),([]:List Pc))))) ?_ fun a e=>?_
  ·simp only[af,ab,if_false,if_true,Option.bind_some]
   exact aa (by rw[nil_eq])
  ·subst e
   refine fin subs.isEmpty 0 0 false false _ ?_
   rw[show formedB (4,lo,hi,no,lz,rs,subs)=subs.isEmpty from rfl]
   unfold flatB
   generalize subs.isEmpty=ff
   simp only[decide_true]
   generalize decide (lo=0)=a
   generalize decide (hi=0)=b
   generalize rs.isEmpty=c
   cases a<;>cases b<;>cases no<;>cases lz<;>cases c<;>cases ff<;>rfl
 ·refine ad (P:=(· =(subs.isEmpty,((5:Int),(0:Int),(0:Int),false,false,([]:List (Int × Int)),([]:List Pc))))) ?_ fun a e=>?_
  ·simp only[af,ab,if_false,if_true,Option.bind_some]
   exact aa (by rw[nil_eq])
  ·subst e
   refine fin subs.isEmpty 0 0 false false _ ?_
   rw[show formedB (5,lo,hi,no,lz,rs,subs)=subs.isEmpty from rfl]
   unfold flatB
   generalize subs.isEmpty=ff
   simp only[decide_true]
   generalize decide (lo=0)=a
   generalize decide (hi=0)=b
   generalize rs.isEmpty=c
   cases a<;>cases b<;>cases no<;>cases lz<;>cases c<;>cases ff<;>rfl
 ·refine ad (P:=(· =(subs.isEmpty,((6:Int),(0:Int),(0:Int),no,false,([]:List (Int × Int)),([]:List Pc))))) ?_ fun a e=>?_
  ·simp only[af,ab,if_false,if_true,Option.bind_some]
   exact aa (by rw[nil_eq])
  ·subst e
   refine fin subs.isEmpty 0 0 no false _ ?_
   rw[show formedB (6,lo,hi,no,lz,rs,subs)=subs.isEmpty from rfl]
   unfold flatB
   generalize subs.isEmpty=ff
   simp only[decide_true]
   generalize decide (lo=0)=a
   generalize decide (hi=0)=b
   generalize rs.isEmpty=c
   cases a<;>cases b<;>cases no<;>cases lz<;>cases c<;>cases ff<;>rfl
 ·refine ad (P:=(· =(decide (subs.length=1),((7:Int),(lo:Int),(0:Int),false,false,([]:List (Int × Int)),([]:List Pc))))) ?_ fun a e=>?_
  ·simp only[af,ab,if_false,if_true,Option.bind_some]
   exact aa (by rw[one_eq])
  ·subst e
   refine fin (decide (subs.length=1)) lo 0 false false _ ?_
   rw[show formedB (7,lo,hi,no,lz,rs,subs)=decide (subs.length=1) from rfl]
   unfold flatB
   generalize decide (subs.length=1)=ff
   simp only[decide_true]
   generalize decide (lo=0)=a
   generalize decide (hi=0)=b
   generalize rs.isEmpty=c
   cases a<;>cases b<;>cases no<;>cases lz<;>cases c<;>cases ff<;>rfl
 ·refine ad (P:=(· =((decide (subs.length≠1)&& !kin [8,9] subs),((8:Int),(0:Int),(0:Int),false,false,([]:List (Int × Int)),([]:List Pc))))) ?_ fun a e=>?_
  ·simp only[af,ab,if_false,if_true,Option.bind_some]
   by_cases hl:subs.length=1
   ·rw[dff (not_not_intro hl)]
    exact ag (by simp[hl]) (aa rfl)
   ·rw[dtt hl]
    exact ak oss (ad (among_tot ddc h2) fun a e=>aa (by rw[e];rfl))
  ·subst e
   refine fin (decide (subs.length≠1)&& !kin [8,9] subs) 0 0 false false _ ?_
   rw[show formedB (8,lo,hi,no,lz,rs,subs)=(decide (subs.length≠1)&& !kin [8,9] subs) from rfl]
   unfold flatB
   generalize (decide (subs.length≠1)&& !kin [8,9] subs)=ff
   simp only[decide_true]
   generalize decide (lo=0)=a
   generalize decide (hi=0)=b
   generalize rs.isEmpty=c
   cases a<;>cases b<;>cases no<;>cases lz<;>cases c<;>cases ff<;>rfl
 ·refine ad (P:=(· =((decide (2≤subs.length)&& !kin [9] subs),((9:Int),(0:Int),(0:Int),false,false,([]:List (Int × Int)),([]:List Pc))))) ?_ fun a e=>?_
  ·simp only[af,ab,if_false,if_true,Option.bind_some]
   by_cases hl:2≤subs.length
   ·rw[dtt hl]
    exact ak (dtt om) (ad (among_tot ddc h2) fun a e=>aa (by rw[e];rfl))
   ·rw[dff hl]
    exact ag (dff om) (aa rfl)
  ·subst e
   refine fin (decide (2≤subs.length)&& !kin [9] subs) 0 0 false false _ ?_
   rw[show formedB (9,lo,hi,no,lz,rs,subs)=(decide (2≤subs.length)&& !kin [9] subs) from rfl]
   unfold flatB
   generalize (decide (2≤subs.length)&& !kin [9] subs)=ff
   simp only[decide_true]
   generalize decide (lo=0)=a
   generalize decide (hi=0)=b
   generalize rs.isEmpty=c
   cases a<;>cases b<;>cases no<;>cases lz<;>cases c<;>cases ff<;>rfl
 ·refine ad (P:=(· =((decide (subs.length=1)&& !kin [8,9,10,4,5,6,11] subs),((10:Int),(lo:Int),(hi:Int),false,lz,([]:List (Int × Int)),([]:List Pc))))) ?_ fun a e=>?_
  ·simp only[af,ab,if_false,if_true,Option.bind_some]
   rw[one_eq]
   by_cases hl:subs.length=1
   ·rw[dtt hl]
    exact ak rfl (ad (among_tot ddc h2) fun a e=>aa (by rw[e];rfl))
   ·rw[dff hl]
    exact ag rfl (aa rfl)
  ·subst e
   refine fin (decide (subs.length=1)&& !kin [8,9,10,4,5,6,11] subs) lo hi false lz _ ?_
   rw[show formedB (10,lo,hi,no,lz,rs,subs)=(decide (subs.length=1)&& !kin [8,9,10,4,5,6,11] subs) from rfl]
   unfold flatB
   generalize (decide (subs.length=1)&& !kin [8,9,10,4,5,6,11] subs)=ff
   simp only[decide_true]
   generalize decide (lo=0)=a
   generalize decide (hi=0)=b
   generalize rs.isEmpty=c
   cases a<;>cases b<;>cases no<;>cases lz<;>cases c<;>cases ff<;>rfl
 ·refine ad (P:=(· =(decide (subs.length=1),((11:Int),(0:Int),(0:Int),no,false,([]:List (Int × Int)),([]:List Pc))))) ?_ fun a e=>?_
  ·simp only[af,ab,if_false,if_true,Option.bind_some]
   exact aa (by rw[one_eq])
  ·subst e
   refine fin (decide (subs.length=1)) 0 0 no false _ ?_
   rw[show formedB (11,lo,hi,no,lz,rs,subs)=decide (subs.length=1) from rfl]
   unfold flatB
   generalize decide (subs.length=1)=ff
   simp only[decide_true]
   generalize decide (lo=0)=a
   generalize decide (hi=0)=b
   generalize rs.isEmpty=c
   cases a<;>cases b<;>cases no<;>cases lz<;>cases c<;>cases ff<;>rfl
 ·refine ad (P:=(· =((subs.isEmpty&&decide (1≤lo∧lo≤9)),((12:Int),(lo:Int),(0:Int),false,false,([]:List (Int × Int)),([]:List Pc))))) ?_ fun a e=>?_
  ·simp only[af,ab,if_false,if_true,Option.bind_some]
   rw[nil_eq]
   cases subs.isEmpty with
   | true=>
     refine ak rfl ?_
     by_cases h9:1≤lo
     ·refine ak (dtt h9) (aa ?_)
      rw[show decide (1≤lo∧lo≤9)=decide (lo≤9) by rw[am];simp[h9]]
      rfl
     ·refine ag (dff h9) (aa ?_)
      rw[show decide (1≤lo∧lo≤9)=false from dff (fun h=>h9 h.1)]
      rfl
   | false=>exact ag rfl (aa rfl)
  ·subst e
   refine fin (subs.isEmpty&&decide (1≤lo∧lo≤9)) lo 0 false false _ ?_
   rw[show formedB (12,lo,hi,no,lz,rs,subs)=(subs.isEmpty&&decide (1≤lo∧lo≤9)) from rfl]
   unfold flatB
   generalize (subs.isEmpty&&decide (1≤lo∧lo≤9))=ff
   simp only[decide_true]
   generalize decide (lo=0)=a
   generalize decide (hi=0)=b
   generalize rs.isEmpty=c
   cases a<;>cases b<;>cases no<;>cases lz<;>cases c<;>cases ff<;>rfl
end Go.Gv.X
namespace Go.Gv.X
open Go Go.Gv Go.Gv.D Go.Gv.R Go.Gv.P Go.Lib
set_option maxRecDepth 100000
/-! Own work: what is asked of all pieces. -/
/-- own name for the loop body 0 of regex_survey_look -/
noncomputable def lookF (subs:List Pc) (fuel:Nat) (s138:(Int × (Int × Int))):Option ((Int × (Int × Int)) ⊕ ((Int × Int) ⊕ (Int × (Int × Int)))):=
 (if (decide (s138.1<((ap subs:Nat):Int))) then (Option.bind (idx subs s138.1) fun x144=>(Option.bind (regex_survey_look fuel (s138.2.1,s138.2.2) ((Pc.un x144).1,(Pc.un x144).2.1,(Pc.un x144).2.2.1,(Pc.un x144).2.2.2.1,(Pc.un x144).2.2.2.2.1,(Pc.un x144).2.2.2.2.2.1,(Pc.un x144).2.2.2.2.2.2)) fun r164=>(if (r164.1 !=0) then (some (.inr (.inr ((r164.1,(r164.2.1,r164.2.2)))))) else (some (.inl ((IntKind.i64.wrap (s138.1+1)),(r164.2.1,r164.2.2))))))) else (some (.inr (.inl (s138.2.1,s138.2.2)))))
/-- own name for the loop body 0 of ref4_preorder -/
noncomputable def preF (subs:List Pc) (fuel:Nat) (s61:((List Pc) × Int)):Option (((List Pc) × Int) ⊕ (List Pc)):=
 (Option.bind (if (decide (s61.2<((ap subs:Nat):Int))) then (some ((decide (((ap s61.1:Nat):Int)≤60)))) else (some (false))) fun (j76:Bool)=>(if j76 then (Option.bind (idx subs s61.2) fun x85=>(Option.bind (ref4_preorder fuel ((Pc.un x85).1,(Pc.un x85).2.1,(Pc.un x85).2.2.1,(Pc.un x85).2.2.2.1,(Pc.un x85).2.2.2.2.1,(Pc.un x85).2.2.2.2.2.1,(Pc.un x85).2.2.2.2.2.2) s61.1) fun r94=>(some (.inl (r94,(IntKind.i64.wrap (s61.2+1))))))) else (some (.inr (s61.1)))))
/-- own name for the loop body 0 of ref4_PieceFault -/
noncomputable def fauF (r14:List Pc) (fuel:Nat) (s34:(Int × Int × (Int × Int))):Option ((Int × Int × (Int × Int)) ⊕ ((Int × Int) ⊕ (Int × Int))):=
 (if (decide (s34.2.1<((ap r14:Nat):Int))) then (Option.bind (idx r14 s34.2.1) fun x45=>(if (s34.2.1==60) then (Option.bind (ref4_At fuel 2 s34.2.1) fun r65=>(some (.inr (.inr ((r65.1,r65.2)))))) else (Option.bind (if (decide ((Pc.un x45).1<1)) then (some (true)) else (some ((decide ((Pc.un x45).1>12))))) fun (j83:Bool)=>(if j83 then (Option.bind (ref4_At fuel 5 s34.2.1) fun r130=>(some (.inr (.inr ((r130.1,r130.2)))))) else (Option.bind (ref4_shaped fuel ((Pc.un x45).1,(Pc.un x45).2.1,(Pc.un x45).2.2.1,(Pc.un x45).2.2.2.1,(Pc.un x45).2.2.2.2.1,(Pc.un x45).2.2.2.2.2.1,(Pc.un x45).2.2.2.2.2.2)) fun r145=>(if (!r145) then (Option.bind (ref4_At fuel 6 s34.2.1) fun r152=>(some (.inr (.inr ((r152.1,r152.2)))))) else (Option.bind (if ((Pc.un x45).1==10) then (Option.bind (if (decide ((Pc.un x45).2.1<0)) then (some (true)) else (if (decide ((Pc.un x45).2.1>99)) then (some (true)) else (if (decide ((Pc.un x45).2.2.1>99)) then (some (true)) else (if (decide ((Pc.un x45).2.2.1<(Pc.un x45).2.1)) then (some (((Pc.un x45).2.2.1 !=(-1)))) else (some (false)))))) fun (j172:Bool)=>(if j172 then (Option.bind (ref4_At fuel 4 s34.2.1) fun r210=>(some (.inr (.inr (.inr ((r210.1,r210.2))))))) else (some (.inl (s34.1,(s34.2.2.1,s34.2.2.2)))))) else (if ((Pc.un x45).1==7) then (if ((Pc.un x45).2.1 !=0) then (Option.bind (if ((Pc.un x45).2.1 !=(IntKind.i64.wrap (s34.1+1))) then (some (true)) else (some ((decide ((IntKind.i64.wrap (s34.1+1))>9))))) fun (j227:Bool)=>(if j227 then (Option.bind (ref4_At fuel 11 s34.2.1) fun r247=>(some (.inr (.inr (.inr ((r247.1,r247.2))))))) else (some (.inl ((IntKind.i64.wrap (s34.1+1)),(s34.2.2.1,s34.2.2.2)))))) else (some (.inl (s34.1,(s34.2.2.1,s34.2.2.2))))) else (if ((Pc.un x45).1==12) then (if (decide ((Pc.un x45).2.1>s34.1)) then (Option.bind (ref4_At fuel 12 s34.2.1) fun r270=>(some (.inr (.inr (.inr ((r270.1,r270.2))))))) else (some (.inl (s34.1,(s34.2.2.1,s34.2.2.2))))) else (some (.inl (s34.1,(s34.2.2.1,s34.2.2.2))))))) (cont fun (s169:(Int × (Int × Int)))=>(some (.inl (s169.1,(IntKind.i64.wrap (s34.2.1+1)),(s169.2.1,s169.2.2)))))))))))) else (some (.inr (.inl (s34.2.2.1,s34.2.2.2)))))
def scanL:Nat→Nat→List Pc→(Int × Nat) ⊕ (Nat × Nat)
 | c,g,[]=>.inr (c,g)
 | c,g,q::l=>if 60≤c then .inl (2,c) else match nodeC g q.un with
   | .inl e=>.inl (e,c)
   | .inr g'=>scanL (c+1) g' l
theorem scanL_app:∀ (a b:List Pc) (c g:Nat),scanL c g (a++b)=match scanL c g a with | .inl e=>.inl e | .inr x=>scanL x.1 x.2 b
 | [],b,c,g=>rfl
 | q::a,b,c,g=>by
   rw[List.cons_append,scanL,scanL]
   split
   ·rfl
   ·cases nodeC g q.un with
    | inl e=>rfl
    | inr g'=>exact scanL_app a b (c+1) g'
theorem node_le {g g':Nat} {x:PcT} (h:nodeC g x= .inr g'):g'≤g+1∧g≤g':=by
 unfold nodeC at h
 split at h;cases h
 split at h;cases h
 split at h;cases h
 split at h
 ·split at h<;>cases h
  exact ⟨om,om⟩
 ·split at h<;>cases h
  exact ⟨om,om⟩
theorem node_err {g:Nat} {x:PcT} {e:Int} (h:nodeC g x= .inl e):e≠0:=by
 unfold nodeC at h
 split at h;cases h;omega
 split at h;cases h;omega
 split at h;cases h;omega
 split at h
 ·split at h<;>cases h;omega
 ·split at h<;>cases h;omega
theorem scan_le:∀ (l:List Pc) (c g c' g':Nat),scanL c g l= .inr (c',g')→c≤60→g≤c→c'≤60∧g'≤c'
 | [],c,g,c',g',h,h1,h2=>by cases h;exact ⟨h1,h2⟩
 | q::l,c,g,c',g',h,h1,h2=>by
   rw[scanL]at h
   split at h
   ·cases h
   ·cases hn:nodeC g q.un with
    | inl e=>rw[hn]at h;cases h
    | inr g1=>
      rw[hn]at h
      have:=node_le hn
      exact scan_le l (c+1) g1 c' g' h om om
theorem scan_err:∀ (l:List Pc) (c g:Nat) (e:Int) (i:Nat),scanL c g l= .inl (e,i)→e≠0∧(c≤60→i≤60)
 | [],c,g,e,i,h=>by cases h
 | q::l,c,g,e,i,h=>by
   rw[scanL]at h
   split at h
   ·cases h;exact ⟨om,fun h=>h⟩
   ·cases hn:nodeC g q.un with
    | inl e'=>rw[hn]at h;cases h;exact ⟨node_err hn,fun h=>h⟩
    | inr g1=>
      rw[hn]at h
      obtain ⟨h1,h2⟩:=scan_err l (c+1) g1 e i h
      exact ⟨h1,fun h=>h2 om⟩
theorem scan_take:∀ (l:List Pc) (c g:Nat),c≤60→scanL c g (l.take (61-c))=scanL c g l
 | [],c,g,_=>by rw[List.take_nil]
 | q::l,c,g,h=>by
   obtain ⟨m,hm⟩:∃ m,61-c=m+1:=⟨60-c,om⟩
   rw[hm,List.take_succ_cons,scanL,scanL]
   by_cases h6:60≤c
   ·rw[if_pos h6,if_pos h6]
   ·rw[if_neg h6,if_neg h6]
    cases nodeC g q.un with
    | inl e=>rfl
    | inr g'=>
      have:=scan_take l (c+1) g' om
      rw[show 61-(c+1)=m by omega]at this
      exact this
theorem scan_chk:∀ (l:List Pc) (c g c' g':Nat),c≤60→(scanL c g l= .inr (c',g')↔chkL g l=some g'∧c'=c+l.length∧c'≤60)
 | [],c,g,c',g',h=>by
   rw[scanL,chkL]
   constructor
   ·intro h';cases h';exact ⟨rfl,rfl,h⟩
   ·rintro ⟨h1,h2,h3⟩;cases h1;rw[h2];rfl
 | q::l,c,g,c',g',h=>by
   rw[scanL,chkL]
   by_cases h6:60≤c
   ·rw[if_pos h6]
    constructor
    ·intro h';cases h'
    ·rintro ⟨_,h2,h3⟩
     rw[ae]at h2
     omega
   ·rw[if_neg h6]
    cases hn:nodeC g q.un with
    | inl e=>
      constructor
      ·intro h';cases h'
      ·rintro ⟨h1,_⟩;cases h1
    | inr g1=>
      simp only
      rw[scan_chk l (c+1) g1 c' g' om,ae]
      constructor
      ·rintro ⟨h1,h2,h3⟩;exact ⟨h1,om,h3⟩
      ·rintro ⟨h1,h2,h3⟩;exact ⟨h1,om,h3⟩
def BdL (l:List Pc):Prop:=∀ q∈l,q.un.2.2.2.2.2.1.length≤BigL∧q.un.2.2.2.2.2.2.length≤BigL
/-- what survey.look gives -/
def lookQ (c g:Nat) (l:List Pc) (r:Int × (Int × Int)):Prop:=match scanL c g l with
 | .inr x=>r=(0,((x.1:Int),(x.2:Int)))
 | .inl x=>r.1=x.1∧r.2.1=((x.2+1:Nat):Int)
def lookL (c g:Nat) (l:List Pc) (y:(Int × Int) ⊕ (Int × (Int × Int))):Prop:=match scanL c g l with
 | .inr x=>y= .inl ((x.1:Int),(x.2:Int))
 | .inl x=>∃ r:Int × (Int × Int),y= .inr r∧r.1=x.1∧r.2.1=((x.2+1:Nat):Int)
theorem node_ok {k lo hi:Int} {no lz:Bool} {rs:List (Int × Int)} {subs:List Pc} {g:Nat} (hk:1≤k∧k≤12) (hf:(flatB (k,lo,hi,no,lz,rs,subs)&&formedB (k,lo,hi,no,lz,rs,subs))=true):
 nodeC g (k,lo,hi,no,lz,rs,subs)=if k=10∧rngB (k,lo,hi,no,lz,rs,subs)=false then .inl 4 else
  if k=7∧lo≠0 then (if lo=(g+1:Nat)∧lo≤9 then .inr (g+1) else .inl 11) else
  if k=12∧(g:Int)<lo then .inl 12 else .inr g:=by
 unfold nodeC
 rw[if_neg osm,if_neg (by rw[hf];decide)]
mutual
theorem look_p:∀ (p:Pc) (c g:Nat),BdL (preP p)→c≤60→g≤c→Tot (fun n=>regex_survey_look n ((c:Int),(g:Int)) p.un) (lookQ c g (preP p))
 | .mk k lo hi no lz rs subs,c,g,hb,hc,hg=>by
   rw[pre_eq]at hb ⊢
   have hn:=hb _ (List.mem_cons_self ..)
   have hbl:BdL (preL subs):=fun q hq=>hb q (List.mem_cons_of_mem _ hq)
   refine Tot.suc (Tot.eqf (fun n=>regex_survey_look.eq_2 ..) ?_)
   have hw:IntKind.i64.wrap ((c:Int)+1)=((c+1:Nat):Int):=by rw[i64_small om om];rfl
   have hwg:IntKind.i64.wrap ((g:Int)+1)=((g+1:Nat):Int):=by rw[i64_small om om];rfl
   unfold lookQ
   rw[scanL]
   simp only[hw,hwg,Pc.un]
   by_cases h6:60≤c
   ·rw[if_pos h6]
    exact ak (dtt om) (aa ⟨rfl,rfl⟩)
   rw[if_neg h6]
   refine ag (dff om) ?_
   by_cases hk:1≤k∧k≤12
   ·refine ad (P:=(· =false)) (ag (dff om) (aa (dff om))) fun a e=>?_
    subst e
    refine ag rfl ?_
    refine ad (P:=(· = !(flatB (k,lo,hi,no,lz,rs,subs)&&formedB (k,lo,hi,no,lz,rs,subs)))) ?_ fun a e=>?_
    ·refine ad (flat_tot (x:=(k,lo,hi,no,lz,rs,subs)) hk) fun a e=>?_
     subst e
     cases flatB (k,lo,hi,no,lz,rs,subs) with
     | false=>exact ak rfl (aa rfl)
     | true=>exact ag rfl (ad (formed_tot (x:=(k,lo,hi,no,lz,rs,subs)) hk hn.1 hn.2) fun a e=>aa (by rw[e];rfl))
    ·subst e
     cases hf:flatB (k,lo,hi,no,lz,rs,subs)&&formedB (k,lo,hi,no,lz,rs,subs) with
     | false=>
       have:nodeC g (k,lo,hi,no,lz,rs,subs)= .inl 6:=by unfold nodeC;rw[if_neg osm,if_pos hf]
       rw[this]
       exact ak rfl (aa ⟨rfl,rfl⟩)
     | true=>
       rw[node_ok hk hf]
       refine ag rfl ?_
       refine ad (P:=(· =decide (k=10∧rngB (k,lo,hi,no,lz,rs,subs)=false))) ?_ fun a e=>?_
       ·by_cases h10:k=10
        ·subst h10
         refine ak rfl ?_
         have hr:∀ b:Bool,(b=true↔¬ (0≤lo∧lo≤99∧ -1≤hi∧hi≤99∧(hi<0∨lo≤hi)))→b=decide ((10:Int)=10∧rngB (10,lo,hi,no,lz,rs,subs)=false):=fun b hb=>by
          rw[am,hb,decide_eq_true_iff]
          exact ⟨fun h=>⟨rfl,dff h⟩,fun h=>odf h.2⟩
         by_cases g1:lo<0
         ·exact ak (dtt g1) (aa (hr _ oss))
         refine ag (dff g1) ?_
         by_cases g2:lo>99
         ·exact ak (dtt g2) (aa (hr _ oss))
         refine ag (dff g2) ?_
         by_cases g3:hi< -1
         ·exact ak (dtt g3) (aa (hr _ oss))
         refine ag (dff g3) ?_
         by_cases g4:hi>99
         ·exact ak (dtt g4) (aa (hr _ oss))
         refine ag (dff g4) ?_
         by_cases g5:hi≥0
         ·exact ak (dtt g5) (aa (hr _ ⟨fun h=>by have h:hi<lo:=odt h;omega,fun h=>dtt (show hi<lo by omega)⟩))
         ·exact ag (dff g5) (aa (hr _ oss))
        ·refine ag (beq_eq_false_iff_ne.2 h10) (aa ?_)
         symm
         exact dff fun h=>h10 h.1
       ·subst e
        by_cases h10:k=10∧rngB (k,lo,hi,no,lz,rs,subs)=false
        ·rw[if_pos h10,dtt h10]
         exact ak rfl (aa ⟨rfl,rfl⟩)
        rw[if_neg h10,dff h10]
        refine ag rfl ?_
        have fin:∀ g':Nat,g'≤c+1→Tot (fun n=>(loopN (fun (s138:(Int × (Int × Int)))=>lookF subs n s138) n (0,(((c+1:Nat):Int),(g':Int)))).bind (cont fun (s136:(Int × Int))=>(some (0,(s136.1,s136.2)):Option (Int × (Int × Int))))) (lookQ (c+1) g' (preL subs)):=fun g' hg'=>by
         refine ad (LT.tot (F:=lookF subs) (look_l subs subs [] (c+1) g' rfl hbl hn.2 om hg')) fun y hy=>?_
         unfold lookL at hy
         unfold lookQ
         cases hs:scanL (c+1) g' (preL subs) with
         | inr x=>
           rw[hs]at hy
           have hy:y= .inl ((x.1:Int),(x.2:Int)):=hy
           subst hy
           exact aa rfl
         | inl x=>
           rw[hs]at hy
           obtain ⟨r,rfl,h1,h2⟩:=hy
           exact aa ⟨h1,h2⟩
        have fin':∀ (g':Nat) (R:Int ⊕ Nat),R= .inr g'→g'≤c+1→Tot (fun n=>(loopN (fun (s138:(Int × (Int × Int)))=>lookF subs n s138) n (0,(((c+1:Nat):Int),(g':Int)))).bind (cont fun (s136:(Int × Int))=>(some (0,(s136.1,s136.2)):Option (Int × (Int × Int))))) (fun r=>match (match R with | .inl e=>(.inl (e,c):(Int × Nat) ⊕ (Nat × Nat)) | .inr g'=>scanL (c+1) g' (preL subs)) with
         | .inr x=>r=(0,((x.1:Int),(x.2:Int)))
         | .inl x=>r.1=x.1∧r.2.1=((x.2+1:Nat):Int)):=fun g' R hR hg'=>by
         subst hR
         exact fin g' hg'
        refine ad (P:=(· =decide (k=7∧lo≠0))) ?_ fun a e=>?_
        ·by_cases h7:k=7
         ·subst h7
          refine ak rfl (aa ?_)
          rw[am];simp
         ·refine ag (beq_eq_false_iff_ne.2 h7) (aa ?_)
          symm
          exact dff fun h=>h7 h.1
        ·subst e
         by_cases h7:k=7∧lo≠0
         ·rw[if_pos h7,dtt h7]
          by_cases h9:lo=((g+1:Nat):Int)∧lo≤9
          ·rw[if_pos h9]
           refine ad (P:=(· = .inl (((c+1:Nat):Int),((g+1:Nat):Int)))) (ak rfl (ad (P:=(· =false)) (ag (by rw[h9.1];simp) (aa (dff om))) fun a e=>by subst e;exact ag rfl (aa rfl))) fun a e=>?_
           subst e
           exact fin' (g+1) _ rfl om
          ·rw[if_neg h9]
           refine ad (P:=fun y=>∃ r:Int × (Int × Int),y= .inr r∧r.1=11∧r.2.1=((c+1:Nat):Int)) (ak rfl (ad (P:=(· =true)) ?_ fun a e=>by subst e;exact ak rfl (aa ⟨_,rfl,rfl,rfl⟩))) fun a e=>?_
           ·by_cases hl:lo=((g+1:Nat):Int)
            ·exact ag (by rw[hl];simp) (aa (dtt om))
            ·exact ak (by simpa using hl) (aa rfl)
           ·obtain ⟨r,rfl,h1,h2⟩:=e
            exact aa ⟨h1,h2⟩
         ·rw[if_neg h7,dff h7]
          by_cases h12:k=12∧(g:Int)<lo
          ·rw[if_pos h12]
           refine ad (P:=fun y=>∃ r:Int × (Int × Int),y= .inr r∧r.1=12∧r.2.1=((c+1:Nat):Int)) (ag rfl (ad (P:=(· =true)) (ak (beq_iff_eq.2 h12.1) (aa (dtt h12.2))) fun a e=>by subst e;exact ak rfl (aa ⟨_,rfl,rfl,rfl⟩))) fun a e=>?_
           obtain ⟨r,rfl,h1,h2⟩:=e
           exact aa ⟨h1,h2⟩
          ·rw[if_neg h12]
           refine ad (P:=(· = .inl (((c+1:Nat):Int),(g:Int)))) (ag rfl (ad (P:=(· =false)) ?_ fun a e=>by subst e;exact ag rfl (aa rfl))) fun a e=>?_
           ·by_cases hk12:k=12
            ·exact ak (beq_iff_eq.2 hk12) (aa (dff fun h=>h12 ⟨hk12,h⟩))
            ·exact ag (beq_eq_false_iff_ne.2 hk12) (aa rfl)
           ·subst e
            exact fin' g _ rfl om
   ·have:nodeC g (k,lo,hi,no,lz,rs,subs)= .inl 5:=by unfold nodeC;rw[if_pos osm]
    rw[this]
    refine ad (P:=(· =true)) ?_ fun a e=>by subst e;exact ak rfl (aa ⟨rfl,rfl⟩)
    by_cases h1:k<1
    ·exact ak (dtt h1) (aa rfl)
    ·exact ag (dff h1) (aa (dtt om))
theorem look_l:∀ (rest subs pre:List Pc) (c g:Nat),subs=pre++rest→BdL (preL rest)→subs.length≤BigL→c≤60→g≤c→LT (lookF subs) ((pre.length:Int),((c:Int),(g:Int))) (lookL c g (preL rest))
 | [],subs,pre,c,g,e,_,_,_,_=>by
   refine LT.fin (r:=.inl ((c:Int),(g:Int))) (Tot.alln fun n=>?_) (by unfold lookL;rw[preL,scanL])
   unfold lookF
   rw[if_neg]
   rw[e,aj,dff osm];decide
 | x::rest,subs,pre,c,g,e,hb,hl,hc,hg=>by
   have hlen:=hl
   unfold BigL at hlen
   rw[e,ac,ae]at hlen
   rw[preL]at hb ⊢
   obtain ⟨r,hr,N,hN⟩:=look_p x c g (fun q hq=>hb q (List.mem_append_left _ hq)) hc hg
   have hT:Tot (fun n=>regex_survey_look n ((c:Int),(g:Int)) x.un) (· =r):=⟨r,rfl,N,hN⟩
   have hstep:Tot (fun n=>lookF subs n ((pre.length:Int),((c:Int),(g:Int)))) (· =if r.1 !=0 then .inr (.inr r) else .inl (((pre.length+1:Nat):Int),r.2)):=by
    unfold lookF
    refine ak (dtt (by simp only;rw[e,ac,ae];omega)) ?_
    refine ai (show idx subs (pre.length:Int)=some x by rw[e];exact get_mid pre x rest rfl) (ad hT fun a ea=>?_)
    subst ea
    simp only[i64_small (x:=(pre.length:Int)+1) om om]
    cases (a.1 !=0) with
    | true=>exact ak rfl (aa rfl)
    | false=>exact ag rfl (aa rfl)
   unfold lookQ at hr
   unfold lookL
   rw[scanL_app]
   cases hs:scanL c g (preP x) with
   | inl z=>
     obtain ⟨e1,i1⟩:=z
     rw[hs]at hr
     have hne:=(scan_err _ _ _ _ _ hs).1
     have hr1:r.1=e1:=hr.1
     have:(r.1 !=0)=true:=by rw[hr1];simpa using hne
     rw[this]at hstep
     exact LT.fin (hstep.mono fun a ea=>ea) ⟨r,rfl,hr.1,hr.2⟩
   | inr z=>
     obtain ⟨c1,g1⟩:=z
     rw[hs]at hr
     have hr:r=(0,((c1:Int),(g1:Int))):=hr
     subst hr
     obtain ⟨h1,h2⟩:=scan_le _ _ _ _ _ hs hc hg
     have ih:=look_l rest subs (pre++[x]) c1 g1 (by rw[e];simp) (fun q hq=>hb q (List.mem_append_right _ hq)) hl h1 h2
     rw[show (((pre++[x]).length:Nat):Int)=((pre.length+1:Nat):Int) by simp]at ih
     exact LT.step (hstep.mono fun a ea=>ea) ih
end
theorem take_app61 (a b:List Pc):((a.take 61)++b).take 61=(a++b).take 61:=by
 rcases Nat.le_total a.length 61 with h | h
 ·rw[av h]
 ·rw[au (by rw[List.length_take];omega),au h,List.take_take]
  simp
mutual
theorem pre_p:∀ (p:Pc) (out:List Pc),BdL (preP p)→out.length≤61→Tot (fun n=>ref4_preorder n p.un out) (· =(out++preP p).take 61)
 | .mk k lo hi no lz rs subs,out,hb,ho=>by
   rw[pre_eq]at hb ⊢
   have hn:=hb _ (List.mem_cons_self ..)
   have hbl:BdL (preL subs):=fun q hq=>hb q (List.mem_cons_of_mem _ hq)
   refine Tot.suc (Tot.eqf (fun n=>ref4_preorder.eq_2 ..) ?_)
   by_cases h:60<out.length
   ·refine ak (dtt om) (aa ?_)
    rw[au om,av om]
   ·refine ag (dff om) (ai (app_ok oss) ?_)
    refine ad (LT.tot (F:=preF subs) (pre_l subs subs [] (out++[.mk k lo hi no lz rs subs]) rfl hbl hn.2 oss)) fun a e=>aa ?_
    rw[e,al,aA]
theorem pre_l:∀ (rest subs pre out:List Pc),subs=pre++rest→BdL (preL rest)→subs.length≤BigL→out.length≤61→LT (preF subs) (out,(pre.length:Int)) (· =(out++preL rest).take 61)
 | [],subs,pre,out,e,_,_,ho=>by
   refine LT.fin (r:=out) (Tot.alln fun n=>?_) (by rw[preL,aj,av ho])
   unfold preF
   rw[if_neg]
   ·rfl
   rw[e,aj,dff osm];decide
 | x::rest,subs,pre,out,e,hb,hl,ho=>by
   have hlen:=hl
   unfold BigL at hlen
   rw[e,ac,ae]at hlen
   rw[preL]at hb ⊢
   have hi:decide ((pre.length:Int)<((subs.length:Nat):Int))=true:=dtt (by rw[e,ac,ae];omega)
   by_cases h:out.length≤60
   ·have hstep:Tot (fun n=>preF subs n (out,(pre.length:Int))) (· = .inl ((out++preP x).take 61,((pre.length+1:Nat):Int))):=by
     unfold preF
     refine ad (P:=(· =true)) (ak hi (aa (dtt osm))) fun a ea=>?_
     subst ea
     refine ak rfl (ai (show idx subs (pre.length:Int)=some x by rw[e];exact get_mid pre x rest rfl) (ad (pre_p x out (fun q hq=>hb q (List.mem_append_left _ hq)) ho) fun a ea=>aa ?_))
     rw[ea,i64_small (x:=(pre.length:Int)+1) om om]
     rfl
    have ih:=pre_l rest subs (pre++[x]) ((out++preP x).take 61) (by rw[e];simp) (fun q hq=>hb q (List.mem_append_right _ hq)) hl (by rw[List.length_take];omega)
    rw[show (((pre++[x]).length:Nat):Int)=((pre.length+1:Nat):Int) by simp,take_app61,al]at ih
    exact LT.step hstep ih
   ·refine LT.fin (r:=out) (Tot.alln fun n=>?_) (by rw[au om,av ho])
    unfold preF
    rw[if_pos hi,show decide (((out.length:Nat):Int)≤60)=false from dff om]
    rfl
end
end Go.Gv.X
namespace Go.Gv.X
open Go Go.Gv Go.Gv.D Go.Gv.R Go.Gv.P Go.Lib
set_option maxRecDepth 100000
/-! Own work: what is asked of all pieces (2). -/
def fauQ (c g:Nat) (l:List Pc) (y:(Int × Int) ⊕ (Int × Int)):Prop:=match scanL c g l with
 | .inr _=>y= .inl (0,0)
 | .inl x=>y= .inr (x.1,(x.2:Int))
theorem fau_step {r14 pre rest:List Pc} {x:Pc} {g:Nat} (e:r14=pre++x::rest) (hb:x.un.2.2.2.2.2.1.length≤BigL∧x.un.2.2.2.2.2.2.length≤BigL) (hl:r14.length≤61) (hg:g≤pre.length):
 Tot (fun n=>fauF r14 n ((g:Int),((pre.length:Int),((0:Int),(0:Int))))) (· =if 60≤pre.length then .inr (.inr (2,(pre.length:Int))) else match nodeC g x.un with
  | .inl c=>.inr (.inr (c,(pre.length:Int)))
  | .inr g'=>.inl ((g':Int),(((pre.length+1:Nat):Int),((0:Int),(0:Int))))):=by
 have hlen:=hl
 rw[e,ac,ae]at hlen
 obtain ⟨k,lo,hi,no,lz,rs,subs⟩:=x
 have hw:IntKind.i64.wrap ((pre.length:Int)+1)=((pre.length+1:Nat):Int):=by rw[i64_small om om];rfl
 have hwg:IntKind.i64.wrap ((g:Int)+1)=((g+1:Nat):Int):=by rw[i64_small om om];rfl
 unfold fauF
 refine ak (dtt (by simp only;rw[e,ac,ae];omega)) ?_
 refine ai (show idx r14 (pre.length:Int)=some (.mk k lo hi no lz rs subs) by rw[e];exact get_mid pre _ rest rfl) ?_
 simp only[hw,hwg,Pc.un]at hb ⊢
 by_cases h6:60≤pre.length
 ·rw[if_pos h6]
  exact ak oss (aa rfl)
 rw[if_neg h6]
 refine ag oss ?_
 by_cases hk:1≤k∧k≤12
 ·refine ad (P:=(· =false)) (ag (dff om) (aa (dff om))) fun a e=>?_
  subst e
  refine ag rfl (ad (shaped_tot (x:=(k,lo,hi,no,lz,rs,subs)) hk hb.1 hb.2) fun a e=>?_)
  subst e
  cases hf:flatB (k,lo,hi,no,lz,rs,subs)&&formedB (k,lo,hi,no,lz,rs,subs) with
  | false=>
    have:nodeC g (k,lo,hi,no,lz,rs,subs)= .inl 6:=by unfold nodeC;rw[if_neg osm,if_pos hf]
    rw[this]
    exact ak rfl (aa rfl)
  | true=>
    rw[node_ok hk hf]
    refine ag rfl ?_
    by_cases h10:k=10
    ·subst h10
     have e7:¬ ((10:Int)=7∧lo≠0):=fun h=>by omega
     have e12:¬ ((10:Int)=12∧(g:Int)<lo):=fun h=>by omega
     rw[if_neg e7,if_neg e12]
     refine ad (P:=(· =if rngB (10,lo,hi,no,lz,rs,subs)=false then .inr (.inr (.inr (4,(pre.length:Int)))) else .inl ((g:Int),((0:Int),(0:Int))))) (ak rfl (ad (P:=(· =decide (rngB (10,lo,hi,no,lz,rs,subs)=false))) ?_ fun a e=>?_)) fun a e=>?_
     ·have hr:∀ b:Bool,(b=true↔¬ (0≤lo∧lo≤99∧ -1≤hi∧hi≤99∧(hi<0∨lo≤hi)))→b=decide (rngB (10,lo,hi,no,lz,rs,subs)=false):=fun b hb=>by
       rw[am,hb,decide_eq_true_iff]
       exact ⟨fun h=>dff h,fun h=>odf h⟩
      by_cases g1:lo<0
      ·exact ak (dtt g1) (aa (hr _ oss))
      refine ag (dff g1) ?_
      by_cases g2:lo>99
      ·exact ak (dtt g2) (aa (hr _ oss))
      refine ag (dff g2) ?_
      by_cases g4:hi>99
      ·exact ak (dtt g4) (aa (hr _ oss))
      refine ag (dff g4) ?_
      by_cases g5:hi<lo
      ·refine ak (dtt g5) (aa (hr _ ?_))
       constructor
       ·intro h
        have h:hi≠ -1:=by simpa using h
        omega
       ·intro h
        have:hi≠ -1:=by omega
        simpa using this
      ·exact ag (dff g5) (aa (hr _ oss))
     ·subst e
      cases rngB (10,lo,hi,no,lz,rs,subs) with
      | false=>exact ak rfl (aa rfl)
      | true=>exact ag rfl (aa rfl)
     ·subst e
      cases rngB (10,lo,hi,no,lz,rs,subs) with
      | false=>exact aa rfl
      | true=>exact aa rfl
    have e10:¬ (k=10∧rngB (k,lo,hi,no,lz,rs,subs)=false):=fun h=>h10 h.1
    rw[if_neg e10]
    by_cases h7:k=7
    ·subst h7
     have e12:¬ ((7:Int)=12∧(g:Int)<lo):=fun h=>by omega
     rw[if_neg e12]
     by_cases hl0:lo=0
     ·have e7:¬ ((7:Int)=7∧lo≠0):=fun h=>h.2 hl0
      rw[if_neg e7]
      refine ad (P:=(· = .inl ((g:Int),((0:Int),(0:Int))))) (ag rfl (ak rfl (ag (by rw[hl0];rfl) (aa rfl)))) fun a e=>?_
      subst e
      exact aa rfl
     ·have e7:(7:Int)=7∧lo≠0:=⟨rfl,hl0⟩
      rw[if_pos e7]
      by_cases h9:lo=((g+1:Nat):Int)∧lo≤9
      ·rw[if_pos h9]
       refine ad (P:=(· = .inl (((g+1:Nat):Int),((0:Int),(0:Int))))) (ag rfl (ak rfl (ak (by simpa using hl0) (ad (P:=(· =false)) (ag (by rw[h9.1];simp) (aa (dff om))) fun a e=>by subst e;exact ag rfl (aa rfl))))) fun a e=>?_
       subst e
       exact aa rfl
      ·rw[if_neg h9]
       refine ad (P:=(· = .inr (.inr (.inr (11,(pre.length:Int)))))) (ag rfl (ak rfl (ak (by simpa using hl0) (ad (P:=(· =true)) ?_ fun a e=>by subst e;exact ak rfl (aa rfl))))) fun a e=>?_
       ·by_cases hl:lo=((g+1:Nat):Int)
        ·exact ag (by rw[hl];simp) (aa (dtt om))
        ·exact ak (by simpa using hl) (aa rfl)
       ·subst e
        exact aa rfl
    have e7:¬ (k=7∧lo≠0):=fun h=>h7 h.1
    rw[if_neg e7]
    by_cases h12:k=12
    ·subst h12
     by_cases hgl:(g:Int)<lo
     ·have e12:(12:Int)=12∧(g:Int)<lo:=⟨rfl,hgl⟩
      rw[if_pos e12]
      refine ad (P:=(· = .inr (.inr (.inr (12,(pre.length:Int)))))) (ag rfl (ag rfl (ak rfl (ak (dtt hgl) (aa rfl))))) fun a e=>?_
      subst e
      exact aa rfl
     ·have e12:¬ ((12:Int)=12∧(g:Int)<lo):=fun h=>hgl h.2
      rw[if_neg e12]
      refine ad (P:=(· = .inl ((g:Int),((0:Int),(0:Int))))) (ag rfl (ag rfl (ak rfl (ag (dff hgl) (aa rfl))))) fun a e=>?_
      subst e
      exact aa rfl
    ·have e12:¬ (k=12∧(g:Int)<lo):=fun h=>h12 h.1
     rw[if_neg e12]
     refine ad (P:=(· = .inl ((g:Int),((0:Int),(0:Int))))) (ag (beq_eq_false_iff_ne.2 h10) (ag (beq_eq_false_iff_ne.2 h7) (ag (beq_eq_false_iff_ne.2 h12) (aa rfl)))) fun a e=>?_
     subst e
     exact aa rfl
 ·have:nodeC g (k,lo,hi,no,lz,rs,subs)= .inl 5:=by unfold nodeC;rw[if_pos osm]
  rw[this]
  refine ad (P:=(· =true)) ?_ fun a e=>by subst e;exact ak rfl (aa rfl)
  by_cases h1:k<1
  ·exact ak (dtt h1) (aa rfl)
  ·exact ag (dff h1) (aa (dtt om))
theorem fau_lt {r14:List Pc} (hl:r14.length≤61) (hb:BdL r14):∀ (rest pre:List Pc) (g:Nat),r14=pre++rest→g≤pre.length→LT (fauF r14) ((g:Int),((pre.length:Int),((0:Int),(0:Int)))) (fauQ pre.length g rest)
 | [],pre,g,e,_=>by
   refine LT.fin (r:=.inl (0,0)) (Tot.alln fun n=>?_) (by unfold fauQ;rw[scanL])
   unfold fauF
   rw[if_neg]
   rw[e,aj,dff osm];decide
 | x::rest,pre,g,e,hg=>by
   have hstep:=fau_step e (hb x (by rw[e];simp)) hl hg
   unfold fauQ
   rw[scanL]
   by_cases h6:60≤pre.length
   ·rw[if_pos h6]at hstep ⊢
    exact LT.fin hstep rfl
   ·rw[if_neg h6]at hstep ⊢
    cases hn:nodeC g x.un with
    | inl c=>
      rw[hn]at hstep
      exact LT.fin hstep rfl
    | inr g'=>
      rw[hn]at hstep
      have:=node_le hn
      have ih:=fau_lt hl hb rest (pre++[x]) g' (by rw[e];simp) oss
      rw[show (((pre++[x]).length:Nat):Int)=((pre.length+1:Nat):Int) by simp,show (pre++[x]).length=pre.length+1 by simp]at ih
      exact LT.step hstep ih
end Go.Gv.X
namespace Go.Gv.X
open Go Go.Gv Go.Gv.D Go.Gv.R Go.Gv.P Go.Lib
set_option maxRecDepth 100000
/-! Own work: how a piece is written. -/
/-- own name for the loop body 0 of regex_class -/
noncomputable def clF (rs:List (Int × Int)) (fuel:Nat) (s19:(ByteArray × Int)):Option ((ByteArray × Int) ⊕ ByteArray):=
 (if (decide (s19.2<((ap rs:Nat):Int))) then (Option.bind (idx rs s19.2) fun x24=>(Option.bind (regex_spell fuel x24.1 (strOf [92,93,94,45,91])) fun r37=>(Option.bind (cat s19.1 r37) fun x42=>(Option.bind (if (decide (x24.2>x24.1)) then (Option.bind (regex_spell fuel x24.2 (strOf [92,93,94,45,91])) fun r48=>(Option.bind (cat (strOf [45]) r48) fun x53=>(Option.bind (cat x42 x53) fun x55=>(some (x55))))) else (some (x42))) fun (j45:ByteArray)=>(some (.inl (j45,(IntKind.i64.wrap (s19.2+1))))))))) else (some (.inr (s19.1))))
/-- own name for the loop body 1 of ref4_PieceText -/
noncomputable def clRF (rs:List (Int × Int)) (fuel:Nat) (s72:(ByteArray × Int)):Option ((ByteArray × Int) ⊕ ByteArray):=
 (if (decide (s72.2<((ap rs:Nat):Int))) then (Option.bind (idx rs s72.2) fun x82=>(Option.bind (idx rs s72.2) fun x86=>(Option.bind (ref4_written fuel x82.1 (strOf [92,93,94,45,91])) fun r89=>(Option.bind (cat s72.1 r89) fun x94=>(Option.bind (if (x82.1 !=x86.2) then (Option.bind (ref4_written fuel x86.2 (strOf [92,93,94,45,91])) fun r99=>(Option.bind (cat (strOf [45]) r99) fun x104=>(Option.bind (cat x94 x104) fun x106=>(some (x106))))) else (some (x94))) fun (j96:ByteArray)=>(some (.inl (j96,(IntKind.i64.wrap (s72.2+1)))))))))) else (some (.inr (s72.1))))
theorem scal_nat2 {c:Int} (h:scal c=true):∃ n:Nat,c=(n:Int)∧Scal n∧c.toNat=n∧n≤1114111:=by
 unfold scal at h
 simp only[decide_eq_true_eq]at h
 exact ⟨c.toNat,om,by unfold Scal;omega,rfl,om⟩
theorem encode_eq {n:Nat} (h:Scal n):Utf8.encode (n:Int)=strOf (encR n):=by
 have hn:n≤1114111:=by unfold Scal at h;omega
 have hv:Utf8.valid (n:Int)=true:=by
  unfold Scal at h
  unfold Utf8.valid
  simp
  omega
 unfold Utf8.encode
 simp only[hv,if_true,Int.toNat_natCast]
 by_cases h1:n<128
 ·rw[if_pos h1,encR1 om];rfl
 rw[if_neg h1]
 by_cases h2:n<2048
 ·rw[if_pos h2,encR2 om om];rfl
 rw[if_neg h2]
 by_cases h3:n<65536
 ·rw[if_pos h3,encR3 om om h];rfl
 ·rw[if_neg h3,encR4 om hn];rfl
theorem enc_one (n:Nat):enc [n]=encR n:=by rw[enc_cons];simp[enc]
theorem enc_two (n:Nat):enc [92,n]=92::encR n:=by rw[enc_cons,enc_one];rfl
theorem encR_len (n:Nat):(encR n).length≤4:=by rw[← enc_one];exact enc_len_le [n]
theorem SP8:St8 SP:=st8 (by kernel_rfl) ddc
theorem IC8:St8 IC:=st8 (by kernel_rfl) ddc
theorem SP9:St9 SP:=fun k=>by kernel_rfl
theorem IC9:St9 IC:=fun k=>by kernel_rfl
theorem spell_eq (n:Nat) {c:Int} (h:scal c=true) {S:List Nat} (hS:St8 S):regex_spell n c (strOf (bs S))=some (strOf (enc (spellN c S))):=by
 obtain ⟨m,rfl,hm,_,hm2⟩:=scal_nat2 h
 unfold regex_spell spellN
 by_cases h1:(m:Int)=10
 ·rw[if_pos (beq_iff_eq.2 h1),if_pos h1];rfl
 rw[if_neg (by simpa using h1),if_neg h1]
 by_cases h2:(m:Int)=9
 ·rw[if_pos (beq_iff_eq.2 h2),if_pos h2];rfl
 rw[if_neg (by simpa using h2),if_neg h2]
 have hw:IntKind.i32.wrap (m:Int)=(m:Int):=by simp[IntKind.wrap,IntKind.signed,IntKind.bits];omega
 rw[hw,encode_eq hm,Int.toNat_natCast]
 by_cases h3:m<128
 ·rw[if_pos (dtt om),u8_small om om]
  unfold strings_IndexByte stringslite_IndexByte
  simp only[Option.bind_some]
  have:=hS.ib (UInt8.ofNat m)
  rw[ofNat_toNat' h3]at this
  rw[this]
  cases hc:S.contains m with
  | true=>
    simp only[if_true]
    have e:=encR_len m
    rw[show strOf [92]=strOf ([92]:List UInt8) from rfl,cat_str oss,enc_two]
    rfl
  | false=>
    simp only[ab,if_false]
    rw[enc_one]
 ·rw[if_neg (by rw[dff om];decide)]
  have:S.contains m=false:=Bool.eq_false_iff.2 fun e=>h3 (hS.low m (by simpa using e))
  rw[this]
  simp only[Option.bind_some,ab,if_false]
  rw[enc_one]
theorem written_tot {c:Int} (h:scal c=true) {S:List Nat} (hS:St8 S) (h9:St9 S) {T:List UInt8} (hT:T=bs S):Tot (fun n=>ref4_written n c (strOf T)) (· =strOf (enc (spellN c S))):=by
 subst hT
 obtain ⟨m,rfl,hm,_,hm2⟩:=scal_nat2 h
 unfold ref4_written spellN
 have hst:Tot (fun n=>ref4_String n [(m:Int)]) (· =strOf (encR m)):=by
  have:=String_tot (p:=[m]) (by simpa using hm) (by simp)
  rw[enc_one]at this
  exact this
 by_cases h1:(m:Int)=10
 ·rw[if_pos h1];exact ak (beq_iff_eq.2 h1) (aa rfl)
 rw[if_neg h1]
 refine ag (beq_eq_false_iff_ne.2 h1) ?_
 by_cases h2:(m:Int)=9
 ·rw[if_pos h2];exact ak (beq_iff_eq.2 h2) (aa rfl)
 rw[if_neg h2,Int.toNat_natCast]
 refine ag (beq_eq_false_iff_ne.2 h2) (ad (P:=(· =S.contains m)) ?_ fun a e=>?_)
 ·by_cases h3:m<128
  ·refine ak (dtt om) ?_
   rw[u8_small om om]
   refine ad (P:=(· =S.contains m)) (Tot.of_all 30 (fun k=>?_) rfl) fun a e=>aa e
   exact beq_iff_eq.1 (List.all_eq_true.1 (h9 k) m (List.mem_range.2 h3))
  ·refine ag (dff om) (aa ?_)
   symm
   exact Bool.eq_false_iff.2 fun e=>h3 (hS.low m (by simpa using e))
 ·subst e
  cases S.contains m with
  | true=>
    refine ak rfl (ad hst fun a e=>?_)
    subst e
    have e:=encR_len m
    refine ai (cat_str (l:=[92]) oss) (aa ?_)
    rw[if_pos rfl,enc_two]
    rfl
  | false=>
    refine ag rfl (ad hst fun a e=>aa ?_)
    rw[e,if_neg ddc,enc_one]
theorem spell_len (c:Int) (S:List Nat):(spellN c S).length≤2:=by
 unfold spellN
 split;simp
 split;simp
 split<;>simp
theorem rng_len (r:Int × Int):(rngN r).length≤5:=by
 unfold rngN
 have:=spell_len r.1 IC
 have:=spell_len r.2 IC
 rw[ac]
 split<;>simp<;>omega
theorem ord_len:∀ {l:List (Int × Int)},ordR l=true→∀ x∈l.head?,x.1+(l.length:Int)≤1114112
 | [],_,x,hx=>by cases hx
 | [y],h,x,hx=>by
   cases hx
   simp only[ordR,ay,decide_eq_true_eq]at h
   have:=scal_rng h.1
   simp;omega
 | y::z::r,h,x,hx=>by
   cases hx
   simp only[ordR,ay,decide_eq_true_eq]at h
   have:=ord_len (l:=z::r) h.2.2.2.2 z rfl
   simp only[ae]at this ⊢
   omega
theorem ord_len' {l:List (Int × Int)} (h:ordR l=true):l.length≤1114112:=by
 cases l with
 | nil=>simp
 | cons x r=>
   have h1:=ord_len h x rfl
   have h2:=scal_rng ((of_ord h).2 x (List.mem_cons_self ..)).1
   omega
theorem cat_enc {a b:List Nat} (h:a.length+b.length≤1000000000000):cat (strOf (enc a)) (strOf (enc b))=some (strOf (enc (a++b))):=by
 have h1:=enc_len_le a
 have h2:=enc_len_le b
 rw[cat_str om,enc_app]
theorem cl_lt {rs:List (Int × Int)} (hl:rs.length≤2000000) (hs:∀ r∈rs,scal r.1=true∧scal r.2=true):∀ (rest pre:List (Int × Int)) (acc:List Nat),rs=pre++rest→acc.length+5*rest.length≤100000000→
 LT (clF rs) (strOf (enc acc),(pre.length:Int)) (· =strOf (enc (acc++rest.flatMap rngN)))
 | [],pre,acc,e,_=>by
   refine LT.fin (Tot.alln fun n=>?_) (by rw[List.flatMap_nil,aj])
   unfold clF
   rw[if_neg]
   rw[e,aj,dff osm];decide
 | x::rest,pre,acc,e,ha=>by
   have hlen:=hl
   rw[e,ac,ae]at hlen
   rw[ae]at ha
   obtain ⟨s1,s2⟩:=hs x (by rw[e];simp)
   have l1:=spell_len x.1 IC
   have l2:=spell_len x.2 IC
   have hstep:∀ n,clF rs n (strOf (enc acc),(pre.length:Int))=some (.inl (strOf (enc (acc++rngN x)),((pre.length+1:Nat):Int))):=fun n=>by
    unfold clF
    rw[if_pos (dtt (by simp only;rw[e,ac,ae];omega))]
    simp only
    rw[show idx rs (pre.length:Int)=some x by rw[e];exact get_mid pre x rest rfl]
    simp only[Option.bind_some]
    rw[show strOf [92,93,94,45,91]=strOf (bs IC) from rfl,spell_eq n s1 IC8]
    simp only[Option.bind_some]
    rw[cat_enc om,i64_small (x:=(pre.length:Int)+1) om om]
    simp only[Option.bind_some]
    unfold rngN
    by_cases h:x.1<x.2
    ·rw[if_pos (dtt h),if_pos h,spell_eq n s2 IC8]
     simp only[Option.bind_some]
     rw[show strOf [45]=strOf (enc [45]) from rfl,cat_enc oss]
     simp only[Option.bind_some]
     rw[cat_enc oss]
     simp only[Option.bind_some,al,aA]
     rfl
    ·rw[if_neg (by rw[dff h];decide),if_neg h,aj]
     rfl
   have hr:=rng_len x
   have ih:=cl_lt hl hs rest (pre++[x]) (acc++rngN x) (by rw[e];simp) (by rw[ac];omega)
   rw[show (((pre++[x]).length:Nat):Int)=((pre.length+1:Nat):Int) by simp,al]at ih
   rw[ax]
   exact LT.step (Tot.alln hstep) ih
theorem flat_len (rs:List (Int × Int)):(rs.flatMap rngN).length≤5*rs.length:=by
 induction rs with
 | nil=>simp
 | cons x rs ih=>
   rw[ax,ac,ae]
   have:=rng_len x
   omega
theorem classT_tot {k lo hi:Int} {no lz:Bool} {rs:List (Int × Int)} {subs:List Pc} (h:ordR rs=true):Tot (fun n=>regex_class n (k,lo,hi,no,lz,rs,subs)) (· =strOf (enc (clsN no rs))):=by
 have hl:=ord_len' h
 unfold regex_class
 refine ad (P:=(· =strOf (enc (91::(if no then [94] else []))))) ?_ fun a e=>?_
 ·cases no with
  | true=>exact ak rfl (ai (a:=strOf [91,94]) rfl (aa rfl))
  | false=>exact ag rfl (aa rfl)
 ·subst e
  refine ad (LT.tot (F:=clF rs) (cl_lt om (of_ord h).2 rs [] (91::(if no then [94] else [])) rfl (by cases no<;>simp<;>omega))) fun a e=>?_
  subst e
  have:=flat_len rs
  refine ai (cat_enc (b:=[93]) (by cases no<;>simp only[ac,ae,ao,ab,if_false,if_true]<;>omega)) (aa ?_)
  unfold clsN
  simp only[List.cons_append,al]
theorem clR_lt {rs:List (Int × Int)} (hl:rs.length≤2000000) (hs:∀ r∈rs,scal r.1=true∧scal r.2=true) (hle:∀ r∈rs,r.1≤r.2):∀ (rest pre:List (Int × Int)) (acc:List Nat),rs=pre++rest→acc.length+5*rest.length≤100000000→
 LT (clRF rs) (strOf (enc acc),(pre.length:Int)) (· =strOf (enc (acc++rest.flatMap rngN)))
 | [],pre,acc,e,_=>by
   refine LT.fin (Tot.alln fun n=>?_) (by rw[List.flatMap_nil,aj])
   unfold clRF
   rw[if_neg]
   rw[e,aj,dff osm];decide
 | x::rest,pre,acc,e,ha=>by
   have hlen:=hl
   rw[e,ac,ae]at hlen
   rw[ae]at ha
   obtain ⟨s1,s2⟩:=hs x (by rw[e];simp)
   have hxx:=hle x (by rw[e];simp)
   have l1:=spell_len x.1 IC
   have l2:=spell_len x.2 IC
   have hstep:Tot (fun n=>clRF rs n (strOf (enc acc),(pre.length:Int))) (· = .inl (strOf (enc (acc++rngN x)),((pre.length+1:Nat):Int))):=by
    unfold clRF
    have hix:idx rs (pre.length:Int)=some x:=by rw[e];exact get_mid pre x rest rfl
    refine ak (dtt (by simp only;rw[e,ac,ae];omega)) (ai hix (ai hix ?_))
    refine ad (written_tot s1 IC8 IC9 rfl) fun a ea=>?_
    subst ea
    refine ai (cat_enc om) ?_
    simp only[i64_small (x:=(pre.length:Int)+1) om om]
    unfold rngN
    by_cases h:x.1<x.2
    ·rw[if_pos h]
     refine ad (P:=(· =strOf (enc (acc++(spellN x.1 IC++45::spellN x.2 IC))))) (ak oss (ad (written_tot s2 IC8 IC9 rfl) fun a ea=>?_)) fun a ea=>by subst ea;exact aa rfl
     subst ea
     refine ai (cat_enc (a:=[45]) oss) (ai (cat_enc oss) (aa ?_))
     simp only[al,aA]
    ·rw[if_neg h,aj]
     exact ad (P:=(· =strOf (enc (acc++spellN x.1 IC)))) (ag oss (aa rfl)) fun a ea=>by subst ea;exact aa rfl
   have hr:=rng_len x
   have ih:=clR_lt hl hs hle rest (pre++[x]) (acc++rngN x) (by rw[e];simp) (by rw[ac];omega)
   rw[show (((pre++[x]).length:Nat):Int)=((pre.length+1:Nat):Int) by simp,al]at ih
   rw[ax]
   exact LT.step hstep ih
/-! numbers -/
theorem itoa_enc:(List.range 100).all (fun n=>enc (decN (n:Int))==Lib.itoa (n:Int))=true:=by kernel_rfl
theorem dec_enc {n:Int} (h0:0≤n) (h1:n≤99):Lib.itoa n=enc (decN n):=by
 obtain ⟨m,rfl⟩:∃ m:Nat,n=m:=⟨n.toNat,om⟩
 exact (beq_iff_eq.1 (List.all_eq_true.1 itoa_enc m (List.mem_range.2 om))).symm
theorem dec_len:(List.range 100).all (fun n=>decide ((decN (n:Int)).length≤2))=true:=by kernel_rfl
theorem dec_len' {n:Int} (h0:0≤n) (h1:n≤99):(decN n).length≤2:=by
 obtain ⟨m,rfl⟩:∃ m:Nat,n=m:=⟨n.toNat,om⟩
 exact odt (List.all_eq_true.1 dec_len m (List.mem_range.2 om))
theorem Itoa_eq (n:Nat) {v:Int} (h0:0≤v) (h1:v≤99):strconv_Itoa n v=some (strOf (enc (decN v))):=by
 unfold strconv_Itoa
 rw[if_pos om,dec_enc h0 h1]
theorem decimal_all (k:Nat):(List.range 100).all (fun m=>match ref4_decimal (k+60) (m:Int) with | some b=>bytesOf b==Lib.itoa (m:Int) | none=>false)=true:=by kernel_rfl
theorem decimal_tot {v:Int} (h0:0≤v) (h1:v≤99):Tot (fun n=>ref4_decimal n v) (· =strOf (enc (decN v))):=by
 obtain ⟨m,rfl⟩:∃ m:Nat,v=m:=⟨v.toNat,om⟩
 refine Tot.of_all 60 (fun k=>?_) rfl
 have:=List.all_eq_true.1 (decimal_all k) m (List.mem_range.2 om)
 cases hd:ref4_decimal (k+60) (m:Int) with
 | none=>rw[hd]at this;cases this
 | some b=>
   rw[hd]at this
   rw[← dec_enc h0 h1,← beq_iff_eq.1 this,str_bytes]
theorem tms_len {lo hi:Int} (h0:0≤lo) (h1:lo≤99) (h2: -1≤hi) (h3:hi≤99):(tmsN lo hi).length≤7:=by
 have:=dec_len' h0 h1
 unfold tmsN
 split;simp
 split;simp
 split;simp
 split;simp;omega
 split;simp;omega
 have:=dec_len' (n:=hi) om h3
 simp;omega
theorem times_eq (n:Nat) {lo hi:Int} {no lz:Bool} {rs:List (Int × Int)} {subs:List Pc} (h0:0≤lo) (h1:lo≤99) (h2: -1≤hi) (h3:hi≤99):
 regex_times n (10,lo,hi,no,lz,rs,subs)=some (strOf (enc (tmsN lo hi++if lz then [63] else []))):=by
 have hd:=dec_len' h0 h1
 have key:∀ T:List Nat,T.length≤7→((some (strOf (enc T))).bind fun (j22:ByteArray)=>(Option.bind (if lz then (Option.bind (cat j22 (strOf [63])) fun x76=>(some (x76))) else (some (j22))) fun (j73:ByteArray)=>(some (j73))))=some (strOf (enc (T++if lz then [63] else []))):=fun T hT=>by
  cases lz with
  | true=>
    simp only[Option.bind_some,if_true]
    rw[show strOf [63]=strOf (enc [63]) from rfl,cat_enc oss]
    rfl
  | false=>simp
 have ht:=tms_len h0 h1 h2 h3
 unfold regex_times
 rw[Itoa_eq n h0 h1]
 simp only[Option.bind_some]
 rw[← key (tmsN lo hi) ht]
 have b1:(hi== -1)=decide (hi= -1):=by rw[am];simp
 have b2:(lo==0)=decide (lo=0):=by rw[am];simp
 have b3:(lo==1)=decide (lo=1):=by rw[am];simp
 have b4:(hi==1)=decide (hi=1):=by rw[am];simp
 have b5:(hi==lo)=decide (hi=lo):=by rw[am];simp
 rw[b1,b2,b3,b4,b5]
 by_cases e1:hi= -1
 ·have e4:¬ hi=1:=by omega
  by_cases e2:lo=0
  ·rw[show tmsN lo hi=[42] by unfold tmsN;rw[if_pos ⟨e1,e2⟩]];simp[e1,e2];rfl
  ·by_cases e3:lo=1
   ·rw[show tmsN lo hi=[43] by unfold tmsN;rw[if_neg (fun h=>e2 h.2),if_pos ⟨e1,e3⟩]];simp[e1,e3];rfl
   ·rw[show tmsN lo hi=123::(decN lo++[44,125]) by unfold tmsN;rw[if_neg (fun h=>e2 h.2),if_neg (fun h=>e3 h.2),if_neg (fun h=>e2 h.1),if_pos e1]]
    simp only[e1,e2,e3,decide_true,decide_false,if_true,ab,if_false,Option.bind_some]
    rw[show strOf [123]=strOf (enc [123]) from rfl,cat_enc oss]
    simp only[Option.bind_some]
    rw[show strOf [44,125]=strOf (enc [44,125]) from rfl,cat_enc oss]
    rfl
 ·by_cases e2:lo=0∧hi=1
  ·rw[show tmsN lo hi=[63] by unfold tmsN;rw[if_neg (fun h=>e1 h.1),if_neg (fun h=>e1 h.1),if_pos e2]];simp[e2.1,e2.2];rfl
  ·have hj:(if decide (lo=0)=true then some (decide (hi=1)) else some false)=some false:=by
    by_cases e3:lo=0
    ·rw[if_pos (dtt e3),dff (fun h=>e2 ⟨e3,h⟩)]
    ·rw[if_neg (by rw[dff e3];decide)]
   by_cases e5:hi=lo
   ·rw[show tmsN lo hi=123::(decN lo++[125]) by unfold tmsN;rw[if_neg (fun h=>e1 h.1),if_neg (fun h=>e1 h.1),if_neg e2,if_neg e1,if_pos e5]]
    simp only[e1,decide_false,ab,if_false,Option.bind_some]
    rw[hj]
    simp only[Option.bind_some,ab,if_false,e5,decide_true,if_true]
    rw[show strOf [123]=strOf (enc [123]) from rfl,cat_enc oss]
    simp only[Option.bind_some]
    rw[show strOf [125]=strOf (enc [125]) from rfl,cat_enc oss]
    rfl
   ·rw[show tmsN lo hi=123::(decN lo++44::(decN hi++[125])) by unfold tmsN;rw[if_neg (fun h=>e1 h.1),if_neg (fun h=>e1 h.1),if_neg e2,if_neg e1,if_neg e5]]
    have hd2:=dec_len' (n:=hi) om h3
    simp only[e1,decide_false,ab,if_false,Option.bind_some]
    rw[hj]
    simp only[Option.bind_some,ab,if_false,e5,decide_false]
    rw[show strOf [123]=strOf (enc [123]) from rfl,cat_enc oss]
    simp only[Option.bind_some]
    rw[show strOf [44]=strOf (enc [44]) from rfl,cat_enc oss,Itoa_eq n (v:=hi) om h3]
    simp only[Option.bind_some]
    rw[cat_enc oss]
    simp only[Option.bind_some]
    rw[show strOf [125]=strOf (enc [125]) from rfl,cat_enc oss]
    simp
end Go.Gv.X
namespace Go.Gv.X
open Go Go.Gv Go.Gv.D Go.Gv.R Go.Gv.P Go.Lib
set_option maxRecDepth 100000
/-! Own work: how a piece is written (2). -/
/-- own name for the loop body 0 of regex_text -/
noncomputable def txtF (subs:List Pc) (fuel:Nat) (s9:((List ByteArray) × Int)):Option (((List ByteArray) × Int) ⊕ (List ByteArray)):=
 (if (decide (s9.2<((ap subs:Nat):Int))) then (Option.bind (idx subs s9.2) fun x22=>(Option.bind (regex_text fuel ((Pc.un x22).1,(Pc.un x22).2.1,(Pc.un x22).2.2.1,(Pc.un x22).2.2.2.1,(Pc.un x22).2.2.2.2.1,(Pc.un x22).2.2.2.2.2.1,(Pc.un x22).2.2.2.2.2.2)) fun r41=>(Option.bind (app s9.1 ([r41]:List ByteArray)) fun l61=>(some (.inl (l61,(IntKind.i64.wrap (s9.2+1)))))))) else (some (.inr (s9.1))))
/-- own name for the loop body 0 of ref4_PieceText -/
noncomputable def ptF (k:Int) (subs:List Pc) (fuel:Nat) (s9:(ByteArray × Int)):Option ((ByteArray × Int) ⊕ ByteArray):=
 (if (decide (s9.2<((ap subs:Nat):Int))) then (Option.bind (if (decide (s9.2>0)) then (some ((k==9))) else (some (false))) fun (j16:Bool)=>(Option.bind (if j16 then (Option.bind (cat s9.1 (strOf [124])) fun x26=>(some (x26))) else (some (s9.1))) fun (j23:ByteArray)=>(Option.bind (idx subs s9.2) fun x32=>(Option.bind (ref4_PieceText fuel ((Pc.un x32).1,(Pc.un x32).2.1,(Pc.un x32).2.2.1,(Pc.un x32).2.2.2.1,(Pc.un x32).2.2.2.2.1,(Pc.un x32).2.2.2.2.2.1,(Pc.un x32).2.2.2.2.2.2)) fun r41=>(Option.bind (cat j23 r41) fun x46=>(some (.inl (x46,(IntKind.i64.wrap (s9.2+1)))))))))) else (some (.inr (s9.1))))
def nodeT (k lo hi:Int) (no lz:Bool) (rs:List (Int × Int)) (ts:List (List Nat)):List Nat:=
    if k=1 then spellN lo SP else if k=2 then [46] else if k=3 then clsN no rs else if k=4 then [94] else if k=5 then [36] else
    if k=6 then (if no then [92,66] else [92,98]) else
    if k=7 then (if lo=0 then [40,63,58] else [40])++(ts.headD []++[41]) else
    if k=8 then ts.flatten else if k=9 then interN ts else
    if k=10 then ts.headD []++(tmsN lo hi++if lz then [63] else []) else
    if k=11 then (if no then [40,63,33] else [40,63,61])++(ts.headD []++[41]) else 92::decN lo
theorem txt_node (k lo hi:Int) (no lz:Bool) (rs:List (Int × Int)) (subs:List Pc):txt (.mk k lo hi no lz rs subs)=nodeT k lo hi no lz rs (txtL subs):=by rw[txt];rfl
theorem cls_len' {no:Bool} {rs:List (Int × Int)} (h:ordR rs=true):(clsN no rs).length≤5600000:=by
 have h1:=ord_len' h
 have h2:=flat_len rs
 unfold clsN
 cases no<;>simp only[ac,ae,ao,ab,if_false,if_true]<;>omega
theorem inter_len:∀ (ts:List (List Nat)),(interN ts).length≤ts.flatten.length+ts.length
 | []=>by simp[interN]
 | t::ts=>by
   have:(ts.flatMap fun u=>124::u).length=ts.flatten.length+ts.length:=by
    induction ts with
    | nil=>rfl
    | cons u us ih=>rw[ax,ac,ih,an,ac,ae,ae];omega
   rw[interN,ac,this,an,ac,ae]
   omega
theorem preL_node {g g':Nat} {k lo hi:Int} {no lz:Bool} {rs:List (Int × Int)} {subs:List Pc} (h:chkL g (preP (.mk k lo hi no lz rs subs))=some g'):∃ g1,nodeC g (k,lo,hi,no,lz,rs,subs)= .inr g1∧chkL g1 (preL subs)=some g':=by
 rw[pre_eq,chkL]at h
 cases hn:nodeC g (k,lo,hi,no,lz,rs,subs) with
 | inl e=>rw[show (Pc.mk k lo hi no lz rs subs).un=(k,lo,hi,no,lz,rs,subs) from rfl,hn]at h;cases h
 | inr g1=>rw[show (Pc.mk k lo hi no lz rs subs).un=(k,lo,hi,no,lz,rs,subs) from rfl,hn]at h;exact ⟨g1,rfl,h⟩
mutual
theorem tlen_p:∀ (p:Pc) (g g':Nat),chkL g (preP p)=some g'→(txt p).length+1≤6000000*sizeP p
 | .mk k lo hi no lz rs subs,g,g',h=>by
   obtain ⟨g1,hn,hs⟩:=preL_node h
   have ih:=tlen_l subs g1 g' hs
   rw[txt_node,size_eq]
   rcases node_inv hn with ⟨rfl,hsc,rfl,rfl,rfl,rfl,rfl,rfl⟩ | ⟨hk,rfl,rfl,rfl,rfl,rfl,rfl,rfl⟩ | ⟨rfl,rfl,rfl,rfl,hor,hne,rfl,rfl⟩ | ⟨rfl,rfl,rfl,rfl,rfl,rfl,rfl⟩ | ⟨rfl,rfl,rfl,rfl,rfl,hl,hg⟩ | ⟨rfl,rfl,rfl,rfl,rfl,rfl,hl,hkin,rfl⟩ | ⟨rfl,rfl,rfl,rfl,rfl,rfl,hl,hkin,rfl⟩ | ⟨rfl,rfl,rfl,hl,hkin,hr,rfl⟩ | ⟨rfl,rfl,rfl,rfl,rfl,hl,rfl⟩ | ⟨rfl,hlo,hlg,rfl,rfl,rfl,rfl,rfl,rfl⟩
   ·have:=spell_len lo SP
    show (spellN lo SP).length+1≤_
    omega
   ·rcases hk with rfl | rfl | rfl<;>(show 2≤_;omega)
   ·have:=cls_len' (no:=no) hor
    show (clsN no rs).length+1≤_
    omega
   ·show (if no then [92,66] else [92,98]:List Nat).length+1≤_
    cases no<;>simp<;>omega
   ·obtain ⟨q,rfl⟩:=len_one hl
    rw[txtL,txtL]at ih ⊢
    show ((if lo=0 then [40,63,58] else [40]:List Nat)++(txt q++[41])).length+1≤_
    simp only[an,aq,aj,ac,ae,ao]at ih ⊢
    split<;>simp<;>omega
   ·show ((txtL subs).flatten).length+1≤_
    omega
   ·show (interN (txtL subs)).length+1≤_
    have:=inter_len (txtL subs)
    omega
   ·obtain ⟨q,rfl⟩:=len_one hl
    rw[txtL,txtL]at ih ⊢
    have:=tms_len hr.1 hr.2.1 hr.2.2.1 hr.2.2.2.1
    show (txt q++(tmsN lo hi++if lz then [63] else [])).length+1≤_
    simp only[an,aq,aj,ac,ae,ao]at ih ⊢
    split<;>simp<;>omega
   ·obtain ⟨q,rfl⟩:=len_one hl
    rw[txtL,txtL]at ih ⊢
    show ((if no then [40,63,33] else [40,63,61]:List Nat)++(txt q++[41])).length+1≤_
    simp only[an,aq,aj,ac,ae,ao]at ih ⊢
    split<;>simp<;>omega
   ·have:=dec_len' (n:=lo) om om
    show (92::decN lo).length+1≤_
    rw[ae]
    omega
theorem tlen_l:∀ (l:List Pc) (g g':Nat),chkL g (preL l)=some g'→(txtL l).flatten.length+(txtL l).length≤6000000*sizeL l
 | [],_,_,_=>by rw[txtL];simp[sizeL]
 | p::l,g,g',h=>by
   rw[preL]at h
   obtain ⟨g1,h1,h2⟩:=chk_split h
   have a:=tlen_p p g g1 h1
   have b:=tlen_l l g1 g' h2
   have c:=size_pos p
   rw[txtL,sizeL,an,ac,ae]
   omega
end
theorem subs_len:∀ (l:List Pc),l.length≤sizeL l
 | []=>by simp
 | p::l=>by have:=subs_len l;have:=size_pos p;rw[sizeL,ae];omega
theorem txtL_len (l:List Pc):(txtL l).length=l.length:=by rw[txtL_eq,List.length_map]
theorem inter_nil:∀ (ts:List (List UInt8)),Lib.join ts []=ts.flatten
 | []=>rfl
 | [t]=>by simp[Lib.join,aB,List.intersperse]
 | t::u::ts=>by
   have ih:=inter_nil (u::ts)
   unfold Lib.join aB at ih ⊢
   rw[List.intersperse_cons₂,an,an,ih,az]
   simp
theorem inter_bar:∀ (ts:List (List Nat)),Lib.join (ts.map enc) [124]=enc (interN ts)
 | []=>rfl
 | [t]=>by simp[Lib.join,aB,List.intersperse,interN]
 | t::u::ts=>by
   have ih:=inter_bar (u::ts)
   unfold Lib.join aB at ih ⊢
   rw[aC,aC,List.intersperse_cons₂,an,an,← aC,ih,interN,interN,ax,enc_app,enc_app,enc_app,show enc (124::u)=124::enc u from rfl]
   simp
theorem flat_enc:∀ (ts:List (List Nat)),(ts.map enc).flatten=enc ts.flatten
 | []=>rfl
 | t::ts=>by rw[aC,an,an,enc_app,flat_enc ts]
theorem map_bytes (ts:List (List Nat)):(ts.map (fun t=>strOf (enc t))).map bytesOf=ts.map enc:=by rw[List.map_map];congr 1
theorem join_nil {n:Nat} (ts:List (List Nat)) (h:ts.length≤1000) (hl:ts.flatten.length+ts.length≤10000000000):strings_Join n (ts.map (fun t=>strOf (enc t))) (strOf [])=some (strOf (enc ts.flatten)):=by
 unfold strings_Join
 have e:Lib.join ((ts.map (fun t=>strOf (enc t))).map bytesOf) (bytesOf (strOf []))=enc ts.flatten:=by rw[map_bytes,bytes_str,inter_nil,flat_enc]
 have:=enc_len_le ts.flatten
 rw[e,if_pos ⟨by rw[List.length_map];omega,om⟩]
theorem join_bar {n:Nat} (ts:List (List Nat)) (h:ts.length≤1000) (hl:ts.flatten.length+ts.length≤10000000000):strings_Join n (ts.map (fun t=>strOf (enc t))) (strOf [124])=some (strOf (enc (interN ts))):=by
 unfold strings_Join
 have e:Lib.join ((ts.map (fun t=>strOf (enc t))).map bytesOf) (bytesOf (strOf [124]))=enc (interN ts):=by rw[map_bytes,bytes_str,inter_bar]
 have:=enc_len_le (interN ts)
 have:=inter_len ts
 rw[e,if_pos ⟨by rw[List.length_map];omega,om⟩]
mutual
theorem text_p:∀ (p:Pc) (g g':Nat),chkL g (preP p)=some g'→sizeP p≤70→Tot (fun n=>regex_text n p.un) (· =strOf (enc (txt p)))
 | .mk k lo hi no lz rs subs,g,g',h,hz=>by
   obtain ⟨g1,hn,hs⟩:=preL_node h
   rw[size_eq]at hz
   have hsl:=subs_len subs
   have ih:=text_l subs subs [] [] g1 g' rfl hs om om (aD _)
   rw[az]at ih
   have hlen:=tlen_l subs g1 g' hs
   refine Tot.suc (Tot.eqf (fun n=>regex_text.eq_2 ..) (ad (LT.tot (F:=txtF subs) ih) fun a e=>?_))
   subst e
   rw[txt_node]
   simp only[Pc.un]
   rcases node_inv hn with ⟨rfl,hsc,rfl,rfl,rfl,rfl,rfl,rfl⟩ | ⟨hk,rfl,rfl,rfl,rfl,rfl,rfl,rfl⟩ | ⟨rfl,rfl,rfl,rfl,hor,hne,rfl,rfl⟩ | ⟨rfl,rfl,rfl,rfl,rfl,rfl,rfl⟩ | ⟨rfl,rfl,rfl,rfl,rfl,hl,hg⟩ | ⟨rfl,rfl,rfl,rfl,rfl,rfl,hl,hkin,rfl⟩ | ⟨rfl,rfl,rfl,rfl,rfl,rfl,hl,hkin,rfl⟩ | ⟨rfl,rfl,rfl,hl,hkin,hr,rfl⟩ | ⟨rfl,rfl,rfl,rfl,rfl,hl,rfl⟩ | ⟨rfl,hlo,hlg,rfl,rfl,rfl,rfl,rfl,rfl⟩
   ·simp only[af,ab,if_false,if_true,Option.bind_some]
    exact ad (Tot.alln fun n=>spell_eq n hsc SP8) fun a e=>aa e
   ·rcases hk with rfl | rfl | rfl<;>(simp only[af,ab,if_false,if_true,Option.bind_some];exact aa rfl)
   ·simp only[af,ab,if_false,if_true,Option.bind_some]
    exact ad (classT_tot hor) fun a e=>aa e
   ·simp only[af,ab,if_false,if_true,Option.bind_some]
    cases no<;>exact aa rfl
   ·obtain ⟨q,rfl⟩:=len_one hl
    rw[txtL,txtL]at hlen ⊢
    simp only[an,aq,aj,ae,ao]at hlen
    simp only[af,ab,if_false,if_true,Option.bind_some]
    refine ai (a:=strOf (enc (txt q))) rfl ?_
    by_cases h0:lo=0
    ·subst h0
     refine ai (a:=strOf (enc [40,63,58])) rfl (ai (cat_enc oss) (ai (cat_enc (b:=[41]) oss) (aa ?_)))
     rw[al];rfl
    ·refine ad (P:=(· =strOf (enc [40]))) (Tot.alln fun n=>by unfold regex_pick;rw[if_neg (by simpa using h0)];rfl) fun a e=>?_
     subst e
     refine (ai (cat_enc oss) (ai (cat_enc (b:=[41]) oss) (aa ?_)))
     rw[al]
     show _=strOf (enc ((if lo=0 then [40,63,58] else [40])++(txt q++[41])))
     rw[if_neg h0]
   ·simp only[af,ab,if_false,if_true,Option.bind_some]
    refine ad (Tot.alln fun n=>join_nil (txtL subs) (by have:=txtL_len subs;omega) om) fun a e=>?_
    subst e
    exact aa rfl
   ·simp only[af,ab,if_false,if_true,Option.bind_some]
    refine ad (Tot.alln fun n=>join_bar (txtL subs) (by have:=txtL_len subs;omega) om) fun a e=>?_
    subst e
    exact aa rfl
   ·obtain ⟨q,rfl⟩:=len_one hl
    rw[txtL,txtL]at hlen ⊢
    simp only[an,aq,aj,ae,ao]at hlen
    have ht:=tms_len hr.1 hr.2.1 hr.2.2.1 hr.2.2.2.1
    simp only[af,ab,if_false,if_true,Option.bind_some]
    refine ai (a:=strOf (enc (txt q))) rfl (ad (Tot.alln fun n=>times_eq n hr.1 hr.2.1 hr.2.2.1 hr.2.2.2.1) fun a e=>?_)
    subst e
    exact ai (cat_enc (by cases lz<;>simp<;>omega)) (aa rfl)
   ·obtain ⟨q,rfl⟩:=len_one hl
    rw[txtL,txtL]at hlen ⊢
    simp only[an,aq,aj,ae,ao]at hlen
    simp only[af,ab,if_false,if_true,Option.bind_some]
    refine ai (a:=strOf (enc (txt q))) rfl ?_
    cases no with
    | true=>
      refine ai (a:=strOf (enc [40,63,33])) rfl (ai (cat_enc oss) (ai (cat_enc (b:=[41]) oss) (aa ?_)))
      rw[al];rfl
    | false=>
      refine ai (a:=strOf (enc [40,63,61])) rfl (ai (cat_enc oss) (ai (cat_enc (b:=[41]) oss) (aa ?_)))
      rw[al];rfl
   ·have:=dec_len' (n:=lo) om om
    simp only[af,ab,if_false,if_true,Option.bind_some]
    refine ad (Tot.alln fun n=>Itoa_eq n (v:=lo) om om) fun a e=>?_
    subst e
    exact ai (cat_enc (a:=[92]) oss) (aa rfl)
theorem text_l:∀ (rest subs pre:List Pc) (acc:List ByteArray) (g g':Nat),subs=pre++rest→chkL g (preL rest)=some g'→sizeL rest≤70→subs.length≤1000→acc.length≤pre.length→
 LT (txtF subs) (acc,(pre.length:Int)) (· =acc++(txtL rest).map (fun t=>strOf (enc t)))
 | [],subs,pre,acc,g,g',e,_,_,_,_=>by
   refine LT.fin (Tot.alln fun n=>?_) (by rw[txtL,List.map_nil,aj])
   unfold txtF
   rw[if_neg]
   rw[e,aj,dff osm];decide
 | x::rest,subs,pre,acc,g,g',e,h,hz,hl,ha=>by
   rw[preL]at h
   obtain ⟨g1,h1,h2⟩:=chk_split h
   rw[sizeL]at hz
   have hll:=hl
   have hsl:=subs_len rest
   rw[e,ac,ae]at hll
   have hT:=text_p x g g1 h1 om
   have hstep:Tot (fun n=>txtF subs n (acc,(pre.length:Int))) (· = .inl (acc++[strOf (enc (txt x))],((pre.length+1:Nat):Int))):=by
    unfold txtF
    refine ak (dtt (by simp only;rw[e,ac,ae];omega)) (ai (show idx subs (pre.length:Int)=some x by rw[e];exact get_mid pre x rest rfl) (ad hT fun a ea=>?_))
    subst ea
    refine ai (app_ok oss) (aa ?_)
    rw[i64_small (x:=(pre.length:Int)+1) om om]
    rfl
   have ih:=text_l rest subs (pre++[x]) (acc++[strOf (enc (txt x))]) g1 g' (by rw[e];simp) h2 om hl (by simp only[ac,aw];omega)
   rw[show (((pre++[x]).length:Nat):Int)=((pre.length+1:Nat):Int) by simp,al]at ih
   rw[txtL,aC]
   exact LT.step hstep ih
end
end Go.Gv.X
namespace Go.Gv.X
open Go Go.Gv Go.Gv.D Go.Gv.R Go.Gv.P Go.Lib
set_option maxRecDepth 100000
/-! Own work: how the second writer writes a piece. -/
def catN (nine:Bool):Bool→List (List Nat)→List Nat
 | _,[]=>[]
 | first,t::ts=>(if nine&& !first then [124] else [])++(t++catN nine false ts)
theorem catN_flat:∀ (f:Bool) (ts:List (List Nat)),catN false f ts=ts.flatten
 | _,[]=>rfl
 | f,t::ts=>by rw[catN,catN_flat false ts];simp
theorem catN_bar:∀ (ts:List (List Nat)),catN true false ts=ts.flatMap (fun u=>124::u)
 | []=>rfl
 | t::ts=>by rw[catN,catN_bar ts,ax];simp
theorem catN_inter:∀ (ts:List (List Nat)),catN true true ts=interN ts
 | []=>rfl
 | t::ts=>by rw[catN,catN_bar ts,interN];simp
theorem decimal_neg' (k:Nat):(match ref4_decimal (k+60) (-1) with | some b=>bytesOf b==[45,49] | none=>false)=true:=by kernel_rfl
theorem decimal_hi {v:Int} (h0: -1≤v) (h1:v≤99):∃ t:List UInt8,t.length≤100∧(0≤v→t=enc (decN v))∧Tot (fun n=>ref4_decimal n v) (· =strOf t):=by
 by_cases h:0≤v
 ·have:=dec_len' h h1
  have:=enc_len_le (decN v)
  exact ⟨enc (decN v),om,fun _=>rfl,decimal_tot h h1⟩
 ·have:v= -1:=by omega
  subst this
  refine ⟨[45,49],ddc,fun h'=>absurd h' h,Tot.of_all 60 (fun k=>?_) rfl⟩
  have:=decimal_neg' k
  cases hd:ref4_decimal (k+60) (-1) with
  | none=>rw[hd]at this;cases this
  | some b=>
    rw[hd]at this
    rw[← beq_iff_eq.1 this,str_bytes]
theorem gaps_le:∀ {l:List (Int × Int)},gaps l→∀ r∈l,r.1≤r.2
 | [],_,r,hr=>by cases hr
 | x::l,h,r,hr=>by
   rcases List.mem_cons.1 hr with rfl | hr
   ·exact gaps_head h
   ·exact gaps_le (gaps_tail h) r hr
mutual
theorem ptext_p:∀ (p:Pc) (g g':Nat),chkL g (preP p)=some g'→sizeP p≤70→Tot (fun n=>ref4_PieceText n p.un) (· =strOf (enc (txt p)))
 | .mk k lo hi no lz rs subs,g,g',h,hz=>by
   obtain ⟨g1,hn,hs⟩:=preL_node h
   rw[size_eq]at hz
   have hsl:=subs_len subs
   have ih:=pt_l k subs subs [] [] g1 g' rfl hs om om oss
   rw[az]at ih
   have hlen:=tlen_l subs g1 g' hs
   refine Tot.suc (Tot.eqf (fun n=>ref4_PieceText.eq_2 ..) (ad (LT.tot (F:=ptF k subs) ih) fun a e=>?_))
   subst e
   rw[txt_node]
   simp only[Pc.un]
   rcases node_inv hn with ⟨rfl,hsc,rfl,rfl,rfl,rfl,rfl,rfl⟩ | ⟨hk,rfl,rfl,rfl,rfl,rfl,rfl,rfl⟩ | ⟨rfl,rfl,rfl,rfl,hor,hne,rfl,rfl⟩ | ⟨rfl,rfl,rfl,rfl,rfl,rfl,rfl⟩ | ⟨rfl,rfl,rfl,rfl,rfl,hl,hg⟩ | ⟨rfl,rfl,rfl,rfl,rfl,rfl,hl,hkin,rfl⟩ | ⟨rfl,rfl,rfl,rfl,rfl,rfl,hl,hkin,rfl⟩ | ⟨rfl,rfl,rfl,hl,hkin,hr,rfl⟩ | ⟨rfl,rfl,rfl,rfl,rfl,hl,rfl⟩ | ⟨rfl,hlo,hlg,rfl,rfl,rfl,rfl,rfl,rfl⟩
   ·simp only[af,ab,if_false,if_true,Option.bind_some]
    exact ad (written_tot hsc SP8 SP9 rfl) fun a e=>aa e
   ·rcases hk with rfl | rfl | rfl<;>(simp only[af,ab,if_false,if_true,Option.bind_some];exact aa rfl)
   ·simp only[af,ab,if_false,if_true,Option.bind_some]
    obtain ⟨o1,o2⟩:=of_ord hor
    have hl:=ord_len' hor
    have hfl:=flat_len rs
    have hle:∀ r∈rs,r.1≤r.2:=gaps_le o1
    refine ad (P:=(· =strOf (enc (if no then [94] else [])))) ?_ fun a e=>?_
    ·cases no with
     | true=>exact ak rfl (aa rfl)
     | false=>exact ag rfl (aa rfl)
    ·subst e
     refine ad (LT.tot (F:=clRF rs) (clR_lt om o2 hle rs [] (if no then [94] else []) rfl (by cases no<;>simp<;>omega))) fun a e=>?_
     subst e
     refine ai (cat_enc (a:=[91]) (by cases no<;>simp only[ac,ae,ao,ab,if_false,if_true]<;>omega)) (ai (cat_enc (b:=[93]) (by cases no<;>simp only[ac,ae,ao,ab,if_false,if_true]<;>omega)) (aa ?_))
     show _=strOf (enc (clsN no rs))
     unfold clsN
     cases no<;>simp
   ·simp only[af,ab,if_false,if_true,Option.bind_some]
    cases no<;>exact aa rfl
   ·obtain ⟨q,rfl⟩:=len_one hl
    rw[txtL,txtL]at hlen ⊢
    simp only[an,aq,aj,ae,ao]at hlen
    simp only[af,ab,if_false,if_true,Option.bind_some]
    have hc:catN ((7:Int)==9) ([]:List Pc).isEmpty [txt q]=txt q:=by rw[show ((7:Int)==9)=false from rfl,catN_flat];simp
    simp only[show ((7:Int)==9)=false from rfl]at hc
    rw[hc]
    by_cases h0:lo=0
    ·subst h0
     refine ak rfl (ai (cat_enc (a:=[40,63,58]) oss) (ai (cat_enc (b:=[41]) oss) (aa ?_)))
     rw[al];rfl
    ·refine ag (by simpa using h0) (ai (cat_enc (a:=[40]) oss) (ai (cat_enc (b:=[41]) oss) (aa ?_)))
     rw[al]
     show _=strOf (enc ((if lo=0 then [40,63,58] else [40])++(txt q++[41])))
     rw[if_neg h0]
   ·simp only[af,ab,if_false,if_true,Option.bind_some]
    rw[catN_flat]
    exact aa rfl
   ·simp only[af,ab,if_false,if_true,Option.bind_some]
    rw[show ([]:List Pc).isEmpty=true from rfl,catN_inter]
    exact aa rfl
   ·obtain ⟨q,rfl⟩:=len_one hl
    rw[txtL,txtL]at hlen ⊢
    simp only[an,aq,aj,ae,ao]at hlen
    obtain ⟨r1,r2,r3,r4,r5⟩:=hr
    have hd:=dec_len' r1 r2
    have hde:=enc_len_le (decN lo)
    obtain ⟨ht,t1,t2,t3⟩:=decimal_hi r3 r4
    simp only[af,ab,if_false,if_true,Option.bind_some]
    have hc:catN false ([]:List Pc).isEmpty [txt q]=txt q:=by rw[catN_flat];simp
    rw[hc]
    refine ad (decimal_tot r1 r2) fun a e=>?_
    subst e
    refine ad t3 fun a e=>?_
    subst e
    refine ai (cat_enc (a:=[123]) oss) (ai (cat_enc (b:=[44]) oss) ?_)
    have e1:=enc_len_le ([123]++decN lo++[44])
    have e2:([123]++decN lo++[44]).length≤4:=by simp;omega
    refine ai (cat_str om) (ai (cat_str (m:=[125]) (by rw[ac];simp only[aw];omega)) ?_)
    have hbig:=tms_len r1 r2 r3 r4
    refine ad (P:=(· =decide (hi= -1∧lo=0))) ?_ fun a e=>?_
    ·by_cases h0:lo=0
     ·refine ak (beq_iff_eq.2 h0) (aa ?_)
      rw[am];simp[h0]
     ·refine ag (beq_eq_false_iff_ne.2 h0) (aa ?_)
      symm;exact dff fun h=>h0 h.2
    subst e
    refine ad (P:=(· =strOf (enc (tmsN lo hi)))) ?_ fun a e=>?_
    ·by_cases c1:hi= -1∧lo=0
     ·rw[dtt c1,show tmsN lo hi=[42] by unfold tmsN;rw[if_pos c1]]
      exact ak rfl (aa rfl)
     rw[dff c1]
     refine ag rfl (ad (P:=(· =decide (hi= -1∧lo=1))) ?_ fun a e=>?_)
     ·by_cases h0:lo=1
      ·refine ak (beq_iff_eq.2 h0) (aa ?_)
       rw[am];simp[h0]
      ·refine ag (beq_eq_false_iff_ne.2 h0) (aa ?_)
       symm;exact dff fun h=>h0 h.2
     subst e
     by_cases c2:hi= -1∧lo=1
     ·rw[dtt c2,show tmsN lo hi=[43] by unfold tmsN;rw[if_neg c1,if_pos c2]]
      exact ak rfl (aa rfl)
     rw[dff c2]
     refine ag rfl (ad (P:=(· =decide (lo=0∧hi=1))) ?_ fun a e=>?_)
     ·by_cases h0:lo=0
      ·refine ak (beq_iff_eq.2 h0) (aa ?_)
       rw[am];simp[h0]
      ·refine ag (beq_eq_false_iff_ne.2 h0) (aa ?_)
       symm;exact dff fun h=>h0 h.1
     subst e
     by_cases c3:lo=0∧hi=1
     ·rw[dtt c3,show tmsN lo hi=[63] by unfold tmsN;rw[if_neg c1,if_neg c2,if_pos c3]]
      exact ak rfl (aa rfl)
     rw[dff c3]
     refine ag rfl ?_
     by_cases c4:hi= -1
     ·rw[show tmsN lo hi=123::(decN lo++[44,125]) by unfold tmsN;rw[if_neg c1,if_neg c2,if_neg c3,if_pos c4]]
      exact ak (beq_iff_eq.2 c4) (ai (cat_enc (a:=[123]) oss) (ai (cat_enc (b:=[44,125]) oss) (aa rfl)))
     refine ag (beq_eq_false_iff_ne.2 c4) ?_
     by_cases c5:hi=lo
     ·rw[show tmsN lo hi=123::(decN lo++[125]) by unfold tmsN;rw[if_neg c1,if_neg c2,if_neg c3,if_neg c4,if_pos c5]]
      exact ak (beq_iff_eq.2 c5.symm) (ai (cat_enc (a:=[123]) oss) (ai (cat_enc (b:=[125]) oss) (aa rfl)))
     ·rw[show tmsN lo hi=123::(decN lo++44::(decN hi++[125])) by unfold tmsN;rw[if_neg c1,if_neg c2,if_neg c3,if_neg c4,if_neg c5]]
      refine ag (beq_eq_false_iff_ne.2 (Ne.symm c5)) (aa ?_)
      rw[t2 om]
      rw[show (123::(decN lo++44::(decN hi++[125])))=([123]++decN lo++[44])++(decN hi++[125]) by simp]
      rw[enc_app ([123]++decN lo++[44]) (decN hi++[125]),enc_app (decN hi) [125],← al]
      rfl
    ·subst e
     refine ad (P:=(· =strOf (enc (tmsN lo hi++if lz then [63] else [])))) ?_ fun a e=>?_
     ·cases lz with
      | true=>exact ak rfl (ai (cat_enc (b:=[63]) oss) (aa rfl))
      | false=>exact ag rfl (aa (by simp))
     ·subst e
      exact ai (cat_enc (by cases lz<;>simp<;>omega)) (aa rfl)
   ·obtain ⟨q,rfl⟩:=len_one hl
    rw[txtL,txtL]at hlen ⊢
    simp only[an,aq,aj,ae,ao]at hlen
    simp only[af,ab,if_false,if_true,Option.bind_some]
    have hc:catN false ([]:List Pc).isEmpty [txt q]=txt q:=by rw[catN_flat];simp
    rw[hc]
    cases no with
    | true=>
      refine ak rfl (ai (cat_enc (a:=[40,63,33]) oss) (ai (cat_enc (b:=[41]) oss) (aa ?_)))
      rw[al];rfl
    | false=>
      refine ag rfl (ai (cat_enc (a:=[40,63,61]) oss) (ai (cat_enc (b:=[41]) oss) (aa ?_)))
      rw[al];rfl
   ·have:=dec_len' (n:=lo) om om
    simp only[af,ab,if_false,if_true,Option.bind_some]
    refine ad (decimal_tot (v:=lo) om om) fun a e=>?_
    subst e
    exact ai (cat_enc (a:=[92]) oss) (aa rfl)
theorem pt_l (k:Int):∀ (rest subs pre:List Pc) (acc:List Nat) (g g':Nat),subs=pre++rest→chkL g (preL rest)=some g'→sizeL rest≤70→subs.length≤1000→acc.length+6000000*sizeL rest≤10000000000→
 LT (ptF k subs) (strOf (enc acc),(pre.length:Int)) (· =strOf (enc (acc++catN (k==9) pre.isEmpty (txtL rest))))
 | [],subs,pre,acc,g,g',e,_,_,_,_=>by
   refine LT.fin (Tot.alln fun n=>?_) (by rw[txtL,catN,aj])
   unfold ptF
   rw[if_neg]
   rw[e,aj,dff osm];decide
 | x::rest,subs,pre,acc,g,g',e,h,hz,hl,ha=>by
   rw[preL]at h
   obtain ⟨g1,h1,h2⟩:=chk_split h
   rw[sizeL]at hz ha
   have hll:=hl
   rw[e,ac,ae]at hll
   have hT:=ptext_p x g g1 h1 om
   have hx:=tlen_p x g g1 h1
   have hstep:Tot (fun n=>ptF k subs n (strOf (enc acc),(pre.length:Int))) (· = .inl (strOf (enc (acc++((if (k==9)&& !pre.isEmpty then [124] else [])++txt x))),((pre.length+1:Nat):Int))):=by
    unfold ptF
    refine ak (dtt (by simp only;rw[e,ac,ae];omega)) ?_
    refine ad (P:=(· =((k==9)&& !pre.isEmpty))) ?_ fun a ea=>?_
    ·cases pre with
     | nil=>exact ag rfl (aa (by simp))
     | cons y ys=>exact ak (dtt (by simp only[ae];omega)) (aa (by simp))
    ·subst ea
     refine ad (P:=(· =strOf (enc (acc++if ((k==9)&& !pre.isEmpty)=true then [124] else [])))) ?_ fun a ea=>?_
     ·cases (k==9)&& !pre.isEmpty with
      | true=>exact ak rfl (ai (cat_enc (b:=[124]) oss) (aa rfl))
      | false=>exact ag rfl (aa (by simp))
     ·subst ea
      refine ai (show idx subs (pre.length:Int)=some x by rw[e];exact get_mid pre x rest rfl) (ad hT fun a ea=>?_)
      subst ea
      refine ai (cat_enc (by split<;>simp<;>omega)) (aa ?_)
      rw[i64_small (x:=(pre.length:Int)+1) om om,al]
      rfl
   have ih:=pt_l k rest subs (pre++[x]) (acc++((if (k==9)&& !pre.isEmpty then [124] else [])++txt x)) g1 g' (by rw[e];simp) h2 om hl (by rw[ac,ac];split<;>simp<;>omega)
   rw[show (((pre++[x]).length:Nat):Int)=((pre.length+1:Nat):Int) by simp,al,al,show (pre++[x]).isEmpty=false by simp]at ih
   rw[txtL,catN]
   exact LT.step hstep ih
end
end Go.Gv.X
namespace Go.Gv.X
open Go Go.Gv Go.Gv.D Go.Gv.R Go.Gv.P Go.Lib
set_option maxRecDepth 100000
/-! Own work: groups, and pieces that are the same. -/
/-- own name for the loop body 0 of regex_groups -/
noncomputable def grpF (subs:List Pc) (fuel:Nat) (s17:(Int × Int)):Option ((Int × Int) ⊕ Int):=
 (if (decide (s17.2<((ap subs:Nat):Int))) then (Option.bind (idx subs s17.2) fun x22=>(Option.bind (regex_groups fuel ((Pc.un x22).1,(Pc.un x22).2.1,(Pc.un x22).2.2.1,(Pc.un x22).2.2.2.1,(Pc.un x22).2.2.2.2.1,(Pc.un x22).2.2.2.2.2.1,(Pc.un x22).2.2.2.2.2.2)) fun r41=>(some (.inl ((IntKind.i64.wrap (s17.1+r41)),(IntKind.i64.wrap (s17.2+1))))))) else (some (.inr (s17.1))))
/-- own name for the loop body 0 of ref4_GroupsOf -/
noncomputable def gofF (r7:List Pc) (fuel:Nat) (s25:(Int × Int)):Option ((Int × Int) ⊕ Int):=
 (if (decide (s25.2<((ap r7:Nat):Int))) then (Option.bind (Option.bind (idx r7 s25.2) fun x34=>(if ((Pc.un x34).1==7) then (Option.bind (idx r7 s25.2) fun x44=>(some ((decide ((Pc.un x44).2.1>0))))) else (some (false)))) fun (j32:Bool)=>(Option.bind (if j32 then (some ((IntKind.i64.wrap (s25.1+1)))) else (some (s25.1))) fun (j57:Int)=>(some (.inl (j57,(IntKind.i64.wrap (s25.2+1))))))) else (some (.inr (s25.1))))
def isG (q:Pc):Bool:=decide (q.un.1=7∧0<q.un.2.1)
def cnt:List Pc→Nat
 | []=>0
 | q::l=>(if isG q then 1 else 0)+cnt l
theorem cnt_app:∀ (a b:List Pc),cnt (a++b)=cnt a+cnt b
 | [],b=>by simp[cnt]
 | q::a,b=>by rw[List.cons_append,cnt,cnt,cnt_app a b];omega
theorem cnt_len:∀ (a:List Pc),cnt a≤a.length
 | []=>aD _
 | q::a=>by have:=cnt_len a;rw[cnt,ae];split<;>omega
mutual
theorem groups_p:∀ (p:Pc) (g g':Nat),chkL g (preP p)=some g'→sizeP p≤70→Tot (fun n=>regex_groups n p.un) (· =(cnt (preP p):Int))
 | .mk k lo hi no lz rs subs,g,g',h,hz=>by
   obtain ⟨g1,hn,hs⟩:=preL_node h
   rw[size_eq]at hz
   have hsl:=subs_len subs
   have hlo:k=7→lo=0∨1≤lo:=fun hk=>by
    rcases node_inv hn with ⟨rfl,_⟩ | ⟨hk',_⟩ | ⟨rfl,_⟩ | ⟨rfl,_⟩ | ⟨_,_,_,_,_,_,hg⟩ | ⟨rfl,_⟩ | ⟨rfl,_⟩ | ⟨rfl,_⟩ | ⟨rfl,_⟩ | ⟨rfl,_⟩
    all_goals first | omega | (rcases hg with ⟨h,_⟩ | ⟨h,_⟩<;>omega)
   have hcl:=cnt_len (preL subs)
   rw[preL_len]at hcl
   refine Tot.suc (Tot.eqf (fun n=>regex_groups.eq_2 ..) ?_)
   refine ad (P:=(· =((if isG (.mk k lo hi no lz rs subs) then 1 else 0:Nat):Int))) ?_ fun a e=>?_
   ·by_cases hk:k=7
    ·refine ak (beq_iff_eq.2 hk) (aa ?_)
     rcases hlo hk with h0 | h0
     ·have hG:isG (.mk k lo hi no lz rs subs)=false:=dff (p:=k=7∧0<lo) om
      rw[hG]
      show (if 1<lo then 1 else lo)=0
      rw[if_neg om,h0]
     ·have hG:isG (.mk k lo hi no lz rs subs)=true:=dtt (p:=k=7∧0<lo) om
      rw[hG]
      show (if 1<lo then 1 else lo)=1
      split<;>omega
    ·have hG:isG (.mk k lo hi no lz rs subs)=false:=dff (p:=k=7∧0<lo) (fun h=>hk h.1)
     rw[hG]
     exact ag (beq_eq_false_iff_ne.2 hk) (aa rfl)
   ·subst e
    have ih:=groups_l subs subs [] (if isG (.mk k lo hi no lz rs subs) then 1 else 0) g1 g' rfl hs om om (by split<;>omega)
    refine ad (LT.tot (F:=grpF subs) ih) fun a e=>aa ?_
    rw[e,pre_eq,cnt]
theorem groups_l:∀ (rest subs pre:List Pc) (acc g g':Nat),subs=pre++rest→chkL g (preL rest)=some g'→sizeL rest≤70→subs.length≤1000→acc+sizeL rest≤1000→
 LT (grpF subs) ((acc:Int),(pre.length:Int)) (· =((acc+cnt (preL rest):Nat):Int))
 | [],subs,pre,acc,g,g',e,_,_,_,_=>by
   refine LT.fin (Tot.alln fun n=>?_) (by rw[preL,cnt,Nat.add_zero])
   unfold grpF
   rw[if_neg]
   rw[e,aj,dff osm];decide
 | x::rest,subs,pre,acc,g,g',e,h,hz,hl,ha=>by
   rw[preL]at h ⊢
   obtain ⟨g1,h1,h2⟩:=chk_split h
   rw[sizeL]at hz
   rw[sizeL]at ha
   have hll:=hl
   rw[e,ac,ae]at hll
   have hc:=cnt_len (preP x)
   rw[pre_len]at hc
   have hT:=groups_p x g g1 h1 om
   have hstep:Tot (fun n=>grpF subs n ((acc:Int),(pre.length:Int))) (· = .inl (((acc+cnt (preP x):Nat):Int),((pre.length+1:Nat):Int))):=by
    unfold grpF
    refine ak (dtt (by simp only;rw[e,ac,ae];omega)) (ai (show idx subs (pre.length:Int)=some x by rw[e];exact get_mid pre x rest rfl) (ad hT fun a ea=>aa ?_))
    subst ea
    rw[i64_small (x:=(pre.length:Int)+1) om om,i64_small (x:=(acc:Int)+_) om om]
    rfl
   have hcr:=cnt_len (preL rest)
   rw[preL_len]at hcr
   have ih:=groups_l rest subs (pre++[x]) (acc+cnt (preP x)) g1 g' (by rw[e];simp) h2 om hl om
   rw[show (((pre++[x]).length:Nat):Int)=((pre.length+1:Nat):Int) by simp]at ih
   rw[cnt_app,← Nat.add_assoc]
   exact LT.step hstep ih
end
theorem gof_lt {l:List Pc} (hl:l.length≤1000):∀ (rest pre:List Pc) (acc:Nat),l=pre++rest→acc≤pre.length→LT (gofF l) ((acc:Int),(pre.length:Int)) (· =((acc+cnt rest:Nat):Int))
 | [],pre,acc,e,_=>by
   refine LT.fin (Tot.alln fun n=>?_) (by rw[cnt,Nat.add_zero])
   unfold gofF
   rw[if_neg]
   rw[e,aj,dff osm];decide
 | x::rest,pre,acc,e,ha=>by
   have hll:=hl
   rw[e,ac,ae]at hll
   have hix:idx l (pre.length:Int)=some x:=by rw[e];exact get_mid pre x rest rfl
   have hstep:Tot (fun n=>gofF l n ((acc:Int),(pre.length:Int))) (· = .inl (((acc+(if isG x then 1 else 0):Nat):Int),((pre.length+1:Nat):Int))):=by
    unfold gofF
    refine ak (dtt (by simp only;rw[e,ac,ae];omega)) ?_
    refine ad (P:=(· =isG x)) (ai hix ?_) fun a ea=>?_
    ·unfold isG
     by_cases hk:x.un.1=7
     ·refine ak (beq_iff_eq.2 hk) (ai hix (aa ?_))
      rw[am];simp[hk]
     ·refine ag (beq_eq_false_iff_ne.2 hk) (aa ?_)
      symm;exact dff fun h=>hk h.1
    ·subst ea
     rw[i64_small (x:=(pre.length:Int)+1) om om,i64_small (x:=(acc:Int)+1) om om]
     cases isG x with
     | true=>exact ad (P:=(· =(acc:Int)+1)) (ak rfl (aa rfl)) fun a ea=>by subst ea;exact aa rfl
     | false=>exact ad (P:=(· =(acc:Int))) (ag rfl (aa rfl)) fun a ea=>by subst ea;exact aa rfl
   have ih:=gof_lt hl rest (pre++[x]) (acc+(if isG x then 1 else 0)) (by rw[e];simp) (by rw[ac,aw];split<;>omega)
   rw[show (((pre++[x]).length:Nat):Int)=((pre.length+1:Nat):Int) by simp]at ih
   rw[cnt,← Nat.add_assoc]
   exact LT.step hstep ih
theorem GroupsOf_tot {p:Pc} (hb:BdL (preP p)) (hz:sizeP p≤60):Tot (fun n=>ref4_GroupsOf n p.un) (· =(cnt (preP p):Int)):=by
 unfold ref4_GroupsOf
 have hl:=pre_len p
 refine ad (pre_p p [] hb ddc) fun a e=>?_
 subst e
 rw[az,av om]
 refine ad (LT.tot (F:=gofF (preP p)) (gof_lt om (preP p) [] 0 rfl (aD _))) fun a e=>aa ?_
 rw[e,Nat.zero_add]
/-! what is well formed is small -/
end Go.Gv.X
namespace Go.Gv.X
open Go Go.Gv Go.Gv.D Go.Gv.R Go.Gv.P Go.Lib
set_option maxRecDepth 100000
/-! Own work: what the program's and the second reader's outer functions give. -/
def tl (p:Pc):Nat:=(enc (txt p)).length
def chkV (p:Pc):Int × Int:=match scanL 0 0 (preP p) with
 | .inl x=>(x.1,(x.2:Int))
 | .inr _=>if 200<tl p then (3, -1) else (0,0)
def okP (p:Pc):Prop:=∃ g',chkL 0 (preP p)=some g'∧sizeP p≤60∧tl p≤200
theorem chk_le9:∀ (l:List Pc) (g g':Nat),chkL g l=some g'→g≤9→g'≤9
 | [],g,g',h,hg=>by cases h;exact hg
 | q::l,g,g',h,hg=>by
   rw[chkL]at h
   cases hn:nodeC g q.un with
   | inl e=>rw[hn]at h;cases h
   | inr g1=>
     rw[hn]at h
     refine chk_le9 l g1 g' h ?_
     unfold nodeC at hn
     split at hn;cases hn
     split at hn;cases hn
     split at hn;cases hn
     split at hn
     ·split at hn<;>cases hn
      omega
     ·split at hn<;>cases hn
      exact hg
theorem scan_ok {p:Pc} {x:Nat × Nat} (h:scanL 0 0 (preP p)= .inr x):chkL 0 (preP p)=some x.2∧sizeP p≤60:=by
 obtain ⟨h1,h2,h3⟩:=(scan_chk _ 0 0 x.1 x.2 ddc).1 h
 rw[pre_len]at h2
 exact ⟨h1,om⟩
theorem ok_scan {p:Pc} {g':Nat} (h:chkL 0 (preP p)=some g') (hz:sizeP p≤60):scanL 0 0 (preP p)= .inr (sizeP p,g'):=
 (scan_chk _ 0 0 _ _ ddc).2 ⟨h,by rw[pre_len];omega,hz⟩
theorem chkV_ok {p:Pc} (h:okP p):chkV p=(0,0):=by
 obtain ⟨g',h1,h2,h3⟩:=h
 unfold chkV
 rw[ok_scan h1 h2]
 simp only
 rw[if_neg om]
theorem chkV_cases (p:Pc):(okP p∧chkV p=(0,0))∨(¬ okP p∧(chkV p).1≠0):=by
 cases hs:scanL 0 0 (preP p) with
 | inl x=>
   have hv:chkV p=(x.1,(x.2:Int)):=by unfold chkV;rw[hs]
   refine .inr ⟨fun ⟨g',h1,h2,_⟩=>?_,by rw[hv];exact (scan_err _ _ _ _ _ hs).1⟩
   rw[ok_scan h1 h2]at hs
   cases hs
 | inr x=>
   obtain ⟨h1,h2⟩:=scan_ok hs
   by_cases h3:tl p≤200
   ·exact .inl ⟨⟨x.2,h1,h2,h3⟩,chkV_ok ⟨x.2,h1,h2,h3⟩⟩
   ·have hv:chkV p=(3, -1):=by unfold chkV;rw[hs];simp only;rw[if_pos om]
    exact .inr ⟨fun ⟨_,_,_,h⟩=>h3 h,by rw[hv];simp⟩
theorem Check_tot {p:Pc} (hb:BdL (preP p)):Tot (fun n=>regex_Check n p.un) (· =chkV p):=by
 unfold regex_Check
 refine ad (look_p p 0 0 hb ddc (aD _)) fun r hr=>?_
 unfold lookQ at hr
 unfold chkV
 cases hs:scanL 0 0 (preP p) with
 | inl x=>
   rw[hs]at hr
   obtain ⟨h1,h2⟩:=hr
   obtain ⟨h3,h4⟩:=scan_err _ _ _ _ _ hs
   have h4:=h4 ddc
   refine ak (by rw[h1];simpa using h3) (ai (a:=(x.1,(x.2:Int))) ?_ (aa rfl))
   show some (r.1,IntKind.i64.wrap (r.2.1-1))=some (x.1,(x.2:Int))
   rw[h1,h2,i64_small om om]
   congr 2
   omega
 | inr x=>
   rw[hs]at hr
   have hr:r=(0,((x.1:Int),(x.2:Int))):=hr
   subst hr
   obtain ⟨h1,h2⟩:=scan_ok hs
   refine ag rfl (ad (text_p p 0 x.2 h1 om) fun a e=>?_)
   subst e
   rw[size_str]
   simp only
   by_cases h3:200<tl p
   ·rw[if_pos h3]
    exact ak (dtt (by unfold tl at h3;omega)) (aa rfl)
   ·rw[if_neg h3]
    exact ag (dff (by unfold tl at h3;omega)) (aa rfl)
theorem Fault_tot {p:Pc} (hb:BdL (preP p)):Tot (fun n=>ref4_PieceFault n p.un) (· =chkV p):=by
 unfold ref4_PieceFault
 refine ad (pre_p p [] hb ddc) fun a e=>?_
 subst e
 rw[az]
 have hl:=fau_lt (r14:=(preP p).take 61) (by rw[List.length_take];omega) (fun q hq=>hb q (List.mem_of_mem_take hq)) ((preP p).take 61) [] 0 rfl (aD _)
 refine ad (LT.tot (F:=fauF ((preP p).take 61)) hl) fun y hy=>?_
 unfold fauQ at hy
 rw[show ([]:List Pc).length=0 from rfl,show (61:Nat)=61-0 from rfl,scan_take _ 0 0 ddc]at hy
 unfold chkV
 cases hs:scanL 0 0 (preP p) with
 | inl x=>
   rw[hs]at hy
   have hy:y= .inr (x.1,(x.2:Int)):=hy
   subst hy
   exact aa rfl
 | inr x=>
   rw[hs]at hy
   have hy:y= .inl (0,0):=hy
   subst hy
   obtain ⟨h1,h2⟩:=scan_ok hs
   refine ad (ptext_p p 0 x.2 h1 om) fun a e=>?_
   subst e
   rw[size_str]
   simp only
   by_cases h3:200<tl p
   ·rw[if_pos h3]
    exact ak (dtt (by unfold tl at h3;omega)) (aa rfl)
   ·rw[if_neg h3]
    exact ag (dff (by unfold tl at h3;omega)) (aa rfl)
theorem Groups_ok {p:Pc} (hb:BdL (preP p)) (h:okP p):Tot (fun n=>regex_Groups n p.un) (· =((cnt (preP p):Int),((0:Int),(0:Int)))):=by
 obtain ⟨g',h1,h2,h3⟩:=id h
 unfold regex_Groups
 refine ad (Check_tot hb) fun a e=>?_
 subst e
 rw[chkV_ok h]
 refine ag rfl (ad (groups_p p 0 g' h1 om) fun a e=>?_)
 subst e
 exact aa rfl
end Go.Gv.X
