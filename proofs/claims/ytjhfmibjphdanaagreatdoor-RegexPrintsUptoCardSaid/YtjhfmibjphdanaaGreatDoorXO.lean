import Derived.Test.YtjhfmibjphdanaaGreatDoorXL
set_option linter.all false
open Bool renaming false_eq_true→aa,eq_iff_iff→ag,true_and→ai,and_eq_true→an
open Go.Gv.Tot renaming ret→ab,bindq→ac,if_→ak,it→al
open Int renaming reduceBEq→ad
open List renaming length_append→ae,length_cons→af,append_nil→aj,length→am
namespace Go.Gv.X
open Go Go.Gv Go.Gv.D Go.Gv.R Go.Gv.P Go.Lib
set_option maxRecDepth 100000
/-! Own work: the second reader does what the abstract one does. -/
end Go.Gv.X
namespace Go.Gv.X
open Go Go.Gv Go.Gv.D Go.Gv.R Go.Gv.P Go.Lib
set_option maxRecDepth 100000
/-! Own work: what is asked of one piece. -/
/-- own name for the loop body 0 of regex_ordered -/
noncomputable def ordF (l_0:List (Int × Int)) (fuel:Nat) (s4:Int):Option (Int ⊕ (Unit ⊕ Bool)):=
 (if (decide (s4<((am l_0:Nat):Int))) then (Option.bind (idx l_0 s4) fun x9=>(Option.bind (Option.bind (regex_scalar fuel x9.1) fun r28=>(if (!r28) then (some (true)) else (Option.bind (regex_scalar fuel x9.2) fun r45=>(if (!r45) then (some (true)) else (if (decide (x9.1>x9.2)) then (some (true)) else (if (decide (s4>0)) then (Option.bind (idx l_0 (IntKind.i64.wrap (s4-1))) fun x70=>(some ((decide (x9.1≤(IntKind.i64.wrap (x70.2+1))))))) else (some (false)))))))) fun (j22:Bool)=>(if j22 then (some (.inr (.inr (false)))) else (some (.inl (IntKind.i64.wrap (s4+1))))))) else (some (.inr (.inl ()))))
/-- own name for the loop body 0 of ref4_shaped -/
noncomputable def shpF (l_0:List (Int × Int)) (fuel:Nat) (s103:(Bool × Int)):Option ((Bool × Int) ⊕ Bool):=
 (if (decide (s103.2<((am l_0:Nat):Int))) then (Option.bind (idx l_0 s103.2) fun x114=>(Option.bind (idx l_0 s103.2) fun x118=>(Option.bind (if s103.1 then (Option.bind (ref4_Scalar fuel x114.1) fun r124=>(if r124 then (Option.bind (ref4_Scalar fuel x118.2) fun r131=>(if r131 then (if (decide (x114.1≤x118.2)) then (if (s103.2==0) then (some (true)) else (Option.bind (idx l_0 (IntKind.i64.wrap (s103.2-1))) fun x147=>(Option.bind (some (decide ((IntKind.i64.wrap (x114.1-x147.2))≥2))) fun n151=>(some (n151))))) else (some (false))) else (some (false)))) else (some (false)))) else (some (false))) fun (j121:Bool)=>(some (.inl (j121,(IntKind.i64.wrap (s103.2+1)))))))) else (some (.inr (s103.1))))
/-- own name for the loop body 0 of slices_Index_sint_int -/
noncomputable def idxF (s_0:List Int) (v_1:Int) (s4:Int):Option (Int ⊕ (Unit ⊕ Int)):=
 (if (decide (s4<((am s_0:Nat):Int))) then (Option.bind (idx s_0 s4) fun x9=>(if (v_1==x9) then (some (.inr (.inr (s4)))) else (some (.inl (IntKind.i64.wrap (s4+1)))))) else (some (.inr (.inl ()))))
/-- own name for the loop body 0 of api_Piece_1_1_1 -/
noncomputable def kinF (s_0:List Pc) (f_1c0:List Int) (fuel:Nat) (s4:Int):Option (Int ⊕ (Unit ⊕ Int)):=
 (if (decide (s4<((am s_0:Nat):Int))) then (Option.bind (idx s_0 s4) fun x10=>(Option.bind (regex_formed_1_1 fuel ((Pc.un x10).1,(Pc.un x10).2.1,(Pc.un x10).2.2.1,(Pc.un x10).2.2.2.1,(Pc.un x10).2.2.2.2.1,(Pc.un x10).2.2.2.2.2.1,(Pc.un x10).2.2.2.2.2.2) f_1c0) fun r19=>(if r19 then (some (.inr (.inr (s4)))) else (some (.inl (IntKind.i64.wrap (s4+1))))))) else (some (.inr (.inl ()))))
/-- own name for the loop body 0 of ref4_kindsAmong -/
noncomputable def ka1F (l_0:List Pc) (kinds_1:List Int) (fuel:Nat) (s4:Int):Option (Int ⊕ (Unit ⊕ Bool)):=
 (if (decide (s4<((am l_0:Nat):Int))) then (Option.bind (loopN (fun (s12:Int)=>(if (decide (s12<((am kinds_1:Nat):Int))) then (Option.bind (idx l_0 s4) fun x19=>(Option.bind (idx kinds_1 s12) fun x22=>(if ((Pc.un x19).1==x22) then (some (.inr (.inr (.inr (.inr (true)))))) else (some (.inl (IntKind.i64.wrap (s12+1))))))) else (some (.inr (.inl ()))))) fuel 0) (cont fun (s10:Unit)=>(some (.inl (IntKind.i64.wrap (s4+1)))))) else (some (.inr (.inl ()))))
/-- own name for the loop body 1 of ref4_kindsAmong -/
noncomputable def ka2F (l_0:List Pc) (kinds_1:List Int) (s4:Int) (s12:Int):Option (Int ⊕ (Unit ⊕ (Int ⊕ (Unit ⊕ Bool)))):=
 (if (decide (s12<((am kinds_1:Nat):Int))) then (Option.bind (idx l_0 s4) fun x19=>(Option.bind (idx kinds_1 s12) fun x22=>(if ((Pc.un x19).1==x22) then (some (.inr (.inr (.inr (.inr (true)))))) else (some (.inl (IntKind.i64.wrap (s12+1))))))) else (some (.inr (.inl ()))))
theorem scalar_eq (n:Nat) (c:Int):regex_scalar n c=some (scal c):=by
 unfold regex_scalar utf8_ValidRune scal
 by_cases h1:c≥0
 ·rw[if_pos (dtt h1)]
  by_cases h2:c≤1114111
  ·rw[if_pos (dtt h2)]
   have hw:IntKind.i32.wrap c=c:=by simp[IntKind.wrap,IntKind.signed,IntKind.bits];omega
   rw[hw]
   by_cases h3:c<55296
   ·rw[if_pos oss,dtt om];rfl
   ·rw[if_neg oss]
    by_cases h4:57343<c
    ·rw[if_pos oss,dtt om];rfl
    ·rw[if_neg oss,dff om];rfl
  ·rw[if_neg (by simpa using h2),dff om];rfl
 ·rw[if_neg (by simpa using h1),dff om];rfl
theorem Scalar_eq (n:Nat) (c:Int):ref4_Scalar n c=some (scal c):=by
 unfold ref4_Scalar scal
 congr 1
 rw[ag]
 simp only[ge_iff_le,Bool.ite_eq_true_distrib,Bool.or_eq_true,an,decide_eq_true_eq]
 split<;>omega
def nxt:Option Int→Int→Bool
 | none,_=>true
 | some h,lo=>decide (h+1<lo)
def ordT:List (Int × Int)→Option Int→Bool
 | [],_=>true
 | x::r,prev=>(scal x.1&&(scal x.2&&(decide (x.1≤x.2)&&nxt prev x.1)))&&ordT r (some x.2)
def ordS (prev:Option Int) (l:List (Int × Int)):Bool:=ordT l prev
theorem ordS_nil (prev:Option Int):ordS prev []=true:=rfl
theorem ordS_cons (prev:Option Int) (x:Int × Int) (r:List (Int × Int)):ordS prev (x::r)=((scal x.1&&(scal x.2&&(decide (x.1≤x.2)&&nxt prev x.1)))&&ordS (some x.2) r):=rfl
theorem ordS_some (h:Int) (y:Int × Int) (r:List (Int × Int)):ordS (some h) (y::r)=(decide (h+1<y.1)&&ordS none (y::r)):=by
 rw[ordS_cons,ordS_cons]
 show ((scal y.1&&(scal y.2&&(decide (y.1≤y.2)&&decide (h+1<y.1))))&&_)=(decide (h+1<y.1)&&((scal y.1&&(scal y.2&&(decide (y.1≤y.2)&&true)))&&_))
 generalize ordS (some y.2) r=z
 generalize decide (h+1<y.1)=u
 cases scal y.1<;>cases scal y.2<;>cases decide (y.1≤y.2)<;>cases u<;>cases z<;>rfl
theorem ordS_eq:∀ l:List (Int × Int),ordS none l=ordR l
 | []=>rfl
 | [x]=>by rw[ordS_cons,ordS_nil,ordR];simp[nxt]
 | x::y::r=>by
   have ih:=ordS_eq (y::r)
   rw[ordR,← ih,← ordS_some]
   rw[ordS_cons]
   simp only[nxt,Bool.and_true,Bool.and_assoc]
theorem scal_rng {c:Int} (h:scal c=true):0≤c∧c≤1114111:=by
 unfold scal at h
 simp only[decide_eq_true_eq]at h
 omega
/-- the high end before a place -/
def prevH (pre:List (Int × Int)) (prev:Option Int):Prop:=match prev with
 | none=>pre=[]
 | some h=>(∃ p' y,pre=p'++[y]∧y.2=h)∧0≤h∧h≤1114111
theorem prev_snoc {pre:List (Int × Int)} {x:Int × Int} (h:scal x.2=true):prevH (pre++[x]) (some x.2):=⟨⟨pre,x,rfl,rfl⟩,scal_rng h⟩
theorem ord_lt {l:List (Int × Int)} (hl:l.length≤4000000000000000000):∀ (rest pre:List (Int × Int)) (prev:Option Int),l=pre++rest→prevH pre prev→LT (ordF l) (pre.length:Int) (· =if ordS prev rest then .inl () else .inr false)
 | [],pre,prev,e,_=>by
   refine LT.fin (r:=.inl ()) (Tot.alln fun n=>?_) (by rw[ordS_nil,if_pos rfl])
   unfold ordF
   rw[if_neg]
   rw[e,aj,dff om];decide
 | x::rest,pre,prev,e,hp=>by
   have hlen:=hl
   rw[e,ae,af]at hlen
   have hstep:∀ n,ordF l n (pre.length:Int)=if (scal x.1&&(scal x.2&&(decide (x.1≤x.2)&&nxt prev x.1)))=true then some (.inl ((pre.length+1:Nat):Int)) else some (.inr (.inr false)):=fun n=>by
    unfold ordF
    rw[if_pos (dtt (by rw[e,ae,af];omega))]
    rw[show idx l (pre.length:Int)=some x by rw[e];exact get_mid pre x rest rfl]
    simp only[Option.bind_some]
    rw[scalar_eq,i64_small (x:=(pre.length:Int)+1) om om]
    simp only[Option.bind_some]
    cases h1:scal x.1 with
    | false=>rfl
    | true=>
    simp only[Bool.not_true,aa,if_false,ai]
    rw[scalar_eq]
    simp only[Option.bind_some]
    cases h2:scal x.2 with
    | false=>rfl
    | true=>
    simp only[Bool.not_true,aa,if_false,ai]
    by_cases h3:x.1≤x.2
    ·rw[if_neg (by rw[dff om];decide),dtt h3,ai]
     cases prev with
     | none=>
       have hp:pre=[]:=hp
       subst hp
       rfl
     | some h=>
       obtain ⟨⟨p',y,rfl,rfl⟩,h4,h5⟩:=hp
       rw[if_pos (dtt (by simp))]
       have hw:IntKind.i64.wrap ((((p'++[y]).length:Nat):Int)-1)=(p'.length:Int):=by
        rw[ae,List.length_singleton]at hlen ⊢
        rw[i64_small om om];omega
       rw[hw,show idx l (p'.length:Int)=some y by rw[e,List.append_assoc];exact get_mid p' y _ rfl]
       simp only[Option.bind_some]
       rw[i64_small (x:=y.2+1) om om]
       by_cases h6:y.2+1<x.1
       ·rw[dff om,show nxt (some y.2) x.1=true from dtt h6];rfl
       ·rw[dtt om,show nxt (some y.2) x.1=false from dff h6];rfl
    ·rw[if_pos (dtt om),dff h3]
     rfl
   rw[ordS_cons]
   generalize hc:(scal x.1&&(scal x.2&&(decide (x.1≤x.2)&&nxt prev x.1)))=c at hstep ⊢
   cases c with
   | false=>
     exact LT.fin (r:=.inr false) (Tot.alln fun n=>by rw[hstep];rfl) rfl
   | true=>
     have h2:scal x.2=true:=by simp only[an]at hc;exact hc.2.1
     have ih:=ord_lt hl rest (pre++[x]) (some x.2) (by rw[e];simp) (prev_snoc h2)
     rw[show (((pre++[x]).length:Nat):Int)=((pre.length+1:Nat):Int) by simp]at ih
     rw[ai]
     exact LT.step (Tot.alln fun n=>by rw[hstep];rfl) ih
theorem ordered_tot {l:List (Int × Int)} (hl:l.length≤4000000000000000000):Tot (fun n=>regex_ordered n l) (· =(ordR l&& !l.isEmpty)):=by
 unfold regex_ordered
 refine ac (LT.tot (F:=ordF l) (ord_lt hl l [] none rfl rfl)) fun a e=>?_
 subst e
 rw[ordS_eq]
 cases ordR l with
 | false=>exact ab rfl
 | true=>
   refine ab ?_
   cases l with
   | nil=>rfl
   | cons x l=>simp
theorem shp_lt {l:List (Int × Int)} (hl:l.length≤4000000000000000000):∀ (rest pre:List (Int × Int)) (prev:Option Int) (f:Bool),l=pre++rest→(f=true→prevH pre prev)→LT (shpF l) (f,(pre.length:Int)) (· =(f&&ordS prev rest))
 | [],pre,prev,f,e,_=>by
   refine LT.fin (Tot.alln fun n=>?_) (by rw[ordS_nil,Bool.and_true])
   unfold shpF
   rw[if_neg]
   rw[e,aj,dff om];decide
 | x::rest,pre,prev,f,e,hp=>by
   have hlen:=hl
   rw[e,ae,af]at hlen
   have hstep:∀ n,shpF l n (f,(pre.length:Int))=some (.inl (f&&(scal x.1&&(scal x.2&&(decide (x.1≤x.2)&&nxt prev x.1))),((pre.length+1:Nat):Int))):=fun n=>by
    unfold shpF
    rw[if_pos (dtt (by simp only;rw[e,ae,af];omega))]
    simp only
    rw[show idx l (pre.length:Int)=some x by rw[e];exact get_mid pre x rest rfl]
    simp only[Option.bind_some]
    rw[i64_small (x:=(pre.length:Int)+1) om om]
    cases f with
    | false=>rfl
    | true=>
    have hp:=hp rfl
    simp only[if_true,ai]
    rw[Scalar_eq]
    simp only[Option.bind_some]
    cases h1:scal x.1 with
    | false=>rfl
    | true=>
    simp only[if_true,ai]
    rw[Scalar_eq]
    simp only[Option.bind_some]
    cases h2:scal x.2 with
    | false=>rfl
    | true=>
    simp only[if_true,ai]
    by_cases h3:x.1≤x.2
    ·rw[if_pos (dtt h3),dtt h3,ai]
     cases prev with
     | none=>
       have hp:pre=[]:=hp
       subst hp
       rfl
     | some h=>
       obtain ⟨⟨p',y,rfl,rfl⟩,h4,h5⟩:=hp
       have hx:=scal_rng h1
       rw[if_neg oss]
       have hw:IntKind.i64.wrap ((((p'++[y]).length:Nat):Int)-1)=(p'.length:Int):=by
        rw[ae,List.length_singleton]at hlen ⊢
        rw[i64_small om om];omega
       rw[hw,show idx l (p'.length:Int)=some y by rw[e,List.append_assoc];exact get_mid p' y _ rfl]
       simp only[Option.bind_some]
       rw[i64_small (x:=x.1-y.2) om om]
       have:decide (x.1-y.2≥2)=decide (y.2+1<x.1):=by rw[ag];simp only[decide_eq_true_eq];omega
       rw[this];rfl
    ·rw[if_neg (by rw[dff h3];decide),dff h3]
     rfl
   rw[ordS_cons]
   generalize hc:(scal x.1&&(scal x.2&&(decide (x.1≤x.2)&&nxt prev x.1)))=c at hstep ⊢
   have h2:c=true→scal x.2=true:=fun hct=>by rw[hct]at hc;simp only[an]at hc;exact hc.2.1
   have ih:=shp_lt hl rest (pre++[x]) (some x.2) (f&&c) (by rw[e];simp) (fun h=>prev_snoc (h2 (by simp only[an]at h;exact h.2)))
   rw[show (((pre++[x]).length:Nat):Int)=((pre.length+1:Nat):Int) by simp]at ih
   rw[← Bool.and_assoc]
   exact LT.step (Tot.alln fun n=>by rw[hstep]) ih
theorem contains_lt {ks:List Int} (hl:ks.length≤1000) (v:Int):∀ (rest pre:List Int),ks=pre++rest→LT (fun _=>idxF ks v) (pre.length:Int) (fun y=>(rest.contains v=true∧∃ i:Int,0≤i∧y= .inr i)∨(rest.contains v=false∧y= .inl ()))
 | [],pre,e=>by
   refine LT.fin (Tot.alln fun n=>?_) (.inr ⟨rfl,rfl⟩)
   unfold idxF
   rw[if_neg]
   rw[e,aj,dff om];decide
 | x::rest,pre,e=>by
   have hlen:=hl
   rw[e,ae,af]at hlen
   have hstep:idxF ks v (pre.length:Int)=if v=x then some (.inr (.inr (pre.length:Int))) else some (.inl ((pre.length+1:Nat):Int)):=by
    unfold idxF
    rw[if_pos (dtt (by rw[e,ae,af];omega))]
    rw[show idx ks (pre.length:Int)=some x by rw[e];exact get_mid pre x rest rfl]
    simp only[Option.bind_some]
    rw[i64_small (x:=(pre.length:Int)+1) om om]
    by_cases h:v=x
    ·rw[if_pos h,if_pos (beq_iff_eq.2 h)]
    ·rw[if_neg h,if_neg (by simpa using h)];rfl
   by_cases h:v=x
   ·exact LT.fin (Tot.alln fun n=>by rw[hstep,if_pos h]) (.inl ⟨by simp[h],(pre.length:Int),om,rfl⟩)
   ·have ih:=contains_lt hl v rest (pre++[x]) (by rw[e];simp)
    rw[show (((pre++[x]).length:Nat):Int)=((pre.length+1:Nat):Int) by simp]at ih
    have hc:(x::rest).contains v=rest.contains v:=by rw[List.contains_cons];simp[h]
    rw[hc]
    exact LT.step (Tot.alln fun n=>by rw[hstep,if_neg h]) ih
theorem contains_tot {ks:List Int} (hl:ks.length≤1000) (v:Int):Tot (fun n=>slices_Contains_sint_int n ks v) (· =ks.contains v):=by
 unfold slices_Contains_sint_int slices_Index_sint_int
 refine ac (P:=fun r=>decide (r≥0)=ks.contains v) (ac (LT.tot (F:=fun _=>idxF ks v) (contains_lt hl v ks [] rfl)) fun y hy=>?_) fun a e=>ab e
 rcases hy with ⟨h1,i,h2,rfl⟩ | ⟨h1,rfl⟩
 ·exact ab (by rw[h1];exact dtt h2)
 ·exact ab (by rw[h1];rfl)
theorem kin_cons (ks:List Int) (p:Pc) (l:List Pc):kin ks (p::l)=(ks.contains (Pc.kind p)||kin ks l):=by unfold kin;rw[List.any_cons]
theorem kind_un (p:Pc):(Pc.un p).1=Pc.kind p:=by cases p;rfl
theorem kin_lt {ks:List Int} (hk:ks.length≤1000) {l:List Pc} (hl:l.length≤4000000000000000000):∀ (rest pre:List Pc),l=pre++rest→LT (kinF l ks) (pre.length:Int) (fun y=>(kin ks rest=true∧∃ i:Int,0≤i∧y= .inr i)∨(kin ks rest=false∧y= .inl ()))
 | [],pre,e=>by
   refine LT.fin (Tot.alln fun n=>?_) (.inr ⟨rfl,rfl⟩)
   unfold kinF
   rw[if_neg]
   rw[e,aj,dff om];decide
 | x::rest,pre,e=>by
   have hlen:=hl
   rw[e,ae,af]at hlen
   have hstep:Tot (fun n=>kinF l ks n (pre.length:Int)) (· =if ks.contains (Pc.kind x)=true then .inr (.inr (pre.length:Int)) else .inl ((pre.length+1:Nat):Int)):=by
    unfold kinF
    refine al (dtt (by rw[e,ae,af];omega)) ?_
    refine Tot.bind0 (show idx l (pre.length:Int)=some x by rw[e];exact get_mid pre x rest rfl) ?_
    refine ac (P:=(· =ks.contains (Pc.kind x))) ?_ fun a ea=>?_
    ·unfold regex_formed_1_1
     exact ac (contains_tot hk (Pc.un x).1) fun a ea=>ab (by rw[ea,kind_un])
    ·subst ea
     rw[i64_small (x:=(pre.length:Int)+1) om om]
     cases ks.contains (Pc.kind x) with
     | true=>exact ab rfl
     | false=>exact ab rfl
   rw[kin_cons]
   cases hc:ks.contains (Pc.kind x) with
   | true=>exact LT.fin (hstep.mono fun a ea=>by rw[ea,hc,if_pos rfl]) (.inl ⟨rfl,(pre.length:Int),om,rfl⟩)
   | false=>
     have ih:=kin_lt hk hl rest (pre++[x]) (by rw[e];simp)
     rw[show (((pre++[x]).length:Nat):Int)=((pre.length+1:Nat):Int) by simp]at ih
     rw[Bool.false_or]
     exact LT.step (hstep.mono fun a ea=>by rw[ea,hc,if_neg ddc]) ih
theorem formed1_tot {ks:List Int} (hk:ks.length≤1000) (x:PcT) (hl:x.2.2.2.2.2.2.length≤4000000000000000000):Tot (fun n=>regex_formed_1 n ks x) (· = !kin ks x.2.2.2.2.2.2):=by
 unfold regex_formed_1 api_Piece_1_1 api_Piece_1_1_1
 refine ac (P:=fun r=>r=kin ks x.2.2.2.2.2.2) (ac (P:=fun r=>decide (r≥0)=kin ks x.2.2.2.2.2.2) (ac (LT.tot (F:=kinF x.2.2.2.2.2.2 ks) (kin_lt hk hl _ [] rfl)) fun y hy=>?_) fun a e=>ab e) fun a e=>ab (by rw[e])
 rcases hy with ⟨h1,i,h2,rfl⟩ | ⟨h1,rfl⟩
 ·exact ab (by rw[h1];exact dtt h2)
 ·exact ab (by rw[h1];rfl)
theorem ka2_lt {ks:List Int} (hk:ks.length≤1000) {l:List Pc} {i:Int} {x:Pc} (hx:idx l i=some x):∀ (rest pre:List Int),ks=pre++rest→LT (fun _=>ka2F l ks i) (pre.length:Int) (· =if rest.contains (Pc.kind x) then .inr (.inr (.inr true)) else .inl ())
 | [],pre,e=>by
   refine LT.fin (Tot.alln fun n=>?_) rfl
   unfold ka2F
   rw[if_neg]
   ·rfl
   rw[e,aj,dff om];decide
 | k::rest,pre,e=>by
   have hlen:=hk
   rw[e,ae,af]at hlen
   have hstep:ka2F l ks i (pre.length:Int)=if Pc.kind x=k then some (.inr (.inr (.inr (.inr true)))) else some (.inl ((pre.length+1:Nat):Int)):=by
    unfold ka2F
    rw[if_pos (dtt (by rw[e,ae,af];omega)),hx,show idx ks (pre.length:Int)=some k by rw[e];exact get_mid pre k rest rfl]
    simp only[Option.bind_some]
    rw[i64_small (x:=(pre.length:Int)+1) om om,kind_un]
    by_cases h:Pc.kind x=k
    ·rw[if_pos h,if_pos (beq_iff_eq.2 h)]
    ·rw[if_neg h,if_neg (by simpa using h)];rfl
   by_cases h:Pc.kind x=k
   ·refine LT.fin (Tot.alln fun n=>by rw[hstep,if_pos h]) ?_
    rw[if_pos (by simp[h])]
   ·have ih:=ka2_lt hk hx rest (pre++[k]) (by rw[e];simp)
    rw[show (((pre++[k]).length:Nat):Int)=((pre.length+1:Nat):Int) by simp]at ih
    have hc:(k::rest).contains (Pc.kind x)=rest.contains (Pc.kind x):=by rw[List.contains_cons];simp[h]
    rw[hc]
    exact LT.step (Tot.alln fun n=>by rw[hstep,if_neg h]) ih
theorem ka1_lt {ks:List Int} (hk:ks.length≤1000) {l:List Pc} (hl:l.length≤4000000000000000000):∀ (rest pre:List Pc),l=pre++rest→LT (ka1F l ks) (pre.length:Int) (· =if kin ks rest then .inr true else .inl ())
 | [],pre,e=>by
   refine LT.fin (r:=.inl ()) (Tot.alln fun n=>?_) rfl
   unfold ka1F
   rw[if_neg]
   rw[e,aj,dff om];decide
 | x::rest,pre,e=>by
   have hlen:=hl
   rw[e,ae,af]at hlen
   have hstep:Tot (fun n=>ka1F l ks n (pre.length:Int)) (· =if ks.contains (Pc.kind x)=true then .inr (.inr true) else .inl ((pre.length+1:Nat):Int)):=by
    unfold ka1F
    refine al (dtt (by rw[e,ae,af];omega)) ?_
    refine ac (LT.tot (F:=fun _=>ka2F l ks (pre.length:Int)) (ka2_lt hk (show idx l (pre.length:Int)=some x by rw[e];exact get_mid pre x rest rfl) ks [] rfl)) fun a ea=>?_
    subst ea
    rw[i64_small (x:=(pre.length:Int)+1) om om]
    cases ks.contains (Pc.kind x) with
    | true=>exact ab rfl
    | false=>exact ab rfl
   rw[kin_cons]
   cases hc:ks.contains (Pc.kind x) with
   | true=>exact LT.fin (hstep.mono fun a ea=>by rw[ea,hc,if_pos rfl]) (by rw[Bool.true_or,if_pos rfl])
   | false=>
     have ih:=ka1_lt hk hl rest (pre++[x]) (by rw[e];simp)
     rw[show (((pre++[x]).length:Nat):Int)=((pre.length+1:Nat):Int) by simp]at ih
     rw[Bool.false_or]
     exact LT.step (hstep.mono fun a ea=>by rw[ea,hc,if_neg ddc]) ih
theorem among_tot {ks:List Int} (hk:ks.length≤1000) {l:List Pc} (hl:l.length≤4000000000000000000):Tot (fun n=>ref4_kindsAmong n l ks) (· =kin ks l):=by
 unfold ref4_kindsAmong
 refine ac (LT.tot (F:=ka1F l ks) (ka1_lt hk hl l [] rfl)) fun a e=>?_
 subst e
 cases kin ks l with
 | true=>exact ab rfl
 | false=>exact ab rfl
end Go.Gv.X
namespace Go.Gv.X
open Go Go.Gv Go.Gv.D Go.Gv.R Go.Gv.P Go.Lib
set_option maxRecDepth 100000
/-! Own work: what is asked of one piece (2). -/
/-- lists that a machine can hold -/
def BigL:Nat:=4000000000000000000
theorem one_eq {l:List Pc}:(((l.length:Nat):Int)==1)=decide (l.length=1):=by rw[ag];simp;omega
theorem nil_eq {α:Type} {l:List α}:(((l.length:Nat):Int)==0)=l.isEmpty:=by cases l<;>simp;omega
theorem flat_tot {x:PcT} (h:1≤x.1∧x.1≤12):Tot (fun n=>regex_flat n x) (· =flatB x):=by
 obtain ⟨k,lo,hi,no,lz,rs,subs⟩:=x
 simp only at h
 refine Tot.alln fun n=>?_
 have e:∀ a:Int,(a==0)=decide (a=0):=fun a=>by rw[ag];simp
 obtain rfl | rfl | rfl | rfl | rfl | rfl | rfl | rfl | rfl | rfl | rfl | rfl:k=1∨k=2∨k=3∨k=4∨k=5∨k=6∨k=7∨k=8∨k=9∨k=10∨k=11∨k=12:=by omega
 all_goals
  unfold regex_flat flatB
  simp only[nil_eq]
  simp only[e]
  generalize decide (lo=0)=a
  generalize decide (hi=0)=b
  generalize rs.isEmpty=c
  cases a<;>cases b<;>cases no<;>cases lz<;>cases c<;>rfl
theorem formed_tot {x:PcT} (h:1≤x.1∧x.1≤12) (h1:x.2.2.2.2.2.1.length≤BigL) (h2:x.2.2.2.2.2.2.length≤BigL):Tot (fun n=>regex_formed n x) (· =formedB x):=by
 obtain ⟨k,lo,hi,no,lz,rs,subs⟩:=x
 simp only at h h1 h2
 unfold regex_formed
 refine Tot.some_bind ?_
 obtain rfl | rfl | rfl | rfl | rfl | rfl | rfl | rfl | rfl | rfl | rfl | rfl:k=1∨k=2∨k=3∨k=4∨k=5∨k=6∨k=7∨k=8∨k=9∨k=10∨k=11∨k=12:=by omega
 ·simp only[ad,aa,if_false,if_true,Option.bind_some]
  show Tot _ (· =(subs.isEmpty&&scal lo))
  refine ac (P:=(· =(subs.isEmpty&&scal lo))) ?_ fun a e=>ab e
  rw[nil_eq]
  cases subs.isEmpty with
  | true=>exact al rfl (ac (Tot.alln fun n=>scalar_eq n lo) fun a e=>ab e)
  | false=>exact ak rfl (ab rfl)
 ·simp only[ad,aa,if_false,if_true,Option.bind_some]
  exact ab nil_eq
 ·simp only[ad,aa,if_false,if_true,Option.bind_some]
  show Tot _ (· =(subs.isEmpty&&(ordR rs&& !rs.isEmpty)))
  refine ac (P:=(· =(subs.isEmpty&&(ordR rs&& !rs.isEmpty)))) ?_ fun a e=>ab e
  rw[nil_eq]
  cases subs.isEmpty with
  | true=>exact al rfl (ac (ordered_tot h1) fun a e=>ab e)
  | false=>exact ak rfl (ab rfl)
 ·simp only[ad,aa,if_false,if_true,Option.bind_some]
  exact ab nil_eq
 ·simp only[ad,aa,if_false,if_true,Option.bind_some]
  exact ab nil_eq
 ·simp only[ad,aa,if_false,if_true,Option.bind_some]
  exact ab nil_eq
 ·simp only[ad,aa,if_false,if_true,Option.bind_some]
  exact ab one_eq
 ·simp only[ad,aa,if_false,if_true,Option.bind_some]
  show Tot _ (· =(decide (subs.length≠1)&& !kin [8,9] subs))
  refine ac (P:=(· =(decide (subs.length≠1)&& !kin [8,9] subs))) ?_ fun a e=>ab e
  by_cases hl:subs.length=1
  ·rw[dff (not_not_intro hl)]
   exact ak (by simp[hl]) (ab rfl)
  ·rw[dtt hl]
   exact al oss (ac (formed1_tot ddc (8,lo,hi,no,lz,rs,subs) h2) fun a e=>ab e)
 ·simp only[ad,aa,if_false,if_true,Option.bind_some]
  show Tot _ (· =(decide (2≤subs.length)&& !kin [9] subs))
  refine ac (P:=(· =(decide (2≤subs.length)&& !kin [9] subs))) ?_ fun a e=>ab e
  by_cases hl:2≤subs.length
  ·rw[dtt hl]
   exact al (dtt om) (ac (formed1_tot ddc (9,lo,hi,no,lz,rs,subs) h2) fun a e=>ab e)
  ·rw[dff hl]
   exact ak (dff om) (ab rfl)
 ·simp only[ad,aa,if_false,if_true,Option.bind_some]
  show Tot _ (· =(decide (subs.length=1)&& !kin [8,9,10,4,5,6,11] subs))
  refine ac (P:=(· =(decide (subs.length=1)&& !kin [8,9,10,4,5,6,11] subs))) ?_ fun a e=>ab e
  rw[one_eq]
  by_cases hl:subs.length=1
  ·rw[dtt hl]
   exact al rfl (ac (formed1_tot ddc (10,lo,hi,no,lz,rs,subs) h2) fun a e=>ab e)
  ·rw[dff hl]
   exact ak rfl (ab rfl)
 ·simp only[ad,aa,if_false,if_true,Option.bind_some]
  exact ab one_eq
 ·simp only[ad,aa,if_false,if_true,Option.bind_some]
  show Tot _ (· =(subs.isEmpty&&decide (1≤lo∧lo≤9)))
  refine ac (P:=(· =(subs.isEmpty&&decide (1≤lo∧lo≤9)))) ?_ fun a e=>ab e
  rw[nil_eq]
  cases subs.isEmpty with
  | true=>
    refine al rfl ?_
    by_cases h9:1≤lo
    ·refine al (dtt h9) (ab ?_)
     rw[ai,ag];simp[h9]
    ·refine ak (dff h9) (ab ?_)
     rw[ai,dff (fun h=>h9 h.1)]
  | false=>exact ak rfl (ab rfl)
theorem shaped_tot {x:PcT} (h:1≤x.1∧x.1≤12) (h1:x.2.2.2.2.2.1.length≤BigL) (h2:x.2.2.2.2.2.2.length≤BigL):Tot (fun n=>ref4_shaped n x) (· =(flatB x&&formedB x)):=by
 obtain ⟨k,lo,hi,no,lz,rs,subs⟩:=x
 simp only at h h1 h2
 unfold ref4_shaped
 refine Tot.some_bind ?_
 have fin:∀ (f:Bool) (lo' hi':Int) (no' lz':Bool) (b:Bool),(f&&(decide (lo=lo')&&(decide (hi=hi')&&((no==no')&&((lz==lz')&&(decide (k=3)||rs.isEmpty))))))=b→
  Tot (fun n=>(if f=true then (if (lo==lo')=true then (if (hi==hi')=true then (if (no==no')=true then (if (lz==lz')=true then (if (k==3)=true then some true else (some (((rs.length:Nat):Int)==0)).bind fun n379=>some n379) else some false) else some false) else some false) else some false) else some false).bind fun j371=>some j371) (· =b):=fun f lo' hi' no' lz' b hb=>by
  refine Tot.alln fun n=>?_
  rw[← hb]
  rw[nil_eq,show (lo==lo')=decide (lo=lo') by rw[ag];simp,show (hi==hi')=decide (hi=hi') by rw[ag];simp,show (k==3)=decide (k=3) by rw[ag];simp]
  generalize decide (lo=lo')=a
  generalize decide (hi=hi')=a2
  generalize (no==no')=a3
  generalize (lz==lz')=a4
  generalize decide (k=3)=a5
  generalize rs.isEmpty=a6
  cases f<;>cases a<;>cases a2<;>cases a3<;>cases a4<;>cases a5<;>cases a6<;>rfl
 obtain rfl | rfl | rfl | rfl | rfl | rfl | rfl | rfl | rfl | rfl | rfl | rfl:k=1∨k=2∨k=3∨k=4∨k=5∨k=6∨k=7∨k=8∨k=9∨k=10∨k=11∨k=12:=by omega
 ·refine ac (P:=(· =((subs.isEmpty&&scal lo),((1:Int),(lo:Int),(0:Int),false,false,([]:List (Int × Int)),([]:List Pc))))) ?_ fun a e=>?_
  ·simp only[ad,aa,if_false,if_true,Option.bind_some]
   rw[nil_eq]
   cases subs.isEmpty with
   | true=>exact al rfl (ac (Tot.alln fun n=>Scalar_eq n lo) fun a e=>ab (by rw[e];rfl))
   | false=>exact ak rfl (ab rfl)
  ·subst e
   refine fin (subs.isEmpty&&scal lo) lo 0 false false _ ?_
   rw[show formedB (1,lo,hi,no,lz,rs,subs)=(subs.isEmpty&&scal lo) from rfl]
   unfold flatB
   generalize (subs.isEmpty&&scal lo)=ff
   simp only[decide_true]
   generalize decide (lo=0)=a
   generalize decide (hi=0)=b
   generalize rs.isEmpty=c
   cases a<;>cases b<;>cases no<;>cases lz<;>cases c<;>cases ff<;>rfl
 ·refine ac (P:=(· =(subs.isEmpty,((2:Int),(0:Int),(0:Int),false,false,([]:List (Int × Int)),([]:List Pc))))) ?_ fun a e=>?_
  ·simp only[ad,aa,if_false,if_true,Option.bind_some]
   exact ab (by rw[nil_eq])
  ·subst e
   refine fin subs.isEmpty 0 0 false false _ ?_
   rw[show formedB (2,lo,hi,no,lz,rs,subs)=subs.isEmpty from rfl]
   unfold flatB
   generalize subs.isEmpty=ff
   simp only[decide_true]
   generalize decide (lo=0)=a
   generalize decide (hi=0)=b
   generalize rs.isEmpty=c
   cases a<;>cases b<;>cases no<;>cases lz<;>cases c<;>cases ff<;>rfl
 ·refine ac (P:=(· =((subs.isEmpty&&(ordR rs&& !rs.isEmpty)),((3:Int),(0:Int),(0:Int),no,false,([]:List (Int × Int)),([]:List Pc))))) ?_ fun a e=>?_
  ·simp only[ad,aa,if_false,if_true,Option.bind_some]
   refine ac (P:=(· =(subs.isEmpty&& !rs.isEmpty))) ?_ fun a e=>?_
   ·rw[nil_eq]
    cases subs.isEmpty with
    | true=>exact al rfl (Tot.some_bind (ab (by cases rs<;>simp)))
    | false=>exact ak rfl (ab rfl)
   ·subst e
    refine ac (LT.tot (F:=shpF rs) (shp_lt h1 rs [] none _ rfl fun _=>rfl)) fun a e=>ab ?_
    rw[e,ordS_eq]
    cases subs.isEmpty<;>cases rs.isEmpty<;>cases ordR rs<;>rfl
  ·subst e
   refine fin (subs.isEmpty&&(ordR rs&& !rs.isEmpty)) 0 0 no false _ ?_
   rw[show formedB (3,lo,hi,no,lz,rs,subs)=(subs.isEmpty&&(ordR rs&& !rs.isEmpty)) from rfl]
   unfold flatB
   generalize (subs.isEmpty&&(ordR rs&& !rs.isEmpty))=ff
   simp only[decide_true]
   generalize decide (lo=0)=a
   generalize decide (hi=0)=b
   generalize rs.isEmpty=c
   cases a<;>cases b<;>cases no<;>cases lz<;>cases c<;>cases ff<;>rfl
 ·refine ac (P:=(· =(subs.isEmpty,((4:Int),(0:Int),(0:Int),false,false,([]:List (Int × Int)),([]:List Pc))))) ?_ fun a e=>?_
  ·simp only[ad,aa,if_false,if_true,Option.bind_some]
   exact ab (by rw[nil_eq])
  ·subst e
   refine fin subs.isEmpty 0 0 false false _ ?_
   rw[show formedB (4,lo,hi,no,lz,rs,subs)=subs.isEmpty from rfl]
   unfold flatB
   generalize subs.isEmpty=ff
   simp only[decide_true]
   generalize decide (lo=0)=a
   generalize decide (hi=0)=b
   generalize rs.isEmpty=c
   cases a<;>cases b<;>cases no<;>cases lz<;>cases c<;>cases ff<;>rfl
 ·refine ac (P:=(· =(subs.isEmpty,((5:Int),(0:Int),(0:Int),false,false,([]:List (Int × Int)),([]:List Pc))))) ?_ fun a e=>?_
  ·simp only[ad,aa,if_false,if_true,Option.bind_some]
   exact ab (by rw[nil_eq])
  ·subst e
   refine fin subs.isEmpty 0 0 false false _ ?_
   rw[show formedB (5,lo,hi,no,lz,rs,subs)=subs.isEmpty from rfl]
   unfold flatB
   generalize subs.isEmpty=ff
   simp only[decide_true]
   generalize decide (lo=0)=a
   generalize decide (hi=0)=b
   generalize rs.isEmpty=c
   cases a<;>cases b<;>cases no<;>cases lz<;>cases c<;>cases ff<;>rfl
 ·refine ac (P:=(· =(subs.isEmpty,((6:Int),(0:Int),(0:Int),no,false,([]:List (Int × Int)),([]:List Pc))))) ?_ fun a e=>?_
  ·simp only[ad,aa,if_false,if_true,Option.bind_some]
   exact ab (by rw[nil_eq])
  ·subst e
   refine fin subs.isEmpty 0 0 no false _ ?_
   rw[show formedB (6,lo,hi,no,lz,rs,subs)=subs.isEmpty from rfl]
   unfold flatB
   generalize subs.isEmpty=ff
   simp only[decide_true]
   generalize decide (lo=0)=a
   generalize decide (hi=0)=b
   generalize rs.isEmpty=c
   cases a<;>cases b<;>cases no<;>cases lz<;>cases c<;>cases ff<;>rfl
 ·refine ac (P:=(· =(decide (subs.length=1),((7:Int),(lo:Int),(0:Int),false,false,([]:List (Int × Int)),([]:List Pc))))) ?_ fun a e=>?_
  ·simp only[ad,aa,if_false,if_true,Option.bind_some]
   exact ab (by rw[one_eq])
  ·subst e
   refine fin (decide (subs.length=1)) lo 0 false false _ ?_
   rw[show formedB (7,lo,hi,no,lz,rs,subs)=decide (subs.length=1) from rfl]
   unfold flatB
   generalize decide (subs.length=1)=ff
   simp only[decide_true]
   generalize decide (lo=0)=a
   generalize decide (hi=0)=b
   generalize rs.isEmpty=c
   cases a<;>cases b<;>cases no<;>cases lz<;>cases c<;>cases ff<;>rfl
 ·refine ac (P:=(· =((decide (subs.length≠1)&& !kin [8,9] subs),((8:Int),(0:Int),(0:Int),false,false,([]:List (Int × Int)),([]:List Pc))))) ?_ fun a e=>?_
  ·simp only[ad,aa,if_false,if_true,Option.bind_some]
   by_cases hl:subs.length=1
   ·rw[dff (not_not_intro hl)]
    exact ak (by simp[hl]) (ab rfl)
   ·rw[dtt hl]
    exact al oss (ac (among_tot ddc h2) fun a e=>ab (by rw[e];rfl))
  ·subst e
   refine fin (decide (subs.length≠1)&& !kin [8,9] subs) 0 0 false false _ ?_
   rw[show formedB (8,lo,hi,no,lz,rs,subs)=(decide (subs.length≠1)&& !kin [8,9] subs) from rfl]
   unfold flatB
   generalize (decide (subs.length≠1)&& !kin [8,9] subs)=ff
   simp only[decide_true]
   generalize decide (lo=0)=a
   generalize decide (hi=0)=b
   generalize rs.isEmpty=c
   cases a<;>cases b<;>cases no<;>cases lz<;>cases c<;>cases ff<;>rfl
 ·refine ac (P:=(· =((decide (2≤subs.length)&& !kin [9] subs),((9:Int),(0:Int),(0:Int),false,false,([]:List (Int × Int)),([]:List Pc))))) ?_ fun a e=>?_
  ·simp only[ad,aa,if_false,if_true,Option.bind_some]
   by_cases hl:2≤subs.length
   ·rw[dtt hl]
    exact al (dtt om) (ac (among_tot ddc h2) fun a e=>ab (by rw[e];rfl))
   ·rw[dff hl]
    exact ak (dff om) (ab rfl)
  ·subst e
   refine fin (decide (2≤subs.length)&& !kin [9] subs) 0 0 false false _ ?_
   rw[show formedB (9,lo,hi,no,lz,rs,subs)=(decide (2≤subs.length)&& !kin [9] subs) from rfl]
   unfold flatB
   generalize (decide (2≤subs.length)&& !kin [9] subs)=ff
   simp only[decide_true]
   generalize decide (lo=0)=a
   generalize decide (hi=0)=b
   generalize rs.isEmpty=c
   cases a<;>cases b<;>cases no<;>cases lz<;>cases c<;>cases ff<;>rfl
 ·refine ac (P:=(· =((decide (subs.length=1)&& !kin [8,9,10,4,5,6,11] subs),((10:Int),(lo:Int),(hi:Int),false,lz,([]:List (Int × Int)),([]:List Pc))))) ?_ fun a e=>?_
  ·simp only[ad,aa,if_false,if_true,Option.bind_some]
   rw[one_eq]
   by_cases hl:subs.length=1
   ·rw[dtt hl]
    exact al rfl (ac (among_tot ddc h2) fun a e=>ab (by rw[e];rfl))
   ·rw[dff hl]
    exact ak rfl (ab rfl)
  ·subst e
   refine fin (decide (subs.length=1)&& !kin [8,9,10,4,5,6,11] subs) lo hi false lz _ ?_
   rw[show formedB (10,lo,hi,no,lz,rs,subs)=(decide (subs.length=1)&& !kin [8,9,10,4,5,6,11] subs) from rfl]
   unfold flatB
   generalize (decide (subs.length=1)&& !kin [8,9,10,4,5,6,11] subs)=ff
   simp only[decide_true]
   generalize decide (lo=0)=a
   generalize decide (hi=0)=b
   generalize rs.isEmpty=c
   cases a<;>cases b<;>cases no<;>cases lz<;>cases c<;>cases ff<;>rfl
 ·refine ac (P:=(· =(decide (subs.length=1),((11:Int),(0:Int),(0:Int),no,false,([]:List (Int × Int)),([]:List Pc))))) ?_ fun a e=>?_
  ·simp only[ad,aa,if_false,if_true,Option.bind_some]
   exact ab (by rw[one_eq])
  ·subst e
   refine fin (decide (subs.length=1)) 0 0 no false _ ?_
   rw[show formedB (11,lo,hi,no,lz,rs,subs)=decide (subs.length=1) from rfl]
   unfold flatB
   generalize decide (subs.length=1)=ff
   simp only[decide_true]
   generalize decide (lo=0)=a
   generalize decide (hi=0)=b
   generalize rs.isEmpty=c
   cases a<;>cases b<;>cases no<;>cases lz<;>cases c<;>cases ff<;>rfl
 ·refine ac (P:=(· =((subs.isEmpty&&decide (1≤lo∧lo≤9)),((12:Int),(lo:Int),(0:Int),false,false,([]:List (Int × Int)),([]:List Pc))))) ?_ fun a e=>?_
  ·simp only[ad,aa,if_false,if_true,Option.bind_some]
   rw[nil_eq]
   cases subs.isEmpty with
   | true=>
     refine al rfl ?_
     by_cases h9:1≤lo
     ·refine al (dtt h9) (ab ?_)
      rw[show decide (1≤lo∧lo≤9)=decide (lo≤9) by rw[ag];simp[h9]]
      rfl
     ·refine ak (dff h9) (ab ?_)
      rw[show decide (1≤lo∧lo≤9)=false from dff (fun h=>h9 h.1)]
      rfl
   | false=>exact ak rfl (ab rfl)
  ·subst e
   refine fin (subs.isEmpty&&decide (1≤lo∧lo≤9)) lo 0 false false _ ?_
   rw[show formedB (12,lo,hi,no,lz,rs,subs)=(subs.isEmpty&&decide (1≤lo∧lo≤9)) from rfl]
   unfold flatB
   generalize (subs.isEmpty&&decide (1≤lo∧lo≤9))=ff
   simp only[decide_true]
   generalize decide (lo=0)=a
   generalize decide (hi=0)=b
   generalize rs.isEmpty=c
   cases a<;>cases b<;>cases no<;>cases lz<;>cases c<;>cases ff<;>rfl
end Go.Gv.X
