import Derived.Test.YtmpmeiihjnnomaaGreatDoorYE
import Derived.Test.YtmpmeiihjnnomaaGreatDoorYE
import Derived.Test.YtmpmeiihjnnomaaGreatDoorYO
/-! Own work: templates as code points. -/
set_option linter.all false
open Go.Gv.Tot renaming bindq→aa,ret→ad,if_→ae,bind0→af
open Int renaming le_refl→ab
open List renaming length→ac,length_map→ag
namespace Go.Gv.M
open Go Go.Gv Go.Gv.D Go.Gv.X Go.Gv.R Go.Gv.P Go.Lib
set_option maxHeartbeats 4000000
def encI:List (Nat ⊕ Nat)→List (UInt8 ⊕ Nat)
 | []=>[]
 | .inl c::t=>(encR c).map .inl++encI t
 | .inr k::t=>.inr k::encI t
def outN (ps:List Nat) (g:Sp):List (Nat ⊕ Nat)→List Nat
 | []=>[]
 | .inl c::t=>c::outN ps g t
 | .inr k::t=>pcN ps g k++outN ps g t
theorem out_enc (ps:List Nat) (g:Sp):∀ its,outE ps g (encI its)=enc (outN ps g its)
 | []=>rfl
 | .inl c::t=>by rw[encI,outE_lit,out_enc ps g t,outN,enc_cons]
 | .inr k::t=>by rw[encI,outE,out_enc ps g t,outN,enc_app]
def rplN (ps:List Nat) (its:List (Nat ⊕ Nat)):Int→List Sp→List Nat
 | last,[]=>slice ps last ps.length
 | last,g::t=>slice ps last (st0 g).1++(outN ps g its++rplN ps its (st0 g).2 t)
theorem rpl_enc (ps:List Nat) (its:List (Nat ⊕ Nat)):∀ (l:List Sp) (last:Int),rplB ps (encI its) last l=enc (rplN ps its last l)
 | [],last=>by rw[rplB,rplN]
 | g::t,last=>by rw[rplB,rplN,rpl_enc ps its t,out_enc,enc_app,enc_app]
end Go.Gv.M
/-! Own work: the law of replacing: its loops. -/
namespace Go.Gv.M
open Go Go.Gv Go.Gv.D Go.Gv.X Go.Gv.R Go.Gv.P Go.Lib
set_option maxHeartbeats 4000000
abbrev S8 (l:List Nat):ByteArray:=strOf (enc l)
/-- the parts of a text between matches: those so far, and where the next one begins -/
def refS (most:Int) (ps:List Nat):Int→List (List Nat)→List Sp→List (List Nat) × Int
 | e,acc,[]=>(acc,e)
 | e,acc,g::t=>if (st0 g).1<(st0 g).2∧(most<0∨(acc.length:Int)<most) then refS most ps (st0 g).2 (acc++[slice ps e (st0 g).1]) t else refS most ps e acc t
theorem refS_facts {most:Int} {G:Nat} {ps:List Nat}:∀ (l:List Sp) (i e:Int) (acc:List (List Nat)),Chain G ps.length i l→0≤e→e≤i→e≤(ps.length:Int)→0≤(refS most ps e acc l).2∧(refS most ps e acc l).2≤(ps.length:Int)∧(refS most ps e acc l).1.length≤acc.length+l.length
 | [],i,e,acc,_,h0,_,h2=>⟨h0,h2,by simp[refS]⟩
 | g::t,i,e,acc,hc,h0,h1,h2=>by
   cases hc with
   | @cons _ _ s e' _ hW hg c1 c2 c3 c4=>
     have hst:st0 g=(s,e'):=by unfold st0;simp[List.getD,hg]
     rw[refS,hst]
     split
     ·have:=refS_facts (most:=most) t e' e' (acc++[slice ps e s]) (c4.le (by split<;>omega)) om (ab _) c3
      simp only[List.length_append,List.length_cons,List.length_nil]at this ⊢
      omega
     ·have:=refS_facts (most:=most) t (if s=e' then e'+1 else e') e acc c4 h0 (by split<;>omega) h2
      rw[List.length_cons]
      omega
noncomputable def spltF (tx:List Int) (all:List Sp) (most:Int) (s124:List ByteArray × Int × Int):Option ((List ByteArray × Int × Int) ⊕ (List ByteArray × Int)):=
 (if (decide (s124.2.2<((ac all:Nat):Int))) then (Option.bind (Option.bind (idx all s124.2.2) fun x160=>(Option.bind (Option.bind (idx x160 0) fun x183=>(Option.bind (idx x160 0) fun x192=>(if (x183.1==x192.2) then (some (true)) else (if (decide (most≥0)) then (some ((decide (((ac s124.1:Nat):Int)≥most)))) else (some (false)))))) fun (j176:Bool)=>(if j176 then (some ((s124.1,s124.2.1))) else (Option.bind (idx x160 0) fun x265=>(Option.bind (sub tx s124.2.1 x265.1) fun x268=>(Option.bind (app s124.1 ([(strR x268)]:List ByteArray)) fun l285=>(Option.bind (idx x160 0) fun x325=>(some ((l285,x325.2)))))))))) fun (j158:((List ByteArray) × Int))=>(some (.inl (j158.1,j158.2,(IntKind.i64.wrap (s124.2.2+1)))))) else (some (.inr ((s124.1,s124.2.1)))))
noncomputable def wantF (m:Nat) (tx:List Int) (a7 all:List Sp) (most:Int) (s441:List ByteArray × Int × Int):Option ((List ByteArray × Int × Int) ⊕ ((List ByteArray × Int) ⊕ (Unit ⊕ Bool))):=
 (if (decide (s441.2.2<((ac all:Nat):Int))) then (Option.bind (idx all s441.2.2) fun x471=>(Option.bind (idx x471 0) fun x477=>(Option.bind (idx a7 s441.2.2) fun x492=>(Option.bind (idx all s441.2.2) fun x503=>(Option.bind (ref4_SameSpans m x492 x503) fun r520=>(if (!r520) then (some (.inr (.inr (.inr (false))))) else (Option.bind (if (decide (x477.1<x477.2)) then (if (decide (most<0)) then (some (true)) else (some ((decide (((ac s441.1:Nat):Int)<most))))) else (some (false))) fun (j531:Bool)=>(Option.bind (if j531 then (Option.bind (sub tx s441.2.1 x477.1) fun x612=>(Option.bind (ref4_String m x612) fun r618=>(Option.bind (app s441.1 ([r618]:List ByteArray)) fun l636=>(some ((l636,x477.2)))))) else (some ((s441.1,s441.2.1)))) fun (j609:((List ByteArray) × Int))=>(some (.inl (j609.1,j609.2,(IntKind.i64.wrap (s441.2.2+1))))))))))))) else (some (.inr (.inl (s441.1,s441.2.1)))))
section
variable {ps:List Nat} (hp:∀ c∈ps,Scal c) (hl:ps.length≤400) {G:Nat} (hG:G≤9) (most:Int) (all:List Sp) (hal:all.length≤1000)
include hp hl hG hal
theorem split_lt:∀ (rest:List Sp) (i e:Int),Chain G ps.length i rest→0≤e→e≤i→e≤(ps.length:Int)→∀ (pre:List Sp),all=pre++rest→∀ (acc:List (List Nat)),acc.length≤pre.length→
 LT (fun _=>spltF (ints ps) all most) (acc.map S8,e,(pre.length:Int)) (· =((refS most ps e acc rest).1.map S8,(refS most ps e acc rest).2))∧LT (fun m=>wantF m (ints ps) all all most) (acc.map S8,e,(pre.length:Int)) (· = .inl ((refS most ps e acc rest).1.map S8,(refS most ps e acc rest).2))
 | [],i,e,hc,h0,h1,h2,pre,he,acc,ha=>by
   refine ⟨LT.fin (r:=(acc.map S8,e)) (Tot.alln fun m=>?_) rfl,LT.fin (r:=.inl (acc.map S8,e)) (Tot.alln fun m=>?_) rfl⟩
   ·unfold spltF;rw[if_neg (by simp[he])]
   ·unfold wantF;rw[if_neg (by simp[he])]
 | g::t,i,e,hc,h0,h1,h2,pre,he,acc,ha=>by
   cases hc with
   | @cons _ _ s e' _ hW hg c1 c2 c3 c4=>
     have hst:st0 g=(s,e'):=by unfold st0;simp[List.getD,hg]
     have hi:idx all (pre.length:Int)=some g:=by rw[he];exact get_mid pre _ t rfl
     have hg0:idx g 0=some (s,e'):=by rw[show (0:Int)=((0:Nat):Int) from rfl,idx_nat,hg]
     have hlp:pre.length<all.length:=by rw[he];simp
     have hcast:(((pre++[g]).length:Nat):Int)=((pre.length+1:Nat):Int):=by simp
     have hw:IntKind.i64.wrap ((pre.length:Int)+1)=((pre.length+1:Nat):Int):=by rw[i64_small om om];omega
     have hsub:=sub_ints (ps:=ps) h0 (show e≤s by omega) (show s≤(ps.length:Int) by omega)
     have happ:app (acc.map S8) ([S8 (slice ps e s)]:List ByteArray)=some ((acc++[slice ps e s]).map S8):=by rw[app1 _ oss];simp
     have hsl:=slice_len ps e s
     rw[refS,hst]
     simp only
     by_cases hcond:s<e'∧(most<0∨(acc.length:Int)<most)
     ·obtain ⟨iA,iB⟩:=split_lt t e' e' (c4.le (by split<;>omega)) om (ab _) c3 (pre++[g]) (by rw[he];simp) (acc++[slice ps e s]) oss
      rw[hcast]at iA iB
      rw[if_pos hcond]
      refine ⟨LT.step (Tot.alln fun m=>?_) iA,LT.step ?_ iB⟩
      ·unfold spltF
       simp only[dtt (show (pre.length:Int)<((all.length:Nat):Int) by omega),if_true,hi,hg0,Option.bind_some,ag,hsub,strR_ints (slice_scal hp _ _)]
       rw[if_neg oss]
       by_cases hm:most≥0
       ·simp only[dtt hm,if_true,dff (show ¬ ((acc.length:Int)≥most) by omega),Option.bind_some,Bool.false_eq_true,if_false]
        rw[happ];simp only[Option.bind_some,hw]
       ·simp only[dff hm,Bool.false_eq_true,if_false,Option.bind_some]
        rw[happ];simp only[Option.bind_some,hw]
      ·refine eqf (g:=fun m=>(ref4_SameSpans m g g).bind fun r520=>(if (!r520) then (some (.inr (.inr (.inr (false))))) else (Option.bind (ref4_String m (ints (slice ps e s))) fun r618=>(Option.bind (app (acc.map S8) ([r618]:List ByteArray)) fun l636=>(some (.inl (l636,e',((pre.length+1:Nat):Int))))):Option ((List ByteArray × Int × Int) ⊕ ((List ByteArray × Int) ⊕ (Unit ⊕ Bool)))))) (fun m=>?_) ?_
       ·unfold wantF
        simp only[dtt (show (pre.length:Int)<((all.length:Nat):Int) by omega),if_true,hi,hg0,Option.bind_some,ag,dtt hcond.1,hw,hsub]
        refine congrArg (Option.bind _) ?_
        funext r520
        have hd:(if decide (most<0)=true then some true else some (decide ((acc.length:Int)<most)))=some true:=by
         rcases hcond.2 with h | h
         ·rw[if_pos (dtt h)]
         ·rw[dtt h];split<;>rfl
        rw[hd]
        cases r520
        ·rfl
        ·simp only[Bool.not_true,Bool.false_eq_true,if_false,Option.bind_some,if_true]
         cases ref4_String m (ints (slice ps e s)) with
         | none=>rfl
         | some v=>simp only[Option.bind_some];cases app (acc.map S8) [v]<;>rfl
       ·refine aa (Spans_tot (by have:=hW.1;unfold BigR;omega)) fun a e=>?_
        rw[dtt rfl]at e
        subst e
        refine ae rfl (aa (String_tot (slice_scal hp _ _) om) fun a e=>?_)
        subst e
        exact af happ (ad rfl)
     ·obtain ⟨iA,iB⟩:=split_lt t (if s=e' then e'+1 else e') e c4 h0 (by split<;>omega) h2 (pre++[g]) (by rw[he];simp) acc oss
      rw[hcast]at iA iB
      rw[if_neg hcond]
      refine ⟨LT.step (Tot.alln fun m=>?_) iA,LT.step ?_ iB⟩
      ·unfold spltF
       simp only[dtt (show (pre.length:Int)<((all.length:Nat):Int) by omega),if_true,hi,hg0,Option.bind_some,ag]
       by_cases hse:s=e'
       ·rw[if_pos (by simpa using hse)];simp only[Option.bind_some,if_true,hw]
       ·rw[if_neg (by simpa using hse),if_pos (dtt om),dtt (show ((acc.length:Int)≥most) by omega)]
        simp only[Option.bind_some,if_true,hw]
      ·refine eqf (g:=fun m=>(ref4_SameSpans m g g).bind fun r520=>(if (!r520) then (some (.inr (.inr (.inr (false))))) else (some (.inl (acc.map S8,e,((pre.length+1:Nat):Int)))):Option ((List ByteArray × Int × Int) ⊕ ((List ByteArray × Int) ⊕ (Unit ⊕ Bool))))) (fun m=>?_) ?_
       ·unfold wantF
        simp only[dtt (show (pre.length:Int)<((all.length:Nat):Int) by omega),if_true,hi,hg0,Option.bind_some,ag,hw]
        refine congrArg (Option.bind _) ?_
        funext r520
        have hd:(if decide (s<e')=true then (if decide (most<0)=true then some true else some (decide ((acc.length:Int)<most))) else some false)=some false:=by
         by_cases hse:s<e'
         ·rw[if_pos (dtt hse),if_neg oss,dff om]
         ·rw[if_neg (by simpa using hse)]
        rw[hd]
        cases r520<;>rfl
       ·refine aa (Spans_tot (by have:=hW.1;unfold BigR;omega)) fun a e=>?_
        rw[dtt rfl]at e
        subst e
        exact ae rfl (ad rfl)
end
/-! a template's faults -/
end Go.Gv.M
/-! Own work: the law of replacing. -/
namespace Go.Gv.M
open Go Go.Gv Go.Gv.D Go.Gv.X Go.Gv.R Go.Gv.P Go.Lib
set_option maxHeartbeats 4000000
theorem ints_app (a b:List Nat):ints (a++b)=ints a++ints b:=by simp[ints]
section
variable {ps:List Nat} (hl:ps.length≤400) {G:Nat} (hG:G≤9) {t:List Nat} (ht:t.length≤1048576) (all:List Sp) (hal:all.length≤1000)
include hl hG ht
include hal
end
/-! the law -/
end Go.Gv.M
/-! Own work: all matches, replacing and splitting, as the program gives them. -/
namespace Go.Gv.M
open Go Go.Gv Go.Gv.D Go.Gv.X Go.Gv.R Go.Gv.P Go.Lib
set_option maxHeartbeats 4000000
section
variable {p:Pc} {s:ByteArray} {w:Int × Int} (hw:w.1≠0) (hc:∀ i,Tot (fun n=>rematch_check n p.un s i) (· =w))
include hw hc
theorem All_w:Tot (fun n=>rematch_All n p.un s) (· =([],w)):=by
 unfold rematch_All
 refine aa (hc 0) fun a e=>?_
 subst e
 exact Tot.it (by simpa using hw) (ad rfl)
end
def splO (most:Int) (ps:List Nat):Option (List Sp)→List ByteArray × (Int × Int)
 | none=>([],(21, -1))
 | some l=>(((refS most ps 0 [] l).1++[slice ps (refS most ps 0 [] l).2 ps.length]).map S8,(0,0))
section
variable {p:Pc} {s:ByteArray} {ps:List Nat} (ht:TextOk s ps) (hck:Tot (fun n=>rematch_check n p.un s 0) (· =(0,0)))
include ht hck
theorem All_tot {r:Option (List Sp)} (hall:Tot (fun m=>rematch_all m p.un (ints ps) (-1)) (· =allO r)):Tot (fun n=>rematch_All n p.un s) (· =allO r):=by
 unfold rematch_All
 refine aa hck fun a e=>?_
 subst e
 refine ae rfl (af ht.rn (aa hall fun a e=>?_))
 subst e
 cases r<;>exact ad rfl
theorem Split_tot {G:Nat} (hG:G≤9) (most:Int) {r:Option (List Sp)} (hr:∀ l,r=some l→Chain G ps.length 0 l∧l.length≤1000) (hall:Tot (fun m=>rematch_all m p.un (ints ps) (-1)) (· =allO r)):Tot (fun n=>rematch_Split n p.un s most) (· =splO most ps r):=by
 unfold rematch_Split
 refine aa hck fun a e=>?_
 subst e
 refine ae rfl (af ht.rn (aa hall fun a e=>?_))
 subst e
 cases r with
 | none=>exact Tot.it rfl (ad rfl)
 | some l=>
   obtain ⟨hch,hll⟩:=hr l rfl
   have hlt:=(split_lt ht.scal ht.len hG most l hll l 0 0 hch (ab _) (ab _) om [] rfl [] (Nat.le_refl _)).1
   obtain ⟨f0,f1,f2⟩:=refS_facts (most:=most) (ps:=ps) l 0 0 [] hch (ab _) (ab _) om
   refine ae rfl (aa (LT.tot hlt) fun y hy=>?_)
   subst hy
   rw[ints_len]
   refine af (sub_ints f0 f1 (ab _)) ?_
   rw[strR_ints (slice_scal ht.scal _ _)]
   refine af (app1 _ (by simp at f2 ⊢;omega)) (ad ?_)
   simp[splO]
end
end Go.Gv.M
/-! Own work: the law of replacing. -/
namespace Go.Gv.M
open Go Go.Gv Go.Gv.D Go.Gv.X Go.Gv.R Go.Gv.P Go.Lib
set_option maxHeartbeats 4000000
theorem ev_ok {p:Pc} {ps:List Nat} (hl:ps.length≤400) {most:Int} {r:Option (List Sp)} (h:Ev (fnd p ps) ps.length most 0 [] r):∀ l,r=some l→Chain (gr p) ps.length 0 l∧l.length≤1000:=fun l e=>by
 obtain ⟨l',e1,c,n⟩:=ev_chain h (ab _) om l e
 rw[List.nil_append]at e1
 subst e1
 exact ⟨c,om⟩
end Go.Gv.M
/-! Own work: the law of pieces: plain part. -/
namespace Go.Gv.M
open Go Go.Gv Go.Gv.D Go.Gv.X Go.Gv.R Go.Gv.P Go.Lib
set_option maxHeartbeats 4000000
theorem slice_cat {ps:List Nat} {a b c:Int} (h0:0≤a) (h1:a≤b) (h2:b≤c):slice ps a b++slice ps b c=slice ps a c:=by
 unfold slice
 have e:ps.take b.toNat=(ps.take c.toNat).take b.toNat:=by rw[List.take_take,Nat.min_eq_left om]
 rw[e]
 generalize ps.take c.toNat=q
 have ha:a.toNat≤b.toNat:=by omega
 generalize a.toNat=x at*
 generalize b.toNat=y at*
 by_cases hy:y≤q.length
 ·have:q.drop x=(q.take y++q.drop y).drop x:=by rw[List.take_append_drop]
  rw[this,List.drop_append_of_le_length (by rw[List.length_take];omega)]
 ·rw[List.take_of_length_le om,List.drop_of_length_le (i:=y) om,List.append_nil]
theorem slice_all (ps:List Nat):slice ps 0 ps.length=ps:=by unfold slice;simp
theorem rpl_self {ps:List Nat} {G:Nat}:∀ (l:List Sp) (i last:Int),Chain G ps.length i l→0≤last→last≤i→last≤(ps.length:Int)→rplN ps [.inr 0] last l=slice ps last ps.length
 | [],i,last,_,_,_,_=>rfl
 | g::t,i,last,hc,h0,h1,h2=>by
   cases hc with
   | @cons _ _ s e _ hW hg c1 c2 c3 c4=>
     have hst:g.getD 0 (0,0)=(s,e):=by simp[List.getD,hg]
     rw[rplN,rpl_self t (if s=e then e+1 else e) (st0 g).2 c4 (by unfold st0;rw[hst];omega) (by unfold st0;rw[hst];simp only;split<;>omega) (by unfold st0;rw[hst];omega)]
     unfold st0
     rw[outN,outN,List.append_nil,pcN,hst,if_neg osm]
     simp only
     rw[slice_cat om c2 c3,slice_cat h0 om om]
/-- the first of what splitting gives stays -/
theorem refS_pre {ps:List Nat} (most:Int):∀ (l:List Sp) (e:Int) (acc:List (List Nat)),∃ r,(refS most ps e acc l).1=acc++r
 | [],e,acc=>⟨[],by simp[refS]⟩
 | g::t,e,acc=>by
   rw[refS]
   split
   ·obtain ⟨r,h⟩:=refS_pre most t (st0 g).2 (acc++[slice ps e (st0 g).1])
    exact ⟨slice ps e (st0 g).1::r,by rw[h];simp⟩
   ·exact refS_pre most t e acc
noncomputable def pcdF (m:Nat) (tx:List Int) (l:List Sp) (b:List ByteArray) (s204:Int × Int × Int):Option ((Int × Int × Int) ⊕ ((Int × Int) ⊕ Bool)):=
 (if (decide (s204.2.2<((ac l:Nat):Int))) then (Option.bind (Option.bind (idx l s204.2.2) fun x215=>(if (((ac x215:Nat):Int)==0) then (some (.inr (.inr (.inr (false))))) else (Option.bind (idx l s204.2.2) fun x222=>(Option.bind (idx x222 0) fun x228=>(Option.bind (if (decide (x228.1<s204.2.1)) then (some (true)) else (if (decide (x228.2<x228.1)) then (some (true)) else (if (decide (x228.2>((ac tx:Nat):Int))) then (some (true)) else (if (decide (s204.2.2>0)) then (if (x228.1==x228.2) then (Option.bind (idx l (IntKind.i64.wrap (s204.2.2-1))) fun x312=>(Option.bind (idx x312 0) fun x327=>(some ((x228.1==x327.1))))) else (some (false))) else (some (false)))))) fun (j241:Bool)=>(if j241 then (some (.inr (.inr (.inr (false))))) else (if (x228.1==x228.2) then (some (.inl (s204.1,s204.2.1))) else (Option.bind (if (decide (s204.1≥((ac b:Nat):Int))) then (some (true)) else (Option.bind (idx b s204.1) fun x400=>(Option.bind (sub tx s204.2.1 x228.1) fun x405=>(Option.bind (ref4_String m x405) fun r412=>(some ((!(x400.toList==r412.toList)))))))) fun (j384:Bool)=>(if j384 then (some (.inr (.inr (.inr (false))))) else (some (.inl ((IntKind.i64.wrap (s204.1+1)),x228.2)))))))))))) (cont fun (s213:(Int × Int))=>(some (.inl (s213.1,s213.2,(IntKind.i64.wrap (s204.2.2+1))))))) else (some (.inr (.inl (s204.1,s204.2.1)))))
theorem str_same (x:ByteArray):(!(x.toList==x.toList))=false:=by rw[str_eq,dtt rfl];rfl
section
variable {ps:List Nat} (hp:∀ c∈ps,Scal c) (hl:ps.length≤400) {G:Nat} (all:List Sp) (hal:all.length≤1000) {b:List ByteArray}
include hp hl hal
theorem pcd_lt:∀ (rest:List Sp) (i e:Int),Chain G ps.length i rest→0≤e→e≤i→e≤(ps.length:Int)→∀ (pre:List Sp),all=pre++rest→(pre=[]∨∃ pre' g' s' e',pre=pre'++[g']∧g'[0]? =some (s',e')∧s'<i)→∀ (acc:List (List Nat)),acc.length≤pre.length→b=((refS (-1) ps e acc rest).1++[slice ps (refS (-1) ps e acc rest).2 ps.length]).map S8→
 LT (fun m=>pcdF m (ints ps) all b) ((acc.length:Int),e,(pre.length:Int)) (· = .inl (((refS (-1) ps e acc rest).1.length:Int),(refS (-1) ps e acc rest).2))
 | [],i,e,hc,h0,h1,h2,pre,he,hpr,acc,ha,hb=>by
   refine LT.fin (r:=.inl ((acc.length:Int),e)) (Tot.alln fun m=>?_) rfl
   unfold pcdF;rw[if_neg (by simp[he])]
 | g::t,i,e,hc,h0,h1,h2,pre,he,hpr,acc,ha,hb=>by
   cases hc with
   | @cons _ _ s e' _ hW hg c1 c2 c3 c4=>
     have hst:st0 g=(s,e'):=by unfold st0;simp[List.getD,hg]
     have hi:idx all (pre.length:Int)=some g:=by rw[he];exact get_mid pre _ t rfl
     have hg0:idx g 0=some (s,e'):=by rw[show (0:Int)=((0:Nat):Int) from rfl,idx_nat,hg]
     have hgl:g.length≠0:=by rw[hW.1];omega
     have hlp:pre.length<all.length:=by rw[he];simp
     have hcast:(((pre++[g]).length:Nat):Int)=((pre.length+1:Nat):Int):=by simp
     have hw:IntKind.i64.wrap ((pre.length:Int)+1)=((pre.length+1:Nat):Int):=by rw[i64_small om om];omega
     have hwk:IntKind.i64.wrap ((acc.length:Int)+1)=((acc.length+1:Nat):Int):=by rw[i64_small om om];omega
     have hsub:=sub_ints (ps:=ps) h0 (show e≤s by omega) (show s≤(ps.length:Int) by omega)
     have hsl:=slice_len ps e s
     have hd:(if (decide (s<e)) then (some (true)) else (if (decide (e'<s)) then (some (true)) else (if (decide (e'>((ac (ints ps):Nat):Int))) then (some (true)) else (if (decide ((pre.length:Int)>0)) then (if (s==e') then (Option.bind (idx all (IntKind.i64.wrap ((pre.length:Int)-1))) fun x312=>(Option.bind (idx x312 0) fun x327=>(some ((s==x327.1))))) else (some (false))) else (some (false))))))=some false:=by
      rw[if_neg oss,if_neg oss,if_neg (by rw[ints_len];simp;omega)]
      rcases hpr with rfl | ⟨pre',g',s',e2,rfl,hg',hlt⟩
      ·rfl
      ·have hpl:(pre'++[g']).length=pre'.length+1:=by simp
       rw[if_pos (dtt (show (((pre'++[g']).length:Nat):Int)>0 by rw[hpl];omega)),hpl,i64_small om om,show ((pre'.length+1:Nat):Int)-1=(pre'.length:Int) by omega]
       have hi':idx all (pre'.length:Int)=some g':=by rw[he,List.append_assoc];exact get_mid pre' _ _ rfl
       rw[hi',Option.bind_some,show (0:Int)=((0:Nat):Int) from rfl,idx_nat,hg',Option.bind_some]
       split
       ·congr 1;simp;omega
       ·rfl
     have hst1:∀ m,pcdF m (ints ps) all b ((acc.length:Int),e,(pre.length:Int))=(Option.bind (if (s==e') then (some (.inl ((acc.length:Int),e))) else (Option.bind (if (decide ((acc.length:Int)≥((ac b:Nat):Int))) then (some (true)) else (Option.bind (idx b (acc.length:Int)) fun x400=>(Option.bind (ref4_String m (ints (slice ps e s))) fun r412=>(some ((!(x400.toList==r412.toList))))))) fun (j384:Bool)=>(if j384 then (some (.inr (.inr (.inr (false))))) else (some (.inl (((acc.length+1:Nat):Int),e')))))) (cont fun (s213:(Int × Int))=>(some (.inl (s213.1,s213.2,((pre.length+1:Nat):Int))))):Option ((Int × Int × Int) ⊕ ((Int × Int) ⊕ Bool))):=fun m=>by
      unfold pcdF
      simp only[dtt (show (pre.length:Int)<((all.length:Nat):Int) by omega),if_true,hi,Option.bind_some,hg0,hw,hwk,hsub]
      rw[if_neg (by simpa using hgl),hd]
      rfl
     have hpr':pre++[g]=[]∨∃ pre' g' s' e2,pre++[g]=pre'++[g']∧g'[0]? =some (s',e2)∧s'<(if s=e' then e'+1 else e'):=.inr ⟨pre,g,s,e',rfl,hg,by split<;>omega⟩
     by_cases hse:s<e'
     ·rw[refS,hst,if_pos ⟨hse,.inl ddc⟩]at hb ⊢
      have ih:=pcd_lt t (if s=e' then e'+1 else e') e' c4 om (by split<;>omega) c3 (pre++[g]) (by rw[he];simp) hpr' (acc++[slice ps e s]) oss hb
      rw[hcast,show (((acc++[slice ps e s]).length:Nat):Int)=((acc.length+1:Nat):Int) by simp]at ih
      obtain ⟨r,hr⟩:=refS_pre (ps:=ps) (-1) t e' (acc++[slice ps e s])
      have hbi:idx b (acc.length:Int)=some (S8 (slice ps e s)):=by
       rw[hb]
       simp only[hr]
       rw[idx_nat];simp
      have hbl:acc.length<b.length:=by rw[hb];simp only[hr];simp
      refine LT.step (st':=(((acc.length+1:Nat):Int),e',((pre.length+1:Nat):Int))) (eqf hst1 ?_) ih
      refine aa (P:=(· =Sum.inl (((acc.length+1:Nat):Int),e'))) (ae oss (aa (P:=(· =false)) (ae oss (af hbi (aa (String_tot (slice_scal hp _ _) om) fun a e=>?_))) fun a e=>?_)) fun a e=>?_
      ·subst e;exact ad (str_same _)
      ·subst e;exact ae rfl (ad rfl)
      ·subst e;exact Tot.contl (ad rfl)
     ·have hse':s=e':=by omega
      rw[refS,hst,if_neg (fun h=>hse h.1)]at hb ⊢
      have ih:=pcd_lt t (if s=e' then e'+1 else e') e c4 h0 (by split<;>omega) h2 (pre++[g]) (by rw[he];simp) hpr' acc oss hb
      rw[hcast]at ih
      refine LT.step (st':=((acc.length:Int),e,((pre.length+1:Nat):Int))) (eqf hst1 ?_) ih
      exact aa (P:=(· =Sum.inl ((acc.length:Int),e))) (Tot.it (by simpa using hse') (ad rfl)) fun a e=>by subst e;exact Tot.contl (ad rfl)
end
theorem pieced_law {p:Pc} {s:ByteArray} (hb:BdL (preP p)) (hs:s.size≤1048576):Tot (fun n=>law4_RematchPieced n p.un s) (· =true):=by
 unfold law4_RematchPieced
 rcases check_cases hb hs with ⟨w,hw,hc,hf⟩ | ⟨hok,ps,ht,hf,hc⟩
 ·refine aa (All_w hw hc) fun a e=>?_
  subst e
  refine aa finds_tot fun a e=>?_
  subst e
  exact ae rfl (Tot.it (by simpa using hw) (ad rfl))
 ·have hck:=hc 0
  rw[if_neg om]at hck
  obtain ⟨hT,hG⟩:=ok_T hok hb
  obtain ⟨r,hr,hA,_⟩:=all_tot hok hb ht (-1)
  refine aa (All_tot ht hck hA) fun a e=>?_
  subst e
  refine aa finds_tot fun a e=>?_
  subst e
  refine ae rfl ?_
  cases r with
  | none=>exact Tot.it rfl (ad rfl)
  | some l=>
    obtain ⟨hch,hll⟩:=ev_ok ht.len hr l rfl
    have hlen:=ht.len
    have henc:=ht.enc_le
    have hrv:repV (gr p) ps (bytesOf (strOf [92,48])) (some l)=(s,(0,0)):=by
     have h1:tplB (gr p) [92,48]=some [.inr 0]:=by
      rw[tplB.eq_3,if_pos rfl,if_neg ddc,if_pos ⟨ddc,by show 48≤48+gr p;omega⟩]
      rfl
     have h2:rplB ps [.inr 0] 0 l=enc ps:=by
      have:=rpl_enc ps [.inr 0] l 0
      rw[show encI [.inr 0]=[.inr 0] from rfl]at this
      rw[this,rpl_self l 0 0 hch (ab _) (ab _) om,slice_all]
     unfold repV
     rw[bytes_str,if_neg ddc,h1]
     simp only[h2]
     rw[if_neg om,← ht.str]
    refine ae rfl (aa ((Replace_tot hok hb ht hck (tpl:=strOf [92,48]) ddc hr hA).mono fun a e=>e.trans hrv) fun a e=>?_)
    subst e
    refine aa (Split_tot ht hck hG (-1) (ev_ok ht.len hr) hA) fun a e=>?_
    subst e
    refine aa (P:=(· =(ints ps,true))) (by rw[ht.str];exact pts_tot ht.scal om) fun a e=>?_
    subst e
    refine aa (P:=(· =false)) (ae rfl (ae rfl (ae rfl (ad (str_same _))))) fun a e=>?_
    subst e
    have hlt:=pcd_lt ht.scal ht.len l hll (b:=((refS (-1) ps 0 [] l).1++[slice ps (refS (-1) ps 0 [] l).2 ps.length]).map S8) l 0 0 hch (ab _) (ab _) om [] rfl (.inl rfl) [] (Nat.le_refl _) rfl
    obtain ⟨f0,f1,f2⟩:=refS_facts (most:= -1) (ps:=ps) l 0 0 [] hch (ab _) (ab _) om
    refine ae rfl (aa (LT.tot (F:=fun m=>pcdF m (ints ps) l (((refS (-1) ps 0 [] l).1++[slice ps (refS (-1) ps 0 [] l).2 ps.length]).map S8)) hlt) fun y hy=>?_)
    subst hy
    refine Tot.contl ?_
    dsimp only
    have hsl:=slice_len ps (refS (-1) ps 0 [] l).2 ps.length
    have hk:IntKind.i64.wrap ((((splO (-1) ps (some l)).1.length:Nat):Int)-1)=((refS (-1) ps 0 [] l).1.length:Int):=by
     have:(splO (-1) ps (some l)).1.length=(refS (-1) ps 0 [] l).1.length+1:=by simp[splO]
     rw[this,i64_small om (by simp at f2;omega)];omega
    refine aa (P:=(· =true)) (Tot.it (by rw[hk];exact beq_self_eq_true _) (af (a:=S8 (slice ps (refS (-1) ps 0 [] l).2 ps.length)) (by rw[idx_nat];simp[splO]) ?_)) fun a e=>ad e
    rw[ints_len]
    refine af (sub_ints f0 f1 (ab _)) (aa (String_tot (slice_scal ht.scal _ _) om) fun a e=>?_)
    subst e
    refine ad ?_
    rw[str_eq];exact dtt rfl
end Go.Gv.M
/-! Own work: the law of pieces, as it is said. -/
namespace Go.Gv.M
open Go Go.Gv Go.Gv.D Go.Gv.X Go.Gv.R Go.Gv.P Go.Lib
theorem RematchPieced_said (p:PcT) (s:ByteArray) (_:inK .i64 p.1∧inK .i64 p.2.1∧inK .i64 p.2.2.1∧True∧True∧((∀ x∈p.2.2.2.2.2.1,(fun x=>inK .i64 x.1∧inK .i64 x.2) x)∧p.2.2.2.2.2.1.length≤maxLen)∧((∀ x∈p.2.2.2.2.2.2,(fun _=>True) x)∧p.2.2.2.2.2.2.length≤maxLen)) (_:s.size≤maxLen)
 (hb:(1+(1+(1+(1+(1+(sumL (fun x:Int × Int=>1+1+1) p.2.2.2.2.2.1+sumL mPc p.2.2.2.2.2.2))))))+(s.size+1)+1≤1048576):Tot (fun n=>law4_RematchPieced n p s) (· =true):=
 pieced_law (p:=Pc.of p) (bd_said om) om
end Go.Gv.M
