import Derived.Test.YtjhfmibjphdanaaGreatDoorX9
set_option linter.all false
open Bool renaming false_eq_true→aa
open Go.Gv.Tot renaming ret→ab,bindq→ac
open List renaming length_singleton→ad,length_append→ae,length→af,eq_nil_or_concat→ag,concat_eq_append→ai
namespace Go.Gv.X
open Go Go.Gv Go.Gv.D Go.Gv.R Go.Gv.P Go.Lib
set_option maxRecDepth 100000
/-! Own work: the parser's classes and escapes. -/
abbrev PTu:=Int × Int × Int × Bool × Bool × (List (Int × Int)) × (List Pc)
abbrev PRes:=(PTu × PSt) ⊕ Int
/-- a loop that comes to an end with a result, given rounds and fuel enough -/
def LT {τ ρ:Type} (F:Nat→τ→Option (τ ⊕ ρ)) (st:τ) (Q:ρ→Prop):Prop:=∃ r,Q r∧∃ N M,∀ n,N≤n→∀ m,M≤m→loopN (F n) m st=some r
theorem LT.fin {τ ρ:Type} {F:Nat→τ→Option (τ ⊕ ρ)} {st:τ} {r:ρ} {Q:ρ→Prop} (h:Tot (fun n=>F n st) (· = .inr r)) (hq:Q r):LT F st Q:=by
 obtain ⟨a,rfl,N,hN⟩:=h
 exact ⟨r,hq,N,1,fun n hn m hm=>by obtain ⟨m,rfl⟩:∃ k,m=k+1:=⟨m-1,om⟩;exact loopN_inr (hN n hn)⟩
theorem LT.step {τ ρ:Type} {F:Nat→τ→Option (τ ⊕ ρ)} {st st':τ} {Q:ρ→Prop} (h:Tot (fun n=>F n st) (· = .inl st')) (k:LT F st' Q):LT F st Q:=by
 obtain ⟨a,rfl,N,hN⟩:=h
 obtain ⟨r,hq,N',M,hk⟩:=k
 exact ⟨r,hq,max N N',M+1,fun n hn m hm=>by
  obtain ⟨m,rfl⟩:∃ k,m=k+1:=⟨m-1,om⟩
  rw[loopN_inl (hN n om)]
  exact hk n om m om⟩
theorem LT.tot {τ ρ:Type} {F:Nat→τ→Option (τ ⊕ ρ)} {st:τ} {Q:ρ→Prop} (h:LT F st Q):Tot (fun n=>loopN (F n) n st) Q:=by
 obtain ⟨r,hq,N,M,hk⟩:=h
 exact ⟨r,hq,max N M,fun n hn=>hk n om n om⟩
/-- own name for the loop body 0 of regex_parser_class -/
noncomputable def clsF (fuel:Nat) (s27:((ByteArray × Int × Int × Bool × Bool) × (Int × Int × Int × Bool × Bool × (List (Int × Int)) × (List Pc)))):Option ((PSt × PTu) ⊕ ((PSt × PTu) ⊕ PRes)):=
 (Option.bind (regex_parser_member fuel (s27.1.1,s27.1.2.1,s27.1.2.2.1,s27.1.2.2.2.1,s27.1.2.2.2.2)) (pcase (fun r67=>(Option.bind (if r67.2.2.1 then (Option.bind (regex_parser_eat fuel (r67.2.2.2.1,r67.2.2.2.2.1,r67.2.2.2.2.2.1,r67.2.2.2.2.2.2.1,r67.2.2.2.2.2.2.2) (strOf [45])) fun r89=>(Option.bind (if r89.1 then (Option.bind (regex_parser_member fuel (r89.2.1,r89.2.2.1,r89.2.2.2.1,r89.2.2.2.2.1,r89.2.2.2.2.2)) (pcase (fun r99=>(if ((!r99.2.2.1)||(decide (r99.1<r67.1))) then (Option.bind (regex_parser_fail fuel (r99.2.2.2.1,r99.2.2.2.2.1,r99.2.2.2.2.2.1,r99.2.2.2.2.2.2.1,r99.2.2.2.2.2.2.2)) (pcase (fun r125=>(some (.inl (r99.1,(r99.2.2.2.1,r99.2.2.2.2.1,r99.2.2.2.2.2.1,r99.2.2.2.2.2.2.1,r99.2.2.2.2.2.2.2))))) (fun pn128=>(some (.inr (.inr (.inr (.inr (.inr pn128))))))))) else (some (.inl (r99.1,(r99.2.2.2.1,r99.2.2.2.2.1,r99.2.2.2.2.2.1,r99.2.2.2.2.2.2.1,r99.2.2.2.2.2.2.2)))))) (fun pn102=>(some (.inr (.inr (.inr (.inr (.inr pn102))))))))) else (some (.inl (r67.1,(r89.2.1,r89.2.2.1,r89.2.2.2.1,r89.2.2.2.2.1,r89.2.2.2.2.2))))) (cont fun (s96:(Int × (ByteArray × Int × Int × Bool × Bool)))=>(some (.inl (([(r67.1,s96.1)]:List (Int × Int)),(s96.2.1,s96.2.2.1,s96.2.2.2.1,s96.2.2.2.2.1,s96.2.2.2.2.2))))))) else (some (.inl (r67.2.1,(r67.2.2.2.1,r67.2.2.2.2.1,r67.2.2.2.2.2.1,r67.2.2.2.2.2.2.1,r67.2.2.2.2.2.2.2))))) (cont fun (s86:((List (Int × Int)) × (ByteArray × Int × Int × Bool × Bool)))=>(Option.bind (app s27.2.2.2.2.2.2.1 s86.1) fun l241=>(Option.bind (regex_parser_eat fuel (s86.2.1,s86.2.2.1,s86.2.2.2.1,s86.2.2.2.2.1,s86.2.2.2.2.2) (strOf [93])) fun r264=>(if r264.1 then (some (.inr (.inl ((r264.2.1,r264.2.2.1,r264.2.2.2.1,r264.2.2.2.2.1,r264.2.2.2.2.2),(s27.2.1,s27.2.2.1,s27.2.2.2.1,s27.2.2.2.2.1,s27.2.2.2.2.2.1,l241,s27.2.2.2.2.2.2.2))))) else (some (.inl ((r264.2.1,r264.2.2.1,r264.2.2.2.1,r264.2.2.2.2.1,r264.2.2.2.2.2),(s27.2.1,s27.2.2.1,s27.2.2.2.1,s27.2.2.2.2.1,s27.2.2.2.2.2.1,l241,s27.2.2.2.2.2.2.2)))))))))) (fun pn70=>(some (.inr (.inr (.inr pn70)))))))
def outM:(((Nat ⊕ List (Int × Int)) × St) ⊕ Unit)→((Int × (List (Int × Int)) × Bool × PSt) ⊕ Int)
 | .inl (.inl c,s)=>.inl ((c:Int),[],true,sp s)
 | .inl (.inr l,s)=>.inl (0,l,false,sp s)
 | .inr _=>.inr 1
theorem S91:St8 [91,93,45]:=st8 (by kernel_rfl) ddc
theorem str_enc {c:Nat} {r:List Nat} (hc:Scal c):((strOf (enc (c::r))).toList==(strOf []).toList)=false:=by
 obtain ⟨b,u,e,_,_⟩:=head_enc hc r
 rw[e,str_ne]
theorem member_eq (n:Nat) {s:St} (ha:All s):regex_parser_member n (sp s)=(memA s).map outM:=by
 unfold regex_parser_member
 rw[ahead_eq n ha (T:=[91,93,45]) S91 rfl]
 simp only[Option.bind_some]
 obtain ⟨cs,np,ng,lg,ls⟩:=s
 cases cs with
 | nil=>
   rw[show ah [91,93,45] { cs:=[],np:=np,ng:=ng,lg:=lg,ls:=ls}=false from rfl]
   simp only[aa,if_false]
   rw[show strOf (enc [])=strOf [] from rfl,str_nil]
   rfl
 | cons c r=>
 have hc:Scal c:=ha c (List.mem_cons_self ..)
 have hr:∀ x∈r,Scal x:=fun x hx=>ha x (List.mem_cons_of_mem _ hx)
 have hM:memA { cs:=c::r,np:=np,ng:=ng,lg:=lg,ls:=ls}=if c=91∨c=93∨c=45 then er else
  if c≠92 then ok (.inl c,{ cs:=r,np:=np,ng:=ng,lg:=lg,ls:=ls}) else
  match r with
  | []=>er
  | d::r=>if namedA d≠[] then ok (.inr (namedA d),{ cs:=r,np:=np,ng:=ng,lg:=lg,ls:=ls}) else
    match symA d with
    | none=>er
    | some e=>ok (.inl e,{ cs:=r,np:=np,ng:=ng,lg:=lg,ls:=ls}):=rfl
 rw[hM]
 have hah:ah [91,93,45] { cs:=c::r,np:=np,ng:=ng,lg:=lg,ls:=ls}=[91,93,45].contains c:=rfl
 by_cases h1:c=91∨c=93∨c=45
 ·have:[91,93,45].contains c=true:=by simpa using h1
  rw[hah.trans this,if_pos h1]
  rfl
 ·have:[91,93,45].contains c=false:=by simpa using h1
  rw[hah.trans this,if_neg h1]
  simp only[aa,if_false,Option.bind_some]
  rw[str_enc hc]
  show _=_
  simp only[aa,if_false,Option.bind_some,cont]
  rw[eat_eq n ha (t:=[92]) (T:=[92]) ddc rfl]
  simp only[Option.bind_some]
  by_cases h2:c=92
  ·subst h2
   rw[if_neg (show ¬ (92:Nat)≠92 by omega),show pre [92] (92::r)=true by rw[pre_cons,pre_nil]]
   simp only[Bool.not_true,aa,if_false,if_true]
   rw[show (af [92])=1 from rfl,show St.skip { cs:=92::r,np:=np,ng:=ng,lg:=lg,ls:=ls} 1={ cs:=r,np:=np,ng:=ng,lg:=lg,ls:=ls} from rfl]
   cases r with
   | nil=>rw[next_nil n rfl];rfl
   | cons d r=>
     rw[next_cons n (hr d (List.mem_cons_self ..)) rfl]
     simp only[Option.bind_some,pcase]
     rw[named_eq]
     simp only[Option.bind_some]
     by_cases h3:namedA d≠[]
     ·rw[if_pos h3,if_pos (by cases hn:namedA d with | nil=>exact absurd hn h3 | cons=>rfl)];rfl
     ·rw[if_neg h3,if_neg (by rw[Classical.not_not.1 h3];decide),symbol_eq]
      cases symA d<;>rfl
  ·rw[if_pos h2,show pre [92] (c::r)=false from pre_ne (Ne.symm h2)]
   simp only[Bool.not_false,aa,if_false,if_true]
   rw[next_cons n (s:={ cs:=c::r,np:=np,ng:=ng,lg:=lg,ls:=ls}) hc rfl]
   rfl
theorem named_len (c:Nat):(namedA c).length≤4:=by unfold namedA;split;simp;split;simp;split<;>simp
theorem mem_len {s:St} {l:List (Int × Int)} {s':St} (h:memA s=some (.inl (.inr l,s'))):l.length≤4:=by
 unfold memA at h
 split at h
 ·cases h
 ·split at h
  ·cases h
  ·split at h
   ·cases h
   ·split at h
    ·cases h
    ·split at h
     ·cases h;exact named_len _
     ·split at h<;>cases h
theorem mem_nn (s:St):memA s≠none:=by
 unfold memA
 split
 ·simp[er]
 ·split
  ·simp[er]
  ·split
   ·simp[ok]
   ·split
    ·simp[er]
    ·split
     ·simp[ok]
     ·split<;>simp[er,ok]
def outI (no:Bool) (acc:List (Int × Int)):Res (List (Int × Int) × St)→(PSt × PTu) ⊕ ((PSt × PTu) ⊕ PRes)
 | some (.inl (l,s))=>if pre [93] s.cs then .inr (.inl (sp (s.skip 1),(3,0,0,no,false,acc++l,[]))) else .inl (sp s,(3,0,0,no,false,acc++l,[]))
 | _=>.inr (.inr (.inr 1))
theorem item_eq (n:Nat) {s:St} (ha:All s) {no:Bool} {acc:List (Int × Int)} (hl:acc.length≤100000):clsF n (sp s,(3,0,0,no,false,acc,[]))=some (outI no acc (itemA s)):=by
 have tail:∀ {s2:St} {l:List (Int × Int)},All s2→l.length≤4→((app acc l).bind fun l241=>(regex_parser_eat n (sp s2) (strOf [93])).bind fun r264=>if r264.1=true then (some (.inr (.inl (r264.2,((3:Int),(0:Int),(0:Int),no,false,l241,([]:List Pc))))):Option ((PSt × PTu) ⊕ ((PSt × PTu) ⊕ PRes))) else some (.inl (r264.2,(3,0,0,no,false,l241,[]))))=some (outI no acc (some (.inl (l,s2)))):=fun {s2 l} h2 h4=>by
  rw[app_ok om]
  simp only[Option.bind_some]
  rw[eat_eq n h2 (t:=[93]) (T:=[93]) ddc rfl]
  simp only[Option.bind_some,outI]
  split<;>rfl
 unfold clsF itemA
 rw[member_eq n ha]
 cases hm:memA s with
 | none=>exact absurd hm (mem_nn s)
 | some x=>
 cases x with
 | inr u=>rfl
 | inl x=>
 obtain ⟨m,s1⟩:=x
 obtain ⟨a1,a2,a3,a4⟩:=mem_spec ha hm
 have ha1:All s1:=ha.suf a1
 cases m with
 | inr l=>
   simp only[Option.map_some,outM,Option.bind_some,pcase,aa,if_false,cont,bd]
   exact tail ha1 (mem_len hm)
 | inl low=>
   simp only[Option.map_some,outM,Option.bind_some,pcase,if_true,bd]
   rw[eat_eq n ha1 (t:=[45]) (T:=[45]) ddc rfl]
   simp only[Option.bind_some]
   cases hp:pre [45] s1.cs with
   | false=>
     simp only[aa,if_false,Option.bind_some,cont]
     exact tail ha1 (by simp)
   | true=>
     simp only[if_true]
     have ha2:All (s1.skip 1):=ha1.suf (skip_suf _ _)
     rw[show (af [45])=1 from rfl,member_eq n ha2]
     cases hm2:memA (s1.skip 1) with
     | none=>exact absurd hm2 (mem_nn _)
     | some x=>
     cases x with
     | inr u=>rfl
     | inl x=>
     obtain ⟨m2,s2⟩:=x
     obtain ⟨b1,b2,b3,b4⟩:=mem_spec ha2 hm2
     cases m2 with
     | inr l=>rfl
     | inl high=>
       simp only[Option.map_some,outM,Option.bind_some,pcase,Bool.not_true,Bool.false_or]
       by_cases h5:high<low
       ·rw[if_pos h5,if_pos (dtt om)];rfl
       ·rw[if_neg h5,if_neg (by rw[dff om];decide)]
        simp only[Option.bind_some,cont]
        exact tail (ha2.suf b1) (by simp)
def outC (no:Bool):((List (Int × Int) × St) ⊕ Unit)→(PSt × PTu) ⊕ PRes
 | .inl (l,s)=>.inl (sp s,(3,0,0,no,false,l,[]))
 | .inr _=>.inr (.inr 1)
theorem item_len {s:St} {l:List (Int × Int)} {s':St} (h:itemA s=some (.inl (l,s'))):l.length≤4:=by
 unfold itemA at h
 obtain ⟨⟨m,s1⟩,h1,h⟩:=bd_ok h
 cases m with
 | inr l'=>cases h;exact mem_len h1
 | inl low=>
   simp only at h
   split at h
   ·obtain ⟨⟨m2,s2⟩,h2,h⟩:=bd_ok h
    cases m2 with
    | inr l'=>cases h
    | inl high=>
      simp only at h
      split at h
      ·cases h
      ·cases h;simp
   ·cases h;simp
theorem cls_lt {no:Bool}:∀ (k:Nat) (acc:List (Int × Int)) (s:St) (r:(List (Int × Int) × St) ⊕ Unit),All s→acc.length+4*s.cs.length≤100000→clsA k acc s=some r→LT clsF (sp s,(3,0,0,no,false,acc,[])) (· =outC no r)
 | 0,_,_,_,_,_,h=>by cases h
 | k+1,acc,s,r,ha,hl,h=>by
   rw[clsA]at h
   have hi:=fun n=>item_eq n ha (no:=no) (acc:=acc) om
   cases h1:itemA s with
   | none=>rw[h1]at h;cases h
   | some x=>
   rw[h1]at h hi
   cases x with
   | inr u=>cases h;exact LT.fin (Tot.alln hi) rfl
   | inl x=>
   obtain ⟨l,s1⟩:=x
   obtain ⟨a1,a2,a3,a4⟩:=item_spec ha h1
   have h4:=item_len h1
   simp only[bd]at h
   cases hp:pre [93] s1.cs with
   | true=>
     rw[hp,if_pos rfl]at h
     cases h
     refine LT.fin (Tot.alln fun n=>(hi n).trans ?_) rfl
     simp only[outI,hp,if_true]
     rfl
   | false=>
     rw[hp,if_neg ddc]at h
     refine LT.step (Tot.alln fun n=>(hi n).trans ?_) (cls_lt k (acc++l) s1 r (ha.suf a1) (by rw[ae];omega) h)
     simp only[outI,hp,aa,if_false]
end Go.Gv.X
namespace Go.Gv.X
open Go Go.Gv Go.Gv.D Go.Gv.R Go.Gv.P Go.Lib
set_option maxRecDepth 100000
/-! Own work: the parser's classes and escapes (2). -/
/-- own name for the loop body 0 of regex_merged -/
noncomputable def mrgF (r1:List (Int × Int)) (s10:((List (Int × Int)) × Int)):Option (((List (Int × Int)) × Int) ⊕ List (Int × Int)):=
 (if (decide (s10.2<((af r1:Nat):Int))) then (Option.bind (idx r1 s10.2) fun x23=>(Option.bind (if (decide (((af s10.1:Nat):Int)>0)) then (Option.bind (idx s10.1 (IntKind.i64.wrap (((af s10.1:Nat):Int)-1))) fun x41=>(some ((decide (x23.1≤(IntKind.i64.wrap (x41.2+1))))))) else (some (false))) fun (j36:Bool)=>(Option.bind (if j36 then (Option.bind (idx s10.1 (IntKind.i64.wrap (((af s10.1:Nat):Int)-1))) fun x77=>(Option.bind (idx s10.1 (IntKind.i64.wrap (((af s10.1:Nat):Int)-1))) fun x80=>(Option.bind (upd s10.1 (IntKind.i64.wrap (((af s10.1:Nat):Int)-1)) (x80.1,(if x77.2<x23.2 then x23.2 else x77.2))) fun l85=>(some (l85))))) else (Option.bind (app s10.1 ([(x23.1,x23.2)]:List (Int × Int))) fun l107=>(some (l107)))) fun (j72:(List (Int × Int)))=>(some (.inl (j72,(IntKind.i64.wrap (s10.2+1)))))))) else (some (.inr (s10.1))))
def Sml (l:List (Int × Int)):Prop:=∀ y∈l, -4000000000000000000≤y.2∧y.2≤4000000000000000000
theorem mrg_step {pre rest out:List (Int × Int)} {x:Int × Int} (hl:(pre++x::rest).length≤1000000) (ho:out.length≤pre.length) (hs:Sml out):
 mrgF (pre++x::rest) (out,(pre.length:Int))=some (.inl (mStep out x,((pre.length+1:Nat):Int))):=by
 unfold mrgF
 have h1:decide ((pre.length:Int)<(((pre++x::rest).length:Nat):Int))=true:=dtt oss
 rw[if_pos h1]
 simp only
 rw[get_mid pre x rest rfl]
 simp only[Option.bind_some]
 rw[ae]at hl
 have hw:IntKind.i64.wrap ((pre.length:Int)+1)=((pre.length+1:Nat):Int):=by rw[i64_small om om];rfl
 rw[hw]
 rcases ag out with rfl | ⟨o,y,rfl⟩
 ·rw[if_neg (by simp)]
  simp only[Option.bind_some,aa,if_false]
  rw[app_ok (by simp)]
  rfl
 ·rw[ai]at*
  have hy:=hs y (by simp)
  have hlen:IntKind.i64.wrap ((((o++[y]).length:Nat):Int)-1)=(o.length:Int):=by
   rw[ae]at ho ⊢
   simp only[ad]at ho ⊢
   rw[i64_small om om];omega
  rw[if_pos (dtt (by simp)),hlen,get_mid o y [] rfl]
  simp only[Option.bind_some]
  rw[i64_small (x:=y.2+1) om om]
  have hm:mStep (o++[y]) x=if x.1≤y.2+1 then o++[(y.1,max y.2 x.2)] else (o++[y])++[x]:=by
   unfold mStep
   rw[List.getLast?_append]
   simp
  rw[hm]
  by_cases hx:x.1≤y.2+1
  ·rw[if_pos hx,if_pos (dtt hx),upd_mid o y _ [] rfl]
   simp only[Option.bind_some]
   rw[show (if y.2<x.2 then x.2 else y.2)=max y.2 x.2 by omega]
  ·rw[if_neg hx,if_neg (by rw[dff hx];decide),app_ok (by simp only[ae,ad]at ho ⊢;omega)]
   rfl
theorem mStep_len (out:List (Int × Int)) (x:Int × Int):(mStep out x).length≤out.length+1:=by
 rcases ag out with rfl | ⟨o,y,rfl⟩
 ·simp[mStep]
 ·rw[ai]
  unfold mStep
  rw[List.getLast?_append]
  simp only[List.getLast?_singleton,Option.or_some,List.dropLast_concat]
  simp
  split<;>simp
theorem mStep_sml {out:List (Int × Int)} {x:Int × Int} (hs:Sml out) (hx: -4000000000000000000≤x.2∧x.2≤4000000000000000000):Sml (mStep out x):=by
 rcases ag out with rfl | ⟨o,y,rfl⟩
 ·intro z hz
  have:z=x:=by simpa [mStep] using hz
  rw[this];exact hx
 ·rw[ai]at*
  have hy:=hs y (by simp)
  intro z hz
  unfold mStep at hz
  rw[List.getLast?_append]at hz
  simp only[List.getLast?_singleton,Option.or_some,List.dropLast_concat,Option.some_or]at hz
  split at hz
  ·rcases List.mem_append.1 hz with h | h
   ·exact hs z (by simp[h])
   ·have:z=(y.1,max y.2 x.2):=by simpa using h
    rw[this];simp only;omega
  ·rcases List.mem_append.1 hz with h | h
   ·exact hs z h
   ·have:z=x:=by simpa using h
    rw[this];exact hx
theorem mrg_lt {l:List (Int × Int)} (hl:l.length≤1000000) (hs:Sml l):∀ (rest pre out:List (Int × Int)),l=pre++rest→out.length≤pre.length→Sml out→LT (fun _=>mrgF l) (out,(pre.length:Int)) (· =rest.foldl mStep out)
 | [],pre,out,e,ho,_=>by
   refine LT.fin (Tot.alln fun n=>?_) rfl
   unfold mrgF
   rw[if_neg]
   ·rfl
   ·rw[e,List.append_nil,dff om];decide
 | x::rest,pre,out,e,ho,hso=>by
   refine LT.step (Tot.alln fun n=>?_) (mrg_lt hl hs rest (pre++[x]) (mStep out x) (by rw[e];simp) (by have:=mStep_len out x;simp;omega) (mStep_sml hso (hs x (by rw[e];simp))))
   rw[e]at hl ⊢
   rw[mrg_step hl ho hso]
   simp
theorem merged_tot {l:List (Int × Int)} (hl:l.length≤1000000) (hs:Sml l):Tot (fun n=>regex_merged n l) (· =mergedL l):=by
 unfold regex_merged slices_SortFunc_s_2int__2int
 rw[if_pos om]
 simp only[Option.bind_some]
 obtain ⟨h1,_⟩:=sortR_spec l
 refine ac (P:=(· =mergedL l)) (LT.tot (F:=fun _=>mrgF (sortR l)) (mrg_lt (by rw[h1.length_eq];exact hl) (fun y hy=>hs y (h1.mem_iff.1 hy)) (sortR l) [] [] rfl (Nat.le_refl _) (fun y hy=>by cases hy))) fun a e=>?_
 exact ab e
theorem Rg.sml {l:List (Int × Int)} (h:Rg l):Sml l:=fun y hy=>by
 have:=(h.2.1 y hy).2
 unfold scal at this
 simp only[Bool.and_eq_true,decide_eq_true_eq,Bool.or_eq_true]at this
 omega
theorem cls_len:∀ (n:Nat) (acc:List (Int × Int)) (s:St),All s→∀ {l:List (Int × Int)} {s':St},clsA n acc s=some (.inl (l,s'))→l.length+4*s'.cs.length≤acc.length+4*s.cs.length
 | 0,acc,s,_,l,s',h=>by cases h
 | n+1,acc,s,ha,l,s',h=>by
   rw[clsA]at h
   obtain ⟨⟨m,s1⟩,h1,h⟩:=bd_ok h
   obtain ⟨a1,a2,a3,a4⟩:=item_spec ha h1
   have h4:=item_len h1
   simp only at h
   split at h
   ·cases h
    have:=(skip_suf s1 1).length_le
    rw[ae];omega
   ·have:=cls_len n (acc++m) s1 (ha.suf a1) h
    rw[ae]at this;omega
theorem cls_lt' {no:Bool} {k:Nat} {s:St} {r:(List (Int × Int) × St) ⊕ Unit} (ha:All s) (hl:s.cs.length≤1000) (h:clsA k [] s=some r):Tot (fun n=>loopN (clsF n) n (sp s,(3,0,0,no,false,[],[]))) (· =outC no r):=
 LT.tot (cls_lt k [] s r ha oss h)
theorem made_eq' (n:Nat) (s:St) (k lo hi:Int) (no lz:Bool) (rs:List (Int × Int)) (subs:List Pc):regex_parser_made n (sp s) (k,lo,hi,no,lz,rs,subs)=some ((k,lo,hi,no,lz,rs,subs),sp (made s (.mk k lo hi no lz rs subs)).2):=made_eq n s (.mk k lo hi no lz rs subs)
theorem class_tot {k:Nat} {s:St} {r:(Pc × St) ⊕ Unit} (ha:All s) (hl:s.cs.length≤1000) (h:classA k s=some r):Tot (fun n=>regex_parser_class n (sp s)) (· =outD Pc.un r):=by
 unfold regex_parser_class
 unfold classA at h
 have hsuf:(if pre [94] s.cs=true then s.skip 1 else s).cs <:+ s.cs:=by split;exact skip_suf _ _;exact List.suffix_refl _
 have ha0:All (if pre [94] s.cs=true then s.skip 1 else s):=ha.suf hsuf
 have hl0:=hsuf.length_le
 refine Tot.eqf (fun n=>by rw[eat_eq n ha (t:=[94]) (T:=[94]) ddc rfl]) ?_
 simp only[Option.bind_some]
 rw[show (af [94])=1 from rfl]
 cases hc:clsA k [] (if pre [94] s.cs=true then s.skip 1 else s) with
 | none=>rw[hc]at h;cases h
 | some x=>
 rw[hc]at h
 refine ac (cls_lt' (no:=pre [94] s.cs) ha0 om hc) fun a e=>?_
 subst e
 cases x with
 | inr u=>cases h;exact ab rfl
 | inl x=>
 obtain ⟨l,s1⟩:=x
 have hlen:=cls_len k [] _ ha0 hc
 obtain ⟨a1,a2,a3,a4⟩:=cls_spec k [] _ ha0 (.inl rfl) hc
 simp only[List.length_nil]at hlen
 cases h
 show Tot (fun n=>(regex_merged n l).bind fun r334=>_) _
 refine ac (merged_tot om a4.sml) fun a e=>?_
 subst e
 refine Tot.eqf (fun n=>by rw[made_eq' n s1]) ?_
 exact ab rfl
end Go.Gv.X
namespace Go.Gv.X
open Go Go.Gv Go.Gv.D Go.Gv.R Go.Gv.P Go.Lib
set_option maxRecDepth 100000
/-! Own work: the parser's escapes. -/
theorem escaped_eq (n:Nat) {s:St} (ha:All s):regex_parser_escaped n (sp s)=(escA s).map (outD Pc.un):=by
 unfold regex_parser_escaped
 obtain ⟨cs,np,ng,lg,ls⟩:=s
 cases cs with
 | nil=>rw[next_nil n (s:={ cs:=[],np:=np,ng:=ng,lg:=lg,ls:=ls}) rfl];rfl
 | cons c r=>
 have hc:Scal c:=ha c (List.mem_cons_self ..)
 have hcc:c≤1114111:=by unfold Scal at hc;omega
 rw[next_cons n (s:={ cs:=c::r,np:=np,ng:=ng,lg:=lg,ls:=ls}) hc rfl]
 simp only[Option.bind_some,pcase]
 have hM:escA { cs:=c::r,np:=np,ng:=ng,lg:=lg,ls:=ls}=
  if c=98∨c=66 then ok (made { cs:=r,np:=np,ng:=ng,lg:=lg,ls:=ls} (.mk 6 0 0 (c==66) false [] [])) else
  if 49≤c∧c≤57 then ok (made { cs:=r,np:=np,ng:=ng,lg:=lg,ls:=ls||decide (ng<c-48)} (.mk 12 ((c-48:Nat):Int) 0 false false [] [])) else
  if namedA c≠[] then ok (made { cs:=r,np:=np,ng:=ng,lg:=lg,ls:=ls} (.mk 3 0 0 false false (namedA c) [])) else
  if c=68∨c=87∨c=83 then ok (made { cs:=r,np:=np,ng:=ng,lg:=lg,ls:=ls} (.mk 3 0 0 true false (namedA (c+32)) [])) else
  match symA c with
  | none=>er
  | some d=>ok (made { cs:=r,np:=np,ng:=ng,lg:=lg,ls:=ls} (.mk 1 (d:Int) 0 false false [] [])):=rfl
 rw[hM]
 by_cases h1:c=98∨c=66
 ·rw[if_pos h1,if_pos oss,made_eq' n { cs:=r,np:=np,ng:=ng,lg:=lg,ls:=ls}]
  have:((c:Int)==66)=(c==66):=by rw[Bool.eq_iff_iff];simp;omega
  rw[this]
  rfl
 rw[if_neg h1,if_neg oss]
 by_cases h2:49≤c∧c≤57
 ·rw[if_pos h2,if_pos oss,i64_small (x:=(c:Int)-48) om om]
  have e1:(c:Int)-48=((c-48:Nat):Int):=by omega
  rw[e1]
  have e2:decide (((c-48:Nat):Int)>(ng:Int))=decide (ng<c-48):=by rw[Bool.eq_iff_iff];simp only[decide_eq_true_eq];omega
  rw[e2]
  cases ls with
  | true=>
    simp only[if_true,Option.bind_some]
    rw[made_eq' n { cs:=r,np:=np,ng:=ng,lg:=lg,ls:=true}]
    rfl
  | false=>
    simp only[aa,if_false,Option.bind_some]
    rw[made_eq' n { cs:=r,np:=np,ng:=ng,lg:=lg,ls:=decide (ng<c-48)},Bool.false_or]
    rfl
 rw[if_neg h2,if_neg oss,named_eq]
 simp only[Option.bind_some]
 by_cases h3:namedA c≠[]
 ·rw[if_pos h3,if_pos (by cases hn:namedA c with | nil=>exact absurd hn h3 | cons=>rfl)]
  rw[made_eq' n { cs:=r,np:=np,ng:=ng,lg:=lg,ls:=ls}]
  rfl
 rw[if_neg h3,if_neg (by rw[Classical.not_not.1 h3];decide)]
 by_cases h4:c=68∨c=87∨c=83
 ·rw[if_pos h4,if_pos oss,i64_small (x:=(c:Int)+97) om om,i64_small om om]
  rw[show (c:Int)+97-65=((c+32:Nat):Int) by omega,named_eq]
  simp only[Option.bind_some]
  rw[made_eq' n { cs:=r,np:=np,ng:=ng,lg:=lg,ls:=ls}]
  rfl
 rw[if_neg h4,if_neg oss,symbol_eq]
 cases symA c with
 | none=>rfl
 | some d=>
   simp only[Option.bind_some,pcase]
   rw[made_eq' n { cs:=r,np:=np,ng:=ng,lg:=lg,ls:=ls}]
   rfl
end Go.Gv.X
namespace Go.Gv.X
open Go Go.Gv Go.Gv.D Go.Gv.R Go.Gv.P Go.Lib
set_option maxRecDepth 100000
/-! Own work: the parser does what the abstract one does. -/
/-- own name for the loop body 0 of regex_parser_alternatives -/
noncomputable def altF (fuel:Nat) (s69:((List Pc) × (ByteArray × Int × Int × Bool × Bool))):Option ((List Pc × PSt) ⊕ ((List Pc × PSt) ⊕ PRes)):=
 (Option.bind (regex_parser_eat fuel (s69.2.1,s69.2.2.1,s69.2.2.2.1,s69.2.2.2.2.1,s69.2.2.2.2.2) (strOf [124])) fun r86=>(if r86.1 then (Option.bind (regex_parser_sequence fuel (r86.2.1,r86.2.2.1,r86.2.2.2.1,r86.2.2.2.2.1,r86.2.2.2.2.2)) (pcase (fun r93=>(Option.bind (app s69.1 ([(Pc.of (r93.1.1,r93.1.2.1,r93.1.2.2.1,r93.1.2.2.2.1,r93.1.2.2.2.2.1,r93.1.2.2.2.2.2.1,r93.1.2.2.2.2.2.2))]:List Pc)) fun l158=>(some (.inl (l158,(r93.2.1,r93.2.2.1,r93.2.2.2.1,r93.2.2.2.2.1,r93.2.2.2.2.2)))))) (fun pn96=>(some (.inr (.inr (.inr pn96))))))) else (some (.inr (.inl (s69.1,(r86.2.1,r86.2.2.1,r86.2.2.2.1,r86.2.2.2.2.1,r86.2.2.2.2.2)))))))
/-- own name for the loop body 0 of regex_parser_sequence -/
noncomputable def seqF (fuel:Nat) (s10:((List Pc) × (ByteArray × Int × Int × Bool × Bool))):Option ((List Pc × PSt) ⊕ ((List Pc × PSt) ⊕ PRes)):=
 (Option.bind (if (!(s10.2.1.toList==(strOf []).toList)) then (Option.bind (regex_parser_ahead fuel (s10.2.1,s10.2.2.1,s10.2.2.2.1,s10.2.2.2.2.1,s10.2.2.2.2.2) (strOf [124,41])) fun r29=>(some (((!r29),(s10.2.1,s10.2.2.1,s10.2.2.2.1,s10.2.2.2.2.1,s10.2.2.2.2.2))))) else (some ((false,(s10.2.1,s10.2.2.1,s10.2.2.2.1,s10.2.2.2.2.1,s10.2.2.2.2.2))))) fun (j26:(Bool × (ByteArray × Int × Int × Bool × Bool)))=>(if j26.1 then (Option.bind (regex_parser_repeated fuel (j26.2.1,j26.2.2.1,j26.2.2.2.1,j26.2.2.2.2.1,j26.2.2.2.2.2)) (pcase (fun r46=>(Option.bind (app s10.1 ([(Pc.of (r46.1.1,r46.1.2.1,r46.1.2.2.1,r46.1.2.2.2.1,r46.1.2.2.2.2.1,r46.1.2.2.2.2.2.1,r46.1.2.2.2.2.2.2))]:List Pc)) fun l107=>(some (.inl (l107,(r46.2.1,r46.2.2.1,r46.2.2.2.1,r46.2.2.2.2.1,r46.2.2.2.2.2)))))) (fun pn49=>(some (.inr (.inr (.inr pn49))))))) else (some (.inr (.inl (s10.1,(j26.2.1,j26.2.2.1,j26.2.2.2.1,j26.2.2.2.2.1,j26.2.2.2.2.2)))))))
def Gd (s:St):Prop:=All s∧s.cs.length≤1000∧s.ng+s.cs.length≤100000
theorem Gd.inv {s s':St} {l:List Pc} (h:Gd s) (i:Inv s l s'):Gd s':=⟨h.1.suf i.cs,Nat.le_trans i.cs.length_le h.2.1,Nat.le_trans i.gl h.2.2⟩
theorem Gd.skip {s:St} (h:Gd s) (k:Nat):Gd (s.skip k):=h.inv (Inv.skip (skip_suf s k) rfl rfl id id)
theorem Tot.assoc {α β γ:Type} {f:Nat→Option α} {g:Nat→α→Option β} {k:Nat→β→Option γ} {Q:γ→Prop} (h:Tot (fun n=>(f n).bind fun a=>(g n a).bind (k n)) Q):Tot (fun n=>((f n).bind (g n)).bind (k n)) Q:=
 Tot.eqf (fun n=>by cases f n<;>rfl) h
theorem wrap_tail (n:Nat) (k:Int) (l:List Pc) (s:St):
 (if (((l.length:Nat):Int)==1)=true then (idx l 0).bind fun x=>(some (.inl (x.un,sp s)):Option PRes) else (regex_parser_made n (sp s) (k,0,0,false,false,[],l)).bind fun r=>some (.inl (r.1,r.2)))=some (outD Pc.un (.inl (wrapA k l s))):=by
 match l with
 | []=>rw[if_neg (by simp),made_eq' n s];rfl
 | [p]=>rfl
 | p::q::r=>rw[if_neg oss,made_eq' n s];rfl
def outL (k:Int) (r:(Pc × St) ⊕ Unit) (x:(List Pc × PSt) ⊕ PRes):Prop:=match x with
 | .inl y=>∃ s',y.2=sp s'∧r= .inl (wrapA k y.1 s')
 | .inr y=>y= .inr 1∧r= .inr ()
theorem S124:St8 [124,41]:=st8 (by kernel_rfl) ddc
theorem S42:St8 [42,43,63,123]:=st8 (by kernel_rfl) ddc
theorem S42b:St8 [42,43,63,123,125,93]:=st8 (by kernel_rfl) ddc
theorem read_tot:∀ k:Nat,
 (∀ s r,Gd s→altsA k s=some r→Tot (fun n=>regex_parser_alternatives n (sp s)) (· =outD Pc.un r))∧
 (∀ l s r,Gd s→l.length+s.cs.length≤100000→altRA k l s=some r→LT altF (l,sp s) (outL 9 r))∧
 (∀ s r,Gd s→seqA k s=some r→Tot (fun n=>regex_parser_sequence n (sp s)) (· =outD Pc.un r))∧
 (∀ l s r,Gd s→l.length+s.cs.length≤100000→seqRA k l s=some r→LT seqF (l,sp s) (outL 8 r))∧
 (∀ s r,Gd s→repA k s=some r→Tot (fun n=>regex_parser_repeated n (sp s)) (· =outD Pc.un r))∧
 (∀ s r,Gd s→atomA k s=some r→Tot (fun n=>regex_parser_atom n (sp s)) (· =outD Pc.un r))∧
 (∀ s kd low no r,Gd s→insA k s kd low no=some r→Tot (fun n=>regex_parser_inside n (sp s) (kd,low,0,no,false,[],[])) (· =outD Pc.un r)):=by
 intro k
 induction k with
 | zero=>exact ⟨fun _ _ _ h=>(by cases h),fun _ _ _ _ _ h=>(by cases h),fun _ _ _ h=>(by cases h),fun _ _ _ _ _ h=>(by cases h),fun _ _ _ h=>(by cases h),fun _ _ _ h=>(by cases h),fun _ _ _ _ _ _ h=>(by cases h)⟩
 | succ k ih=>
   obtain ⟨iA,iAR,iS,iSR,iR,iAt,iI⟩:=ih
   obtain ⟨oA,oAR,oS,oSR,oR,oAt,oI⟩:=read_ok k
   refine ⟨fun s r hg h=>?_,fun l s r hg hl h=>?_,fun s r hg h=>?_,fun l s r hg hl h=>?_,fun s r hg h=>?_,fun s r hg h=>?_,fun s kd low no r hg h=>?_⟩
   · -- alternatives
     rw[altsA]at h
     refine Tot.suc (Tot.eqf (fun n=>regex_parser_alternatives.eq_2 ..) ?_)
     cases h1:seqA k s with
     | none=>rw[h1]at h;cases h
     | some x=>
     rw[h1]at h
     refine ac (iS s _ hg h1) fun a e=>?_
     subst e
     cases x with
     | inr u=>cases h;exact ab rfl
     | inl x=>
     obtain ⟨p,s1⟩:=x
     have hi:=(oS s _ hg.1 h1).inv
     have hL:=iAR [p] s1 r (hg.inv hi) (by have h1:s1.cs.length≤s.cs.length:=hi.cs.length_le;have:=hg.2.1;simp only[ad];omega) h
     cases p
     refine ac (P:=outL 9 r) (LT.tot hL) fun a ha=>?_
     cases a with
     | inr y=>obtain ⟨rfl,rfl⟩:=ha;exact ab rfl
     | inl y=>
       obtain ⟨l',y2⟩:=y
       obtain ⟨s',rfl,rfl⟩:=ha
       exact Tot.alln fun n=>wrap_tail n 9 l' s'
   · -- more alternatives
     rw[altRA]at h
     by_cases hp:pre [124] s.cs=true
     ·rw[if_pos hp]at h
      have hs1:=hg.skip 1
      have hlen:(s.skip 1).cs.length+1=s.cs.length:=skip_len (t:=[124]) hp
      cases h1:seqA k (s.skip 1) with
      | none=>rw[h1]at h;cases h
      | some x=>
      rw[h1]at h
      have hT:=iS _ _ hs1 h1
      cases x with
      | inr u=>
        cases h
        refine LT.fin ?_ (show outL 9 _ (.inr (.inr 1)) from ⟨rfl,rfl⟩)
        unfold altF
        refine Tot.eqf (fun n=>by rw[eat_eq n hg.1 (t:=[124]) (T:=[124]) ddc rfl]) ?_
        simp only[hp,Option.bind_some,if_true]
        refine ac hT fun a e=>?_
        subst e
        exact ab rfl
      | inl x=>
        obtain ⟨p,s2⟩:=x
        have hi:=(oS _ _ hs1.1 h1).inv
        have hle:=hi.cs.length_le
        simp only at hle
        have:=iAR (l++[p]) s2 r (hs1.inv hi) (by rw[ae];simp only[ad];omega) h
        refine LT.step ?_ this
        unfold altF
        refine Tot.eqf (fun n=>by rw[eat_eq n hg.1 (t:=[124]) (T:=[124]) ddc rfl]) ?_
        simp only[hp,Option.bind_some,if_true]
        refine ac hT fun a e=>?_
        subst e
        cases p
        exact Tot.bind0 (app_ok oss) (ab rfl)
     ·rw[if_neg hp]at h
      cases h
      refine LT.fin ?_ (show outL 9 _ (.inl (l,sp s)) from ⟨s,rfl,rfl⟩)
      unfold altF
      refine Tot.eqf (fun n=>by rw[eat_eq n hg.1 (t:=[124]) (T:=[124]) ddc rfl]) ?_
      simp only[Bool.eq_false_iff.2 hp,Option.bind_some,aa,if_false]
      exact ab rfl
   · -- a sequence
     rw[seqA]at h
     refine Tot.suc (Tot.eqf (fun n=>regex_parser_sequence.eq_2 ..) ?_)
     have hL:=iSR [] s r hg (by have:=hg.2.1;simp only[List.length_nil];omega) h
     refine ac (P:=outL 8 r) (LT.tot hL) fun a ha=>?_
     cases a with
     | inr y=>obtain ⟨rfl,rfl⟩:=ha;exact ab rfl
     | inl y=>
       obtain ⟨l',y2⟩:=y
       obtain ⟨s',rfl,rfl⟩:=ha
       exact Tot.alln fun n=>wrap_tail n 8 l' s'
   · -- more of a sequence
     rw[seqRA]at h
     have hcond:∀ n,(if (!((sp s).1.toList==(strOf []).toList))=true then (regex_parser_ahead n (sp s) (strOf [124,41])).bind fun r29=>some ((!r29),sp s) else some (false,sp s))=some (decide (¬ (s.cs=[]∨ah [124,41] s=true)),sp s):=fun n=>by
      rw[ahead_eq n hg.1 (T:=[124,41]) S124 rfl]
      cases hc:s.cs with
      | nil=>
        rw[show (sp s).1=strOf [] by show strOf (enc s.cs)=_;rw[hc];rfl,str_nil]
        simp
      | cons c t=>
        rw[show (sp s).1=strOf (enc (c::t)) by show strOf (enc s.cs)=_;rw[hc],str_enc (hg.1 c (by rw[hc];simp))]
        simp
     by_cases hp:s.cs=[]∨ah [124,41] s=true
     ·rw[if_pos hp]at h
      cases h
      refine LT.fin ?_ (show outL 8 _ (.inl (l,sp s)) from ⟨s,rfl,rfl⟩)
      unfold seqF
      refine ac (P:=(· =_)) (Tot.alln hcond) fun a e=>?_
      subst e
      rw[dff (not_not_intro hp)]
      exact ab rfl
     ·rw[if_neg hp]at h
      rw[dtt hp]at hcond
      cases h1:repA k s with
      | none=>rw[h1]at h;cases h
      | some x=>
      rw[h1]at h
      have hT:=iR _ _ hg h1
      cases x with
      | inr u=>
        cases h
        refine LT.fin ?_ (show outL 8 _ (.inr (.inr 1)) from ⟨rfl,rfl⟩)
        unfold seqF
        refine ac (P:=(· =_)) (Tot.alln hcond) fun a e=>?_
        subst e
        refine ac hT fun a e=>?_
        subst e
        exact ab rfl
      | inl x=>
        obtain ⟨p,s2⟩:=x
        have hR:=oR _ _ hg.1 h1
        have hi:=hR.inv
        have hle:=hR.sz
        have hpos:=size_pos p
        simp only at hle
        have:=iSR (l++[p]) s2 r (hg.inv hi) (by rw[ae];simp only[ad];omega) h
        refine LT.step ?_ this
        unfold seqF
        refine ac (P:=(· =_)) (Tot.alln hcond) fun a e=>?_
        subst e
        refine ac hT fun a e=>?_
        subst e
        cases p
        exact Tot.bind0 (app_ok oss) (ab rfl)
   · -- a repetition
     rw[repA]at h
     refine Tot.suc (Tot.eqf (fun n=>regex_parser_repeated.eq_2 ..) ?_)
     cases h1:atomA k s with
     | none=>rw[h1]at h;cases h
     | some x=>
     rw[h1]at h
     refine ac (iAt s _ hg h1) fun a e=>?_
     subst e
     cases x with
     | inr u=>cases h;exact ab rfl
     | inl x=>
     obtain ⟨p,s1⟩:=x
     have hg1:=hg.inv (oAt s _ hg.1 h1).inv
     simp only[bd]at h
     simp only[outD,pcase]
     refine Tot.eqf (fun n=>by rw[bounds_eq n hg1.1 hg1.2.1]) ?_
     cases hb:boundsA s1 with
     | none=>rw[hb]at h;cases h
     | some y=>
     rw[hb]at h
     cases y with
     | inr u=>cases h;exact ab rfl
     | inl y=>
     obtain ⟨b,s2⟩:=y
     obtain ⟨b1,b2,b3,b4,b5,b6,b7⟩:=bounds_spec hb
     have hg2:Gd s2:=hg1.inv (Inv.skip b2 b3 b4 b6 (by rw[b5];exact id))
     cases b with
     | none=>cases h;cases p;exact ab rfl
     | some b=>
     obtain ⟨lo,hi⟩:=b
     simp only at h
     obtain ⟨kd,l0,h0,n0,z0,rs,subs⟩:=p
     simp only[Option.map_some,outB,Option.bind_some,pcase,Bool.not_true,aa,if_false]
     have hj:(if (kd==4)=true then some (kd==4) else if (kd==5)=true then some (kd==5) else if (kd==6)=true then some (kd==6) else some (kd==11))=some (decide (kd=4∨kd=5∨kd=6∨kd=11)):=by
      by_cases h1:kd=4
      ·subst h1;rfl
      by_cases h2:kd=5
      ·subst h2;rfl
      by_cases h3:kd=6
      ·subst h3;rfl
      by_cases h4:kd=11
      ·subst h4;rfl
      ·simp[h1,h2,h3,h4]
     refine ac (P:=(· =decide (kd=4∨kd=5∨kd=6∨kd=11))) (Tot.alln fun _=>hj) fun a e=>?_
     subst e
     by_cases hk:kd=4∨kd=5∨kd=6∨kd=11
     ·have hk':Pc.kind (.mk kd l0 h0 n0 z0 rs subs)=4∨Pc.kind (.mk kd l0 h0 n0 z0 rs subs)=5∨Pc.kind (.mk kd l0 h0 n0 z0 rs subs)=6∨Pc.kind (.mk kd l0 h0 n0 z0 rs subs)=11:=hk
      rw[if_pos hk']at h
      cases h
      rw[dtt hk]
      exact ab rfl
     have hk':¬ (Pc.kind (.mk kd l0 h0 n0 z0 rs subs)=4∨Pc.kind (.mk kd l0 h0 n0 z0 rs subs)=5∨Pc.kind (.mk kd l0 h0 n0 z0 rs subs)=6∨Pc.kind (.mk kd l0 h0 n0 z0 rs subs)=11):=hk
     rw[if_neg hk']at h
     rw[dff hk]
     simp only[aa,if_false,Option.bind_some,cont]
     refine Tot.eqf (fun n=>by rw[eat_eq n hg2.1 (t:=[63]) (T:=[63]) ddc rfl]) ?_
     simp only[Option.bind_some,ad]
     have hg3:Gd (if pre [63] s2.cs=true then s2.skip 1 else s2):=by split;exact hg2.skip 1;exact hg2
     generalize (if pre [63] s2.cs=true then s2.skip 1 else s2)=s3 at*
     refine Tot.eqf (fun n=>by rw[made_eq' n s3]) ?_
     simp only[Option.bind_some]
     refine Tot.eqf (fun n=>by rw[ahead_eq n (s:=(made s3 _).2) hg3.1 (T:=[42,43,63,123]) S42 rfl]) ?_
     simp only[Option.bind_some]
     rw[show ∀ p,ah [42,43,63,123] (made s3 p).2=ah [42,43,63,123] s3 from fun _=>rfl]
     by_cases hq:ah [42,43,63,123] s3=true
     ·rw[if_pos hq]at h
      cases h
      rw[hq]
      exact ab rfl
     ·rw[if_neg hq]at h
      cases h
      rw[Bool.eq_false_iff.2 hq]
      exact ab rfl
   · -- an atom
     rw[atomA]at h
     refine Tot.suc (Tot.eqf (fun n=>regex_parser_atom.eq_2 ..) ?_)
     refine Tot.eqf (fun n=>by rw[eat_eq n hg.1 (t:=[40,63,58]) (T:=[40,63,58]) ddc rfl]) ?_
     simp only[Option.bind_some]
     by_cases hp:pre [40,63,58] s.cs=true
     ·rw[if_pos hp]at h
      simp only[hp,if_true]
      refine ac (iI (s.skip 3) _ _ _ r (hg.skip 3) h) fun a e=>?_
      subst e
      cases r with
      | inl x=>exact ab rfl
      | inr u=>exact ab rfl
     rw[if_neg hp]at h
     simp only[Bool.eq_false_iff.2 hp,aa,if_false]
     clear hp
     refine Tot.eqf (fun n=>by rw[eat_eq n hg.1 (t:=[40,63,61]) (T:=[40,63,61]) ddc rfl]) ?_
     simp only[Option.bind_some]
     by_cases hp:pre [40,63,61] s.cs=true
     ·rw[if_pos hp]at h
      simp only[hp,if_true]
      refine ac (iI (s.skip 3) _ _ _ r (hg.skip 3) h) fun a e=>?_
      subst e
      cases r with
      | inl x=>exact ab rfl
      | inr u=>exact ab rfl
     rw[if_neg hp]at h
     simp only[Bool.eq_false_iff.2 hp,aa,if_false]
     clear hp
     refine Tot.eqf (fun n=>by rw[eat_eq n hg.1 (t:=[40,63,33]) (T:=[40,63,33]) ddc rfl]) ?_
     simp only[Option.bind_some]
     by_cases hp:pre [40,63,33] s.cs=true
     ·rw[if_pos hp]at h
      simp only[hp,if_true]
      refine ac (iI (s.skip 3) _ _ _ r (hg.skip 3) h) fun a e=>?_
      subst e
      cases r with
      | inl x=>exact ab rfl
      | inr u=>exact ab rfl
     rw[if_neg hp]at h
     simp only[Bool.eq_false_iff.2 hp,aa,if_false]
     clear hp
     refine Tot.eqf (fun n=>by rw[eat_eq n hg.1 (t:=[40,63]) (T:=[40,63]) ddc rfl]) ?_
     simp only[Option.bind_some]
     by_cases hp:pre [40,63] s.cs=true
     ·rw[if_pos hp]at h
      simp only[hp,if_true]
      cases h
      exact ab rfl
     rw[if_neg hp]at h
     simp only[Bool.eq_false_iff.2 hp,aa,if_false]
     clear hp
     refine Tot.eqf (fun n=>by rw[eat_eq n hg.1 (t:=[40]) (T:=[40]) ddc rfl]) ?_
     simp only[Option.bind_some]
     by_cases hp:pre [40] s.cs=true
     ·rw[if_pos hp]at h
      simp only[hp,if_true]
      have hlen:(s.skip 1).cs.length+1=s.cs.length:=skip_len (t:=[40]) hp
      have hgi:Gd { s.skip 1 with ng:=s.ng+1}:=⟨(hg.skip 1).1,(hg.skip 1).2.1,by have:=hg.2.2;show s.ng+1+(s.skip 1).cs.length≤_;omega⟩
      have hw:IntKind.i64.wrap ((s.ng:Int)+1)=((s.ng+1:Nat):Int):=by have:=hg.2.2;rw[i64_small om om];rfl
      have hh:=iI { s.skip 1 with ng:=s.ng+1} _ _ _ r hgi h
      have hw':IntKind.i64.wrap (((s.skip 1).ng:Int)+1)=((s.ng+1:Nat):Int):=hw
      rw[show (af [40])=1 from rfl,hw']
      refine Tot.assoc (ac (hh) fun a e=>?_)
      subst e
      cases r with
      | inl x=>exact ab rfl
      | inr u=>exact ab rfl
     rw[if_neg hp]at h
     simp only[Bool.eq_false_iff.2 hp,aa,if_false]
     clear hp
     refine Tot.eqf (fun n=>by rw[eat_eq n hg.1 (t:=[91]) (T:=[91]) ddc rfl]) ?_
     simp only[Option.bind_some]
     by_cases hp:pre [91] s.cs=true
     ·rw[if_pos hp]at h
      simp only[hp,if_true]
      refine Tot.assoc (ac (class_tot (hg.skip 1).1 (hg.skip 1).2.1 h) fun a e=>?_)
      subst e
      cases r with
      | inl x=>exact ab rfl
      | inr u=>exact ab rfl
     rw[if_neg hp]at h
     simp only[Bool.eq_false_iff.2 hp,aa,if_false]
     clear hp
     refine Tot.eqf (fun n=>by rw[eat_eq n hg.1 (t:=[92]) (T:=[92]) ddc rfl]) ?_
     simp only[Option.bind_some]
     by_cases hp:pre [92] s.cs=true
     ·rw[if_pos hp]at h
      simp only[hp,if_true]
      refine Tot.eqf (fun n=>by rw[show (af [92])=1 from rfl,escaped_eq n (hg.skip 1).1]) ?_
      rw[h]
      cases r with
      | inl x=>exact ab rfl
      | inr u=>exact ab rfl
     rw[if_neg hp]at h
     simp only[Bool.eq_false_iff.2 hp,aa,if_false]
     clear hp
     refine Tot.eqf (fun n=>by rw[eat_eq n hg.1 (t:=[46]) (T:=[46]) ddc rfl]) ?_
     simp only[Option.bind_some]
     by_cases hp:pre [46] s.cs=true
     ·rw[if_pos hp]at h
      simp only[hp,if_true]
      cases h
      refine Tot.eqf (fun n=>by rw[show (af [46])=1 from rfl,made_eq' n (s.skip 1)]) ?_
      exact ab rfl
     rw[if_neg hp]at h
     simp only[Bool.eq_false_iff.2 hp,aa,if_false]
     clear hp
     refine Tot.eqf (fun n=>by rw[eat_eq n hg.1 (t:=[94]) (T:=[94]) ddc rfl]) ?_
     simp only[Option.bind_some]
     by_cases hp:pre [94] s.cs=true
     ·rw[if_pos hp]at h
      simp only[hp,if_true]
      cases h
      refine Tot.eqf (fun n=>by rw[show (af [94])=1 from rfl,made_eq' n (s.skip 1)]) ?_
      exact ab rfl
     rw[if_neg hp]at h
     simp only[Bool.eq_false_iff.2 hp,aa,if_false]
     clear hp
     refine Tot.eqf (fun n=>by rw[eat_eq n hg.1 (t:=[36]) (T:=[36]) ddc rfl]) ?_
     simp only[Option.bind_some]
     by_cases hp:pre [36] s.cs=true
     ·rw[if_pos hp]at h
      simp only[hp,if_true]
      cases h
      refine Tot.eqf (fun n=>by rw[show (af [36])=1 from rfl,made_eq' n (s.skip 1)]) ?_
      exact ab rfl
     rw[if_neg hp]at h
     simp only[Bool.eq_false_iff.2 hp,aa,if_false]
     clear hp
     by_cases hp:ah [42,43,63,123,125,93] s=true
     ·rw[if_pos hp]at h
      cases h
      refine Tot.eqf (fun n=>by rw[ahead_eq n hg.1 (T:=[42,43,63,123,125,93]) S42b rfl]) ?_
      rw[hp]
      exact ab rfl
     rw[if_neg hp]at h
     refine Tot.eqf (fun n=>by rw[ahead_eq n hg.1 (T:=[42,43,63,123,125,93]) S42b rfl]) ?_
     rw[Bool.eq_false_iff.2 hp]
     simp only[Option.bind_some,aa,if_false,cont]
     split at h
     ·rename_i hcs
      cases h
      refine Tot.eqf (fun n=>by rw[next_nil n hcs]) ?_
      exact ab rfl
     ·rename_i c t hcs
      cases h
      refine Tot.eqf (fun n=>by rw[next_cons n (hg.1 c (by rw[hcs];simp)) hcs]) ?_
      simp only[Option.bind_some,pcase]
      refine Tot.eqf (fun n=>by rw[made_eq' n { s with cs:=t}]) ?_
      exact ab rfl
   · -- what is inside
     rw[insA]at h
     refine Tot.suc (Tot.eqf (fun n=>regex_parser_inside.eq_2 ..) ?_)
     cases h1:altsA k s with
     | none=>rw[h1]at h;cases h
     | some x=>
     rw[h1]at h
     refine ac (iA s _ hg h1) fun a e=>?_
     subst e
     cases x with
     | inr u=>cases h;exact ab rfl
     | inl x=>
     obtain ⟨p,s1⟩:=x
     have hg1:=hg.inv (oA s _ hg.1 h1).inv
     simp only[bd]at h
     simp only[outD,pcase]
     cases p
     refine Tot.eqf (fun n=>by rw[eat_eq n hg1.1 (t:=[41]) (T:=[41]) ddc rfl]) ?_
     simp only[Option.bind_some,ad]
     by_cases hp:pre [41] s1.cs=true
     ·rw[if_pos hp]at h
      cases h
      simp only[hp,Bool.not_true,aa,if_false,if_true,Option.bind_some,cont]
      refine Tot.eqf (fun n=>by rw[made_eq' n (s1.skip 1)]) ?_
      exact ab rfl
     ·rw[if_neg hp]at h
      cases h
      rw[Bool.eq_false_iff.2 hp]
      exact ab rfl
end Go.Gv.X
