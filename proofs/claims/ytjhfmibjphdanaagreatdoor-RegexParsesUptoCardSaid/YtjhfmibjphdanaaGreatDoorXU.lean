import Derived.Test.YtjhfmibjphdanaaGreatDoorXR
set_option linter.all false
open List renaming length_cons→aa,length_append→ab,flatten_cons→ae,append_nil→aj,append_assoc→ak,length_nil→al,flatten_nil→am,intercalate→ap,map_cons→aq,length→ar
open Bool renaming false_eq_true→ac
open Go.Gv.Tot renaming bind0→ad,ret→af,bindq→ai,if_→an,it→ao
open Int renaming reduceBEq→ag
namespace Go.Gv.X
open Go Go.Gv Go.Gv.D Go.Gv.R Go.Gv.P Go.Lib
set_option maxRecDepth 100000
/-! Own work: how a piece is written (2). -/
/-- own name for the loop body 0 of regex_text -/
noncomputable def txtF (subs:List Pc) (fuel:Nat) (s9:((List ByteArray) × Int)):Option (((List ByteArray) × Int) ⊕ (List ByteArray)):=
 (if (decide (s9.2<((ar subs:Nat):Int))) then (Option.bind (idx subs s9.2) fun x22=>(Option.bind (regex_text fuel ((Pc.un x22).1,(Pc.un x22).2.1,(Pc.un x22).2.2.1,(Pc.un x22).2.2.2.1,(Pc.un x22).2.2.2.2.1,(Pc.un x22).2.2.2.2.2.1,(Pc.un x22).2.2.2.2.2.2)) fun r41=>(Option.bind (app s9.1 ([r41]:List ByteArray)) fun l61=>(some (.inl (l61,(IntKind.i64.wrap (s9.2+1)))))))) else (some (.inr (s9.1))))
/-- own name for the loop body 0 of ref4_PieceText -/
noncomputable def ptF (k:Int) (subs:List Pc) (fuel:Nat) (s9:(ByteArray × Int)):Option ((ByteArray × Int) ⊕ ByteArray):=
 (if (decide (s9.2<((ar subs:Nat):Int))) then (Option.bind (if (decide (s9.2>0)) then (some ((k==9))) else (some (false))) fun (j16:Bool)=>(Option.bind (if j16 then (Option.bind (cat s9.1 (strOf [124])) fun x26=>(some (x26))) else (some (s9.1))) fun (j23:ByteArray)=>(Option.bind (idx subs s9.2) fun x32=>(Option.bind (ref4_PieceText fuel ((Pc.un x32).1,(Pc.un x32).2.1,(Pc.un x32).2.2.1,(Pc.un x32).2.2.2.1,(Pc.un x32).2.2.2.2.1,(Pc.un x32).2.2.2.2.2.1,(Pc.un x32).2.2.2.2.2.2)) fun r41=>(Option.bind (cat j23 r41) fun x46=>(some (.inl (x46,(IntKind.i64.wrap (s9.2+1)))))))))) else (some (.inr (s9.1))))
def nodeT (k lo hi:Int) (no lz:Bool) (rs:List (Int × Int)) (ts:List (List Nat)):List Nat:=
    if k=1 then spellN lo SP else if k=2 then [46] else if k=3 then clsN no rs else if k=4 then [94] else if k=5 then [36] else
    if k=6 then (if no then [92,66] else [92,98]) else
    if k=7 then (if lo=0 then [40,63,58] else [40])++(ts.headD []++[41]) else
    if k=8 then ts.flatten else if k=9 then interN ts else
    if k=10 then ts.headD []++(tmsN lo hi++if lz then [63] else []) else
    if k=11 then (if no then [40,63,33] else [40,63,61])++(ts.headD []++[41]) else 92::decN lo
theorem txt_node (k lo hi:Int) (no lz:Bool) (rs:List (Int × Int)) (subs:List Pc):txt (.mk k lo hi no lz rs subs)=nodeT k lo hi no lz rs (txtL subs):=by rw[txt];rfl
theorem cls_len' {no:Bool} {rs:List (Int × Int)} (h:ordR rs=true):(clsN no rs).length≤5600000:=by
 have h1:=ord_len' h
 have h2:=flat_len rs
 unfold clsN
 cases no<;>simp only[ab,aa,al,ac,if_false,if_true]<;>omega
theorem inter_len:∀ (ts:List (List Nat)),(interN ts).length≤ts.flatten.length+ts.length
 | []=>by simp[interN]
 | t::ts=>by
   have:(ts.flatMap fun u=>124::u).length=ts.flatten.length+ts.length:=by
    induction ts with
    | nil=>rfl
    | cons u us ih=>rw[List.flatMap_cons,ab,ih,ae,ab,aa,aa];omega
   rw[interN,ab,this,ae,ab,aa]
   omega
theorem preL_node {g g':Nat} {k lo hi:Int} {no lz:Bool} {rs:List (Int × Int)} {subs:List Pc} (h:chkL g (preP (.mk k lo hi no lz rs subs))=some g'):∃ g1,nodeC g (k,lo,hi,no,lz,rs,subs)= .inr g1∧chkL g1 (preL subs)=some g':=by
 rw[pre_eq,chkL]at h
 cases hn:nodeC g (k,lo,hi,no,lz,rs,subs) with
 | inl e=>rw[show (Pc.mk k lo hi no lz rs subs).un=(k,lo,hi,no,lz,rs,subs) from rfl,hn]at h;cases h
 | inr g1=>rw[show (Pc.mk k lo hi no lz rs subs).un=(k,lo,hi,no,lz,rs,subs) from rfl,hn]at h;exact ⟨g1,rfl,h⟩
mutual
theorem tlen_p:∀ (p:Pc) (g g':Nat),chkL g (preP p)=some g'→(txt p).length+1≤6000000*sizeP p
 | .mk k lo hi no lz rs subs,g,g',h=>by
   obtain ⟨g1,hn,hs⟩:=preL_node h
   have ih:=tlen_l subs g1 g' hs
   rw[txt_node,size_eq]
   rcases node_inv hn with ⟨rfl,hsc,rfl,rfl,rfl,rfl,rfl,rfl⟩ | ⟨hk,rfl,rfl,rfl,rfl,rfl,rfl,rfl⟩ | ⟨rfl,rfl,rfl,rfl,hor,hne,rfl,rfl⟩ | ⟨rfl,rfl,rfl,rfl,rfl,rfl,rfl⟩ | ⟨rfl,rfl,rfl,rfl,rfl,hl,hg⟩ | ⟨rfl,rfl,rfl,rfl,rfl,rfl,hl,hkin,rfl⟩ | ⟨rfl,rfl,rfl,rfl,rfl,rfl,hl,hkin,rfl⟩ | ⟨rfl,rfl,rfl,hl,hkin,hr,rfl⟩ | ⟨rfl,rfl,rfl,rfl,rfl,hl,rfl⟩ | ⟨rfl,hlo,hlg,rfl,rfl,rfl,rfl,rfl,rfl⟩
   ·have:=spell_len lo SP
    show (spellN lo SP).length+1≤_
    omega
   ·rcases hk with rfl | rfl | rfl<;>(show 2≤_;omega)
   ·have:=cls_len' (no:=no) hor
    show (clsN no rs).length+1≤_
    omega
   ·show (if no then [92,66] else [92,98]:List Nat).length+1≤_
    cases no<;>simp<;>omega
   ·obtain ⟨q,rfl⟩:=len_one hl
    rw[txtL,txtL]at ih ⊢
    show ((if lo=0 then [40,63,58] else [40]:List Nat)++(txt q++[41])).length+1≤_
    simp only[ae,am,aj,ab,aa,al]at ih ⊢
    split<;>simp<;>omega
   ·show ((txtL subs).flatten).length+1≤_
    omega
   ·show (interN (txtL subs)).length+1≤_
    have:=inter_len (txtL subs)
    omega
   ·obtain ⟨q,rfl⟩:=len_one hl
    rw[txtL,txtL]at ih ⊢
    have:=tms_len hr.1 hr.2.1 hr.2.2.1 hr.2.2.2.1
    show (txt q++(tmsN lo hi++if lz then [63] else [])).length+1≤_
    simp only[ae,am,aj,ab,aa,al]at ih ⊢
    split<;>simp<;>omega
   ·obtain ⟨q,rfl⟩:=len_one hl
    rw[txtL,txtL]at ih ⊢
    show ((if no then [40,63,33] else [40,63,61]:List Nat)++(txt q++[41])).length+1≤_
    simp only[ae,am,aj,ab,aa,al]at ih ⊢
    split<;>simp<;>omega
   ·have:=dec_len' (n:=lo) om om
    show (92::decN lo).length+1≤_
    rw[aa]
    omega
theorem tlen_l:∀ (l:List Pc) (g g':Nat),chkL g (preL l)=some g'→(txtL l).flatten.length+(txtL l).length≤6000000*sizeL l
 | [],_,_,_=>by rw[txtL];simp[sizeL]
 | p::l,g,g',h=>by
   rw[preL]at h
   obtain ⟨g1,h1,h2⟩:=chk_split h
   have a:=tlen_p p g g1 h1
   have b:=tlen_l l g1 g' h2
   have c:=size_pos p
   rw[txtL,sizeL,ae,ab,aa]
   omega
end
theorem subs_len:∀ (l:List Pc),l.length≤sizeL l
 | []=>by simp
 | p::l=>by have:=subs_len l;have:=size_pos p;rw[sizeL,aa];omega
theorem txtL_len (l:List Pc):(txtL l).length=l.length:=by rw[txtL_eq,List.length_map]
theorem inter_nil:∀ (ts:List (List UInt8)),Lib.join ts []=ts.flatten
 | []=>rfl
 | [t]=>by simp[Lib.join,ap,List.intersperse]
 | t::u::ts=>by
   have ih:=inter_nil (u::ts)
   unfold Lib.join ap at ih ⊢
   rw[List.intersperse_cons₂,ae,ae,ih,List.nil_append]
   simp
theorem inter_bar:∀ (ts:List (List Nat)),Lib.join (ts.map enc) [124]=enc (interN ts)
 | []=>rfl
 | [t]=>by simp[Lib.join,ap,List.intersperse,interN]
 | t::u::ts=>by
   have ih:=inter_bar (u::ts)
   unfold Lib.join ap at ih ⊢
   rw[aq,aq,List.intersperse_cons₂,ae,ae,← aq,ih,interN,interN,List.flatMap_cons,enc_app,enc_app,enc_app,show enc (124::u)=124::enc u from rfl]
   simp
theorem flat_enc:∀ (ts:List (List Nat)),(ts.map enc).flatten=enc ts.flatten
 | []=>rfl
 | t::ts=>by rw[aq,ae,ae,enc_app,flat_enc ts]
theorem map_bytes (ts:List (List Nat)):(ts.map (fun t=>strOf (enc t))).map bytesOf=ts.map enc:=by rw[List.map_map];congr 1
theorem join_nil {n:Nat} (ts:List (List Nat)) (h:ts.length≤1000) (hl:ts.flatten.length+ts.length≤10000000000):strings_Join n (ts.map (fun t=>strOf (enc t))) (strOf [])=some (strOf (enc ts.flatten)):=by
 unfold strings_Join
 have e:Lib.join ((ts.map (fun t=>strOf (enc t))).map bytesOf) (bytesOf (strOf []))=enc ts.flatten:=by rw[map_bytes,bytes_str,inter_nil,flat_enc]
 have:=enc_len_le ts.flatten
 rw[e,if_pos ⟨by rw[List.length_map];omega,om⟩]
theorem join_bar {n:Nat} (ts:List (List Nat)) (h:ts.length≤1000) (hl:ts.flatten.length+ts.length≤10000000000):strings_Join n (ts.map (fun t=>strOf (enc t))) (strOf [124])=some (strOf (enc (interN ts))):=by
 unfold strings_Join
 have e:Lib.join ((ts.map (fun t=>strOf (enc t))).map bytesOf) (bytesOf (strOf [124]))=enc (interN ts):=by rw[map_bytes,bytes_str,inter_bar]
 have:=enc_len_le (interN ts)
 have:=inter_len ts
 rw[e,if_pos ⟨by rw[List.length_map];omega,om⟩]
mutual
theorem text_p:∀ (p:Pc) (g g':Nat),chkL g (preP p)=some g'→sizeP p≤70→Tot (fun n=>regex_text n p.un) (· =strOf (enc (txt p)))
 | .mk k lo hi no lz rs subs,g,g',h,hz=>by
   obtain ⟨g1,hn,hs⟩:=preL_node h
   rw[size_eq]at hz
   have hsl:=subs_len subs
   have ih:=text_l subs subs [] [] g1 g' rfl hs om om (Nat.le_refl _)
   rw[List.nil_append]at ih
   have hlen:=tlen_l subs g1 g' hs
   refine Tot.suc (Tot.eqf (fun n=>regex_text.eq_2 ..) (ai (LT.tot (F:=txtF subs) ih) fun a e=>?_))
   subst e
   rw[txt_node]
   simp only[Pc.un]
   rcases node_inv hn with ⟨rfl,hsc,rfl,rfl,rfl,rfl,rfl,rfl⟩ | ⟨hk,rfl,rfl,rfl,rfl,rfl,rfl,rfl⟩ | ⟨rfl,rfl,rfl,rfl,hor,hne,rfl,rfl⟩ | ⟨rfl,rfl,rfl,rfl,rfl,rfl,rfl⟩ | ⟨rfl,rfl,rfl,rfl,rfl,hl,hg⟩ | ⟨rfl,rfl,rfl,rfl,rfl,rfl,hl,hkin,rfl⟩ | ⟨rfl,rfl,rfl,rfl,rfl,rfl,hl,hkin,rfl⟩ | ⟨rfl,rfl,rfl,hl,hkin,hr,rfl⟩ | ⟨rfl,rfl,rfl,rfl,rfl,hl,rfl⟩ | ⟨rfl,hlo,hlg,rfl,rfl,rfl,rfl,rfl,rfl⟩
   ·simp only[ag,ac,if_false,if_true,Option.bind_some]
    exact ai (Tot.alln fun n=>spell_eq n hsc SP8) fun a e=>af e
   ·rcases hk with rfl | rfl | rfl<;>(simp only[ag,ac,if_false,if_true,Option.bind_some];exact af rfl)
   ·simp only[ag,ac,if_false,if_true,Option.bind_some]
    exact ai (classT_tot hor) fun a e=>af e
   ·simp only[ag,ac,if_false,if_true,Option.bind_some]
    cases no<;>exact af rfl
   ·obtain ⟨q,rfl⟩:=len_one hl
    rw[txtL,txtL]at hlen ⊢
    simp only[ae,am,aj,aa,al]at hlen
    simp only[ag,ac,if_false,if_true,Option.bind_some]
    refine ad (a:=strOf (enc (txt q))) rfl ?_
    by_cases h0:lo=0
    ·subst h0
     refine ad (a:=strOf (enc [40,63,58])) rfl (ad (cat_enc oss) (ad (cat_enc (b:=[41]) oss) (af ?_)))
     rw[ak];rfl
    ·refine ai (P:=(· =strOf (enc [40]))) (Tot.alln fun n=>by unfold regex_pick;rw[if_neg (by simpa using h0)];rfl) fun a e=>?_
     subst e
     refine (ad (cat_enc oss) (ad (cat_enc (b:=[41]) oss) (af ?_)))
     rw[ak]
     show _=strOf (enc ((if lo=0 then [40,63,58] else [40])++(txt q++[41])))
     rw[if_neg h0]
   ·simp only[ag,ac,if_false,if_true,Option.bind_some]
    refine ai (Tot.alln fun n=>join_nil (txtL subs) (by have:=txtL_len subs;omega) om) fun a e=>?_
    subst e
    exact af rfl
   ·simp only[ag,ac,if_false,if_true,Option.bind_some]
    refine ai (Tot.alln fun n=>join_bar (txtL subs) (by have:=txtL_len subs;omega) om) fun a e=>?_
    subst e
    exact af rfl
   ·obtain ⟨q,rfl⟩:=len_one hl
    rw[txtL,txtL]at hlen ⊢
    simp only[ae,am,aj,aa,al]at hlen
    have ht:=tms_len hr.1 hr.2.1 hr.2.2.1 hr.2.2.2.1
    simp only[ag,ac,if_false,if_true,Option.bind_some]
    refine ad (a:=strOf (enc (txt q))) rfl (ai (Tot.alln fun n=>times_eq n hr.1 hr.2.1 hr.2.2.1 hr.2.2.2.1) fun a e=>?_)
    subst e
    exact ad (cat_enc (by cases lz<;>simp<;>omega)) (af rfl)
   ·obtain ⟨q,rfl⟩:=len_one hl
    rw[txtL,txtL]at hlen ⊢
    simp only[ae,am,aj,aa,al]at hlen
    simp only[ag,ac,if_false,if_true,Option.bind_some]
    refine ad (a:=strOf (enc (txt q))) rfl ?_
    cases no with
    | true=>
      refine ad (a:=strOf (enc [40,63,33])) rfl (ad (cat_enc oss) (ad (cat_enc (b:=[41]) oss) (af ?_)))
      rw[ak];rfl
    | false=>
      refine ad (a:=strOf (enc [40,63,61])) rfl (ad (cat_enc oss) (ad (cat_enc (b:=[41]) oss) (af ?_)))
      rw[ak];rfl
   ·have:=dec_len' (n:=lo) om om
    simp only[ag,ac,if_false,if_true,Option.bind_some]
    refine ai (Tot.alln fun n=>Itoa_eq n (v:=lo) om om) fun a e=>?_
    subst e
    exact ad (cat_enc (a:=[92]) oss) (af rfl)
theorem text_l:∀ (rest subs pre:List Pc) (acc:List ByteArray) (g g':Nat),subs=pre++rest→chkL g (preL rest)=some g'→sizeL rest≤70→subs.length≤1000→acc.length≤pre.length→
 LT (txtF subs) (acc,(pre.length:Int)) (· =acc++(txtL rest).map (fun t=>strOf (enc t)))
 | [],subs,pre,acc,g,g',e,_,_,_,_=>by
   refine LT.fin (Tot.alln fun n=>?_) (by rw[txtL,List.map_nil,aj])
   unfold txtF
   rw[if_neg]
   rw[e,aj,dff osm];decide
 | x::rest,subs,pre,acc,g,g',e,h,hz,hl,ha=>by
   rw[preL]at h
   obtain ⟨g1,h1,h2⟩:=chk_split h
   rw[sizeL]at hz
   have hll:=hl
   have hsl:=subs_len rest
   rw[e,ab,aa]at hll
   have hT:=text_p x g g1 h1 om
   have hstep:Tot (fun n=>txtF subs n (acc,(pre.length:Int))) (· = .inl (acc++[strOf (enc (txt x))],((pre.length+1:Nat):Int))):=by
    unfold txtF
    refine ao (dtt (by simp only;rw[e,ab,aa];omega)) (ad (show idx subs (pre.length:Int)=some x by rw[e];exact get_mid pre x rest rfl) (ai hT fun a ea=>?_))
    subst ea
    refine ad (app_ok oss) (af ?_)
    rw[i64_small (x:=(pre.length:Int)+1) om om]
    rfl
   have ih:=text_l rest subs (pre++[x]) (acc++[strOf (enc (txt x))]) g1 g' (by rw[e];simp) h2 om hl (by simp only[ab,List.length_singleton];omega)
   rw[show (((pre++[x]).length:Nat):Int)=((pre.length+1:Nat):Int) by simp,ak]at ih
   rw[txtL,aq]
   exact LT.step hstep ih
end
end Go.Gv.X
namespace Go.Gv.X
open Go Go.Gv Go.Gv.D Go.Gv.R Go.Gv.P Go.Lib
set_option maxRecDepth 100000
/-! Own work: how the second writer writes a piece. -/
def catN (nine:Bool):Bool→List (List Nat)→List Nat
 | _,[]=>[]
 | first,t::ts=>(if nine&& !first then [124] else [])++(t++catN nine false ts)
theorem catN_flat:∀ (f:Bool) (ts:List (List Nat)),catN false f ts=ts.flatten
 | _,[]=>rfl
 | f,t::ts=>by rw[catN,catN_flat false ts];simp
theorem catN_bar:∀ (ts:List (List Nat)),catN true false ts=ts.flatMap (fun u=>124::u)
 | []=>rfl
 | t::ts=>by rw[catN,catN_bar ts,List.flatMap_cons];simp
theorem catN_inter:∀ (ts:List (List Nat)),catN true true ts=interN ts
 | []=>rfl
 | t::ts=>by rw[catN,catN_bar ts,interN];simp
theorem decimal_neg' (k:Nat):(match ref4_decimal (k+60) (-1) with | some b=>bytesOf b==[45,49] | none=>false)=true:=by kernel_rfl
theorem decimal_hi {v:Int} (h0: -1≤v) (h1:v≤99):∃ t:List UInt8,t.length≤100∧(0≤v→t=enc (decN v))∧Tot (fun n=>ref4_decimal n v) (· =strOf t):=by
 by_cases h:0≤v
 ·have:=dec_len' h h1
  have:=enc_len_le (decN v)
  exact ⟨enc (decN v),om,fun _=>rfl,decimal_tot h h1⟩
 ·have:v= -1:=by omega
  subst this
  refine ⟨[45,49],ddc,fun h'=>absurd h' h,Tot.of_all 60 (fun k=>?_) rfl⟩
  have:=decimal_neg' k
  cases hd:ref4_decimal (k+60) (-1) with
  | none=>rw[hd]at this;cases this
  | some b=>
    rw[hd]at this
    rw[← beq_iff_eq.1 this,str_bytes]
theorem gaps_le:∀ {l:List (Int × Int)},gaps l→∀ r∈l,r.1≤r.2
 | [],_,r,hr=>by cases hr
 | x::l,h,r,hr=>by
   rcases List.mem_cons.1 hr with rfl | hr
   ·exact gaps_head h
   ·exact gaps_le (gaps_tail h) r hr
mutual
theorem ptext_p:∀ (p:Pc) (g g':Nat),chkL g (preP p)=some g'→sizeP p≤70→Tot (fun n=>ref4_PieceText n p.un) (· =strOf (enc (txt p)))
 | .mk k lo hi no lz rs subs,g,g',h,hz=>by
   obtain ⟨g1,hn,hs⟩:=preL_node h
   rw[size_eq]at hz
   have hsl:=subs_len subs
   have ih:=pt_l k subs subs [] [] g1 g' rfl hs om om oss
   rw[List.nil_append]at ih
   have hlen:=tlen_l subs g1 g' hs
   refine Tot.suc (Tot.eqf (fun n=>ref4_PieceText.eq_2 ..) (ai (LT.tot (F:=ptF k subs) ih) fun a e=>?_))
   subst e
   rw[txt_node]
   simp only[Pc.un]
   rcases node_inv hn with ⟨rfl,hsc,rfl,rfl,rfl,rfl,rfl,rfl⟩ | ⟨hk,rfl,rfl,rfl,rfl,rfl,rfl,rfl⟩ | ⟨rfl,rfl,rfl,rfl,hor,hne,rfl,rfl⟩ | ⟨rfl,rfl,rfl,rfl,rfl,rfl,rfl⟩ | ⟨rfl,rfl,rfl,rfl,rfl,hl,hg⟩ | ⟨rfl,rfl,rfl,rfl,rfl,rfl,hl,hkin,rfl⟩ | ⟨rfl,rfl,rfl,rfl,rfl,rfl,hl,hkin,rfl⟩ | ⟨rfl,rfl,rfl,hl,hkin,hr,rfl⟩ | ⟨rfl,rfl,rfl,rfl,rfl,hl,rfl⟩ | ⟨rfl,hlo,hlg,rfl,rfl,rfl,rfl,rfl,rfl⟩
   ·simp only[ag,ac,if_false,if_true,Option.bind_some]
    exact ai (written_tot hsc SP8 SP9 rfl) fun a e=>af e
   ·rcases hk with rfl | rfl | rfl<;>(simp only[ag,ac,if_false,if_true,Option.bind_some];exact af rfl)
   ·simp only[ag,ac,if_false,if_true,Option.bind_some]
    obtain ⟨o1,o2⟩:=of_ord hor
    have hl:=ord_len' hor
    have hfl:=flat_len rs
    have hle:∀ r∈rs,r.1≤r.2:=gaps_le o1
    refine ai (P:=(· =strOf (enc (if no then [94] else [])))) ?_ fun a e=>?_
    ·cases no with
     | true=>exact ao rfl (af rfl)
     | false=>exact an rfl (af rfl)
    ·subst e
     refine ai (LT.tot (F:=clRF rs) (clR_lt om o2 hle rs [] (if no then [94] else []) rfl (by cases no<;>simp<;>omega))) fun a e=>?_
     subst e
     refine ad (cat_enc (a:=[91]) (by cases no<;>simp only[ab,aa,al,ac,if_false,if_true]<;>omega)) (ad (cat_enc (b:=[93]) (by cases no<;>simp only[ab,aa,al,ac,if_false,if_true]<;>omega)) (af ?_))
     show _=strOf (enc (clsN no rs))
     unfold clsN
     cases no<;>simp
   ·simp only[ag,ac,if_false,if_true,Option.bind_some]
    cases no<;>exact af rfl
   ·obtain ⟨q,rfl⟩:=len_one hl
    rw[txtL,txtL]at hlen ⊢
    simp only[ae,am,aj,aa,al]at hlen
    simp only[ag,ac,if_false,if_true,Option.bind_some]
    have hc:catN ((7:Int)==9) ([]:List Pc).isEmpty [txt q]=txt q:=by rw[show ((7:Int)==9)=false from rfl,catN_flat];simp
    simp only[show ((7:Int)==9)=false from rfl]at hc
    rw[hc]
    by_cases h0:lo=0
    ·subst h0
     refine ao rfl (ad (cat_enc (a:=[40,63,58]) oss) (ad (cat_enc (b:=[41]) oss) (af ?_)))
     rw[ak];rfl
    ·refine an (by simpa using h0) (ad (cat_enc (a:=[40]) oss) (ad (cat_enc (b:=[41]) oss) (af ?_)))
     rw[ak]
     show _=strOf (enc ((if lo=0 then [40,63,58] else [40])++(txt q++[41])))
     rw[if_neg h0]
   ·simp only[ag,ac,if_false,if_true,Option.bind_some]
    rw[catN_flat]
    exact af rfl
   ·simp only[ag,ac,if_false,if_true,Option.bind_some]
    rw[show ([]:List Pc).isEmpty=true from rfl,catN_inter]
    exact af rfl
   ·obtain ⟨q,rfl⟩:=len_one hl
    rw[txtL,txtL]at hlen ⊢
    simp only[ae,am,aj,aa,al]at hlen
    obtain ⟨r1,r2,r3,r4,r5⟩:=hr
    have hd:=dec_len' r1 r2
    have hde:=enc_len_le (decN lo)
    obtain ⟨ht,t1,t2,t3⟩:=decimal_hi r3 r4
    simp only[ag,ac,if_false,if_true,Option.bind_some]
    have hc:catN false ([]:List Pc).isEmpty [txt q]=txt q:=by rw[catN_flat];simp
    rw[hc]
    refine ai (decimal_tot r1 r2) fun a e=>?_
    subst e
    refine ai t3 fun a e=>?_
    subst e
    refine ad (cat_enc (a:=[123]) oss) (ad (cat_enc (b:=[44]) oss) ?_)
    have e1:=enc_len_le ([123]++decN lo++[44])
    have e2:([123]++decN lo++[44]).length≤4:=by simp;omega
    refine ad (cat_str om) (ad (cat_str (m:=[125]) (by rw[ab];simp only[List.length_singleton];omega)) ?_)
    have hbig:=tms_len r1 r2 r3 r4
    refine ai (P:=(· =decide (hi= -1∧lo=0))) ?_ fun a e=>?_
    ·by_cases h0:lo=0
     ·refine ao (beq_iff_eq.2 h0) (af ?_)
      rw[Bool.eq_iff_iff];simp[h0]
     ·refine an (beq_eq_false_iff_ne.2 h0) (af ?_)
      symm;exact dff fun h=>h0 h.2
    subst e
    refine ai (P:=(· =strOf (enc (tmsN lo hi)))) ?_ fun a e=>?_
    ·by_cases c1:hi= -1∧lo=0
     ·rw[dtt c1,show tmsN lo hi=[42] by unfold tmsN;rw[if_pos c1]]
      exact ao rfl (af rfl)
     rw[dff c1]
     refine an rfl (ai (P:=(· =decide (hi= -1∧lo=1))) ?_ fun a e=>?_)
     ·by_cases h0:lo=1
      ·refine ao (beq_iff_eq.2 h0) (af ?_)
       rw[Bool.eq_iff_iff];simp[h0]
      ·refine an (beq_eq_false_iff_ne.2 h0) (af ?_)
       symm;exact dff fun h=>h0 h.2
     subst e
     by_cases c2:hi= -1∧lo=1
     ·rw[dtt c2,show tmsN lo hi=[43] by unfold tmsN;rw[if_neg c1,if_pos c2]]
      exact ao rfl (af rfl)
     rw[dff c2]
     refine an rfl (ai (P:=(· =decide (lo=0∧hi=1))) ?_ fun a e=>?_)
     ·by_cases h0:lo=0
      ·refine ao (beq_iff_eq.2 h0) (af ?_)
       rw[Bool.eq_iff_iff];simp[h0]
      ·refine an (beq_eq_false_iff_ne.2 h0) (af ?_)
       symm;exact dff fun h=>h0 h.1
     subst e
     by_cases c3:lo=0∧hi=1
     ·rw[dtt c3,show tmsN lo hi=[63] by unfold tmsN;rw[if_neg c1,if_neg c2,if_pos c3]]
      exact ao rfl (af rfl)
     rw[dff c3]
     refine an rfl ?_
     by_cases c4:hi= -1
     ·rw[show tmsN lo hi=123::(decN lo++[44,125]) by unfold tmsN;rw[if_neg c1,if_neg c2,if_neg c3,if_pos c4]]
      exact ao (beq_iff_eq.2 c4) (ad (cat_enc (a:=[123]) oss) (ad (cat_enc (b:=[44,125]) oss) (af rfl)))
     refine an (beq_eq_false_iff_ne.2 c4) ?_
     by_cases c5:hi=lo
     ·rw[show tmsN lo hi=123::(decN lo++[125]) by unfold tmsN;rw[if_neg c1,if_neg c2,if_neg c3,if_neg c4,if_pos c5]]
      exact ao (beq_iff_eq.2 c5.symm) (ad (cat_enc (a:=[123]) oss) (ad (cat_enc (b:=[125]) oss) (af rfl)))
     ·rw[show tmsN lo hi=123::(decN lo++44::(decN hi++[125])) by unfold tmsN;rw[if_neg c1,if_neg c2,if_neg c3,if_neg c4,if_neg c5]]
      refine an (beq_eq_false_iff_ne.2 (Ne.symm c5)) (af ?_)
      rw[t2 om]
      rw[show (123::(decN lo++44::(decN hi++[125])))=([123]++decN lo++[44])++(decN hi++[125]) by simp]
      rw[enc_app ([123]++decN lo++[44]) (decN hi++[125]),enc_app (decN hi) [125],← ak]
      rfl
    ·subst e
     refine ai (P:=(· =strOf (enc (tmsN lo hi++if lz then [63] else [])))) ?_ fun a e=>?_
     ·cases lz with
      | true=>exact ao rfl (ad (cat_enc (b:=[63]) oss) (af rfl))
      | false=>exact an rfl (af (by simp))
     ·subst e
      exact ad (cat_enc (by cases lz<;>simp<;>omega)) (af rfl)
   ·obtain ⟨q,rfl⟩:=len_one hl
    rw[txtL,txtL]at hlen ⊢
    simp only[ae,am,aj,aa,al]at hlen
    simp only[ag,ac,if_false,if_true,Option.bind_some]
    have hc:catN false ([]:List Pc).isEmpty [txt q]=txt q:=by rw[catN_flat];simp
    rw[hc]
    cases no with
    | true=>
      refine ao rfl (ad (cat_enc (a:=[40,63,33]) oss) (ad (cat_enc (b:=[41]) oss) (af ?_)))
      rw[ak];rfl
    | false=>
      refine an rfl (ad (cat_enc (a:=[40,63,61]) oss) (ad (cat_enc (b:=[41]) oss) (af ?_)))
      rw[ak];rfl
   ·have:=dec_len' (n:=lo) om om
    simp only[ag,ac,if_false,if_true,Option.bind_some]
    refine ai (decimal_tot (v:=lo) om om) fun a e=>?_
    subst e
    exact ad (cat_enc (a:=[92]) oss) (af rfl)
theorem pt_l (k:Int):∀ (rest subs pre:List Pc) (acc:List Nat) (g g':Nat),subs=pre++rest→chkL g (preL rest)=some g'→sizeL rest≤70→subs.length≤1000→acc.length+6000000*sizeL rest≤10000000000→
 LT (ptF k subs) (strOf (enc acc),(pre.length:Int)) (· =strOf (enc (acc++catN (k==9) pre.isEmpty (txtL rest))))
 | [],subs,pre,acc,g,g',e,_,_,_,_=>by
   refine LT.fin (Tot.alln fun n=>?_) (by rw[txtL,catN,aj])
   unfold ptF
   rw[if_neg]
   rw[e,aj,dff osm];decide
 | x::rest,subs,pre,acc,g,g',e,h,hz,hl,ha=>by
   rw[preL]at h
   obtain ⟨g1,h1,h2⟩:=chk_split h
   rw[sizeL]at hz ha
   have hll:=hl
   rw[e,ab,aa]at hll
   have hT:=ptext_p x g g1 h1 om
   have hx:=tlen_p x g g1 h1
   have hstep:Tot (fun n=>ptF k subs n (strOf (enc acc),(pre.length:Int))) (· = .inl (strOf (enc (acc++((if (k==9)&& !pre.isEmpty then [124] else [])++txt x))),((pre.length+1:Nat):Int))):=by
    unfold ptF
    refine ao (dtt (by simp only;rw[e,ab,aa];omega)) ?_
    refine ai (P:=(· =((k==9)&& !pre.isEmpty))) ?_ fun a ea=>?_
    ·cases pre with
     | nil=>exact an rfl (af (by simp))
     | cons y ys=>exact ao (dtt (by simp only[aa];omega)) (af (by simp))
    ·subst ea
     refine ai (P:=(· =strOf (enc (acc++if ((k==9)&& !pre.isEmpty)=true then [124] else [])))) ?_ fun a ea=>?_
     ·cases (k==9)&& !pre.isEmpty with
      | true=>exact ao rfl (ad (cat_enc (b:=[124]) oss) (af rfl))
      | false=>exact an rfl (af (by simp))
     ·subst ea
      refine ad (show idx subs (pre.length:Int)=some x by rw[e];exact get_mid pre x rest rfl) (ai hT fun a ea=>?_)
      subst ea
      refine ad (cat_enc (by split<;>simp<;>omega)) (af ?_)
      rw[i64_small (x:=(pre.length:Int)+1) om om,ak]
      rfl
   have ih:=pt_l k rest subs (pre++[x]) (acc++((if (k==9)&& !pre.isEmpty then [124] else [])++txt x)) g1 g' (by rw[e];simp) h2 om hl (by rw[ab,ab];split<;>simp<;>omega)
   rw[show (((pre++[x]).length:Nat):Int)=((pre.length+1:Nat):Int) by simp,ak,ak,show (pre++[x]).isEmpty=false by simp]at ih
   rw[txtL,catN]
   exact LT.step hstep ih
end
end Go.Gv.X
namespace Go.Gv.X
open Go Go.Gv Go.Gv.D Go.Gv.R Go.Gv.P Go.Lib
set_option maxRecDepth 100000
/-! Own work: groups, and pieces that are the same. -/
/-- own name for the loop body 0 of regex_groups -/
noncomputable def grpF (subs:List Pc) (fuel:Nat) (s17:(Int × Int)):Option ((Int × Int) ⊕ Int):=
 (if (decide (s17.2<((ar subs:Nat):Int))) then (Option.bind (idx subs s17.2) fun x22=>(Option.bind (regex_groups fuel ((Pc.un x22).1,(Pc.un x22).2.1,(Pc.un x22).2.2.1,(Pc.un x22).2.2.2.1,(Pc.un x22).2.2.2.2.1,(Pc.un x22).2.2.2.2.2.1,(Pc.un x22).2.2.2.2.2.2)) fun r41=>(some (.inl ((IntKind.i64.wrap (s17.1+r41)),(IntKind.i64.wrap (s17.2+1))))))) else (some (.inr (s17.1))))
/-- own name for the loop body 0 of ref4_SamePiece -/
noncomputable def sm1F (rs:List (Int × Int)) (fuel:Nat) (s44:Int):Option (Int ⊕ (Unit ⊕ Bool)):=
 (if (decide (s44<((ar rs:Nat):Int))) then (Option.bind (idx rs s44) fun x55=>(Option.bind (idx rs s44) fun x60=>(if (!((x55.1==x60.1)&&(x55.2==x60.2))) then (some (.inr (.inr (false)))) else (some (.inl (IntKind.i64.wrap (s44+1))))))) else (some (.inr (.inl ()))))
/-- own name for the loop body 1 of ref4_SamePiece -/
noncomputable def sm2F (subs:List Pc) (fuel:Nat) (s73:Int):Option (Int ⊕ (Unit ⊕ Bool)):=
 (if (decide (s73<((ar subs:Nat):Int))) then (Option.bind (idx subs s73) fun x84=>(Option.bind (idx subs s73) fun x95=>(Option.bind (ref4_SamePiece fuel ((Pc.un x84).1,(Pc.un x84).2.1,(Pc.un x84).2.2.1,(Pc.un x84).2.2.2.1,(Pc.un x84).2.2.2.2.1,(Pc.un x84).2.2.2.2.2.1,(Pc.un x84).2.2.2.2.2.2) ((Pc.un x95).1,(Pc.un x95).2.1,(Pc.un x95).2.2.1,(Pc.un x95).2.2.2.1,(Pc.un x95).2.2.2.2.1,(Pc.un x95).2.2.2.2.2.1,(Pc.un x95).2.2.2.2.2.2)) fun r104=>(if (!r104) then (some (.inr (.inr (false)))) else (some (.inl (IntKind.i64.wrap (s73+1)))))))) else (some (.inr (.inl ()))))
def isG (q:Pc):Bool:=decide (q.un.1=7∧0<q.un.2.1)
def cnt:List Pc→Nat
 | []=>0
 | q::l=>(if isG q then 1 else 0)+cnt l
theorem cnt_app:∀ (a b:List Pc),cnt (a++b)=cnt a+cnt b
 | [],b=>by simp[cnt]
 | q::a,b=>by rw[List.cons_append,cnt,cnt,cnt_app a b];omega
theorem cnt_len:∀ (a:List Pc),cnt a≤a.length
 | []=>Nat.le_refl _
 | q::a=>by have:=cnt_len a;rw[cnt,aa];split<;>omega
mutual
theorem groups_p:∀ (p:Pc) (g g':Nat),chkL g (preP p)=some g'→sizeP p≤70→Tot (fun n=>regex_groups n p.un) (· =(cnt (preP p):Int))
 | .mk k lo hi no lz rs subs,g,g',h,hz=>by
   obtain ⟨g1,hn,hs⟩:=preL_node h
   rw[size_eq]at hz
   have hsl:=subs_len subs
   have hlo:k=7→lo=0∨1≤lo:=fun hk=>by
    rcases node_inv hn with ⟨rfl,_⟩ | ⟨hk',_⟩ | ⟨rfl,_⟩ | ⟨rfl,_⟩ | ⟨_,_,_,_,_,_,hg⟩ | ⟨rfl,_⟩ | ⟨rfl,_⟩ | ⟨rfl,_⟩ | ⟨rfl,_⟩ | ⟨rfl,_⟩
    all_goals first | omega | (rcases hg with ⟨h,_⟩ | ⟨h,_⟩<;>omega)
   have hcl:=cnt_len (preL subs)
   rw[preL_len]at hcl
   refine Tot.suc (Tot.eqf (fun n=>regex_groups.eq_2 ..) ?_)
   refine ai (P:=(· =((if isG (.mk k lo hi no lz rs subs) then 1 else 0:Nat):Int))) ?_ fun a e=>?_
   ·by_cases hk:k=7
    ·refine ao (beq_iff_eq.2 hk) (af ?_)
     rcases hlo hk with h0 | h0
     ·have hG:isG (.mk k lo hi no lz rs subs)=false:=dff (p:=k=7∧0<lo) om
      rw[hG]
      show (if 1<lo then 1 else lo)=0
      rw[if_neg om,h0]
     ·have hG:isG (.mk k lo hi no lz rs subs)=true:=dtt (p:=k=7∧0<lo) om
      rw[hG]
      show (if 1<lo then 1 else lo)=1
      split<;>omega
    ·have hG:isG (.mk k lo hi no lz rs subs)=false:=dff (p:=k=7∧0<lo) (fun h=>hk h.1)
     rw[hG]
     exact an (beq_eq_false_iff_ne.2 hk) (af rfl)
   ·subst e
    have ih:=groups_l subs subs [] (if isG (.mk k lo hi no lz rs subs) then 1 else 0) g1 g' rfl hs om om (by split<;>omega)
    refine ai (LT.tot (F:=grpF subs) ih) fun a e=>af ?_
    rw[e,pre_eq,cnt]
theorem groups_l:∀ (rest subs pre:List Pc) (acc g g':Nat),subs=pre++rest→chkL g (preL rest)=some g'→sizeL rest≤70→subs.length≤1000→acc+sizeL rest≤1000→
 LT (grpF subs) ((acc:Int),(pre.length:Int)) (· =((acc+cnt (preL rest):Nat):Int))
 | [],subs,pre,acc,g,g',e,_,_,_,_=>by
   refine LT.fin (Tot.alln fun n=>?_) (by rw[preL,cnt,Nat.add_zero])
   unfold grpF
   rw[if_neg]
   rw[e,aj,dff osm];decide
 | x::rest,subs,pre,acc,g,g',e,h,hz,hl,ha=>by
   rw[preL]at h ⊢
   obtain ⟨g1,h1,h2⟩:=chk_split h
   rw[sizeL]at hz
   rw[sizeL]at ha
   have hll:=hl
   rw[e,ab,aa]at hll
   have hc:=cnt_len (preP x)
   rw[pre_len]at hc
   have hT:=groups_p x g g1 h1 om
   have hstep:Tot (fun n=>grpF subs n ((acc:Int),(pre.length:Int))) (· = .inl (((acc+cnt (preP x):Nat):Int),((pre.length+1:Nat):Int))):=by
    unfold grpF
    refine ao (dtt (by simp only;rw[e,ab,aa];omega)) (ad (show idx subs (pre.length:Int)=some x by rw[e];exact get_mid pre x rest rfl) (ai hT fun a ea=>af ?_))
    subst ea
    rw[i64_small (x:=(pre.length:Int)+1) om om,i64_small (x:=(acc:Int)+_) om om]
    rfl
   have hcr:=cnt_len (preL rest)
   rw[preL_len]at hcr
   have ih:=groups_l rest subs (pre++[x]) (acc+cnt (preP x)) g1 g' (by rw[e];simp) h2 om hl om
   rw[show (((pre++[x]).length:Nat):Int)=((pre.length+1:Nat):Int) by simp]at ih
   rw[cnt_app,← Nat.add_assoc]
   exact LT.step hstep ih
end
theorem sm1_lt {rs:List (Int × Int)} (hl:rs.length≤BigL):∀ (rest pre:List (Int × Int)),rs=pre++rest→LT (sm1F rs) (pre.length:Int) (· = .inl ())
 | [],pre,e=>by
   refine LT.fin (Tot.alln fun n=>?_) rfl
   unfold sm1F
   rw[if_neg]
   rw[e,aj,dff om];decide
 | x::rest,pre,e=>by
   have hll:=hl
   unfold BigL at hll
   rw[e,ab,aa]at hll
   have hix:idx rs (pre.length:Int)=some x:=by rw[e];exact get_mid pre x rest rfl
   have ih:=sm1_lt hl rest (pre++[x]) (by rw[e];simp)
   rw[show (((pre++[x]).length:Nat):Int)=((pre.length+1:Nat):Int) by simp]at ih
   refine LT.step (Tot.alln fun n=>?_) ih
   unfold sm1F
   rw[if_pos (dtt (by rw[e,ab,aa];omega)),hix]
   simp only[Option.bind_some]
   rw[if_neg (by simp),i64_small (x:=(pre.length:Int)+1) om om]
   rfl
mutual
theorem same_p:∀ (p:Pc),BdL (preP p)→Tot (fun n=>ref4_SamePiece n p.un p.un) (· =true)
 | .mk k lo hi no lz rs subs,hb=>by
   rw[pre_eq]at hb
   have hn:=hb _ (List.mem_cons_self ..)
   have hbl:BdL (preL subs):=fun q hq=>hb q (List.mem_cons_of_mem _ hq)
   refine Tot.suc (Tot.eqf (fun n=>ref4_SamePiece.eq_2 ..) ?_)
   refine ai (P:=(· =false)) (Tot.alln fun n=>by simp) fun a e=>?_
   subst e
   refine an rfl (ai (LT.tot (F:=sm1F rs) (sm1_lt hn.1 rs [] rfl)) fun a e=>?_)
   subst e
   refine ai (LT.tot (F:=sm2F subs) (same_l subs subs [] rfl hbl hn.2)) fun a e=>?_
   subst e
   exact af rfl
theorem same_l:∀ (rest subs pre:List Pc),subs=pre++rest→BdL (preL rest)→subs.length≤BigL→LT (sm2F subs) (pre.length:Int) (· = .inl ())
 | [],subs,pre,e,_,_=>by
   refine LT.fin (Tot.alln fun n=>?_) rfl
   unfold sm2F
   rw[if_neg]
   rw[e,aj,dff om];decide
 | x::rest,subs,pre,e,hb,hl=>by
   have hll:=hl
   unfold BigL at hll
   rw[e,ab,aa]at hll
   rw[preL]at hb
   have hix:idx subs (pre.length:Int)=some x:=by rw[e];exact get_mid pre x rest rfl
   have hT:=same_p x (fun q hq=>hb q (List.mem_append_left _ hq))
   have ih:=same_l rest subs (pre++[x]) (by rw[e];simp) (fun q hq=>hb q (List.mem_append_right _ hq)) hl
   rw[show (((pre++[x]).length:Nat):Int)=((pre.length+1:Nat):Int) by simp]at ih
   refine LT.step ?_ ih
   unfold sm2F
   refine ao (dtt (by rw[e,ab,aa];omega)) (ad hix (ad hix (ai hT fun a ea=>?_)))
   subst ea
   refine an rfl (af ?_)
   rw[i64_small (x:=(pre.length:Int)+1) om om]
   rfl
end
/-! what is well formed is small -/
mutual
theorem in_p:∀ (p:Pc),∀ q∈preP p,sizeP q≤sizeP p
 | .mk k lo hi no lz rs subs,q,hq=>by
   rw[pre_eq]at hq
   rcases List.mem_cons.1 hq with rfl | hq
   ·exact Nat.le_refl _
   ·have:=in_l subs q hq
    rw[size_eq];omega
theorem in_l:∀ (l:List Pc),∀ q∈preL l,sizeP q≤sizeL l
 | [],q,hq=>by rw[preL]at hq;cases hq
 | p::l,q,hq=>by
   rw[preL]at hq
   rw[sizeL]
   rcases List.mem_append.1 hq with h | h
   ·have:=in_p p q h;omega
   ·have:=in_l l q h;omega
end
theorem chk_node_in:∀ (l:List Pc) (g g':Nat),chkL g l=some g'→∀ q∈l,∃ g1 g2,nodeC g1 q.un= .inr g2
 | [],_,_,_,q,hq=>by cases hq
 | p::l,g,g',h,q,hq=>by
   rw[chkL]at h
   cases hn:nodeC g p.un with
   | inl e=>rw[hn]at h;cases h
   | inr g1=>
     rw[hn]at h
     rcases List.mem_cons.1 hq with rfl | hq
     ·exact ⟨g,g1,hn⟩
     ·exact chk_node_in l g1 g' h q hq
theorem bd_of_chk {p:Pc} {g g':Nat} (h:chkL g (preP p)=some g') (hz:sizeP p≤1000):BdL (preP p):=fun q hq=>by
 obtain ⟨g1,g2,hn⟩:=chk_node_in _ _ _ h q hq
 have hs:=in_p p q hq
 obtain ⟨k,lo,hi,no,lz,rs,subs⟩:=q
 rw[size_eq]at hs
 have hsl:=subs_len subs
 have hrs:rs.length≤1114112:=by
  rcases node_inv hn with ⟨_,_,_,_,_,rfl,_⟩ | ⟨_,_,_,_,_,rfl,_⟩ | ⟨_,_,_,_,hor,_⟩ | ⟨_,_,_,_,rfl,_⟩ | ⟨_,_,_,_,rfl,_⟩ | ⟨_,_,_,_,_,rfl,_⟩ | ⟨_,_,_,_,_,rfl,_⟩ | ⟨_,_,rfl,_⟩ | ⟨_,_,_,_,rfl,_⟩ | ⟨_,_,_,_,_,_,rfl,_⟩
  all_goals first | exact ord_len' hor | simp
 exact ⟨show rs.length≤BigL by unfold BigL;omega,show subs.length≤BigL by unfold BigL;omega⟩
end Go.Gv.X
