import Derived.Test.YtjhfmibjphdanaaGreatDoorXD
set_option linter.all false
open List renaming length_append→aa,length_cons→ae,length→af,length_singleton→ak,append_nil→al,nil_append→am
open Go.Gv.Tot renaming ret→ab,bindq→ac,bind0→ad,if_→ag,it→ai
open Bool renaming eq_iff_iff→aj
namespace Go.Gv.X
open Go Go.Gv Go.Gv.D Go.Gv.R Go.Gv.P Go.Lib
set_option maxRecDepth 100000
/-! Own work: the abstract parser comes to an end. -/
def TT {α:Type} (x:Nat→Option α):Prop:=∃ r,∃ N,∀ n,N≤n→x n=some r
theorem TT.suc {α:Type} {f:Nat→Option α} (h:TT fun n=>f (n+1)):TT f:=by
 obtain ⟨r,N,h⟩:=h
 exact ⟨r,N+1,fun n hn=>by obtain ⟨n,rfl⟩:∃ k,n=k+1:=⟨n-1,om⟩;exact h n om⟩
theorem TT.const {α:Type} (a:α):TT (fun _=>some a):=⟨a,0,fun _ _=>rfl⟩
theorem TT.bd {α β:Type} {x:Nat→Res α} {f:Nat→α→Res β} (h:TT x) (k:∀ a n,x n=some (.inl a)→TT fun n=>f n a):TT fun n=>bd (x n) (f n):=by
 obtain ⟨r,N,h⟩:=h
 cases r with
 | inr u=>exact ⟨.inr u,N,fun n hn=>by show Go.Gv.X.bd (x n) (f n)=_;rw[h n hn];rfl⟩
 | inl a=>
   obtain ⟨r,M,hk⟩:=k a N (h N (Nat.le_refl _))
   exact ⟨r,max N M,fun n hn=>by show Go.Gv.X.bd (x n) (f n)=_;rw[h n om];exact hk n om⟩
theorem TT.cst {α:Type} {x:Option α} (h:x≠none):TT (fun _=>x):=by
 cases x with
 | none=>exact absurd rfl h
 | some a=>exact TT.const a
theorem TT.of {α:Type} {f g:Nat→Option α} (e:∀ n,f n=g n) (h:TT g):TT f:=by rw[funext e];exact h
theorem bounds_nn (s:St):boundsA s≠none:=by
 unfold boundsA
 split;simp[ok]
 split;simp[ok]
 split;simp[ok]
 split;simp[ok]
 cases h:digitsA (s.skip 1) with
 | none=>exact absurd h (digits_nn _)
 | some x=>
   cases x with
   | inr u=>simp[Go.Gv.X.bd]
   | inl x=>
     simp only[Go.Gv.X.bd]
     split
     ·rename_i hn
      split at hn
      ·split at hn
       ·cases hn
       ·exact absurd hn (digits_nn _)
      ·cases hn
     ·simp
     ·split<;>simp[ok,er]
theorem item_nn (s:St):itemA s≠none:=by
 unfold itemA
 cases h:memA s with
 | none=>exact absurd h (mem_nn _)
 | some x=>
   cases x with
   | inr u=>simp[Go.Gv.X.bd]
   | inl x=>
     obtain ⟨m,s1⟩:=x
     cases m with
     | inr l=>simp[Go.Gv.X.bd,ok]
     | inl c=>
       simp only[Go.Gv.X.bd]
       split
       ·cases h:memA (s1.skip 1) with
        | none=>exact absurd h (mem_nn _)
        | some x=>
          cases x with
          | inr u=>simp
          | inl x=>
            obtain ⟨m,s2⟩:=x
            cases m with
            | inr l=>simp[er]
            | inl d=>simp only;split<;>simp[ok,er]
       ·simp[ok]
theorem esc_nn (s:St):escA s≠none:=by
 unfold escA
 split
 ·simp[er]
 ·split;simp[ok]
  split;simp[ok]
  split;simp[ok]
  split;simp[ok]
  split<;>simp[ok,er]
theorem cls_TT:∀ (L:Nat) (acc:List (Int × Int)) (s:St),All s→s.cs.length<L→TT fun n=>clsA n acc s
 | 0,_,_,_,h=>by omega
 | L+1,acc,s,ha,hl=>by
   refine TT.suc (TT.of (g:=fun n=>bd (itemA s) fun x=>if pre [93] x.2.cs then ok (acc++x.1,x.2.skip 1) else clsA n (acc++x.1) x.2) (fun n=>by rw[clsA]) ?_)
   refine TT.bd (TT.cst (item_nn s)) fun a n h=>?_
   obtain ⟨l,s1⟩:=a
   obtain ⟨a1,a2,_,_⟩:=item_spec ha h
   simp only
   split
   ·exact TT.const _
   ·exact cls_TT L (acc++l) s1 (ha.suf a1) om
theorem class_TT {s:St} (ha:All s):TT fun n=>classA n s:=by
 unfold classA
 refine TT.bd (cls_TT ((if pre [94] s.cs=true then s.skip 1 else s).cs.length+1) [] _ (ha.suf (by split;exact skip_suf _ _;exact List.suffix_refl _)) om) fun a n h=>TT.const _
theorem read_TT:∀ (L:Nat),
 (∀ s,All s→s.cs.length<L→TT fun n=>atomA n s)∧(∀ s,All s→s.cs.length<L→TT fun n=>repA n s)∧(∀ l s,All s→s.cs.length<L→TT fun n=>seqRA n l s)∧
 (∀ s,All s→s.cs.length<L→TT fun n=>seqA n s)∧(∀ l s,All s→s.cs.length<L→TT fun n=>altRA n l s)∧(∀ s,All s→s.cs.length<L→TT fun n=>altsA n s):=by
 intro L
 induction L with
 | zero=>exact ⟨fun _ _ h=>by omega,fun _ _ h=>by omega,fun _ _ _ h=>by omega,fun _ _ h=>by omega,fun _ _ _ h=>by omega,fun _ _ h=>by omega⟩
 | succ L ih=>
   obtain ⟨iAt,iR,iSR,iS,iAR,iA⟩:=ih
   have ins:∀ (s:St) (kd low:Int) (no:Bool),All s→s.cs.length<L→TT fun n=>insA n s kd low no:=fun s kd low no ha hl=>by
    refine TT.suc (TT.of (g:=fun n=>bd (altsA n s) fun x=>if pre [41] x.2.cs then ok (made (x.2.skip 1) (.mk kd low 0 no false [] [x.1])) else er) (fun n=>by rw[insA]) ?_)
    refine TT.bd (iA s ha hl) fun a n h=>?_
    split<;>exact TT.const _
   have hAt:∀ s,All s→s.cs.length<L+1→TT fun n=>atomA n s:=fun s ha hl=>by
    refine TT.suc ?_
    have hk:∀ {t:List Nat},pre t s.cs=true→0<t.length→(s.skip t.length).cs.length<L∧All (s.skip t.length):=fun {t} hp ht=>⟨by have:=skip_len hp;omega,ha.suf (skip_suf _ _)⟩
    by_cases h1:pre [40,63,58] s.cs=true
    ·exact TT.of (fun n=>by rw[atomA,if_pos h1]) (ins (s.skip 3) 7 0 false (hk h1 ddc).2 (hk h1 ddc).1)
    by_cases h2:pre [40,63,61] s.cs=true
    ·exact TT.of (fun n=>by rw[atomA,if_neg h1,if_pos h2]) (ins (s.skip 3) 11 0 false (hk h2 ddc).2 (hk h2 ddc).1)
    by_cases h3:pre [40,63,33] s.cs=true
    ·exact TT.of (fun n=>by rw[atomA,if_neg h1,if_neg h2,if_pos h3]) (ins (s.skip 3) 11 0 true (hk h3 ddc).2 (hk h3 ddc).1)
    by_cases h4:pre [40,63] s.cs=true
    ·exact TT.of (fun n=>by rw[atomA,if_neg h1,if_neg h2,if_neg h3,if_pos h4];rfl) (TT.const _)
    by_cases h5:pre [40] s.cs=true
    ·exact TT.of (fun n=>by rw[atomA,if_neg h1,if_neg h2,if_neg h3,if_neg h4,if_pos h5]) (ins { s.skip 1 with ng:=s.ng+1} 7 ((s.ng+1:Nat):Int) false (hk h5 ddc).2 (hk h5 ddc).1)
    by_cases h6:pre [91] s.cs=true
    ·exact TT.of (fun n=>by rw[atomA,if_neg h1,if_neg h2,if_neg h3,if_neg h4,if_neg h5,if_pos h6]) (class_TT (ha.suf (skip_suf s 1)))
    refine TT.of (g:=fun _=>if pre [92] s.cs then escA (s.skip 1) else
     if pre [46] s.cs then ok (made (s.skip 1) (.mk 2 0 0 false false [] [])) else
     if pre [94] s.cs then ok (made (s.skip 1) (.mk 4 0 0 false false [] [])) else
     if pre [36] s.cs then ok (made (s.skip 1) (.mk 5 0 0 false false [] [])) else
     if ah [42,43,63,123,125,93] s then er else
     match s.cs with
     | []=>er
     | c::r=>ok (made { s with cs:=r} (.mk 1 (c:Int) 0 false false [] []))) (fun n=>by rw[atomA,if_neg h1,if_neg h2,if_neg h3,if_neg h4,if_neg h5,if_neg h6];rfl) (TT.cst ?_)
    split;exact esc_nn _
    split;simp[ok]
    split;simp[ok]
    split;simp[ok]
    split;simp[er]
    split<;>simp[ok,er]
   have hR:∀ s,All s→s.cs.length<L+1→TT fun n=>repA n s:=fun s ha hl=>by
    refine TT.suc (TT.of (fun n=>by rw[repA]) (TT.bd (hAt s ha hl) fun a n h=>TT.bd (TT.cst (bounds_nn _)) fun b n h=>?_))
    split
    ·exact TT.const _
    ·refine TT.cst ?_
     split
     ·simp[er]
     ·simp only[ok,er];split<;>(split<;>simp)
   have hSR:∀ l s,All s→s.cs.length<L+1→TT fun n=>seqRA n l s:=fun l s ha hl=>by
    refine TT.suc ?_
    by_cases hp:s.cs=[]∨ah [124,41] s=true
    ·exact TT.of (fun n=>by rw[seqRA,if_pos hp];rfl) (TT.const _)
    ·refine TT.of (g:=fun n=>bd (repA n s) fun x=>seqRA n (l++[x.1]) x.2) (fun n=>by rw[seqRA,if_neg hp]) (TT.bd (hR s ha hl) fun a n h=>?_)
     have hR:=(read_ok n).2.2.2.2.1 s a ha h
     have:=hR.sz
     have hp:=size_pos a.1
     exact iSR (l++[a.1]) a.2 (ha.suf hR.inv.cs) om
   have hS:∀ s,All s→s.cs.length<L+1→TT fun n=>seqA n s:=fun s ha hl=>TT.suc (TT.of (fun n=>by rw[seqA]) (hSR [] s ha hl))
   have hAR:∀ l s,All s→s.cs.length<L+1→TT fun n=>altRA n l s:=fun l s ha hl=>by
    refine TT.suc ?_
    by_cases hp:pre [124] s.cs=true
    ·have hlen:(s.skip 1).cs.length+1=s.cs.length:=skip_len (t:=[124]) hp
     refine TT.of (g:=fun n=>bd (seqA n (s.skip 1)) fun x=>altRA n (l++[x.1]) x.2) (fun n=>by rw[altRA,if_pos hp]) (TT.bd (iS _ (ha.suf (skip_suf _ _)) om) fun a n h=>?_)
     have hQ:=(read_ok n).2.2.1 (s.skip 1) a (ha.suf (skip_suf _ _)) h
     have:=hQ.inv.cs.length_le
     exact iAR (l++[a.1]) a.2 ((ha.suf (skip_suf _ _)).suf hQ.inv.cs) om
    ·exact TT.of (fun n=>by rw[altRA,if_neg hp];rfl) (TT.const _)
   refine ⟨hAt,hR,hSR,hS,hAR,fun s ha hl=>?_⟩
   refine TT.suc (TT.of (g:=fun n=>bd (seqA n s) fun x=>altRA n [x.1] x.2) (fun n=>by rw[altsA]) (TT.bd (hS s ha hl) fun a n h=>?_))
   have hQ:=(read_ok n).2.2.1 s a ha h
   have:=hQ.inv.cs.length_le
   exact hAR [a.1] a.2 (ha.suf hQ.inv.cs) om
theorem alts_TT {s:St} (ha:All s):TT fun n=>altsA n s:=(read_TT (s.cs.length+1)).2.2.2.2.2 s ha om
end Go.Gv.X
namespace Go.Gv.X
open Go Go.Gv Go.Gv.D Go.Gv.R Go.Gv.P Go.Lib
set_option maxRecDepth 100000
/-! Own work: the second reader's small functions. -/
abbrev RSt:=List Int × Int × Int × Int × Bool × Bool × Bool
abbrev rp (L:List Nat) (b:Bool) (s:St):RSt:=(ints L,((L.length-s.cs.length:Nat):Int),IntKind.i64.wrap (s.np:Int),(s.ng:Int),b,s.lg,s.ls)
/-- own name for the loop body 0 of ref4_scanner_eat -/
noncomputable def eatRF (s_0:RSt) (t_1:ByteArray) (s4:Int):Option (Int ⊕ (Unit ⊕ (Bool × RSt))):=
 (if (decide (s4<((ByteArray.size t_1:Nat):Int))) then (Option.bind (if (decide ((IntKind.i64.wrap (s_0.2.1+s4))≥((af s_0.1:Nat):Int))) then (some (true)) else (Option.bind (sidx t_1 s4) fun x20=>(Option.bind (idx s_0.1 (IntKind.i64.wrap (s_0.2.1+s4))) fun x23=>(some ((x23 !=(IntKind.i64.wrap (x20)))))))) fun (j10:Bool)=>(if j10 then (some (.inr (.inr ((false,(s_0.1,s_0.2.1,s_0.2.2.1,s_0.2.2.2.1,s_0.2.2.2.2.1,s_0.2.2.2.2.2.1,s_0.2.2.2.2.2.2)))))) else (some (.inl (IntKind.i64.wrap (s4+1)))))) else (some (.inr (.inl ()))))
/-- own name for the loop body 0 of ref4_digitsAt -/
noncomputable def digF (l_0:List Int) (at_1:Int) (s3:(Int × Int)):Option ((Int × Int) ⊕ (Int × Int)):=
 (Option.bind (if (decide ((IntKind.i64.wrap (at_1+s3.2))<((af l_0:Nat):Int))) then (Option.bind (idx l_0 (IntKind.i64.wrap (at_1+s3.2))) fun x10=>(if (decide (x10≥48)) then (Option.bind (idx l_0 (IntKind.i64.wrap (at_1+s3.2))) fun x13=>(some ((decide (x13≤57))))) else (some (false)))) else (some (false))) fun (j7:Bool)=>(if j7 then (Option.bind (idx l_0 (IntKind.i64.wrap (at_1+s3.2))) fun x19=>(Option.bind (some (IntKind.i64.wrap ((IntKind.i64.wrap ((IntKind.i64.wrap (10*s3.1))+x19))-48))) fun n21=>(Option.bind (if (decide (n21>401)) then (some (401)) else (some (n21))) fun (j23:Int)=>(some (.inl (j23,(IntKind.i64.wrap (s3.2+1)))))))) else (some (.inr ((s3.1,s3.2))))))
theorem LT.mono {τ ρ:Type} {F:Nat→τ→Option (τ ⊕ ρ)} {st:τ} {Q Q':ρ→Prop} (h:LT F st Q) (k:∀ r,Q r→Q' r):LT F st Q':=by
 obtain ⟨r,hq,h⟩:=h
 exact ⟨r,k r hq,h⟩
theorem suf_len {L cs:List Nat} (h:cs <:+ L):cs.length≤L.length:=h.length_le
theorem idxL {L p r:List Nat} {d:Nat} (h:(p++d::r) <:+ L):idx (ints L) ((L.length-(p++d::r).length+p.length:Nat):Int)=some (d:Int):=by
 obtain ⟨u,rfl⟩:=h
 have:(u++(p++d::r)).length-(p++d::r).length+p.length=(u++p).length:=by simp only[aa];omega
 rw[this,ints_get (by simp), ]
 congr 1
 have:u++(p++d::r)=(u++p)++d::r:=by simp
 simp only[this]
 rw[List.getElem_append_right (Nat.le_refl _)]
 simp
theorem eatR_lt {L:List Nat} (hL:L.length≤1000) {b:Bool} {s:St}:∀ (q p cs':List Nat),(∀ c∈p++q,c<128)→(p++q).length≤100→(p++cs') <:+ L→s.cs=p++cs'→
 LT (fun _=>eatRF (rp L b s) (strOf (bs (p++q)))) (p.length:Int) (· =if pre q cs' then .inl () else .inr (false,rp L b s))
 | [],p,cs',_,_,_,_=>by
   refine LT.fin (Tot.alln fun n=>?_) rfl
   unfold eatRF
   rw[if_neg]
   ·rw[if_pos pre_nil]
   ·rw[al,size_str,bs_len,dff om];decide
 | c::q,p,cs',hp,hpl,hs,he=>by
   have hlen:=suf_len hs
   have hp1:p.length≤100:=by have:=hpl;simp only[aa,ae]at this;omega
   have hc:c<128:=hp c (by simp)
   have e1:decide ((p.length:Int)<(((strOf (bs (p++c::q))).size:Nat):Int))=true:=dtt (by rw[size_str,bs_len,aa,ae];omega)
   have e2:sidx (strOf (bs (p++c::q))) (p.length:Int)=some (c:Int):=by
    have:=getD_sidx (l:=bs (p++c::q)) (i:=p.length) (by rw[bs_len];simp)
    rw[this]
    congr 2
    simp only[bs,List.map_append,List.map_cons]
    rw[List.getD_eq_getElem?_getD,List.getElem?_append_right (by simp)]
    simp only[List.length_map,Nat.sub_self,List.getElem?_cons_zero,Option.getD_some]
    exact ofNat_toNat' hc
   have e3:IntKind.i64.wrap (((L.length-s.cs.length:Nat):Int)+(p.length:Int))=((L.length-s.cs.length+p.length:Nat):Int):=by rw[i64_small om om];rfl
   have hstep:eatRF (rp L b s) (strOf (bs (p++c::q))) (p.length:Int)=if pre [c] cs'=true then some (.inl ((p.length+1:Nat):Int)) else some (.inr (.inr (false,rp L b s))):=by
    unfold eatRF
    rw[if_pos e1]
    simp only
    rw[e3,ints_len]
    cases cs' with
    | nil=>
      rw[if_pos (dtt (by rw[he];simp only[al]at hlen ⊢;omega))]
      rfl
    | cons d r=>
      rw[if_neg (by rw[dff (by rw[he];simp only[aa,ae]at hlen ⊢;omega)];decide),e2]
      have:=idxL hs
      rw[← he]at this
      rw[this]
      simp only[Option.bind_some]
      rw[i64_small (x:=(c:Int)) om om]
      rw[aa]at hpl
      by_cases hcd:c=d
      ·subst hcd
       rw[if_neg (by simp),if_pos (by rw[pre_cons,pre_nil]),i64_small om om];rfl
      ·rw[if_pos oss,if_neg (by rw[pre_ne hcd];decide)]
   cases cs' with
   | nil=>exact LT.fin (r:=.inr (false,rp L b s)) (Tot.alln fun n=>by rw[hstep,if_neg (by rw[pre_none];decide)]) rfl
   | cons d r=>
     by_cases hcd:c=d
     ·subst hcd
      have ih:=eatR_lt hL (b:=b) (s:=s) q (p++[c]) r (by simpa using hp) (by simpa using hpl) (by simpa using hs) (by rw[he];simp)
      rw[show p++[c]++q=p++c::q by simp,aa,ak]at ih
      rw[pre_cons]
      exact LT.step (Tot.alln fun n=>by rw[hstep,if_pos (by rw[pre_cons,pre_nil])]) ih
     ·rw[pre_ne hcd]
      exact LT.fin (r:=.inr (false,rp L b s)) (Tot.alln fun n=>by rw[hstep,if_neg (by rw[pre_ne hcd];decide)]) rfl
theorem eatR {L:List Nat} (hL:L.length≤1000) {b:Bool} {s:St} (hs:s.cs <:+ L) {t:List Nat} (ht:∀ c∈t,c<128) (htl:t.length≤100) {T:List UInt8} (hT:T=bs t):
 Tot (fun n=>ref4_scanner_eat n (rp L b s) (strOf T)) (· =(pre t s.cs,rp L b (if pre t s.cs then s.skip t.length else s))):=by
 subst hT
 unfold ref4_scanner_eat
 refine ac (LT.tot (F:=fun _=>eatRF (rp L b s) (strOf (bs t))) (eatR_lt hL t [] s.cs ht htl hs rfl)) fun a e=>?_
 subst e
 cases hp:pre t s.cs with
 | false=>exact ab rfl
 | true=>
   refine ab ?_
   have hl:=skip_len hp
   have hlen:=suf_len hs
   rw[size_str,bs_len]
   simp only[if_true]
   rw[i64_small (x:=((L.length-s.cs.length:Nat):Int)+(t.length:Int)) om om]
   rw[show ((L.length-s.cs.length:Nat):Int)+(t.length:Int)=((L.length-(s.skip t.length).cs.length:Nat):Int) by omega]
   rfl
/-- a set that the second reader looks for -/
def St9 (S:List Nat):Prop:=∀ k,(List.range 128).all (fun n=>ref4_oneOf (k+30) (n:Int) (strOf (bs S))==some (S.contains n))=true
theorem isR {L:List Nat} (hL:L.length≤1000) {b:Bool} {s:St} (hs:s.cs <:+ L) {S:List Nat} (h9:St9 S) (hS:∀ c∈S,c<128) {T:List UInt8} (hT:T=bs S):
 Tot (fun n=>ref4_scanner_is n (rp L b s) (strOf T)) (· =ah S s):=by
 subst hT
 unfold ref4_scanner_is ah
 have hlen:=suf_len hs
 cases hc:s.cs with
 | nil=>
   refine ac (P:=(· =false)) (Tot.alln fun n=>?_) fun a e=>by subst e;exact ab rfl
   rw[if_neg]
   show ¬ decide (((L.length-s.cs.length:Nat):Int)<(((ints L).length:Nat):Int))=true
   rw[hc,ints_len,dff (by simp)]
   decide
 | cons c r=>
   have hx:idx (rp L b s).1 (rp L b s).2.1=some (c:Int):=by
    have:=idxL (p:=[]) (hc ▸ hs)
    rw[am,← hc]at this
    exact this
   have hd:decide ((rp L b s).2.1<(((rp L b s).1.length:Nat):Int))=true:=by
    show decide (((L.length-s.cs.length:Nat):Int)<(((ints L).length:Nat):Int))=true
    rw[hc]at hlen ⊢
    rw[ints_len]
    simp only[ae]at hlen ⊢
    exact dtt om
   refine ac (P:=(· =S.contains c)) ?_ (fun a e=>by subst e;exact ab rfl)
   refine ai hd (ad hx ?_)
   by_cases h:c<128
   ·refine ai (dtt om) (ad hx ?_)
    rw[u8_small (x:=(c:Int)) om om]
    refine ac (P:=(· =S.contains c)) (Tot.of_all 30 (fun k=>?_) rfl) fun a e=>ab e
    exact beq_iff_eq.1 (List.all_eq_true.1 (h9 k) c (List.mem_range.2 h))
   ·refine ag (dff om) (ab ?_)
    symm
    exact Bool.eq_false_iff.2 fun e=>h (hS c (by simpa using e))
theorem pieceR (n:Nat) (L:List Nat) (b:Bool) (s:St) (p:PTu):ref4_scanner_piece n (rp L b s) p=some (p,rp L b { s with np:=s.np+1}):=by
 unfold ref4_scanner_piece
 rw[wrap_inc]
theorem dg_int (d:Nat):(if decide ((d:Int)≥48)=true then some (decide ((d:Int)≤57)) else some false)=some (dgN d):=by
 unfold dgN
 by_cases h:48≤d
 ·rw[if_pos (dtt om),dtt h,Bool.true_and]
  congr 1
  rw[aj]
  simp only[decide_eq_true_eq]
  omega
 ·rw[if_neg (by rw[dff om];decide),dff h,Bool.false_and]
theorem valD_snoc (p:List Nat) {c:Nat} (h:dgN c=true):valD (p++[c])=10*valD p+(c-48):=by
 have hc:c≤127:=by simp only[dgN,Bool.and_eq_true,decide_eq_true_eq]at h;omega
 unfold valD
 rw[enc_snoc,encR1 hc,valN_snoc,ofNat_toNat' om]
theorem dig_lt {L:List Nat} (hL:L.length≤1000):∀ (cs' p:List Nat),(p++cs') <:+ L→
 LT (fun _=>digF (ints L) ((L.length-(p++cs').length:Nat):Int)) (((min (valD p) 401:Nat):Int),(p.length:Int)) (· =(((min (valD (p++twN cs')) 401:Nat):Int),((p++twN cs').length:Int)))
 | [],p,hs=>by
   refine LT.fin (Tot.alln fun n=>?_) rfl
   have hlen:=suf_len hs
   unfold digF
   rw[if_neg]
   ·simp[twN]
   ·rw[ints_len]
    simp only[al]at hlen ⊢
    rw[i64_small om om,dff om];decide
 | d::r,p,hs=>by
   have hlen:=suf_len hs
   have hp1:p.length≤1000:=by have:=hlen;simp only[aa,ae]at this;omega
   have hx:=idxL hs
   have e3:IntKind.i64.wrap (((L.length-(p++d::r).length:Nat):Int)+(p.length:Int))=((L.length-(p++d::r).length+p.length:Nat):Int):=by rw[i64_small om om];rfl
   have hstep:digF (ints L) ((L.length-(p++d::r).length:Nat):Int) (((min (valD p) 401:Nat):Int),(p.length:Int))=if dgN d=true then some (.inl (((min (valD (p++[d])) 401:Nat):Int),((p.length+1:Nat):Int))) else some (.inr (((min (valD p) 401:Nat):Int),(p.length:Int))):=by
    unfold digF
    simp only
    rw[e3,if_pos (dtt (by rw[ints_len];simp only[aa,ae]at hlen ⊢;omega)),hx]
    simp only[Option.bind_some]
    rw[dg_int]
    simp only[Option.bind_some]
    cases hd:dgN d with
    | false=>rfl
    | true=>
      have hd':48≤d∧d≤57:=by simpa [dgN] using hd
      simp only[if_true]
      rw[valD_snoc p hd]
      rw[i64_small (x:=10*_) om om,i64_small (x:=_+(d:Int)) om om,i64_small (x:=_-(48:Int)) om om]
      rw[i64_small (x:=(p.length:Int)+1) (by simp only[aa]at hlen;omega) (by simp only[aa]at hlen;omega)]
      by_cases h:10*min (valD p) 401+(d-48)>401
      ·rw[if_pos (dtt om)]
       simp only[Option.bind_some]
       rw[show min (10*valD p+(d-48)) 401=401 by omega]
       rfl
      ·rw[if_neg (by rw[dff om];decide)]
       simp only[Option.bind_some]
       rw[show 10*((min (valD p) 401:Nat):Int)+(d:Int)-48=((min (10*valD p+(d-48)) 401:Nat):Int) by omega]
       rfl
   cases hd:dgN d with
   | false=>
     have:twN (d::r)=[]:=by simp[twN,hd]
     rw[this,al]
     exact LT.fin (Tot.alln fun n=>hstep.trans (by rw[hd];rfl)) rfl
   | true=>
     have:twN (d::r)=d::twN r:=by simp[twN,hd]
     have ih:=dig_lt hL r (p++[d]) (by simpa using hs)
     rw[show p++[d]++r=p++d::r by simp,show p++[d]++twN r=p++twN (d::r) by rw[this];simp,show (p++[d]).length=p.length+1 by simp]at ih
     exact LT.step (Tot.alln fun n=>hstep.trans (by rw[hd,if_pos rfl])) ih
theorem digitsAtR {L:List Nat} (hL:L.length≤1000) {cs:List Nat} (hs:cs <:+ L):Tot (fun n=>ref4_digitsAt n (ints L) ((L.length-cs.length:Nat):Int)) (· =(((min (valD (twN cs)) 401:Nat):Int),((twN cs).length:Int))):=by
 unfold ref4_digitsAt
 exact ac (LT.tot (dig_lt hL cs [] hs)) fun a e=>ab (by rw[e];rfl)
theorem numberR {L:List Nat} (hL:L.length≤1000) {b:Bool} {s:St} (hs:s.cs <:+ L):
 Tot (fun n=>ref4_scanner_number n (rp L b s)) (fun x=>0≤x.1∧x.1≤401∧∃ s'',s''.cs <:+ s.cs∧(match digitsA s with | some (.inl (v,s'))=>s''=s'∧x.2=rp L b s'∧(s'.lg=false→x.1=v) | _=>x.2=rp L true s'')):=by
 unfold ref4_scanner_number
 refine ac (digitsAtR hL hs) fun a e=>?_
 subst e
 have hlen:=suf_len hs
 have htw:=tw_dw_len s.cs
 have hat:∀ x:Int,x=(((twN s.cs).length:Nat):Int)→IntKind.i64.wrap (((L.length-s.cs.length:Nat):Int)+x)=((L.length-(dwN s.cs).length:Nat):Int):=fun x hx=>by
  rw[hx,i64_small om om];omega
 have hj:∀ (n:Nat),(if ((((twN s.cs).length:Nat):Int)==0)=true then some true else if decide ((((twN s.cs).length:Nat):Int)>1)=true then (idx (ints L) ((L.length-s.cs.length:Nat):Int)).bind fun x26=>some (x26==48) else some false)
  =some (decide (twN s.cs=[]∨(1<(twN s.cs).length∧(twN s.cs).head? =some 48))):=fun _=>by
  cases hw:twN s.cs with
  | nil=>rfl
  | cons c t=>
    rw[if_neg oss]
    by_cases h1:1<(c::t).length
    ·rw[if_pos (dtt om)]
     obtain ⟨r,hr⟩:∃ r,s.cs=c::r:=by
      cases hcs:s.cs with
      | nil=>rw[hcs]at hw;cases hw
      | cons d r=>
        rw[hcs]at hw
        unfold twN at hw
        rw[List.takeWhile_cons]at hw
        split at hw
        ·exact ⟨r,by rw[(List.cons.inj hw).1]⟩
        ·cases hw
     have:=idxL (p:=[]) (hr ▸ hs)
     rw[am,← hr]at this
     rw[show ((L.length-s.cs.length:Nat):Int)=((L.length-s.cs.length+([]:List Nat).length:Nat):Int) from rfl,this]
     simp only[Option.bind_some]
     congr 1
     rw[aj]
     simp only[beq_iff_eq,reduceCtorEq,false_or,List.head?_cons,Option.some.injEq,decide_eq_true_eq]
     omega
    ·rw[if_neg (by rw[dff om];decide)]
     congr 1
     symm
     rw[decide_eq_false_iff_not]
     rintro (h | h)
     ·cases h
     ·exact h1 h.1
 refine ac (P:=(· =_)) (Tot.alln hj) fun a e=>?_
 subst e
 by_cases hz:twN s.cs=[]∨(1<(twN s.cs).length∧(twN s.cs).head? =some 48)
 ·have hA:digitsA s=er:=by unfold digitsA;rw[if_pos hz]
  rw[dtt hz,hA]
  simp only[if_true,Option.bind_some]
  by_cases h9:min (valD (twN s.cs)) 401>99
  ·refine ac (P:=(· =((ints L),((L.length-(dwN s.cs).length:Nat):Int),IntKind.i64.wrap (s.np:Int),(s.ng:Int),true,true,s.ls))) (ai (dtt om) (ab ?_)) ?_
   ·rw[hat _ rfl]
   ·intro a e
    subst e
    exact ab ⟨om,om,{ s with cs:=dwN s.cs,lg:=true},dw_suf _,rfl⟩
  ·refine ac (P:=(· =((ints L),((L.length-(dwN s.cs).length:Nat):Int),IntKind.i64.wrap (s.np:Int),(s.ng:Int),true,s.lg,s.ls))) (ag (dff om) (ab ?_)) ?_
   ·rw[hat _ rfl]
   ·intro a e
    subst e
    exact ab ⟨om,om,{ s with cs:=dwN s.cs},dw_suf _,rfl⟩
 ·have hA:digitsA s=if valD (twN s.cs)>99 then ok (99,{ s with cs:=dwN s.cs,lg:=true}) else ok ((valD (twN s.cs):Int),{ s with cs:=dwN s.cs}):=by unfold digitsA;rw[if_neg hz]
  rw[dff hz,hA]
  simp only[Bool.false_eq_true,if_false,Option.bind_some]
  by_cases h9:valD (twN s.cs)>99
  ·rw[if_pos h9]
   refine ac (P:=(· =((ints L),((L.length-(dwN s.cs).length:Nat):Int),IntKind.i64.wrap (s.np:Int),(s.ng:Int),b,true,s.ls))) (ai (dtt om) (ab ?_)) ?_
   ·rw[hat _ rfl]
   ·intro a e
    subst e
    exact ab ⟨om,om,{ s with cs:=dwN s.cs,lg:=true},dw_suf _,rfl,rfl,fun e=>by cases e⟩
  ·rw[if_neg h9]
   refine ac (P:=(· =((ints L),((L.length-(dwN s.cs).length:Nat):Int),IntKind.i64.wrap (s.np:Int),(s.ng:Int),b,s.lg,s.ls))) (ag (dff om) (ab ?_)) ?_
   ·rw[hat _ rfl]
   ·intro a e
    subst e
    exact ab ⟨om,om,{ s with cs:=dwN s.cs},dw_suf _,rfl,rfl,fun _=>by simp only;omega⟩
end Go.Gv.X
namespace Go.Gv.X
open Go Go.Gv Go.Gv.D Go.Gv.R Go.Gv.P Go.Lib
set_option maxRecDepth 100000
/-! Own work: the second reader's classes. -/
/-- own name for the loop body 1 of ref4_United -/
noncomputable def minF (l:List (Int × Int)) (s20:(Int × Int)):Option ((Int × Int) ⊕ Int):=
 (if (decide (s20.2<((af l:Nat):Int))) then (Option.bind (idx l s20.2) fun x29=>(Option.bind (idx l s20.1) fun x32=>(Option.bind (if (decide (x29.1<x32.1)) then (some (s20.2)) else (some (s20.1))) fun (j38:Int)=>(some (.inl (j38,(IntKind.i64.wrap (s20.2+1)))))))) else (some (.inr (s20.1))))
/-- own name for the loop body 0 of ref4_United -/
noncomputable def uniF (fuel:Nat) (s3:((List (Int × Int)) × (List (Int × Int)))):Option (((List (Int × Int)) × (List (Int × Int))) ⊕ List (Int × Int)):=
 (if (decide (((af s3.1:Nat):Int)>0)) then (Option.bind (loopN (fun (s20:(Int × Int))=>(if (decide (s20.2<((af s3.1:Nat):Int))) then (Option.bind (idx s3.1 s20.2) fun x29=>(Option.bind (idx s3.1 s20.1) fun x32=>(Option.bind (if (decide (x29.1<x32.1)) then (some (s20.2)) else (some (s20.1))) fun (j38:Int)=>(some (.inl (j38,(IntKind.i64.wrap (s20.2+1)))))))) else (some (.inr (s20.1))))) fuel (0,0)) fun (j18:Int)=>(Option.bind (idx s3.1 j18) fun x57=>(Option.bind (sub s3.1 0 j18) fun x72=>(Option.bind (sub s3.1 (IntKind.i64.wrap (j18+1)) ((af s3.1:Nat):Int)) fun x82=>(Option.bind (app ([]:List (Int × Int)) x72) fun l88=>(Option.bind (app l88 x82) fun l112=>(Option.bind (if (((af s3.2:Nat):Int)==0) then (some (true)) else (Option.bind (idx s3.2 (IntKind.i64.wrap (((af s3.2:Nat):Int)-1))) fun x147=>(Option.bind (some (decide (x57.1>(IntKind.i64.wrap (x147.2+1))))) fun n153=>(some (n153))))) fun (j135:Bool)=>(Option.bind (if j135 then (Option.bind (app s3.2 ([(x57.1,x57.2)]:List (Int × Int))) fun l179=>(some (l179))) else (Option.bind (idx s3.2 (IntKind.i64.wrap (((af s3.2:Nat):Int)-1))) fun x202=>(if (decide (x57.2>x202.2)) then (Option.bind (idx s3.2 (IntKind.i64.wrap (((af s3.2:Nat):Int)-1))) fun x211=>(Option.bind (upd s3.2 (IntKind.i64.wrap (((af s3.2:Nat):Int)-1)) (x211.1,x57.2)) fun l216=>(some (l216)))) else (some (s3.2))))) fun (j165:(List (Int × Int)))=>(some (.inl (l112,j165))))))))))) else (some (.inr (s3.2))))
theorem minR {l:List (Int × Int)} (h0:0<l.length) (hl:l.length≤1000000):Tot (fun n=>loopN (minF l) n (0,0)) (fun k=>∃ (i:Nat) (h:i<l.length),k=(i:Int)∧∀ y∈l,l[i].1≤y.1):=by
 refine Tot.loop (F:=fun _=>minF l) (fun st=>∃ (b i:Nat) (hb:b<l.length),st=((b:Int),(i:Int))∧i≤l.length∧∀ j (hj:j<l.length),j<i→l[b].1≤l[j].1) (fun st=>l.length-st.2.toNat) ⟨0,0,h0,rfl,Nat.zero_le _,fun j _ h=>by omega⟩ ?_
 rintro st ⟨b,i,hb,rfl,hi,hm⟩
 unfold minF
 by_cases h:i<l.length
 ·refine ai (dtt osm) ?_
  refine ad (idx_nat h) (ad (idx_nat hb) ?_)
  have hw:IntKind.i64.wrap ((i:Int)+1)=((i+1:Nat):Int):=by rw[i64_small om om];rfl
  by_cases hc:l[i].1<l[b].1
  ·refine ac (P:=(· =(i:Int))) (ai (dtt hc) (ab rfl)) fun a e=>?_
   subst e
   refine ab ⟨⟨i,i+1,h,by rw[hw],h,fun j hj hji=>?_⟩,?_⟩
   ·rcases Nat.lt_or_ge j i with h1 | h1
    ·exact Int.le_trans (Int.le_of_lt hc) (hm j hj h1)
    ·have:j=i:=by omega
     subst this
     exact Int.le_refl _
   ·simp only[hw,Int.toNat_natCast];omega
  ·refine ac (P:=(· =(b:Int))) (ag (dff hc) (ab rfl)) fun a e=>?_
   subst e
   refine ab ⟨⟨b,i+1,hb,by rw[hw],h,fun j hj hji=>?_⟩,?_⟩
   ·rcases Nat.lt_or_ge j i with h1 | h1
    ·exact hm j hj h1
    ·have:j=i:=by omega
     subst this
     omega
   ·simp only[hw,Int.toNat_natCast];omega
 ·refine ag (dff osm) (ab ⟨b,hb,rfl,fun y hy=>?_⟩)
  obtain ⟨j,hj,rfl⟩:=List.getElem_of_mem hy
  exact hm j hj om
theorem perm_mid {α:Type} (l:List α) (i:Nat) (h:i<l.length):(l[i]::(l.take i++l.drop (i+1))).Perm l:=by
 have:l.take i++l[i]::l.drop (i+1)=l:=by rw[← List.drop_eq_getElem_cons h,List.take_append_drop]
 exact List.perm_middle.symm.trans (List.Perm.of_eq this)
theorem unitedR {l:List (Int × Int)} (hl:l.length≤1000000) (hs:Sml l):Tot (fun n=>ref4_United n l) (fun r=>∃ m:List (Int × Int),m.Perm l∧m.Pairwise (fun a b=>a.1≤b.1)∧r=m.foldl mStep []):=by
 unfold ref4_United
 refine ac (P:=fun r=>∃ m:List (Int × Int),m.Perm l∧m.Pairwise (fun a b=>a.1≤b.1)∧r=m.foldl mStep []) ?_ (fun a e=>ab e)
 refine Tot.loop (F:=uniF) (fun st=>∃ m:List (Int × Int),(m++st.1).Perm l∧m.Pairwise (fun a b=>a.1≤b.1)∧(∀ a∈m,∀ b∈st.1,a.1≤b.1)∧st.2=m.foldl mStep []∧st.2.length≤m.length∧Sml st.2) (fun st=>st.1.length) ⟨[],List.Perm.refl _,List.Pairwise.nil,fun a ha=>(by cases ha),rfl,Nat.le_refl _,fun y hy=>by cases hy⟩ ?_
 rintro ⟨rem,out⟩ ⟨m,h1,h2,h3,h4,h5,h6⟩
 simp only at h1 h2 h3 h4 h5 h6
 have hlen:=h1.length_eq
 rw[aa]at hlen
 unfold uniF
 dsimp only
 by_cases h0:0<rem.length
 ·refine ai (dtt om) ?_
  refine ac (minR (l:=rem) h0 om) fun k hk=>?_
  obtain ⟨i,hi,rfl,hmin⟩:=hk
  refine ad (idx_nat hi) ?_
  have hw:IntKind.i64.wrap ((i:Int)+1)=((i+1:Nat):Int):=by rw[i64_small om om];rfl
  have s1:sub rem 0 (i:Int)=some (rem.take i):=by
   rw[sub_ok om om om];simp
  have s2:sub rem ((i+1:Nat):Int) ((rem.length:Nat):Int)=some (rem.drop (i+1)):=by
   rw[sub_ok om om om];simp
  refine ad s1 ?_
  rw[hw]
  refine ad s2 (ad (app_ok oss) (ad (app_ok oss) ?_))
  rw[am]
  have hx:=hs rem[i] (h1.mem_iff.1 (by simp))
  have hnew:∃ m':List (Int × Int),(m'++(rem.take i++rem.drop (i+1))).Perm l∧m'.Pairwise (fun a b=>a.1≤b.1)∧(∀ a∈m',∀ b∈rem.take i++rem.drop (i+1),a.1≤b.1)∧mStep out rem[i]=m'.foldl mStep []∧(mStep out rem[i]).length≤m'.length∧Sml (mStep out rem[i]):=by
   refine ⟨m++[rem[i]],?_,?_,?_,?_,?_,mStep_sml h6 hx⟩
   ·rw[List.append_assoc]
    exact ((perm_mid rem i hi).append_left m).trans h1
   ·rw[List.pairwise_append]
    refine ⟨h2,List.pairwise_singleton _ _,fun a ha b hb=>?_⟩
    have:b=rem[i]:=by simpa using hb
    rw[this]
    exact h3 a ha _ (List.getElem_mem ..)
   ·intro a ha b hb
    have hb:b∈rem:=by
     rcases List.mem_append.1 hb with h | h
     ·exact List.mem_of_mem_take h
     ·exact List.mem_of_mem_drop h
    rcases List.mem_append.1 ha with h | h
    ·exact h3 a h b hb
    ·have:a=rem[i]:=by simpa using h
     rw[this];exact hmin b hb
   ·rw[List.foldl_append,← h4];rfl
   ·have:=mStep_len out rem[i]
    rw[aa,ak];omega
  have hless:(rem.take i++rem.drop (i+1)).length<rem.length:=by rw[aa,List.length_take,List.length_drop];omega
  rcases List.eq_nil_or_concat out with rfl | ⟨o,y,rfl⟩
  ·refine ac (P:=(· =true)) (ai rfl (ab rfl)) fun a e=>?_
   subst e
   refine ac (P:=(· =mStep [] rem[i])) (ai rfl (ad (app_ok (by simp)) (ab rfl))) (fun a e=>by subst e;exact ab ⟨hnew,hless⟩)
  ·rw[List.concat_eq_append]at*
   have hy:=h6 y (by simp)
   have hlen2:IntKind.i64.wrap ((((o++[y]).length:Nat):Int)-1)=(o.length:Int):=by
    rw[aa]at h5 ⊢
    simp only[ak]at h5 ⊢
    rw[i64_small om om];omega
   have hm:mStep (o++[y]) rem[i]=if rem[i].1≤y.2+1 then o++[(y.1,max y.2 rem[i].2)] else (o++[y])++[rem[i]]:=by
    unfold mStep
    rw[List.getLast?_append]
    simp
   have hg:idx (o++[y]) (o.length:Int)=some y:=get_mid o y [] rfl
   simp only[hlen2]
   refine ac (P:=(· =decide (¬ rem[i].1≤y.2+1))) (ag oss (ad hg (Tot.some_bind (ab ?_)))) fun a e=>?_
   ·rw[i64_small (x:=y.2+1) om om,aj];simp only[decide_eq_true_eq];omega
   ·subst e
    refine ac (P:=(· =mStep (o++[y]) rem[i])) ?_ (fun a e=>by subst e;exact ab ⟨hnew,hless⟩)
    rw[hm]
    by_cases hc:rem[i].1≤y.2+1
    ·rw[if_pos hc]
     refine ag (dff (fun h=>h hc)) (ad hg ?_)
     by_cases hd:rem[i].2>y.2
     ·refine ai (dtt hd) (ad hg (ad (upd_mid o y _ [] rfl) (ab ?_)))
      rw[show max y.2 rem[i].2=rem[i].2 by omega]
     ·refine ag (dff hd) (ab ?_)
      rw[show max y.2 rem[i].2=y.2 by omega]
    ·rw[if_neg hc]
     exact ai (dtt hc) (ad (app_ok (by simp only[aa,ak]at h5 ⊢;omega)) (ab rfl))
 ·refine ag (dff om) (ab ⟨m,?_,h2,h4⟩)
  have:rem=[]:=List.length_eq_zero_iff.1 om
  rw[this,al]at h1
  exact h1
theorem unitedR' {l:List (Int × Int)} (hl:l.length≤1000000) (hr:Rg l):Tot (fun n=>ref4_United n l) (· =mergedL l):=by
 refine (unitedR hl hr.sml).mono ?_
 rintro r ⟨m,h1,h2,rfl⟩
 obtain ⟨m1,m2,m3⟩:=merge_fold m [] trivial (fun r hr'=>hr.1 r (h1.mem_iff.1 hr')) h2 (fun y hy=>by cases hy)
 have hc:∀ z,cov m z↔cov l z:=fun z=>⟨fun ⟨r,hr,h⟩=>⟨r,h1.mem_iff.1 hr,h⟩,fun ⟨r,hr,h⟩=>⟨r,h1.mem_iff.2 hr,h⟩⟩
 refine (merged_same hr.1 m1 fun z=>?_).symm
 rw[m2,← hc]
 exact ⟨fun h=>h.elim (fun ⟨r,hr,_⟩=>by cases hr) id,.inr⟩
def classN (c:Nat):List (Int × Int):=if namedA c≠[] then namedA c else if c=68∨c=87∨c=83 then namedA (c+32) else []
theorem classOf_eq (n:Nat) (c:Nat):ref4_classOf n (c:Int)=some (classN c):=by
 by_cases h1:c=100
 ·subst h1;rfl
 by_cases h2:c=68
 ·subst h2;rfl
 by_cases h3:c=119
 ·subst h3;rfl
 by_cases h4:c=87
 ·subst h4;rfl
 by_cases h5:c=115
 ·subst h5;rfl
 by_cases h6:c=83
 ·subst h6;rfl
 unfold ref4_classOf
 rw[show (((c:Int)==100))=false by simp;omega,show (((c:Int)==68))=false by simp;omega,show (((c:Int)==119))=false by simp;omega,show (((c:Int)==87))=false by simp;omega,show (((c:Int)==115))=false by simp;omega,show (((c:Int)==83))=false by simp;omega]
 have:classN c=[]:=by
  unfold classN
  rw[show namedA c=[] by unfold namedA;rw[if_neg h1,if_neg h3,if_neg h5]]
  rw[if_neg (by simp),if_neg om]
 rw[this]
 rfl
end Go.Gv.X
namespace Go.Gv.X
open Go Go.Gv Go.Gv.D Go.Gv.R Go.Gv.P Go.Lib
set_option maxRecDepth 100000
/-! Own work: the second reader's classes and escapes. -/
theorem idxH {L:List Nat} {s:St} {c:Nat} {r:List Nat} (hs:s.cs <:+ L) (hc:s.cs=c::r):idx (ints L) ((L.length-s.cs.length:Nat):Int)=some (c:Int):=by
 have:=idxL (p:=[]) (hc ▸ hs)
 rw[am,← hc]at this
 exact this
theorem atNext {L:List Nat} (hL:L.length≤1000) {s:St} {c:Nat} {r:List Nat} (hs:s.cs <:+ L) (hc:s.cs=c::r):IntKind.i64.wrap (((L.length-s.cs.length:Nat):Int)+1)=((L.length-r.length:Nat):Int):=by
 have:=suf_len hs
 rw[hc]at this ⊢
 rw[ae]at this ⊢
 rw[i64_small om om];omega
theorem signR {L:List Nat} (hL:L.length≤1000) {b:Bool} {s:St} {c:Nat} {r:List Nat} (hs:s.cs <:+ L) (hc:s.cs=c::r):
 Tot (fun n=>ref4_scanner_sign n (rp L b s)) (fun x=>match symA c with | some d=>x=((d:Int),rp L b { s with cs:=r}) | none=>x=((c:Int),rp L true { s with cs:=r})):=by
 unfold ref4_scanner_sign
 refine ad (idxH hs hc) ?_
 have hn:=atNext hL hs hc
 have e:∀ (b':Bool),(ints L,IntKind.i64.wrap (((L.length-s.cs.length:Nat):Int)+1),IntKind.i64.wrap (s.np:Int),(s.ng:Int),b',s.lg,s.ls)=rp L b' { s with cs:=r}:=fun b'=>by rw[hn]
 unfold symA
 by_cases h1:c=110
 ·subst h1
  refine ai rfl (ab ?_)
  simp only[e];rfl
 refine ag oss ?_
 rw[if_neg h1]
 by_cases h2:c=116
 ·subst h2
  refine ai rfl (ab ?_)
  simp only[e];rfl
 refine ag oss ?_
 rw[if_neg h2]
 by_cases h3:c≤32∨127≤c
 ·refine ac (P:=(· =rp L true { s with cs:=r})) (ai oss (ab (e true))) fun a ea=>?_
  subst ea
  rw[if_pos om]
  exact ab rfl
 by_cases h4:(48≤c∧c≤57)∨(65≤c∧c≤90)∨(97≤c∧c≤122)
 ·refine ac (P:=(· =rp L true { s with cs:=r})) (ag oss (ai ?_ (ab (e true)))) fun a ea=>?_
  ·simp only[ge_iff_le,Bool.or_eq_true,decide_eq_true_eq,Bool.ite_eq_true_distrib,Bool.and_eq_true]
   split<;>split<;>omega
  ·subst ea
   rw[if_pos om]
   exact ab rfl
 ·refine ac (P:=(· =rp L b { s with cs:=r})) (ag oss (ag ?_ (ab (e b)))) fun a ea=>?_
  ·rw[Bool.eq_false_iff]
   simp only[ne_eq,ge_iff_le,Bool.or_eq_true,decide_eq_true_eq,Bool.ite_eq_true_distrib,Bool.and_eq_true]
   split<;>split<;>omega
  ·subst ea
   rw[if_neg om]
   exact ab rfl
theorem R91:St9 [91,93,45]:=fun k=>by kernel_rfl
theorem class_low {c:Nat} (h:97≤c):classN c=namedA c:=by
 unfold classN
 split
 ·rfl
 ·rename_i hn
  rw[if_neg om]
  exact (Classical.not_not.1 hn).symm
theorem named_low {c:Nat} (h:namedA c≠[]):97≤c:=by
 unfold namedA at h
 split at h
 ·omega
 ·split at h
  ·omega
  ·split at h
   ·omega
   ·exact absurd rfl h
theorem at_end {L:List Nat} {s:St} (hs:s.cs <:+ L):decide (((L.length-s.cs.length:Nat):Int)≥(((ints L).length:Nat):Int))=decide (s.cs=[]):=by
 have:=suf_len hs
 rw[ints_len,aj]
 simp only[ge_iff_le,decide_eq_true_eq]
 rw[← List.length_eq_zero_iff]
 omega
def memQ (L:List Nat) (b:Bool) (s:St) (x:Int × List (Int × Int) × RSt):Prop:=match memA s with
 | some (.inl (.inl c,s'))=>x=((c:Int),[],rp L b s')
 | some (.inl (.inr l,s'))=>x=(0,l,rp L b s')
 | _=>∃ (c:Nat) (s'':St),c≤1114111∧s''.cs <:+ s.cs∧x=((c:Int),[],rp L true s'')
theorem memberR {L:List Nat} (hL:L.length≤1000) {b:Bool} {s:St} (hs:s.cs <:+ L) (ha:All s):Tot (fun n=>ref4_scanner_member n (rp L b s)) (memQ L b s):=by
 unfold ref4_scanner_member
 cases hcs:s.cs with
 | nil=>
   have hM:memA s=er:=by unfold memA;rw[hcs]
   refine ac (P:=(· =(true,rp L b s))) (ai ((at_end hs).trans (dtt hcs)) (ab rfl)) fun a e=>?_
   subst e
   refine ai rfl (ab ?_)
   unfold memQ
   rw[hM]
   exact ⟨0,s,om,List.suffix_refl _,rfl⟩
 | cons c r=>
 have hne:s.cs≠[]:=by rw[hcs];simp
 have hcc:c≤1114111:=by have:=ha c (by rw[hcs];simp);unfold Scal at this;omega
 have hr:∀ x∈r,Scal x:=fun x hx=>ha x (by rw[hcs];simp[hx])
 have hM:memA s=if c=91∨c=93∨c=45 then er else
  if c≠92 then ok (.inl c,{ s with cs:=r}) else
  match r with
  | []=>er
  | d::r=>if namedA d≠[] then ok (.inr (namedA d),{ s with cs:=r}) else
    match symA d with
    | none=>er
    | some e=>ok (.inl e,{ s with cs:=r}):=by unfold memA;rw[hcs];rfl
 have hah:ah [91,93,45] s=decide (c=91∨c=93∨c=45):=by
  unfold ah
  rw[hcs,aj]
  simp
 refine ac (P:=(· =(decide (c=91∨c=93∨c=45),rp L b s))) (ag ((at_end hs).trans (dff hne)) (ac (isR hL hs R91 ddc rfl) fun a e=>ab (by rw[e,hah]))) fun a e=>?_
 subst e
 by_cases h1:c=91∨c=93∨c=45
 ·refine ai (dtt h1) (ab ?_)
  unfold memQ
  rw[hM,if_pos h1]
  exact ⟨0,s,om,List.suffix_refl _,rfl⟩
 refine ag (dff h1) (ac (eatR hL hs (t:=[92]) ddc ddc rfl) fun a e=>?_)
 subst e
 rw[if_neg h1]at hM
 by_cases h2:c=92
 ·subst h2
  have hp:pre [92] s.cs=true:=by rw[hcs,pre_cons,pre_nil]
  rw[hp]
  have hsk:(if true=true then s.skip (af [92]) else s)={ s with cs:=r}:=by simp only[if_true];unfold St.skip;rw[hcs];rfl
  rw[hsk]
  rw[if_neg om]at hM
  have hs2:r <:+ L:=(List.suffix_cons _ _).trans (hcs ▸ hs)
  refine ag rfl ?_
  cases r with
  | nil=>
    refine ai ((at_end (s:={ s with cs:=[]}) hs2).trans (dtt rfl)) (ab ?_)
    unfold memQ
    rw[hM]
    exact ⟨0,{ s with cs:=[]},om,List.nil_suffix,rfl⟩
  | cons d r=>
  refine ag ((at_end (s:={ s with cs:=d::r}) hs2).trans (dff (by simp))) (ad (idxH (s:={ s with cs:=d::r}) hs2 rfl) ?_)
  have hdc:d≤1114111:=by have:=hr d (by simp);unfold Scal at this;omega
  have hn:=atNext (s:={ s with cs:=d::r}) hL hs2 rfl
  have e:(ints L,IntKind.i64.wrap (((L.length-(d::r).length:Nat):Int)+1),IntKind.i64.wrap (s.np:Int),(s.ng:Int),b,s.lg,s.ls)=rp L b { s with cs:=r}:=by
   have hn:IntKind.i64.wrap (((L.length-(d::r).length:Nat):Int)+1)=((L.length-r.length:Nat):Int):=hn
   rw[hn]
  have hj:Tot (fun n=>if decide ((d:Int)≥97)=true then (ref4_classOf n (d:Int)).bind fun r74=>some (decide (((r74.length:Nat):Int)>0)) else some false) (· =decide (namedA d≠[])):=by
   by_cases h:97≤d
   ·refine ai (dtt om) (ac (Tot.alln fun n=>classOf_eq n d) fun a e=>ab ?_)
    rw[e,class_low h,aj]
    simp only[decide_eq_true_eq]
    rw[← List.length_pos_iff]
    omega
   ·refine ag (dff om) (ab ?_)
    symm
    exact dff fun e=>h (named_low e)
  refine ac hj fun a ea=>?_
  subst ea
  by_cases h3:namedA d≠[]
  ·refine ai (dtt h3) (ac (Tot.alln fun n=>classOf_eq n d) fun a ea=>ab ?_)
   subst ea
   unfold memQ
   rw[hM]
   simp only
   rw[if_pos h3,class_low (named_low h3)]
   show (0,namedA d,_)=(0,namedA d,_)
   rw[← e]
  ·refine ag (dff h3) (ac (signR (s:={ s with cs:=d::r}) hL hs2 rfl) fun a ea=>ab ?_)
   unfold memQ
   rw[hM]
   simp only
   rw[if_neg h3]
   cases hy:symA d with
   | none=>
     rw[hy]at ea
     simp only at ea
     subst ea
     exact ⟨d,{ s with cs:=r},hdc,by rw[hcs];exact (List.suffix_cons _ _).trans (List.suffix_cons _ _),rfl⟩
   | some y=>
     rw[hy]at ea
     simp only at ea
     subst ea
     rfl
 ·have hp:pre [92] s.cs=false:=by rw[hcs];exact pre_ne (Ne.symm h2)
  rw[hp]
  simp only[Bool.false_eq_true,if_false]
  have hn:=atNext hL hs hcs
  have hlen:=suf_len hs
  refine ai rfl ?_
  rw[hn]
  rw[hcs,ae]at hlen
  have hb:IntKind.i64.wrap (((L.length-r.length:Nat):Int)-1)=((L.length-s.cs.length:Nat):Int):=by
   rw[hcs,ae,i64_small om om];omega
  rw[hb]
  refine ad (idxH hs hcs) (ab ?_)
  unfold memQ
  rw[hM,if_pos h2]
  rfl
end Go.Gv.X
