import Derived.Test.YtjhfmibjphdanaaGreatDoorXD
set_option linter.all false
namespace Go.Gv.X
open Go Go.Gv Go.Gv.D Go.Gv.R Go.Gv.P Go.Lib
set_option maxRecDepth 100000
/-! Own work: the abstract parser comes to an end. -/
def TT {α:Type} (x:Nat→Option α):Prop:=∃ r,∃ N,∀ n,N≤n→x n=some r
theorem TT.suc {α:Type} {f:Nat→Option α} (h:TT fun n=>f (n+1)):TT f:=by
 obtain ⟨r,N,h⟩:=h
 exact ⟨r,N+1,fun n hn=>by obtain ⟨n,rfl⟩:∃ k,n=k+1:=⟨n-1,om⟩;exact h n om⟩
theorem TT.const {α:Type} (a:α):TT (fun _=>some a):=⟨a,0,fun _ _=>rfl⟩
theorem TT.bd {α β:Type} {x:Nat→Res α} {f:Nat→α→Res β} (h:TT x) (k:∀ a n,x n=some (.inl a)→TT fun n=>f n a):TT fun n=>bd (x n) (f n):=by
 obtain ⟨r,N,h⟩:=h
 cases r with
 | inr u=>exact ⟨.inr u,N,fun n hn=>by show Go.Gv.X.bd (x n) (f n)=_;rw[h n hn];rfl⟩
 | inl a=>
   obtain ⟨r,M,hk⟩:=k a N (h N (Nat.le_refl _))
   exact ⟨r,max N M,fun n hn=>by show Go.Gv.X.bd (x n) (f n)=_;rw[h n om];exact hk n om⟩
theorem TT.cst {α:Type} {x:Option α} (h:x≠none):TT (fun _=>x):=by
 cases x with
 | none=>exact absurd rfl h
 | some a=>exact TT.const a
theorem TT.of {α:Type} {f g:Nat→Option α} (e:∀ n,f n=g n) (h:TT g):TT f:=by rw[funext e];exact h
theorem bounds_nn (s:St):boundsA s≠none:=by
 unfold boundsA
 split;simp[ok]
 split;simp[ok]
 split;simp[ok]
 split;simp[ok]
 cases h:digitsA (s.skip 1) with
 | none=>exact absurd h (digits_nn _)
 | some x=>
   cases x with
   | inr u=>simp[Go.Gv.X.bd]
   | inl x=>
     simp only[Go.Gv.X.bd]
     split
     ·rename_i hn
      split at hn
      ·split at hn
       ·cases hn
       ·exact absurd hn (digits_nn _)
      ·cases hn
     ·simp
     ·split<;>simp[ok,er]
theorem item_nn (s:St):itemA s≠none:=by
 unfold itemA
 cases h:memA s with
 | none=>exact absurd h (mem_nn _)
 | some x=>
   cases x with
   | inr u=>simp[Go.Gv.X.bd]
   | inl x=>
     obtain ⟨m,s1⟩:=x
     cases m with
     | inr l=>simp[Go.Gv.X.bd,ok]
     | inl c=>
       simp only[Go.Gv.X.bd]
       split
       ·cases h:memA (s1.skip 1) with
        | none=>exact absurd h (mem_nn _)
        | some x=>
          cases x with
          | inr u=>simp
          | inl x=>
            obtain ⟨m,s2⟩:=x
            cases m with
            | inr l=>simp[er]
            | inl d=>simp only;split<;>simp[ok,er]
       ·simp[ok]
theorem esc_nn (s:St):escA s≠none:=by
 unfold escA
 split
 ·simp[er]
 ·split;simp[ok]
  split;simp[ok]
  split;simp[ok]
  split;simp[ok]
  split<;>simp[ok,er]
theorem cls_TT:∀ (L:Nat) (acc:List (Int × Int)) (s:St),All s→s.cs.length<L→TT fun n=>clsA n acc s
 | 0,_,_,_,h=>by omega
 | L+1,acc,s,ha,hl=>by
   refine TT.suc (TT.of (g:=fun n=>bd (itemA s) fun x=>if pre [93] x.2.cs then ok (acc++x.1,x.2.skip 1) else clsA n (acc++x.1) x.2) (fun n=>by rw[clsA]) ?_)
   refine TT.bd (TT.cst (item_nn s)) fun a n h=>?_
   obtain ⟨l,s1⟩:=a
   obtain ⟨a1,a2,_,_⟩:=item_spec ha h
   simp only
   split
   ·exact TT.const _
   ·exact cls_TT L (acc++l) s1 (ha.suf a1) om
theorem class_TT {s:St} (ha:All s):TT fun n=>classA n s:=by
 unfold classA
 refine TT.bd (cls_TT ((if pre [94] s.cs=true then s.skip 1 else s).cs.length+1) [] _ (ha.suf (by split;exact skip_suf _ _;exact List.suffix_refl _)) om) fun a n h=>TT.const _
theorem read_TT:∀ (L:Nat),
 (∀ s,All s→s.cs.length<L→TT fun n=>atomA n s)∧(∀ s,All s→s.cs.length<L→TT fun n=>repA n s)∧(∀ l s,All s→s.cs.length<L→TT fun n=>seqRA n l s)∧
 (∀ s,All s→s.cs.length<L→TT fun n=>seqA n s)∧(∀ l s,All s→s.cs.length<L→TT fun n=>altRA n l s)∧(∀ s,All s→s.cs.length<L→TT fun n=>altsA n s):=by
 intro L
 induction L with
 | zero=>exact ⟨fun _ _ h=>by omega,fun _ _ h=>by omega,fun _ _ _ h=>by omega,fun _ _ h=>by omega,fun _ _ _ h=>by omega,fun _ _ h=>by omega⟩
 | succ L ih=>
   obtain ⟨iAt,iR,iSR,iS,iAR,iA⟩:=ih
   have ins:∀ (s:St) (kd low:Int) (no:Bool),All s→s.cs.length<L→TT fun n=>insA n s kd low no:=fun s kd low no ha hl=>by
    refine TT.suc (TT.of (g:=fun n=>bd (altsA n s) fun x=>if pre [41] x.2.cs then ok (made (x.2.skip 1) (.mk kd low 0 no false [] [x.1])) else er) (fun n=>by rw[insA]) ?_)
    refine TT.bd (iA s ha hl) fun a n h=>?_
    split<;>exact TT.const _
   have hAt:∀ s,All s→s.cs.length<L+1→TT fun n=>atomA n s:=fun s ha hl=>by
    refine TT.suc ?_
    have hk:∀ {t:List Nat},pre t s.cs=true→0<t.length→(s.skip t.length).cs.length<L∧All (s.skip t.length):=fun {t} hp ht=>⟨by have:=skip_len hp;omega,ha.suf (skip_suf _ _)⟩
    by_cases h1:pre [40,63,58] s.cs=true
    ·exact TT.of (fun n=>by rw[atomA,if_pos h1]) (ins (s.skip 3) 7 0 false (hk h1 ddc).2 (hk h1 ddc).1)
    by_cases h2:pre [40,63,61] s.cs=true
    ·exact TT.of (fun n=>by rw[atomA,if_neg h1,if_pos h2]) (ins (s.skip 3) 11 0 false (hk h2 ddc).2 (hk h2 ddc).1)
    by_cases h3:pre [40,63,33] s.cs=true
    ·exact TT.of (fun n=>by rw[atomA,if_neg h1,if_neg h2,if_pos h3]) (ins (s.skip 3) 11 0 true (hk h3 ddc).2 (hk h3 ddc).1)
    by_cases h4:pre [40,63] s.cs=true
    ·exact TT.of (fun n=>by rw[atomA,if_neg h1,if_neg h2,if_neg h3,if_pos h4];rfl) (TT.const _)
    by_cases h5:pre [40] s.cs=true
    ·exact TT.of (fun n=>by rw[atomA,if_neg h1,if_neg h2,if_neg h3,if_neg h4,if_pos h5]) (ins { s.skip 1 with ng:=s.ng+1} 7 ((s.ng+1:Nat):Int) false (hk h5 ddc).2 (hk h5 ddc).1)
    by_cases h6:pre [91] s.cs=true
    ·exact TT.of (fun n=>by rw[atomA,if_neg h1,if_neg h2,if_neg h3,if_neg h4,if_neg h5,if_pos h6]) (class_TT (ha.suf (skip_suf s 1)))
    refine TT.of (g:=fun _=>if pre [92] s.cs then escA (s.skip 1) else
     if pre [46] s.cs then ok (made (s.skip 1) (.mk 2 0 0 false false [] [])) else
     if pre [94] s.cs then ok (made (s.skip 1) (.mk 4 0 0 false false [] [])) else
     if pre [36] s.cs then ok (made (s.skip 1) (.mk 5 0 0 false false [] [])) else
     if ah [42,43,63,123,125,93] s then er else
     match s.cs with
     | []=>er
     | c::r=>ok (made { s with cs:=r} (.mk 1 (c:Int) 0 false false [] []))) (fun n=>by rw[atomA,if_neg h1,if_neg h2,if_neg h3,if_neg h4,if_neg h5,if_neg h6];rfl) (TT.cst ?_)
    split;exact esc_nn _
    split;simp[ok]
    split;simp[ok]
    split;simp[ok]
    split;simp[er]
    split<;>simp[ok,er]
   have hR:∀ s,All s→s.cs.length<L+1→TT fun n=>repA n s:=fun s ha hl=>by
    refine TT.suc (TT.of (fun n=>by rw[repA]) (TT.bd (hAt s ha hl) fun a n h=>TT.bd (TT.cst (bounds_nn _)) fun b n h=>?_))
    split
    ·exact TT.const _
    ·refine TT.cst ?_
     split
     ·simp[er]
     ·simp only[ok,er];split<;>(split<;>simp)
   have hSR:∀ l s,All s→s.cs.length<L+1→TT fun n=>seqRA n l s:=fun l s ha hl=>by
    refine TT.suc ?_
    by_cases hp:s.cs=[]∨ah [124,41] s=true
    ·exact TT.of (fun n=>by rw[seqRA,if_pos hp];rfl) (TT.const _)
    ·refine TT.of (g:=fun n=>bd (repA n s) fun x=>seqRA n (l++[x.1]) x.2) (fun n=>by rw[seqRA,if_neg hp]) (TT.bd (hR s ha hl) fun a n h=>?_)
     have hR:=(read_ok n).2.2.2.2.1 s a ha h
     have:=hR.sz
     have hp:=size_pos a.1
     exact iSR (l++[a.1]) a.2 (ha.suf hR.inv.cs) om
   have hS:∀ s,All s→s.cs.length<L+1→TT fun n=>seqA n s:=fun s ha hl=>TT.suc (TT.of (fun n=>by rw[seqA]) (hSR [] s ha hl))
   have hAR:∀ l s,All s→s.cs.length<L+1→TT fun n=>altRA n l s:=fun l s ha hl=>by
    refine TT.suc ?_
    by_cases hp:pre [124] s.cs=true
    ·have hlen:(s.skip 1).cs.length+1=s.cs.length:=skip_len (t:=[124]) hp
     refine TT.of (g:=fun n=>bd (seqA n (s.skip 1)) fun x=>altRA n (l++[x.1]) x.2) (fun n=>by rw[altRA,if_pos hp]) (TT.bd (iS _ (ha.suf (skip_suf _ _)) om) fun a n h=>?_)
     have hQ:=(read_ok n).2.2.1 (s.skip 1) a (ha.suf (skip_suf _ _)) h
     have:=hQ.inv.cs.length_le
     exact iAR (l++[a.1]) a.2 ((ha.suf (skip_suf _ _)).suf hQ.inv.cs) om
    ·exact TT.of (fun n=>by rw[altRA,if_neg hp];rfl) (TT.const _)
   refine ⟨hAt,hR,hSR,hS,hAR,fun s ha hl=>?_⟩
   refine TT.suc (TT.of (g:=fun n=>bd (seqA n s) fun x=>altRA n [x.1] x.2) (fun n=>by rw[altsA]) (TT.bd (hS s ha hl) fun a n h=>?_))
   have hQ:=(read_ok n).2.2.1 s a ha h
   have:=hQ.inv.cs.length_le
   exact hAR [a.1] a.2 (ha.suf hQ.inv.cs) om
theorem alts_TT {s:St} (ha:All s):TT fun n=>altsA n s:=(read_TT (s.cs.length+1)).2.2.2.2.2 s ha om
end Go.Gv.X
namespace Go.Gv.X
open Go Go.Gv Go.Gv.D Go.Gv.R Go.Gv.P Go.Lib
set_option maxRecDepth 100000
/-! Own work: the second reader's small functions. -/
theorem LT.mono {τ ρ:Type} {F:Nat→τ→Option (τ ⊕ ρ)} {st:τ} {Q Q':ρ→Prop} (h:LT F st Q) (k:∀ r,Q r→Q' r):LT F st Q':=by
 obtain ⟨r,hq,h⟩:=h
 exact ⟨r,k r hq,h⟩
/-- a set that the second reader looks for -/
def St9 (S:List Nat):Prop:=∀ k,(List.range 128).all (fun n=>ref4_oneOf (k+30) (n:Int) (strOf (bs S))==some (S.contains n))=true
end Go.Gv.X
namespace Go.Gv.X
open Go Go.Gv Go.Gv.D Go.Gv.R Go.Gv.P Go.Lib
set_option maxRecDepth 100000
/-! Own work: the second reader's classes. -/
end Go.Gv.X
namespace Go.Gv.X
open Go Go.Gv Go.Gv.D Go.Gv.R Go.Gv.P Go.Lib
set_option maxRecDepth 100000
/-! Own work: the second reader's classes and escapes. -/
end Go.Gv.X
