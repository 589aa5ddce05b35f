import Derived.Test.YtaeeniomdicclaaDoorGb
set_option linter.all false
namespace Go.Gv
open Go.RowKit
def ClB (l:List Oper) (listed0 listed:Array Bool):Prop:=zyW l.toArray listed∧∀ i,listed0.getD i false=true->listed.getD i false=true
theorem zsU {A:Array Bool} {i j:Nat} (h:A.getD i false=true):(A.setIfInBounds j true).getD i false=true:=by
 by_cases a:j=i
 ·subst a
  have b:j<A.size:=by
   rcases Nat.lt_or_ge j A.size with h1 | h1
   ·exact h1
   ·simp[h1]at h
  simp[b]
 ·rw[getD_set_ne false a];exact h
theorem ClB.set {l:List Oper} {listed0 listed:Array Bool} {j:Nat} (h:ClB l listed0 listed) (hj:j∈Region.ready .any l.toArray listed):ClB l listed0 (listed.setIfInBounds j true):=
 ⟨h.1.set hj,fun i hi=>zsU (h.2 i hi)⟩
def zqF (l:List Oper) (heads:List Nat) (listed0:Array Bool):Bool:=
 Region.noSelect l.toArray&&(heads.all (fun i=>Nat.blt i l.length)&&(List.range l.length).all fun j=>listed0.getD j false||(heads.contains j||
  ((zue l j).any (fun e=>Nat.blt e j&&(!(heads.contains e)&& !(listed0.getD e false)))||zoE (zoj l (20*l.length) (zue l j) []) listed0 heads)))
theorem zqv {l:List Oper} {heads:List Nat} {listed0:Array Bool} (h:zqF l heads listed0=true):
 Region.noSelect l.toArray=true∧(∀ i∈heads,i<l.length)∧∀ listed,ClB l listed0 listed->∀ j∈Region.ready .any l.toArray listed,j∉heads->heads.all (listed.getD · false)=true:=by
 simp only[zqF,Bool.and_eq_true]at h
 refine ⟨h.1,fun i hi=>Nat.le_of_ble_eq_true (List.all_eq_true.1 h.2.1 i hi),fun listed hc j hj c=>?_⟩
 have key:∀ j,j<l.length->j∉heads->listed0.getD j false=false->(∀ x∈zue l j,listed.getD x false=true)->heads.all (listed.getD · false)=true:=by
  intro j
  induction j using Nat.strongRecOn with
  | _ j ih=>
  intro a c p hp
  have h1:=List.all_eq_true.1 h.2.2 j (List.mem_range.2 a)
  rw[p,Bool.false_or,Bool.or_eq_true,Bool.or_eq_true]at h1
  rcases h1 with h1 | h1 | h1
  ·exact absurd (List.contains_iff_mem.1 h1) c
  ·obtain ⟨e,he,h2⟩:=List.any_eq_true.1 h1
   simp only[Bool.and_eq_true,Bool.not_eq_true']at h2
   have b:=Nat.le_of_ble_eq_true h2.1
   have m:=hp e he
   refine ih e b (Nat.lt_trans b a) (fun hm=>?_) h2.2.2 (fun x hx=>?_)
   ·rw[List.contains_iff_mem.2 hm]at h2;cases h2.2.1
   ·have f:e<l.length:=Nat.lt_trans b a
    have hn:l.toArray[e]? =some (nth l e):=by simpa using zyf l e f
    exact zxX hn (fun y hy hb=>hc.1 e _ hn m y hy hb) x hx
  ·rw[List.all_eq_true]
   intro i hi
   rcases zu2 h1 i hi with h2 | h2
   ·exact hc.2 i h2
   ·exact zxs hc.1 _ _ _ hp (fun x hx=>by cases hx) i h2
 obtain ⟨g,o,ho,d⟩:=mem_ready.1 hj
 have a:j<l.length:=by have:=(Array.getElem?_eq_some_iff.1 ho).1;simpa using this
 refine key j a c ?_ (zxX ho d)
 cases h0:listed0.getD j false with
 | false=>rfl
 | true=>have:=hc.2 j h0;rw[zxW g]at this;cases this
def rdyB (l:List Oper) (listed:Array Bool) (i:Nat):Bool:=
 Nat.blt i l.length&&(!(listed.getD i true)&&(nth l i).after.toList.all fun e=> !(Region.binds .any e)||listed.getD e.on false)
theorem zpu {l:List Oper} {listed:Array Bool} {i:Nat} (h:rdyB l listed i=true):i∈Region.ready .any l.toArray listed:=by
 simp only[rdyB,Bool.and_eq_true,Bool.not_eq_true']at h
 have a:=Nat.le_of_ble_eq_true h.1
 refine mem_ready.2 ⟨h.2.1,nth l i,by simpa using zyf l i a,fun e he hb=>?_⟩
 have h1:=List.all_eq_true.1 h.2.2 e (Array.mem_toList_iff.2 he)
 rw[hb]at h1
 simpa using h1
def okS (l:List Oper) (heads:List Nat) (goal:Array Bool):List (Nat × Mk)->Array Bool->Bool
 | [],listed=>heads.all (listed.getD · false)&&listed==goal
 | (i,m)::r,listed=>match m with
   | some true=>heads.contains i&&(rdyB l listed i&&(Region.free .any l.toArray listed i&&okS l heads goal r (listed.setIfInBounds i true)))
   | some false=>heads.contains i&&(decide (Region.ready .any l.toArray listed=[i])&&okS l heads goal r (listed.setIfInBounds i true))
   | none=>false
def eQ (G:Act->World->Prop) (Q:Exit->Act->World->Prop):Exit->Act->World->Prop
 | .normal,a,w=>G a w
 | .panic c,a,w=>∀ a':Act,a'.defers=a.defers->Q (.panic c) a' w
 | _,_,_=>False
theorem zxO {P:Program} {l:List Oper} {C:World->Prop} {Q:Exit->Act->World->Prop} {heads:List Nat} {listed0 goal:Array Bool} {G:Act->World->Prop} (hs:zqF l heads listed0=true):
 ∀ (hl:List (Nat × Mk)) (listed:Array Bool) (a:Act) (w:World),okS l heads goal hl listed=true->ClB l listed0 listed->C w->
 wpO P l.toArray C (eQ G Q) (zvP l hl) a w->wpH P l.toArray C (nQ Q) heads (fun listed a w=>listed=goal∧zyW l.toArray listed∧G a w) hl.length listed a w
 | [],listed,a,w,hk,hc,_,h=>by
   simp only[okS,Bool.and_eq_true,beq_iff_eq]at hk
   exact ⟨hk.1,hk.2,hc.1,h⟩
 | (i,m)::r,listed,a,w,hk,hc,hC,h=>by
   have f:=zqv hs
   cases m with
   | none=>cases hk
   | some q=>
     cases q with
     | true=>
       simp only[okS,Bool.and_eq_true,List.contains_iff_mem]at hk
       obtain ⟨d,hr,hf,hk⟩:=hk
       have hr:=zpu hr
       obtain ⟨_,o,ho,_⟩:=mem_ready.1 hr
       have c:i<l.length:=by have:=(Array.getElem?_eq_some_iff.1 ho).1;simpa using this
       have hn:l.toArray[i]? =some (nth l i):=by simpa using zyf l i c
       obtain ⟨v,hy,h⟩:=h
       exact zwM (fun _ _ hc hj=>ClB.set hc hj) hn d (Region.noSelect_spec f.1) f.2.2 _ _ _ _ hc hC (Region.free_spec hn hf) hr hy (zxO hs r _ _ w hk (hc.set hr) hC h)
     | false=>
       simp only[okS,Bool.and_eq_true,List.contains_iff_mem,decide_eq_true_eq]at hk
       obtain ⟨d,hr,hk⟩:=hk
       have b:i∈Region.ready .any l.toArray listed:=by rw[hr];simp
       obtain ⟨g,o,ho,_⟩:=mem_ready.1 b
       have c:i<l.length:=by have:=(Array.getElem?_eq_some_iff.1 ho).1;simpa using this
       have hn:l.toArray[i]? =some (nth l i):=by simpa using zyf l i c
       refine ⟨?_,fun h0=>(by rw[hr]at h0;cases h0),fun j hj=>?_⟩
       ·rw[List.all_eq_false]
        exact ⟨i,d,by rw[zxW g];decide⟩
       ·rw[hr]at hj
        obtain rfl:j=i:=by simpa using hj
        unfold wpOp
        simp only[hn]
        have h':(if Region.wanted (nth l j) (yielded l.toArray a.tmps) then (nth l j).wp P a w (fun a' w'=>C w'∧wpO P l.toArray C (eQ G Q) (zvP l r) a' w') (eQ G Q)
         else wpO P l.toArray C (eQ G Q) (zvP l r) (a.put (nth l j).dst undef) w):=h
        split at h'
        ·rename_i hw
         rw[if_pos hw]
         exact .inl (Oper.upon_monoQ (fun a w hh=>⟨hh.1,zxO hs r _ a w hk (hc.set b) hh.1 hh.2⟩) (fun e a w he hh=>by cases e<;>first | exact hh.elim | exact hh | exact absurd rfl he) h')
        ·rename_i hw;rw[if_neg hw];exact ⟨hC,zxO hs r _ _ w hk (hc.set b) hC h'⟩
theorem zrk {P:Program} {l:List Oper} {C:World->Prop} {Q:Exit->Act->World->Prop} {heads H:List Nat} {L L':Array Bool->Act->World->Prop} {g:Nat} (hh:∀ i∈heads,i∈H) (hL:∀ listed a w,L listed a w->wpH P l.toArray (fun _=>True) (nQ Q) H L' g listed a w):
 ∀ (f:Nat) (listed:Array Bool) (a:Act) (w:World),wpH P l.toArray C (nQ Q) heads L f listed a w->wpH P l.toArray (fun _=>True) (nQ Q) H L' (f+g) listed a w
 | 0,listed,a,w,h=>by rw[Nat.zero_add];exact hL _ _ _ h.2
 | f+1,listed,a,w,h=>by
   rw[show f+1+g=(f+g)+1 by omega]
   refine ⟨?_,h.2.1,fun i hi=>wpOp_mono (fun a' w' h'=>⟨trivial,zrk hh hL f _ a' w' h'.2⟩) (h.2.2 i hi)⟩
   obtain ⟨i,hi,hf⟩:=List.all_eq_false.1 h.1
   exact List.all_eq_false.2 ⟨i,hh i hi,hf⟩
def zrL (P:Program) (R:RR) (n:Nat) (_:List It) (l:List Oper) (H:List Nat) (Q:Exit->Act->World->Prop) (L:Array Bool->Act->World->Prop) (f:Nat) (listed:Array Bool) (σ:List (Nat × Value)) (w:World):Prop:=
 ∀ a:Act,a.defers=R.ds->a.tmps.size=n->Ok σ a.tmps->zyW l.toArray listed->wpH P l.toArray (fun _=>True) (nQ Q) H L f listed a w
abbrev endL (l:List Oper) (Q:Exit->Act->World->Prop):Array Bool->Act->World->Prop:=fun listed a w=>Region.ready .any l.toArray listed=[]∧nQ Q .normal a w
abbrev RunA (P:Program) (R:RR) (n:Nat) (k:List It) (l:List Oper) (f:Nat) (listed:Array Bool) (σ:List (Nat × Value)) (w:World):Prop:=
 zrL P R n k l (List.range l.length) (K P R k) (endL l (K P R k)) f listed σ w
theorem ztw (l:List Oper):zyW l.toArray (Array.replicate l.length false):=by
 intro j oj _ a e _ _
 exfalso
 rw[show (Array.replicate l.length false).getD j false=false from by
  rcases Nat.lt_or_ge j l.length with h | h
  ·simp[h]
  ·simp[h]]at a
 cases a
section
variable {P:Program} {R:RR} {n:Nat} {k:List It} {σ:List (Nat × Value)} {w:World} {l:List Oper} {listed:Array Bool} {H:List Nat} {Q:Exit->Act->World->Prop} {L:Array Bool->Act->World->Prop}
theorem gv_drawA {id:Nat} (hm:P.follows .mixedOrders=true) (h:∀ w2,w.grownBy w2 none->RunA P R n k l l.length (Array.replicate l.length false) σ w2) (hr:R.r=none:=by rfl):Run P R n (.code (.region id l.toArray true)::k) .normal σ w:=fun a hd hs b=>by
 refine zws hr ?_
 refine wp_mono (wp_region_any (Q:=nQ (K P R k)) hm ?_) (fun e a w h=>by cases e<;>first | exact h | exact h _ rfl | exact h.elim)
 rw[List.size_toArray]
 exact zxT (g:=0) (fun listed a w hh=>hh) _ _ _ _ (h w.drew (zvL w) a hd hs b (ztw l))
abbrev zol (P:Program) (l:List Oper) (H:List Nat) (Q:Exit->Act->World->Prop) (L:Array Bool->Act->World->Prop) (f:Nat) (goal:Array Bool):Act->World->Prop:=fun a' w'=>zyW l.toArray goal->wpH P l.toArray (fun _=>True) (nQ Q) H L f goal a' w'
theorem gv_stage (C:World->Prop) (heads:List Nat) (hl:List (Nat × Mk)) (goal:Array Bool) {f:Nat} (f':Nat) (hB:(zqF l heads listed&&(okS l heads goal hl listed&&heads.all (H.contains ·)))=true) (hf:Nat.beq f (hl.length+f')=true) (hC:C w)
 (h:Run P R n (.ops l.toArray C (zvP l hl):: .goal (zol P l H Q L f' goal)::k) .normal σ w) (hQ:∀ c a w,K P R k (.panic c) a w->Q (.panic c) a w:=by exact fun _ _ _ h=>h):zrL P R n k l H Q L f listed σ w:=fun a hd hs b d=>by
 simp only[Bool.and_eq_true]at hB
 obtain ⟨ht,hk,hH⟩:=hB
 rw[Nat.eq_of_beq_eq_true hf]
 refine zrk (fun i hi=>List.contains_iff_mem.1 (List.all_eq_true.1 hH i hi)) (fun listed a w hh=>?_) _ _ _ _ (zxO (G:=zol P l H Q L f' goal) ht hl listed a w hk ⟨d,fun _ h=>h⟩ hC (zz4 (fun e a w hh=>?_) _ _ _ (h a hd hs b)))
 ·obtain ⟨rfl,hc,hh⟩:=hh
  exact hh hc
 ·cases e<;>first | exact hh | exact fun a' ha=>hQ _ _ _ (hh a' ha) | exact hh.elim
def okQ2 (l:List Oper) (H:List Nat):List Nat->Array Bool->Bool
 | [],_=>true
 | i::is,listed=>H.contains i&&(rdyB l listed i&&(Region.free .any l.toArray listed i&&okQ2 l H is (listed.setIfInBounds i true)))
def zpm (l:List Oper) (H:List Nat) (listed0:Array Bool):Prop:=∀ listed,ClB l listed0 listed->∀ j∈Region.ready .any l.toArray listed,j∉H->H.all (listed.getD · false)=true
theorem zuc {f:Nat} {listed0:Array Bool} (hs:Region.noSelect l.toArray=true) (hT:zpm l H listed0):∀ (is:List Nat) (listed:Array Bool) (a:Act) (w:World),okQ2 l H is listed=true->ClB l listed0 listed->
 wpO P l.toArray (fun _=>True) (fun e a w=>e= .normal->zol P l H Q L f (ztb is listed) a w) (zvP l (qs is)) a w->wpH P l.toArray (fun _=>True) (nQ Q) H L (f+is.length) listed a w
 | [],listed,a,w,_,hc,h=>h rfl hc.1
 | i::is,listed,a,w,hk,hc,h=>by
   simp only[okQ2,Bool.and_eq_true,List.contains_iff_mem]at hk
   obtain ⟨c,hr,hf,hk⟩:=hk
   have hr:=zpu hr
   obtain ⟨_,o,ho,_⟩:=mem_ready.1 hr
   have b:i<l.length:=by have:=(Array.getElem?_eq_some_iff.1 ho).1;simpa using this
   have hn:l.toArray[i]? =some (nth l i):=by simpa using zyf l i b
   obtain ⟨v,hy,h⟩:=h
   have ih:=zuc hs hT is (listed.setIfInBounds i true) _ w hk (hc.set hr) h
   exact zwM (fun _ _ hc hj=>ClB.set hc hj) hn c (Region.noSelect_spec hs) hT _ _ _ _ hc trivial (Region.free_spec hn hf) hr hy ih
theorem zqH (listed0:Array Bool):zpm l (List.range l.length) listed0:=fun _ _ j hj b=>by
 obtain ⟨_,o,ho,_⟩:=mem_ready.1 hj
 have a:j<l.length:=by have:=(Array.getElem?_eq_some_iff.1 ho).1;simpa using this
 exact absurd (List.mem_range.2 a) b
theorem gv_pre (is:List Nat) (goal:Array Bool) {f:Nat} (f':Nat) (hB:(Region.noSelect l.toArray&&(okQ2 l (List.range l.length) is listed&&ztb is listed==goal))=true) (hf:Nat.beq f (f'+is.length)=true)
 (h:Run P R n (.ops l.toArray (fun _=>True) (zvP l (qs is)):: .goal (zol P l (List.range l.length) Q L f' goal)::k) .normal σ w):zrL P R n k l (List.range l.length) Q L f listed σ w:=fun a hd hs b c=>by
 simp only[Bool.and_eq_true,beq_iff_eq]at hB
 obtain ⟨ht,hk,hg⟩:=hB
 rw[Nat.eq_of_beq_eq_true hf]
 refine zuc ht (zqH listed) is listed a w hk ⟨c,fun _ h=>h⟩ (zz4 (fun e a w hh=>?_) _ _ _ (h a hd hs b))
 rw[hg]
 cases e<;>first | exact fun _=>hh | exact fun he=>by cases he
theorem gv_goA {f:Nat} {goal:Array Bool} (h:zrL P R n k l H Q L f goal σ w):Run P R n (.goal (zol P l H Q L f goal)::k) .normal σ w:=fun a hd hs b c=>h a hd hs b c
def bA (n:Nat) (S:List Nat):Array Bool:=((List.range n).map fun i=>S.contains i).toArray
theorem gv_stageE (hr:((List.range l.length).all (listed.getD · false)&&(Region.ready .any l.toArray listed).isEmpty)=true) (h:Run P R n k .normal σ w):RunA P R n k l 0 listed σ w:=fun a hd hs b _=>by
 simp only[Bool.and_eq_true]at hr
 exact ⟨hr.1,List.isEmpty_iff.1 hr.2,h a hd hs b⟩
end
end Go.Gv
