import Derived.WalkKit
import Derived.WalkSpells
import Derived.WalkLawsBesides
import Derived.Deep.Quiet
import Derived.Lib.Hide
import Derived.IntWalk
import Derived.TacticsIn
set_option linter.all false
namespace Go.Gv
open Go.RowKit
def Ok:List (Nat × Value)->Array Value->Prop
 | [],_=>True
 | (s,v)::σ,t=>t[s]? =some v∧Ok σ t
def look:List (Nat × Value)->Nat->Option Value
 | [],_=>none
 | (s,v)::σ,k=>bif Nat.beq s k then some v else look σ k
theorem Ok.look {σ:List (Nat × Value)} {t:Array Value} (h:Ok σ t) {s:Nat} {v:Value} (hl:look σ s=some v):t[s]? =some v:=by
 induction σ with
 | nil=>cases hl
 | cons p σ ih=>
   obtain ⟨s',u⟩:=p
   obtain ⟨h1,h2⟩:=h
   unfold Gv.look at hl
   by_cases e:Nat.beq s' s=true
   ·rw[e]at hl
    have:=Nat.eq_of_beq_eq_true e
    subst this
    cases hl
    exact h1
   ·rw[Bool.eq_false_iff.2 e]at hl
    exact ih h2 hl
def picks:List Nat->List (Nat × Value)->Option (List (Nat × Value))
 | [],_=>some []
 | s::ss,σ=>match look σ s,picks ss σ with
   | some v,some r=>some ((s,v)::r)
   | _,_=>none
theorem Ok.picks {σ:List (Nat × Value)} {t:Array Value} (h:Ok σ t):∀ {ss:List Nat} {σ':List (Nat × Value)},picks ss σ=some σ'->Ok σ' t
 | [],σ',hp=>by cases hp;trivial
 | s::ss,σ',hp=>by
   unfold Gv.picks at hp
   split at hp
   ·rename_i v r hv hr
    cases hp
    exact ⟨h.look hv,h.picks hr⟩
   ·cases hp
theorem Ok.set {σ:List (Nat × Value)} {t:Array Value} (h:Ok σ t) (d:Nat) (v:Value):Ok (σ.filter fun p=> !(Nat.beq p.1 d)) (t.setIfInBounds d v):=by
 induction σ with
 | nil=>trivial
 | cons p σ ih=>
   obtain ⟨s,u⟩:=p
   obtain ⟨h1,h2⟩:=h
   by_cases e:s=d
   ·subst e;simpa [List.filter_cons] using ih h2
   ·have:(Nat.beq s d)=false:=by
     cases hb:Nat.beq s d
     ·rfl
     ·exact absurd (Nat.eq_of_beq_eq_true hb) e
    simp only[List.filter_cons,this,Bool.not_false,if_true]
    refine ⟨?_,ih h2⟩
    rw[Array.getElem?_setIfInBounds_ne (fun e'=>e e'.symm)]
    exact h1
def put (σ:List (Nat × Value)) (d:Nat) (v:Value):List (Nat × Value):=(d,v)::σ.filter fun p=> !(Nat.beq p.1 d)
theorem Ok.put {σ:List (Nat × Value)} {t:Array Value} (h:Ok σ t) {d:Nat} (hd:d<t.size) (v:Value):Ok (put σ d v) (t.setIfInBounds d v):=
 ⟨by rw[Array.getElem?_setIfInBounds_self_of_lt hd],h.set d v⟩
def ev (σ:List (Nat × Value)):Operand->Option Value
 | .tmp t=>look σ t
 | .const v=>some v
 | .global g=>some (.pointer (some ⟨g,0,none⟩))
 | .func f=>some (.func (.func f) #[] #[])
theorem zsq {σ:List (Nat × Value)} {a:Act} (h:Ok σ a.tmps) {x:Operand} {v:Value} (hx:ev σ x=some v):a.eval x=v:=by
 cases x with
 | tmp t=>
   have:=h.look hx
   simp only[Act.eval,Array.getD_eq_getD_getElem?,this,Option.getD_some]
 | _=>cases hx;rfl
def evs (σ:List (Nat × Value)):List Operand->Option (List Value)
 | []=>some []
 | x::xs=>match ev σ x,evs σ xs with
   | some v,some r=>some (v::r)
   | _,_=>none
theorem ztE {σ:List (Nat × Value)} {a:Act} (h:Ok σ a.tmps):∀ {xs:List Operand} {vs:List Value},evs σ xs=some vs->xs.map a.eval=vs
 | [],vs,e=>by cases e;rfl
 | x::xs,vs,e=>by
   unfold evs at e
   split at e
   ·rename_i v r hv hr
    cases e
    simp only[List.map_cons,zsq h hv,ztE h hr]
   ·cases e
def zzQ (P:Program) (ops:Array Oper) (C:World->Prop) (o:Oper) (v:Value) (a:Act):Prop:=
 (Region.wanted o (yielded ops a.tmps)=true∧∀ w,C w->(execOp a.eval o).run P w= .ok (.value v) w)∨
 (Region.wanted o (yielded ops a.tmps)=false∧v=undef)
theorem zzQ.of_same {P:Program} {ops:Array Oper} {C:World->Prop} {o:Oper} {v:Value} {a a':Act} (hy:zzQ P ops C o v a) (he:execOp a'.eval o=execOp a.eval o)
 (hw:Region.wanted o (yielded ops a'.tmps)=Region.wanted o (yielded ops a.tmps)):zzQ P ops C o v a':=by
 unfold zzQ at*
 rw[he,hw]
 exact hy
theorem zxW {listed:Array Bool} {i:Nat} (h:listed.getD i true=false):listed.getD i false=false:=by
 rcases Nat.lt_or_ge i listed.size with h' | h'
 ·simp[h']at h ⊢;exact h
 ·simp[Array.getElem?_eq_none h']at h
abbrev Mk:=Option Bool
def wpO (P:Program) (all:Array Oper) (C:World->Prop) (Q:Exit->Act->World->Prop):List (Oper × Mk)->Act->World->Prop
 | [],a,w=>Q .normal a w
 | (o,some true)::rest,a,w=>∃ v,zzQ P all C o v a∧wpO P all C Q rest (a.put o.dst v) w
 | (o,some false)::rest,a,w=>
   if Region.wanted o (yielded all a.tmps) then o.wp P a w (fun a' w'=>C w'∧wpO P all C Q rest a' w') Q else wpO P all C Q rest (a.put o.dst undef) w
 | (o,none)::rest,a,w=>
   if Region.wanted o (yielded all a.tmps) then o.wp P a w (wpO P all C Q rest) Q else wpO P all C Q rest (a.put o.dst undef) w
def nQ (Q:Exit->Act->World->Prop):Exit->Act->World->Prop
 | .normal,a,w=>Q .normal a w
 | .panic c,a,w=>∀ a':Act,a'.defers=a.defers->Q (.panic c) a' w
 | _,_,_=>False
def nth:List Oper->Nat->Oper
 | [],_=>default
 | o::_,0=>o
 | _::l,i+1=>nth l i
def zvP (l:List Oper):List (Nat × Mk)->List (Oper × Mk)
 | []=>[]
 | (i,m)::r=>(nth l i,m)::zvP l r
def okT (ops:Array Oper):List (Nat × Mk)->Array Bool->Bool
 | [],listed=>(Region.ready .any ops listed).isEmpty
 | (i,m)::r,listed=>m.isNone&&(decide (Region.ready .any ops listed=[i])&&okT ops r (listed.setIfInBounds i true))
def wpH (P:Program) (ops:Array Oper) (C:World->Prop) (Q:Exit->Act->World->Prop) (heads:List Nat) (L:Array Bool->Act->World->Prop):Nat->Array Bool->Act->World->Prop
 | 0,listed,a,w=>heads.all (listed.getD · false)=true∧L listed a w
 | f+1,listed,a,w=>heads.all (listed.getD · false)=false∧Region.ready .any ops listed≠[]∧
    ∀ i∈Region.ready .any ops listed,wpOp P ops Q i (fun a' w'=>C w'∧wpH P ops C Q heads L f (listed.setIfInBounds i true) a' w') a w
def wpI (P:Program) (l:List Oper) (C:World->Prop) (Q:Exit->Act->World->Prop) (heads:List Nat) (ts:List (Nat × Mk)) (f:Nat) (listed:Array Bool) (a:Act) (w:World):Prop:=
 wpH P l.toArray C (nQ Q) heads (fun listed a w=>okT l.toArray ts listed=true∧wpO P l.toArray C (nQ Q) (zvP l ts) a w) f listed a w
inductive It where
 | code (c:Code)
 | blk (id:Nat)
 | ops (all:Array Oper) (C:World->Prop) (l:List (Oper × Mk))
 | any (l:List Oper) (C:World->Prop) (heads:List Nat) (ts:List (Nat × Mk)) (f:Nat) (listed:Array Bool)
 | goal (J:Act->World->Prop)
structure RR where
 r:Option Nat
 post:Exit->Act->World->Prop
 ds:List Deferred
def FR (r:Option Nat):Fence:={ Fence.wide with round:=r}
def K (P:Program) (R:RR):List It->Exit->Act->World->Prop
 | [],e,a,w=>R.post e a w
 | .code c::k,e,a,w=>match e with
   | .normal=>c.wpIn (FR R.r) 0 P (K P R k) a w
   | e=>K P R k e a w
 | .blk id::k,e,a,w=>match e with
   | .exit id'=>if id'=id then K P R k .normal a w else K P R k (.exit id') a w
   | e=>K P R k e a w
 | .ops all C l::k,e,a,w=>match e with
   | .normal=>wpO P all C (nQ (K P R k)) l a w
   | e=>K P R k e a w
 | .any l C heads ts f listed::k,e,a,w=>match e with
   | .normal=>wpI P l C (K P R k) heads ts f listed a w
   | e=>K P R k e a w
 | .goal J::k,e,a,w=>match e with
   | .normal=>J a w
   | e=>K P R k e a w
def Run (P:Program) (R:RR) (n:Nat) (k:List It) (e:Exit) (σ:List (Nat × Value)) (w:World):Prop:=
 ∀ a:Act,a.defers=R.ds->a.tmps.size=n->Ok σ a.tmps->K P R k e a w
section
variable {P:Program} {R:RR} {n:Nat} {k:List It} {σ σ':List (Nat × Value)} {w:World}
theorem gv_sub (ss:List Nat) (hp:picks ss σ=some σ') {e:Exit} (h:Run P R n k e σ' w):Run P R n k e σ w:=
 fun a hd hs b=>h a hd hs (b.picks hp)
def pk:List Nat->List (Nat × Value)->Option (List (Nat × Value))
 | [],σ=>some σ
 | ss,σ=>picks ss σ
theorem gv_pk (ss:List Nat) (hp:pk ss σ=some σ') {e:Exit} (h:Run P R n k e σ' w):Run P R n k e σ w:=by
 cases ss with
 | nil=>cases hp;exact h
 | cons s ss=>exact gv_sub (s::ss) hp h
@[reducible] def bp (b:Nat):Value:=.pointer (some ⟨b,0,none⟩)
theorem zsY (ss:List Nat) {t:Array Value} (h:Ok σ t) (hp:picks ss σ=some σ'):Ok σ' t:=h.picks hp
theorem gv_in {e:Exit} {a:Act} (h:Run P R n k e σ w) (hd:a.defers=R.ds) (hs:a.tmps.size=n) (hok:Ok σ a.tmps):K P R k e a w:=h a hd hs hok
theorem K_seq (c:Code) (k:List It):K P R (.code c::k)=Exit.then (c.wpIn (FR R.r) 0 P (K P R k)) (K P R k):=by
 funext e a w
 cases e<;>rfl
theorem gv_seq {x y:Code} (h:Run P R n (.code x:: .code y::k) .normal σ w):Run P R n (.code (.seq x y)::k) .normal σ w:=
 fun a hd hs b=>by
  show (Code.seq x y).wpIn (FR R.r) 0 P (K P R k) a w
  refine wpIn_seq ?_
  rw[<- K_seq]
  exact h a hd hs b
theorem K_blk (id:Nat) (k:List It):K P R (.blk id::k)=Exit.inBlock id (K P R k):=by
 funext e a w
 cases e<;>rfl
theorem gv_block {id:Nat} {c:Code} (h:Run P R n (.code c:: .blk id::k) .normal σ w):Run P R n (.code (.block id c)::k) .normal σ w:=
 fun a hd hs b=>by
  show (Code.block id c).wpIn (FR R.r) 0 P (K P R k) a w
  refine wpIn_block ?_
  rw[<- K_blk]
  exact h a hd hs b
theorem gv_blk {id:Nat} (h:Run P R n k .normal σ w):Run P R n (.blk id::k) .normal σ w:=h
theorem gv_skip (h:Run P R n k .normal σ w):Run P R n (.code .skip::k) .normal σ w:=fun a hd hs b=>wpIn_skip (h a hd hs b)
theorem gv_cexit {id:Nat} (h:Run P R n k (.exit id) σ w):Run P R n (.code (.exit id)::k) .normal σ w:=fun a hd hs b=>wpIn_exit (h a hd hs b)
theorem gv_cret (h:Run P R n k .ret σ w):Run P R n (.code .ret::k) .normal σ w:=fun a hd hs b=>wpIn_ret (h a hd hs b)
def zuf (id:Nat):List It->Option (List It)
 | []=>none
 | .blk id'::k=>bif Nat.beq id id' then some k else zuf id k
 | .code _::k | .ops .. ::k | .any .. ::k | .goal _::k=>zuf id k
theorem zvM {id:Nat}:∀ {k k':List It},zuf id k=some k'->∀ {a:Act} {w:World},K P R k' .normal a w->K P R k (.exit id) a w
 | [],_,h,_,_,_=>by cases h
 | .blk id'::k,k',h,a,w,hk=>by
   unfold zuf at h
   by_cases e:Nat.beq id id'=true
   ·rw[e]at h
    cases h
    have:=Nat.eq_of_beq_eq_true e
    subst this
    show (if id=id then _ else _)
    rw[if_pos rfl]
    exact hk
   ·rw[Bool.eq_false_iff.2 e]at h
    show (if id=id' then _ else _)
    have b:id≠id':=fun h'=>e (by subst h';exact Nat.beq_refl id)
    rw[if_neg b]
    exact zvM h hk
 | .code _::k,k',h,a,w,hk=>by show K P R k (.exit id) a w;exact zvM (k:=k) h hk
 | .ops .. ::k,k',h,a,w,hk=>by show K P R k (.exit id) a w;exact zvM (k:=k) h hk
 | .any .. ::k,k',h,a,w,hk=>by show K P R k (.exit id) a w;exact zvM (k:=k) h hk
 | .goal _::k,k',h,a,w,hk=>by show K P R k (.exit id) a w;exact zvM (k:=k) h hk
theorem gv_exit {id:Nat} {k':List It} (hd':zuf id k=some k') (h:Run P R n k' .normal σ w):Run P R n k (.exit id) σ w:=
 fun a hd hs b=>zvM hd' (h a hd hs b)
theorem zsr:∀ {k:List It} {a:Act} {w:World},R.post .ret a w->K P R k .ret a w
 | [],_,_,h=>h
 | .blk _::k,a,w,h=>by show K P R k .ret a w;exact zsr h
 | .code _::k,a,w,h=>by show K P R k .ret a w;exact zsr h
 | .ops .. ::k,a,w,h=>by show K P R k .ret a w;exact zsr h
 | .any .. ::k,a,w,h=>by show K P R k .ret a w;exact zsr h
 | .goal _::k,a,w,h=>by show K P R k .ret a w;exact zsr h
theorem gv_ret (h:Run P R n [] .ret σ w):Run P R n k .ret σ w:=fun a hd hs b=>zsr (h a hd hs b)
theorem zv1 {c:Operand} {b:Bool} {x y:Code} (hc:ev σ c=some (.bool b)) (ht:b=true->Run P R n (.code x::k) .normal σ w)
 (hf:b=false->Run P R n (.code y::k) .normal σ w):Run P R n (.code (.cond c x y)::k) .normal σ w:=
 fun a hd hs d=>wpIn_cond_split (zsq d hc) (fun e=>ht e a hd hs d) (fun e=>hf e a hd hs d)
theorem K_cut {J:Act->World->Prop} (hJ:∀ a w,J a w->K P R k .normal a w):∀ (e:Exit) (a:Act) (w:World),K P R (.goal J::k) e a w->K P R k e a w
 | .normal,a,w,h=>hJ a w h
 | .exit _,_,_,h=>h
 | .goto _,_,_,h=>h
 | .ret,_,_,h=>h
 | .panic _,_,_,h=>h
 | .outgrown,_,_,h=>h
theorem Oper.upon_monoQ {o:Oper} {a:Act} {nx nx':Act->World->Prop} {Q Q':Exit->Act->World->Prop} {r:Result Next} (hn:∀ a w,nx a w->nx' a w) (hq:∀ e a w,e≠.normal->Q e a w->Q' e a w)
 (h:o.upon P a nx Q r):o.upon P a nx' Q' r:=by
 cases r with
 | ok v w=>
   cases v<;>first
    | exact hn _ _ h
    | (exact Calls.mono (show Calls _ _ _ _ _ from h) fun e w hh=>by
        cases e with
        | returned v=>exact hn _ _ hh
        | panicked c=>exact hq _ _ _ (by simp) hh
        | outgrown=>exact (show LetsOut Q from hh).elim fun a hh=>hh.elim fun w hh=>⟨a,w,hq _ _ _ (by simp) hh⟩)
    | (exact Rows.mono (show Rows _ _ _ _ _ from h) fun v w hh=>hn _ _ hh)
    | exact h
 | halt x w=>
   cases x<;>first | exact hq _ _ _ (by simp) h | exact h
theorem zz4 {all:Array Oper} {C:World->Prop} {Q Q':Exit->Act->World->Prop} (hq:∀ e a w,Q e a w->Q' e a w):∀ (l:List (Oper × Mk)) (a:Act) (w:World),wpO P all C Q l a w->wpO P all C Q' l a w
 | [],a,w,h=>hq _ _ _ h
 | (o,some true)::rest,a,w,⟨v,h1,h2⟩=>⟨v,h1,zz4 hq rest _ _ h2⟩
 | (o,some false)::rest,a,w,h=>by
   unfold wpO at h ⊢
   split at h
   ·rename_i hw;rw[if_pos hw];exact Oper.upon_monoQ (fun a w hh=>⟨hh.1,zz4 hq rest _ _ hh.2⟩) (fun e a w _=>hq e a w) h
   ·rename_i hw;rw[if_neg hw];exact zz4 hq rest _ _ h
 | (o,none)::rest,a,w,h=>by
   unfold wpO at h ⊢
   split at h
   ·rename_i hw;rw[if_pos hw];exact Oper.upon_monoQ (fun a w hh=>zz4 hq rest _ _ hh) (fun e a w _=>hq e a w) h
   ·rename_i hw;rw[if_neg hw];exact zz4 hq rest _ _ h
theorem gv_cut_code {c:Code} (J:Act->World->Prop) (h1:Run P R n (.code c:: .goal J::k) .normal σ w) (h2:∀ a w,J a w->K P R k .normal a w):
 Run P R n (.code c::k) .normal σ w:=
 fun a hd hs b=>wpIn_mono (h1 a hd hs b) (K_cut h2)
theorem gv_cut_ops {all:Array Oper} {C:World->Prop} {l:List (Oper × Mk)} (J:Act->World->Prop) (h1:Run P R n (.ops all C l:: .goal J::k) .normal σ w)
 (h2:∀ a w,J a w->K P R k .normal a w):Run P R n (.ops all C l::k) .normal σ w:=
 fun a hd hs b=>zz4 (fun e a w h=>by cases e<;>first | exact h2 _ _ h | exact h) l _ _ (h1 a hd hs b)
theorem gv_goal {J:Act->World->Prop} (h:∀ a:Act,a.defers=R.ds->a.tmps.size=n->Ok σ a.tmps->J a w):Run P R n (.goal J::k) .normal σ w:=h
end
theorem zws {P:Program} {c:Code} {Q:Exit->Act->World->Prop} {a:Act} {w:World} {r:Option Nat} (hr:r=none) (h:c.wp P Q a w):c.wpIn (FR r) 0 P Q a w:=by
 subst hr
 exact wpIn_wide.2 h
def mk0:List Oper->List (Oper × Mk)
 | []=>[]
 | o::l=>(o,none)::mk0 l
theorem zyU {P:Program} {all:Array Oper} {C:World->Prop} {Q:Exit->Act->World->Prop}:∀ (l:List Oper) (a:Act) (w:World),wpO P all C Q (mk0 l) a w->wpList P all Q l a w
 | [],_,_,h=>h
 | o::l,a,w,h=>by
   unfold mk0 wpO at h
   unfold wpList
   split at h
   ·rename_i hw;rw[if_pos hw];exact .inl (Oper.upon_monoQ (fun a w hh=>zyU l _ _ hh) (fun _ _ _ _ h=>h) h)
   ·rename_i hw;rw[if_neg hw];exact zyU l _ _ h
theorem gv_region {P:Program} {R:RR} {n:Nat} {k:List It} {σ:List (Nat × Value)} {w:World} {id:Nat} {l:List Oper}
 (h:Run P R n (.ops l.toArray (fun _=>True) (mk0 l)::k) .normal σ w) (hr:R.r=none:=by rfl):Run P R n (.code (.region id l.toArray false)::k) .normal σ w:=
 fun a hd hs b=>zws hr<|wp_region_lit (zyU l a w (zz4 (fun e a w h=>by cases e<;>first | exact h | exact h _ rfl | exact h.elim) _ _ _ (h a hd hs b)))
section
variable {P:Program} {ops:Array Oper} {C:World->Prop} {Q:Exit->Act->World->Prop}
def zyW (ops:Array Oper) (listed:Array Bool):Prop:=
 ∀ j oj,ops[j]? =some oj->listed.getD j false=true->∀ e∈oj.after,Region.binds .any e=true->listed.getD e.on false=true
theorem zyW.set {listed:Array Bool} (hc:zyW ops listed) {i:Nat} (hi:i∈Region.ready .any ops listed):zyW ops (listed.setIfInBounds i true):=by
 obtain ⟨_,oi,c,b⟩:=mem_ready.1 hi
 intro j oj hj hl e he hb
 by_cases a:i=j
 ·subst a
  have:oj=oi:=Option.some.inj (hj.symm.trans c)
  subst this
  exact getD_set_true (b e he hb)
 ·rw[getD_set_ne false a]at hl
  exact getD_set_true (hc j oj hj hl e he hb)
theorem zxT {heads:List Nat} {L:Array Bool->Act->World->Prop} {g:Nat} (hL:∀ listed a w,L listed a w->wpAny P .any ops Q g listed a w):
 ∀ (f:Nat) (listed:Array Bool) (a:Act) (w:World),wpH P ops C Q heads L f listed a w->wpAny P .any ops Q (f+g) listed a w
 | 0,listed,a,w,h=>by rw[Nat.zero_add];exact hL _ _ _ h.2
 | f+1,listed,a,w,h=>by
   rw[show f+1+g=(f+g)+1 by omega]
   exact ⟨fun h0=>absurd h0 h.2.1,fun i hi=>wpOp_mono (fun a' w' h'=>zxT hL f _ a' w' h'.2) (h.2.2 i hi)⟩
theorem zzQ.wpOp {i:Nat} {o:Oper} {v:Value} {a:Act} {w:World} (hi:ops[i]? =some o) (hy:zzQ P ops C o v a) (hC:C w) {K:Act->World->Prop} (h:K (a.put o.dst v) w):
 Go.wpOp P ops Q i K a w:=by
 unfold Go.wpOp
 simp only[hi]
 rcases hy with ⟨hw,hv⟩ | ⟨hw,rfl⟩
 ·simp only[hw,if_true]
  refine .inl ?_
  unfold Oper.wp
  rw[hv w hC]
  exact h
 ·simp only[hw,Bool.false_eq_true,if_false];exact h
theorem zrz {j:Nat} {oi oj:Oper} {v:Value} (hj:ops[j]? =some oj) (hap:oi.apart ops oj=true)
 (hsi:∀ cs b,oi.op≠.select cs b) (hsj:∀ cs b,oj.op≠.select cs b)
 {K:Act->World->Prop} {a:Act} {w:World}
 (hy:zzQ P ops C oi v a) (h:wpOp P ops (nQ Q) j K (a.put oi.dst v) w):
 wpOp P ops (nQ Q) j (fun a' w'=>zzQ P ops C oi v a'∧K (a'.put oi.dst v) w') a w:=by
 obtain ⟨h1,h2,h3⟩:=Oper.apart_spec hap
 have keep:∀ (a:Act),zzQ P ops C oi v a->∀ u,zzQ P ops C oi v (a.put oj.dst u):=fun a hy u=>
  hy.of_same (execOp_put oi hsi a oj.dst u h3) (wanted_put oi a oj.dst u h3)
 have g:∀ d,zzQ P ops C oi v { a with defers:=d::a.defers}:=fun d=>hy.of_same rfl rfl
 unfold wpOp at*
 simp only[hj]at*
 rw[wanted_put oj a oi.dst v h1]at h
 split
 ·rename_i hw
  simp only[hw,if_true]at h
  rcases h with h | ⟨q,i⟩
  case inr=>obtain ⟨_,_,hf⟩:=i;exact hf.elim
  refine .inl ?_
  unfold Oper.wp at*
  rw[execOp_put oj hsj a oi.dst v h1]at h
  generalize (execOp a.eval oj).run P w=r at*
  cases r with
  | ok n w'=>
    cases n<;>simp only[Oper.upon]at h ⊢
    case value u=>exact ⟨keep a hy u,by rw[<- Act.put_comm a v u h2];exact h⟩
    case skip=>exact ⟨keep a hy _,by rw[<- Act.put_comm a v undef h2];exact h⟩
    case defer d=>
     refine ⟨keep _ (g d) _,?_⟩
     rw[<- Act.put_comm _ v undef h2,<- Act.put_defers]
     exact h
    case enter f args=>
     refine Calls.mono h fun e p he=>?_
     cases e with
     | returned u=>exact ⟨keep a hy u,by rw[<- Act.put_comm a v u h2];exact he⟩
     | panicked c=>exact fun a' ha=>he a' (by rw[ha];cases oi.dst<;>rfl)
     | outgrown=>exact he
    case row row args=>exact Rows.mono h fun u p he=>⟨keep a hy u,by rw[<- Act.put_comm a v u h2];exact he⟩
  | halt x w'=>
    cases x<;>simp only[Oper.upon]at h ⊢
    case panic u=>exact fun a' ha=>h a' (by rw[ha];cases oi.dst<;>rfl)
 ·rename_i hw
  simp only[hw]at h
  exact ⟨keep a hy _,by rw[<- Act.put_comm a v undef h2];exact h⟩
theorem zwM {Cl:Array Bool->Prop} (hset:∀ (listed:Array Bool) (j:Nat),Cl listed->j∈Region.ready .any ops listed->Cl (listed.setIfInBounds j true)) {heads:List Nat} {L:Array Bool->Act->World->Prop} {i:Nat} {oi:Oper} {v:Value} (hi:ops[i]? =some oi) (hin:i∈heads)
 (hsel:∀ (j:Nat) (o:Oper) cs b,ops[j]? =some o->o.op≠.select cs b)
 (htail:∀ listed,Cl listed->∀ j∈Region.ready .any ops listed,j∉heads->heads.all (listed.getD · false)=true):
 ∀ (f:Nat) (listed:Array Bool) (a:Act) (w:World),Cl listed->C w->
   (∀ j oj,ops[j]? =some oj->j≠i->listed.getD j true=false->(∀ e∈oj.after,Region.binds .any e=true->e.on≠i)->oi.apart ops oj=true)->
   i∈Region.ready .any ops listed->zzQ P ops C oi v a->
   wpH P ops C (nQ Q) heads L f (listed.setIfInBounds i true) (a.put oi.dst v) w->wpH P ops C (nQ Q) heads L (f+1) listed a w:=by
 have d:∀ {listed:Array Bool},i∈Region.ready .any ops listed->heads.all (listed.getD · false)=false:=fun {listed} hr=>by
  rw[List.all_eq_false]
  exact ⟨i,hin,by rw[zxW (mem_ready.1 hr).1];decide⟩
 intro f
 induction f with
 | zero=>
   intro listed a w hc hC _ hr hy H
   refine ⟨d hr,fun h=>(by rw[h]at hr;cases hr),fun j hj=>?_⟩
   by_cases c:j=i
   ·subst c;exact zzQ.wpOp hi hy hC ⟨hC,H⟩
   ·exfalso
    have hH:=H.1
    by_cases u:j∈heads
    ·have h1:=List.all_eq_true.1 hH j u
     rw[getD_set_ne false (Ne.symm c),zxW (mem_ready.1 hj).1]at h1
     cases h1
    ·have:=htail listed hc j hj u
     rw[d hr]at this
     cases this
 | succ f ih=>
   intro listed a w hc hC g hr hy H
   refine ⟨d hr,fun h=>(by rw[h]at hr;cases hr),fun j hj=>?_⟩
   by_cases c:j=i
   ·subst c;exact zzQ.wpOp hi hy hC ⟨hC,H⟩
   ·have h1:=H.2.2 j (ready_mono hj c)
    obtain ⟨q,oj,p,x⟩:=mem_ready.1 hj
    have y:∀ e∈oj.after,Region.binds .any e=true->e.on≠i:=fun e he hb aa=>by
     have h1:=x e he hb
     have h0:=(mem_ready.1 hr).1
     rw[aa]at h1
     rw[zxW h0]at h1
     cases h1
    have h2:=zrz p (g j oj p c q y) (fun cs b=>hsel i oi cs b hi) (fun cs b=>hsel j oj cs b p) hy h1
    have r:∀ k ok,ops[k]? =some ok->k≠i->(listed.setIfInBounds j true).getD k true=false->
     (∀ e∈ok.after,Region.binds .any e=true->e.on≠i)->oi.apart ops ok=true:=fun k ok hk z s d=>by
     refine g k ok hk z ?_ d
     by_cases t:j=k
     ·subst t;exact q
     ·rw[getD_set_ne true t]at s;exact s
    refine wpOp_mono (fun a' w' h3=>⟨h3.2.1,ih (listed.setIfInBounds j true) a' w' (hset _ _ hc hj) h3.2.1 r (ready_mono hr (Ne.symm c)) h3.1 ?_⟩) h2
    rw[Array.setIfInBounds_comm _ _ c]
    exact h3.2.2
theorem zsb {heads:List Nat} {L:Array Bool->Act->World->Prop} {i:Nat} {oi:Oper} {v:Value} (hi:ops[i]? =some oi) (hin:i∈heads)
 (hsel:∀ (j:Nat) (o:Oper) cs b,ops[j]? =some o->o.op≠.select cs b)
 (htail:∀ listed,zyW ops listed->∀ j∈Region.ready .any ops listed,j∉heads->heads.all (listed.getD · false)=true):
 ∀ (f:Nat) (listed:Array Bool) (a:Act) (w:World),zyW ops listed->C w->
   (∀ j oj,ops[j]? =some oj->j≠i->listed.getD j true=false->(∀ e∈oj.after,Region.binds .any e=true->e.on≠i)->oi.apart ops oj=true)->
   i∈Region.ready .any ops listed->zzQ P ops C oi v a->
   wpH P ops C (nQ Q) heads L f (listed.setIfInBounds i true) (a.put oi.dst v) w->wpH P ops C (nQ Q) heads L (f+1) listed a w:=zwM (fun _ _ hc hj=>hc.set hj) hi hin hsel htail
theorem zyf:∀ (l:List Oper) (i:Nat),i<l.length->l[i]? =some (nth l i)
 | [],i,h=>absurd h (Nat.not_lt_zero _)
 | o::l,0,_=>rfl
 | o::l,i+1,h=>by
   rw[List.getElem?_cons_succ]
   exact zyf l i (Nat.lt_of_succ_lt_succ h)
theorem zxg {l:List Oper} (hops:ops=l.toArray):∀ (ts:List (Nat × Mk)) (listed:Array Bool) (a:Act) (w:World),okT ops ts listed=true->
 wpO P ops C (nQ Q) (zvP l ts) a w->wpAny P .any ops (nQ Q) ts.length listed a w
 | [],listed,a,w,hk,h=>⟨by simpa [okT] using hk,h⟩
 | (i,m)::r,listed,a,w,hk,h=>by
   simp only[okT,Bool.and_eq_true,decide_eq_true_eq,Option.isNone_iff_eq_none]at hk
   obtain ⟨rfl,hr,hk⟩:=hk
   refine ⟨fun h0=>(by rw[hr]at h0;cases h0),fun j hj=>?_⟩
   rw[hr]at hj
   obtain rfl:j=i:=by simpa using hj
   have b:j∈Region.ready .any ops listed:=by rw[hr];exact hj
   obtain ⟨_,o,ho,_⟩:=mem_ready.1 b
   have c:j<l.length:=by have:=(Array.getElem?_eq_some_iff.1 ho).1;rw[hops]at this;simpa using this
   have hn:ops[j]? =some (nth l j):=by rw[hops];simpa using zyf l j c
   unfold wpOp
   simp only[hn]
   unfold zvP wpO at h
   split at h
   ·rename_i hw;rw[if_pos hw];exact .inl (Oper.upon_monoQ (fun a w hh=>zxg hops r _ a w hk hh) (fun _ _ _ _ h=>h) h)
   ·rename_i hw;rw[if_neg hw];exact zxg hops r _ _ w hk h
end
def zu6 (l:List Oper) (listed:Array Bool):Bool:=
 (List.range l.length).all fun j=> !(listed.getD j false)||(nth l j).after.all fun e=> !(Region.binds .any e)||listed.getD e.on false
theorem zug {l:List Oper} {listed:Array Bool} (h:zu6 l listed=true):zyW l.toArray listed:=by
 intro j oj hj hl e he hb
 have a:j<l.length:=by have:=(Array.getElem?_eq_some_iff.1 hj).1;simpa using this
 have h1:=List.all_eq_true.1 h j (List.mem_range.2 a)
 have hn:nth l j=oj:=by
  have h2:=zyf l j a
  have h3:l[j]? =some oj:=by simpa using hj
  rw[h3]at h2
  exact (Option.some.inj h2).symm
 rw[hl,hn]at h1
 simp only[Bool.not_true,Bool.false_or]at h1
 have h4:=Array.all_eq_true_iff_forall_mem.1 h1 e he
 rw[hb]at h4
 simpa using h4
def zue (l:List Oper) (x:Nat):List Nat:=
 match l[x]? with
 | some o=>(o.after.toList.filter fun e=>Region.binds .any e).map (·.on)
 | none=>[]
def zoj (l:List Oper):Nat->List Nat->List Nat->List Nat
 | 0,_,seen=>seen
 | _+1,[],seen=>seen
 | f+1,x::todo,seen=>match seen.contains x with
   | true=>zoj l f todo seen
   | false=>zoj l f (zue l x++todo) (x::seen)
theorem zxs {l:List Oper} {listed:Array Bool} (hc:zyW l.toArray listed):∀ (f:Nat) (todo seen:List Nat),(∀ x∈todo,listed.getD x false=true)->(∀ x∈seen,listed.getD x false=true)->
 ∀ x∈zoj l f todo seen,listed.getD x false=true
 | 0,_,_,_,h2,x,hx=>h2 x hx
 | _+1,[],_,_,h2,x,hx=>h2 x hx
 | f+1,y::todo,seen,h1,h2,x,hx=>by
   unfold zoj at hx
   split at hx
   ·exact zxs hc f todo seen (fun z hz=>h1 z (List.mem_cons_of_mem _ hz)) h2 x hx
   ·have hy:=h1 y (List.mem_cons_self ..)
    refine zxs hc f _ _ (fun z hz=>?_) (fun z hz=>(List.mem_cons.1 hz).elim (fun e=>by rw[e];exact hy) (h2 z)) x hx
    rcases List.mem_append.1 hz with h | h
    ·unfold zue at h
     cases ho:l[y]? with
     | none=>rw[ho]at h;cases h
     | some o=>
       rw[ho]at h
       obtain ⟨e,he,rfl⟩:=List.mem_map.1 h
       obtain ⟨h3,h4⟩:=List.mem_filter.1 he
       exact hc y o (by simpa using ho) hy e (Array.mem_toList_iff.1 h3) h4
    ·exact h1 z (List.mem_cons_of_mem _ h)
theorem zxX {l:List Oper} {listed:Array Bool} {j:Nat} {o:Oper} (ho:l.toArray[j]? =some o) (hall:∀ e∈o.after,Region.binds .any e=true->listed.getD e.on false=true):∀ x∈zue l j,listed.getD x false=true:=fun x hx=>by
 unfold zue at hx
 rw[show l[j]? =some o by simpa using ho]at hx
 obtain ⟨e,he,rfl⟩:=List.mem_map.1 hx
 obtain ⟨h3,h4⟩:=List.mem_filter.1 he
 exact hall e (Array.mem_toList_iff.1 h3) h4
def zoE (S:List Nat) (listed0:Array Bool):List Nat->Bool
 | []=>true
 | i::is=>(listed0.getD i false||S.contains i)&&zoE S listed0 is
theorem zu2 {S:List Nat} {listed0:Array Bool}:∀ {hs:List Nat},zoE S listed0 hs=true->∀ i∈hs,listed0.getD i false=true∨i∈S
 | _::_,h,i,hi=>by
   simp only[zoE,Bool.and_eq_true,Bool.or_eq_true,List.contains_iff_mem]at h
   rcases List.mem_cons.1 hi with e | e
   ·rw[e];exact h.1
   ·exact zu2 h.2 i e
def zqd (l:List Oper) (heads:List Nat):Bool:=
 Region.noSelect l.toArray&&((List.range l.length).all fun j=>heads.contains j||zoE (zoj l (20*l.length) (zue l j) []) #[] heads)
theorem zow {l:List Oper} {heads:List Nat} (h:zqd l heads=true):
 Region.noSelect l.toArray=true∧∀ listed,zyW l.toArray listed->∀ j∈Region.ready .any l.toArray listed,j∉heads->heads.all (listed.getD · false)=true:=by
 simp only[zqd,Bool.and_eq_true]at h
 refine ⟨h.1,fun listed hc j hj c=>?_⟩
 obtain ⟨_,o,ho,a⟩:=mem_ready.1 hj
 have b:j<l.length:=by have:=(Array.getElem?_eq_some_iff.1 ho).1;simpa using this
 have h1:=List.all_eq_true.1 h.2 j (List.mem_range.2 b)
 rw[Bool.or_eq_true]at h1
 rcases h1 with h1 | h1
 ·exact absurd (List.contains_iff_mem.1 h1) c
 ·rw[List.all_eq_true]
  intro i hi
  rcases zu2 h1 i hi with h2 | h2
  ·simp at h2
  ·exact zxs hc _ _ _ (zxX ho a) (fun x hx=>by cases hx) i h2
def ztb:List Nat->Array Bool->Array Bool
 | [],listed=>listed
 | i::is,listed=>ztb is (listed.setIfInBounds i true)
def okQ (l:List Oper) (heads:List Nat):List Nat->Array Bool->Bool
 | [],_=>true
 | i::is,listed=>heads.contains i&&((Region.ready .any l.toArray listed).contains i&&(Region.free .any l.toArray listed i&&okQ l heads is (listed.setIfInBounds i true)))
def qs:List Nat->List (Nat × Mk)
 | []=>[]
 | i::is=>(i,some true)::qs is
theorem zwn {P:Program} {l:List Oper} {C:World->Prop} {Q:Exit->Act->World->Prop} {heads:List Nat} {ts:List (Nat × Mk)} {f:Nat} (hs:zqd l heads=true):∀ (is:List Nat) (listed:Array Bool) (a:Act) (w:World),
 okQ l heads is listed=true->zyW l.toArray listed->C w->wpO P l.toArray C (fun e a w=>e= .normal->wpI P l C Q heads ts f (ztb is listed) a w) (zvP l (qs is)) a w->wpI P l C Q heads ts (f+is.length) listed a w
 | [],listed,a,w,_,_,_,h=>h rfl
 | i::is,listed,a,w,hk,hc,hC,h=>by
   simp only[okQ,Bool.and_eq_true,List.contains_iff_mem]at hk
   obtain ⟨d,hr,hf,hk⟩:=hk
   obtain ⟨_,o,ho,_⟩:=mem_ready.1 hr
   have c:i<l.length:=by have:=(Array.getElem?_eq_some_iff.1 ho).1;simpa using this
   have hn:l.toArray[i]? =some (nth l i):=by simpa using zyf l i c
   obtain ⟨v,hy,h⟩:=h
   have b:=zow hs
   have ih:=zwn hs is (listed.setIfInBounds i true) _ w hk (hc.set hr) hC h
   exact zsb hn d (Region.noSelect_spec b.1) b.2 _ _ _ _ hc hC (Region.free_spec hn hf) hr hy ih
section
variable {P:Program} {R:RR} {n:Nat} {k:List It} {σ:List (Nat × Value)} {w:World} {l:List Oper} {C:World->Prop} {heads:List Nat} {ts:List (Nat × Mk)} {f:Nat} {listed:Array Bool}
theorem zoD {id:Nat} (hm:P.follows .mixedOrders=true) (heads:List Nat) (ts:List (Nat × Mk)) (C:World->Prop) (hlen:heads.length+ts.length=l.length)
 (h:Run P R n (.any l C heads ts heads.length (Array.replicate l.length false)::k) .normal σ w.drew) (hr:R.r=none:=by rfl):Run P R n (.code (.region id l.toArray true)::k) .normal σ w:=fun a hd b c=>by
 refine zws hr ?_
 refine wp_mono (wp_region_any (Q:=nQ (K P R k)) hm ?_) (fun e a w h=>by cases e<;>first | exact h | exact h _ rfl | exact h.elim)
 rw[List.size_toArray,<- hlen]
 have h1:wpI P l C (K P R k) heads ts heads.length (Array.replicate l.length false) a w.drew:=h a hd b c
 rw[<- hlen]at h1
 exact zxT (C:=C) (fun listed a w hh=>zxg rfl ts listed a w hh.1 hh.2) _ _ _ _ h1
end
def still? {α:Type} (P:Program):Sem α->Option α
 | .pure a=>some a
 | .program k=>still? P (k P)
 | _=>none
theorem zuZ {α:Type} {P:Program}:∀ {s:Sem α} {v:α},still? P s=some v->∀ w,s.run P w= .ok v w
 | .pure a,v,h,w=>by cases h;rfl
 | .program k,v,h,w=>by
   show (k P).run P w=_
   exact zuZ (s:=k P) h w
 | .load ..,_,h,_ | .store ..,_,h,_ | .new ..,_,h,_ | .shape ..,_,h,_ | .freeze ..,_,h,_ | .frozen ..,_,h,_ | .getObj ..,_,h,_
 | .setObj ..,_,h,_ | .choose ..,_,h,_ | .sys ..,_,h,_ | .mark ..,_,h,_ | .halt ..,_,h,_=>by cases h
def evr (σ:List (Nat × Value)) (x:Operand):Value:=
 match ev σ x with
 | some v=>v
 | none=>.nilFunc
def zzO (σ:List (Nat × Value)):List Operand->Bool
 | []=>true
 | x::xs=>match ev σ x with
   | some _=>zzO σ xs
   | none=>false
theorem ztf {σ:List (Nat × Value)} {a:Act} (h:Ok σ a.tmps):∀ {xs:List Operand},zzO σ xs=true->∀ x∈xs,a.eval x=evr σ x
 | [],_,x,hx=>by cases hx
 | y::ys,hk,x,hx=>by
   unfold zzO at hk
   split at hk
   ·rename_i v hv
    cases hx with
    | head=>rw[zsq h hv];unfold evr;rw[hv]
    | tail _ hx=>exact ztf h hk x hx
   ·cases hk
def zzB:Op->Bool
 | .select .. =>false
 | _=>true
theorem zxR {σ:List (Nat × Value)} {a:Act} (h:Ok σ a.tmps) {o:Oper} (hs:zzB o.op=true) (hk:zzO σ o.op.operands.toList=true):execOp a.eval o=execOp (evr σ) o:=
 execOp_congr o (fun cs b e=>by rw[e]at hs;cases hs) (fun x hx=>ztf h hk x (by simpa using hx))
def valP (P:Program) (σ:List (Nat × Value)) (o:Oper):Option Value:=
 match zzB o.op&&zzO σ o.op.operands.toList with
 | true=>match still? P (execOp (evr σ) o) with
   | some (.value v)=>some v
   | _=>none
 | false=>none
theorem zpY {P:Program} {σ:List (Nat × Value)} {a:Act} (h:Ok σ a.tmps) {o:Oper} {v:Value} (hv:valP P σ o=some v) (w:World):(execOp a.eval o).run P w= .ok (.value v) w:=by
 unfold valP at hv
 split at hv
 ·rename_i hk
  simp only[Bool.and_eq_true]at hk
  split at hv
  ·rename_i u hu
   cases hv
   rw[zxR h hk.1 hk.2]
   exact zuZ hu w
  ·cases hv
 ·cases hv
def zzl (all:Array Oper) (σ:List (Nat × Value)) (o:Oper):Option Bool:=
 match o.guard with
 | none=>some true
 | some (j,want)=>match all[j]? with
   | none=>none
   | some oj=>match oj.dst with
     | none=>none
     | some d=>match look σ d with
       | some (.bool b)=>some (b==want)
       | some (.tuple _)=>some false
       | _=>none
theorem zyE {all:Array Oper} {σ:List (Nat × Value)} {a:Act} (h:Ok σ a.tmps) {o:Oper} {b:Bool} (hg:zzl all σ o=some b):Region.wanted o (yielded all a.tmps)=b:=by
 unfold zzl at hg
 unfold Region.wanted
 cases g:o.guard with
 | none=>rw[g]at hg;cases hg;rfl
 | some p=>
   obtain ⟨j,e⟩:=p
   rw[g]at hg
   simp only at hg ⊢
   unfold yielded
   cases hj:all[j]? with
   | none=>rw[hj]at hg;cases hg
   | some oj=>
     rw[hj]at hg
     simp only at hg
     cases hd:oj.dst with
     | none=>rw[hd]at hg;cases hg
     | some d=>
       rw[hd]at hg
       simp only at hg
       cases hl:look σ d with
       | none=>rw[hl]at hg;cases hg
       | some v=>
         rw[hl]at hg
         have:=h.look hl
         cases v with
         | bool c=>
           cases hg
           simp only[Option.bind_some,hd,this]
           cases c<;>cases e<;>rfl
         | tuple vs=>
           cases hg
           simp only[Option.bind_some,hd,this]
           cases e<;>rfl
         | _=>cases hg
def zpR (P:Program) (n:Nat) (all:Array Oper) (σ:List (Nat × Value)) (o:Oper):Option (List (Nat × Value)):=
 match o.dst with
 | none=>none
 | some d=>match Nat.blt d n with
   | false=>none
   | true=>match zzl all σ o with
     | some true=>match valP P σ o with
       | some v=>some (put σ d v)
       | none=>none
     | some false=>some (put σ d undef)
     | none=>none
def zx0 (q:Bool) (P:Program) (n:Nat) (all:Array Oper):Nat->List (Oper × Mk)->List (Nat × Value)->Option (List (Nat × Value))
 | 0,_,σ=>some σ
 | _+1,[],_=>none
 | c+1,(o,m)::l,σ=>match m,q with
   | some false,false=>none
   | _,_=>match zpR P n all σ o with
     | some σ'=>zx0 q P n all c l σ'
     | none=>none
def zuu:Nat->List (Oper × Mk)->List (Oper × Mk)
 | 0,l=>l
 | _+1,[]=>[]
 | c+1,_::l=>zuu c l
section
variable {P:Program} {R:RR} {n:Nat} {k:List It} {σ σ':List (Nat × Value)} {w:World} {all:Array Oper} {C:World->Prop} {o:Oper} {m:Mk} {rest:List (Oper × Mk)}
theorem gv_nil (h:Run P R n k .normal σ w):Run P R n (.ops all C []::k) .normal σ w:=fun a hd hs b=>by
 show nQ (K P R k) .normal a w
 exact h a hd hs b
theorem zve {a:Act} {d:Nat} {v:Value} {ds:List Deferred} (hd:a.defers=ds) (hs:a.tmps.size=n) (hok:Ok σ a.tmps) (hdn:d<n):
 (a.put (some d) v).defers=ds∧(a.put (some d) v).tmps.size=n∧Ok (put σ d v) (a.put (some d) v).tmps:=
 ⟨hd,by simpa [Act.put] using hs,hok.put (by omega) v⟩
theorem ztk {d:Nat} {v:Value} (hm:m=some false->C w) (hd':o.dst=some d) (hdn:Nat.blt d n=true) (hg:zzl all σ o=some true)
 (hx:∀ w',(match m with | some true=>C w' | _=>w'=w)->∀ a:Act,Ok σ a.tmps->(execOp a.eval o).run P w'= .ok (.value v) w')
 (h:Run P R n (.ops all C rest::k) .normal (put σ d v) w):Run P R n (.ops all C ((o,m)::rest)::k) .normal σ w:=fun a hd hs b=>by
 have g:d<n:=Nat.lt_of_succ_le (by simpa [Nat.blt] using hdn)
 obtain ⟨h1,h2,h3⟩:=zve (v:=v) hd hs b g
 have c:=zyE b hg
 have h4:=h _ h1 h2 h3
 rw[<- hd']at h4
 cases m with
 | none=>
   show (if Region.wanted o (yielded all a.tmps) then _ else _)
   rw[if_pos c]
   unfold Oper.wp
   rw[hx w rfl a b]
   exact h4
 | some q=>
   cases q with
   | true=>exact ⟨v,.inl ⟨c,fun w' e=>hx w' e a b⟩,h4⟩
   | false=>
     show (if Region.wanted o (yielded all a.tmps) then _ else _)
     rw[if_pos c]
     unfold Oper.wp
     rw[hx w rfl a b]
     exact ⟨hm rfl,h4⟩
theorem zpT {d:Nat} (hd':o.dst=some d) (hdn:Nat.blt d n=true) (hg:zzl all σ o=some false)
 (h:Run P R n (.ops all C rest::k) .normal (put σ d undef) w):Run P R n (.ops all C ((o,m)::rest)::k) .normal σ w:=fun a hd hs c=>by
 have e:d<n:=Nat.lt_of_succ_le (by simpa [Nat.blt] using hdn)
 obtain ⟨h1,h2,h3⟩:=zve (v:=undef) hd hs c e
 have b:=zyE c hg
 have h4:=h _ h1 h2 h3
 rw[<- hd']at h4
 cases m with
 | none=>
   show (if Region.wanted o (yielded all a.tmps) then _ else _)
   rw[if_neg (by rw[b];decide)]
   exact h4
 | some q=>
   cases q with
   | true=>exact ⟨undef,.inr ⟨b,rfl⟩,h4⟩
   | false=>
     show (if Region.wanted o (yielded all a.tmps) then _ else _)
     rw[if_neg (by rw[b];decide)]
     exact h4
theorem zv7 (q:Bool) (hq:q=true->C w):∀ (c:Nat) {l:List (Oper × Mk)} {σ σ':List (Nat × Value)},zx0 q P n all c l σ=some σ'->Run P R n (.ops all C (zuu c l)::k) .normal σ' w->Run P R n (.ops all C l::k) .normal σ w
 | 0,l,σ,σ',hp,h=>by cases hp;exact h
 | c+1,[],σ,σ',hp,h=>by cases hp
 | c+1,(o,m)::l,σ,σ',hp,h=>by
   have hm:m=some false->q=true:=fun e=>by
    subst e
    cases q with
    | true=>rfl
    | false=>cases hp
   have b:(match zpR P n all σ o with | some σ'=>zx0 q P n all c l σ' | none=>none)=some σ':=by
    cases m with
    | none=>cases q<;>exact hp
    | some r=>cases r with
      | true=>cases q<;>exact hp
      | false=>
        have:=hm rfl
        subst this
        exact hp
   split at b
   ·rename_i σ1 h1
    have h2:=zv7 q hq c b h
    unfold zpR at h1
    split at h1
    ·cases h1
    ·rename_i d hd
     split at h1
     ·cases h1
     ·rename_i g
      split at h1
      ·rename_i hg
       split at h1
       ·rename_i v hv
        cases h1
        exact ztk (fun e=>hq (hm e)) hd g hg (fun w' _ a i=>zpY i hv w') h2
       ·cases h1
      ·rename_i hg
       cases h1
       exact zpT hd g hg h2
      ·cases h1
   ·cases b
theorem zpC (c:Nat) (ss:List Nat) {l:List (Oper × Mk)} {σ':List (Nat × Value)} (hp:(match zx0 false P n all c l σ with | some σ1=>picks ss σ1 | none=>none)=some σ')
 (h:Run P R n (.ops all C (zuu c l)::k) .normal σ' w):Run P R n (.ops all C l::k) .normal σ w:=by
 split at hp
 ·rename_i σ1 h1
  exact zv7 false (fun e=>by cases e) c h1 (gv_sub ss hp h)
 ·cases hp
theorem zrK (hC:C w) (c:Nat) (ss:List Nat) {l:List (Oper × Mk)} {σ':List (Nat × Value)} (hp:(match zx0 true P n all c l σ with | some σ1=>picks ss σ1 | none=>none)=some σ')
 (h:Run P R n (.ops all C (zuu c l)::k) .normal σ' w):Run P R n (.ops all C l::k) .normal σ w:=by
 split at hp
 ·rename_i σ1 h1
  exact zv7 true (fun _=>hC) c h1 (gv_sub ss hp h)
 ·cases hp
def hasN:List Nat->Nat->Bool
 | [],_=>false
 | x::xs,s=>Nat.beq x s||hasN xs s
def nw (news:List (Nat × Value)) (ds:List Nat) (σ:List (Nat × Value)):List (Nat × Value):=news++σ.filter fun p=> !(hasN ds p.1)
theorem zz6 (c:Nat) (ds:List Nat) (news:List (Nat × Value)) {l:List (Oper × Mk)} (hp:(match zx0 false P n all c l σ with | some σ1=>picks ((nw news ds σ).map (·.1)) σ1 | none=>none)=some (nw news ds σ))
 (h:Run P R n (.ops all C (zuu c l)::k) .normal (nw news ds σ) w):Run P R n (.ops all C l::k) .normal σ w:=zpC c _ hp h
theorem zud (hC:C w) (c:Nat) (ds:List Nat) (news:List (Nat × Value)) {l:List (Oper × Mk)} (hp:(match zx0 true P n all c l σ with | some σ1=>picks ((nw news ds σ).map (·.1)) σ1 | none=>none)=some (nw news ds σ))
 (h:Run P R n (.ops all C (zuu c l)::k) .normal (nw news ds σ) w):Run P R n (.ops all C l::k) .normal σ w:=zrK hC c _ hp h
end
