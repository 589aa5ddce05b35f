import Derived.Test.YtmpmeiihjnnomaaGreatDoorYE
import Derived.Test.YtmpmeiihjnnomaaGreatDoorGpo
/-! Own work: arguments that were read; the law of finding, as it is said. -/
set_option linter.all false
open Go.Gv.Tot renaming bindq→aa,if_→ab,ret→ac,it→af
open Nat renaming le_refl→ad,zero_le→ag,le_succ→ai
open Bool renaming false_eq_true→ae
namespace Go.Gv.M
open Go Go.Gv Go.Gv.D Go.Gv.X Go.Gv.R Go.Gv.P Go.Lib
set_option maxRecDepth 100000
theorem mPc_pos (p:Pc):0<mPc p:=by cases p;rw[mPc];omega
theorem mPcL_len:∀ l:List Pc,l.length≤mPcL l
 | []=>ag _
 | p::l=>by have:=mPcL_len l;have:=mPc_pos p;rw[mPcL,List.length_cons];omega
mutual
theorem bd_m:∀ (p:Pc),mPc p≤2000000→BdL (preP p)
 | .mk k lo hi no lz rs subs,h=>by
   rw[mPc]at h
   rw[pre_eq]
   intro q hq
   rcases List.mem_cons.1 hq with rfl | hq
   ·have:=mPcL_len subs
    exact ⟨show rs.length≤BigL by unfold BigL;omega,show subs.length≤BigL by unfold BigL;omega⟩
   ·exact bd_mL subs om q hq
theorem bd_mL:∀ (l:List Pc),mPcL l≤2000000→BdL (preL l)
 | [],_=>fun q hq=>by rw[preL]at hq;cases hq
 | p::l,h=>fun q hq=>by
   rw[mPcL]at h
   rw[preL]at hq
   rcases List.mem_append.1 hq with h1 | h1
   ·exact bd_m p om q h1
   ·exact bd_mL l om q h1
end
theorem bd_said {p:PcT} (hb:sumL (fun x:Int × Int=>1+1+1) p.2.2.2.2.2.1+sumL mPc p.2.2.2.2.2.2≤1048576):BdL (preP (Pc.of p)):=by
 have h1:=sum_ones p.2.2.2.2.2.1
 have h2:=mPcL_sum p.2.2.2.2.2.2
 have h3:sumL (fun x:Int × Int=>1+1+1) p.2.2.2.2.2.1=(p.2.2.2.2.2.1.map fun _=>3).sum+1:=rfl
 have h5:sumL mPc p.2.2.2.2.2.2=(p.2.2.2.2.2.2.map mPc).sum+1:=rfl
 have h4:mPc (Pc.of p)=1+p.2.2.2.2.2.1.length+mPcL p.2.2.2.2.2.2:=by
  show mPc (.mk _ _ _ _ _ _ _)=_
  rw[mPc]
 exact bd_m _ om
end Go.Gv.M
/-! Own work: the reference's matcher, begun one step later. -/
namespace Go.Gv.M
open Go Go.Gv Go.Gv.D Go.Gv.X Go.Gv.R Go.Gv.P
set_option maxHeartbeats 4000000
def shB (tx:List Int) (wh:Bool) (a b:RB):Prop:=b.2.2.2.2.2=true∨∃ (g:Sp) (f:Bool) (n:Nat),n+1≤20000∧a=(g,f,(tx,(n:Int),wh,false))∧b=(g,f,(tx,((n+1:Nat):Int),wh,false))
def Sim (tx:List Int) (wh:Bool) (o o':Option RB):Prop:=∀ a b,o=some a→o'=some b→shB tx wh a b
section
variable {tx:List Int} {wh:Bool}
theorem Sim.none (o':Option RB):Sim tx wh none o':=fun _ _ h=>by cases h
theorem Sim.over (o:Option RB) {b:RB} (h:b.2.2.2.2.2=true):Sim tx wh o (some b):=fun _ _ _ e=>by cases e;exact .inl h
theorem Sim.fail {n:Nat} (h:n+1≤20000):Sim tx wh (some (([]:Sp),false,(tx,(n:Int),wh,false))) (some (([]:Sp),false,(tx,((n+1:Nat):Int),wh,false))):=fun _ _ e e'=>by cases e;cases e';exact .inr ⟨[],false,n,h,rfl,rfl⟩
theorem Sim.thenB {o o':Option RB} (h:Sim tx wh o o'):Sim tx wh (thenB tx o) (thenB tx o'):=fun a b e e'=>by
 cases o with
 | none=>cases e
 | some x=>
   cases o' with
   | none=>cases e'
   | some y=>
     cases e;cases e'
     rcases h x y rfl rfl with h | ⟨g,f,n,hn,rfl,rfl⟩
     ·exact .inl h
     ·exact .inr ⟨g,f,n,hn,rfl,rfl⟩
theorem Sim.bindc {α:Type} {x:Option α} {f f':α→Option RB} (h:∀ v,Sim tx wh (f v) (f' v)):Sim tx wh (x.bind f) (x.bind f'):=by
 cases x with
 | none=>exact Sim.none _
 | some v=>exact h v
theorem Sim.ite {c:Bool} {a a' b b':Option RB} (h:Sim tx wh a a') (h':Sim tx wh b b'):Sim tx wh (if c=true then a else b) (if c=true then a' else b'):=by
 cases c with
 | true=>exact h
 | false=>exact h'
/-- then what comes, if it was not over -/
theorem Sim.bnd {o o':Option RB} {f f':RB→Option RB} (h:Sim tx wh o o') (hf:∀ (g:Sp) (s:Bool) (n:Nat),n+1≤20000→Sim tx wh (f (g,s,(tx,(n:Int),wh,false))) (f' (g,s,(tx,((n+1:Nat):Int),wh,false))))
 (ho:∀ b:RB,b.2.2.2.2.2=true→∃ c,f' b=some c∧c.2.2.2.2.2=true):Sim tx wh (o.bind f) (o'.bind f'):=fun a b e e'=>by
 obtain ⟨x,h1,h2⟩:=Option.bind_eq_some_iff.1 e
 obtain ⟨y,h3,h4⟩:=Option.bind_eq_some_iff.1 e'
 rcases h x y h1 h3 with h5 | ⟨g,s,n,hn,rfl,rfl⟩
 ·obtain ⟨c,h6,h7⟩:=ho y h5
  rw[h6]at h4;cases h4
  exact .inl h7
 ·exact hf g s n hn a b h2 h4
theorem Sim.or {o o':Option RB} {f f':Eng→Option RB} (h:Sim tx wh o o') (hf:∀ n:Nat,n+1≤20000→Sim tx wh (f (tx,(n:Int),wh,false)) (f' (tx,((n+1:Nat):Int),wh,false))):Sim tx wh (orB tx o f) (orB tx o' f'):=by
 refine Sim.bnd h (fun g s n hn=>?_) fun b hb=>?_
 ·cases s with
  | true=>exact fun a b e e'=>by cases e;cases e';exact .inr ⟨g,true,n,hn,rfl,rfl⟩
  | false=>exact (hf n hn).thenB
 ·obtain ⟨b1,b2,b3,b4,b5,b6⟩:=b
  simp only at hb
  subst hb
  cases b2<;>exact ⟨_,rfl,rfl⟩
/-- rests that do so -/
def RS (tx:List Int) (wh:Bool) (M:Nat) (r r':List Rs):Prop:=∀ m,m≤M→∀ (n:Nat) (i:Int) (g:Sp),n+1≤20000→Sim tx wh (ref4_engine_goOn m (tx,(n:Int),wh,false) r i g) (ref4_engine_goOn m (tx,((n+1:Nat):Int),wh,false) r' i g)
theorem RS.le {M M':Nat} {r r':List Rs} (h:RS tx wh M r r') (hm:M'≤M):RS tx wh M' r r':=fun m h1=>h m (Nat.le_trans h1 hm)
def TS (tx:List Int) (wh:Bool) (G M:Nat):Prop:=∀ (n:Nat) (x:Pc) (i:Int) (g:Sp) (r r':List Rs),n+1≤20000→okT G x→RS tx wh M r r'→Sim tx wh (ref4_engine_try M (tx,(n:Int),wh,false) x.un i g r) (ref4_engine_try M (tx,((n+1:Nat):Int),wh,false) x.un i g r')
def US (tx:List Int) (wh:Bool) (G M:Nat):Prop:=∀ (n:Nat) (k lo hi:Int) (no lz:Bool) (rs:List (Int × Int)) (x:Pc) (t:List Pc) (c i:Int) (g:Sp) (r r':List Rs),n+1≤20000→okT G x→RS tx wh M r r'→Sim tx wh (ref4_engine_rounds M (tx,(n:Int),wh,false) (k,lo,hi,no,lz,rs,x::t) c i g r) (ref4_engine_rounds M (tx,((n+1:Nat):Int),wh,false) (k,lo,hi,no,lz,rs,x::t) c i g r')
def AS (tx:List Int) (wh:Bool) (G M:Nat):Prop:=∀ (n:Nat) (k lo hi:Int) (no lz:Bool) (rs:List (Int × Int)) (x:Pc) (t:List Pc) (c i:Int) (g:Sp) (r r':List Rs),n+1≤20000→okT G x→RS tx wh M r r'→Sim tx wh (ref4_engine_again M (tx,(n:Int),wh,false) (k,lo,hi,no,lz,rs,x::t) c i g r) (ref4_engine_again M (tx,((n+1:Nat):Int),wh,false) (k,lo,hi,no,lz,rs,x::t) c i g r')
theorem goOn0 (e:Eng) (r:List Rs) (i:Int) (g:Sp):ref4_engine_goOn 0 e r i g=none:=by rw[ref4_engine_goOn.eq_1]
theorem RS.row {G M:Nat} (H:∀ m,m<M→TS tx wh G m) {r r':List Rs} (hr:RS tx wh M r r'):∀ (l:List Pc),(∀ x∈l,okT G x)→∀ (pc:PcT) (st ro:Int),RS tx wh M [Rs.of (1,l,pc,st,ro,r)] [Rs.of (1,l,pc,st,ro,r')]
 | [],_,pc,st,ro,0,_,n,i,g,hn=>by rw[goOn0];exact Sim.none _
 | [],_,pc,st,ro,m+1,hm,n,i,g,hn=>by rw[goB_nil,goB_nil];exact (hr m om n i g hn).thenB
 | x::t,hl,pc,st,ro,0,_,n,i,g,hn=>by rw[goOn0];exact Sim.none _
 | x::t,hl,pc,st,ro,m+1,hm,n,i,g,hn=>by
   rw[goB_cons,goB_cons]
   exact (H m om n x i g _ _ hn (hl x (by simp)) ((RS.row H hr t (fun y hy=>hl y (List.mem_cons_of_mem _ hy)) Z7 0 0).le om)).thenB
theorem RS.close {M:Nat} {r r':List Rs} (hr:RS tx wh M r r') (pa:List Pc) (pc:PcT) (st ro:Int):RS tx wh M [Rs.of (2,pa,pc,st,ro,r)] [Rs.of (2,pa,pc,st,ro,r')]:=fun m hm n i g hn=>by
 cases m with
 | zero=>rw[goOn0];exact Sim.none _
 | succ m=>rw[goB_2,goB_2];exact Sim.bindc fun v=>(hr m om n i v hn).thenB
theorem RS.rep {G M:Nat} (H:∀ m,m<M→US tx wh G m) {r r':List Rs} (hr:RS tx wh M r r') {k lo hi:Int} {no lz:Bool} {rs:List (Int × Int)} {x:Pc} {t:List Pc} (hx:okT G x) (pa:List Pc) (st ro:Int):RS tx wh M [Rs.of (3,pa,(k,lo,hi,no,lz,rs,x::t),st,ro,r)] [Rs.of (3,pa,(k,lo,hi,no,lz,rs,x::t),st,ro,r')]:=fun m hm n i g hn=>by
 cases m with
 | zero=>rw[goOn0];exact Sim.none _
 | succ m=>
   rw[goB_3,goB_3]
   exact Sim.ite (Sim.fail hn) (H m om n k lo hi no lz rs x t ro i g r r' hn hx (hr.le om)).thenB
theorem RS.fin (M:Nat) (pa:List Pc) (pc:PcT) (st ro ro':Int) (r r':List Rs):RS tx false M [Rs.of (0,pa,pc,st,ro,r)] [Rs.of (0,pa,pc,st,ro',r')]:=fun m hm n i g hn=>by
 cases m with
 | zero=>rw[goOn0];exact Sim.none _
 | succ m=>
   rw[goB_0,goB_0,if_neg (by simp),if_neg (by simp)]
   exact Sim.bindc fun v a b e e'=>by cases e;cases e';exact .inr ⟨v,true,n,hn,rfl,rfl⟩
theorem AS.step {G M:Nat} (hT:∀ m,m≤M→TS tx wh G m) (hU:∀ m,m<M→US tx wh G m):AS tx wh G (M+1):=fun n k lo hi no lz rs x t c i g r r' hn hx hr=>by
 rw[againB,againB]
 exact Sim.ite (Sim.fail hn) (hT M (ad _) n x i g _ _ hn hx (RS.rep hU (hr.le (ai _)) hx [] i _)).thenB
theorem US.step {G M:Nat} (hA:AS tx wh G M):US tx wh G (M+1):=fun n k lo hi no lz rs x t c i g r r' hn hx hr=>by
 rw[repB,repB]
 have hr':=hr.le (ai M)
 have h1:=fun (q:Nat) (hq:q+1≤20000)=>hA q k lo hi no lz rs x t c i g r r' hq hx hr'
 have h2:=fun (q:Nat) (hq:q+1≤20000)=>hr M (ai _) q i g hq
 exact Sim.ite (h1 n hn).thenB (Sim.ite (Sim.or (h2 n hn) h1) (Sim.or (h1 n hn) h2))
/-! one of several -/
def LSim (tx:List Int) (wh:Bool) (y y':Option (Eng ⊕ ((Sp × Bool × Eng) ⊕ RB))):Prop:=∀ a b,y=some a→y'=some b→(∃ c,b= .inr (.inr c)∧c.2.2.2.2.2=true)∨(∃ n:Nat,n+1≤20000∧a= .inl (tx,(n:Int),wh,false)∧b= .inl (tx,((n+1:Nat):Int),wh,false))∨∃ c c',a= .inr (.inr c)∧b= .inr (.inr c')∧shB tx wh c c'
theorem alt_sim {G M:Nat} (hT:TS tx wh G M) {subs:List Pc} (hs:∀ x∈subs,okT G x) (i:Int) (g:Sp) {r r':List Rs} (hr:RS tx wh M r r'):∀ (k:Nat) (j:Int) (n:Nat),n+1≤20000→LSim tx wh (loopN (altB tx M subs i g r) k (j,(tx,(n:Int),wh,false))) (loopN (altB tx M subs i g r') k (j,(tx,((n+1:Nat):Int),wh,false)))
 | 0,j,n,hn=>fun a b e=>by cases e
 | k+1,j,n,hn=>fun a b e e'=>by
   by_cases hc:j<((subs.length:Nat):Int)
   ·cases hx:idx subs j with
    | none=>
      rw[loopN_none (by unfold altB;simp only[dtt hc,if_true,hx];rfl)]at e
      cases e
    | some x=>
      have hxs:x∈subs:=by
       unfold idx at hx
       split at hx
       ·exact List.mem_of_getElem? hx
       ·cases hx
      have h0:=hT n x i g r r' hn (hs x hxs) hr
      have ea:∀ (q:Int) (rr:List Rs),altB tx M subs i g rr (j,(tx,q,wh,false))=(ref4_engine_try M (tx,q,wh,false) (Pc.un x) i g rr).bind fun r149=>(Option.bind (if r149.2.1 then (some (true)) else (some (r149.2.2.2.2.2))) fun (j160:Bool)=>(if j160 then (some (.inr (.inr (.inr ((r149.1,r149.2.1,(tx,r149.2.2.2.1,r149.2.2.2.2.1,r149.2.2.2.2.2))))))) else (some (.inl ((IntKind.i64.wrap (j+1)),(tx,r149.2.2.2.1,r149.2.2.2.2.1,r149.2.2.2.2.2)))))):=fun q rr=>by
       unfold altB;simp only[dtt hc,if_true,hx,Option.bind_some]
      cases h1:ref4_engine_try M (tx,(n:Int),wh,false) (Pc.un x) i g r with
      | none=>rw[loopN_none (by rw[ea,h1];rfl)]at e;cases e
      | some u=>
        cases h2:ref4_engine_try M (tx,((n+1:Nat):Int),wh,false) (Pc.un x) i g r' with
        | none=>rw[loopN_none (by rw[ea,h2];rfl)]at e';cases e'
        | some v=>
          rcases h0 u v h1 h2 with h3 | ⟨gg,f,q,hq,rfl,rfl⟩
          ·obtain ⟨b1,b2,b3,b4,b5,b6⟩:=v
           simp only at h3
           subst h3
           rw[loopN_inr (r:=.inr (.inr (b1,b2,(tx,b4,b5,true)))) (by rw[ea,h2];cases b2<;>rfl)]at e'
           cases e'
           exact .inl ⟨_,rfl,rfl⟩
          ·cases f with
           | true=>
             rw[loopN_inr (r:=.inr (.inr (gg,true,(tx,(q:Int),wh,false)))) (by rw[ea,h1];rfl)]at e
             rw[loopN_inr (r:=.inr (.inr (gg,true,(tx,((q+1:Nat):Int),wh,false)))) (by rw[ea,h2];rfl)]at e'
             cases e;cases e'
             exact .inr (.inr ⟨_,_,rfl,rfl,.inr ⟨gg,true,q,hq,rfl,rfl⟩⟩)
           | false=>
             rw[loopN_inl (st':=(IntKind.i64.wrap (j+1),(tx,(q:Int),wh,false))) (by rw[ea,h1];rfl)]at e
             rw[loopN_inl (st':=(IntKind.i64.wrap (j+1),(tx,((q+1:Nat):Int),wh,false))) (by rw[ea,h2];rfl)]at e'
             exact alt_sim hT hs i g hr k _ q hq a b e e'
   ·have ea:∀ (q:Int) (rr:List Rs),altB tx M subs i g rr (j,(tx,q,wh,false))=some (.inr (.inl (tx,q,wh,false))):=fun q rr=>by
     unfold altB;simp only[dff hc,ae,if_false]
    rw[loopN_inr (ea _ _)]at e e'
    cases e;cases e'
    exact .inr (.inl ⟨n,hn,rfl,rfl⟩)
theorem fits_any (m:Nat) (tx:List Int) (a b:Int) (wh:Bool) (x:PcT) (i:Int):ref4_engine_fitsOne m (tx,a,wh,false) x i=ref4_engine_fitsOne m (tx,b,wh,false) x i:=rfl
theorem TS.step {G M:Nat} (hT:∀ m,m≤M→TS tx false G m) (hU:∀ m,m≤M→US tx false G m):TS tx false G (M+1):=fun n p i g r r' hn hp hr=>by
 have hr':=hr.le (ai M)
 obtain ⟨k,lo,hi,no,lz,rs,subs⟩:=p
 have hk:=okT_self hp
 have hs:=okT_sub hp
 have h1k:=hk.kind
 simp only[Pc.un]at h1k
 show Sim tx false (ref4_engine_try (M+1) (tx,(n:Int),false,false) (k,lo,hi,no,lz,rs,subs) i g r) (ref4_engine_try (M+1) (tx,((n+1:Nat):Int),false,false) (k,lo,hi,no,lz,rs,subs) i g r')
 by_cases hn2:n+1=20000
 ·rw[hn2]
  rw[show (((20000:Nat):Int))=20000 from rfl,tryB_lim]
  exact Sim.over _ rfl
 ·have hn3:n<20000:=by omega
  have hn4:n+1<20000:=by omega
  have hq:=fun (q:Nat) (i:Int) (g:Sp) (hq:q+1≤20000)=>(hr M (ai M) q i g hq).thenB
  obtain h | h | h | h | h | h | h | h | h | h | h | h:k=1∨k=2∨k=3∨k=4∨k=5∨k=6∨k=7∨k=8∨k=9∨k=10∨k=11∨k=12:=by omega
  ·rw[tryB_s hn3 M tx false lo hi no lz rs subs i g r (.inl h),tryB_s hn4 M tx false lo hi no lz rs subs i g r' (.inl h),fits_any M tx _ ((n+1:Nat):Int)]
   exact Sim.bindc fun v=>Sim.ite (Sim.fail hn4) (hq (n+1) _ g hn4)
  ·rw[tryB_s hn3 M tx false lo hi no lz rs subs i g r (.inr (.inl h)),tryB_s hn4 M tx false lo hi no lz rs subs i g r' (.inr (.inl h)),fits_any M tx _ ((n+1:Nat):Int)]
   exact Sim.bindc fun v=>Sim.ite (Sim.fail hn4) (hq (n+1) _ g hn4)
  ·rw[tryB_s hn3 M tx false lo hi no lz rs subs i g r (.inr (.inr h)),tryB_s hn4 M tx false lo hi no lz rs subs i g r' (.inr (.inr h)),fits_any M tx _ ((n+1:Nat):Int)]
   exact Sim.bindc fun v=>Sim.ite (Sim.fail hn4) (hq (n+1) _ g hn4)
  ·subst h;rw[tryB_4 hn3,tryB_4 hn4];exact Sim.ite (hq (n+1) _ g hn4) (Sim.fail hn4)
  ·subst h;rw[tryB_5 hn3,tryB_5 hn4];exact Sim.ite (hq (n+1) _ g hn4) (Sim.fail hn4)
  ·subst h;rw[tryB_6 hn3,tryB_6 hn4];exact Sim.bindc fun v=>Sim.bindc fun u=>Sim.ite (hq (n+1) _ g hn4) (Sim.fail hn4)
  ·subst h
   cases subs with
   | nil=>exact absurd rfl (hk.g7 rfl).2.2
   | cons x t=>
     rw[tryB_7 hn3,tryB_7 hn4]
     simp only[idx0,Option.bind_some]
     exact Sim.ite (hT M (ad _) (n+1) x i g r r' hn4 (hs x (by simp)) hr').thenB (hT M (ad _) (n+1) x i g _ _ hn4 (hs x (by simp)) (RS.close hr' [] _ i 0)).thenB
  ·subst h;rw[tryB_8 hn3,tryB_8 hn4]
   exact (RS.row (fun m hm=>hT m (Nat.le_of_lt hm)) hr' subs hs Z7 0 0 M (ad _) (n+1) i g hn4).thenB
  ·subst h;rw[tryB_9 hn3,tryB_9 hn4]
   have hl:=alt_sim (hT M (ad _)) hs i g hr' M 0 (n+1) hn4
   intro a b e e'
   cases h1:loopN (altB tx M subs i g r) M (0,(tx,((n+1:Nat):Int),false,false)) with
   | none=>rw[h1]at e;cases e
   | some u=>
     cases h2:loopN (altB tx M subs i g r') M (0,(tx,((n+1+1:Nat):Int),false,false)) with
     | none=>rw[h2]at e';cases e'
     | some v=>
       rw[h1]at e
       rw[h2]at e'
       rcases hl u v h1 h2 with ⟨c,rfl,hc⟩ | ⟨q,hq,rfl,rfl⟩ | ⟨c,c',rfl,rfl,hs⟩
       ·cases (show some c=some b from e');exact .inl hc
       ·exact Sim.fail hq a b e e'
       ·cases (show some c=some a from e);cases (show some c'=some b from e');exact hs
  ·subst h
   cases subs with
   | nil=>exact absurd rfl (hk.g10 (.inl rfl))
   | cons x t=>
     rw[tryB_10 hn3,tryB_10 hn4]
     exact (hU M (ad _) (n+1) 10 lo hi no lz rs x t 0 i g r r' hn4 (hs x (by simp)) hr').thenB
  ·subst h
   cases subs with
   | nil=>exact absurd rfl (hk.g10 (.inr rfl))
   | cons x t=>
     rw[tryB_11 hn3,tryB_11 hn4]
     simp only[idx0,Option.bind_some]
     refine Sim.bnd (hT M (ad _) (n+1) x i g _ _ hn4 (hs x (by simp)) (RS.fin M _ _ _ _ _ _ _)) (fun gg s q hq'=>?_) fun b hb=>?_
     ·simp only[ae,if_false]
      exact Sim.ite (Sim.fail hq') (Sim.bindc fun v=>hq q i v hq')
     ·obtain ⟨b1,b2,b3,b4,b5,b6⟩:=b
      simp only at hb
      subst hb
      exact ⟨_,rfl,rfl⟩
  ·subst h;rw[tryB_12 hn3,tryB_12 hn4]
   exact Sim.bindc fun a=>Sim.bindc fun j=>Sim.ite (Sim.fail hn4) (hq (n+1) _ g hn4)
end
end Go.Gv.M
/-! Own work: the law of looking ahead. -/
namespace Go.Gv.M
open Go Go.Gv Go.Gv.D Go.Gv.X Go.Gv.R Go.Gv.P Go.Lib
set_option maxHeartbeats 4000000
def fdO (i:Int):Res→Fd
 | .over=>.over
 | .no _=>.no
 | .yes g _=>.yes (g.set 0 (i,(g.getD 0 (0,0)).2))
theorem srcO_inj {a b:Fd} (h:srcO a=srcO b):a=b:=by
 cases a<;>cases b<;>simp[srcO]at h ⊢
 exact h
theorem search_of {tx:List Int} {G:Nat} (hG:G≤1000) (hL:tx.length≤1000) {p:PcT} (hg:Tot (fun n=>ref4_GroupsOf n p) (· =(G:Int))) {i:Int} (h0:0≤i) (h1:i≤(tx.length:Int)) {o:Res} (ho:okR G tx.length 0 o)
 (ht:Tot (fun m=>ref4_engine_try m (tx,((0:Nat):Int),false,false) p i (neg (G+1)) rF) (PB tx false o)):Tot (fun m=>ref4_Search m p tx i i false) (· =srcO (fdO i o)):=by
 have hB:Tot (fun m=>(loopN (gB m p) m (([]:List (Int × Int)),0)).bind fun j=>ref4_engine_try m (tx,((0:Nat):Int),false,false) p i j rF) (PB tx false o):=aa (LT.tot (gB_lt hG hg (G+1) 0 om)) fun a e=>by subst e;exact ht
 have eb:∀ m,srF m p i (i,(tx,((0:Nat):Int),false,false))=((loopN (gB m p) m (([]:List (Int × Int)),0)).bind fun j=>ref4_engine_try m (tx,((0:Nat):Int),false,false) p i j rF).bind fun r155=>(if r155.2.1 then (Option.bind (idx r155.1 0) fun x173=>(Option.bind (upd r155.1 0 (i,x173.2)) fun l175=>(some (.inr (.inr ((l175,true,false))))))) else (some (.inl ((IntKind.i64.wrap (i+1)),(tx,r155.2.2.2.1,r155.2.2.2.2.1,r155.2.2.2.2.2))))):=fun m=>by
  unfold srF
  simp only[dtt (Int.le_refl i),if_true,Bool.not_false,Option.bind_some]
  cases loopN (gB m p) m (([]:List (Int × Int)),0) with
  | none=>rfl
  | some j=>rfl
 rw[i64_small (x:=i+1) om om]at eb
 have hexit:∀ (t:Int) (ov:Bool) (m:Nat),srF m p i (i+1,(tx,t,false,ov))=some (.inr (.inl (tx,t,false,ov))):=fun t ov m=>by
  unfold srF
  simp only[dff (show ¬ (i+1≤i) by omega),ae,if_false,Option.bind_some]
 have hl:LT (fun m=>srF m p i) (i,(tx,0,false,false)) (SrQ tx false (fdO i o)):=by
  cases o with
  | over=>
    obtain ⟨b,⟨hb1,t,hb2⟩,N,hN⟩:=hB
    obtain ⟨b1,b2,b3⟩:=b
    simp only at hb1 hb2
    subst hb1;subst hb2
    exact LT.step (st':=(i+1,(tx,t,false,true))) (eqf eb (tb hN fun m=>rfl)) (LT.fin (r:=.inl (tx,t,false,true)) (Tot.alln fun m=>hexit t true m) ⟨t,rfl⟩)
  | no n2=>
    refine LT.step (st':=(i+1,(tx,(n2:Int),false,false))) (eqf eb (aa hB fun b hb=>?_)) (LT.fin (r:=.inl (tx,(n2:Int),false,false)) (Tot.alln fun m=>hexit _ false m) ⟨_,rfl⟩)
    obtain ⟨b1,b2,b3⟩:=b
    cases hb;exact ac rfl
  | yes g n2=>
    have hlg:0<g.length:=by have:=ho.2.2.1;omega
    refine LT.fin (r:=.inr (g.set 0 (i,(g.getD 0 (0,0)).2),true,false)) (eqf eb (aa hB fun b hb=>?_)) (by exact rfl)
    cases hb
    refine Tot.alln fun m=>?_
    have hi:idx g 0=some (g.getD 0 (0,0)):=by rw[show (0:Int)=((0:Nat):Int) from rfl,idx_nat,List.getElem?_eq_getElem hlg];simp[List.getD,List.getElem?_eq_getElem hlg]
    have hu:upd g 0 (i,(g.getD 0 (0,0)).2)=some (g.set 0 (i,(g.getD 0 (0,0)).2)):=upd_nat hlg _
    simp only[if_true,hi,Option.bind_some,hu]
 refine eqf (fun m=>search_eq m p tx i i false) (aa (LT.tot hl) fun y hy=>?_)
 cases o with
 | over=>obtain ⟨t,rfl⟩:=hy;exact ac rfl
 | no n=>obtain ⟨t,rfl⟩:=hy;exact ac rfl
 | yes g n=>cases hy;exact ac rfl
theorem check_ok {p:Pc} {s:ByteArray} {ps:List Nat} (hok:okP p) (hb:BdL (preP p)) (ht:TextOk s ps) (i:Int):Tot (fun n=>rematch_check n p.un s i) (· =if i<0∨i>(ps.length:Int) then (4, -3) else (0,0)):=by
 have he:=ht.enc_le
 rcases check_cases hb (s:=s) (by rw[ht.str,size_str];omega) with ⟨w,hw,h1,h2⟩ | ⟨_,ps',ht',_,h1⟩
 ·exfalso
  have h3:Tot (fun n=>law4_searchFault n p.un s) (· =((0,0),ints ps)):=by
   unfold law4_searchFault
   refine aa (Fault_tot hb) fun a e=>?_
   subst e
   rw[chkV_ok hok]
   refine ab rfl (aa (P:=(· =(ints ps,true))) (by rw[ht.str];exact pts_tot ht.scal om) fun a e=>?_)
   subst e
   have:=ht.len
   refine ab rfl (Tot.some_bind ?_)
   rw[ints_len]
   exact ab (dff om) (ac rfl)
  obtain ⟨a,⟨e1,e2⟩,_⟩:=Tot.and h2 h3
  rw[e1]at e2
  exact hw (by rw[congrArg (fun x=>x.1.1) e2])
 ·have:ps=ps':=by
   refine enc_inj ht.scal ht'.scal ?_
   have:=ht.str.symm.trans ht'.str
   have:=congrArg bytesOf this
   rwa [bytes_str,bytes_str]at this
  subst this
  exact h1 i
end Go.Gv.M
/-! Own work: the law of looking ahead (2). -/
namespace Go.Gv.M
open Go Go.Gv Go.Gv.D Go.Gv.X Go.Gv.R Go.Gv.P Go.Lib
set_option maxHeartbeats 4000000
end Go.Gv.M
/-! Own work: the law of repetitions. -/
namespace Go.Gv.M
open Go Go.Gv Go.Gv.D Go.Gv.X Go.Gv.R Go.Gv.P Go.Lib
set_option maxHeartbeats 4000000
/-- where a run of one piece's letters ends -/
def runE (tx:List Int) (x:PcT) (hi i0:Int):Nat→Nat→Nat
 | 0,c=>c
 | d+1,c=>if hi≥0∧(c:Int)≥hi then c else if fitB tx x (i0+c)=true then runE tx x hi i0 d (c+1) else c
theorem runE_ge {tx:List Int} {x:PcT} {hi i0:Int}:∀ d c,c≤runE tx x hi i0 d c∧runE tx x hi i0 d c≤c+d
 | 0,c=>⟨ad _,ad _⟩
 | d+1,c=>by
   rw[runE]
   split
   ·exact ⟨ad _,om⟩
   ·split
    ·have:=runE_ge (tx:=tx) (x:=x) (hi:=hi) (i0:=i0) d (c+1);omega
    ·exact ⟨ad _,om⟩
abbrev rp (lo hi:Int) (lz:Bool) (x:Pc):Pc:=.mk 10 lo hi false lz [] [x]
section
variable {tx:List Int} {x:Pc} {lo hi i0:Int} (hL:tx.length≤1000) (hx:x.un.1=1∨x.un.1=2∨x.un.1=3) (hr:x.un.2.2.2.2.2.1.length≤BigR) (h0:0≤i0)
def Fin1 (lo:Int) (i0:Int) (E T:Nat) (n:Nat):Res:=if lo≤(E:Int) then .yes [(0,i0+T)] n else .no n
theorem fin_go (n:Nat) (i:Int):Tot (fun m=>ref4_engine_goOn m (tx,(n:Int),false,false) rF i (neg (0+1))) (PB tx false (.yes [(0,i)] n)):=by
 refine suc (Tot.mono (Tot.alln fun m=>?_) fun a e=>e)
 rw[goB_0,if_neg (by simp),show ref4_spans_with m (neg (0+1)) 0 0 i=ref4_spans_with m (neg (0+1)) ((0:Nat):Int) 0 i from rfl,with_eq m (by simp) (by simp)]
 rfl
include hL hx hr h0
theorem one_try {n:Nat} (hn:n<20000) {i:Int} (hi0:0≤i) (hi1:i≤(tx.length:Int)) (g:Sp) (r:List Rs) {o:Res} (ho:fitB tx x.un i=true→Tot (fun m=>ref4_engine_goOn m (tx,((n+1:Nat):Int),false,false) r (i+1) g) (PB tx false o)):
 Tot (fun m=>ref4_engine_try m (tx,(n:Int),false,false) x.un i g r) (PB tx false (if fitB tx x.un i=true then o else .no (n+1))):=by
 obtain ⟨k,xl,xh,xn,xz,xr,xs⟩:=x
 refine suc (eqf (fun m=>tryB_s hn m tx false xl xh xn xz xr xs i g r hx) (aa (fits_tot (tx:=tx) (x:=(k,xl,xh,xn,xz,xr,xs)) hr hi0 _) fun a e=>?_))
 rw[e]
 cases hb:fitB tx (k,xl,xh,xn,xz,xr,xs) i with
 | false=>
   rw[show fitB tx (Pc.mk k xl xh xn xz xr xs).un i=false from hb]
   exact ac rfl
 | true=>
   rw[show fitB tx (Pc.mk k xl xh xn xz xr xs).un i=true from hb]
   rw[i64_small (x:=i+1) om om]
   exact thenB_tot (ho hb)
theorem fit_lt {i:Int} (h:fitB tx x.un i=true):i<(tx.length:Int):=by
 by_cases h':(tx.length:Int)≤i
 ·unfold fitB at h;rw[idx_none h']at h;cases h
 ·omega
/-- the greedy one -/
theorem greedy_lt (hlo:0≤lo) (hlh:hi<0∨lo≤hi):∀ (d c n:Nat),(c:Int)+d+i0=(tx.length:Int)→n+d+2≤20000→∃ n',n'≤n+d+1∧Tot (fun m=>ref4_engine_rounds m (tx,(n:Int),false,false) (rp lo hi false x).un (c:Int) (i0+c) (neg (0+1)) rF) (PB tx false (Fin1 lo i0 (runE tx x.un hi i0 d c) (runE tx x.un hi i0 d c) n'))
 | d,c,n,hd,hn=>by
   have hag:∃ n',n'≤n+d+1∧Tot (fun m=>ref4_engine_again m (tx,(n:Int),false,false) (rp lo hi false x).un (c:Int) (i0+c) (neg (0+1)) rF) (PB tx false (if runE tx x.un hi i0 d c=c then .no n' else Fin1 lo i0 (runE tx x.un hi i0 d c) (runE tx x.un hi i0 d c) n')):=by
    by_cases hh:hi≥0∧(c:Int)≥hi
    ·have hE:runE tx x.un hi i0 d c=c:=by cases d with | zero=>rfl | succ d=>rw[runE,if_pos hh]
     refine ⟨n,om,?_⟩
     rw[hE,if_pos rfl]
     exact suc (eqf (fun m=>againB m tx (neg (0+1)) _ _ 10 lo hi false false [] x [] _ rF) (af (by rw[dtt hh.1,dtt hh.2];rfl) (ac rfl)))
    ·have hcond:(decide (hi≥0)&&decide ((c:Int)≥hi))=false:=by
      by_cases h:hi≥0
      ·rw[dff (show ¬ (c:Int)≥hi from fun e=>hh ⟨h,e⟩),Bool.and_false]
      ·rw[dff h];rfl
     cases hb:fitB tx x.un (i0+c) with
     | false=>
       have hE:runE tx x.un hi i0 d c=c:=by cases d with | zero=>rfl | succ d=>rw[runE,if_neg hh,hb];rfl
       have:=one_try hL hx hr h0 (n:=n) om (i:=i0+c) om om (neg (0+1)) [Rs.of (3,([]:List Pc),(rp lo hi false x).un,i0+c,IntKind.i64.wrap ((c:Int)+1),rF)] (o:=.over) (fun e=>by rw[hb]at e;cases e)
       rw[hb]at this
       refine ⟨n+1,om,?_⟩
       rw[hE,if_pos rfl]
       exact suc (eqf (fun m=>againB m tx (neg (0+1)) _ _ 10 lo hi false false [] x [] _ rF) (ab hcond (thenB_tot this)))
     | true=>
       have hlt:=fit_lt hL hx hr h0 hb
       obtain ⟨d,rfl⟩:∃ k,d=k+1:=⟨d-1,om⟩
       have hE:runE tx x.un hi i0 (d+1) c=runE tx x.un hi i0 d (c+1):=by rw[runE,if_neg hh,hb,if_pos rfl]
       have hge:=(runE_ge (tx:=tx) (x:=x.un) (hi:=hi) (i0:=i0) d (c+1)).1
       obtain ⟨n',hn',ih⟩:=greedy_lt hlo hlh d (c+1) (n+1) om om
       refine ⟨n',om,?_⟩
       rw[hE,if_neg om]
       refine suc (eqf (fun m=>againB m tx (neg (0+1)) _ _ 10 lo hi false false [] x [] _ rF) (ab hcond (thenB_tot ?_)))
       have:=one_try hL hx hr h0 (n:=n) om (i:=i0+c) om om (neg (0+1)) [Rs.of (3,([]:List Pc),(rp lo hi false x).un,i0+c,IntKind.i64.wrap ((c:Int)+1),rF)] (o:=Fin1 lo i0 (runE tx x.un hi i0 d (c+1)) (runE tx x.un hi i0 d (c+1)) n') (fun _=>by
        refine suc (eqf (fun m=>goB_3 m tx (i0+c+1) (neg (0+1)) _ (i0+c) _ _ rF []) (ab ?_ (thenB_tot ?_)))
        ·rw[if_neg oss]
        ·rw[i64_small (x:=(c:Int)+1) om om,show i0+(c:Int)+1=i0+((c+1:Nat):Int) by omega]
         exact ih)
       rw[hb]at this
       exact this
   obtain ⟨n1,hn1,ha⟩:=hag
   by_cases hl:(c:Int)<lo
   ·refine ⟨n1,hn1,suc (eqf (fun m=>repB m tx (neg (0+1)) _ _ 10 lo hi false false [] x [] _ rF) (af (dtt hl) (thenB_tot ?_)))⟩
    by_cases hE:runE tx x.un hi i0 d c=c
    ·rw[hE,if_pos rfl]at ha
     rw[hE];unfold Fin1;rw[if_neg om];exact ha
    ·rw[if_neg hE]at ha;exact ha
   ·by_cases hE:runE tx x.un hi i0 d c=c
    ·rw[hE,if_pos rfl]at ha
     refine ⟨n1,hn1,suc (eqf (fun m=>repB m tx (neg (0+1)) _ _ 10 lo hi false false [] x [] _ rF) (ab (dff hl) (ab rfl ?_)))⟩
     refine aa ha fun a e=>?_
     obtain ⟨a1,a2,a3⟩:=a
     cases e
     rw[hE,show Fin1 lo i0 c c n1= .yes [(0,i0+(c:Int))] n1 from if_pos om]
     exact thenB_tot (fin_go n1 (i0+c))
    ·rw[if_neg hE]at ha
     have hge:=(runE_ge (tx:=tx) (x:=x.un) (hi:=hi) (i0:=i0) d c).1
     refine ⟨n1,hn1,suc (eqf (fun m=>repB m tx (neg (0+1)) _ _ 10 lo hi false false [] x [] _ rF) (ab (dff hl) (ab rfl ?_)))⟩
     unfold Fin1 at ha ⊢
     rw[if_pos om]at ha ⊢
     refine aa ha fun a e=>?_
     cases e
     exact ac rfl
/-- the lazy one -/
theorem lazy_lt (hlo:0≤lo) (hlh:hi<0∨lo≤hi):∀ (d c n:Nat),(c:Int)+d+i0=(tx.length:Int)→n+d+2≤20000→(c:Int)≤lo→∃ n',n'≤n+d+1∧Tot (fun m=>ref4_engine_rounds m (tx,(n:Int),false,false) (rp lo hi true x).un (c:Int) (i0+c) (neg (0+1)) rF) (PB tx false (Fin1 lo i0 (runE tx x.un hi i0 d c) lo.toNat n'))
 | d,c,n,hd,hn,hcl=>by
   by_cases hl:(c:Int)<lo
   ·have hh:¬ (hi≥0∧(c:Int)≥hi):=by omega
    have hcond:(decide (hi≥0)&&decide ((c:Int)≥hi))=false:=by
     by_cases h:hi≥0
     ·rw[dff (show ¬ (c:Int)≥hi from fun e=>hh ⟨h,e⟩),Bool.and_false]
     ·rw[dff h];rfl
    cases hb:fitB tx x.un (i0+c) with
    | false=>
      have hE:runE tx x.un hi i0 d c=c:=by cases d with | zero=>rfl | succ d=>rw[runE,if_neg hh,hb];rfl
      have:=one_try hL hx hr h0 (n:=n) om (i:=i0+c) om om (neg (0+1)) [Rs.of (3,([]:List Pc),(rp lo hi true x).un,i0+c,IntKind.i64.wrap ((c:Int)+1),rF)] (o:=.over) (fun e=>by rw[hb]at e;cases e)
      rw[hb]at this
      refine ⟨n+1,om,suc (eqf (fun m=>repB m tx (neg (0+1)) _ _ 10 lo hi false true [] x [] _ rF) (af (dtt hl) (thenB_tot (suc (eqf (fun m=>againB m tx (neg (0+1)) _ _ 10 lo hi false true [] x [] _ rF) (ab hcond (thenB_tot ?_)))))))⟩
      rw[hE];unfold Fin1;rw[if_neg om];exact this
    | true=>
      have hlt:=fit_lt hL hx hr h0 hb
      obtain ⟨d,rfl⟩:∃ k,d=k+1:=⟨d-1,om⟩
      have hE:runE tx x.un hi i0 (d+1) c=runE tx x.un hi i0 d (c+1):=by rw[runE,if_neg hh,hb,if_pos rfl]
      obtain ⟨n',hn',ih⟩:=lazy_lt hlo hlh d (c+1) (n+1) om om om
      rw[hE]
      refine ⟨n',om,suc (eqf (fun m=>repB m tx (neg (0+1)) _ _ 10 lo hi false true [] x [] _ rF) (af (dtt hl) (thenB_tot (suc (eqf (fun m=>againB m tx (neg (0+1)) _ _ 10 lo hi false true [] x [] _ rF) (ab hcond (thenB_tot ?_)))))))⟩
      have:=one_try hL hx hr h0 (n:=n) om (i:=i0+c) om om (neg (0+1)) [Rs.of (3,([]:List Pc),(rp lo hi true x).un,i0+c,IntKind.i64.wrap ((c:Int)+1),rF)] (o:=Fin1 lo i0 (runE tx x.un hi i0 d (c+1)) lo.toNat n') (fun _=>by
       refine suc (eqf (fun m=>goB_3 m tx (i0+c+1) (neg (0+1)) _ (i0+c) _ _ rF []) (ab ?_ (thenB_tot ?_)))
       ·rw[if_neg oss]
       ·rw[i64_small (x:=(c:Int)+1) om om,show i0+(c:Int)+1=i0+((c+1:Nat):Int) by omega]
        exact ih)
      rw[hb]at this
      exact this
   ·have hge:=(runE_ge (tx:=tx) (x:=x.un) (hi:=hi) (i0:=i0) d c).1
    refine ⟨n,om,suc (eqf (fun m=>repB m tx (neg (0+1)) _ _ 10 lo hi false true [] x [] _ rF) (ab (dff hl) (af rfl ?_)))⟩
    unfold Fin1
    rw[if_pos om,show i0+((lo.toNat:Nat):Int)=i0+c by omega]
    refine aa (fin_go n (i0+c)) fun a e=>?_
    cases e
    exact ac rfl
end
end Go.Gv.M
/-! Own work: the law of repetitions (2). -/
namespace Go.Gv.M
open Go Go.Gv Go.Gv.D Go.Gv.X Go.Gv.R Go.Gv.P Go.Lib
set_option maxHeartbeats 4000000
theorem rng_of {g g':Nat} {x:PcT} (h:nodeC g x= .inr g') (hk:x.1=10):rngB x=true:=by
 unfold nodeC at h
 split at h;cases h
 split at h;cases h
 split at h;cases h
 rename_i h3
 cases hr:rngB x with
 | true=>rfl
 | false=>exact absurd ⟨hk,hr⟩ h3
theorem rp_ok {lo hi:Int} {lz:Bool} {x:Pc} (h:okP (rp lo hi lz x)) (hb:BdL (preP (rp lo hi lz x))):okP x∧0≤lo∧lo≤99∧(hi<0∨lo≤hi):=by
 obtain ⟨g',h1,h2,h3⟩:=h
 rw[pre_eq,preL_one,chkL]at h1
 cases hn:nodeC 0 (rp lo hi lz x).un with
 | inl e=>rw[hn]at h1;cases h1
 | inr g1=>
   rw[hn]at h1
   have hr:=rng_of hn rfl
   have h5:=(node_okN hn (ad _) (hb _ (by rw[pre_eq];simp))).2
   have h6:isG (rp lo hi lz x)=false:=rfl
   rw[h6]at h5
   have h5:g1=0:=by simpa using h5
   subst h5
   have hr:0≤lo∧lo≤99∧ -1≤hi∧hi≤99∧(hi<0∨lo≤hi):=odt hr
   refine ⟨⟨g',h1,?_,?_⟩,hr.1,hr.2.1,hr.2.2.2.2⟩
   ·rw[X.size_eq,sizeL_one]at h2;omega
   ·have:txt (rp lo hi lz x)=txt x++(tmsN lo hi++if lz then [63] else []):=by rw[txt];simp[txtL]
    unfold tl at h3 ⊢
    rw[this,enc_app,List.length_append]at h3
    omega
theorem rp_gr {lo hi:Int} {lz:Bool} {x:Pc}:gr (rp lo hi lz x)=gr x:=by
 unfold gr
 rw[pre_eq,preL_one,X.cnt]
 simp[isG,Pc.un]
theorem one_gr {x:Pc} (hk:x.un.1=1∨x.un.1=2∨x.un.1=3) (hs:x.un.2.2.2.2.2.2=[]):gr x=0:=by
 obtain ⟨k,xl,xh,xn,xz,xr,xs⟩:=x
 simp only[Pc.un]at hk hs
 subst hs
 unfold gr
 rw[pre_eq,preL,X.cnt,X.cnt]
 rcases hk with rfl | rfl | rfl<;>simp[isG,Pc.un]
noncomputable def mtF (m:Nat) (x:PcT) (s:ByteArray) (L:Nat) (hi i0:Int) (s279:Int):Option (Int ⊕ (Int ⊕ Bool)):=
 (if ((decide ((IntKind.i64.wrap (i0+s279))<((L:Nat):Int)))&&((decide (hi<0))||(decide (s279<hi)))) then (Option.bind (rematch_Match m x s (IntKind.i64.wrap (i0+s279))) fun r342=>(Option.bind (if (r342.2.2.1 !=0) then (some (true)) else (if r342.2.1 then (if (((List.length r342.1:Nat):Int)!=1) then (some (true)) else (Option.bind (idx r342.1 0) fun x488=>(some ((!((x488.1==(IntKind.i64.wrap (i0+s279)))&&(x488.2==(IntKind.i64.wrap ((IntKind.i64.wrap (i0+s279))+1))))))))) else (some (false)))) fun (j376:Bool)=>(if j376 then (some (.inr (.inr (false)))) else (if (!r342.2.1) then (some (.inr (.inl s279))) else (some (.inl (IntKind.i64.wrap (s279+1)))))))) else (some (.inr (.inl s279))))
section
variable {x:Pc} {s:ByteArray} {ps:List Nat} (hx:x.un.1=1∨x.un.1=2∨x.un.1=3) (hxs:x.un.2.2.2.2.2.2=[]) (hb:BdL (preP x)) (hok:okP x) (ht:TextOk s ps)
include hx hxs hb hok ht
theorem rng_le:x.un.2.2.2.2.2.1.length≤BigR:=(hb x (by cases x;rw[pre_eq];simp)).1
theorem one_match {i:Int} (h0:0≤i) (h1:i≤(ps.length:Int)):Tot (fun n=>rematch_Match n x.un s i) (· =if fitB (ints ps) x.un i=true then ([(i,i+1)],true,(0,0)) else ([],false,(0,0))):=by
 have hL:(ints ps).length≤1000:=by rw[ints_len];have:=ht.len;omega
 have hLi:i≤((ints ps).length:Int):=by rw[ints_len];omega
 obtain ⟨_,_,hz,_⟩:=id hok
 have hg:Tot (fun n=>ref4_GroupsOf n x.un) (· =((0:Nat):Int)):=by have:=GroupsOf_tot hb hz;rwa [show X.cnt (preP x)=0 from one_gr hx hxs]at this
 have t:=one_try hL hx (rng_le hx hxs hb hok ht) h0 (n:=0) om h0 hLi (neg (0+1)) rF (o:=.yes [(0,i+1)] 1) (fun _=>fin_go 1 (i+1))
 have ho:okR 0 (ints ps).length 0 (if fitB (ints ps) x.un i=true then .yes [(0,i+1)] 1 else .no (0+1)):=by
  split
  ·exact ⟨ag _,ddc,by simp,fun j y hj hy=>by
    rw[List.getElem?_eq_none oss]at hy;cases hy⟩
  ·exact ⟨ag _,ddc⟩
 have hs:=search_of (G:=0) om hL hg h0 hLi ho t
 obtain ⟨o,_,a,b⟩:=found hok hb ht i i false h0 om (by rw[ints_len]at hLi;exact hLi)
 obtain ⟨v,⟨e1,e2⟩,_⟩:=Tot.and b hs
 have e:=srcO_inj (e1.symm.trans e2)
 subst e
 refine (Match_o ht (check_ok hok hb ht) om a).mono fun v hv=>?_
 rw[hv]
 cases fitB (ints ps) x.un i<;>rfl
theorem mt_lt {hi i0:Int} (h0:0≤i0):∀ (d c:Nat),(c:Int)+d+i0=(ps.length:Int)→LT (fun m=>mtF m x.un s ps.length hi i0) (c:Int) (· = .inl (runE (ints ps) x.un hi i0 d c:Int))
 | d,c,hd=>by
   have hlen:=ht.len
   have hw:IntKind.i64.wrap (i0+(c:Int))=i0+c:=i64_small om om
   have hw1:IntKind.i64.wrap (i0+(c:Int)+1)=i0+c+1:=i64_small om om
   have hw2:IntKind.i64.wrap ((c:Int)+1)=((c+1:Nat):Int):=by rw[i64_small om om];omega
   by_cases hh:hi≥0∧(c:Int)≥hi
   ·have hE:runE (ints ps) x.un hi i0 d c=c:=by cases d with | zero=>rfl | succ d=>rw[runE,if_pos hh]
    refine LT.fin (r:=.inl (c:Int)) (Tot.alln fun m=>?_) (by rw[hE])
    unfold mtF
    rw[if_neg]
    rw[dff (show ¬ (hi<0) by omega),dff (show ¬ ((c:Int)<hi) by omega)];simp
   ·cases d with
    | zero=>
      refine LT.fin (r:=.inl (c:Int)) (Tot.alln fun m=>?_) rfl
      unfold mtF
      rw[if_neg]
      rw[hw,dff (show ¬ (i0+(c:Int)<((ps.length:Nat):Int)) by omega)];simp
    | succ d=>
      have hcond:((decide ((IntKind.i64.wrap (i0+(c:Int)))<((ps.length:Nat):Int)))&&((decide (hi<0))||(decide ((c:Int)<hi))))=true:=by
       rw[hw,dtt (show i0+(c:Int)<((ps.length:Nat):Int) by omega),Bool.true_and]
       by_cases h:hi<0
       ·rw[dtt h,Bool.true_or]
       ·rw[dtt (show (c:Int)<hi by omega),Bool.or_true]
      have h1:=one_match hx hxs hb hok ht (i:=i0+c) om om
      have hstep:∀ m,mtF m x.un s ps.length hi i0 (c:Int)=(rematch_Match m x.un s (i0+c)).bind fun r342=>(Option.bind (if (r342.2.2.1 !=0) then (some (true)) else (if r342.2.1 then (if (((List.length r342.1:Nat):Int)!=1) then (some (true)) else (Option.bind (idx r342.1 0) fun x488=>(some ((!((x488.1==(i0+(c:Int)))&&(x488.2==(i0+(c:Int)+1)))))))) else (some (false)))) fun (j376:Bool)=>(if j376 then (some (.inr (.inr (false)))) else (if (!r342.2.1) then (some (.inr (.inl (c:Int)))) else (some (.inl ((c+1:Nat):Int)))))):=fun m=>by
       unfold mtF
       rw[if_pos hcond,hw,hw1,hw2]
      cases hf:fitB (ints ps) x.un (i0+c) with
      | false=>
        rw[hf]at h1
        refine LT.fin (r:=.inl (c:Int)) (eqf hstep (aa h1 fun a e=>?_)) ?_
        ·subst e;exact ac rfl
        ·rw[runE,if_neg hh,hf];rfl
      | true=>
        rw[hf]at h1
        refine LT.step (st':=((c+1:Nat):Int)) (eqf hstep (aa h1 fun a e=>?_)) ((mt_lt h0 d (c+1) om).mono fun r hr=>?_)
        ·subst e
         refine Tot.alln fun m=>?_
         simp only[if_true,idx0,Option.bind_some,bne_self_eq_false,ae,if_false,List.length_singleton,beq_self_eq_true,Bool.and_self,Bool.not_true]
         rfl
        ·rw[hr,runE,if_neg hh,hf,if_pos rfl]
end
theorem greedy_law {x:Pc} {lo hi:Int} {s:ByteArray} {i:Int} (hb:BdL (preP x)) (hlo:inK .i64 lo) (hs:s.size≤1048576):Tot (fun n=>law4_RematchGreedy n x.un lo hi s i) (· =true):=by
 have hpp:Pc.of x.un=x:=by cases x;rfl
 have hbr:∀ lz,BdL (preP (rp lo hi lz x)):=fun lz q hq=>by
  rw[pre_eq,preL_one]at hq
  rcases List.mem_cons.1 hq with rfl | hq
  ·exact ⟨ag _,show 1≤BigL by unfold BigL;omega⟩
  ·exact hb q hq
 unfold law4_RematchGreedy
 refine aa finds_tot fun a e=>?_
 subst e
 refine ab rfl ?_
 simp only[show ((x.un.1,x.un.2.1,x.un.2.2.1,x.un.2.2.2.1,x.un.2.2.2.2.1,x.un.2.2.2.2.2.1,x.un.2.2.2.2.2.2):PcT)=x.un from rfl,hpp]
 have hend:∀ {j:Nat→Option Bool} {k:Nat→Option Bool},Tot j (· =true)→Tot (fun n=>(j n).bind fun (j120:Bool)=>if j120 then some true else k n) (· =true):=fun hj=>aa hj fun a e=>by subst e;exact af rfl (ac rfl)
 cases hval:validD (bytesOf s) with
 | false=>
   refine aa (pts_bad hs hval) fun a e=>?_
   subst e
   exact hend (af rfl (ac rfl))
 | true=>
   obtain ⟨ps,hps,he⟩:=valid_iff hval
   have hse:s=strOf (enc ps):=by rw[← he,str_bytes]
   have hsz:(enc ps).length≤1048576:=by rw[hse,size_str]at hs;exact hs
   have hln:=enc_len_ge ps
   refine aa (P:=(· =(ints ps,true))) (by rw[hse];exact pts_tot hps hsz) fun a e=>?_
   subst e
   simp only[ints_len]
   by_cases hall:(ps.length:Int)≤400∧0≤i∧i≤(ps.length:Int)∧x.un.2.2.2.2.2.2=[]∧(x.un.1=1∨x.un.1=2∨x.un.1=3)
   ·obtain ⟨c1,c2,c3,c4,c5⟩:=hall
    have ht:TextOk s ps:=⟨hps,hse,om⟩
    refine aa (P:=(· =false)) (ab rfl (ab (dff om) (ab (dff om) (ab (dff om) (ab (dff (by rw[c4];simp)) ?_))))) fun a e=>?_
    ·rcases c5 with h | h | h<;>rw[h]
     ·exact ab rfl (ac rfl)
     ·exact af rfl (af rfl (ac rfl))
     ·exact af rfl (ab rfl (ac rfl))
    ·subst e
     refine ab rfl ?_
     rcases chkV_cases (rp lo hi false x) with ⟨hoka,hva⟩ | ⟨_,hva⟩
     ·rcases chkV_cases (rp lo hi true x) with ⟨hokb,hvb⟩ | ⟨_,hvb⟩
      ·refine aa (P:=(· =false)) (aa (Fault_tot (p:=rp lo hi false x) (hbr false)) fun a e=>?_) fun a e=>?_
       ·subst e
        rw[hva]
        refine ab rfl (aa (Fault_tot (p:=rp lo hi true x) (hbr true)) fun a e=>?_)
        subst e
        rw[hvb]
        exact ac rfl
       ·subst e
        refine ab rfl ?_
        obtain ⟨hokx,l0,l1,lh⟩:=rp_ok hoka (hbr false)
        have hL:(ints ps).length≤1000:=by rw[ints_len];omega
        have hLi:i≤((ints ps).length:Int):=by rw[ints_len];omega
        have hr:=rng_le c5 c4 hb hokx ht
        have hg0:gr x=0:=one_gr c5 c4
        have hgr:∀ lz,okP (rp lo hi lz x)→Tot (fun n=>ref4_GroupsOf n (rp lo hi lz x).un) (· =((0:Nat):Int)):=fun lz hk=>by
         obtain ⟨_,_,hz,_⟩:=id hk
         have:=GroupsOf_tot (hbr lz) hz
         rwa [show X.cnt (preP (rp lo hi lz x))=0 from by rw[show X.cnt (preP (rp lo hi lz x))=gr x from rp_gr,hg0]]at this
        have hd:((0:Nat):Int)+(((ints ps).length-i.toNat:Nat):Int)+i=((ints ps).length:Int):=by omega
        have hE:=runE_ge (tx:=ints ps) (x:=x.un) (hi:=hi) (i0:=i) ((ints ps).length-i.toNat) 0
        obtain ⟨n1,hn1,tg⟩:=greedy_lt hL c5 hr c2 l0 lh ((ints ps).length-i.toNat) 0 1 hd om
        obtain ⟨n2,hn2,tl'⟩:=lazy_lt hL c5 hr c2 l0 lh ((ints ps).length-i.toNat) 0 1 hd om om
        generalize hR:runE (ints ps) x.un hi i ((ints ps).length-i.toNat) 0=R at tg tl' hE
        simp only[show i+((0:Nat):Int)=i by omega]at tg tl'
        have t1:Tot (fun m=>ref4_engine_try m (ints ps,((0:Nat):Int),false,false) (rp lo hi false x).un i (neg (0+1)) rF) (PB (ints ps) false (Fin1 lo i R R n1)):=suc (eqf (fun m=>tryB_10 (n:=0) om m (ints ps) false lo hi false false [] [x] i (neg (0+1)) rF) (thenB_tot tg))
        have t2:Tot (fun m=>ref4_engine_try m (ints ps,((0:Nat):Int),false,false) (rp lo hi true x).un i (neg (0+1)) rF) (PB (ints ps) false (Fin1 lo i R lo.toNat n2)):=suc (eqf (fun m=>tryB_10 (n:=0) om m (ints ps) false lo hi false true [] [x] i (neg (0+1)) rF) (thenB_tot tl'))
        have hok1:∀ (T n:Nat),n≤20000→okR 0 (ints ps).length 0 (Fin1 lo i R T n):=fun T n hn=>by
         unfold Fin1
         split
         ·exact ⟨ag _,hn,by simp,fun j y hj hy=>by
           rw[List.getElem?_eq_none oss]at hy;cases hy⟩
         ·exact ⟨ag _,hn⟩
        have s1:=search_of (G:=0) om hL (hgr false hoka) c2 hLi (hok1 _ _ om) t1
        have s2:=search_of (G:=0) om hL (hgr true hokb) c2 hLi (hok1 _ _ om) t2
        obtain ⟨o1,_,a1,b1⟩:=found hoka (hbr false) ht i i false c2 om c3
        obtain ⟨o2,_,a2,b2⟩:=found hokb (hbr true) ht i i false c2 om c3
        have eqo:∀ {y:Pc} {o o':Fd},Tot (fun m=>ref4_Search m y.un (ints ps) i i false) (· =srcO o)→Tot (fun m=>ref4_Search m y.un (ints ps) i i false) (· =srcO o')→o=o':=fun h h'=>by
         obtain ⟨a,⟨e1,e2⟩,_⟩:=Tot.and h h'
         exact srcO_inj (e1.symm.trans e2)
        have e1:=eqo b1 s1
        have e2:=eqo b2 s2
        subst e1;subst e2
        have hfd:∀ (T n:Nat),runO (fdO i (Fin1 lo i R T n))=if lo≤(R:Int) then ([(i,i+(T:Int))],true,(0,0)) else ([],false,(0,0)):=fun T n=>by
         unfold Fin1
         split<;>rfl
        refine aa (Match_o ht (check_ok hoka (hbr false) ht) om a1) fun a e=>?_
        subst e
        refine aa (Match_o ht (check_ok hokb (hbr true) ht) om a2) fun a e=>?_
        subst e
        have hmt:=mt_lt c5 c4 hb hokx ht (hi:=hi) c2 (ps.length-i.toNat) 0 om
        rw[show ps.length-i.toNat=(ints ps).length-i.toNat by rw[ints_len],hR]at hmt
        refine aa (LT.tot (F:=fun m=>mtF m x.un s ps.length hi i) hmt) fun y hy=>?_
        subst hy
        refine Tot.contl ?_
        rw[hfd,hfd]
        have hRL:(R:Int)≤400:=by rw[ints_len]at hE;omega
        by_cases hlr:lo≤(R:Int)
        ·rw[if_pos hlr,if_pos hlr]
         refine aa (P:=(· =false)) (ab rfl (ab rfl (ab ?_ (ac rfl)))) fun a e=>?_
         ·rw[dtt (show (R:Int)≥lo from hlr)];rfl
         ·subst e
          refine ab rfl (aa (P:=(· =true)) (ab rfl ?_) fun a e=>ac e)
          rw[i64_small (x:=i+(R:Int)) om om,i64_small (x:=i+lo) om om,show ((lo.toNat:Nat):Int)=lo by omega]
          refine aa (Spans_tot (show 1≤BigR by decide)) fun a e=>?_
          rw[dtt rfl]at e
          subst e
          refine af rfl (aa (Spans_tot (show 1≤BigR by decide)) fun a e=>ac ?_)
          rw[e];exact dtt rfl
        ·rw[if_neg hlr,if_neg hlr]
         refine aa (P:=(· =false)) (ab rfl (ab rfl (ab ?_ (ac rfl)))) fun a e=>?_
         ·rw[dff (show ¬ ((R:Int)≥lo) from hlr)];rfl
         ·subst e
          exact ab rfl (aa (P:=(· =true)) (af rfl (ac rfl)) fun a e=>ac e)
      ·refine hend (aa (Fault_tot (p:=rp lo hi false x) (hbr false)) fun a e=>?_)
       subst e
       rw[hva]
       refine ab rfl (aa (Fault_tot (p:=rp lo hi true x) (hbr true)) fun a e=>?_)
       subst e
       exact ac (by simpa using hvb)
     ·refine hend (aa (Fault_tot (p:=rp lo hi false x) (hbr false)) fun a e=>?_)
      subst e
      exact af (by simpa using hva) (ac rfl)
   ·refine hend (ab rfl (Tot.ite (fun _=>ac rfl) fun h1=>Tot.ite (fun _=>ac rfl) fun h2=>Tot.ite (fun _=>ac rfl) fun h3=>Tot.ite (fun _=>ac rfl) fun h4=>?_))
    have h1:=odf h1
    have h2:=odf h2
    have h3:=odf h3
    have h4:=odf h4
    have h5:x.un.2.2.2.2.2.2=[]:=List.length_eq_zero_iff.1 om
    have h6:¬ (x.un.1=1∨x.un.1=2∨x.un.1=3):=fun h=>hall ⟨om,om,om,h5,h⟩
    refine af oss (af oss (ac oss))
end Go.Gv.M
