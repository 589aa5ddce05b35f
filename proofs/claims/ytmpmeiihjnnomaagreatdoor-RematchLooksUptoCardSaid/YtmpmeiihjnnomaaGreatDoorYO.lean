import Derived.Test.YtmpmeiihjnnomaaGreatDoorYE
import Derived.Test.YtmpmeiihjnnomaaGreatDoorGpo
/-! Own work: arguments that were read; the law of finding, as it is said. -/
set_option linter.all false
open Go.Gv.Tot renaming bindq→ac,if_→ad,ret→ae,it→al
open List renaming length_set→af
open Nat renaming le_refl→ag,zero_le→aj,le_succ→ak
open Bool renaming false_eq_true→ai
namespace Go.Gv.M
open Go Go.Gv Go.Gv.D Go.Gv.X Go.Gv.R Go.Gv.P Go.Lib
set_option maxRecDepth 100000
theorem mPc_pos (p:Pc):0<mPc p:=by cases p;rw[mPc];omega
theorem mPcL_len:∀ l:List Pc,l.length≤mPcL l
 | []=>aj _
 | p::l=>by have:=mPcL_len l;have:=mPc_pos p;rw[mPcL,List.length_cons];omega
mutual
theorem bd_m:∀ (p:Pc),mPc p≤2000000→BdL (preP p)
 | .mk k lo hi no lz rs subs,h=>by
   rw[mPc]at h
   rw[pre_eq]
   intro q hq
   rcases List.mem_cons.1 hq with rfl | hq
   ·have:=mPcL_len subs
    exact ⟨show rs.length≤BigL by unfold BigL;omega,show subs.length≤BigL by unfold BigL;omega⟩
   ·exact bd_mL subs om q hq
theorem bd_mL:∀ (l:List Pc),mPcL l≤2000000→BdL (preL l)
 | [],_=>fun q hq=>by rw[preL]at hq;cases hq
 | p::l,h=>fun q hq=>by
   rw[mPcL]at h
   rw[preL]at hq
   rcases List.mem_append.1 hq with h1 | h1
   ·exact bd_m p om q h1
   ·exact bd_mL l om q h1
end
theorem bd_said {p:PcT} (hb:sumL (fun x:Int × Int=>1+1+1) p.2.2.2.2.2.1+sumL mPc p.2.2.2.2.2.2≤1048576):BdL (preP (Pc.of p)):=by
 have h1:=sum_ones p.2.2.2.2.2.1
 have h2:=mPcL_sum p.2.2.2.2.2.2
 have h3:sumL (fun x:Int × Int=>1+1+1) p.2.2.2.2.2.1=(p.2.2.2.2.2.1.map fun _=>3).sum+1:=rfl
 have h5:sumL mPc p.2.2.2.2.2.2=(p.2.2.2.2.2.2.map mPc).sum+1:=rfl
 have h4:mPc (Pc.of p)=1+p.2.2.2.2.2.1.length+mPcL p.2.2.2.2.2.2:=by
  show mPc (.mk _ _ _ _ _ _ _)=_
  rw[mPc]
 exact bd_m _ om
end Go.Gv.M
/-! Own work: the reference's matcher, begun one step later. -/
namespace Go.Gv.M
open Go Go.Gv Go.Gv.D Go.Gv.X Go.Gv.R Go.Gv.P
set_option maxHeartbeats 4000000
def shB (tx:List Int) (wh:Bool) (a b:RB):Prop:=b.2.2.2.2.2=true∨∃ (g:Sp) (f:Bool) (n:Nat),n+1≤20000∧a=(g,f,(tx,(n:Int),wh,false))∧b=(g,f,(tx,((n+1:Nat):Int),wh,false))
def Sim (tx:List Int) (wh:Bool) (o o':Option RB):Prop:=∀ a b,o=some a→o'=some b→shB tx wh a b
section
variable {tx:List Int} {wh:Bool}
theorem Sim.none (o':Option RB):Sim tx wh none o':=fun _ _ h=>by cases h
theorem Sim.over (o:Option RB) {b:RB} (h:b.2.2.2.2.2=true):Sim tx wh o (some b):=fun _ _ _ e=>by cases e;exact .inl h
theorem Sim.fail {n:Nat} (h:n+1≤20000):Sim tx wh (some (([]:Sp),false,(tx,(n:Int),wh,false))) (some (([]:Sp),false,(tx,((n+1:Nat):Int),wh,false))):=fun _ _ e e'=>by cases e;cases e';exact .inr ⟨[],false,n,h,rfl,rfl⟩
theorem Sim.thenB {o o':Option RB} (h:Sim tx wh o o'):Sim tx wh (thenB tx o) (thenB tx o'):=fun a b e e'=>by
 cases o with
 | none=>cases e
 | some x=>
   cases o' with
   | none=>cases e'
   | some y=>
     cases e;cases e'
     rcases h x y rfl rfl with h | ⟨g,f,n,hn,rfl,rfl⟩
     ·exact .inl h
     ·exact .inr ⟨g,f,n,hn,rfl,rfl⟩
theorem Sim.bindc {α:Type} {x:Option α} {f f':α→Option RB} (h:∀ v,Sim tx wh (f v) (f' v)):Sim tx wh (x.bind f) (x.bind f'):=by
 cases x with
 | none=>exact Sim.none _
 | some v=>exact h v
theorem Sim.ite {c:Bool} {a a' b b':Option RB} (h:Sim tx wh a a') (h':Sim tx wh b b'):Sim tx wh (if c=true then a else b) (if c=true then a' else b'):=by
 cases c with
 | true=>exact h
 | false=>exact h'
/-- then what comes, if it was not over -/
theorem Sim.bnd {o o':Option RB} {f f':RB→Option RB} (h:Sim tx wh o o') (hf:∀ (g:Sp) (s:Bool) (n:Nat),n+1≤20000→Sim tx wh (f (g,s,(tx,(n:Int),wh,false))) (f' (g,s,(tx,((n+1:Nat):Int),wh,false))))
 (ho:∀ b:RB,b.2.2.2.2.2=true→∃ c,f' b=some c∧c.2.2.2.2.2=true):Sim tx wh (o.bind f) (o'.bind f'):=fun a b e e'=>by
 obtain ⟨x,h1,h2⟩:=Option.bind_eq_some_iff.1 e
 obtain ⟨y,h3,h4⟩:=Option.bind_eq_some_iff.1 e'
 rcases h x y h1 h3 with h5 | ⟨g,s,n,hn,rfl,rfl⟩
 ·obtain ⟨c,h6,h7⟩:=ho y h5
  rw[h6]at h4;cases h4
  exact .inl h7
 ·exact hf g s n hn a b h2 h4
theorem Sim.or {o o':Option RB} {f f':Eng→Option RB} (h:Sim tx wh o o') (hf:∀ n:Nat,n+1≤20000→Sim tx wh (f (tx,(n:Int),wh,false)) (f' (tx,((n+1:Nat):Int),wh,false))):Sim tx wh (orB tx o f) (orB tx o' f'):=by
 refine Sim.bnd h (fun g s n hn=>?_) fun b hb=>?_
 ·cases s with
  | true=>exact fun a b e e'=>by cases e;cases e';exact .inr ⟨g,true,n,hn,rfl,rfl⟩
  | false=>exact (hf n hn).thenB
 ·obtain ⟨b1,b2,b3,b4,b5,b6⟩:=b
  simp only at hb
  subst hb
  cases b2<;>exact ⟨_,rfl,rfl⟩
/-- rests that do so -/
def RS (tx:List Int) (wh:Bool) (M:Nat) (r r':List Rs):Prop:=∀ m,m≤M→∀ (n:Nat) (i:Int) (g:Sp),n+1≤20000→Sim tx wh (ref4_engine_goOn m (tx,(n:Int),wh,false) r i g) (ref4_engine_goOn m (tx,((n+1:Nat):Int),wh,false) r' i g)
theorem RS.le {M M':Nat} {r r':List Rs} (h:RS tx wh M r r') (hm:M'≤M):RS tx wh M' r r':=fun m h1=>h m (Nat.le_trans h1 hm)
def TS (tx:List Int) (wh:Bool) (G M:Nat):Prop:=∀ (n:Nat) (x:Pc) (i:Int) (g:Sp) (r r':List Rs),n+1≤20000→okT G x→RS tx wh M r r'→Sim tx wh (ref4_engine_try M (tx,(n:Int),wh,false) x.un i g r) (ref4_engine_try M (tx,((n+1:Nat):Int),wh,false) x.un i g r')
def US (tx:List Int) (wh:Bool) (G M:Nat):Prop:=∀ (n:Nat) (k lo hi:Int) (no lz:Bool) (rs:List (Int × Int)) (x:Pc) (t:List Pc) (c i:Int) (g:Sp) (r r':List Rs),n+1≤20000→okT G x→RS tx wh M r r'→Sim tx wh (ref4_engine_rounds M (tx,(n:Int),wh,false) (k,lo,hi,no,lz,rs,x::t) c i g r) (ref4_engine_rounds M (tx,((n+1:Nat):Int),wh,false) (k,lo,hi,no,lz,rs,x::t) c i g r')
def AS (tx:List Int) (wh:Bool) (G M:Nat):Prop:=∀ (n:Nat) (k lo hi:Int) (no lz:Bool) (rs:List (Int × Int)) (x:Pc) (t:List Pc) (c i:Int) (g:Sp) (r r':List Rs),n+1≤20000→okT G x→RS tx wh M r r'→Sim tx wh (ref4_engine_again M (tx,(n:Int),wh,false) (k,lo,hi,no,lz,rs,x::t) c i g r) (ref4_engine_again M (tx,((n+1:Nat):Int),wh,false) (k,lo,hi,no,lz,rs,x::t) c i g r')
theorem goOn0 (e:Eng) (r:List Rs) (i:Int) (g:Sp):ref4_engine_goOn 0 e r i g=none:=by rw[ref4_engine_goOn.eq_1]
theorem RS.row {G M:Nat} (H:∀ m,m<M→TS tx wh G m) {r r':List Rs} (hr:RS tx wh M r r'):∀ (l:List Pc),(∀ x∈l,okT G x)→∀ (pc:PcT) (st ro:Int),RS tx wh M [Rs.of (1,l,pc,st,ro,r)] [Rs.of (1,l,pc,st,ro,r')]
 | [],_,pc,st,ro,0,_,n,i,g,hn=>by rw[goOn0];exact Sim.none _
 | [],_,pc,st,ro,m+1,hm,n,i,g,hn=>by rw[goB_nil,goB_nil];exact (hr m om n i g hn).thenB
 | x::t,hl,pc,st,ro,0,_,n,i,g,hn=>by rw[goOn0];exact Sim.none _
 | x::t,hl,pc,st,ro,m+1,hm,n,i,g,hn=>by
   rw[goB_cons,goB_cons]
   exact (H m om n x i g _ _ hn (hl x (by simp)) ((RS.row H hr t (fun y hy=>hl y (List.mem_cons_of_mem _ hy)) Z7 0 0).le om)).thenB
theorem RS.close {M:Nat} {r r':List Rs} (hr:RS tx wh M r r') (pa:List Pc) (pc:PcT) (st ro:Int):RS tx wh M [Rs.of (2,pa,pc,st,ro,r)] [Rs.of (2,pa,pc,st,ro,r')]:=fun m hm n i g hn=>by
 cases m with
 | zero=>rw[goOn0];exact Sim.none _
 | succ m=>rw[goB_2,goB_2];exact Sim.bindc fun v=>(hr m om n i v hn).thenB
theorem RS.rep {G M:Nat} (H:∀ m,m<M→US tx wh G m) {r r':List Rs} (hr:RS tx wh M r r') {k lo hi:Int} {no lz:Bool} {rs:List (Int × Int)} {x:Pc} {t:List Pc} (hx:okT G x) (pa:List Pc) (st ro:Int):RS tx wh M [Rs.of (3,pa,(k,lo,hi,no,lz,rs,x::t),st,ro,r)] [Rs.of (3,pa,(k,lo,hi,no,lz,rs,x::t),st,ro,r')]:=fun m hm n i g hn=>by
 cases m with
 | zero=>rw[goOn0];exact Sim.none _
 | succ m=>
   rw[goB_3,goB_3]
   exact Sim.ite (Sim.fail hn) (H m om n k lo hi no lz rs x t ro i g r r' hn hx (hr.le om)).thenB
theorem RS.fin (M:Nat) (pa:List Pc) (pc:PcT) (st ro ro':Int) (r r':List Rs):RS tx false M [Rs.of (0,pa,pc,st,ro,r)] [Rs.of (0,pa,pc,st,ro',r')]:=fun m hm n i g hn=>by
 cases m with
 | zero=>rw[goOn0];exact Sim.none _
 | succ m=>
   rw[goB_0,goB_0,if_neg (by simp),if_neg (by simp)]
   exact Sim.bindc fun v a b e e'=>by cases e;cases e';exact .inr ⟨v,true,n,hn,rfl,rfl⟩
theorem AS.step {G M:Nat} (hT:∀ m,m≤M→TS tx wh G m) (hU:∀ m,m<M→US tx wh G m):AS tx wh G (M+1):=fun n k lo hi no lz rs x t c i g r r' hn hx hr=>by
 rw[againB,againB]
 exact Sim.ite (Sim.fail hn) (hT M (ag _) n x i g _ _ hn hx (RS.rep hU (hr.le (ak _)) hx [] i _)).thenB
theorem US.step {G M:Nat} (hA:AS tx wh G M):US tx wh G (M+1):=fun n k lo hi no lz rs x t c i g r r' hn hx hr=>by
 rw[repB,repB]
 have hr':=hr.le (ak M)
 have h1:=fun (q:Nat) (hq:q+1≤20000)=>hA q k lo hi no lz rs x t c i g r r' hq hx hr'
 have h2:=fun (q:Nat) (hq:q+1≤20000)=>hr M (ak _) q i g hq
 exact Sim.ite (h1 n hn).thenB (Sim.ite (Sim.or (h2 n hn) h1) (Sim.or (h1 n hn) h2))
/-! one of several -/
def LSim (tx:List Int) (wh:Bool) (y y':Option (Eng ⊕ ((Sp × Bool × Eng) ⊕ RB))):Prop:=∀ a b,y=some a→y'=some b→(∃ c,b= .inr (.inr c)∧c.2.2.2.2.2=true)∨(∃ n:Nat,n+1≤20000∧a= .inl (tx,(n:Int),wh,false)∧b= .inl (tx,((n+1:Nat):Int),wh,false))∨∃ c c',a= .inr (.inr c)∧b= .inr (.inr c')∧shB tx wh c c'
theorem alt_sim {G M:Nat} (hT:TS tx wh G M) {subs:List Pc} (hs:∀ x∈subs,okT G x) (i:Int) (g:Sp) {r r':List Rs} (hr:RS tx wh M r r'):∀ (k:Nat) (j:Int) (n:Nat),n+1≤20000→LSim tx wh (loopN (altB tx M subs i g r) k (j,(tx,(n:Int),wh,false))) (loopN (altB tx M subs i g r') k (j,(tx,((n+1:Nat):Int),wh,false)))
 | 0,j,n,hn=>fun a b e=>by cases e
 | k+1,j,n,hn=>fun a b e e'=>by
   by_cases hc:j<((subs.length:Nat):Int)
   ·cases hx:idx subs j with
    | none=>
      rw[loopN_none (by unfold altB;simp only[dtt hc,if_true,hx];rfl)]at e
      cases e
    | some x=>
      have hxs:x∈subs:=by
       unfold idx at hx
       split at hx
       ·exact List.mem_of_getElem? hx
       ·cases hx
      have h0:=hT n x i g r r' hn (hs x hxs) hr
      have ea:∀ (q:Int) (rr:List Rs),altB tx M subs i g rr (j,(tx,q,wh,false))=(ref4_engine_try M (tx,q,wh,false) (Pc.un x) i g rr).bind fun r149=>(Option.bind (if r149.2.1 then (some (true)) else (some (r149.2.2.2.2.2))) fun (j160:Bool)=>(if j160 then (some (.inr (.inr (.inr ((r149.1,r149.2.1,(tx,r149.2.2.2.1,r149.2.2.2.2.1,r149.2.2.2.2.2))))))) else (some (.inl ((IntKind.i64.wrap (j+1)),(tx,r149.2.2.2.1,r149.2.2.2.2.1,r149.2.2.2.2.2)))))):=fun q rr=>by
       unfold altB;simp only[dtt hc,if_true,hx,Option.bind_some]
      cases h1:ref4_engine_try M (tx,(n:Int),wh,false) (Pc.un x) i g r with
      | none=>rw[loopN_none (by rw[ea,h1];rfl)]at e;cases e
      | some u=>
        cases h2:ref4_engine_try M (tx,((n+1:Nat):Int),wh,false) (Pc.un x) i g r' with
        | none=>rw[loopN_none (by rw[ea,h2];rfl)]at e';cases e'
        | some v=>
          rcases h0 u v h1 h2 with h3 | ⟨gg,f,q,hq,rfl,rfl⟩
          ·obtain ⟨b1,b2,b3,b4,b5,b6⟩:=v
           simp only at h3
           subst h3
           rw[loopN_inr (r:=.inr (.inr (b1,b2,(tx,b4,b5,true)))) (by rw[ea,h2];cases b2<;>rfl)]at e'
           cases e'
           exact .inl ⟨_,rfl,rfl⟩
          ·cases f with
           | true=>
             rw[loopN_inr (r:=.inr (.inr (gg,true,(tx,(q:Int),wh,false)))) (by rw[ea,h1];rfl)]at e
             rw[loopN_inr (r:=.inr (.inr (gg,true,(tx,((q+1:Nat):Int),wh,false)))) (by rw[ea,h2];rfl)]at e'
             cases e;cases e'
             exact .inr (.inr ⟨_,_,rfl,rfl,.inr ⟨gg,true,q,hq,rfl,rfl⟩⟩)
           | false=>
             rw[loopN_inl (st':=(IntKind.i64.wrap (j+1),(tx,(q:Int),wh,false))) (by rw[ea,h1];rfl)]at e
             rw[loopN_inl (st':=(IntKind.i64.wrap (j+1),(tx,((q+1:Nat):Int),wh,false))) (by rw[ea,h2];rfl)]at e'
             exact alt_sim hT hs i g hr k _ q hq a b e e'
   ·have ea:∀ (q:Int) (rr:List Rs),altB tx M subs i g rr (j,(tx,q,wh,false))=some (.inr (.inl (tx,q,wh,false))):=fun q rr=>by
     unfold altB;simp only[dff hc,ai,if_false]
    rw[loopN_inr (ea _ _)]at e e'
    cases e;cases e'
    exact .inr (.inl ⟨n,hn,rfl,rfl⟩)
theorem fits_any (m:Nat) (tx:List Int) (a b:Int) (wh:Bool) (x:PcT) (i:Int):ref4_engine_fitsOne m (tx,a,wh,false) x i=ref4_engine_fitsOne m (tx,b,wh,false) x i:=rfl
theorem TS.step {G M:Nat} (hT:∀ m,m≤M→TS tx false G m) (hU:∀ m,m≤M→US tx false G m):TS tx false G (M+1):=fun n p i g r r' hn hp hr=>by
 have hr':=hr.le (ak M)
 obtain ⟨k,lo,hi,no,lz,rs,subs⟩:=p
 have hk:=okT_self hp
 have hs:=okT_sub hp
 have h1k:=hk.kind
 simp only[Pc.un]at h1k
 show Sim tx false (ref4_engine_try (M+1) (tx,(n:Int),false,false) (k,lo,hi,no,lz,rs,subs) i g r) (ref4_engine_try (M+1) (tx,((n+1:Nat):Int),false,false) (k,lo,hi,no,lz,rs,subs) i g r')
 by_cases hn2:n+1=20000
 ·rw[hn2]
  rw[show (((20000:Nat):Int))=20000 from rfl,tryB_lim]
  exact Sim.over _ rfl
 ·have hn3:n<20000:=by omega
  have hn4:n+1<20000:=by omega
  have hq:=fun (q:Nat) (i:Int) (g:Sp) (hq:q+1≤20000)=>(hr M (ak M) q i g hq).thenB
  obtain h | h | h | h | h | h | h | h | h | h | h | h:k=1∨k=2∨k=3∨k=4∨k=5∨k=6∨k=7∨k=8∨k=9∨k=10∨k=11∨k=12:=by omega
  ·rw[tryB_s hn3 M tx false lo hi no lz rs subs i g r (.inl h),tryB_s hn4 M tx false lo hi no lz rs subs i g r' (.inl h),fits_any M tx _ ((n+1:Nat):Int)]
   exact Sim.bindc fun v=>Sim.ite (Sim.fail hn4) (hq (n+1) _ g hn4)
  ·rw[tryB_s hn3 M tx false lo hi no lz rs subs i g r (.inr (.inl h)),tryB_s hn4 M tx false lo hi no lz rs subs i g r' (.inr (.inl h)),fits_any M tx _ ((n+1:Nat):Int)]
   exact Sim.bindc fun v=>Sim.ite (Sim.fail hn4) (hq (n+1) _ g hn4)
  ·rw[tryB_s hn3 M tx false lo hi no lz rs subs i g r (.inr (.inr h)),tryB_s hn4 M tx false lo hi no lz rs subs i g r' (.inr (.inr h)),fits_any M tx _ ((n+1:Nat):Int)]
   exact Sim.bindc fun v=>Sim.ite (Sim.fail hn4) (hq (n+1) _ g hn4)
  ·subst h;rw[tryB_4 hn3,tryB_4 hn4];exact Sim.ite (hq (n+1) _ g hn4) (Sim.fail hn4)
  ·subst h;rw[tryB_5 hn3,tryB_5 hn4];exact Sim.ite (hq (n+1) _ g hn4) (Sim.fail hn4)
  ·subst h;rw[tryB_6 hn3,tryB_6 hn4];exact Sim.bindc fun v=>Sim.bindc fun u=>Sim.ite (hq (n+1) _ g hn4) (Sim.fail hn4)
  ·subst h
   cases subs with
   | nil=>exact absurd rfl (hk.g7 rfl).2.2
   | cons x t=>
     rw[tryB_7 hn3,tryB_7 hn4]
     simp only[idx0,Option.bind_some]
     exact Sim.ite (hT M (ag _) (n+1) x i g r r' hn4 (hs x (by simp)) hr').thenB (hT M (ag _) (n+1) x i g _ _ hn4 (hs x (by simp)) (RS.close hr' [] _ i 0)).thenB
  ·subst h;rw[tryB_8 hn3,tryB_8 hn4]
   exact (RS.row (fun m hm=>hT m (Nat.le_of_lt hm)) hr' subs hs Z7 0 0 M (ag _) (n+1) i g hn4).thenB
  ·subst h;rw[tryB_9 hn3,tryB_9 hn4]
   have hl:=alt_sim (hT M (ag _)) hs i g hr' M 0 (n+1) hn4
   intro a b e e'
   cases h1:loopN (altB tx M subs i g r) M (0,(tx,((n+1:Nat):Int),false,false)) with
   | none=>rw[h1]at e;cases e
   | some u=>
     cases h2:loopN (altB tx M subs i g r') M (0,(tx,((n+1+1:Nat):Int),false,false)) with
     | none=>rw[h2]at e';cases e'
     | some v=>
       rw[h1]at e
       rw[h2]at e'
       rcases hl u v h1 h2 with ⟨c,rfl,hc⟩ | ⟨q,hq,rfl,rfl⟩ | ⟨c,c',rfl,rfl,hs⟩
       ·cases (show some c=some b from e');exact .inl hc
       ·exact Sim.fail hq a b e e'
       ·cases (show some c=some a from e);cases (show some c'=some b from e');exact hs
  ·subst h
   cases subs with
   | nil=>exact absurd rfl (hk.g10 (.inl rfl))
   | cons x t=>
     rw[tryB_10 hn3,tryB_10 hn4]
     exact (hU M (ag _) (n+1) 10 lo hi no lz rs x t 0 i g r r' hn4 (hs x (by simp)) hr').thenB
  ·subst h
   cases subs with
   | nil=>exact absurd rfl (hk.g10 (.inr rfl))
   | cons x t=>
     rw[tryB_11 hn3,tryB_11 hn4]
     simp only[idx0,Option.bind_some]
     refine Sim.bnd (hT M (ag _) (n+1) x i g _ _ hn4 (hs x (by simp)) (RS.fin M _ _ _ _ _ _ _)) (fun gg s q hq'=>?_) fun b hb=>?_
     ·simp only[ai,if_false]
      exact Sim.ite (Sim.fail hq') (Sim.bindc fun v=>hq q i v hq')
     ·obtain ⟨b1,b2,b3,b4,b5,b6⟩:=b
      simp only at hb
      subst hb
      exact ⟨_,rfl,rfl⟩
  ·subst h;rw[tryB_12 hn3,tryB_12 hn4]
   exact Sim.bindc fun a=>Sim.bindc fun j=>Sim.ite (Sim.fail hn4) (hq (n+1) _ g hn4)
theorem all_S (G:Nat):∀ M,(∀ m,m≤M→TS tx false G m)∧(∀ m,m≤M→US tx false G m)∧(∀ m,m≤M→AS tx false G m)
 | 0=>by
   refine ⟨fun m hm=>?_,fun m hm=>?_,fun m hm=>?_⟩<;>(have:m=0:=by omega)<;>subst this
   ·exact fun n x i g r r' hn hx hr=>by rw[ref4_engine_try.eq_1];exact Sim.none _
   ·exact fun n k lo hi no lz rs x t c i g r r' hn hx hr=>by rw[ref4_engine_rounds.eq_1];exact Sim.none _
   ·exact fun n k lo hi no lz rs x t c i g r r' hn hx hr=>by rw[ref4_engine_again.eq_1];exact Sim.none _
 | M+1=>by
   obtain ⟨hT,hU,hA⟩:=all_S G M
   refine ⟨fun m hm=>?_,fun m hm=>?_,fun m hm=>?_⟩
   ·rcases Nat.lt_or_ge m (M+1) with h | h
    ·exact hT m om
    ·have:m=M+1:=by omega
     subst this;exact TS.step hT hU
   ·rcases Nat.lt_or_ge m (M+1) with h | h
    ·exact hU m om
    ·have:m=M+1:=by omega
     subst this;exact US.step (hA M (ag _))
   ·rcases Nat.lt_or_ge m (M+1) with h | h
    ·exact hA m om
    ·have:m=M+1:=by omega
     subst this;exact AS.step hT fun m h=>hU m om
end
end Go.Gv.M
/-! Own work: the law of looking ahead. -/
namespace Go.Gv.M
open Go Go.Gv Go.Gv.D Go.Gv.X Go.Gv.R Go.Gv.P Go.Lib
set_option maxHeartbeats 4000000
def fdO (i:Int):Res→Fd
 | .over=>.over
 | .no _=>.no
 | .yes g _=>.yes (g.set 0 (i,(g.getD 0 (0,0)).2))
theorem srcO_inj {a b:Fd} (h:srcO a=srcO b):a=b:=by
 cases a<;>cases b<;>simp[srcO]at h ⊢
 exact h
theorem search_of {tx:List Int} {G:Nat} (hG:G≤1000) (hL:tx.length≤1000) {p:PcT} (hg:Tot (fun n=>ref4_GroupsOf n p) (· =(G:Int))) {i:Int} (h0:0≤i) (h1:i≤(tx.length:Int)) {o:Res} (ho:okR G tx.length 0 o)
 (ht:Tot (fun m=>ref4_engine_try m (tx,((0:Nat):Int),false,false) p i (neg (G+1)) rF) (PB tx false o)):Tot (fun m=>ref4_Search m p tx i i false) (· =srcO (fdO i o)):=by
 have hB:Tot (fun m=>(loopN (gB m p) m (([]:List (Int × Int)),0)).bind fun j=>ref4_engine_try m (tx,((0:Nat):Int),false,false) p i j rF) (PB tx false o):=ac (LT.tot (gB_lt hG hg (G+1) 0 om)) fun a e=>by subst e;exact ht
 have eb:∀ m,srF m p i (i,(tx,((0:Nat):Int),false,false))=((loopN (gB m p) m (([]:List (Int × Int)),0)).bind fun j=>ref4_engine_try m (tx,((0:Nat):Int),false,false) p i j rF).bind fun r155=>(if r155.2.1 then (Option.bind (idx r155.1 0) fun x173=>(Option.bind (upd r155.1 0 (i,x173.2)) fun l175=>(some (.inr (.inr ((l175,true,false))))))) else (some (.inl ((IntKind.i64.wrap (i+1)),(tx,r155.2.2.2.1,r155.2.2.2.2.1,r155.2.2.2.2.2))))):=fun m=>by
  unfold srF
  simp only[dtt (Int.le_refl i),if_true,Bool.not_false,Option.bind_some]
  cases loopN (gB m p) m (([]:List (Int × Int)),0) with
  | none=>rfl
  | some j=>rfl
 rw[i64_small (x:=i+1) om om]at eb
 have hexit:∀ (t:Int) (ov:Bool) (m:Nat),srF m p i (i+1,(tx,t,false,ov))=some (.inr (.inl (tx,t,false,ov))):=fun t ov m=>by
  unfold srF
  simp only[dff (show ¬ (i+1≤i) by omega),ai,if_false,Option.bind_some]
 have hl:LT (fun m=>srF m p i) (i,(tx,0,false,false)) (SrQ tx false (fdO i o)):=by
  cases o with
  | over=>
    obtain ⟨b,⟨hb1,t,hb2⟩,N,hN⟩:=hB
    obtain ⟨b1,b2,b3⟩:=b
    simp only at hb1 hb2
    subst hb1;subst hb2
    exact LT.step (st':=(i+1,(tx,t,false,true))) (eqf eb (tb hN fun m=>rfl)) (LT.fin (r:=.inl (tx,t,false,true)) (Tot.alln fun m=>hexit t true m) ⟨t,rfl⟩)
  | no n2=>
    refine LT.step (st':=(i+1,(tx,(n2:Int),false,false))) (eqf eb (ac hB fun b hb=>?_)) (LT.fin (r:=.inl (tx,(n2:Int),false,false)) (Tot.alln fun m=>hexit _ false m) ⟨_,rfl⟩)
    obtain ⟨b1,b2,b3⟩:=b
    cases hb;exact ae rfl
  | yes g n2=>
    have hlg:0<g.length:=by have:=ho.2.2.1;omega
    refine LT.fin (r:=.inr (g.set 0 (i,(g.getD 0 (0,0)).2),true,false)) (eqf eb (ac hB fun b hb=>?_)) (by exact rfl)
    cases hb
    refine Tot.alln fun m=>?_
    have hi:idx g 0=some (g.getD 0 (0,0)):=by rw[show (0:Int)=((0:Nat):Int) from rfl,idx_nat,List.getElem?_eq_getElem hlg];simp[List.getD,List.getElem?_eq_getElem hlg]
    have hu:upd g 0 (i,(g.getD 0 (0,0)).2)=some (g.set 0 (i,(g.getD 0 (0,0)).2)):=upd_nat hlg _
    simp only[if_true,hi,Option.bind_some,hu]
 refine eqf (fun m=>search_eq m p tx i i false) (ac (LT.tot hl) fun y hy=>?_)
 cases o with
 | over=>obtain ⟨t,rfl⟩:=hy;exact ae rfl
 | no n=>obtain ⟨t,rfl⟩:=hy;exact ae rfl
 | yes g n=>cases hy;exact ae rfl
theorem check_ok {p:Pc} {s:ByteArray} {ps:List Nat} (hok:okP p) (hb:BdL (preP p)) (ht:TextOk s ps) (i:Int):Tot (fun n=>rematch_check n p.un s i) (· =if i<0∨i>(ps.length:Int) then (4, -3) else (0,0)):=by
 have he:=ht.enc_le
 rcases check_cases hb (s:=s) (by rw[ht.str,size_str];omega) with ⟨w,hw,h1,h2⟩ | ⟨_,ps',ht',_,h1⟩
 ·exfalso
  have h3:Tot (fun n=>law4_searchFault n p.un s) (· =((0,0),ints ps)):=by
   unfold law4_searchFault
   refine ac (Fault_tot hb) fun a e=>?_
   subst e
   rw[chkV_ok hok]
   refine ad rfl (ac (P:=(· =(ints ps,true))) (by rw[ht.str];exact pts_tot ht.scal om) fun a e=>?_)
   subst e
   have:=ht.len
   refine ad rfl (Tot.some_bind ?_)
   rw[ints_len]
   exact ad (dff om) (ae rfl)
  obtain ⟨a,⟨e1,e2⟩,_⟩:=Tot.and h2 h3
  rw[e1]at e2
  exact hw (by rw[congrArg (fun x=>x.1.1) e2])
 ·have:ps=ps':=by
   refine enc_inj ht.scal ht'.scal ?_
   have:=ht.str.symm.trans ht'.str
   have:=congrArg bytesOf this
   rwa [bytes_str,bytes_str]at this
  subst this
  exact h1 i
/-- looking ahead at what a try gives -/
def laO (i:Int):Res→Res
 | .yes g n=>.yes (g.set 0 (0,i)) n
 | o=>o
def lbO (G:Nat) (i:Int):Res→Res
 | .yes _ n=>.no n
 | .no n=>.yes ((neg (G+1)).set 0 (0,i)) n
 | .over=>.over
abbrev lk (no:Bool) (p:Pc):Pc:=.mk 11 0 0 no false [] [p]
theorem lk_bd {no:Bool} {p:Pc} (h:BdL (preP p)):BdL (preP (lk no p)):=fun q hq=>by
 rw[pre_eq,preL_one]at hq
 rcases List.mem_cons.1 hq with rfl | hq
 ·exact ⟨aj _,show 1≤BigL by unfold BigL;omega⟩
 ·exact h q hq
theorem lk_gr (no:Bool) (p:Pc):gr (lk no p)=gr p:=by
 unfold gr
 rw[pre_eq,preL_one,X.cnt]
 simp[isG,Pc.un]
theorem neg_len (k:Nat):(neg k).length=k:=by simp
theorem look_try {tx:List Int} {G:Nat} (hG:G≤1000) {x:Pc} {i:Int} {o:Res} (ho:okR G tx.length 1 o) (ht:Tot (fun m=>ref4_engine_try m (tx,((1:Nat):Int),false,false) x.un i (neg (G+1)) r0) (PB tx false o)) (no:Bool):
 okR G tx.length 0 (if no then lbO G i o else laO i o)∧Tot (fun m=>ref4_engine_try m (tx,((0:Nat):Int),false,false) (lk no x).un i (neg (G+1)) rF) (PB tx false (if no then lbO G i o else laO i o)):=by
 have eb:∀ m,ref4_engine_try (m+1) (tx,((0:Nat):Int),false,false) (lk no x).un i (neg (G+1)) rF=_:=fun m=>tryB_11 (n:=0) om m tx false 0 0 no false [] [x] i (neg (G+1)) rF
 simp only[idx0,Option.bind_some]at eb
 have hfin:∀ (n:Nat) (g:Sp),g.length=G+1→Tot (fun m=>ref4_engine_goOn m (tx,(n:Int),false,false) rF i g) (PB tx false (.yes (g.set 0 (0,i)) n)):=fun n g hg=>by
  refine suc (Tot.mono (Tot.alln fun m=>?_) fun a e=>e)
  rw[goB_0,if_neg (by simp),show ref4_spans_with m g 0 0 i=ref4_spans_with m g ((0:Nat):Int) 0 i from rfl,with_eq m (by rw[hg];omega) (by rw[hg];omega)]
  rfl
 have hng:(neg (G+1))[0]? =some (-1, -1):=by simp[neg]
 have hn0:idx (neg (G+1)) 0=some (-1, -1):=by rw[show (0:Int)=((0:Nat):Int) from rfl,idx_nat,hng]
 cases o with
 | over=>
   refine ⟨by cases no<;>trivial,suc (eqf eb (ac ht fun a ha=>?_))⟩
   obtain ⟨a1,a2,a3⟩:=a
   obtain ⟨ha,t',ha'⟩:=ha
   simp only at ha ha'
   subst ha;subst ha'
   cases no<;>exact ae ⟨rfl,t',rfl⟩
 | no n=>
   have h1:=ho.2
   cases no with
   | false=>
     refine ⟨⟨aj _,h1⟩,suc (eqf eb (ac ht fun a ha=>?_))⟩
     obtain ⟨a1,a2,a3⟩:=a
     cases ha;exact ae rfl
   | true=>
     refine ⟨⟨aj _,h1,(neg_wf G tx.length).set0 _⟩,suc (eqf eb (ac ht fun a ha=>?_))⟩
     obtain ⟨a1,a2,a3⟩:=a
     cases ha
     exact thenB_tot (hfin n _ (neg_len _))
 | yes g n=>
   have h1:=ho.2.1
   have hW:=ho.2.2
   cases no with
   | true=>
     refine ⟨⟨aj _,h1⟩,suc (eqf eb (ac ht fun a ha=>?_))⟩
     cases ha;exact ae rfl
   | false=>
     refine ⟨⟨aj _,h1,hW.set0 _⟩,suc (eqf eb (ac ht fun a ha=>?_))⟩
     cases ha
     refine eqf (fun m=>?_) (thenB_tot (o:=.yes (g.set 0 (0,i)) n) (F:=fun m=>ref4_engine_goOn m (tx,(n:Int),false,false) rF i (g.set 0 (-1, -1))) ?_)
     ·have hw:=with_eq m (g:=g) (j:=0) (by rw[hW.1];omega) (by rw[hW.1];omega) (-1) (-1)
      rw[show ((0:Nat):Int)=0 from rfl]at hw
      simp only[ai,if_false,if_true,show (true==false)=false from rfl,Bool.not_false,hn0,Option.bind_some,hw]
     ·have:=hfin n (g.set 0 (-1, -1)) (by rw[af];exact hW.1)
      rwa [List.set_set]at this
end Go.Gv.M
/-! Own work: the law of looking ahead (2). -/
namespace Go.Gv.M
open Go Go.Gv Go.Gv.D Go.Gv.X Go.Gv.R Go.Gv.P Go.Lib
set_option maxHeartbeats 4000000
def ftL (a:Sp) (s727:Int):Option (Int ⊕ (Unit ⊕ Bool)):=(if (decide (s727<((List.length a:Nat):Int))) then (Option.bind (idx a s727) fun x734=>(if (!((x734.1==(-1))&&(x734.2==(-1)))) then (some (.inr (.inr (false)))) else (some (.inl (IntKind.i64.wrap (s727+1)))))) else (some (.inr (.inl ()))))
theorem ft_lt {a:Sp} (hl:a.length≤1000) (h:∀ j:Nat,1≤j→j<a.length→a[j]? =some (-1, -1)):∀ (d j:Nat),j+d=a.length→1≤j→LT (fun _=>ftL a) (j:Int) (· = .inl ())
 | 0,j,hj,h1=>by
   refine LT.fin (r:=.inl ()) (Tot.alln fun m=>?_) rfl
   unfold ftL
   rw[if_neg oss]
 | d+1,j,hj,h1=>by
   have ih:=ft_lt hl h d (j+1) om om
   refine LT.step (Tot.alln fun m=>?_) ih
   unfold ftL
   simp only[dtt (show (j:Int)<((a.length:Nat):Int) by omega),if_true,idx_nat,h j h1 om,Option.bind_some]
   rw[if_neg ddc,i64_small (x:=(j:Int)+1) om om]
   rfl
theorem set_drop {α:Type} (l:List α) (x:α):(l.set 0 x).drop 1=l.drop 1:=by cases l<;>rfl
theorem getD0 {g:Sp} {a b:Int} (h:0<g.length):(g.set 0 (a,b)).getD 0 (0,0)=(a,b):=by simp[List.getD,List.getElem?_set,h]
theorem looks_law {p:Pc} {s:ByteArray} (i:Int) (hb:BdL (preP p)) (hs:s.size≤1048576):Tot (fun n=>law4_RematchLooks n p.un s i) (· =true):=by
 have hpa:∀ no,Tot (fun n=>ref4_PieceFault n (lk no p).un) (· =chkV (lk no p)):=fun no=>Fault_tot (lk_bd hb)
 have hpp:Pc.of p.un=p:=by cases p;rfl
 unfold law4_RematchLooks
 refine ac finds_tot fun a e=>?_
 subst e
 refine ad rfl ?_
 simp only[show ((p.un.1,p.un.2.1,p.un.2.2.1,p.un.2.2.2.1,p.un.2.2.2.2.1,p.un.2.2.2.2.2.1,p.un.2.2.2.2.2.2):PcT)=p.un from rfl,hpp]
 have hend:∀ {j:Nat→Option Bool} {k:Nat→Option Bool},Tot j (· =true)→Tot (fun n=>(j n).bind fun (j120:Bool)=>if j120 then some true else k n) (· =true):=fun hj=>ac hj fun a e=>by subst e;exact al rfl (ae rfl)
 rcases check_cases (lk_bd (no:=false) hb) hs with ⟨w,hw,hc,hf⟩ | ⟨hoka,ps,ht,hf,hca⟩
 ·refine ac hf fun a e=>?_
  subst e
  exact hend (al (by simpa using hw) (ae rfl))
 ·refine ac hf fun a e=>?_
  subst e
  rw[ints_len]
  rcases chkV_cases (lk true p) with ⟨hokb,hvb⟩ | ⟨_,hvb⟩
  ·rcases chkV_cases p with ⟨hokp,hvp⟩ | ⟨_,hvp⟩
   ·by_cases hi:i<0∨i>(ps.length:Int)
    ·refine hend (ad rfl (ac (hpa true) fun a e=>?_))
     subst e
     rw[hvb]
     refine ad rfl (ac (Fault_tot hb) fun a e=>?_)
     subst e
     rw[hvp]
     refine ad rfl ?_
     by_cases h:i<0
     ·exact al (dtt h) (ae rfl)
     ·exact ad (dff h) (ae (dtt om))
    ·refine ac (P:=(· =false)) (ad rfl (ac (hpa true) fun a e=>?_)) fun a e=>?_
     ·subst e
      rw[hvb]
      refine ad rfl (ac (Fault_tot hb) fun a e=>?_)
      subst e
      rw[hvp]
      exact ad rfl (ad (dff (fun h=>hi (.inl h))) (ae (dff (fun h=>hi (.inr h)))))
     ·subst e
      refine ad rfl ?_
      obtain ⟨hT,hG⟩:=ok_T hokp hb
      have hL:(ints ps).length≤1000:=by rw[ints_len];have:=ht.len;omega
      obtain ⟨_,_,hz,_⟩:=id hokp
      obtain ⟨_,_,hza,_⟩:=id hoka
      obtain ⟨_,_,hzb,_⟩:=id hokb
      have hLi:i≤((ints ps).length:Int):=by rw[ints_len];omega
      have h0i:0≤i:=by omega
      obtain ⟨q0,c0,_,t0⟩:=try_ok ht.lets hL om 20001 0 om om false (Qf i (ints ps).length false) p i (neg (gr p+1)) (neg (gr p+1)) (fun m k st=>rematch_search_from_1 m k i (ints ps,st.2.1,st.2.2) false) rF hT h0i hLi (E1.refl _) (neg_wf _ _) (fin_rel om false _ i)
      obtain ⟨q1,c1,_,t1⟩:=try_ok ht.lets hL om 20000 1 om om false E1 p i (neg (gr p+1)) (neg (gr p+1)) (fun _ _ st=>some (.inl (true,st))) r0 hT h0i hLi (E1.refl _) (neg_wf _ _) (in_rel om _ _)
      have hsim:q1= .over∨(∃ n,q0= .no n∧∃ m,q1= .no m)∨∃ g n,q0= .yes g n∧∃ m,q1= .yes g m:=by
       obtain ⟨u,hu,N,hN⟩:=t0
       obtain ⟨v,hv,N',hN'⟩:=t1
       have h1:=hN (max N N') om
       have h2:=hN' (max N N') om
       have h3:=(all_S (tx:=ints ps) (gr p) (max N N')).1 _ (ag _) 0 p i (neg (gr p+1)) rF r0 om hT (RS.fin _ _ _ _ _ _ _ _) u v h1 h2
       rcases h3 with h3 | ⟨g,f,n,_,rfl,rfl⟩
       ·cases q1 with
        | over=>exact .inl rfl
        | no n=>obtain ⟨v1,v2,v3⟩:=v;cases hv;cases h3
        | yes g n=>cases hv;cases h3
       ·cases q1 with
        | over=>exact .inl rfl
        | no m=>
          cases hv
          cases q0 with
          | over=>obtain ⟨h5,t',h6⟩:=hu;cases h6
          | no n'=>exact .inr (.inl ⟨_,rfl,_,rfl⟩)
          | yes g' n'=>cases hu
        | yes g' m=>
          cases hv
          cases q0 with
          | over=>obtain ⟨h5,t',h6⟩:=hu;cases h6
          | no n'=>cases hu
          | yes g2 n'=>cases hu;exact .inr (.inr ⟨_,_,rfl,_,rfl⟩)
      obtain ⟨ca,ta⟩:=look_try (G:=gr p) om (c1.le om) t1 false
      obtain ⟨cb,tb'⟩:=look_try (G:=gr p) om (c1.le om) t1 true
      have sp:=search_of (G:=gr p) om hL (GroupsOf_tot hb hz) h0i hLi (c0.le om) t0
      have hga:Tot (fun n=>ref4_GroupsOf n (lk false p).un) (· =(gr p:Int)):=by have:=GroupsOf_tot (lk_bd (no:=false) hb) hza;rwa [show X.cnt (preP (lk false p))=gr p from lk_gr false p]at this
      have hgb:Tot (fun n=>ref4_GroupsOf n (lk true p).un) (· =(gr p:Int)):=by have:=GroupsOf_tot (lk_bd (no:=true) hb) hzb;rwa [show X.cnt (preP (lk true p))=gr p from lk_gr true p]at this
      have sa:=search_of (G:=gr p) om hL hga h0i hLi ca ta
      have sb:=search_of (G:=gr p) om hL hgb h0i hLi cb tb'
      have eqo:∀ {x:Pc} {o o':Fd},Tot (fun m=>ref4_Search m x.un (ints ps) i i false) (· =srcO o)→Tot (fun m=>ref4_Search m x.un (ints ps) i i false) (· =srcO o')→o=o':=fun h h'=>by
       obtain ⟨a,⟨e1,e2⟩,_⟩:=Tot.and h h'
       exact srcO_inj (e1.symm.trans e2)
      obtain ⟨op,_,ap,bp⟩:=found hokp hb ht i i false h0i om om
      obtain ⟨oa,_,aa,ba⟩:=found hoka (lk_bd hb) ht i i false h0i om om
      obtain ⟨ob,_,ab,bb⟩:=found hokb (lk_bd hb) ht i i false h0i om om
      have eop:=eqo bp sp
      have eoa:=eqo ba sa
      have eob:=eqo bb sb
      subst eop;subst eoa;subst eob
      refine ac (Match_o ht (check_ok hokp hb ht) hi ap) fun a e=>?_
      subst e
      refine ac (Match_o ht (check_ok hoka (lk_bd hb) ht) hi aa) fun a e=>?_
      subst e
      refine ac (Match_o ht (check_ok hokb (lk_bd hb) ht) hi ab) fun a e=>?_
      subst e
      refine ac (P:=(· =((21:Int),(-1:Int)))) (ae rfl) fun a e=>?_
      subst e
      rcases hsim with rfl | ⟨n,rfl,m,rfl⟩ | ⟨g,n,rfl,m,rfl⟩
      ·refine hend (Tot.ite (fun _=>ae rfl) fun _=>al rfl (ae rfl))
      ·refine ac (P:=(· =false)) (ad rfl (ad rfl (ae rfl))) fun a e=>?_
       subst e
       refine ad rfl (ac (P:=(· =false)) (ad rfl (ad rfl (ad rfl (ad rfl (ae rfl))))) fun a e=>?_)
       subst e
       refine ad rfl (al rfl (ac (P:=(· =false)) (ac (GroupsOf_tot hb hz) fun a e=>?_) fun a e=>?_))
       ·subst e
        show Tot (fun _=>if ((((((neg (gr p+1)).set 0 (0,i)).set 0 (i,(((neg (gr p+1)).set 0 (0,i)).getD 0 (0,0)).2)).length:Nat):Int)!=IntKind.i64.wrap (((gr p:Nat):Int)+1))=true then some true else _) _
        rw[getD0 (by simp),List.set_set,af,neg_len,i64_small (x:=((gr p:Nat):Int)+1) om om]
        refine ad (by simp) (Tot.bind0 (a:=(i,i)) ?_ (ae (by simp)))
        rw[show (0:Int)=((0:Nat):Int) from rfl,idx_nat]
        simp[fdO,lbO,runO,neg,List.getD]
       ·subst e
        refine ad rfl ?_
        show Tot (fun n=>(loopN (ftL (((neg (gr p+1)).set 0 (0,i)).set 0 (i,(((neg (gr p+1)).set 0 (0,i)).getD 0 (0,0)).2))) n 1).bind (cont fun _=>some true)) _
        refine ac (LT.tot (ft_lt oss (fun j h1 h2=>?_) (gr p) 1 oss (ag _))) fun y hy=>?_
        ·simp only[af,neg_len]at h2
         rw[List.getElem?_set_ne om,List.getElem?_set_ne om]
         rw[show (neg (gr p+1))[j]? =_ from List.getElem?_replicate,if_pos h2]
        ·subst hy;exact ae rfl
      ·have hlg:0<g.length:=by have:=c0.2.2.1;omega
       refine ac (P:=(· =false)) (ad rfl (ad rfl (ae rfl))) fun a e=>?_
       subst e
       refine ad rfl (ac (P:=(· =false)) (ad rfl (ad rfl (ad rfl (ad rfl (ae rfl))))) fun a e=>?_)
       subst e
       refine ad rfl (ad rfl (ac (P:=(· =true)) ?_ fun a e=>ae e))
       have e1:(runO (fdO i (Res.yes g n))).1=g.set 0 (i,(g.getD 0 (0,0)).2):=rfl
       have e2:(runO (fdO i (if false=true then lbO (gr p) i (Res.yes g m) else laO i (Res.yes g m)))).1=g.set 0 (i,i):=by
        show (g.set 0 (0,i)).set 0 (i,((g.set 0 (0,i)).getD 0 (0,0)).2)=_
        rw[getD0 hlg,List.set_set]
       rw[e1,e2,af,af]
       refine al (by simp) (al (dtt om) (Tot.bind0 (a:=(i,i)) ?_ (al (by simp) (Tot.bind0 (a:=g.drop 1) ?_ (Tot.bind0 (a:=g.drop 1) ?_ (ac (Spans_tot ?_) fun a e=>ae ?_))))))
       ·rw[show (0:Int)=((0:Nat):Int) from rfl,idx_nat,List.getElem?_set_self hlg]
       ·unfold sub;rw[if_pos (by rw[af];omega),Int.toNat_natCast,List.take_of_length_le (by rw[af];exact ag _)];exact congrArg some (set_drop _ _)
       ·unfold sub;rw[if_pos (by rw[af];omega),Int.toNat_natCast,List.take_of_length_le (by rw[af];exact ag _)];exact congrArg some (set_drop _ _)
       ·have:=c0.2.2.1;rw[List.length_drop];unfold BigR;omega
       ·rw[e];exact dtt rfl
   ·refine hend (ad rfl (ac (hpa true) fun a e=>?_))
    subst e
    rw[hvb]
    refine ad rfl (ac (Fault_tot hb) fun a e=>?_)
    subst e
    exact al (by simpa using hvp) (ae rfl)
  ·refine hend (ad rfl (ac (hpa true) fun a e=>?_))
   subst e
   exact al (by simpa using hvb) (ae rfl)
end Go.Gv.M
