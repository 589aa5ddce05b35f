import Derived.Test.YtmpmeiihjnnomaaGreatDoorYE
/-! Own work: the reference's matcher, begun one step later. -/
set_option linter.all false
open Nat renaming le_refl→aa,le_succ→ab
namespace Go.Gv.M
open Go Go.Gv Go.Gv.D Go.Gv.X Go.Gv.R Go.Gv.P
set_option maxHeartbeats 4000000
def shB (tx:List Int) (wh:Bool) (a b:RB):Prop:=b.2.2.2.2.2=true∨∃ (g:Sp) (f:Bool) (n:Nat),n+1≤20000∧a=(g,f,(tx,(n:Int),wh,false))∧b=(g,f,(tx,((n+1:Nat):Int),wh,false))
def Sim (tx:List Int) (wh:Bool) (o o':Option RB):Prop:=∀ a b,o=some a→o'=some b→shB tx wh a b
section
variable {tx:List Int} {wh:Bool}
theorem Sim.none (o':Option RB):Sim tx wh none o':=fun _ _ h=>by cases h
theorem Sim.over (o:Option RB) {b:RB} (h:b.2.2.2.2.2=true):Sim tx wh o (some b):=fun _ _ _ e=>by cases e;exact .inl h
theorem Sim.fail {n:Nat} (h:n+1≤20000):Sim tx wh (some (([]:Sp),false,(tx,(n:Int),wh,false))) (some (([]:Sp),false,(tx,((n+1:Nat):Int),wh,false))):=fun _ _ e e'=>by cases e;cases e';exact .inr ⟨[],false,n,h,rfl,rfl⟩
theorem Sim.thenB {o o':Option RB} (h:Sim tx wh o o'):Sim tx wh (thenB tx o) (thenB tx o'):=fun a b e e'=>by
 cases o with
 | none=>cases e
 | some x=>
   cases o' with
   | none=>cases e'
   | some y=>
     cases e;cases e'
     rcases h x y rfl rfl with h | ⟨g,f,n,hn,rfl,rfl⟩
     ·exact .inl h
     ·exact .inr ⟨g,f,n,hn,rfl,rfl⟩
theorem Sim.bindc {α:Type} {x:Option α} {f f':α→Option RB} (h:∀ v,Sim tx wh (f v) (f' v)):Sim tx wh (x.bind f) (x.bind f'):=by
 cases x with
 | none=>exact Sim.none _
 | some v=>exact h v
theorem Sim.ite {c:Bool} {a a' b b':Option RB} (h:Sim tx wh a a') (h':Sim tx wh b b'):Sim tx wh (if c=true then a else b) (if c=true then a' else b'):=by
 cases c with
 | true=>exact h
 | false=>exact h'
/-- then what comes, if it was not over -/
theorem Sim.bnd {o o':Option RB} {f f':RB→Option RB} (h:Sim tx wh o o') (hf:∀ (g:Sp) (s:Bool) (n:Nat),n+1≤20000→Sim tx wh (f (g,s,(tx,(n:Int),wh,false))) (f' (g,s,(tx,((n+1:Nat):Int),wh,false))))
 (ho:∀ b:RB,b.2.2.2.2.2=true→∃ c,f' b=some c∧c.2.2.2.2.2=true):Sim tx wh (o.bind f) (o'.bind f'):=fun a b e e'=>by
 obtain ⟨x,h1,h2⟩:=Option.bind_eq_some_iff.1 e
 obtain ⟨y,h3,h4⟩:=Option.bind_eq_some_iff.1 e'
 rcases h x y h1 h3 with h5 | ⟨g,s,n,hn,rfl,rfl⟩
 ·obtain ⟨c,h6,h7⟩:=ho y h5
  rw[h6]at h4;cases h4
  exact .inl h7
 ·exact hf g s n hn a b h2 h4
theorem Sim.or {o o':Option RB} {f f':Eng→Option RB} (h:Sim tx wh o o') (hf:∀ n:Nat,n+1≤20000→Sim tx wh (f (tx,(n:Int),wh,false)) (f' (tx,((n+1:Nat):Int),wh,false))):Sim tx wh (orB tx o f) (orB tx o' f'):=by
 refine Sim.bnd h (fun g s n hn=>?_) fun b hb=>?_
 ·cases s with
  | true=>exact fun a b e e'=>by cases e;cases e';exact .inr ⟨g,true,n,hn,rfl,rfl⟩
  | false=>exact (hf n hn).thenB
 ·obtain ⟨b1,b2,b3,b4,b5,b6⟩:=b
  simp only at hb
  subst hb
  cases b2<;>exact ⟨_,rfl,rfl⟩
/-- rests that do so -/
def RS (tx:List Int) (wh:Bool) (M:Nat) (r r':List Rs):Prop:=∀ m,m≤M→∀ (n:Nat) (i:Int) (g:Sp),n+1≤20000→Sim tx wh (ref4_engine_goOn m (tx,(n:Int),wh,false) r i g) (ref4_engine_goOn m (tx,((n+1:Nat):Int),wh,false) r' i g)
theorem RS.le {M M':Nat} {r r':List Rs} (h:RS tx wh M r r') (hm:M'≤M):RS tx wh M' r r':=fun m h1=>h m (Nat.le_trans h1 hm)
def TS (tx:List Int) (wh:Bool) (G M:Nat):Prop:=∀ (n:Nat) (x:Pc) (i:Int) (g:Sp) (r r':List Rs),n+1≤20000→okT G x→RS tx wh M r r'→Sim tx wh (ref4_engine_try M (tx,(n:Int),wh,false) x.un i g r) (ref4_engine_try M (tx,((n+1:Nat):Int),wh,false) x.un i g r')
def US (tx:List Int) (wh:Bool) (G M:Nat):Prop:=∀ (n:Nat) (k lo hi:Int) (no lz:Bool) (rs:List (Int × Int)) (x:Pc) (t:List Pc) (c i:Int) (g:Sp) (r r':List Rs),n+1≤20000→okT G x→RS tx wh M r r'→Sim tx wh (ref4_engine_rounds M (tx,(n:Int),wh,false) (k,lo,hi,no,lz,rs,x::t) c i g r) (ref4_engine_rounds M (tx,((n+1:Nat):Int),wh,false) (k,lo,hi,no,lz,rs,x::t) c i g r')
def AS (tx:List Int) (wh:Bool) (G M:Nat):Prop:=∀ (n:Nat) (k lo hi:Int) (no lz:Bool) (rs:List (Int × Int)) (x:Pc) (t:List Pc) (c i:Int) (g:Sp) (r r':List Rs),n+1≤20000→okT G x→RS tx wh M r r'→Sim tx wh (ref4_engine_again M (tx,(n:Int),wh,false) (k,lo,hi,no,lz,rs,x::t) c i g r) (ref4_engine_again M (tx,((n+1:Nat):Int),wh,false) (k,lo,hi,no,lz,rs,x::t) c i g r')
theorem goOn0 (e:Eng) (r:List Rs) (i:Int) (g:Sp):ref4_engine_goOn 0 e r i g=none:=by rw[ref4_engine_goOn.eq_1]
theorem RS.row {G M:Nat} (H:∀ m,m<M→TS tx wh G m) {r r':List Rs} (hr:RS tx wh M r r'):∀ (l:List Pc),(∀ x∈l,okT G x)→∀ (pc:PcT) (st ro:Int),RS tx wh M [Rs.of (1,l,pc,st,ro,r)] [Rs.of (1,l,pc,st,ro,r')]
 | [],_,pc,st,ro,0,_,n,i,g,hn=>by rw[goOn0];exact Sim.none _
 | [],_,pc,st,ro,m+1,hm,n,i,g,hn=>by rw[goB_nil,goB_nil];exact (hr m om n i g hn).thenB
 | x::t,hl,pc,st,ro,0,_,n,i,g,hn=>by rw[goOn0];exact Sim.none _
 | x::t,hl,pc,st,ro,m+1,hm,n,i,g,hn=>by
   rw[goB_cons,goB_cons]
   exact (H m om n x i g _ _ hn (hl x (by simp)) ((RS.row H hr t (fun y hy=>hl y (List.mem_cons_of_mem _ hy)) Z7 0 0).le om)).thenB
theorem RS.close {M:Nat} {r r':List Rs} (hr:RS tx wh M r r') (pa:List Pc) (pc:PcT) (st ro:Int):RS tx wh M [Rs.of (2,pa,pc,st,ro,r)] [Rs.of (2,pa,pc,st,ro,r')]:=fun m hm n i g hn=>by
 cases m with
 | zero=>rw[goOn0];exact Sim.none _
 | succ m=>rw[goB_2,goB_2];exact Sim.bindc fun v=>(hr m om n i v hn).thenB
theorem RS.rep {G M:Nat} (H:∀ m,m<M→US tx wh G m) {r r':List Rs} (hr:RS tx wh M r r') {k lo hi:Int} {no lz:Bool} {rs:List (Int × Int)} {x:Pc} {t:List Pc} (hx:okT G x) (pa:List Pc) (st ro:Int):RS tx wh M [Rs.of (3,pa,(k,lo,hi,no,lz,rs,x::t),st,ro,r)] [Rs.of (3,pa,(k,lo,hi,no,lz,rs,x::t),st,ro,r')]:=fun m hm n i g hn=>by
 cases m with
 | zero=>rw[goOn0];exact Sim.none _
 | succ m=>
   rw[goB_3,goB_3]
   exact Sim.ite (Sim.fail hn) (H m om n k lo hi no lz rs x t ro i g r r' hn hx (hr.le om)).thenB
theorem RS.fin (M:Nat) (pa:List Pc) (pc:PcT) (st ro ro':Int) (r r':List Rs):RS tx false M [Rs.of (0,pa,pc,st,ro,r)] [Rs.of (0,pa,pc,st,ro',r')]:=fun m hm n i g hn=>by
 cases m with
 | zero=>rw[goOn0];exact Sim.none _
 | succ m=>
   rw[goB_0,goB_0,if_neg (by simp),if_neg (by simp)]
   exact Sim.bindc fun v a b e e'=>by cases e;cases e';exact .inr ⟨v,true,n,hn,rfl,rfl⟩
theorem AS.step {G M:Nat} (hT:∀ m,m≤M→TS tx wh G m) (hU:∀ m,m<M→US tx wh G m):AS tx wh G (M+1):=fun n k lo hi no lz rs x t c i g r r' hn hx hr=>by
 rw[againB,againB]
 exact Sim.ite (Sim.fail hn) (hT M (aa _) n x i g _ _ hn hx (RS.rep hU (hr.le (ab _)) hx [] i _)).thenB
theorem US.step {G M:Nat} (hA:AS tx wh G M):US tx wh G (M+1):=fun n k lo hi no lz rs x t c i g r r' hn hx hr=>by
 rw[repB,repB]
 have hr':=hr.le (ab M)
 have h1:=fun (q:Nat) (hq:q+1≤20000)=>hA q k lo hi no lz rs x t c i g r r' hq hx hr'
 have h2:=fun (q:Nat) (hq:q+1≤20000)=>hr M (ab _) q i g hq
 exact Sim.ite (h1 n hn).thenB (Sim.ite (Sim.or (h2 n hn) h1) (Sim.or (h1 n hn) h2))
/-! one of several -/
def LSim (tx:List Int) (wh:Bool) (y y':Option (Eng ⊕ ((Sp × Bool × Eng) ⊕ RB))):Prop:=∀ a b,y=some a→y'=some b→(∃ c,b= .inr (.inr c)∧c.2.2.2.2.2=true)∨(∃ n:Nat,n+1≤20000∧a= .inl (tx,(n:Int),wh,false)∧b= .inl (tx,((n+1:Nat):Int),wh,false))∨∃ c c',a= .inr (.inr c)∧b= .inr (.inr c')∧shB tx wh c c'
theorem alt_sim {G M:Nat} (hT:TS tx wh G M) {subs:List Pc} (hs:∀ x∈subs,okT G x) (i:Int) (g:Sp) {r r':List Rs} (hr:RS tx wh M r r'):∀ (k:Nat) (j:Int) (n:Nat),n+1≤20000→LSim tx wh (loopN (altB tx M subs i g r) k (j,(tx,(n:Int),wh,false))) (loopN (altB tx M subs i g r') k (j,(tx,((n+1:Nat):Int),wh,false)))
 | 0,j,n,hn=>fun a b e=>by cases e
 | k+1,j,n,hn=>fun a b e e'=>by
   by_cases hc:j<((subs.length:Nat):Int)
   ·cases hx:idx subs j with
    | none=>
      rw[loopN_none (by unfold altB;simp only[dtt hc,if_true,hx];rfl)]at e
      cases e
    | some x=>
      have hxs:x∈subs:=by
       unfold idx at hx
       split at hx
       ·exact List.mem_of_getElem? hx
       ·cases hx
      have h0:=hT n x i g r r' hn (hs x hxs) hr
      have ea:∀ (q:Int) (rr:List Rs),altB tx M subs i g rr (j,(tx,q,wh,false))=(ref4_engine_try M (tx,q,wh,false) (Pc.un x) i g rr).bind fun r149=>(Option.bind (if r149.2.1 then (some (true)) else (some (r149.2.2.2.2.2))) fun (j160:Bool)=>(if j160 then (some (.inr (.inr (.inr ((r149.1,r149.2.1,(tx,r149.2.2.2.1,r149.2.2.2.2.1,r149.2.2.2.2.2))))))) else (some (.inl ((IntKind.i64.wrap (j+1)),(tx,r149.2.2.2.1,r149.2.2.2.2.1,r149.2.2.2.2.2)))))):=fun q rr=>by
       unfold altB;simp only[dtt hc,if_true,hx,Option.bind_some]
      cases h1:ref4_engine_try M (tx,(n:Int),wh,false) (Pc.un x) i g r with
      | none=>rw[loopN_none (by rw[ea,h1];rfl)]at e;cases e
      | some u=>
        cases h2:ref4_engine_try M (tx,((n+1:Nat):Int),wh,false) (Pc.un x) i g r' with
        | none=>rw[loopN_none (by rw[ea,h2];rfl)]at e';cases e'
        | some v=>
          rcases h0 u v h1 h2 with h3 | ⟨gg,f,q,hq,rfl,rfl⟩
          ·obtain ⟨b1,b2,b3,b4,b5,b6⟩:=v
           simp only at h3
           subst h3
           rw[loopN_inr (r:=.inr (.inr (b1,b2,(tx,b4,b5,true)))) (by rw[ea,h2];cases b2<;>rfl)]at e'
           cases e'
           exact .inl ⟨_,rfl,rfl⟩
          ·cases f with
           | true=>
             rw[loopN_inr (r:=.inr (.inr (gg,true,(tx,(q:Int),wh,false)))) (by rw[ea,h1];rfl)]at e
             rw[loopN_inr (r:=.inr (.inr (gg,true,(tx,((q+1:Nat):Int),wh,false)))) (by rw[ea,h2];rfl)]at e'
             cases e;cases e'
             exact .inr (.inr ⟨_,_,rfl,rfl,.inr ⟨gg,true,q,hq,rfl,rfl⟩⟩)
           | false=>
             rw[loopN_inl (st':=(IntKind.i64.wrap (j+1),(tx,(q:Int),wh,false))) (by rw[ea,h1];rfl)]at e
             rw[loopN_inl (st':=(IntKind.i64.wrap (j+1),(tx,((q+1:Nat):Int),wh,false))) (by rw[ea,h2];rfl)]at e'
             exact alt_sim hT hs i g hr k _ q hq a b e e'
   ·have ea:∀ (q:Int) (rr:List Rs),altB tx M subs i g rr (j,(tx,q,wh,false))=some (.inr (.inl (tx,q,wh,false))):=fun q rr=>by
     unfold altB;simp only[dff hc,Bool.false_eq_true,if_false]
    rw[loopN_inr (ea _ _)]at e e'
    cases e;cases e'
    exact .inr (.inl ⟨n,hn,rfl,rfl⟩)
theorem fits_any (m:Nat) (tx:List Int) (a b:Int) (wh:Bool) (x:PcT) (i:Int):ref4_engine_fitsOne m (tx,a,wh,false) x i=ref4_engine_fitsOne m (tx,b,wh,false) x i:=rfl
theorem TS.step {G M:Nat} (hT:∀ m,m≤M→TS tx false G m) (hU:∀ m,m≤M→US tx false G m):TS tx false G (M+1):=fun n p i g r r' hn hp hr=>by
 have hr':=hr.le (ab M)
 obtain ⟨k,lo,hi,no,lz,rs,subs⟩:=p
 have hk:=okT_self hp
 have hs:=okT_sub hp
 have h1k:=hk.kind
 simp only[Pc.un]at h1k
 show Sim tx false (ref4_engine_try (M+1) (tx,(n:Int),false,false) (k,lo,hi,no,lz,rs,subs) i g r) (ref4_engine_try (M+1) (tx,((n+1:Nat):Int),false,false) (k,lo,hi,no,lz,rs,subs) i g r')
 by_cases hn2:n+1=20000
 ·rw[hn2]
  rw[show (((20000:Nat):Int))=20000 from rfl,tryB_lim]
  exact Sim.over _ rfl
 ·have hn3:n<20000:=by omega
  have hn4:n+1<20000:=by omega
  have hq:=fun (q:Nat) (i:Int) (g:Sp) (hq:q+1≤20000)=>(hr M (ab M) q i g hq).thenB
  obtain h | h | h | h | h | h | h | h | h | h | h | h:k=1∨k=2∨k=3∨k=4∨k=5∨k=6∨k=7∨k=8∨k=9∨k=10∨k=11∨k=12:=by omega
  ·rw[tryB_s hn3 M tx false lo hi no lz rs subs i g r (.inl h),tryB_s hn4 M tx false lo hi no lz rs subs i g r' (.inl h),fits_any M tx _ ((n+1:Nat):Int)]
   exact Sim.bindc fun v=>Sim.ite (Sim.fail hn4) (hq (n+1) _ g hn4)
  ·rw[tryB_s hn3 M tx false lo hi no lz rs subs i g r (.inr (.inl h)),tryB_s hn4 M tx false lo hi no lz rs subs i g r' (.inr (.inl h)),fits_any M tx _ ((n+1:Nat):Int)]
   exact Sim.bindc fun v=>Sim.ite (Sim.fail hn4) (hq (n+1) _ g hn4)
  ·rw[tryB_s hn3 M tx false lo hi no lz rs subs i g r (.inr (.inr h)),tryB_s hn4 M tx false lo hi no lz rs subs i g r' (.inr (.inr h)),fits_any M tx _ ((n+1:Nat):Int)]
   exact Sim.bindc fun v=>Sim.ite (Sim.fail hn4) (hq (n+1) _ g hn4)
  ·subst h;rw[tryB_4 hn3,tryB_4 hn4];exact Sim.ite (hq (n+1) _ g hn4) (Sim.fail hn4)
  ·subst h;rw[tryB_5 hn3,tryB_5 hn4];exact Sim.ite (hq (n+1) _ g hn4) (Sim.fail hn4)
  ·subst h;rw[tryB_6 hn3,tryB_6 hn4];exact Sim.bindc fun v=>Sim.bindc fun u=>Sim.ite (hq (n+1) _ g hn4) (Sim.fail hn4)
  ·subst h
   cases subs with
   | nil=>exact absurd rfl (hk.g7 rfl).2.2
   | cons x t=>
     rw[tryB_7 hn3,tryB_7 hn4]
     simp only[idx0,Option.bind_some]
     exact Sim.ite (hT M (aa _) (n+1) x i g r r' hn4 (hs x (by simp)) hr').thenB (hT M (aa _) (n+1) x i g _ _ hn4 (hs x (by simp)) (RS.close hr' [] _ i 0)).thenB
  ·subst h;rw[tryB_8 hn3,tryB_8 hn4]
   exact (RS.row (fun m hm=>hT m (Nat.le_of_lt hm)) hr' subs hs Z7 0 0 M (aa _) (n+1) i g hn4).thenB
  ·subst h;rw[tryB_9 hn3,tryB_9 hn4]
   have hl:=alt_sim (hT M (aa _)) hs i g hr' M 0 (n+1) hn4
   intro a b e e'
   cases h1:loopN (altB tx M subs i g r) M (0,(tx,((n+1:Nat):Int),false,false)) with
   | none=>rw[h1]at e;cases e
   | some u=>
     cases h2:loopN (altB tx M subs i g r') M (0,(tx,((n+1+1:Nat):Int),false,false)) with
     | none=>rw[h2]at e';cases e'
     | some v=>
       rw[h1]at e
       rw[h2]at e'
       rcases hl u v h1 h2 with ⟨c,rfl,hc⟩ | ⟨q,hq,rfl,rfl⟩ | ⟨c,c',rfl,rfl,hs⟩
       ·cases (show some c=some b from e');exact .inl hc
       ·exact Sim.fail hq a b e e'
       ·cases (show some c=some a from e);cases (show some c'=some b from e');exact hs
  ·subst h
   cases subs with
   | nil=>exact absurd rfl (hk.g10 (.inl rfl))
   | cons x t=>
     rw[tryB_10 hn3,tryB_10 hn4]
     exact (hU M (aa _) (n+1) 10 lo hi no lz rs x t 0 i g r r' hn4 (hs x (by simp)) hr').thenB
  ·subst h
   cases subs with
   | nil=>exact absurd rfl (hk.g10 (.inr rfl))
   | cons x t=>
     rw[tryB_11 hn3,tryB_11 hn4]
     simp only[idx0,Option.bind_some]
     refine Sim.bnd (hT M (aa _) (n+1) x i g _ _ hn4 (hs x (by simp)) (RS.fin M _ _ _ _ _ _ _)) (fun gg s q hq'=>?_) fun b hb=>?_
     ·simp only[Bool.false_eq_true,if_false]
      exact Sim.ite (Sim.fail hq') (Sim.bindc fun v=>hq q i v hq')
     ·obtain ⟨b1,b2,b3,b4,b5,b6⟩:=b
      simp only at hb
      subst hb
      exact ⟨_,rfl,rfl⟩
  ·subst h;rw[tryB_12 hn3,tryB_12 hn4]
   exact Sim.bindc fun a=>Sim.bindc fun j=>Sim.ite (Sim.fail hn4) (hq (n+1) _ g hn4)
end
end Go.Gv.M
/-! Own work: the law of looking ahead. -/
namespace Go.Gv.M
open Go Go.Gv Go.Gv.D Go.Gv.X Go.Gv.R Go.Gv.P Go.Lib
set_option maxHeartbeats 4000000
theorem srcO_inj {a b:Fd} (h:srcO a=srcO b):a=b:=by
 cases a<;>cases b<;>simp[srcO]at h ⊢
 exact h
theorem check_ok {p:Pc} {s:ByteArray} {ps:List Nat} (hok:okP p) (hb:BdL (preP p)) (ht:TextOk s ps) (i:Int):Tot (fun n=>rematch_check n p.un s i) (· =if i<0∨i>(ps.length:Int) then (4, -3) else (0,0)):=by
 have he:=ht.enc_le
 rcases check_cases hb (s:=s) (by rw[ht.str,size_str];omega) with ⟨w,hw,h1,h2⟩ | ⟨_,ps',ht',_,h1⟩
 ·exfalso
  have h3:Tot (fun n=>law4_searchFault n p.un s) (· =((0,0),ints ps)):=by
   unfold law4_searchFault
   refine Tot.bindq (Fault_tot hb) fun a e=>?_
   subst e
   rw[chkV_ok hok]
   refine Tot.if_ rfl (Tot.bindq (P:=(· =(ints ps,true))) (by rw[ht.str];exact pts_tot ht.scal om) fun a e=>?_)
   subst e
   have:=ht.len
   refine Tot.if_ rfl (Tot.some_bind ?_)
   rw[ints_len]
   exact Tot.if_ (dff om) (Tot.ret rfl)
  obtain ⟨a,⟨e1,e2⟩,_⟩:=Tot.and h2 h3
  rw[e1]at e2
  exact hw (by rw[congrArg (fun x=>x.1.1) e2])
 ·have:ps=ps':=by
   refine enc_inj ht.scal ht'.scal ?_
   have:=ht.str.symm.trans ht'.str
   have:=congrArg bytesOf this
   rwa [bytes_str,bytes_str]at this
  subst this
  exact h1 i
end Go.Gv.M
/-! Own work: the law of looking ahead (2). -/
namespace Go.Gv.M
open Go Go.Gv Go.Gv.D Go.Gv.X Go.Gv.R Go.Gv.P Go.Lib
set_option maxHeartbeats 4000000
end Go.Gv.M
/-! Own work: the law of repetitions. -/
namespace Go.Gv.M
open Go Go.Gv Go.Gv.D Go.Gv.X Go.Gv.R Go.Gv.P Go.Lib
set_option maxHeartbeats 4000000
section
variable {tx:List Int} {x:Pc} {lo hi i0:Int} (hL:tx.length≤1000) (hx:x.un.1=1∨x.un.1=2∨x.un.1=3) (hr:x.un.2.2.2.2.2.1.length≤BigR) (h0:0≤i0)
theorem fin_go (n:Nat) (i:Int):Tot (fun m=>ref4_engine_goOn m (tx,(n:Int),false,false) rF i (neg (0+1))) (PB tx false (.yes [(0,i)] n)):=by
 refine suc (Tot.mono (Tot.alln fun m=>?_) fun a e=>e)
 rw[goB_0,if_neg (by simp),show ref4_spans_with m (neg (0+1)) 0 0 i=ref4_spans_with m (neg (0+1)) ((0:Nat):Int) 0 i from rfl,with_eq m (by simp) (by simp)]
 rfl
include hL hx hr h0
theorem one_try {n:Nat} (hn:n<20000) {i:Int} (hi0:0≤i) (hi1:i≤(tx.length:Int)) (g:Sp) (r:List Rs) {o:Res} (ho:fitB tx x.un i=true→Tot (fun m=>ref4_engine_goOn m (tx,((n+1:Nat):Int),false,false) r (i+1) g) (PB tx false o)):
 Tot (fun m=>ref4_engine_try m (tx,(n:Int),false,false) x.un i g r) (PB tx false (if fitB tx x.un i=true then o else .no (n+1))):=by
 obtain ⟨k,xl,xh,xn,xz,xr,xs⟩:=x
 refine suc (eqf (fun m=>tryB_s hn m tx false xl xh xn xz xr xs i g r hx) (Tot.bindq (fits_tot (tx:=tx) (x:=(k,xl,xh,xn,xz,xr,xs)) hr hi0 _) fun a e=>?_))
 rw[e]
 cases hb:fitB tx (k,xl,xh,xn,xz,xr,xs) i with
 | false=>
   rw[show fitB tx (Pc.mk k xl xh xn xz xr xs).un i=false from hb]
   exact Tot.ret rfl
 | true=>
   rw[show fitB tx (Pc.mk k xl xh xn xz xr xs).un i=true from hb]
   rw[i64_small (x:=i+1) om om]
   exact thenB_tot (ho hb)
end
end Go.Gv.M
/-! Own work: the law of repetitions (2). -/
namespace Go.Gv.M
open Go Go.Gv Go.Gv.D Go.Gv.X Go.Gv.R Go.Gv.P Go.Lib
set_option maxHeartbeats 4000000
section
variable {x:Pc} {s:ByteArray} {ps:List Nat} (hx:x.un.1=1∨x.un.1=2∨x.un.1=3) (hxs:x.un.2.2.2.2.2.2=[]) (hb:BdL (preP x)) (hok:okP x) (ht:TextOk s ps)
include hx hxs hb hok ht
end
end Go.Gv.M
