import Derived.Test.YtaeeniomdicclaaDoorProg
import Derived.Test.YtaeeniomdicclaaDoorRc
import Derived.Test.YtaeeniomdicclaaDoorGs
set_option linter.all false
namespace Go.Proofs.YtaeeniomdicclaaDoor
open Go.RowKit Go.Gv
set_option maxRecDepth 100000
theorem zpV (p q:Value):zov Tryd.prog 26 #[p,q]:=by
 refine zrO (d0:=5) (d1:=2) Tryd.func26 rfl Tryd.ntmps26 (by show 2<=17;decide) rfl rfl rfl rfl (by decide) (by decide) (fun _ _=>rfl) (fun _ _=>rfl) fun w=>?_
 refine gv_seq<|gv_region<|zz6 2 [6,7] [(7,.bool false)] (by kernel_rfl) ?_
 refine gv_nil<|zv1 (b:=false) (by kernel_rfl) (fun h=>by cases h) (fun _=>?_)
 refine gv_skip ?_
 exact zyA (gv_done [] rfl trivial ⟨⟨_,rfl⟩,rfl⟩)
theorem ztM (cap:Array Value) (w:World):(invoke (.fn (.func 26) cap) #[]).run Tryd.prog w= .ok (.enter 26 cap) w:=by
 have hn : ¬ (Tryd.f26.name = "runtime.NumGoroutine") := by decide
 have hb:¬ (Tryd.f26.body=none):=fun e=>by cases e
 simp[invoke,callFunc,Tryd.func26,hn,hb,program,Sem.run]
theorem zs9:Go.Gv.Enters Tryd.prog 21:=⟨Tryd.f21,Tryd.func21,by kernel_rfl,by kernel_rfl⟩
theorem zqu (a b:Int) (w:World):Calls Tryd.prog 21 ([(.int .i64 a),(.int .i64 b)]:List Value).toArray w (Ret fun v w'=>w.grownBy w' none∧v= .agg #[.int .i64 a,.int .i64 b]):=by
 refine calls_run Tryd.func21 rfl Tryd.ntmps21 (by kernel_rfl) ?_
 refine gv_seq<|gv_region<|gv_new0 (fun b=>.pointer (some ⟨b,0,none⟩)) #[(.int .i64 0),(.int .i64 0)] 23 (by kernel_rfl) (by kernel_rfl) ?_
 intro b1 w2 g i e hz6
 refine gv_nil<|gv_seq<|gv_region<|zz6 3 [5,6,7] [(7,(.agg #[(.int .i64 a),(.int .i64 b)]))] (by kernel_rfl) ?_
 refine gv_store0 23 0 (.agg #[(.int .i64 a),(.int .i64 b)]) #[(.int .i64 a),(.int .i64 b)] i (by kernel_rfl) (by kernel_rfl) (by kernel_rfl) ?_
 intro w7 h f j
 refine gv_nil<|gv_cret ?_
 refine gv_ret (gv_done [(.agg #[(.int .i64 a),(.int .i64 b)])] rfl ⟨⟨⟨b1,0,none⟩,(by kernel_rfl),run_loadVar_row w7 b1 _ 23 _ _ _ f Tryd.underlying23 rfl (by kernel_rfl)⟩,trivial⟩ ?_)
 have d:=bg (Below.refl _ _) g nb
 have c:=bg d h (rowlo (lob e (Nat.le_refl _)))
 exact ⟨grown_of_below c,rfl⟩
theorem zvV (a:Option Addr) (n c:Nat) (w:World):Calls Tryd.prog 14 ([.slice a n c]:List Value).toArray w (Ret fun v w'=>∃ b,w.grownBy w' none∧v=bp b∧b=w.heap.size∧Box w' b 72 #[.slice a n c,.int .i64 0]):=by
 refine calls_run Tryd.func14 rfl Tryd.ntmps14 (by kernel_rfl) ?_
 refine gv_sub [0] (σ':=[(0,.slice a n c)]) (by kernel_rfl) ?_
 refine gv_seq<|gv_region<|zz6 1 [2] [] (by kernel_rfl) ?_
 refine gv_nil<|gv_seq<|gv_region<|zz6 2 [3,4] [(4,.agg #[.slice a n c,.int .i64 0])] (by kernel_rfl) ?_
 refine gv_new0 (fun b=>.pointer (some ⟨b,0,none⟩)) #[.slice a n c,.int .i64 0] 72 (by kernel_rfl) (by kernel_rfl) ?_
 intro b w2 hg hb d hz
 refine zz6 1 [2] [(2,bp b)] (by kernel_rfl) ?_
 refine gv_nil<|gv_cret ?_
 refine gv_ret (gv_done [bp b] rfl ⟨(by kernel_rfl),trivial⟩ ?_)
 exact ⟨b,hg,rfl,d,hb⟩
theorem zp4 (p q:Nat) (_:Unit) {w:World} {c0 e0 e1:Value} (hp:Box w p 9 #[c0]) (hq:Box w q 23 #[e0,e1]) (hne:p≠q):
 zpK Tryd.prog 26 #[bp p,bp q] (.iface 65 (.agg #[])) w fun w'=>∃ w1 w2,w.grownBy w1 none∧w1.grownBy w2 (some p)∧w2.grownBy w' (some q)∧
  Box w' p 9 #[.string (strOf [])]∧Box w' q 23 #[(.int .i64 3),(.int .i64 (-1))]:=by
 refine zqt (d0:=5) (d1:=2) (cap:=[bp p,bp q]) Tryd.func26 rfl Tryd.ntmps26 (by show 2<=17;decide) rfl rfl rfl rfl (by decide) (by decide) (by show 2<=5;decide) (by show 2<=2;decide) (fun _ _=>rfl) (fun _ _=>rfl) ?_
 refine gv_seq<|gv_region<|zz6 2 [6,7] [(7,.bool true)] (by kernel_rfl) ?_
 refine gv_nil<|zv1 (b:=true) (by kernel_rfl) (fun _=>?_) (fun h=>by cases h)
 refine gv_seq<|gv_seq<|gv_region<|zz6 5 [8,9,10,11,12] [(11,.agg #[]),(12,.bool true)] (by kernel_rfl) ?_
 refine gv_new0 (fun b=>.pointer (some ⟨b,0,none⟩)) #[] 65 (by kernel_rfl) (by kernel_rfl) ?_
 intro b w1 hg1 u a hz1
 have r:=hp.grown hg1 nb
 have x:=hq.grown hg1 nb
 have y:p≠b:=Nat.ne_of_lt (by rw[a];exact hp.lt)
 have l:q≠b:=Nat.ne_of_lt (by rw[a];exact hq.lt)
 refine gv_store0 65 0 (.agg #[]) #[] u (by kernel_rfl) (by kernel_rfl) (by kernel_rfl) ?_
 intro w2 hg2 hb2 hz2
 have n:=r.grown hg2 (fun g e=>by cases e;exact Ne.symm y)
 have s:=x.grown hg2 (fun g e=>by cases e;exact Ne.symm l)
 have k:Below w.heap.size w w2:=bg (bg (Below.refl _ _) hg1 nb) hg2 (fun g e=>by cases e;rw[a];exact Nat.le_refl _)
 refine zz6 1 [4] [(4,.bool true)] (by kernel_rfl) ?_
 refine gv_nil<|gv_seq<|gv_region<|zz6 2 [13,14] [(14,.bool false)] (by kernel_rfl) ?_
 refine gv_nil<|zv1 (b:=false) (by kernel_rfl) (fun h=>by cases h) (fun _=>?_)
 refine gv_skip<|gv_region ?_
 refine gv_call0 (by kernel_rfl) rfl (by kernel_rfl) zs9 (zqu 3 (-1) w2) ?_
 rintro v w3 ⟨c,rfl⟩
 have i:=n.grown c nb
 have m:=s.grown c nb
 refine gv_store0 9 0 (.string (strOf [])) #[.string (strOf [])] i (by kernel_rfl) (by kernel_rfl) (by kernel_rfl) ?_
 intro w4 d j hz4
 have t:=m.grown d (fun g e=>by cases e;exact hne)
 refine gv_store0 23 0 (.agg #[.int .i64 3,.int .i64 (-1)]) #[.int .i64 3,.int .i64 (-1)] t (by kernel_rfl) (by kernel_rfl) (by kernel_rfl) ?_
 intro w5 f o hz5
 have z:=j.grown f (fun g e=>by cases e;exact Ne.symm hne)
 refine gv_nil ?_
 exact zyA (gv_done [] rfl trivial ⟨⟨_,rfl⟩,w3,w4,grown_of_below (bg k c nb),d,f,z,o⟩)
end Go.Proofs.YtaeeniomdicclaaDoor
