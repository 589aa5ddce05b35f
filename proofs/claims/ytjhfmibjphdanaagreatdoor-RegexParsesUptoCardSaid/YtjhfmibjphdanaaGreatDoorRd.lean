import Derived.Test.YtjhfmibjphdanaaGreatDoorProg
import Derived.Test.YtjhfmibjphdanaaGreatDoorRc
import Derived.Test.YtjhfmibjphdanaaGreatDoorGpc
/- Own work: the closure that regex.Parse defers: it does nothing at a return, and takes a parser's panic. -/
set_option linter.all false
namespace Go.Proofs.YtjhfmibjphdanaaGreatDoor
open Go.RowKit Go.Gv
set_option maxRecDepth 100000
theorem inert24 (p q:Value):Inert Tryz.prog 24 #[p,q]:=by
 refine inert_of (d0:=5) (d1:=2) Tryz.func24 rfl Tryz.ntmps24 (by show 2≤20;decide) rfl rfl rfl rfl (by decide) (by decide) (fun _ _=>rfl) (fun _ _=>rfl) fun w=>?_
 refine gv_seq<|gv_region<|gv_pureN 2 [6,7] [(7,.bool false)] (by kernel_rfl) ?_
 refine gv_nil<|gv_cond (b:=false) (by kernel_rfl) (fun h=>by cases h) (fun _=>?_)
 refine gv_skip ?_
 exact gv_fall (gv_done [] rfl trivial ⟨⟨_,rfl⟩,rfl⟩)
theorem invoke24 (cap:Array Value) (w:World):(invoke (.fn (.func 24) cap) #[]).run Tryz.prog w= .ok (.enter 24 cap) w:=by
 have hn : ¬ (Tryz.f24.name = "runtime.NumGoroutine") := by decide
 have hb:¬ (Tryz.f24.body=none):=fun e=>by cases e
 simp[invoke,callFunc,Tryz.func24,hn,hb,program,Sem.run]
theorem entersAt:Go.Gv.Enters Tryz.prog 22:=⟨Tryz.f22,Tryz.func22,by kernel_rfl,by kernel_rfl⟩
theorem at_call (a b:Int) (w:World):Calls Tryz.prog 22 ([(.int .i64 a),(.int .i64 b)]:List Value).toArray w (Ret fun v w'=>w.grownBy w' none∧v= .agg #[.int .i64 a,.int .i64 b]):=by
 refine calls_run Tryz.func22 rfl Tryz.ntmps22 (by kernel_rfl) ?_
 refine gv_seq<|gv_region<|gv_new0 (fun b=>.pointer (some ⟨b,0,none⟩)) #[(.int .i64 0),(.int .i64 0)] 27 (by kernel_rfl) (by kernel_rfl) ?_
 intro b1 w2 hg3 hb4 hbe5 hz6
 refine gv_nil<|gv_seq<|gv_region<|gv_pureN 3 [5,6,7] [(7,(.agg #[(.int .i64 a),(.int .i64 b)]))] (by kernel_rfl) ?_
 refine gv_store0 27 0 (.agg #[(.int .i64 a),(.int .i64 b)]) #[(.int .i64 a),(.int .i64 b)] hb4 (by kernel_rfl) (by kernel_rfl) (by kernel_rfl) ?_
 intro w7 hg8 hb9 hz10
 refine gv_nil<|gv_cret ?_
 refine gv_ret (gv_done [(.agg #[(.int .i64 a),(.int .i64 b)])] rfl ⟨⟨⟨b1,0,none⟩,(by kernel_rfl),run_loadVar_row w7 b1 _ 27 _ _ _ hb9 Tryz.underlying27 rfl (by kernel_rfl)⟩,trivial⟩ ?_)
 have hB11:=bg (Below.refl _ _) hg3 nb
 have hB13:=bg hB11 hg8 (rowlo (lob hbe5 (Nat.le_refl _)))
 exact ⟨grown_of_below hB13,rfl⟩
theorem recov24 (p q:Nat) (n:Int) {w:World} {c0 c1 c2 c3 c4 c5 c6 d0 d1:Value} (hp:Box w p 25 #[c0,c1,c2,c3,c4,c5,c6]) (hq:Box w q 27 #[d0,d1]) (hne:p≠q):
 Recov Tryz.prog 24 #[bp p,bp q] (.iface 46 (.agg #[.int .i64 n])) w fun w'=>∃ w1 w2,w.grownBy w1 none∧w1.grownBy w2 (some p)∧w2.grownBy w' (some q)∧
  Box w' p 25 #[(.int .i64 0),(.int .i64 0),(.int .i64 0),(.bool false),(.bool false),(.slice none 0 0),(.slice none 0 0)]∧Box w' q 27 #[(.int .i64 n),(.int .i64 (-1))]:=by
 refine recov_of (d0:=5) (d1:=2) (cap:=[bp p,bp q]) Tryz.func24 rfl Tryz.ntmps24 (by show 2≤20;decide) rfl rfl rfl rfl (by decide) (by decide) (by show 2≤5;decide) (by show 2≤2;decide) (fun _ _=>rfl) (fun _ _=>rfl) ?_
 refine gv_seq<|gv_region<|gv_pureN 2 [6,7] [(7,.bool true)] (by kernel_rfl) ?_
 refine gv_nil<|gv_cond (b:=true) (by kernel_rfl) (fun _=>?_) (fun h=>by cases h)
 refine gv_seq<|gv_region<|gv_pureN 5 [8,9,10,11,12] [(11,.agg #[.int .i64 n]),(12,.bool true)] (by kernel_rfl) ?_
 refine gv_new0 (fun b=>.pointer (some ⟨b,0,none⟩)) #[(.int .i64 0)] 46 (by kernel_rfl) (by kernel_rfl) ?_
 intro b w1 hg1 hb1 hbe1 hz1
 have hp1:=hp.grown hg1 nb
 have hq1:=hq.grown hg1 nb
 have hbp:p≠b:=Nat.ne_of_lt (by rw[hbe1];exact hp.lt)
 have hbq:q≠b:=Nat.ne_of_lt (by rw[hbe1];exact hq.lt)
 refine gv_store0 46 0 (.agg #[.int .i64 n]) #[.int .i64 n] hb1 (by kernel_rfl) (by kernel_rfl) (by kernel_rfl) ?_
 intro w2 hg2 hb2 hz2
 have hp2:=hp1.grown hg2 (fun g e=>by cases e;exact Ne.symm hbp)
 have hq2:=hq1.grown hg2 (fun g e=>by cases e;exact Ne.symm hbq)
 have hB2:Below w.heap.size w w2:=bg (bg (Below.refl _ _) hg1 nb) hg2 (fun g e=>by cases e;rw[hbe1];exact Nat.le_refl _)
 refine gv_pureN 1 [4] [(4,.bool true)] (by kernel_rfl) ?_
 refine gv_nil<|gv_seq<|gv_seq<|gv_region<|gv_pureN 2 [13,14] [(14,.bool false)] (by kernel_rfl) ?_
 refine gv_nil<|gv_cond (b:=false) (by kernel_rfl) (fun h=>by cases h) (fun _=>?_)
 refine gv_skip<|gv_region<|gv_pureN 2 [16,17] [(16,.agg #[(.int .i64 0),(.int .i64 0),(.int .i64 0),(.bool false),(.bool false),(.slice none 0 0),(.slice none 0 0)]),(17,bp b)] (by kernel_rfl) ?_
 refine gv_load (t:=3) (A:=⟨b,0,none⟩) (.int .i64 n) [] (fun e=>by cases e) rfl rfl rfl (by kernel_rfl) (by kernel_rfl) (by kernel_rfl) (inw0 (hb2.cell 0 rfl)) rfl ?_
 refine gv_call0 (by kernel_rfl) rfl (by kernel_rfl) entersAt (at_call n (-1) w2) ?_
 rintro v w3 ⟨hg3,rfl⟩
 have hp3:=hp2.grown hg3 nb
 have hq3:=hq2.grown hg3 nb
 refine gv_store0 25 0 (.agg #[(.int .i64 0),(.int .i64 0),(.int .i64 0),(.bool false),(.bool false),(.slice none 0 0),(.slice none 0 0)]) #[(.int .i64 0),(.int .i64 0),(.int .i64 0),(.bool false),(.bool false),(.slice none 0 0),(.slice none 0 0)] hp3 (by kernel_rfl) (by kernel_rfl) (by kernel_rfl) ?_
 intro w4 hg4 hp4 hz4
 have hq4:=hq3.grown hg4 (fun g e=>by cases e;exact hne)
 refine gv_store0 27 0 (.agg #[.int .i64 n,.int .i64 (-1)]) #[.int .i64 n,.int .i64 (-1)] hq4 (by kernel_rfl) (by kernel_rfl) (by kernel_rfl) ?_
 intro w5 hg5 hq5 hz5
 have hp5:=hp4.grown hg5 (fun g e=>by cases e;exact Ne.symm hne)
 refine gv_nil ?_
 exact gv_fall (gv_done [] rfl trivial ⟨⟨_,rfl⟩,w3,w4,grown_of_below (bg hB2 hg3 nb),hg4,hg5,hp5,hq5⟩)
end Go.Proofs.YtjhfmibjphdanaaGreatDoor
