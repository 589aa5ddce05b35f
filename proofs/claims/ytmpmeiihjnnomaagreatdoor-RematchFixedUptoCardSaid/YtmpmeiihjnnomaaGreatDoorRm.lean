import Derived.Test.YtmpmeiihjnnomaaGreatDoorProg
import Derived.Test.YtmpmeiihjnnomaaGreatDoorRc
import Derived.Test.YtmpmeiihjnnomaaGreatDoorGpc
/- Own work: the closure that rematch.run defers: it does nothing at a return, and takes the panic of a search that takes too long. -/
set_option linter.all false
namespace Go.Proofs.YtmpmeiihjnnomaaGreatDoor
open Go.RowKit Go.Gv
set_option maxRecDepth 100000
theorem inert65 (p q r:Value):Inert Tryz.prog 65 #[p,q,r]:=by
 refine inert_of (d0:=6) (d1:=3) Tryz.func65 rfl Tryz.ntmps65 (by show 3≤19;decide) rfl rfl rfl rfl (by decide) (by decide) (fun _ _=>rfl) (fun _ _=>rfl) fun w=>?_
 refine gv_seq<|gv_region<|gv_pureN 2 [7,8] [(8,.bool false)] (by kernel_rfl) ?_
 refine gv_nil<|gv_cond (b:=false) (by kernel_rfl) (fun h=>by cases h) (fun _=>?_)
 refine gv_skip ?_
 exact gv_fall (gv_done [] rfl trivial ⟨⟨_,rfl⟩,rfl⟩)
theorem invoke65 (cap:Array Value) (w:World):(invoke (.fn (.func 65) cap) #[]).run Tryz.prog w= .ok (.enter 65 cap) w:=by
 have hn : ¬ (Tryz.f65.name = "runtime.NumGoroutine") := by decide
 have hb:¬ (Tryz.f65.body=none):=fun e=>by cases e
 simp[invoke,callFunc,Tryz.func65,hn,hb,program,Sem.run]
theorem entersAtM:Go.Gv.Enters Tryz.prog 42:=⟨Tryz.f42,Tryz.func42,by kernel_rfl,by kernel_rfl⟩
theorem at_callM (a b:Int) (w:World):Calls Tryz.prog 42 ([(.int .i64 a),(.int .i64 b)]:List Value).toArray w (Ret fun v w'=>w.grownBy w' none∧v= .agg #[.int .i64 a,.int .i64 b]):=by
 refine calls_run Tryz.func42 rfl Tryz.ntmps42 (by kernel_rfl) ?_
 refine gv_seq<|gv_region<|gv_new0 (fun b=>.pointer (some ⟨b,0,none⟩)) #[(.int .i64 0),(.int .i64 0)] 31 (by kernel_rfl) (by kernel_rfl) ?_
 intro b1 w2 hg3 hb4 hbe5 hz6
 refine gv_nil<|gv_seq<|gv_region<|gv_pureN 3 [5,6,7] [(7,(.agg #[(.int .i64 a),(.int .i64 b)]))] (by kernel_rfl) ?_
 refine gv_store0 31 0 (.agg #[(.int .i64 a),(.int .i64 b)]) #[(.int .i64 a),(.int .i64 b)] hb4 (by kernel_rfl) (by kernel_rfl) (by kernel_rfl) ?_
 intro w7 hg8 hb9 hz10
 refine gv_nil<|gv_cret ?_
 refine gv_ret (gv_done [(.agg #[(.int .i64 a),(.int .i64 b)])] rfl ⟨⟨⟨b1,0,none⟩,(by kernel_rfl),run_loadVar_row w7 b1 _ 31 _ _ _ hb9 Tryz.underlying31 rfl (by kernel_rfl)⟩,trivial⟩ ?_)
 have hB11:=bg (Below.refl _ _) hg3 nb
 have hB13:=bg hB11 hg8 (rowlo (lob hbe5 (Nat.le_refl _)))
 exact ⟨grown_of_below hB13,rfl⟩
theorem recov65 (p q r:Nat) (_:Unit) {w:World} {c0 d0 e0 e1:Value} (hp:Box w p 34 #[c0]) (hq:Box w q 4 #[d0]) (hr:Box w r 31 #[e0,e1]) (hpq:p≠q) (hpr:p≠r) (hqr:q≠r):
 Recov Tryz.prog 65 #[bp p,bp q,bp r] (.iface 125 (.agg #[])) w fun w'=>∃ w1 w2 w3,w.grownBy w1 none∧w1.grownBy w2 (some p)∧w2.grownBy w3 (some q)∧w3.grownBy w' (some r)∧
  Box w' p 34 #[.slice none 0 0]∧Box w' q 4 #[.bool false]∧Box w' r 31 #[(.int .i64 21),(.int .i64 (-1))]:=by
 refine recov_of (d0:=6) (d1:=3) (cap:=[bp p,bp q,bp r]) Tryz.func65 rfl Tryz.ntmps65 (by show 3≤19;decide) rfl rfl rfl rfl (by decide) (by decide) (by show 3≤6;decide) (by show 3≤3;decide) (fun _ _=>rfl) (fun _ _=>rfl) ?_
 refine gv_seq<|gv_region<|gv_pureN 2 [7,8] [(8,.bool true)] (by kernel_rfl) ?_
 refine gv_nil<|gv_cond (b:=true) (by kernel_rfl) (fun _=>?_) (fun h=>by cases h)
 refine gv_seq<|gv_seq<|gv_region<|gv_pureN 5 [9,10,11,12,13] [(12,.agg #[]),(13,.bool true)] (by kernel_rfl) ?_
 refine gv_new0 (fun b=>.pointer (some ⟨b,0,none⟩)) #[] 125 (by kernel_rfl) (by kernel_rfl) ?_
 intro b w1 hg1 hb1 hbe1 hz1
 have hp1:=hp.grown hg1 nb
 have hq1:=hq.grown hg1 nb
 have hr1:=hr.grown hg1 nb
 have hbp:p≠b:=Nat.ne_of_lt (by rw[hbe1];exact hp.lt)
 have hbq:q≠b:=Nat.ne_of_lt (by rw[hbe1];exact hq.lt)
 have hbr:r≠b:=Nat.ne_of_lt (by rw[hbe1];exact hr.lt)
 refine gv_store0 125 0 (.agg #[]) #[] hb1 (by kernel_rfl) (by kernel_rfl) (by kernel_rfl) ?_
 intro w2 hg2 hb2 hz2
 have hp2:=hp1.grown hg2 (fun g e=>by cases e;exact Ne.symm hbp)
 have hq2:=hq1.grown hg2 (fun g e=>by cases e;exact Ne.symm hbq)
 have hr2:=hr1.grown hg2 (fun g e=>by cases e;exact Ne.symm hbr)
 have hB2:Below w.heap.size w w2:=bg (bg (Below.refl _ _) hg1 nb) hg2 (fun g e=>by cases e;rw[hbe1];exact Nat.le_refl _)
 refine gv_pureN 1 [5] [(5,.bool true)] (by kernel_rfl) ?_
 refine gv_nil<|gv_seq<|gv_region<|gv_pureN 2 [14,15] [(15,.bool false)] (by kernel_rfl) ?_
 refine gv_nil<|gv_cond (b:=false) (by kernel_rfl) (fun h=>by cases h) (fun _=>?_)
 refine gv_skip<|gv_region<|gv_pureN 1 [17] [(17,.agg #[.slice none 0 0])] (by kernel_rfl) ?_
 refine gv_call0 (by kernel_rfl) rfl (by kernel_rfl) entersAtM (at_callM 21 (-1) w2) ?_
 rintro v w3 ⟨hg3,rfl⟩
 have hp3:=hp2.grown hg3 nb
 have hq3:=hq2.grown hg3 nb
 have hr3:=hr2.grown hg3 nb
 refine gv_store0 34 0 (.agg #[.slice none 0 0]) #[.slice none 0 0] hp3 (by kernel_rfl) (by kernel_rfl) (by kernel_rfl) ?_
 intro w4 hg4 hp4 hz4
 have hq4:=hq3.grown hg4 (fun g e=>by cases e;exact hpq)
 have hr4:=hr3.grown hg4 (fun g e=>by cases e;exact hpr)
 refine gv_store0 4 0 (.bool false) #[.bool false] hq4 (by kernel_rfl) (by kernel_rfl) (by kernel_rfl) ?_
 intro w5 hg5 hq5 hz5
 have hp5:=hp4.grown hg5 (fun g e=>by cases e;exact Ne.symm hpq)
 have hr5:=hr4.grown hg5 (fun g e=>by cases e;exact hqr)
 refine gv_store0 31 0 (.agg #[.int .i64 21,.int .i64 (-1)]) #[.int .i64 21,.int .i64 (-1)] hr5 (by kernel_rfl) (by kernel_rfl) (by kernel_rfl) ?_
 intro w6 hg6 hr6 hz6
 have hp6:=hp5.grown hg6 (fun g e=>by cases e;exact Ne.symm hpr)
 have hq6:=hq5.grown hg6 (fun g e=>by cases e;exact Ne.symm hqr)
 refine gv_nil ?_
 exact gv_fall (gv_done [] rfl trivial ⟨⟨_,rfl⟩,w3,w4,w5,grown_of_below (bg hB2 hg3 nb),hg4,hg5,hg6,hp6,hq6,hr6⟩)
end Go.Proofs.YtmpmeiihjnnomaaGreatDoor
