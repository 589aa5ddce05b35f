import Derived.Test.YtmpmeiihjnnomaaGreatDoorProg
import Derived.Test.YtmpmeiihjnnomaaGreatDoorRc
import Derived.Test.YtmpmeiihjnnomaaGreatDoorGpc
set_option linter.all false
namespace Go.Proofs.YtmpmeiihjnnomaaGreatDoor
open Go.RowKit Go.Gv
set_option maxRecDepth 100000
theorem zoP (p q r:Value):zmc Tryz.prog 65 #[p,q,r]:=by
 refine zpu (d0:=6) (d1:=3) Tryz.func65 rfl Tryz.ntmps65 (by show 3<=19;decide) rfl rfl rfl rfl (by decide) (by decide) (fun _ _=>rfl) (fun _ _=>rfl) fun w=>?_
 refine gv_seq<|gv_region<|zxy 2 [7,8] [(8,.bool false)] (by kernel_rfl) ?_
 refine gv_nil<|gv_cond (b:=false) (by kernel_rfl) (fun h=>by cases h) (fun _=>?_)
 refine gv_skip ?_
 exact zqN (gv_done [] rfl trivial ⟨⟨_,rfl⟩,rfl⟩)
theorem zs9 (cap:Array Value) (w:World):(invoke (.fn (.func 65) cap) #[]).run Tryz.prog w= .ok (.enter 65 cap) w:=by
 have hn : ¬ (Tryz.f65.name = "runtime.NumGoroutine") := by decide
 have hb:¬ (Tryz.f65.body=none):=fun e=>by cases e
 simp[invoke,callFunc,Tryz.func65,hn,hb,program,Sem.run]
theorem znG:Go.Gv.Enters Tryz.prog 42:=⟨Tryz.f42,Tryz.func42,by kernel_rfl,by kernel_rfl⟩
theorem zmN (a b:Int) (w:World):Calls Tryz.prog 42 ([(.int .i64 a),(.int .i64 b)]:List Value).toArray w (Ret fun v w'=>w.grownBy w' none∧v= .agg #[.int .i64 a,.int .i64 b]):=by
 refine calls_run Tryz.func42 rfl Tryz.ntmps42 (by kernel_rfl) ?_
 refine gv_seq<|gv_region<|gv_new0 (fun b=>.pointer (some ⟨b,0,none⟩)) #[(.int .i64 0),(.int .i64 0)] 31 (by kernel_rfl) (by kernel_rfl) ?_
 intro b1 w2 hg3 h c hz6
 refine gv_nil<|gv_seq<|gv_region<|zxy 3 [5,6,7] [(7,(.agg #[(.int .i64 a),(.int .i64 b)]))] (by kernel_rfl) ?_
 refine gv_store0 31 0 (.agg #[(.int .i64 a),(.int .i64 b)]) #[(.int .i64 a),(.int .i64 b)] h (by kernel_rfl) (by kernel_rfl) (by kernel_rfl) ?_
 intro w7 g f i
 refine gv_nil<|gv_cret ?_
 refine gv_ret (gv_done [(.agg #[(.int .i64 a),(.int .i64 b)])] rfl ⟨⟨⟨b1,0,none⟩,(by kernel_rfl),run_loadVar_row w7 b1 _ 31 _ _ _ f Tryz.underlying31 rfl (by kernel_rfl)⟩,trivial⟩ ?_)
 have e:=bg (Below.refl _ _) hg3 nb
 have d:=bg e g (rowlo (lob c (Nat.le_refl _)))
 exact ⟨grown_of_below d,rfl⟩
theorem zjd (p q r:Nat) (_:Unit) {w:World} {c0 d0 e0 e1:Value} (hp:Box w p 34 #[c0]) (hq:Box w q 4 #[d0]) (hr:Box w r 31 #[e0,e1]) (hpq:p≠q) (hpr:p≠r) (hqr:q≠r):
 zjj Tryz.prog 65 #[bp p,bp q,bp r] (.iface 125 (.agg #[])) w fun w'=>∃ w1 w2 w3,w.grownBy w1 none∧w1.grownBy w2 (some p)∧w2.grownBy w3 (some q)∧w3.grownBy w' (some r)∧
  Box w' p 34 #[.slice none 0 0]∧Box w' q 4 #[.bool false]∧Box w' r 31 #[(.int .i64 21),(.int .i64 (-1))]:=by
 refine zlh (d0:=6) (d1:=3) (cap:=[bp p,bp q,bp r]) Tryz.func65 rfl Tryz.ntmps65 (by show 3<=19;decide) rfl rfl rfl rfl (by decide) (by decide) (by show 3<=6;decide) (by show 3<=3;decide) (fun _ _=>rfl) (fun _ _=>rfl) ?_
 refine gv_seq<|gv_region<|zxy 2 [7,8] [(8,.bool true)] (by kernel_rfl) ?_
 refine gv_nil<|gv_cond (b:=true) (by kernel_rfl) (fun _=>?_) (fun h=>by cases h)
 refine gv_seq<|gv_seq<|gv_region<|zxy 5 [9,10,11,12,13] [(12,.agg #[]),(13,.bool true)] (by kernel_rfl) ?_
 refine gv_new0 (fun b=>.pointer (some ⟨b,0,none⟩)) #[] 125 (by kernel_rfl) (by kernel_rfl) ?_
 intro b w1 hg1 i a hz1
 have z:=hp.grown hg1 nb
 have ad:=hq.grown hg1 nb
 have u:=hr.grown hg1 nb
 have ak:p≠b:=Nat.ne_of_lt (by rw[a];exact hp.lt)
 have af:q≠b:=Nat.ne_of_lt (by rw[a];exact hq.lt)
 have aj:r≠b:=Nat.ne_of_lt (by rw[a];exact hr.lt)
 refine gv_store0 125 0 (.agg #[]) #[] i (by kernel_rfl) (by kernel_rfl) (by kernel_rfl) ?_
 intro w2 hg2 hb2 hz2
 have j:=z.grown hg2 (fun g e=>by cases e;exact Ne.symm ak)
 have k:=ad.grown hg2 (fun g e=>by cases e;exact Ne.symm af)
 have ai:=u.grown hg2 (fun g e=>by cases e;exact Ne.symm aj)
 have y:Below w.heap.size w w2:=bg (bg (Below.refl _ _) hg1 nb) hg2 (fun g e=>by cases e;rw[a];exact Nat.le_refl _)
 refine zxy 1 [5] [(5,.bool true)] (by kernel_rfl) ?_
 refine gv_nil<|gv_seq<|gv_region<|zxy 2 [14,15] [(15,.bool false)] (by kernel_rfl) ?_
 refine gv_nil<|gv_cond (b:=false) (by kernel_rfl) (fun h=>by cases h) (fun _=>?_)
 refine gv_skip<|gv_region<|zxy 1 [17] [(17,.agg #[.slice none 0 0])] (by kernel_rfl) ?_
 refine gv_call0 (by kernel_rfl) rfl (by kernel_rfl) znG (zmN 21 (-1) w2) ?_
 rintro v w3 ⟨hg3,rfl⟩
 have n:=j.grown hg3 nb
 have ag:=k.grown hg3 nb
 have ac:=ai.grown hg3 nb
 refine gv_store0 34 0 (.agg #[.slice none 0 0]) #[.slice none 0 0] n (by kernel_rfl) (by kernel_rfl) (by kernel_rfl) ?_
 intro w4 f s hz4
 have x:=ag.grown f (fun g e=>by cases e;exact hpq)
 have ab:=ac.grown f (fun g e=>by cases e;exact hpr)
 refine gv_store0 4 0 (.bool false) #[.bool false] x (by kernel_rfl) (by kernel_rfl) (by kernel_rfl) ?_
 intro w5 c l hz5
 have t:=s.grown c (fun g e=>by cases e;exact Ne.symm hpq)
 have m:=ab.grown c (fun g e=>by cases e;exact hqr)
 refine gv_store0 31 0 (.agg #[.int .i64 21,.int .i64 (-1)]) #[.int .i64 21,.int .i64 (-1)] m (by kernel_rfl) (by kernel_rfl) (by kernel_rfl) ?_
 intro w6 d o hz6
 have ae:=t.grown d (fun g e=>by cases e;exact Ne.symm hpr)
 have aa:=l.grown d (fun g e=>by cases e;exact Ne.symm hqr)
 refine gv_nil ?_
 exact zqN (gv_done [] rfl trivial ⟨⟨_,rfl⟩,w3,w4,w5,grown_of_below (bg y hg3 nb),f,c,d,ae,aa,o⟩)
end Go.Proofs.YtmpmeiihjnnomaaGreatDoor
