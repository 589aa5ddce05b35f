import Derived.Test.YtlclmpegnkomcaaDoorP1
set_option linter.all false
set_option maxHeartbeats 4000000
set_option maxRecDepth 100000
/- Own work, printed by a program of mine: the walk of each function: a call returns what the plain function says. -/
namespace Go.Proofs.YtlclmpegnkomcaaDoor
open Go.Gv Go.Gv.D Go.RowKit
theorem law4_BytestrCodes_ok (fuel : Nat) (s_0 : ByteArray) (pa1_0 : Option Addr) (pc1_0 : Nat) (b_1 : (List UInt8)) (coding_2 : Int) (mode_3 : Int) (w0 : World) (X0 : Nat → Prop) (hX0 : ∀ k, X0 k → k < w0.heap.size) (hpa1_0 : Rd bE w0 X0 pa1_0 pc1_0 b_1) (hG0 : Rd bE w0 X0 (some ⟨0, 0, none⟩) 256 utf8First) (hG1 : Rd (prE (iE .u8) (iE .u8)) w0 X0 (some ⟨1, 0, none⟩) 16 utf8Acc) (r0 : Bool) (h0 : law4_BytestrCodes fuel s_0 b_1 coding_2 mode_3 = some r0) :
    Calls Tryd.prog 5 ([(.string s_0), (.slice pa1_0 (List.length b_1) pc1_0), (.int .i64 coding_2), (.int .i64 mode_3)] : List Value).toArray w0 (Ret fun v w' => w0.grownBy w' none ∧ v = tup [(.bool r0)]) := by
 have hB0 : Below w0.heap.size w0 w0 := Below.refl _ _
 unfold law4_BytestrCodes at h0
 refine calls_run Tryd.func5 rfl Tryd.ntmps5 (by kernel_rfl) ?_
 refine gv_sub [0, 1, 2, 3] (σ' := [(0, (.string s_0)), (1, (.slice pa1_0 (List.length b_1) pc1_0)), (2, (.int .i64 coding_2)), (3, (.int .i64 mode_3))]) (by kernel_rfl) ?_
 refine gv_seq <| gv_region <| gv_pureN 1 [8] [] (by kernel_rfl) ?_
 refine gv_nil <| gv_seq <| gv_region <| gv_pureN 2 [24, 25] [(24, (.string s_0)), (25, (.int .i64 coding_2))] (by kernel_rfl) ?_
 refine bindE h0 ?_; clear h0; intro r1 hr2 h0
 refine gv_call0 (by kernel_rfl) rfl (by kernel_rfl) enters22 (bytestr_Encode_ok fuel s_0 coding_2 w0 (fun k => X0 k ∨ X0 k) (fun k hk => (hk).elim (fun h => (fun k (hk : X0 k) => ltl (hX0 k hk) hB0.size) k h) (fun h => (fun k (hk : X0 k) => ltl (hX0 k hk) hB0.size) k h)) ((hG0.below hB0 hX0).wide (fun k hk => (.inl hk))) ((hG1.below hB0 hX0).wide (fun k hk => (.inr hk))) r1 hr2) ?_
 rintro v5 w3 ⟨hg4, a6, c7, X9, rfl, ho8, hx10⟩
 have hx11 : ∀ k, X9 k → k < w3.heap.size := fun k hk => (hx10 k hk).1
 have hx12 : ∀ k, X9 k → X0 k ∨ w0.heap.size ≤ k := fun k hk => (hx10 k hk).2.elim (fun h => (h).elim (fun h => (fun k (hk : X0 k) => Or.inl hk) k h) (fun h => (fun k (hk : X0 k) => Or.inl hk) k h)) (fun h => .inr (Nat.le_trans hB0.size h))
 refine gv_pureN 3 [23, 27, 28] [(27, (.slice a6 (List.length r1.1) c7)), (28, (.agg #[(.int .i64 r1.2.1), (.int .i64 r1.2.2)]))] (by kernel_rfl) ?_
 refine gv_new0 (fun b => .pointer (some ⟨b, 0, none⟩)) #[(.int .i64 0), (.int .i64 0)] 25 (by kernel_rfl) (by kernel_rfl) ?_
 intro b13 w14 hg15 hb16 hbe17 hz18
 refine gv_pureN 1 [9] [(9, (.slice a6 (List.length r1.1) c7))] (by kernel_rfl) ?_
 refine gv_store0 25 0 (.agg #[(.int .i64 r1.2.1), (.int .i64 r1.2.2)]) #[(.int .i64 r1.2.1), (.int .i64 r1.2.2)] hb16 (by kernel_rfl) (by kernel_rfl) (by kernel_rfl) ?_
 intro w19 hg20 hb21 hz22
 refine gv_nil <| gv_seq <| gv_region <| gv_pureN 3 [30, 31, 32] [(30, (.slice pa1_0 (List.length b_1) pc1_0)), (31, (.int .i64 coding_2)), (32, (.int .i64 mode_3))] (by kernel_rfl) ?_
 refine bindE h0 ?_; clear h0; intro r23 hr24 h0
 have hg25 := (grown_trans hg4 hg15)
 have hB26 := bg hB0 hg25 nb
 have hB27 := bg hB0 hg4 nb
 have hlo28 : w0.heap.size ≤ b13 := lob hbe17 hB27.size
 have hB29 := bg hB26 hg20 (rowlo hlo28)
 refine gv_call0 (by kernel_rfl) rfl (by kernel_rfl) enters23 (bytestr_Decode_ok fuel pa1_0 pc1_0 b_1 coding_2 mode_3 w19 (fun k => X0 k ∨ X0 k ∨ X0 k) (fun k hk => (hk).elim (fun h => (fun k (hk : X0 k) => ltl (hX0 k hk) hB29.size) k h) (fun h => (h).elim (fun h => (fun k (hk : X0 k) => ltl (hX0 k hk) hB29.size) k h) (fun h => (fun k (hk : X0 k) => ltl (hX0 k hk) hB29.size) k h))) ((hpa1_0.below hB29 hX0).wide (fun k hk => (.inl hk))) ((hG0.below hB29 hX0).wide (fun k hk => (.inr (.inl hk)))) ((hG1.below hB29 hX0).wide (fun k hk => (.inr (.inr hk)))) r23 hr24) ?_
 rintro v32 w30 ⟨hg31, rfl⟩
 refine gv_pureN 3 [29, 34, 35] [(34, (.string r23.1)), (35, (.agg #[(.int .i64 r23.2.1), (.int .i64 r23.2.2)]))] (by kernel_rfl) ?_
 refine gv_new0 (fun b => .pointer (some ⟨b, 0, none⟩)) #[(.int .i64 0), (.int .i64 0)] 25 (by kernel_rfl) (by kernel_rfl) ?_
 intro b33 w34 hg35 hb36 hbe37 hz38
 refine gv_pureN 1 [11] [(11, (.string r23.1))] (by kernel_rfl) ?_
 refine gv_store0 25 0 (.agg #[(.int .i64 r23.2.1), (.int .i64 r23.2.2)]) #[(.int .i64 r23.2.1), (.int .i64 r23.2.2)] hb36 (by kernel_rfl) (by kernel_rfl) (by kernel_rfl) ?_
 intro w39 hg40 hb41 hz42
 refine gv_nil <| gv_seq <| gv_seq <| gv_region <| bindE h0 ?_; clear h0; intro r43 hr44 h0
 have hg45 := (grown_trans hg31 hg35)
 have hB46 := bg hB29 hg45 nb
 have hB47 := bg hB29 hg31 nb
 have hlo48 : w0.heap.size ≤ b33 := lob hbe37 hB47.size
 have hB49 := bg hB46 hg40 (rowlo hlo48)
 refine gv_call0 (by kernel_rfl) rfl (by kernel_rfl) enters11 (law4_bytesOf_ok fuel  w39 (fun k => X0 k ∨ X0 k) (fun k hk => (hk).elim (fun h => (fun k (hk : X0 k) => ltl (hX0 k hk) hB49.size) k h) (fun h => (fun k (hk : X0 k) => ltl (hX0 k hk) hB49.size) k h)) ((hG0.below hB49 hX0).wide (fun k hk => (.inl hk))) ((hG1.below hB49 hX0).wide (fun k hk => (.inr hk))) r43 hr44) ?_
 rintro v52 w50 ⟨hg51, rfl⟩
 refine gv_pureN 1 [37] [(37, (.bool (!r43)))] (by kernel_rfl) ?_
 refine gv_sub [0, 1, 2, 3, 9, 10, 11, 12, 37] (σ' := [(0, (.string s_0)), (1, (.slice pa1_0 (List.length b_1) pc1_0)), (2, (.int .i64 coding_2)), (3, (.int .i64 mode_3)), (9, (.slice a6 (List.length r1.1) c7)), (10, (bp b13)), (11, (.string r23.1)), (12, (bp b33)), (37, (.bool (!r43)))]) (by kernel_rfl) ?_
 refine gv_nil <| gv_cond (b := (!r43)) (by kernel_rfl) (fun hc53 => ?_) (fun hc53 => ?_)
 ·replace h0 := ite_t hc53 h0
  refine gv_seq <| gv_region <| gv_pureN 1 [8] [(8, (.bool false))] (by kernel_rfl) ?_
  refine gv_nil <| gv_cret ?_
  have e := sj h0; subst e
  refine gv_ret (gv_done [(.bool false)] rfl ⟨(by kernel_rfl), trivial⟩ ?_)
  have hB54 := bg hB49 hg51 nb
  exact ⟨grown_of_below hB54, rfl⟩
 ·replace h0 := ite_f hc53 h0
  refine gv_skip <| gv_seq <| gv_region <| gv_cut_ops (J := fun a w55 => w50 = w55 ∧ a.defers = [] ∧ a.tmps.size = 157 ∧ Ok [(0, (.string s_0)), (1, (.slice pa1_0 (List.length b_1) pc1_0)), (2, (.int .i64 coding_2)), (3, (.int .i64 mode_3)), (9, (.slice a6 (List.length r1.1) c7)), (10, (bp b13)), (11, (.string r23.1)), (12, (bp b33)), (13, (.bool ((decide (coding_2 ≥ 0)) && (decide (coding_2 ≤ 2)))))] a.tmps) ?_ ?_
  ·skip
   refine gv_pureN 3 [38, 39, 40] [(40, (.bool (decide (coding_2 ≥ 0))))] (by kernel_rfl) ?_
   refine gv_split (s := 40) (g := (decide (coding_2 ≥ 0))) (by kernel_rfl) (fun hc56 => ?_) (fun hc56 => ?_)
   ·skip
    refine gv_pureN 4 [13, 41, 42, 43] [(13, (.bool (decide (coding_2 ≤ 2))))] (by kernel_rfl) ?_
    refine gv_nil <| gv_sub [0, 1, 2, 3, 9, 10, 11, 12, 13] (σ' := [(0, (.string s_0)), (1, (.slice pa1_0 (List.length b_1) pc1_0)), (2, (.int .i64 coding_2)), (3, (.int .i64 mode_3)), (9, (.slice a6 (List.length r1.1) c7)), (10, (bp b13)), (11, (.string r23.1)), (12, (bp b33)), (13, (.bool (decide (coding_2 ≤ 2))))]) (by kernel_rfl) ?_
    refine gv_goal fun a hd hs hok => ⟨rfl, hd, hs, ?_⟩
    obtain ⟨q0, q1, q2, q3, q9, q10, q11, q12, q13, _⟩ := hok
    exact ⟨q0, q1, q2, q3, q9, q10, q11, q12, (by rw [hc56]; exact q13), trivial⟩
   ·skip
    refine gv_pureN 4 [13, 41, 42, 43] [(13, (.bool false))] (by kernel_rfl) ?_
    refine gv_nil <| gv_sub [0, 1, 2, 3, 9, 10, 11, 12, 13] (σ' := [(0, (.string s_0)), (1, (.slice pa1_0 (List.length b_1) pc1_0)), (2, (.int .i64 coding_2)), (3, (.int .i64 mode_3)), (9, (.slice a6 (List.length r1.1) c7)), (10, (bp b13)), (11, (.string r23.1)), (12, (bp b33)), (13, (.bool false))]) (by kernel_rfl) ?_
    refine gv_goal fun a hd hs hok => ⟨rfl, hd, hs, ?_⟩
    obtain ⟨q0, q1, q2, q3, q9, q10, q11, q12, q13, _⟩ := hok
    exact ⟨q0, q1, q2, q3, q9, q10, q11, q12, (by rw [hc56]; exact q13), trivial⟩
  ·rintro a w55 ⟨e, hd, hs, hok⟩; subst e
   refine gv_in ?_ hd hs hok
   clear hd hs hok
   refine gv_seq <| gv_region <| gv_pureN 1 [44] [(44, (.string s_0))] (by kernel_rfl) ?_
   refine gv_new0 (fun b => .slice (some ⟨b, 0, none⟩) 1 1) #[(.string s_0)] 9 (by kernel_rfl) (by kernel_rfl) ?_
   intro b57 w58 hg59 hb60 hbe61 hz62
   have ho63 : Gv.Own sE 9 w58 (fun _ => False) (some ⟨b57, 0, none⟩) 1 ([s_0] : List ByteArray) := Box.ownE hb60 ⟨[(.string s_0)], [], rfl, rfl, rfl⟩ (show 1 ≤ maxLen by decide) (fun h => h)
   have hB68 := bg hB49 hg51 nb
   have hl64 : ∀ g, blk (some ⟨b57, 0, none⟩) = some g → w0.heap.size ≤ g := loo hbe61 hB68.size
   clear hz62 hb60 hc53 hB49 hB47 hB46 hg45 hr44 hz42 hz38 hb36 hB29 hB27 hB26 hg25 hr24 hz22 hz18 hb16 hx10 hg4 hr2
   refine bindE h0 ?_; clear h0; intro r69 hr70 h0
   refine gv_call0 (by kernel_rfl) rfl (by kernel_rfl) enters24 (ref4_TextFaults_ok fuel (some ⟨b57, 0, none⟩) 1 ([s_0] : List ByteArray) w58 (fun k => (fun k => blk (some ⟨b57, 0, none⟩) = some k) k) (fun k hk => (fun k (hk : blk (some ⟨b57, 0, none⟩) = some k) => ho63.lt k hk) k hk) ((ho63.rd (Y := fun k => blk (some ⟨b57, 0, none⟩) = some k) (fun _ h => h.elim) (fun g e => e)).wide (fun k hk => hk)) r69 hr70) ?_
   rintro v73 w71 ⟨hg72, rfl⟩
   refine gv_new0 (fun b => .pointer (some ⟨b, 0, none⟩)) #[(.int .i64 0), (.int .i64 0)] 25 (by kernel_rfl) (by kernel_rfl) ?_
   intro b74 w75 hg76 hb77 hbe78 hz79
   refine gv_store0 25 0 (.agg #[(.int .i64 r69.1), (.int .i64 r69.2)]) #[(.int .i64 r69.1), (.int .i64 r69.2)] hb77 (by kernel_rfl) (by kernel_rfl) (by kernel_rfl) ?_
   intro w80 hg81 hb82 hz83
   refine gv_nil <| gv_seq <| gv_seq <| gv_region <| bindE h0 ?_; clear h0; intro j84 h1 h0
   refine gv_cut_ops (J := fun a w85 => Below w0.heap.size w0 w85 ∧ w80.heap.size ≤ w85.heap.size ∧ Box w85 b13 25 #[(.int .i64 r1.2.1), (.int .i64 r1.2.2)] ∧ Box w85 b33 25 #[(.int .i64 r23.2.1), (.int .i64 r23.2.2)] ∧ Box w85 b74 25 #[(.int .i64 r69.1), (.int .i64 r69.2)] ∧ Rd bE w85 X9 a6 c7 r1.1 ∧ a.defers = [] ∧ a.tmps.size = 157 ∧ Ok [(0, (.string s_0)), (1, (.slice pa1_0 (List.length b_1) pc1_0)), (2, (.int .i64 coding_2)), (3, (.int .i64 mode_3)), (9, (.slice a6 (List.length r1.1) c7)), (10, (bp b13)), (11, (.string r23.1)), (12, (bp b33)), (13, (.bool ((decide (coding_2 ≥ 0)) && (decide (coding_2 ≤ 2))))), (14, (bp b74)), (53, (.bool j84))] a.tmps) ?_ ?_
   ·skip
    refine gv_pureN 1 [47] [(47, (bp b74))] (by kernel_rfl) ?_
    refine gv_load (t := 3) (A := ⟨b74, 0, none⟩) (.int .i64 r69.1) [] (fun e => by cases e) rfl rfl rfl (by kernel_rfl) (by kernel_rfl) (by kernel_rfl) (inw0 (hb82.cell 0 rfl)) rfl ?_
    refine gv_pureN 2 [49, 50] [(50, (.bool (r69.1 == 0)))] (by kernel_rfl) ?_
    refine gv_split (s := 50) (g := (r69.1 == 0)) (by kernel_rfl) (fun hc86 => ?_) (fun hc86 => ?_)
    ·skip
     replace h1 := ite_t hc86 h1
     refine gv_pureN 3 [51, 52, 53] [(53, (.bool (!((decide (coding_2 ≥ 0)) && (decide (coding_2 ≤ 2))))))] (by kernel_rfl) ?_
     refine gv_nil ?_
     have e := sj h1; subst e
     refine gv_goal fun a hd hs hok => ?_
     have hg87 := (grown_trans (grown_trans hg59 hg72) hg76)
     have hB88 := bg hB68 hg87 nb
     have hg89 := (grown_trans hg59 hg72)
     have hB90 := bg hB68 hg89 nb
     have hlo91 : w0.heap.size ≤ b74 := lob hbe78 hB90.size
     have hB92 := bg hB88 hg81 (rowlo hlo91)
     have hg93 := (grown_trans hg31 hg35)
     have hk94 := hb21.grown hg31 nb
     have lt95 := ltl ((ltb hk94) _ rfl) ((lowb hbe37) _ rfl)
     have hg96 := (grown_trans hg51 hg87)
     have hg97 := (grown_trans hg51 hg89)
     have hk98 := hb41.grown hg97 nb
     have lt99 := ltl ((ltb hk98) _ rfl) ((lowb hbe78) _ rfl)
     have lt100 := ltt lt95 lt99
     have hk101 := (((hb21.grown hg93 nb).grown hg40 (rowne (ng lt95))).grown hg96 nb).grown hg81 (rowne (ng lt100))
     have hk102 := (hk98.grown hg76 nb).grown hg81 (rowne (ng lt99))
     have ap103 : ¬ X9 b13 := fun hx => nl ((lowb hbe17) _ rfl) (hx11 _ hx)
     have hx104 := ltx hx11 hg15.size
     have hx105 := ltx hx104 hg20.size
     have hx106 := ltx hx105 hg31.size
     have ap107 : ¬ X9 b33 := fun hx => nl ((lowb hbe37) _ rfl) (hx106 _ hx)
     have hx108 := ltx hx106 hg35.size
     have hx109 := ltx hx108 hg40.size
     have hx110 := ltx hx109 hg97.size
     have ap111 : ¬ X9 b74 := fun hx => nl ((lowb hbe78) _ rfl) (hx110 _ hx)
     have hx112 := ltx hx110 hg76.size
     have hk113 := (((((ho8.grown hg15 hx11 nb).grown hg20 hx104 (rowne ap103)).grown hg93 hx105 nb).grown hg40 hx108 (rowne ap107)).grown hg96 hx109 nb).grown hg81 hx112 (rowne ap111)
     exact ⟨hB92, (Nat.le_refl _), hk101, hk102, hb82, hk113, hd, hs, ok_pick [0, 1, 2, 3, 9, 10, 11, 12, 13, 14, 53] hok (by kernel_rfl)⟩
    ·skip
     replace h1 := ite_f hc86 h1
     refine gv_pureN 3 [51, 52, 53] [(53, (.bool false))] (by kernel_rfl) ?_
     refine gv_nil ?_
     have e := sj h1; subst e
     refine gv_goal fun a hd hs hok => ?_
     have hg114 := (grown_trans (grown_trans hg59 hg72) hg76)
     have hB115 := bg hB68 hg114 nb
     have hg116 := (grown_trans hg59 hg72)
     have hB117 := bg hB68 hg116 nb
     have hlo118 : w0.heap.size ≤ b74 := lob hbe78 hB117.size
     have hB119 := bg hB115 hg81 (rowlo hlo118)
     have hg120 := (grown_trans hg31 hg35)
     have hk121 := hb21.grown hg31 nb
     have lt122 := ltl ((ltb hk121) _ rfl) ((lowb hbe37) _ rfl)
     have hg123 := (grown_trans hg51 hg114)
     have hg124 := (grown_trans hg51 hg116)
     have hk125 := hb41.grown hg124 nb
     have lt126 := ltl ((ltb hk125) _ rfl) ((lowb hbe78) _ rfl)
     have lt127 := ltt lt122 lt126
     have hk128 := (((hb21.grown hg120 nb).grown hg40 (rowne (ng lt122))).grown hg123 nb).grown hg81 (rowne (ng lt127))
     have hk129 := (hk125.grown hg76 nb).grown hg81 (rowne (ng lt126))
     have ap130 : ¬ X9 b13 := fun hx => nl ((lowb hbe17) _ rfl) (hx11 _ hx)
     have hx131 := ltx hx11 hg15.size
     have hx132 := ltx hx131 hg20.size
     have hx133 := ltx hx132 hg31.size
     have ap134 : ¬ X9 b33 := fun hx => nl ((lowb hbe37) _ rfl) (hx133 _ hx)
     have hx135 := ltx hx133 hg35.size
     have hx136 := ltx hx135 hg40.size
     have hx137 := ltx hx136 hg124.size
     have ap138 : ¬ X9 b74 := fun hx => nl ((lowb hbe78) _ rfl) (hx137 _ hx)
     have hx139 := ltx hx137 hg76.size
     have hk140 := (((((ho8.grown hg15 hx11 nb).grown hg20 hx131 (rowne ap130)).grown hg120 hx132 nb).grown hg40 hx135 (rowne ap134)).grown hg123 hx136 nb).grown hg81 hx139 (rowne ap138)
     exact ⟨hB119, (Nat.le_refl _), hk128, hk129, hb82, hk140, hd, hs, ok_pick [0, 1, 2, 3, 9, 10, 11, 12, 13, 14, 53] hok (by kernel_rfl)⟩
   ·rintro a w85 ⟨hB141, hz142, hb143, hb144, hb145, hk146, hd, hs, hok⟩
    refine gv_in ?_ hd hs hok
    clear hd hs hok
    clear hz83 hb82 hz79 hb77 hr70 hl64 ho63 hbe61 ho8
    refine bindE h0 ?_; clear h0; intro j147 h1 h0
    refine gv_cut_code (J := fun a w148 => Below w0.heap.size w0 w148 ∧ w85.heap.size ≤ w148.heap.size ∧ Box w148 b13 25 #[(.int .i64 r1.2.1), (.int .i64 r1.2.2)] ∧ Box w148 b33 25 #[(.int .i64 r23.2.1), (.int .i64 r23.2.2)] ∧ Box w148 b74 25 #[(.int .i64 j147.1), (.int .i64 j147.2)] ∧ Rd bE w148 X9 a6 c7 r1.1 ∧ a.defers = [] ∧ a.tmps.size = 157 ∧ Ok [(0, (.string s_0)), (1, (.slice pa1_0 (List.length b_1) pc1_0)), (2, (.int .i64 coding_2)), (3, (.int .i64 mode_3)), (9, (.slice a6 (List.length r1.1) c7)), (10, (bp b13)), (11, (.string r23.1)), (12, (bp b33)), (13, (.bool ((decide (coding_2 ≥ 0)) && (decide (coding_2 ≤ 2))))), (14, (bp b74))] a.tmps) ?_ ?_
    ·skip
     refine gv_cond (b := j84) (by kernel_rfl) (fun hc149 => ?_) (fun hc149 => ?_)
     ·replace h1 := ite_t hc149 h1
      refine gv_region <| bindE h1 ?_; clear h1; intro r150 hr151 h1
      refine gv_call0 (by kernel_rfl) rfl (by kernel_rfl) enters12 (ref4_At_ok fuel 5 (-2) w85  r150 hr151) ?_
      rintro v154 w152 ⟨hg153, rfl⟩
      have hk159 := hb145.grown hg153 nb
      refine gv_store0 25 0 (.agg #[(.int .i64 r150.1), (.int .i64 r150.2)]) #[(.int .i64 r150.1), (.int .i64 r150.2)] hk159 (by kernel_rfl) (by kernel_rfl) (by kernel_rfl) ?_
      intro w155 hg156 hb157 hz158
      refine gv_nil ?_
      have e := sj h1; subst e
      refine gv_goal fun a hd hs hok => ?_
      have hB160 := bg hB141 hg153 nb
      have hg161 := (grown_trans hg59 hg72)
      have hB162 := bg hB68 hg161 nb
      have hlo163 : w0.heap.size ≤ b74 := lob hbe78 hB162.size
      have hB164 := bg hB160 hg156 (rowlo hlo163)
      have hz165 := (nt hg153.size hg156.size)
      have hk166 := hb21.grown hg31 nb
      have lt167 := ltl ((ltb hk166) _ rfl) ((lowb hbe37) _ rfl)
      have hg168 := (grown_trans hg51 hg161)
      have hk169 := hb41.grown hg168 nb
      have lt170 := ltl ((ltb hk169) _ rfl) ((lowb hbe78) _ rfl)
      have lt171 := ltt lt167 lt170
      have hk172 := (hb143.grown hg153 nb).grown hg156 (rowne (ng lt171))
      have hk173 := (hb144.grown hg153 nb).grown hg156 (rowne (ng lt170))
      have hg174 := (grown_trans hg31 hg35)
      have hg175 := (grown_trans hg168 hg76)
      have hx176 := ltx (ltx (ltx (ltx (ltx (ltx hx11 hg15.size) hg20.size) hg174.size) hg40.size) hg175.size) hg81.size
      have hx177 := ltx (ltx (ltx (ltx (ltx hx11 hg15.size) hg20.size) hg174.size) hg40.size) hg168.size
      have ap178 : ¬ X9 b74 := fun hx => nl ((lowb hbe78) _ rfl) (hx177 _ hx)
      have hx179 := ltx (fun k hk => ltl (hx176 k hk) hz142) hg153.size
      have hk180 := (hk146.grown hg153 (fun k hk => ltl (hx176 k hk) hz142) nb).grown hg156 hx179 (rowne ap178)
      exact ⟨hB164, hz165, hk172, hk173, hb157, hk180, hd, hs, ok_pick [0, 1, 2, 3, 9, 10, 11, 12, 13, 14] hok (by kernel_rfl)⟩
     ·replace h1 := ite_f hc149 h1
      refine gv_skip ?_
      have e := sj h1; subst e
      refine gv_goal fun a hd hs hok => ?_
      exact ⟨hB141, (Nat.le_refl _), hb143, hb144, hb145, hk146, hd, hs, ok_pick [0, 1, 2, 3, 9, 10, 11, 12, 13, 14] hok (by kernel_rfl)⟩
    ·rintro a w148 ⟨hB181, hz182, hb183, hb184, hb185, hk186, hd, hs, hok⟩
     refine gv_in ?_ hd hs hok
     clear hd hs hok
     clear hk146 hb145 hb144 hb143 hB141
     refine gv_seq <| gv_region <| gv_pureN 1 [15] [(15, (.slice none (List.length ([] : List UInt8)) 0))] (by kernel_rfl) ?_
     refine gv_nil <| gv_seq <| gv_seq <| gv_region <| gv_pureN 1 [55] [(55, (bp b74))] (by kernel_rfl) ?_
     refine gv_load (t := 3) (A := ⟨b74, 0, none⟩) (.int .i64 j147.1) [] (fun e => by cases e) rfl rfl rfl (by kernel_rfl) (by kernel_rfl) (by kernel_rfl) (inw0 (hb185.cell 0 rfl)) rfl ?_
     refine gv_pureN 1 [57] [(57, (.bool (j147.1 == 0)))] (by kernel_rfl) ?_
     refine gv_nil <| bindE h0 ?_; clear h0; intro j187 h1 h0
     refine gv_cut_code (J := fun a w188 => ∃ (a15_0j : Option Addr) (c15_0j : Nat), Below w0.heap.size w0 w188 ∧ w148.heap.size ≤ w188.heap.size ∧ Gv.Own bE 5 w188 (fun _ => False) a15_0j c15_0j j187.1 ∧ (∀ g, blk a15_0j = some g → w0.heap.size ≤ g) ∧ (∀ g, blk a15_0j = some g → ¬ (· = b13) g) ∧ (∀ g, blk a15_0j = some g → ¬ (· = b33) g) ∧ (∀ g, blk a15_0j = some g → ¬ (· = b74) g) ∧ (∀ g, blk a15_0j = some g → ¬ X9 g) ∧ ¬ (fun k => blk a15_0j = some k) b13 ∧ ¬ (fun k => blk a15_0j = some k) b33 ∧ ¬ (fun k => blk a15_0j = some k) b74 ∧ Box w188 b13 25 #[(.int .i64 r1.2.1), (.int .i64 r1.2.2)] ∧ Box w188 b33 25 #[(.int .i64 r23.2.1), (.int .i64 r23.2.2)] ∧ Box w188 b74 25 #[(.int .i64 j187.2.1), (.int .i64 j187.2.2)] ∧ Rd bE w188 X9 a6 c7 r1.1 ∧ a.defers = [] ∧ a.tmps.size = 157 ∧ Ok [(1, (.slice pa1_0 (List.length b_1) pc1_0)), (2, (.int .i64 coding_2)), (3, (.int .i64 mode_3)), (9, (.slice a6 (List.length r1.1) c7)), (10, (bp b13)), (11, (.string r23.1)), (12, (bp b33)), (13, (.bool ((decide (coding_2 ≥ 0)) && (decide (coding_2 ≤ 2))))), (14, (bp b74)), (15, (.slice a15_0j (List.length j187.1) c15_0j))] a.tmps) ?_ ?_
     ·skip
      refine gv_cond (b := (j147.1 == 0)) (by kernel_rfl) (fun hc189 => ?_) (fun hc189 => ?_)
      ·replace h1 := ite_t hc189 h1
       refine gv_seq <| gv_region <| gv_pureN 1 [59] [(59, (.string s_0))] (by kernel_rfl) ?_
       refine bindE h1 ?_; clear h1; intro r190 hr191 h1
       refine gv_call0 (by kernel_rfl) rfl (by kernel_rfl) enters25 (ref4_Points_ok fuel s_0 w148  r190 hr191) ?_
       rintro v194 w192 ⟨hg193, a195, c196, rfl, ho197, hl198⟩
       have hl199 : ∀ g, blk a195 = some g → w0.heap.size ≤ g := fun g e => Nat.le_trans hB181.size (hl198 g e)
       refine gv_pureN 5 [16, 17, 58, 61, 62] [(16, (.slice a195 (List.length r190.1) c196))] (by kernel_rfl) ?_
       refine gv_nil <| gv_seq <| gv_region <| gv_pureN 1 [18] [] (by kernel_rfl) ?_
       refine gv_nil <| gv_seq <| gv_region <| gv_pureN 2 [64, 65] [(64, (.slice a195 (List.length r190.1) c196)), (65, (.int .i64 coding_2))] (by kernel_rfl) ?_
       refine bindE h1 ?_; clear h1; intro r200 hr201 h1
       refine gv_call0 (by kernel_rfl) rfl (by kernel_rfl) enters26 (ref4_Coded_ok fuel a195 c196 r190.1 coding_2 w192 (fun k => (fun k => blk a195 = some k) k) (fun k hk => (fun k (hk : blk a195 = some k) => ho197.lt k hk) k hk) ((ho197.rd (Y := fun k => blk a195 = some k) (fun _ h => h.elim) (fun g e => e)).wide (fun k hk => hk)) r200 hr201) ?_
       rintro v204 w202 ⟨hg203, a205, c206, rfl, ho207, hl208⟩
       have hB210 := bg hB181 hg193 nb
       have hl209 : ∀ g, blk a205 = some g → w0.heap.size ≤ g := fun g e => Nat.le_trans hB210.size (hl208 g e)
       refine gv_pureN 5 [15, 18, 63, 67, 68] [(15, (.slice a205 (List.length r200.1) c206)), (18, (.int .i64 r200.2))] (by kernel_rfl) ?_
       refine gv_nil <| gv_seq <| gv_region <| gv_pureN 2 [69, 70] [(70, (.bool (decide (r200.2 ≥ 0))))] (by kernel_rfl) ?_
       refine gv_nil <| gv_cond (b := (decide (r200.2 ≥ 0))) (by kernel_rfl) (fun hc211 => ?_) (fun hc211 => ?_)
       ·replace h1 := ite_t hc211 h1
        refine gv_region <| gv_pureN 1 [71] [(71, (.int .i64 r200.2))] (by kernel_rfl) ?_
        refine bindE h1 ?_; clear h1; intro r212 hr213 h1
        refine gv_call0 (by kernel_rfl) rfl (by kernel_rfl) enters12 (ref4_At_ok fuel 4 r200.2 w202  r212 hr213) ?_
        rintro v216 w214 ⟨hg215, rfl⟩
        have hz217 := (nt (nt hg193.size hg203.size) hg215.size)
        clear hr213 hc211 hr201 hl199 hl198 ho197 hr191 hc189 hB181
        refine gv_sub [1, 2, 3, 9, 10, 11, 12, 13, 14, 15, 72] (σ' := [(1, (.slice pa1_0 (List.length b_1) pc1_0)), (2, (.int .i64 coding_2)), (3, (.int .i64 mode_3)), (9, (.slice a6 (List.length r1.1) c7)), (10, (bp b13)), (11, (.string r23.1)), (12, (bp b33)), (13, (.bool ((decide (coding_2 ≥ 0)) && (decide (coding_2 ≤ 2))))), (14, (bp b74)), (15, (.slice a205 (List.length r200.1) c206)), (72, (.agg #[(.int .i64 r212.1), (.int .i64 r212.2)]))]) (by kernel_rfl) ?_
        have hg222 := (grown_trans (grown_trans hg193 hg203) hg215)
        have hk223 := hb185.grown hg222 nb
        refine gv_store0 25 0 (.agg #[(.int .i64 r212.1), (.int .i64 r212.2)]) #[(.int .i64 r212.1), (.int .i64 r212.2)] hk223 (by kernel_rfl) (by kernel_rfl) (by kernel_rfl) ?_
        intro w218 hg219 hb220 hz221
        refine gv_nil ?_
        have e := sj h1; subst e
        refine gv_goal fun a hd hs hok => ?_
        have hg224 := (grown_trans hg203 hg215)
        have hB225 := bg hB210 hg224 nb
        have hg226 := (grown_trans hg59 hg72)
        have hB227 := bg hB68 hg226 nb
        have hlo228 : w0.heap.size ≤ b74 := lob hbe78 hB227.size
        have hB229 := bg hB225 hg219 (rowlo hlo228)
        have hz230 := (nt hz217 hg219.size)
        have hk231 := hb185.grown hg193 nb
        have ap232 : ¬ (fun k => blk a205 = some k) b74 := fun hx => nl ((show ∀ k, blk a205 = some k → w192.heap.size ≤ k from hl208) _ hx) ((ltb hk231) _ rfl)
        have hk233 := (ho207.grown hg215 (fun _ h => h.elim) nb).grown hg219 (fun _ h => h.elim) (rdnn (rowne ap232))
        have hk234 := hb183.grown hg193 nb
        have ap235 : ∀ g, blk a205 = some g → ¬ (· = b13) g := fun g e hx => nl ((show ∀ k, blk a205 = some k → w192.heap.size ≤ k from hl208) g e) ((ltb hk234) _ hx)
        have hk236 := hb184.grown hg193 nb
        have ap237 : ∀ g, blk a205 = some g → ¬ (· = b33) g := fun g e hx => nl ((show ∀ k, blk a205 = some k → w192.heap.size ≤ k from hl208) g e) ((ltb hk236) _ hx)
        have ap238 : ∀ g, blk a205 = some g → ¬ (· = b74) g := fun g e hx => nl ((show ∀ k, blk a205 = some k → w192.heap.size ≤ k from hl208) g e) ((ltb hk231) _ hx)
        have hg239 := (grown_trans hg31 hg35)
        have hg240 := (grown_trans (grown_trans hg51 hg226) hg76)
        have hx241 := ltx (ltx (ltx (ltx (ltx (ltx hx11 hg15.size) hg20.size) hg239.size) hg40.size) hg240.size) hg81.size
        have hx242 := ltx (fun k hk => ltl ((fun k hk => ltl (hx241 k hk) hz142) k hk) hz182) hg193.size
        have ap243 : ∀ g, blk a205 = some g → ¬ X9 g := fun g e hx => nl ((show ∀ k, blk a205 = some k → w192.heap.size ≤ k from hl208) g e) (hx242 _ hx)
        have ap244 : ¬ (fun k => blk a205 = some k) b13 := fun hx => nl ((show ∀ k, blk a205 = some k → w192.heap.size ≤ k from hl208) _ hx) ((ltb hk234) _ rfl)
        have ap245 : ¬ (fun k => blk a205 = some k) b33 := fun hx => nl ((show ∀ k, blk a205 = some k → w192.heap.size ≤ k from hl208) _ hx) ((ltb hk236) _ rfl)
        have hk246 := hb21.grown hg31 nb
        have lt247 := ltl ((ltb hk246) _ rfl) ((lowb hbe37) _ rfl)
        have hg248 := (grown_trans hg51 hg226)
        have hk249 := hb41.grown hg248 nb
        have lt250 := ltl ((ltb hk249) _ rfl) ((lowb hbe78) _ rfl)
        have lt251 := ltt lt247 lt250
        have hk252 := (hk234.grown hg224 nb).grown hg219 (rowne (ng lt251))
        have hk253 := (hk236.grown hg224 nb).grown hg219 (rowne (ng lt250))
        have hx254 := ltx (ltx (ltx (ltx (ltx hx11 hg15.size) hg20.size) hg239.size) hg40.size) hg248.size
        have ap255 : ¬ X9 b74 := fun hx => nl ((lowb hbe78) _ rfl) (hx254 _ hx)
        have hx256 := ltx hx242 hg224.size
        have hk257 := (hk186.grown hg222 (fun k hk => ltl ((fun k hk => ltl (hx241 k hk) hz142) k hk) hz182) nb).grown hg219 hx256 (rowne ap255)
        exact ⟨a205, c206, hB229, hz230, hk233, hl209, ap235, ap237, ap238, ap243, ap244, ap245, ap232, hk252, hk253, hb220, hk257, hd, hs, ok_pick [1, 2, 3, 9, 10, 11, 12, 13, 14, 15] hok (by kernel_rfl)⟩
       ·replace h1 := ite_f hc211 h1
        refine gv_seq <| gv_region <| gv_pureN 3 [73, 74, 75] [(75, (.bool (decide (((List.length r200.1 : Nat) : Int) > 4000))))] (by kernel_rfl) ?_
        refine gv_nil <| gv_cond (b := (decide (((List.length r200.1 : Nat) : Int) > 4000))) (by kernel_rfl) (fun hc258 => ?_) (fun hc258 => ?_)
        ·replace h1 := ite_t hc258 h1
         refine gv_region <| bindE h1 ?_; clear h1; intro r259 hr260 h1
         refine gv_call0 (by kernel_rfl) rfl (by kernel_rfl) enters12 (ref4_At_ok fuel 3 (-1) w202  r259 hr260) ?_
         rintro v263 w261 ⟨hg262, rfl⟩
         refine gv_sub [1, 2, 3, 9, 10, 11, 12, 13, 14, 15, 76] (σ' := [(1, (.slice pa1_0 (List.length b_1) pc1_0)), (2, (.int .i64 coding_2)), (3, (.int .i64 mode_3)), (9, (.slice a6 (List.length r1.1) c7)), (10, (bp b13)), (11, (.string r23.1)), (12, (bp b33)), (13, (.bool ((decide (coding_2 ≥ 0)) && (decide (coding_2 ≤ 2))))), (14, (bp b74)), (15, (.slice a205 (List.length r200.1) c206)), (76, (.agg #[(.int .i64 r259.1), (.int .i64 r259.2)]))]) (by kernel_rfl) ?_
         have hg268 := (grown_trans (grown_trans hg193 hg203) hg262)
         have hk269 := hb185.grown hg268 nb
         refine gv_store0 25 0 (.agg #[(.int .i64 r259.1), (.int .i64 r259.2)]) #[(.int .i64 r259.1), (.int .i64 r259.2)] hk269 (by kernel_rfl) (by kernel_rfl) (by kernel_rfl) ?_
         intro w264 hg265 hb266 hz267
         refine gv_nil ?_
         have e := sj h1; subst e
         refine gv_goal fun a hd hs hok => ?_
         have hg270 := (grown_trans hg203 hg262)
         have hB271 := bg hB210 hg270 nb
         have hg272 := (grown_trans hg59 hg72)
         have hB273 := bg hB68 hg272 nb
         have hlo274 : w0.heap.size ≤ b74 := lob hbe78 hB273.size
         have hB275 := bg hB271 hg265 (rowlo hlo274)
         have hz276 := (nt (nt (nt hg193.size hg203.size) hg262.size) hg265.size)
         have hk277 := hb185.grown hg193 nb
         have ap278 : ¬ (fun k => blk a205 = some k) b74 := fun hx => nl ((show ∀ k, blk a205 = some k → w192.heap.size ≤ k from hl208) _ hx) ((ltb hk277) _ rfl)
         have hk279 := (ho207.grown hg262 (fun _ h => h.elim) nb).grown hg265 (fun _ h => h.elim) (rdnn (rowne ap278))
         have hk280 := hb183.grown hg193 nb
         have ap281 : ∀ g, blk a205 = some g → ¬ (· = b13) g := fun g e hx => nl ((show ∀ k, blk a205 = some k → w192.heap.size ≤ k from hl208) g e) ((ltb hk280) _ hx)
         have hk282 := hb184.grown hg193 nb
         have ap283 : ∀ g, blk a205 = some g → ¬ (· = b33) g := fun g e hx => nl ((show ∀ k, blk a205 = some k → w192.heap.size ≤ k from hl208) g e) ((ltb hk282) _ hx)
         have ap284 : ∀ g, blk a205 = some g → ¬ (· = b74) g := fun g e hx => nl ((show ∀ k, blk a205 = some k → w192.heap.size ≤ k from hl208) g e) ((ltb hk277) _ hx)
         have hg285 := (grown_trans hg31 hg35)
         have hg286 := (grown_trans (grown_trans hg51 hg272) hg76)
         have hx287 := ltx (ltx (ltx (ltx (ltx (ltx hx11 hg15.size) hg20.size) hg285.size) hg40.size) hg286.size) hg81.size
         have hx288 := ltx (fun k hk => ltl ((fun k hk => ltl (hx287 k hk) hz142) k hk) hz182) hg193.size
         have ap289 : ∀ g, blk a205 = some g → ¬ X9 g := fun g e hx => nl ((show ∀ k, blk a205 = some k → w192.heap.size ≤ k from hl208) g e) (hx288 _ hx)
         have ap290 : ¬ (fun k => blk a205 = some k) b13 := fun hx => nl ((show ∀ k, blk a205 = some k → w192.heap.size ≤ k from hl208) _ hx) ((ltb hk280) _ rfl)
         have ap291 : ¬ (fun k => blk a205 = some k) b33 := fun hx => nl ((show ∀ k, blk a205 = some k → w192.heap.size ≤ k from hl208) _ hx) ((ltb hk282) _ rfl)
         have hk292 := hb21.grown hg31 nb
         have lt293 := ltl ((ltb hk292) _ rfl) ((lowb hbe37) _ rfl)
         have hg294 := (grown_trans hg51 hg272)
         have hk295 := hb41.grown hg294 nb
         have lt296 := ltl ((ltb hk295) _ rfl) ((lowb hbe78) _ rfl)
         have lt297 := ltt lt293 lt296
         have hk298 := (hk280.grown hg270 nb).grown hg265 (rowne (ng lt297))
         have hk299 := (hk282.grown hg270 nb).grown hg265 (rowne (ng lt296))
         have hx300 := ltx (ltx (ltx (ltx (ltx hx11 hg15.size) hg20.size) hg285.size) hg40.size) hg294.size
         have ap301 : ¬ X9 b74 := fun hx => nl ((lowb hbe78) _ rfl) (hx300 _ hx)
         have hx302 := ltx hx288 hg270.size
         have hk303 := (hk186.grown hg268 (fun k hk => ltl ((fun k hk => ltl (hx287 k hk) hz142) k hk) hz182) nb).grown hg265 hx302 (rowne ap301)
         exact ⟨a205, c206, hB275, hz276, hk279, hl209, ap281, ap283, ap284, ap289, ap290, ap291, ap278, hk298, hk299, hb266, hk303, hd, hs, ok_pick [1, 2, 3, 9, 10, 11, 12, 13, 14, 15] hok (by kernel_rfl)⟩
        ·replace h1 := ite_f hc258 h1
         refine gv_skip ?_
         have e := sj h1; subst e
         refine gv_goal fun a hd hs hok => ?_
         have hB304 := bg hB210 hg203 nb
         have hz305 := (nt hg193.size hg203.size)
         have hk306 := hb183.grown hg193 nb
         have ap307 : ∀ g, blk a205 = some g → ¬ (· = b13) g := fun g e hx => nl ((show ∀ k, blk a205 = some k → w192.heap.size ≤ k from hl208) g e) ((ltb hk306) _ hx)
         have hk308 := hb184.grown hg193 nb
         have ap309 : ∀ g, blk a205 = some g → ¬ (· = b33) g := fun g e hx => nl ((show ∀ k, blk a205 = some k → w192.heap.size ≤ k from hl208) g e) ((ltb hk308) _ hx)
         have hk310 := hb185.grown hg193 nb
         have ap311 : ∀ g, blk a205 = some g → ¬ (· = b74) g := fun g e hx => nl ((show ∀ k, blk a205 = some k → w192.heap.size ≤ k from hl208) g e) ((ltb hk310) _ hx)
         have hg312 := (grown_trans hg31 hg35)
         have hg313 := (grown_trans (grown_trans (grown_trans hg51 hg59) hg72) hg76)
         have hx314 := ltx (ltx (ltx (ltx (ltx (ltx hx11 hg15.size) hg20.size) hg312.size) hg40.size) hg313.size) hg81.size
         have hx315 := ltx (fun k hk => ltl ((fun k hk => ltl (hx314 k hk) hz142) k hk) hz182) hg193.size
         have ap316 : ∀ g, blk a205 = some g → ¬ X9 g := fun g e hx => nl ((show ∀ k, blk a205 = some k → w192.heap.size ≤ k from hl208) g e) (hx315 _ hx)
         have ap317 : ¬ (fun k => blk a205 = some k) b13 := fun hx => nl ((show ∀ k, blk a205 = some k → w192.heap.size ≤ k from hl208) _ hx) ((ltb hk306) _ rfl)
         have ap318 : ¬ (fun k => blk a205 = some k) b33 := fun hx => nl ((show ∀ k, blk a205 = some k → w192.heap.size ≤ k from hl208) _ hx) ((ltb hk308) _ rfl)
         have ap319 : ¬ (fun k => blk a205 = some k) b74 := fun hx => nl ((show ∀ k, blk a205 = some k → w192.heap.size ≤ k from hl208) _ hx) ((ltb hk310) _ rfl)
         have hk320 := hk306.grown hg203 nb
         have hk321 := hk308.grown hg203 nb
         have hk322 := hk310.grown hg203 nb
         have hg323 := (grown_trans hg193 hg203)
         have hk324 := hk186.grown hg323 (fun k hk => ltl ((fun k hk => ltl (hx314 k hk) hz142) k hk) hz182) nb
         exact ⟨a205, c206, hB304, hz305, ho207, hl209, ap307, ap309, ap311, ap316, ap317, ap318, ap319, hk320, hk321, hk322, hk324, hd, hs, ok_pick [1, 2, 3, 9, 10, 11, 12, 13, 14, 15] hok (by kernel_rfl)⟩
      ·replace h1 := ite_f hc189 h1
       refine gv_skip ?_
       have e := sj h1; subst e
       refine gv_goal fun a hd hs hok => ?_
       exact ⟨none, 0, hB181, (Nat.le_refl _), (Gv.Own.nil bE 5 w148 (fun _ => False)), (fun _ h => by cases h), (fun _ h => by cases h), (fun _ h => by cases h), (fun _ h => by cases h), (fun _ h => by cases h), (fun h => by cases h), (fun h => by cases h), (fun h => by cases h), hb183, hb184, hb185, hk186, hd, hs, ok_pick [1, 2, 3, 9, 10, 11, 12, 13, 14, 15] hok (by kernel_rfl)⟩
     ·rintro a w188 ⟨a327, c328, hB325, hz326, ho329, hl330, ap331, ap332, ap333, ap334, ap335, ap336, ap337, hb338, hb339, hb340, hk341, hd, hs, hok⟩
      refine gv_in ?_ hd hs hok
      clear hd hs hok
      clear hk186 hb185 hb184 hb183 hB181
      refine gv_seq <| gv_seq <| gv_region <| gv_pureN 1 [77] [(77, (.slice a6 (List.length r1.1) c7))] (by kernel_rfl) ?_
      refine gv_loadBox (t := 25) (b := b13) (t' := 25) (fr := (0, 0)) #[(.int .i64 r1.2.1), (.int .i64 r1.2.2)] [] (fun e => by cases e) rfl rfl rfl (by kernel_rfl) (by kernel_rfl) (by kernel_rfl) (by kernel_rfl) (inw0 hb338) rfl ?_
      refine gv_pureN 1 [79] [(79, (.slice a327 (List.length j187.1) c328))] (by kernel_rfl) ?_
      refine gv_loadBox (t := 25) (b := b74) (t' := 25) (fr := (0, 0)) #[(.int .i64 j187.2.1), (.int .i64 j187.2.2)] [] (fun e => by cases e) rfl rfl rfl (by kernel_rfl) (by kernel_rfl) (by kernel_rfl) (by kernel_rfl) (inw0 hb340) rfl ?_
      refine bindE h0 ?_; clear h0; intro r342 hr343 h0
      have hg344 := (grown_trans hg31 hg35)
      have hg345 := (grown_trans (grown_trans (grown_trans hg51 hg59) hg72) hg76)
      have hx346 := ltx (ltx (ltx (ltx (ltx (ltx hx11 hg15.size) hg20.size) hg344.size) hg40.size) hg345.size) hg81.size
      refine gv_call0 (by kernel_rfl) rfl (by kernel_rfl) enters13 (law4_raw_ok fuel a6 c7 r1.1 (r1.2.1, r1.2.2) a327 c328 j187.1 (j187.2.1, j187.2.2) w188 (fun k => X9 k ∨ (fun k => blk a327 = some k) k) (fun k hk => (hk).elim (fun h => (fun k hk => ltl ((fun k hk => ltl ((fun k hk => ltl (hx346 k hk) hz142) k hk) hz182) k hk) hz326) k h) (fun h => (fun k (hk : blk a327 = some k) => ho329.lt k hk) k h)) (hk341.wide (fun k hk => (.inl hk))) ((ho329.rd (Y := fun k => blk a327 = some k) (fun _ h => h.elim) (fun g e => e)).wide (fun k hk => (.inr hk))) r342 hr343) ?_
      rintro v349 w347 ⟨hg348, rfl⟩
      refine gv_pureN 1 [82] [(82, (.bool (!r342)))] (by kernel_rfl) ?_
      refine gv_nil <| gv_cond (b := (!r342)) (by kernel_rfl) (fun hc350 => ?_) (fun hc350 => ?_)
      ·replace h0 := ite_t hc350 h0
       refine gv_seq <| gv_region <| gv_pureN 1 [8] [(8, (.bool false))] (by kernel_rfl) ?_
       refine gv_nil <| gv_cret ?_
       have e := sj h0; subst e
       refine gv_ret (gv_done [(.bool false)] rfl ⟨(by kernel_rfl), trivial⟩ ?_)
       have hB351 := bg hB325 hg348 nb
       exact ⟨grown_of_below hB351, rfl⟩
      ·replace h0 := ite_f hc350 h0
       refine gv_skip <| gv_seq <| gv_block <| gv_seq <| gv_region <| gv_pureN 4 [83, 84, 85, 86] [(83, (.bool (decide (((List.length b_1 : Nat) : Int) > 4000))))] (by kernel_rfl) ?_
       refine bindE h0 ?_; clear h0; intro n352 hn353 h0
       refine gv_name (s := 83) (v := (.bool (decide (((List.length b_1 : Nat) : Int) > 4000)))) (v' := (.bool n352)) (by kernel_rfl) (congrArg (Value.bool) (sj hn353)) ?_
       refine gv_nil <| gv_cond (b := n352) (by kernel_rfl) (fun hc354 => ?_) (fun hc354 => ?_)
       ·replace h0 := ite_t hc354 h0
        refine gv_seq <| gv_drawA (by kernel_rfl) ?_
        intro w355 hg356
        refine gv_pre [0] (bA 5 [0]) 4 (by kernel_rfl) (by kernel_rfl) ?_
        refine gv_pureN 1 [87] [(87, (.string r23.1))] (by kernel_rfl) ?_
        refine gv_nil <| gv_goA ?_
        refine gv_stage (Cls w355 []) [0, 1, 2] [(1, some true), (2, some false)] (bA 5 [0, 1, 2]) 2 (by kernel_rfl) (by kernel_rfl) (Cls.refl _ _) ?_
        have hC357 := Cls.refl w355 []
        have hg358 := (grown_trans hg348 hg356)
        have hk359 := hb339.grown hg358 nb
        refine gv_loadBox (t := 25) (b := b33) (t' := 25) (fr := (0, 0)) #[(.int .i64 r23.2.1), (.int .i64 r23.2.2)] [] (fun e => by cases e) rfl rfl rfl (by kernel_rfl) (by kernel_rfl) (by kernel_rfl) (by kernel_rfl) (inw1 fun w' hC' => (hC'.box hk359 nm_nil)) rfl ?_
        refine bindE h0 ?_; clear h0; intro r360 hr361 h0
        refine gv_call (f := 12) (vs := [(.int .i64 3), (.int .i64 (-1))]) (cap := []) _ (by decide) rfl rfl rfl (by kernel_rfl) (by kernel_rfl) enters12 (ref4_At_ok fuel 3 (-1) w355  r360 hr361) ?_
        rintro v364 w362 ⟨hg363, rfl⟩
        refine ⟨(fun _ => hC357.grown hg363 nb), ?_⟩
        refine gv_nil <| gv_goA ?_
        refine gv_stage (fun _ => True) [0, 1, 2, 3] [(3, some false)] (bA 5 [0, 1, 2, 3]) 1 (by kernel_rfl) (by kernel_rfl) trivial ?_
        refine bindE h0 ?_; clear h0; intro r365 hr366 h0
        refine gv_call (f := 19) (vs := [(.string r23.1), (.agg #[(.int .i64 r23.2.1), (.int .i64 r23.2.2)]), (.string (strOf [])), (.agg #[(.int .i64 r360.1), (.int .i64 r360.2)])]) (cap := []) _ (by decide) rfl rfl rfl (by kernel_rfl) (by kernel_rfl) enters19 (law4_text_ok fuel r23.1 (r23.2.1, r23.2.2) (strOf []) (r360.1, r360.2) w362  r365 hr366) ?_
        rintro v369 w367 ⟨hg368, rfl⟩
        refine ⟨(fun _ => trivial), ?_⟩
        refine gv_nil <| gv_goA ?_
        refine gv_pre [4] (bA 5 [0, 1, 2, 3, 4]) 0 (by kernel_rfl) (by kernel_rfl) ?_
        refine gv_pureN 1 [8] [(8, (.bool r365))] (by kernel_rfl) ?_
        refine gv_nil <| gv_goA ?_
        refine gv_stageE (by kernel_rfl) ?_
        refine gv_cret ?_
        have e := sj h0; subst e
        refine gv_ret (gv_done [(.bool r365)] rfl ⟨(by kernel_rfl), trivial⟩ ?_)
        have hg370 := (grown_trans (grown_trans hg358 hg363) hg368)
        have hB371 := bg hB325 hg370 nb
        exact ⟨grown_of_below hB371, rfl⟩
       ·replace h0 := ite_f hc354 h0
        refine gv_seq <| gv_region <| gv_pureN 3 [91, 92, 93] [(91, (.bool (!((decide (coding_2 ≥ 0)) && (decide (coding_2 ≤ 2))))))] (by kernel_rfl) ?_
        refine bindE h0 ?_; clear h0; intro n372 hn373 h0
        refine gv_name (s := 91) (v := (.bool (!((decide (coding_2 ≥ 0)) && (decide (coding_2 ≤ 2)))))) (v' := (.bool n372)) (by kernel_rfl) (congrArg (Value.bool) (sj hn373)) ?_
        refine gv_nil <| gv_cond (b := n372) (by kernel_rfl) (fun hc374 => ?_) (fun hc374 => ?_)
        ·replace h0 := ite_t hc374 h0
         refine gv_seq <| gv_drawA (by kernel_rfl) ?_
         intro w375 hg376
         refine gv_pre [0] (bA 5 [0]) 4 (by kernel_rfl) (by kernel_rfl) ?_
         clear hc374 hn373 hc354 hn353 hc350 hg345 hg344 hr343 ap337 ap336 ap335 ap334 ap333 ap332 ap331 hg81 hg76 hg51 hb41 hg40 hbe37 hg35 hg31 hb21 hg20 hbe17 hg15 hx11
         refine gv_pureN 1 [94] [(94, (.string r23.1))] (by kernel_rfl) ?_
         refine gv_nil <| gv_goA ?_
         refine gv_stage (Cls w375 []) [0, 1, 2] [(1, some true), (2, some false)] (bA 5 [0, 1, 2]) 2 (by kernel_rfl) (by kernel_rfl) (Cls.refl _ _) ?_
         have hC377 := Cls.refl w375 []
         have hg378 := (grown_trans hg348 hg376)
         have hk379 := hb339.grown hg378 nb
         refine gv_loadBox (t := 25) (b := b33) (t' := 25) (fr := (0, 0)) #[(.int .i64 r23.2.1), (.int .i64 r23.2.2)] [] (fun e => by cases e) rfl rfl rfl (by kernel_rfl) (by kernel_rfl) (by kernel_rfl) (by kernel_rfl) (inw1 fun w' hC' => (hC'.box hk379 nm_nil)) rfl ?_
         refine bindE h0 ?_; clear h0; intro r380 hr381 h0
         refine gv_call (f := 12) (vs := [(.int .i64 5), (.int .i64 (-2))]) (cap := []) _ (by decide) rfl rfl rfl (by kernel_rfl) (by kernel_rfl) enters12 (ref4_At_ok fuel 5 (-2) w375  r380 hr381) ?_
         rintro v384 w382 ⟨hg383, rfl⟩
         refine ⟨(fun _ => hC377.grown hg383 nb), ?_⟩
         refine gv_nil <| gv_goA ?_
         refine gv_stage (fun _ => True) [0, 1, 2, 3] [(3, some false)] (bA 5 [0, 1, 2, 3]) 1 (by kernel_rfl) (by kernel_rfl) trivial ?_
         refine bindE h0 ?_; clear h0; intro r385 hr386 h0
         refine gv_call (f := 19) (vs := [(.string r23.1), (.agg #[(.int .i64 r23.2.1), (.int .i64 r23.2.2)]), (.string (strOf [])), (.agg #[(.int .i64 r380.1), (.int .i64 r380.2)])]) (cap := []) _ (by decide) rfl rfl rfl (by kernel_rfl) (by kernel_rfl) enters19 (law4_text_ok fuel r23.1 (r23.2.1, r23.2.2) (strOf []) (r380.1, r380.2) w382  r385 hr386) ?_
         rintro v389 w387 ⟨hg388, rfl⟩
         refine ⟨(fun _ => trivial), ?_⟩
         refine gv_nil <| gv_goA ?_
         refine gv_pre [4] (bA 5 [0, 1, 2, 3, 4]) 0 (by kernel_rfl) (by kernel_rfl) ?_
         refine gv_pureN 1 [8] [(8, (.bool r385))] (by kernel_rfl) ?_
         refine gv_nil <| gv_goA ?_
         refine gv_stageE (by kernel_rfl) ?_
         refine gv_cret ?_
         have e := sj h0; subst e
         refine gv_ret (gv_done [(.bool r385)] rfl ⟨(by kernel_rfl), trivial⟩ ?_)
         have hg390 := (grown_trans (grown_trans hg378 hg383) hg388)
         have hB391 := bg hB325 hg390 nb
         exact ⟨grown_of_below hB391, rfl⟩
        ·replace h0 := ite_f hc374 h0
         refine gv_seq <| gv_region <| gv_cut_ops (J := fun a w392 => w347 = w392 ∧ a.defers = [] ∧ a.tmps.size = 157 ∧ Ok [(1, (.slice pa1_0 (List.length b_1) pc1_0)), (2, (.int .i64 coding_2)), (3, (.int .i64 mode_3)), (11, (.string r23.1)), (12, (bp b33)), (98, (.bool ((decide (mode_3 < 0)) || (decide (mode_3 > 2)))))] a.tmps) ?_ ?_
         ·skip
          refine gv_pureN 3 [99, 100, 101] [(101, (.bool (decide (mode_3 < 0))))] (by kernel_rfl) ?_
          refine gv_split (s := 101) (g := (decide (mode_3 < 0))) (by kernel_rfl) (fun hc393 => ?_) (fun hc393 => ?_)
          ·skip
           refine gv_pureN 4 [98, 102, 103, 104] [(98, (.bool true))] (by kernel_rfl) ?_
           refine gv_nil <| gv_sub [1, 2, 3, 11, 12, 98] (σ' := [(1, (.slice pa1_0 (List.length b_1) pc1_0)), (2, (.int .i64 coding_2)), (3, (.int .i64 mode_3)), (11, (.string r23.1)), (12, (bp b33)), (98, (.bool true))]) (by kernel_rfl) ?_
           refine gv_goal fun a hd hs hok => ⟨rfl, hd, hs, ?_⟩
           obtain ⟨q1, q2, q3, q11, q12, q98, _⟩ := hok
           exact ⟨q1, q2, q3, q11, q12, (by rw [hc393]; exact q98), trivial⟩
          ·skip
           refine gv_pureN 4 [98, 102, 103, 104] [(98, (.bool (decide (mode_3 > 2))))] (by kernel_rfl) ?_
           refine gv_nil <| gv_sub [1, 2, 3, 11, 12, 98] (σ' := [(1, (.slice pa1_0 (List.length b_1) pc1_0)), (2, (.int .i64 coding_2)), (3, (.int .i64 mode_3)), (11, (.string r23.1)), (12, (bp b33)), (98, (.bool (decide (mode_3 > 2))))]) (by kernel_rfl) ?_
           refine gv_goal fun a hd hs hok => ⟨rfl, hd, hs, ?_⟩
           obtain ⟨q1, q2, q3, q11, q12, q98, _⟩ := hok
           exact ⟨q1, q2, q3, q11, q12, (by rw [hc393]; exact q98), trivial⟩
         ·rintro a w392 ⟨e, hd, hs, hok⟩; subst e
          refine gv_in ?_ hd hs hok
          clear hd hs hok
          refine gv_cond (b := ((decide (mode_3 < 0)) || (decide (mode_3 > 2)))) (by kernel_rfl) (fun hc394 => ?_) (fun hc394 => ?_)
          ·replace h0 := ite_t hc394 h0
           refine gv_seq <| gv_drawA (by kernel_rfl) ?_
           intro w395 hg396
           refine gv_pre [0] (bA 5 [0]) 4 (by kernel_rfl) (by kernel_rfl) ?_
           refine gv_pureN 1 [105] [(105, (.string r23.1))] (by kernel_rfl) ?_
           refine gv_nil <| gv_goA ?_
           refine gv_stage (Cls w395 []) [0, 1, 2] [(1, some true), (2, some false)] (bA 5 [0, 1, 2]) 2 (by kernel_rfl) (by kernel_rfl) (Cls.refl _ _) ?_
           have hC397 := Cls.refl w395 []
           have hg398 := (grown_trans hg348 hg396)
           have hk399 := hb339.grown hg398 nb
           refine gv_loadBox (t := 25) (b := b33) (t' := 25) (fr := (0, 0)) #[(.int .i64 r23.2.1), (.int .i64 r23.2.2)] [] (fun e => by cases e) rfl rfl rfl (by kernel_rfl) (by kernel_rfl) (by kernel_rfl) (by kernel_rfl) (inw1 fun w' hC' => (hC'.box hk399 nm_nil)) rfl ?_
           refine bindE h0 ?_; clear h0; intro r400 hr401 h0
           refine gv_call (f := 12) (vs := [(.int .i64 5), (.int .i64 (-3))]) (cap := []) _ (by decide) rfl rfl rfl (by kernel_rfl) (by kernel_rfl) enters12 (ref4_At_ok fuel 5 (-3) w395  r400 hr401) ?_
           rintro v404 w402 ⟨hg403, rfl⟩
           refine ⟨(fun _ => hC397.grown hg403 nb), ?_⟩
           refine gv_nil <| gv_goA ?_
           refine gv_stage (fun _ => True) [0, 1, 2, 3] [(3, some false)] (bA 5 [0, 1, 2, 3]) 1 (by kernel_rfl) (by kernel_rfl) trivial ?_
           refine bindE h0 ?_; clear h0; intro r405 hr406 h0
           refine gv_call (f := 19) (vs := [(.string r23.1), (.agg #[(.int .i64 r23.2.1), (.int .i64 r23.2.2)]), (.string (strOf [])), (.agg #[(.int .i64 r400.1), (.int .i64 r400.2)])]) (cap := []) _ (by decide) rfl rfl rfl (by kernel_rfl) (by kernel_rfl) enters19 (law4_text_ok fuel r23.1 (r23.2.1, r23.2.2) (strOf []) (r400.1, r400.2) w402  r405 hr406) ?_
           rintro v409 w407 ⟨hg408, rfl⟩
           refine ⟨(fun _ => trivial), ?_⟩
           refine gv_nil <| gv_goA ?_
           refine gv_pre [4] (bA 5 [0, 1, 2, 3, 4]) 0 (by kernel_rfl) (by kernel_rfl) ?_
           refine gv_pureN 1 [8] [(8, (.bool r405))] (by kernel_rfl) ?_
           refine gv_nil <| gv_goA ?_
           refine gv_stageE (by kernel_rfl) ?_
           refine gv_cret ?_
           have e := sj h0; subst e
           refine gv_ret (gv_done [(.bool r405)] rfl ⟨(by kernel_rfl), trivial⟩ ?_)
           have hg410 := (grown_trans (grown_trans hg398 hg403) hg408)
           have hB411 := bg hB325 hg410 nb
           exact ⟨grown_of_below hB411, rfl⟩
          ·replace h0 := ite_f hc394 h0
           refine gv_skip <| gv_blk <| gv_seq <| gv_region <| gv_pureN 2 [110, 111] [(110, (.slice pa1_0 (List.length b_1) pc1_0)), (111, (.int .i64 coding_2))] (by kernel_rfl) ?_
           refine bindE h0 ?_; clear h0; intro r412 hr413 h0
           have hB414 := bg hB325 hg348 nb
           refine gv_call0 (by kernel_rfl) rfl (by kernel_rfl) enters27 (ref4_Decoded_ok fuel pa1_0 pc1_0 b_1 coding_2 w347 (fun k => X0 k) (fun k hk => (fun k (hk : X0 k) => ltl (hX0 k hk) hB414.size) k hk) ((hpa1_0.below hB414 hX0).wide (fun k hk => hk)) r412 hr413) ?_
           rintro v417 w415 ⟨hg416, a418, c419, rfl, ho420, hl421⟩
           have hl422 : ∀ g, blk a418 = some g → w0.heap.size ≤ g := fun g e => Nat.le_trans hB414.size (hl421 g e)
           refine gv_pureN 5 [19, 20, 109, 113, 114] [(19, (.slice a418 (List.length r412.1) c419)), (20, (.int .i64 r412.2))] (by kernel_rfl) ?_
           refine gv_nil <| gv_seq <| gv_seq <| gv_region <| gv_cut_ops (J := fun a w423 => w415 = w423 ∧ a.defers = [] ∧ a.tmps.size = 157 ∧ Ok [(3, (.int .i64 mode_3)), (11, (.string r23.1)), (12, (bp b33)), (19, (.slice a418 (List.length r412.1) c419)), (20, (.int .i64 r412.2)), (120, (.bool ((mode_3 == 0) && (decide (r412.2 ≥ 0)))))] a.tmps) ?_ ?_
           ·skip
            refine gv_pureN 3 [115, 116, 117] [(117, (.bool (mode_3 == 0)))] (by kernel_rfl) ?_
            refine gv_split (s := 117) (g := (mode_3 == 0)) (by kernel_rfl) (fun hc424 => ?_) (fun hc424 => ?_)
            ·skip
             refine gv_pureN 3 [118, 119, 120] [(120, (.bool (decide (r412.2 ≥ 0))))] (by kernel_rfl) ?_
             refine gv_nil <| gv_sub [3, 11, 12, 19, 20, 120] (σ' := [(3, (.int .i64 mode_3)), (11, (.string r23.1)), (12, (bp b33)), (19, (.slice a418 (List.length r412.1) c419)), (20, (.int .i64 r412.2)), (120, (.bool (decide (r412.2 ≥ 0))))]) (by kernel_rfl) ?_
             refine gv_goal fun a hd hs hok => ⟨rfl, hd, hs, ?_⟩
             obtain ⟨q3, q11, q12, q19, q20, q120, _⟩ := hok
             exact ⟨q3, q11, q12, q19, q20, (by rw [hc424]; exact q120), trivial⟩
            ·skip
             refine gv_pureN 3 [118, 119, 120] [(120, (.bool false))] (by kernel_rfl) ?_
             refine gv_nil <| gv_sub [3, 11, 12, 19, 20, 120] (σ' := [(3, (.int .i64 mode_3)), (11, (.string r23.1)), (12, (bp b33)), (19, (.slice a418 (List.length r412.1) c419)), (20, (.int .i64 r412.2)), (120, (.bool false))]) (by kernel_rfl) ?_
             refine gv_goal fun a hd hs hok => ⟨rfl, hd, hs, ?_⟩
             obtain ⟨q3, q11, q12, q19, q20, q120, _⟩ := hok
             exact ⟨q3, q11, q12, q19, q20, (by rw [hc424]; exact q120), trivial⟩
           ·rintro a w423 ⟨e, hd, hs, hok⟩; subst e
            refine gv_in ?_ hd hs hok
            clear hd hs hok
            refine gv_cond (b := ((mode_3 == 0) && (decide (r412.2 ≥ 0)))) (by kernel_rfl) (fun hc425 => ?_) (fun hc425 => ?_)
            ·replace h0 := ite_t hc425 h0
             refine gv_seq <| gv_drawA (by kernel_rfl) ?_
             intro w426 hg427
             refine gv_pre [0, 2] (bA 6 [0, 2]) 4 (by kernel_rfl) (by kernel_rfl) ?_
             refine gv_pureN 2 [121, 123] [(121, (.string r23.1)), (123, (.int .i64 r412.2))] (by kernel_rfl) ?_
             refine gv_nil <| gv_goA ?_
             refine gv_stage (Cls w426 []) [0, 1, 2, 3] [(1, some true), (3, some false)] (bA 6 [0, 1, 2, 3]) 2 (by kernel_rfl) (by kernel_rfl) (Cls.refl _ _) ?_
             have hC428 := Cls.refl w426 []
             have hg429 := (grown_trans (grown_trans hg348 hg416) hg427)
             have hk430 := hb339.grown hg429 nb
             refine gv_loadBox (t := 25) (b := b33) (t' := 25) (fr := (0, 0)) #[(.int .i64 r23.2.1), (.int .i64 r23.2.2)] [] (fun e => by cases e) rfl rfl rfl (by kernel_rfl) (by kernel_rfl) (by kernel_rfl) (by kernel_rfl) (inw1 fun w' hC' => (hC'.box hk430 nm_nil)) rfl ?_
             refine bindE h0 ?_; clear h0; intro r431 hr432 h0
             refine gv_call (f := 12) (vs := [(.int .i64 16), (.int .i64 r412.2)]) (cap := []) _ (by decide) rfl rfl rfl (by kernel_rfl) (by kernel_rfl) enters12 (ref4_At_ok fuel 16 r412.2 w426  r431 hr432) ?_
             rintro v435 w433 ⟨hg434, rfl⟩
             refine ⟨(fun _ => hC428.grown hg434 nb), ?_⟩
             clear hr432 hg429 hc425 hl421 hr413 hc394 hc374 hn373 hc354 hn353 hc350 hg345 hg344 hr343 hb339 ap337 ap336 ap335 ap334 ap333 ap332 ap331 hB325 hg81 hg76 hg51 hb41 hg40 hbe37 hg35 hg31 hb21 hg20 hbe17 hg15 hx11
             refine gv_nil <| gv_goA ?_
             refine gv_stage (fun _ => True) [0, 1, 2, 3, 4] [(4, some false)] (bA 6 [0, 1, 2, 3, 4]) 1 (by kernel_rfl) (by kernel_rfl) trivial ?_
             refine gv_sub [121, 122, 124] (σ' := [(121, (.string r23.1)), (122, (.agg #[(.int .i64 r23.2.1), (.int .i64 r23.2.2)])), (124, (.agg #[(.int .i64 r431.1), (.int .i64 r431.2)]))]) (by kernel_rfl) ?_
             refine bindE h0 ?_; clear h0; intro r436 hr437 h0
             refine gv_call (f := 19) (vs := [(.string r23.1), (.agg #[(.int .i64 r23.2.1), (.int .i64 r23.2.2)]), (.string (strOf [])), (.agg #[(.int .i64 r431.1), (.int .i64 r431.2)])]) (cap := []) _ (by decide) rfl rfl rfl (by kernel_rfl) (by kernel_rfl) enters19 (law4_text_ok fuel r23.1 (r23.2.1, r23.2.2) (strOf []) (r431.1, r431.2) w433  r436 hr437) ?_
             rintro v440 w438 ⟨hg439, rfl⟩
             refine ⟨(fun _ => trivial), ?_⟩
             refine gv_nil <| gv_goA ?_
             refine gv_pre [5] (bA 6 [0, 1, 2, 3, 4, 5]) 0 (by kernel_rfl) (by kernel_rfl) ?_
             refine gv_pureN 1 [8] [(8, (.bool r436))] (by kernel_rfl) ?_
             refine gv_nil <| gv_goA ?_
             refine gv_stageE (by kernel_rfl) ?_
             refine gv_cret ?_
             have e := sj h0; subst e
             refine gv_ret (gv_done [(.bool r436)] rfl ⟨(by kernel_rfl), trivial⟩ ?_)
             have hg441 := (grown_trans (grown_trans (grown_trans hg416 hg427) hg434) hg439)
             have hB442 := bg hB414 hg441 nb
             exact ⟨grown_of_below hB442, rfl⟩
            ·replace h0 := ite_f hc425 h0
             refine gv_skip <| gv_seq <| gv_region <| gv_pureN 1 [21] [(21, (.slice none (List.length ([] : List Int)) 0))] (by kernel_rfl) ?_
             refine gv_nil <| gv_seq <| gv_seq <| gv_region <| gv_pureN 1 [22] [(22, (.int .i64 0))] (by kernel_rfl) ?_
             refine gv_nil <| bindE h0 ?_; clear h0; intro j443 h1 h0
             refine gv_cut_code (J := fun a w444 => ∃ (a21_0j : Option Addr) (c21_0j : Nat), Below w0.heap.size w0 w444 ∧ w415.heap.size ≤ w444.heap.size ∧ Gv.Own (iE .i64) 3 w444 (fun _ => False) a21_0j c21_0j j443 ∧ (∀ g, blk a21_0j = some g → w0.heap.size ≤ g) ∧ (∀ g, blk a21_0j = some g → ¬ (· = b33) g) ∧ ¬ (fun k => blk a21_0j = some k) b33 ∧ Box w444 b33 25 #[(.int .i64 r23.2.1), (.int .i64 r23.2.2)] ∧ a.defers = [] ∧ a.tmps.size = 157 ∧ Ok [(11, (.string r23.1)), (12, (bp b33)), (21, (.slice a21_0j (List.length j443) c21_0j))] a.tmps) ?_ ?_
             ·skip
              refine gv_block <| gv_loop (A := fun (s445 : ((List Int) × Int)) a w446 => ∃ (a21_0j : Option Addr) (c21_0j : Nat), Below w0.heap.size w0 w446 ∧ w415.heap.size ≤ w446.heap.size ∧ Gv.Own (iE .i64) 3 w446 (fun _ => False) a21_0j c21_0j s445.1 ∧ (∀ g, blk a21_0j = some g → w0.heap.size ≤ g) ∧ (∀ g, blk a21_0j = some g → ¬ (· = b33) g) ∧ (∀ g, blk a21_0j = some g → ¬ (fun k => blk a418 = some k) g) ∧ ¬ (fun k => blk a21_0j = some k) b33 ∧ (∀ g, blk a418 = some g → ¬ (fun k => blk a21_0j = some k) g) ∧ Box w446 b33 25 #[(.int .i64 r23.2.1), (.int .i64 r23.2.2)] ∧ Gv.Own (iE .i64) 3 w446 (fun _ => False) a418 c419 r412.1 ∧ a.defers = [] ∧ a.tmps.size = 157 ∧ Ok [(3, (.int .i64 mode_3)), (11, (.string r23.1)), (12, (bp b33)), (19, (.slice a418 (List.length r412.1) c419)), (21, (.slice a21_0j (List.length s445.1) c21_0j)), (22, (.int .i64 s445.2))] a.tmps) h1 ?_ ?_
              ·intro a hd hs hok
               have hB447 := bg hB414 hg416 nb
               have hg448 := (grown_trans hg348 hg416)
               have hk449 := hb339.grown hg448 nb
               exact ⟨none, 0, hB447, (Nat.le_refl _), (Gv.Own.nil (iE .i64) 3 w415 (fun _ => False)), (fun _ h => by cases h), (fun _ h => by cases h), (fun _ h => by cases h), (fun h => by cases h), (fun _ _ h => by cases h), hk449, ho420, hd, hs, ok_pick [3, 11, 12, 19, 21, 22] hok (by kernel_rfl)⟩
              ·rintro s445 r2 h2 hR2 a w446 ⟨a452, c453, hB450, hz451, ho454, hl455, ap456, ap457, ap458, ap459, hb460, hk461, hd, hs, hok⟩
               refine gv_in ?_ hd hs hok
               clear hd hs hok
               clear hc425 ho420 hg416 hB414 hr413 hc394 hc374 hn373 hc354 hn353 hc350 hx346 hg345 hg344 hr343 hk341 hb340 hb338 ap337 ap336 ap335 ap334 ap333 ap332 ap331 hl330 ho329 hz326 hB325 hz182 hz142 hg81 hbe78 hg76 hg72 hB68 hg59 hg51 hb41 hg40 hbe37 hg35 hg31 hlo28 hb21 hg20 hbe17 hg15 hx12 hx11
               refine gv_seq <| gv_seq <| gv_region <| gv_pureN 4 [126, 127, 128, 129] [(129, (.bool (decide (s445.2 < ((List.length r412.1 : Nat) : Int)))))] (by kernel_rfl) ?_
               refine gv_nil <| gv_cond (b := (decide (s445.2 < ((List.length r412.1 : Nat) : Int)))) (by kernel_rfl) (fun hc462 => ?_) (fun hc462 => ?_)
               ·replace h2 := ite_t hc462 h2
                refine gv_skip <| gv_seq <| gv_block <| gv_block <| gv_seq <| gv_region <| gv_pureN 2 [133, 134] [(133, (.slice a418 (List.length r412.1) c419)), (134, (.int .i64 s445.2))] (by kernel_rfl) ?_
                refine bindE h2 ?_; clear h2; intro x463 hx464 h2
                refine gv_idxaddr (t := 45) (e := 3) (a := a418) (len := List.length r412.1) (cap := c419) (kk := .i64) (i := s445.2) (sz := 1) [] (fun e => by cases e) rfl rfl rfl (by kernel_rfl) (by kernel_rfl) Tryd.underlying45 (by kernel_rfl) ((hk461.rd (Y := fun k => blk a418 = some k) (fun _ h => h.elim) (fun g e => e)).has hx464) (idx_spec hx464).1 (idx_spec hx464).2.1 rfl ?_
                refine gv_load (t := 3) (A := (elemAddr a418 ((s445.2 : Int).toNat * 1))) (.int .i64 x463) [] (fun e => by cases e) rfl rfl rfl (by kernel_rfl) (by kernel_rfl) (by kernel_rfl) (inw0 ((hk461.rd (Y := fun k => blk a418 = some k) (fun _ h => h.elim) (fun g e => e)).cell hx464)) rfl ?_
                refine gv_pureN 2 [132, 137] [(132, (.bool (decide (x463 ≥ 0))))] (by kernel_rfl) ?_
                refine gv_nil <| bindE h2 ?_; clear h2; intro j465 h3 h2
                refine gv_cut_code (J := fun a w466 => ∃ (a21_0j : Option Addr) (c21_0j : Nat), Below w0.heap.size w0 w466 ∧ w446.heap.size ≤ w466.heap.size ∧ Gv.Own (iE .i64) 3 w466 (fun _ => False) a21_0j c21_0j j465 ∧ (∀ g, blk a21_0j = some g → w0.heap.size ≤ g) ∧ (∀ g, blk a21_0j = some g → ¬ (· = b33) g) ∧ (∀ g, blk a21_0j = some g → ¬ (fun k => blk a418 = some k) g) ∧ ¬ (fun k => blk a21_0j = some k) b33 ∧ (∀ g, blk a418 = some g → ¬ (fun k => blk a21_0j = some k) g) ∧ Box w466 b33 25 #[(.int .i64 r23.2.1), (.int .i64 r23.2.2)] ∧ Gv.Own (iE .i64) 3 w466 (fun _ => False) a418 c419 r412.1 ∧ a.defers = [] ∧ a.tmps.size = 157 ∧ Ok [(3, (.int .i64 mode_3)), (11, (.string r23.1)), (12, (bp b33)), (19, (.slice a418 (List.length r412.1) c419)), (21, (.slice a21_0j (List.length j465) c21_0j)), (22, (.int .i64 s445.2))] a.tmps) ?_ ?_
                ·skip
                 refine gv_cond (b := (decide (x463 ≥ 0))) (by kernel_rfl) (fun hc467 => ?_) (fun hc467 => ?_)
                 ·replace h3 := ite_t hc467 h3
                  refine gv_region <| gv_pureN 3 [138, 139, 140] [(138, (.slice a452 (List.length s445.1) c453)), (139, (.slice a418 (List.length r412.1) c419)), (140, (.int .i64 s445.2))] (by kernel_rfl) ?_
                  refine bindE h3 ?_; clear h3; intro x468 hx469 h3
                  refine gv_idxaddr (t := 45) (e := 3) (a := a418) (len := List.length r412.1) (cap := c419) (kk := .i64) (i := s445.2) (sz := 1) [] (fun e => by cases e) rfl rfl rfl (by kernel_rfl) (by kernel_rfl) Tryd.underlying45 (by kernel_rfl) ((hk461.rd (Y := fun k => blk a418 = some k) (fun _ h => h.elim) (fun g e => e)).has hx469) (idx_spec hx469).1 (idx_spec hx469).2.1 rfl ?_
                  refine gv_load (t := 3) (A := (elemAddr a418 ((s445.2 : Int).toNat * 1))) (.int .i64 x468) [] (fun e => by cases e) rfl rfl rfl (by kernel_rfl) (by kernel_rfl) (by kernel_rfl) (inw0 ((hk461.rd (Y := fun k => blk a418 = some k) (fun _ h => h.elim) (fun g e => e)).cell hx469)) rfl ?_
                  refine gv_new0 (fun b => .slice (some ⟨b, 0, none⟩) 1 1) #[(.int .i64 x468)] 3 (by kernel_rfl) (by kernel_rfl) ?_
                  intro b470 w471 hg472 hb473 hbe474 hz475
                  have ho476 : Gv.Own (iE .i64) 3 w471 (fun _ => False) (some ⟨b470, 0, none⟩) 1 ([x468] : List Int) := Box.ownE hb473 ⟨[(.int .i64 x468)], [], rfl, rfl, rfl⟩ (show 1 ≤ maxLen by decide) (fun h => h)
                  have hl477 : ∀ g, blk (some ⟨b470, 0, none⟩) = some g → w0.heap.size ≤ g := loo hbe474 hB450.size
                  refine bindE h3 ?_; clear h3; intro l481 hx482 h3
                  have hk489 := ho454.grown hg472 (fun _ h => h.elim) nb
                  refine gv_append (iE .i64) (t := 45) (ty := 45) (e := 3) (a := a452) (ax := (some ⟨b470, 0, none⟩)) (cap := c453) (cx := 1) (xs := s445.1) (ys := ([x468] : List Int)) l481 (X := (fun _ => False)) (Y := (fun k => blk (some ⟨b470, 0, none⟩) = some k)) (by decide) rfl rfl (by kernel_rfl) (by kernel_rfl) Tryd.underlying45 info3 hk489 (ho476.rd (Y := fun k => blk (some ⟨b470, 0, none⟩) = some k) (fun _ h => h.elim) (fun g e => e)) hx482 (.inr fun _ _ _ _ _ h => h) (fun _ h => h.elim) ?_
                  intro a483 c484 w485 hg486 ho487 hk488
                  refine ⟨(fun e => by cases e), ?_⟩
                  have hB491 := bg hB450 hg472 nb
                  have hl490 : ∀ g, blk a483 = some g → w0.heap.size ≤ g := blk_step hk488 hl455 hB491.size
                  have hk493 := hb460.grown hg472 nb
                  have ap492 : ∀ g, blk a483 = some g → ¬ (· = b33) g := blk_neX hk488 ap456 (ltb hk493)
                  have ap494 : ¬ (fun k => blk a483 = some k) b33 := fun h => blk_rev hk488 (fun h => (ap458) h) (hk493.lt) h
                  have hk496 := hk461.grown hg472 (fun _ h => h.elim) nb
                  have ap495 : ∀ g, blk a483 = some g → ¬ (fun k => blk a418 = some k) g := blk_neX hk488 ap457 (fun k (hk : blk a418 = some k) => hk496.lt k hk)
                  have ap497 : ∀ g, blk a418 = some g → ¬ (fun k => blk a483 = some k) g := fun g e h => blk_rev hk488 (fun h => ((ap459) g e) h) (hk496.lt g e) h
                  have ap499 : ∀ g, blk a452 = some g → ¬ (fun k => blk (some ⟨b470, 0, none⟩) = some k) g := fun g e hx => nl ((lowo hbe474) _ hx) ((fun k (hk : blk a452 = some k) => ho454.lt k hk) g e)
                  have ap498 : ∀ g, blk a483 = some g → ¬ (fun k => blk (some ⟨b470, 0, none⟩) = some k) g := blk_neX hk488 ap499 (fun k (hk : blk (some ⟨b470, 0, none⟩) = some k) => ho476.lt k hk)
                  have ap501 : ∀ g, blk (some ⟨b470, 0, none⟩) = some g → ¬ (fun k => blk a452 = some k) g := fun g e hx => nl ((lowo hbe474) g e) ((fun k (hk : blk a452 = some k) => ho454.lt k hk) _ hx)
                  have ap500 : ∀ g, blk (some ⟨b470, 0, none⟩) = some g → ¬ (fun k => blk a483 = some k) g := fun g e h => blk_rev hk488 (fun h => ((ap501) g e) h) (ho476.lt g e) h
                  refine gv_pureN 1 [21] [(21, (.slice a483 (List.length l481) c484))] (by kernel_rfl) ?_
                  refine gv_nil ?_
                  have e := sj h3; subst e
                  refine gv_goal fun a hd hs hok => ?_
                  have hB502 := bg hB491 hg486 hl455
                  have hz503 := (nt hg472.size hg486.size)
                  have hk504 := hk493.grown hg486 ap456
                  have hk505 := hk496.grown hg486 (fun _ h => h.elim) (rdnn ap457)
                  exact ⟨a483, c484, hB502, hz503, ho487, hl490, ap492, ap495, ap494, ap497, hk504, hk505, hd, hs, ok_pick [3, 11, 12, 19, 21, 22] hok (by kernel_rfl)⟩
                 ·replace h3 := ite_f hc467 h3
                  refine gv_seq <| gv_region <| gv_pureN 3 [145, 146, 147] [(145, (.bool (mode_3 == 1)))] (by kernel_rfl) ?_
                  refine gv_nil <| gv_cond (b := (mode_3 == 1)) (by kernel_rfl) (fun hc506 => ?_) (fun hc506 => ?_)
                  ·replace h3 := ite_t hc506 h3
                   refine gv_region <| gv_pureN 1 [148] [(148, (.slice a452 (List.length s445.1) c453))] (by kernel_rfl) ?_
                   refine gv_new0 (fun b => .slice (some ⟨b, 0, none⟩) 1 1) #[(.int .i64 65533)] 3 (by kernel_rfl) (by kernel_rfl) ?_
                   intro b507 w508 hg509 hb510 hbe511 hz512
                   have ho513 : Gv.Own (iE .i64) 3 w508 (fun _ => False) (some ⟨b507, 0, none⟩) 1 ([65533] : List Int) := Box.ownE hb510 ⟨[(.int .i64 65533)], [], rfl, rfl, rfl⟩ (show 1 ≤ maxLen by decide) (fun h => h)
                   have hl514 : ∀ g, blk (some ⟨b507, 0, none⟩) = some g → w0.heap.size ≤ g := loo hbe511 hB450.size
                   refine bindE h3 ?_; clear h3; intro l518 hx519 h3
                   have hk526 := ho454.grown hg509 (fun _ h => h.elim) nb
                   refine gv_append (iE .i64) (t := 45) (ty := 45) (e := 3) (a := a452) (ax := (some ⟨b507, 0, none⟩)) (cap := c453) (cx := 1) (xs := s445.1) (ys := ([65533] : List Int)) l518 (X := (fun _ => False)) (Y := (fun k => blk (some ⟨b507, 0, none⟩) = some k)) (by decide) rfl rfl (by kernel_rfl) (by kernel_rfl) Tryd.underlying45 info3 hk526 (ho513.rd (Y := fun k => blk (some ⟨b507, 0, none⟩) = some k) (fun _ h => h.elim) (fun g e => e)) hx519 (.inr fun _ _ _ _ _ h => h) (fun _ h => h.elim) ?_
                   intro a520 c521 w522 hg523 ho524 hk525
                   refine ⟨(fun e => by cases e), ?_⟩
                   have hB528 := bg hB450 hg509 nb
                   have hl527 : ∀ g, blk a520 = some g → w0.heap.size ≤ g := blk_step hk525 hl455 hB528.size
                   have hk530 := hb460.grown hg509 nb
                   have ap529 : ∀ g, blk a520 = some g → ¬ (· = b33) g := blk_neX hk525 ap456 (ltb hk530)
                   have ap531 : ¬ (fun k => blk a520 = some k) b33 := fun h => blk_rev hk525 (fun h => (ap458) h) (hk530.lt) h
                   have hk533 := hk461.grown hg509 (fun _ h => h.elim) nb
                   have ap532 : ∀ g, blk a520 = some g → ¬ (fun k => blk a418 = some k) g := blk_neX hk525 ap457 (fun k (hk : blk a418 = some k) => hk533.lt k hk)
                   have ap534 : ∀ g, blk a418 = some g → ¬ (fun k => blk a520 = some k) g := fun g e h => blk_rev hk525 (fun h => ((ap459) g e) h) (hk533.lt g e) h
                   have ap536 : ∀ g, blk a452 = some g → ¬ (fun k => blk (some ⟨b507, 0, none⟩) = some k) g := fun g e hx => nl ((lowo hbe511) _ hx) ((fun k (hk : blk a452 = some k) => ho454.lt k hk) g e)
                   have ap535 : ∀ g, blk a520 = some g → ¬ (fun k => blk (some ⟨b507, 0, none⟩) = some k) g := blk_neX hk525 ap536 (fun k (hk : blk (some ⟨b507, 0, none⟩) = some k) => ho513.lt k hk)
                   have ap538 : ∀ g, blk (some ⟨b507, 0, none⟩) = some g → ¬ (fun k => blk a452 = some k) g := fun g e hx => nl ((lowo hbe511) g e) ((fun k (hk : blk a452 = some k) => ho454.lt k hk) _ hx)
                   have ap537 : ∀ g, blk (some ⟨b507, 0, none⟩) = some g → ¬ (fun k => blk a520 = some k) g := fun g e h => blk_rev hk525 (fun h => ((ap538) g e) h) (ho513.lt g e) h
                   refine gv_pureN 1 [21] [(21, (.slice a520 (List.length l518) c521))] (by kernel_rfl) ?_
                   refine gv_nil ?_
                   have e := sj h3; subst e
                   refine gv_goal fun a hd hs hok => ?_
                   have hB539 := bg hB528 hg523 hl455
                   have hz540 := (nt hg509.size hg523.size)
                   have hk541 := hk530.grown hg523 ap456
                   have hk542 := hk533.grown hg523 (fun _ h => h.elim) (rdnn ap457)
                   exact ⟨a520, c521, hB539, hz540, ho524, hl527, ap529, ap532, ap531, ap534, hk541, hk542, hd, hs, ok_pick [3, 11, 12, 19, 21, 22] hok (by kernel_rfl)⟩
                  ·replace h3 := ite_f hc506 h3
                   refine gv_skip ?_
                   have e := sj h3; subst e
                   refine gv_goal fun a hd hs hok => ?_
                   exact ⟨a452, c453, hB450, (Nat.le_refl _), ho454, hl455, ap456, ap457, ap458, ap459, hb460, hk461, hd, hs, ok_pick [3, 11, 12, 19, 21, 22] hok (by kernel_rfl)⟩
                ·rintro a w466 ⟨a545, c546, hB543, hz544, ho547, hl548, ap549, ap550, ap551, ap552, hb553, hk554, hd, hs, hok⟩
                 refine gv_in ?_ hd hs hok
                 clear hd hs hok
                 have hz555 := (nt hz451 hz544)
                 clear hz544 hx464 hc462 hk461 hb460 ap459 ap458 ap457 ap456 hl455 ho454 hz451 hB450
                 refine gv_blk <| gv_blk <| gv_region <| gv_pureN 3 [22, 130, 131] [(22, (.int .i64 (IntKind.i64.wrap (s445.2 + 1))))] (by kernel_rfl) ?_
                 refine gv_nil ?_
                 have e := sj h2; subst e
                 refine gv_goal fun a hd hs hok => ?_
                 have hz556 := hz555
                 exact ⟨(j465, (IntKind.i64.wrap (s445.2 + 1))), rfl, a545, c546, hB543, hz556, ho547, hl548, ap549, ap550, ap551, ap552, hb553, hk554, hd, hs, ok_pick [3, 11, 12, 19, 21, 22] hok (by kernel_rfl)⟩
               ·replace h2 := ite_f hc462 h2
                refine gv_cexit <| gv_exit rfl ?_
                have e := sj h2; subst e
                replace h1 := congrArg some (hR2 _ rfl)
                have e := sj h1; subst e
                refine gv_goal fun a hd hs hok => ?_
                have hz557 := hz451
                exact ⟨a452, c453, hB450, hz557, ho454, hl455, ap456, ap458, hb460, hd, hs, ok_pick [11, 12, 21] hok (by kernel_rfl)⟩
             ·rintro a w444 ⟨a560, c561, hB558, hz559, ho562, hl563, ap564, ap565, hb566, hd, hs, hok⟩
              refine gv_in ?_ hd hs hok
              clear hd hs hok
              clear hz559 hc425 hl422 hl421 ho420 hg416 hB414 hr413 hc394 hc374 hn373 hc354 hn353 hc350 hg348 hx346 hg345 hg344 hr343 hk341 hb340 hb339 hb338 ap337 ap336 ap335 ap334 ap333 ap332 ap331 hl330 ho329 hz326 hB325 hz182 hz142 hg81 hbe78 hg76 hg72 hB68 hg59 hg51 hb41 hg40 hbe37 hg35 hg31 hlo28 hb21 hg20 hbe17 hg15 hx12 hx11
              refine gv_seq <| gv_drawA (by kernel_rfl) ?_
              intro w567 hg568
              refine gv_pre [0, 2, 4] (bA 7 [0, 2, 4]) 4 (by kernel_rfl) (by kernel_rfl) ?_
              refine gv_pureN 3 [151, 153, 155] [(151, (.string r23.1)), (153, (.slice a560 (List.length j443) c561)), (155, (.agg #[(.int .i64 0), (.int .i64 0)]))] (by kernel_rfl) ?_
              refine gv_nil <| gv_goA ?_
              refine gv_stage (Cls w567 []) [0, 1, 2, 3, 4] [(1, some true), (3, some false)] (bA 7 [0, 1, 2, 3, 4]) 2 (by kernel_rfl) (by kernel_rfl) (Cls.refl _ _) ?_
              have hC569 := Cls.refl w567 []
              have hk570 := hb566.grown hg568 nb
              refine gv_loadBox (t := 25) (b := b33) (t' := 25) (fr := (0, 0)) #[(.int .i64 r23.2.1), (.int .i64 r23.2.2)] [] (fun e => by cases e) rfl rfl rfl (by kernel_rfl) (by kernel_rfl) (by kernel_rfl) (by kernel_rfl) (inw1 fun w' hC' => (hC'.box hk570 nm_nil)) rfl ?_
              refine bindE h0 ?_; clear h0; intro r571 hr572 h0
              have hk573 := ho562.grown hg568 (fun _ h => h.elim) nb
              refine gv_call (f := 28) (vs := [(.slice a560 (List.length j443) c561)]) (cap := []) _ (by decide) rfl rfl rfl (by kernel_rfl) (by kernel_rfl) enters28 (ref4_String_ok fuel a560 c561 j443 w567 (fun k => (fun k => blk a560 = some k) k) (fun k hk => (fun k (hk : blk a560 = some k) => hk573.lt k hk) k hk) ((hk573.rd (Y := fun k => blk a560 = some k) (fun _ h => h.elim) (fun g e => e)).wide (fun k hk => hk)) r571 hr572) ?_
              rintro v576 w574 ⟨hg575, rfl⟩
              refine ⟨(fun _ => hC569.grown hg575 nb), ?_⟩
              refine gv_nil <| gv_goA ?_
              refine gv_stage (fun _ => True) [0, 1, 2, 3, 4, 5] [(5, some false)] (bA 7 [0, 1, 2, 3, 4, 5]) 1 (by kernel_rfl) (by kernel_rfl) trivial ?_
              refine bindE h0 ?_; clear h0; intro r577 hr578 h0
              refine gv_call (f := 19) (vs := [(.string r23.1), (.agg #[(.int .i64 r23.2.1), (.int .i64 r23.2.2)]), (.string r571), (.agg #[(.int .i64 0), (.int .i64 0)])]) (cap := []) _ (by decide) rfl rfl rfl (by kernel_rfl) (by kernel_rfl) enters19 (law4_text_ok fuel r23.1 (r23.2.1, r23.2.2) r571 (0, 0) w574  r577 hr578) ?_
              rintro v581 w579 ⟨hg580, rfl⟩
              refine ⟨(fun _ => trivial), ?_⟩
              clear hr578 hr572 hC569 hb566 ap565 ap564 ho562
              refine gv_nil <| gv_goA ?_
              refine gv_pre [6] (bA 7 [0, 1, 2, 3, 4, 5, 6]) 0 (by kernel_rfl) (by kernel_rfl) ?_
              refine gv_pureN 1 [8] [(8, (.bool r577))] (by kernel_rfl) ?_
              refine gv_nil <| gv_goA ?_
              refine gv_stageE (by kernel_rfl) ?_
              refine gv_cret ?_
              have e := sj h0; subst e
              refine gv_ret (gv_done [(.bool r577)] rfl ⟨(by kernel_rfl), trivial⟩ ?_)
              have hg582 := (grown_trans (grown_trans hg568 hg575) hg580)
              have hB583 := bg hB558 hg582 nb
              exact ⟨grown_of_below hB583, rfl⟩

end Go.Proofs.YtlclmpegnkomcaaDoor
