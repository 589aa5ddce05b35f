import Derived.Test.YtkmcegicngjhbaaDoorP2
set_option linter.all false
set_option maxHeartbeats 4000000
set_option maxRecDepth 100000
/- Own work, printed by a program of mine: the walk of each function: a call returns what the plain function says. -/
namespace Go.Proofs.YtkmcegicngjhbaaDoor
open Go.Gv Go.Gv.D Go.RowKit
theorem law4_TextstrWraps_ok (fuel : Nat) (s_0 : ByteArray) (t_1 : ByteArray) (width_2 : Int) (w0 : World) (X0 : Nat → Prop) (hX0 : ∀ k, X0 k → k < w0.heap.size) {gmx : Int} (hG0 : Rd (iE .i64) w0 X0 (some ⟨0, 0, none⟩) 1 [gmx]) (hG1 : Rd bE w0 X0 (some ⟨1, 0, none⟩) 256 utf8First) (hG2 : Rd (prE (iE .u8) (iE .u8)) w0 X0 (some ⟨2, 0, none⟩) 16 utf8Acc) (r0 : Bool) (h0 : law4_TextstrWraps fuel s_0 t_1 width_2 = some r0) :
    Calls Tryd.prog 6 ([(.string s_0), (.string t_1), (.int .i64 width_2)] : List Value).toArray w0 (Ret fun v w' => w0.grownBy w' none ∧ v = tup [(.bool r0)]) := by
 have hB0 : Below w0.heap.size w0 w0 := Below.refl _ _
 unfold law4_TextstrWraps at h0
 refine calls_run Tryd.func6 rfl Tryd.ntmps6 (by kernel_rfl) ?_
 refine gv_sub [0, 1, 2] (σ' := [(0, (.string s_0)), (1, (.string t_1)), (2, (.int .i64 width_2))]) (by kernel_rfl) ?_
 refine gv_seq <| gv_region <| gv_pureN 1 [6] [] (by kernel_rfl) ?_
 refine gv_nil <| gv_seq <| gv_region <| gv_pureN 2 [18, 19] [(18, (.string s_0)), (19, (.int .i64 width_2))] (by kernel_rfl) ?_
 refine bindE h0 ?_; clear h0; intro r1 hr2 h0
 refine gv_call0 (by kernel_rfl) rfl (by kernel_rfl) enters14 (textstr_Wrap_ok fuel s_0 width_2 w0 (fun k => X0 k ∨ X0 k) (fun k hk => (hk).elim (fun h => (fun k (hk : X0 k) => ltl (hX0 k hk) hB0.size) k h) (fun h => (fun k (hk : X0 k) => ltl (hX0 k hk) hB0.size) k h)) ((hG1.below hB0 hX0).wide (fun k hk => (.inl hk))) ((hG2.below hB0 hX0).wide (fun k hk => (.inr hk))) r1 hr2) ?_
 rintro v5 w3 ⟨hg4, a6, c7, X9, rfl, ho8, hx10⟩
 have hx11 : ∀ k, X9 k → k < w3.heap.size := fun k hk => (hx10 k hk).1
 have hx12 : ∀ k, X9 k → X0 k ∨ w0.heap.size ≤ k := fun k hk => (hx10 k hk).2.elim (fun h => (h).elim (fun h => (fun k (hk : X0 k) => Or.inl hk) k h) (fun h => (fun k (hk : X0 k) => Or.inl hk) k h)) (fun h => .inr (Nat.le_trans hB0.size h))
 refine gv_pureN 3 [17, 21, 22] [(21, (.slice a6 (List.length r1.1) c7)), (22, (.agg #[(.int .i64 r1.2.1), (.int .i64 r1.2.2)]))] (by kernel_rfl) ?_
 refine gv_new0 (fun b => .pointer (some ⟨b, 0, none⟩)) #[(.int .i64 0), (.int .i64 0)] 24 (by kernel_rfl) (by kernel_rfl) ?_
 intro b13 w14 hg15 hb16 hbe17 hz18
 refine gv_pureN 1 [7] [(7, (.slice a6 (List.length r1.1) c7))] (by kernel_rfl) ?_
 refine gv_store0 24 0 (.agg #[(.int .i64 r1.2.1), (.int .i64 r1.2.2)]) #[(.int .i64 r1.2.1), (.int .i64 r1.2.2)] hb16 (by kernel_rfl) (by kernel_rfl) (by kernel_rfl) ?_
 intro w19 hg20 hb21 hz22
 refine gv_nil <| gv_seq <| gv_region <| gv_pureN 1 [23] [(23, (.agg #[(.int .i64 0), (.int .i64 0)]))] (by kernel_rfl) ?_
 refine gv_new0 (fun b => .pointer (some ⟨b, 0, none⟩)) #[(.int .i64 0), (.int .i64 0)] 24 (by kernel_rfl) (by kernel_rfl) ?_
 intro b23 w24 hg25 hb26 hbe27 hz28
 refine gv_store0 24 0 (.agg #[(.int .i64 0), (.int .i64 0)]) #[(.int .i64 0), (.int .i64 0)] hb26 (by kernel_rfl) (by kernel_rfl) (by kernel_rfl) ?_
 intro w29 hg30 hb31 hz32
 refine gv_nil <| gv_seq <| gv_region <| gv_pureN 1 [25] [(25, (.string s_0))] (by kernel_rfl) ?_
 refine bindE h0 ?_; clear h0; intro r33 hr34 h0
 refine gv_call0 (by kernel_rfl) rfl (by kernel_rfl) enters24 (ref4_Points_ok fuel s_0 w29  r33 hr34) ?_
 rintro v37 w35 ⟨hg36, a38, c39, rfl, ho40, hl41⟩
 have hg43 := (grown_trans hg4 hg15)
 have hB44 := bg hB0 hg43 nb
 have hB45 := bg hB0 hg4 nb
 have hlo46 : w0.heap.size ≤ b13 := lob hbe17 hB45.size
 have hB47 := bg hB44 hg20 (rowlo hlo46)
 have hB48 := bg hB47 hg25 nb
 have hB49 := bg hB45 hg15 nb
 have hB50 := bg hB49 hg20 (rowlo hlo46)
 have hlo51 : w0.heap.size ≤ b23 := lob hbe27 hB50.size
 have hB52 := bg hB48 hg30 (rowlo hlo51)
 have hl42 : ∀ g, blk a38 = some g → w0.heap.size ≤ g := fun g e => Nat.le_trans hB52.size (hl41 g e)
 refine gv_pureN 5 [10, 11, 24, 27, 28] [(10, (.slice a38 (List.length r33.1) c39))] (by kernel_rfl) ?_
 refine gv_nil <| gv_seq <| gv_region <| gv_pureN 1 [30] [(30, (.string t_1))] (by kernel_rfl) ?_
 refine gv_sub [0, 1, 2, 7, 8, 9, 10, 30] (σ' := [(0, (.string s_0)), (1, (.string t_1)), (2, (.int .i64 width_2)), (7, (.slice a6 (List.length r1.1) c7)), (8, (bp b13)), (9, (bp b23)), (10, (.slice a38 (List.length r33.1) c39)), (30, (.string t_1))]) (by kernel_rfl) ?_
 refine bindE h0 ?_; clear h0; intro r53 hr54 h0
 refine gv_call0 (by kernel_rfl) rfl (by kernel_rfl) enters24 (ref4_Points_ok fuel t_1 w35  r53 hr54) ?_
 rintro v57 w55 ⟨hg56, a58, c59, rfl, ho60, hl61⟩
 have hB63 := bg hB52 hg36 nb
 have hl62 : ∀ g, blk a58 = some g → w0.heap.size ≤ g := fun g e => Nat.le_trans hB63.size (hl61 g e)
 refine gv_pureN 5 [12, 13, 29, 32, 33] [(12, (.slice a58 (List.length r53.1) c59))] (by kernel_rfl) ?_
 refine gv_nil <| gv_seq <| gv_region <| gv_pureN 1 [34] [(34, (.slice a38 (List.length r33.1) c39))] (by kernel_rfl) ?_
 refine bindE h0 ?_; clear h0; intro r64 hr65 h0
 have hk66 := ho40.grown hg56 (fun _ h => h.elim) nb
 refine gv_call0 (by kernel_rfl) rfl (by kernel_rfl) enters32 (ref4_WordsOf_ok fuel a38 c39 r33.1 w55 (fun k => (fun k => blk a38 = some k) k) (fun k hk => (fun k (hk : blk a38 = some k) => hk66.lt k hk) k hk) ((hk66.rd (Y := fun k => blk a38 = some k) (fun _ h => h.elim) (fun g e => e)).wide (fun k hk => hk)) r64 hr65) ?_
 rintro v69 w67 ⟨hg68, a70, c71, rfl, ho72, hl73⟩
 have hB75 := bg hB63 hg56 nb
 have hl74 : ∀ g, blk a70 = some g → w0.heap.size ≤ g := fun g e => Nat.le_trans hB75.size (hl73 g e)
 clear hr65 hB63 hr54 hB52 hB50 hB49 hB48 hB47 hB45 hB44 hg43 hr34 hz32 hz28 hb26 hz22 hz18 hb16 hx10 hg4 hr2
 refine gv_pureN 1 [14] [(14, (.slice a70 (List.length r64) c71))] (by kernel_rfl) ?_
 refine gv_nil <| gv_seq <| gv_block <| gv_seq <| gv_region <| gv_cut_ops (J := fun a w76 => w67 = w76 ∧ a.defers = [] ∧ a.tmps.size = 125 ∧ Ok [(0, (.string s_0)), (1, (.string t_1)), (2, (.int .i64 width_2)), (7, (.slice a6 (List.length r1.1) c7)), (8, (bp b13)), (9, (bp b23)), (10, (.slice a38 (List.length r33.1) c39)), (12, (.slice a58 (List.length r53.1) c59)), (14, (.slice a70 (List.length r64) c71)), (36, (.bool ((decide (width_2 < 1)) || (decide (width_2 > 4000)))))] a.tmps) ?_ ?_
 ·skip
  refine gv_pureN 3 [37, 38, 39] [(39, (.bool (decide (width_2 < 1))))] (by kernel_rfl) ?_
  refine gv_split (s := 39) (g := (decide (width_2 < 1))) (by kernel_rfl) (fun hc77 => ?_) (fun hc77 => ?_)
  ·skip
   refine gv_pureN 4 [36, 40, 41, 42] [(36, (.bool true))] (by kernel_rfl) ?_
   refine gv_nil <| gv_sub [0, 1, 2, 7, 8, 9, 10, 12, 14, 36] (σ' := [(0, (.string s_0)), (1, (.string t_1)), (2, (.int .i64 width_2)), (7, (.slice a6 (List.length r1.1) c7)), (8, (bp b13)), (9, (bp b23)), (10, (.slice a38 (List.length r33.1) c39)), (12, (.slice a58 (List.length r53.1) c59)), (14, (.slice a70 (List.length r64) c71)), (36, (.bool true))]) (by kernel_rfl) ?_
   refine gv_goal fun a hd hs hok => ⟨rfl, hd, hs, ?_⟩
   obtain ⟨q0, q1, q2, q7, q8, q9, q10, q12, q14, q36, _⟩ := hok
   exact ⟨q0, q1, q2, q7, q8, q9, q10, q12, q14, (by rw [hc77]; exact q36), trivial⟩
  ·skip
   refine gv_pureN 4 [36, 40, 41, 42] [(36, (.bool (decide (width_2 > 4000))))] (by kernel_rfl) ?_
   refine gv_nil <| gv_sub [0, 1, 2, 7, 8, 9, 10, 12, 14, 36] (σ' := [(0, (.string s_0)), (1, (.string t_1)), (2, (.int .i64 width_2)), (7, (.slice a6 (List.length r1.1) c7)), (8, (bp b13)), (9, (bp b23)), (10, (.slice a38 (List.length r33.1) c39)), (12, (.slice a58 (List.length r53.1) c59)), (14, (.slice a70 (List.length r64) c71)), (36, (.bool (decide (width_2 > 4000))))]) (by kernel_rfl) ?_
   refine gv_goal fun a hd hs hok => ⟨rfl, hd, hs, ?_⟩
   obtain ⟨q0, q1, q2, q7, q8, q9, q10, q12, q14, q36, _⟩ := hok
   exact ⟨q0, q1, q2, q7, q8, q9, q10, q12, q14, (by rw [hc77]; exact q36), trivial⟩
 ·rintro a w76 ⟨e, hd, hs, hok⟩; subst e
  refine gv_in ?_ hd hs hok
  clear hd hs hok
  refine bindE h0 ?_; clear h0; intro j78 h1 h0
  refine gv_cut_code (J := fun a w79 => Below w0.heap.size w0 w79 ∧ w67.heap.size ≤ w79.heap.size ∧ Box w79 b13 24 #[(.int .i64 r1.2.1), (.int .i64 r1.2.2)] ∧ Box w79 b23 24 #[(.int .i64 j78.1), (.int .i64 j78.2)] ∧ Rd sE w79 X9 a6 c7 r1.1 ∧ Gv.Own (iE .i64) 3 w79 (fun _ => False) a38 c39 r33.1 ∧ Gv.Own (iE .i64) 3 w79 (fun _ => False) a58 c59 r53.1 ∧ Gv.Own sE 9 w79 (fun _ => False) a70 c71 r64 ∧ a.defers = [] ∧ a.tmps.size = 125 ∧ Ok [(0, (.string s_0)), (1, (.string t_1)), (2, (.int .i64 width_2)), (7, (.slice a6 (List.length r1.1) c7)), (8, (bp b13)), (9, (bp b23)), (10, (.slice a38 (List.length r33.1) c39)), (12, (.slice a58 (List.length r53.1) c59)), (14, (.slice a70 (List.length r64) c71))] a.tmps) ?_ ?_
  ·skip
   refine gv_cond (b := ((decide (width_2 < 1)) || (decide (width_2 > 4000)))) (by kernel_rfl) (fun hc80 => ?_) (fun hc80 => ?_)
   ·replace h1 := ite_t hc80 h1
    refine gv_region <| bindE h1 ?_; clear h1; intro r81 hr82 h1
    refine gv_call0 (by kernel_rfl) rfl (by kernel_rfl) enters29 (ref4_At_ok fuel 4 (-2) w67  r81 hr82) ?_
    rintro v85 w83 ⟨hg84, rfl⟩
    have hg90 := (grown_trans (grown_trans (grown_trans hg36 hg56) hg68) hg84)
    have hk91 := hb31.grown hg90 nb
    refine gv_store0 24 0 (.agg #[(.int .i64 r81.1), (.int .i64 r81.2)]) #[(.int .i64 r81.1), (.int .i64 r81.2)] hk91 (by kernel_rfl) (by kernel_rfl) (by kernel_rfl) ?_
    intro w86 hg87 hb88 hz89
    refine gv_nil ?_
    have e := sj h1; subst e
    refine gv_goal fun a hd hs hok => ?_
    have hg92 := (grown_trans hg68 hg84)
    have hB93 := bg hB75 hg92 nb
    have hB94 := bg hB93 hg87 (rowlo hlo51)
    have hz95 := (nt hg84.size hg87.size)
    have lt96 := ltl ((ltb hb21) _ rfl) ((lowb hbe27) _ rfl)
    have hk97 := (((hb21.grown hg25 nb).grown hg30 (rowne (ng lt96))).grown hg90 nb).grown hg87 (rowne (ng lt96))
    have ap98 : ¬ X9 b13 := fun hx => nl ((lowb hbe17) _ rfl) (hx11 _ hx)
    have hx99 := ltx hx11 hg15.size
    have hx100 := ltx hx99 hg20.size
    have ap101 : ¬ X9 b23 := fun hx => nl ((lowb hbe27) _ rfl) (hx100 _ hx)
    have hx102 := ltx hx100 hg25.size
    have hx103 := ltx hx102 hg30.size
    have hx104 := ltx hx103 hg90.size
    have hk105 := (((((ho8.grown hg15 hx11 nb).grown hg20 hx99 (rowne ap98)).grown hg25 hx100 nb).grown hg30 hx102 (rowne ap101)).grown hg90 hx103 nb).grown hg87 hx104 (rowne ap101)
    have ap106 : ¬ (fun k => blk a38 = some k) b23 := fun hx => nl ((show ∀ k, blk a38 = some k → w29.heap.size ≤ k from hl41) _ hx) ((ltb hb31) _ rfl)
    have hk107 := (hk66.grown hg92 (fun _ h => h.elim) nb).grown hg87 (fun _ h => h.elim) (rdnn (rowne ap106))
    have hk108 := hb31.grown hg36 nb
    have ap109 : ¬ (fun k => blk a58 = some k) b23 := fun hx => nl ((show ∀ k, blk a58 = some k → w35.heap.size ≤ k from hl61) _ hx) ((ltb hk108) _ rfl)
    have hk110 := (ho60.grown hg92 (fun _ h => h.elim) nb).grown hg87 (fun _ h => h.elim) (rdnn (rowne ap109))
    have hk111 := hk108.grown hg56 nb
    have ap112 : ¬ (fun k => blk a70 = some k) b23 := fun hx => nl ((show ∀ k, blk a70 = some k → w55.heap.size ≤ k from hl73) _ hx) ((ltb hk111) _ rfl)
    have hk113 := (ho72.grown hg84 (fun _ h => h.elim) nb).grown hg87 (fun _ h => h.elim) (rdnn (rowne ap112))
    exact ⟨hB94, hz95, hk97, hb88, hk105, hk107, hk110, hk113, hd, hs, ok_pick [0, 1, 2, 7, 8, 9, 10, 12, 14] hok (by kernel_rfl)⟩
   ·replace h1 := ite_f hc80 h1
    refine gv_seq <| gv_region <| gv_pureN 1 [45] [(45, (.string s_0))] (by kernel_rfl) ?_
    refine bindE h1 ?_; clear h1; intro r114 hr115 h1
    refine gv_call0 (by kernel_rfl) rfl (by kernel_rfl) enters31 (ref4_TextOk_ok fuel s_0 w67  r114 hr115) ?_
    rintro v118 w116 ⟨hg117, rfl⟩
    refine gv_pureN 2 [44, 47] [(44, (.bool (!r114)))] (by kernel_rfl) ?_
    refine gv_nil <| gv_cond (b := (!r114)) (by kernel_rfl) (fun hc119 => ?_) (fun hc119 => ?_)
    ·replace h1 := ite_t hc119 h1
     refine gv_region <| bindE h1 ?_; clear h1; intro r120 hr121 h1
     refine gv_call0 (by kernel_rfl) rfl (by kernel_rfl) enters29 (ref4_At_ok fuel 6 (-1) w116  r120 hr121) ?_
     rintro v124 w122 ⟨hg123, rfl⟩
     have hg129 := (grown_trans (grown_trans (grown_trans (grown_trans hg36 hg56) hg68) hg117) hg123)
     have hk130 := hb31.grown hg129 nb
     refine gv_store0 24 0 (.agg #[(.int .i64 r120.1), (.int .i64 r120.2)]) #[(.int .i64 r120.1), (.int .i64 r120.2)] hk130 (by kernel_rfl) (by kernel_rfl) (by kernel_rfl) ?_
     intro w125 hg126 hb127 hz128
     refine gv_nil ?_
     have e := sj h1; subst e
     refine gv_goal fun a hd hs hok => ?_
     have hg131 := (grown_trans (grown_trans hg68 hg117) hg123)
     have hB132 := bg hB75 hg131 nb
     have hB133 := bg hB132 hg126 (rowlo hlo51)
     have hz134 := (nt (nt hg117.size hg123.size) hg126.size)
     have lt135 := ltl ((ltb hb21) _ rfl) ((lowb hbe27) _ rfl)
     have hk136 := (((hb21.grown hg25 nb).grown hg30 (rowne (ng lt135))).grown hg129 nb).grown hg126 (rowne (ng lt135))
     have ap137 : ¬ X9 b13 := fun hx => nl ((lowb hbe17) _ rfl) (hx11 _ hx)
     have hx138 := ltx hx11 hg15.size
     have hx139 := ltx hx138 hg20.size
     have ap140 : ¬ X9 b23 := fun hx => nl ((lowb hbe27) _ rfl) (hx139 _ hx)
     have hx141 := ltx hx139 hg25.size
     have hx142 := ltx hx141 hg30.size
     have hx143 := ltx hx142 hg129.size
     have hk144 := (((((ho8.grown hg15 hx11 nb).grown hg20 hx138 (rowne ap137)).grown hg25 hx139 nb).grown hg30 hx141 (rowne ap140)).grown hg129 hx142 nb).grown hg126 hx143 (rowne ap140)
     have ap145 : ¬ (fun k => blk a38 = some k) b23 := fun hx => nl ((show ∀ k, blk a38 = some k → w29.heap.size ≤ k from hl41) _ hx) ((ltb hb31) _ rfl)
     have hk146 := (hk66.grown hg131 (fun _ h => h.elim) nb).grown hg126 (fun _ h => h.elim) (rdnn (rowne ap145))
     have hk147 := hb31.grown hg36 nb
     have ap148 : ¬ (fun k => blk a58 = some k) b23 := fun hx => nl ((show ∀ k, blk a58 = some k → w35.heap.size ≤ k from hl61) _ hx) ((ltb hk147) _ rfl)
     have hk149 := (ho60.grown hg131 (fun _ h => h.elim) nb).grown hg126 (fun _ h => h.elim) (rdnn (rowne ap148))
     have hg150 := (grown_trans hg117 hg123)
     have hk151 := hk147.grown hg56 nb
     have ap152 : ¬ (fun k => blk a70 = some k) b23 := fun hx => nl ((show ∀ k, blk a70 = some k → w55.heap.size ≤ k from hl73) _ hx) ((ltb hk151) _ rfl)
     have hk153 := (ho72.grown hg150 (fun _ h => h.elim) nb).grown hg126 (fun _ h => h.elim) (rdnn (rowne ap152))
     exact ⟨hB133, hz134, hk136, hb127, hk144, hk146, hk149, hk153, hd, hs, ok_pick [0, 1, 2, 7, 8, 9, 10, 12, 14] hok (by kernel_rfl)⟩
    ·replace h1 := ite_f hc119 h1
     refine gv_seq <| gv_region <| gv_pureN 4 [49, 50, 51, 52] [(49, (.bool (decide (((List.length r64 : Nat) : Int) > 1000))))] (by kernel_rfl) ?_
     refine bindE h1 ?_; clear h1; intro n154 hn155 h1
     refine gv_name (s := 49) (v := (.bool (decide (((List.length r64 : Nat) : Int) > 1000)))) (v' := (.bool n154)) (by kernel_rfl) (congrArg (Value.bool) (sj hn155)) ?_
     refine gv_nil <| gv_cond (b := n154) (by kernel_rfl) (fun hc156 => ?_) (fun hc156 => ?_)
     ·replace h1 := ite_t hc156 h1
      refine gv_region <| bindE h1 ?_; clear h1; intro r157 hr158 h1
      refine gv_call0 (by kernel_rfl) rfl (by kernel_rfl) enters29 (ref4_At_ok fuel 2 (-1) w116  r157 hr158) ?_
      rintro v161 w159 ⟨hg160, rfl⟩
      have hg166 := (grown_trans (grown_trans (grown_trans (grown_trans hg36 hg56) hg68) hg117) hg160)
      have hk167 := hb31.grown hg166 nb
      refine gv_store0 24 0 (.agg #[(.int .i64 r157.1), (.int .i64 r157.2)]) #[(.int .i64 r157.1), (.int .i64 r157.2)] hk167 (by kernel_rfl) (by kernel_rfl) (by kernel_rfl) ?_
      intro w162 hg163 hb164 hz165
      refine gv_nil ?_
      have e := sj h1; subst e
      refine gv_goal fun a hd hs hok => ?_
      have hg168 := (grown_trans (grown_trans hg68 hg117) hg160)
      have hB169 := bg hB75 hg168 nb
      have hB170 := bg hB169 hg163 (rowlo hlo51)
      have hz171 := (nt (nt hg117.size hg160.size) hg163.size)
      have lt172 := ltl ((ltb hb21) _ rfl) ((lowb hbe27) _ rfl)
      have hk173 := (((hb21.grown hg25 nb).grown hg30 (rowne (ng lt172))).grown hg166 nb).grown hg163 (rowne (ng lt172))
      have ap174 : ¬ X9 b13 := fun hx => nl ((lowb hbe17) _ rfl) (hx11 _ hx)
      have hx175 := ltx hx11 hg15.size
      have hx176 := ltx hx175 hg20.size
      have ap177 : ¬ X9 b23 := fun hx => nl ((lowb hbe27) _ rfl) (hx176 _ hx)
      have hx178 := ltx hx176 hg25.size
      have hx179 := ltx hx178 hg30.size
      have hx180 := ltx hx179 hg166.size
      have hk181 := (((((ho8.grown hg15 hx11 nb).grown hg20 hx175 (rowne ap174)).grown hg25 hx176 nb).grown hg30 hx178 (rowne ap177)).grown hg166 hx179 nb).grown hg163 hx180 (rowne ap177)
      have ap182 : ¬ (fun k => blk a38 = some k) b23 := fun hx => nl ((show ∀ k, blk a38 = some k → w29.heap.size ≤ k from hl41) _ hx) ((ltb hb31) _ rfl)
      have hk183 := (hk66.grown hg168 (fun _ h => h.elim) nb).grown hg163 (fun _ h => h.elim) (rdnn (rowne ap182))
      have hk184 := hb31.grown hg36 nb
      have ap185 : ¬ (fun k => blk a58 = some k) b23 := fun hx => nl ((show ∀ k, blk a58 = some k → w35.heap.size ≤ k from hl61) _ hx) ((ltb hk184) _ rfl)
      have hk186 := (ho60.grown hg168 (fun _ h => h.elim) nb).grown hg163 (fun _ h => h.elim) (rdnn (rowne ap185))
      have hg187 := (grown_trans hg117 hg160)
      have hk188 := hk184.grown hg56 nb
      have ap189 : ¬ (fun k => blk a70 = some k) b23 := fun hx => nl ((show ∀ k, blk a70 = some k → w55.heap.size ≤ k from hl73) _ hx) ((ltb hk188) _ rfl)
      have hk190 := (ho72.grown hg187 (fun _ h => h.elim) nb).grown hg163 (fun _ h => h.elim) (rdnn (rowne ap189))
      exact ⟨hB170, hz171, hk173, hb164, hk181, hk183, hk186, hk190, hd, hs, ok_pick [0, 1, 2, 7, 8, 9, 10, 12, 14] hok (by kernel_rfl)⟩
     ·replace h1 := ite_f hc156 h1
      refine gv_skip ?_
      have e := sj h1; subst e
      refine gv_goal fun a hd hs hok => ?_
      have hg191 := (grown_trans hg68 hg117)
      have hB192 := bg hB75 hg191 nb
      have hz193 := hg117.size
      have lt194 := ltl ((ltb hb21) _ rfl) ((lowb hbe27) _ rfl)
      have hg195 := (grown_trans (grown_trans hg36 hg56) hg191)
      have hk196 := ((hb21.grown hg25 nb).grown hg30 (rowne (ng lt194))).grown hg195 nb
      have hk197 := hb31.grown hg195 nb
      have ap198 : ¬ X9 b13 := fun hx => nl ((lowb hbe17) _ rfl) (hx11 _ hx)
      have hx199 := ltx hx11 hg15.size
      have hx200 := ltx hx199 hg20.size
      have ap201 : ¬ X9 b23 := fun hx => nl ((lowb hbe27) _ rfl) (hx200 _ hx)
      have hx202 := ltx hx200 hg25.size
      have hx203 := ltx hx202 hg30.size
      have hk204 := ((((ho8.grown hg15 hx11 nb).grown hg20 hx199 (rowne ap198)).grown hg25 hx200 nb).grown hg30 hx202 (rowne ap201)).grown hg195 hx203 nb
      have hk205 := hk66.grown hg191 (fun _ h => h.elim) nb
      have hk206 := ho60.grown hg191 (fun _ h => h.elim) nb
      have hk207 := ho72.grown hg117 (fun _ h => h.elim) nb
      exact ⟨hB192, hz193, hk196, hk197, hk204, hk205, hk206, hk207, hd, hs, ok_pick [0, 1, 2, 7, 8, 9, 10, 12, 14] hok (by kernel_rfl)⟩
  ·rintro a w79 ⟨hB208, hz209, hb210, hb211, hk212, hk213, hk214, hk215, hd, hs, hok⟩
   refine gv_in ?_ hd hs hok
   clear hd hs hok
   refine gv_blk <| gv_seq <| gv_seq <| bindE h0 ?_; clear h0; intro j216 h1 h0
   refine gv_cut_code (J := fun a w217 => Below w0.heap.size w0 w217 ∧ w79.heap.size ≤ w217.heap.size ∧ Box w217 b23 24 #[(.int .i64 j78.1), (.int .i64 j78.2)] ∧ Gv.Own (iE .i64) 3 w217 (fun _ => False) a38 c39 r33.1 ∧ Gv.Own (iE .i64) 3 w217 (fun _ => False) a58 c59 r53.1 ∧ a.defers = [] ∧ a.tmps.size = 125 ∧ Ok [(0, (.string s_0)), (1, (.string t_1)), (9, (bp b23)), (10, (.slice a38 (List.length r33.1) c39)), (12, (.slice a58 (List.length r53.1) c59)), (82, (.bool j216))] a.tmps) ?_ ?_
   ·skip
    refine gv_drawA (by kernel_rfl) ?_
    intro w218 hg219
    refine gv_stage (fun _ => True) [0] [(0, some false)] (bA 29 [0]) 28 (by kernel_rfl) (by kernel_rfl) trivial ?_
    refine bindE h1 ?_; clear h1; intro r220 hr221 h1
    have hB222 := bg hB208 hg219 nb
    refine gv_call (f := 15) (vs := []) (cap := []) _ (by decide) rfl rfl rfl (by kernel_rfl) (by kernel_rfl) enters15 (law4_letters_ok fuel  w218 (fun k => X0 k ∨ X0 k ∨ X0 k) (fun k hk => (hk).elim (fun h => (fun k (hk : X0 k) => ltl (hX0 k hk) hB222.size) k h) (fun h => (h).elim (fun h => (fun k (hk : X0 k) => ltl (hX0 k hk) hB222.size) k h) (fun h => (fun k (hk : X0 k) => ltl (hX0 k hk) hB222.size) k h))) ((hG0.below hB222 hX0).wide (fun k hk => (.inl hk))) ((hG1.below hB222 hX0).wide (fun k hk => (.inr (.inl hk)))) ((hG2.below hB222 hX0).wide (fun k hk => (.inr (.inr hk)))) r220 hr221) ?_
    rintro v225 w223 ⟨hg224, rfl⟩
    refine ⟨(fun _ => trivial), ?_⟩
    refine gv_nil <| gv_goA ?_
    refine gv_pre [1, 2, 3] (bA 29 [0, 1, 2, 3]) 25 (by kernel_rfl) (by kernel_rfl) ?_
    refine gv_pureN 2 [55, 56] [(56, (.bool (!r220)))] (by kernel_rfl) ?_
    refine gv_split (s := 56) (g := (!r220)) (by kernel_rfl) (fun hc226 => ?_) (fun hc226 => ?_)
    ·skip
     replace h1 := ite_t hc226 h1
     refine gv_pureN 1 [57] [(57, undef)] (by kernel_rfl) ?_
     refine gv_nil <| gv_goA ?_
     refine gv_stage (Cls w223 []) [0, 1, 2, 3, 4] [(4, some true)] (bA 29 [0, 1, 2, 3, 4]) 24 (by kernel_rfl) (by kernel_rfl) (Cls.refl _ _) ?_
     have hC227 := Cls.refl w223 []
     refine gv_pureN 1 [58] [(58, undef)] (by kernel_rfl) ?_
     refine gv_nil <| gv_goA ?_
     refine gv_pre [5, 6, 7] (bA 29 [0, 1, 2, 3, 4, 5, 6, 7]) 21 (by kernel_rfl) (by kernel_rfl) ?_
     refine gv_pureN 3 [59, 60, 61] [(60, undef), (61, undef)] (by kernel_rfl) ?_
     refine gv_nil <| gv_goA ?_
     refine gv_stage (Cls w223 []) [0, 1, 2, 3, 4, 5, 6, 7, 8, 9] [(8, some true), (9, some true)] (bA 29 [0, 1, 2, 3, 4, 5, 6, 7, 8, 9]) 19 (by kernel_rfl) (by kernel_rfl) (Cls.refl _ _) ?_
     have hC228 := Cls.refl w223 []
     refine gv_pureN 2 [62, 63] [(62, undef), (63, undef)] (by kernel_rfl) ?_
     refine gv_nil <| gv_goA ?_
     refine gv_stage (fun _ => True) [0, 1, 2, 3, 4, 5, 6, 7, 8, 9, 10] [(10, some false)] (bA 29 [0, 1, 2, 3, 4, 5, 6, 7, 8, 9, 10]) 18 (by kernel_rfl) (by kernel_rfl) trivial ?_
     refine gv_pureNC trivial 1 [64] [(64, undef)] (by kernel_rfl) ?_
     refine gv_nil <| gv_goA ?_
     refine gv_pre [11, 12, 13, 14, 15] (bA 29 [0, 1, 2, 3, 4, 5, 6, 7, 8, 9, 10, 11, 12, 13, 14, 15]) 13 (by kernel_rfl) (by kernel_rfl) ?_
     refine gv_pureN 5 [65, 66, 67, 68, 69] [(68, (.bool true)), (69, undef)] (by kernel_rfl) ?_
     refine gv_nil <| gv_goA ?_
     refine gv_stage (Cls w223 []) [0, 1, 2, 3, 4, 5, 6, 7, 8, 9, 10, 11, 12, 13, 14, 15, 16] [(16, some true)] (bA 29 [0, 1, 2, 3, 4, 5, 6, 7, 8, 9, 10, 11, 12, 13, 14, 15, 16]) 12 (by kernel_rfl) (by kernel_rfl) (Cls.refl _ _) ?_
     have hC229 := Cls.refl w223 []
     refine gv_pureN 1 [70] [(70, undef)] (by kernel_rfl) ?_
     refine gv_nil <| gv_goA ?_
     refine gv_pre [17, 18, 19, 21, 22] (bA 29 [0, 1, 2, 3, 4, 5, 6, 7, 8, 9, 10, 11, 12, 13, 14, 15, 16, 17, 18, 19, 21, 22]) 7 (by kernel_rfl) (by kernel_rfl) ?_
     refine gv_pureN 5 [71, 72, 73, 75, 76] [(72, undef), (73, undef), (75, undef), (76, undef)] (by kernel_rfl) ?_
     refine gv_nil <| gv_goA ?_
     refine gv_stage (Cls w223 []) [0, 1, 2, 3, 4, 5, 6, 7, 8, 9, 10, 11, 12, 13, 14, 15, 16, 17, 18, 19, 20, 21, 22, 23, 24] [(20, some true), (24, some true), (23, some false)] (bA 29 [0, 1, 2, 3, 4, 5, 6, 7, 8, 9, 10, 11, 12, 13, 14, 15, 16, 17, 18, 19, 20, 21, 22, 23, 24]) 4 (by kernel_rfl) (by kernel_rfl) (Cls.refl _ _) ?_
     have hC230 := Cls.refl w223 []
     refine gv_pureNC hC230 3 [74, 77, 78] [(74, undef), (77, undef), (78, undef)] (by kernel_rfl) ?_
     refine gv_nil <| gv_goA ?_
     refine gv_stage (fun _ => True) [0, 1, 2, 3, 4, 5, 6, 7, 8, 9, 10, 11, 12, 13, 14, 15, 16, 17, 18, 19, 20, 21, 22, 23, 24, 25] [(25, some false)] (bA 29 [0, 1, 2, 3, 4, 5, 6, 7, 8, 9, 10, 11, 12, 13, 14, 15, 16, 17, 18, 19, 20, 21, 22, 23, 24, 25]) 3 (by kernel_rfl) (by kernel_rfl) trivial ?_
     refine gv_pureNC trivial 1 [79] [(79, undef)] (by kernel_rfl) ?_
     refine gv_nil <| gv_goA ?_
     refine gv_pre [26, 27, 28] (bA 29 [0, 1, 2, 3, 4, 5, 6, 7, 8, 9, 10, 11, 12, 13, 14, 15, 16, 17, 18, 19, 20, 21, 22, 23, 24, 25, 26, 27, 28]) 0 (by kernel_rfl) (by kernel_rfl) ?_
     refine gv_pureN 3 [80, 81, 82] [(82, (.bool true))] (by kernel_rfl) ?_
     refine gv_nil <| gv_goA ?_
     refine gv_stageE (by kernel_rfl) ?_
     have e := sj h1; subst e
     refine gv_goal fun a hd hs hok => ?_
     have hB231 := bg hB222 hg224 nb
     have hz232 := (nt hg219.size hg224.size)
     have hg233 := (grown_trans hg219 hg224)
     have hk234 := hb211.grown hg233 nb
     have hk235 := hk213.grown hg233 (fun _ h => h.elim) nb
     have hk236 := hk214.grown hg233 (fun _ h => h.elim) nb
     exact ⟨hB231, hz232, hk234, hk235, hk236, hd, hs, ok_pick [0, 1, 9, 10, 12, 82] hok (by kernel_rfl)⟩
    ·skip
     replace h1 := ite_f hc226 h1
     refine gv_pureN 1 [57] [(57, (bp b23))] (by kernel_rfl) ?_
     refine gv_nil <| gv_goA ?_
     refine gv_stage (Cls w223 []) [0, 1, 2, 3, 4] [(4, some true)] (bA 29 [0, 1, 2, 3, 4]) 24 (by kernel_rfl) (by kernel_rfl) (Cls.refl _ _) ?_
     have hC237 := Cls.refl w223 []
     have hg238 := (grown_trans hg219 hg224)
     have hk239 := hb211.grown hg238 nb
     refine gv_load (t := 3) (A := ⟨b23, 0, none⟩) (.int .i64 j78.1) [] (fun e => by cases e) rfl rfl rfl (by kernel_rfl) (by kernel_rfl) (by kernel_rfl) (inw1 fun w' hC' => ((hC'.box hk239 nm_nil).cell 0 rfl)) rfl ?_
     refine gv_nil <| gv_goA ?_
     refine gv_pre [5, 6, 7] (bA 29 [0, 1, 2, 3, 4, 5, 6, 7]) 21 (by kernel_rfl) (by kernel_rfl) ?_
     refine gv_pureN 2 [59, 60] [(60, (.bool (j78.1 != 0)))] (by kernel_rfl) ?_
     refine gv_split (s := 60) (g := (j78.1 != 0)) (by kernel_rfl) (fun hc240 => ?_) (fun hc240 => ?_)
     ·skip
      replace h1 := ite_t hc240 h1
      refine gv_pureN 1 [61] [(61, (.slice a6 (List.length r1.1) c7))] (by kernel_rfl) ?_
      refine gv_nil <| gv_goA ?_
      refine gv_stage (Cls w223 []) [0, 1, 2, 3, 4, 5, 6, 7, 8, 9] [(8, some true), (9, some true)] (bA 29 [0, 1, 2, 3, 4, 5, 6, 7, 8, 9]) 19 (by kernel_rfl) (by kernel_rfl) (Cls.refl _ _) ?_
      have hC241 := Cls.refl w223 []
      have hk242 := hb210.grown hg238 nb
      refine gv_loadBox (t := 24) (b := b13) (t' := 24) (fr := (0, 0)) #[(.int .i64 r1.2.1), (.int .i64 r1.2.2)] [] (fun e => by cases e) rfl rfl rfl (by kernel_rfl) (by kernel_rfl) (by kernel_rfl) (by kernel_rfl) (inw1 fun w' hC' => (hC'.box hk242 nm_nil)) rfl ?_
      refine gv_loadBox (t := 24) (b := b23) (t' := 24) (fr := (0, 0)) #[(.int .i64 j78.1), (.int .i64 j78.2)] [] (fun e => by cases e) rfl rfl rfl (by kernel_rfl) (by kernel_rfl) (by kernel_rfl) (by kernel_rfl) (inw1 fun w' hC' => (hC'.box hk239 nm_nil)) rfl ?_
      refine gv_nil <| gv_goA ?_
      refine gv_stage (fun _ => True) [0, 1, 2, 3, 4, 5, 6, 7, 8, 9, 10] [(10, some false)] (bA 29 [0, 1, 2, 3, 4, 5, 6, 7, 8, 9, 10]) 18 (by kernel_rfl) (by kernel_rfl) trivial ?_
      refine bindE h1 ?_; clear h1; intro r243 hr244 h1
      have hg245 := (grown_trans (grown_trans hg36 hg56) hg68)
      have hx246 := ltx (ltx (ltx (ltx (ltx hx11 hg15.size) hg20.size) hg25.size) hg30.size) hg245.size
      have hx247 := ltx (fun k hk => ltl (hx246 k hk) hz209) hg238.size
      have hk248 := hk212.grown hg238 (fun k hk => ltl (hx246 k hk) hz209) nb
      refine gv_call (f := 33) (vs := [(.slice a6 (List.length r1.1) c7), (.agg #[(.int .i64 r1.2.1), (.int .i64 r1.2.2)]), (.slice none (List.length ([] : List ByteArray)) 0), (.agg #[(.int .i64 j78.1), (.int .i64 j78.2)])]) (cap := []) _ (by decide) rfl rfl rfl (by kernel_rfl) (by kernel_rfl) enters33 (law4_list_ok fuel a6 c7 r1.1 (r1.2.1, r1.2.2) none 0 ([] : List ByteArray) (j78.1, j78.2) w223 (fun k => X9 k ∨ (fun _ => False) k) (fun k hk => (hk).elim (fun h => hx247 k h) (fun h => (fun _ h => h.elim) k h)) (hk248.wide (fun k hk => (.inl hk))) ((Rd.nil sE w223 (fun _ => False) none 0).wide (fun k hk => (.inr hk))) r243 hr244) ?_
      rintro v251 w249 ⟨hg250, rfl⟩
      refine ⟨(fun _ => trivial), ?_⟩
      refine gv_nil <| gv_goA ?_
      refine gv_pre [11, 12, 13, 14, 15] (bA 29 [0, 1, 2, 3, 4, 5, 6, 7, 8, 9, 10, 11, 12, 13, 14, 15]) 13 (by kernel_rfl) (by kernel_rfl) ?_
      refine gv_pureN 4 [65, 66, 67, 68] [(68, (.bool (!r243)))] (by kernel_rfl) ?_
      refine gv_split (s := 68) (g := (!r243)) (by kernel_rfl) (fun hc252 => ?_) (fun hc252 => ?_)
      ·skip
       replace h1 := ite_t hc252 h1
       refine gv_pureN 1 [69] [(69, undef)] (by kernel_rfl) ?_
       refine gv_nil <| gv_goA ?_
       refine gv_stage (Cls w249 []) [0, 1, 2, 3, 4, 5, 6, 7, 8, 9, 10, 11, 12, 13, 14, 15, 16] [(16, some true)] (bA 29 [0, 1, 2, 3, 4, 5, 6, 7, 8, 9, 10, 11, 12, 13, 14, 15, 16]) 12 (by kernel_rfl) (by kernel_rfl) (Cls.refl _ _) ?_
       have hC253 := Cls.refl w249 []
       refine gv_pureN 1 [70] [(70, undef)] (by kernel_rfl) ?_
       refine gv_nil <| gv_goA ?_
       refine gv_pre [17, 18, 19, 21, 22] (bA 29 [0, 1, 2, 3, 4, 5, 6, 7, 8, 9, 10, 11, 12, 13, 14, 15, 16, 17, 18, 19, 21, 22]) 7 (by kernel_rfl) (by kernel_rfl) ?_
       refine gv_pureN 5 [71, 72, 73, 75, 76] [(72, undef), (73, undef), (75, undef), (76, undef)] (by kernel_rfl) ?_
       refine gv_nil <| gv_goA ?_
       refine gv_stage (Cls w249 []) [0, 1, 2, 3, 4, 5, 6, 7, 8, 9, 10, 11, 12, 13, 14, 15, 16, 17, 18, 19, 20, 21, 22, 23, 24] [(20, some true), (24, some true), (23, some false)] (bA 29 [0, 1, 2, 3, 4, 5, 6, 7, 8, 9, 10, 11, 12, 13, 14, 15, 16, 17, 18, 19, 20, 21, 22, 23, 24]) 4 (by kernel_rfl) (by kernel_rfl) (Cls.refl _ _) ?_
       have hC254 := Cls.refl w249 []
       refine gv_pureNC hC254 3 [74, 77, 78] [(74, undef), (77, undef), (78, undef)] (by kernel_rfl) ?_
       refine gv_sub [0, 1, 9, 10, 12, 68, 72, 73, 74, 77, 78] (σ' := [(0, (.string s_0)), (1, (.string t_1)), (9, (bp b23)), (10, (.slice a38 (List.length r33.1) c39)), (12, (.slice a58 (List.length r53.1) c59)), (68, (.bool true)), (72, undef), (73, undef), (74, undef), (77, undef), (78, undef)]) (by kernel_rfl) ?_
       refine gv_nil <| gv_goA ?_
       refine gv_stage (fun _ => True) [0, 1, 2, 3, 4, 5, 6, 7, 8, 9, 10, 11, 12, 13, 14, 15, 16, 17, 18, 19, 20, 21, 22, 23, 24, 25] [(25, some false)] (bA 29 [0, 1, 2, 3, 4, 5, 6, 7, 8, 9, 10, 11, 12, 13, 14, 15, 16, 17, 18, 19, 20, 21, 22, 23, 24, 25]) 3 (by kernel_rfl) (by kernel_rfl) trivial ?_
       refine gv_pureNC trivial 1 [79] [(79, undef)] (by kernel_rfl) ?_
       refine gv_nil <| gv_goA ?_
       refine gv_pre [26, 27, 28] (bA 29 [0, 1, 2, 3, 4, 5, 6, 7, 8, 9, 10, 11, 12, 13, 14, 15, 16, 17, 18, 19, 20, 21, 22, 23, 24, 25, 26, 27, 28]) 0 (by kernel_rfl) (by kernel_rfl) ?_
       refine gv_pureN 3 [80, 81, 82] [(82, (.bool true))] (by kernel_rfl) ?_
       refine gv_nil <| gv_goA ?_
       refine gv_stageE (by kernel_rfl) ?_
       have e := sj h1; subst e
       refine gv_goal fun a hd hs hok => ?_
       have hg255 := (grown_trans hg224 hg250)
       have hB256 := bg hB222 hg255 nb
       have hz257 := (nt (nt hg219.size hg224.size) hg250.size)
       have hk258 := hk239.grown hg250 nb
       have hg259 := (grown_trans hg238 hg250)
       have hk260 := hk213.grown hg259 (fun _ h => h.elim) nb
       have hk261 := hk214.grown hg259 (fun _ h => h.elim) nb
       exact ⟨hB256, hz257, hk258, hk260, hk261, hd, hs, ok_pick [0, 1, 9, 10, 12, 82] hok (by kernel_rfl)⟩
      ·skip
       replace h1 := ite_f hc252 h1
       refine gv_pureN 1 [69] [(69, (bp b23))] (by kernel_rfl) ?_
       refine gv_nil <| gv_goA ?_
       refine gv_stage (Cls w249 []) [0, 1, 2, 3, 4, 5, 6, 7, 8, 9, 10, 11, 12, 13, 14, 15, 16] [(16, some true)] (bA 29 [0, 1, 2, 3, 4, 5, 6, 7, 8, 9, 10, 11, 12, 13, 14, 15, 16]) 12 (by kernel_rfl) (by kernel_rfl) (Cls.refl _ _) ?_
       have hC262 := Cls.refl w249 []
       have hk263 := hk239.grown hg250 nb
       refine gv_load (t := 3) (A := ⟨b23, 0, none⟩) (.int .i64 j78.1) [] (fun e => by cases e) rfl rfl rfl (by kernel_rfl) (by kernel_rfl) (by kernel_rfl) (inw1 fun w' hC' => ((hC'.box hk263 nm_nil).cell 0 rfl)) rfl ?_
       refine gv_nil <| gv_goA ?_
       refine gv_pre [17, 18, 19, 21, 22] (bA 29 [0, 1, 2, 3, 4, 5, 6, 7, 8, 9, 10, 11, 12, 13, 14, 15, 16, 17, 18, 19, 21, 22]) 7 (by kernel_rfl) (by kernel_rfl) ?_
       refine gv_pureN 2 [71, 72] [(72, (.bool (j78.1 == 0)))] (by kernel_rfl) ?_
       refine gv_split (s := 72) (g := (j78.1 == 0)) (by kernel_rfl) (fun hc264 => ?_) (fun hc264 => ?_)
       ·skip
        replace h1 := ite_t hc264 h1
        refine gv_pureN 3 [73, 75, 76] [(73, (.slice a6 (List.length r1.1) c7)), (75, (.slice a70 (List.length r64) c71)), (76, (.int .i64 width_2))] (by kernel_rfl) ?_
        refine gv_sub [0, 1, 8, 9, 10, 12, 68, 72, 73, 75, 76] (σ' := [(0, (.string s_0)), (1, (.string t_1)), (8, (bp b13)), (9, (bp b23)), (10, (.slice a38 (List.length r33.1) c39)), (12, (.slice a58 (List.length r53.1) c59)), (68, (.bool false)), (72, (.bool true)), (73, (.slice a6 (List.length r1.1) c7)), (75, (.slice a70 (List.length r64) c71)), (76, (.int .i64 width_2))]) (by kernel_rfl) ?_
        refine gv_nil <| gv_goA ?_
        refine gv_stage (Cls w249 []) [0, 1, 2, 3, 4, 5, 6, 7, 8, 9, 10, 11, 12, 13, 14, 15, 16, 17, 18, 19, 20, 21, 22, 23, 24] [(20, some true), (24, some true), (23, some false)] (bA 29 [0, 1, 2, 3, 4, 5, 6, 7, 8, 9, 10, 11, 12, 13, 14, 15, 16, 17, 18, 19, 20, 21, 22, 23, 24]) 4 (by kernel_rfl) (by kernel_rfl) (Cls.refl _ _) ?_
        have hC265 := Cls.refl w249 []
        have hk266 := hk242.grown hg250 nb
        refine gv_loadBox (t := 24) (b := b13) (t' := 24) (fr := (0, 0)) #[(.int .i64 r1.2.1), (.int .i64 r1.2.2)] [] (fun e => by cases e) rfl rfl rfl (by kernel_rfl) (by kernel_rfl) (by kernel_rfl) (by kernel_rfl) (inw1 fun w' hC' => (hC'.box hk266 nm_nil)) rfl ?_
        refine gv_loadBox (t := 24) (b := b23) (t' := 24) (fr := (0, 0)) #[(.int .i64 j78.1), (.int .i64 j78.2)] [] (fun e => by cases e) rfl rfl rfl (by kernel_rfl) (by kernel_rfl) (by kernel_rfl) (by kernel_rfl) (inw1 fun w' hC' => (hC'.box hk263 nm_nil)) rfl ?_
        refine bindE h1 ?_; clear h1; intro r267 hr268 h1
        have hg269 := (grown_trans hg238 hg250)
        have hk270 := hk215.grown hg269 (fun _ h => h.elim) nb
        refine gv_call (f := 34) (vs := [(.slice a70 (List.length r64) c71), (.int .i64 width_2)]) (cap := []) _ (by decide) rfl rfl rfl (by kernel_rfl) (by kernel_rfl) enters34 (ref4_Wrapped_ok fuel a70 c71 r64 width_2 w249 (fun k => (fun k => blk a70 = some k) k) (fun k hk => (fun k (hk : blk a70 = some k) => hk270.lt k hk) k hk) ((hk270.rd (Y := fun k => blk a70 = some k) (fun _ h => h.elim) (fun g e => e)).wide (fun k hk => hk)) r267 hr268) ?_
        rintro v273 w271 ⟨hg272, a274, c275, rfl, ho276, hl277⟩
        refine ⟨(fun _ => hC265.grown hg272 nb), ?_⟩
        have hg279 := (grown_trans hg224 hg250)
        have hB280 := bg hB222 hg279 nb
        have hl278 : ∀ g, blk a274 = some g → w0.heap.size ≤ g := fun g e => Nat.le_trans hB280.size (hl277 g e)
        refine gv_nil <| gv_goA ?_
        refine gv_stage (fun _ => True) [0, 1, 2, 3, 4, 5, 6, 7, 8, 9, 10, 11, 12, 13, 14, 15, 16, 17, 18, 19, 20, 21, 22, 23, 24, 25] [(25, some false)] (bA 29 [0, 1, 2, 3, 4, 5, 6, 7, 8, 9, 10, 11, 12, 13, 14, 15, 16, 17, 18, 19, 20, 21, 22, 23, 24, 25]) 3 (by kernel_rfl) (by kernel_rfl) trivial ?_
        refine bindE h1 ?_; clear h1; intro r281 hr282 h1
        have hg283 := (grown_trans hg250 hg272)
        have hx284 := ltx hx247 hg283.size
        have hk285 := hk248.grown hg283 hx247 nb
        refine gv_call (f := 33) (vs := [(.slice a6 (List.length r1.1) c7), (.agg #[(.int .i64 r1.2.1), (.int .i64 r1.2.2)]), (.slice a274 (List.length r267) c275), (.agg #[(.int .i64 j78.1), (.int .i64 j78.2)])]) (cap := []) _ (by decide) rfl rfl rfl (by kernel_rfl) (by kernel_rfl) enters33 (law4_list_ok fuel a6 c7 r1.1 (r1.2.1, r1.2.2) a274 c275 r267 (j78.1, j78.2) w271 (fun k => X9 k ∨ (fun k => blk a274 = some k) k) (fun k hk => (hk).elim (fun h => hx284 k h) (fun h => (fun k (hk : blk a274 = some k) => ho276.lt k hk) k h)) (hk285.wide (fun k hk => (.inl hk))) ((ho276.rd (Y := fun k => blk a274 = some k) (fun _ h => h.elim) (fun g e => e)).wide (fun k hk => (.inr hk))) r281 hr282) ?_
        rintro v288 w286 ⟨hg287, rfl⟩
        refine ⟨(fun _ => trivial), ?_⟩
        refine gv_nil <| gv_goA ?_
        refine gv_pre [26, 27, 28] (bA 29 [0, 1, 2, 3, 4, 5, 6, 7, 8, 9, 10, 11, 12, 13, 14, 15, 16, 17, 18, 19, 20, 21, 22, 23, 24, 25, 26, 27, 28]) 0 (by kernel_rfl) (by kernel_rfl) ?_
        refine gv_pureN 3 [80, 81, 82] [(82, (.bool (!r281)))] (by kernel_rfl) ?_
        refine gv_nil <| gv_goA ?_
        refine gv_stageE (by kernel_rfl) ?_
        have e := sj h1; subst e
        refine gv_goal fun a hd hs hok => ?_
        have hg289 := (grown_trans hg272 hg287)
        have hB290 := bg hB280 hg289 nb
        have hz291 := (nt (nt (nt (nt hg219.size hg224.size) hg250.size) hg272.size) hg287.size)
        have hk292 := hk263.grown hg289 nb
        have hg293 := (grown_trans hg269 hg289)
        have hk294 := hk213.grown hg293 (fun _ h => h.elim) nb
        have hk295 := hk214.grown hg293 (fun _ h => h.elim) nb
        exact ⟨hB290, hz291, hk292, hk294, hk295, hd, hs, ok_pick [0, 1, 9, 10, 12, 82] hok (by kernel_rfl)⟩
       ·skip
        replace h1 := ite_f hc264 h1
        refine gv_pureN 3 [73, 75, 76] [(73, undef), (75, undef), (76, undef)] (by kernel_rfl) ?_
        refine gv_sub [0, 1, 8, 9, 10, 12, 68, 72, 73, 75, 76] (σ' := [(0, (.string s_0)), (1, (.string t_1)), (8, (bp b13)), (9, (bp b23)), (10, (.slice a38 (List.length r33.1) c39)), (12, (.slice a58 (List.length r53.1) c59)), (68, (.bool false)), (72, (.bool false)), (73, undef), (75, undef), (76, undef)]) (by kernel_rfl) ?_
        refine gv_nil <| gv_goA ?_
        refine gv_stage (Cls w249 []) [0, 1, 2, 3, 4, 5, 6, 7, 8, 9, 10, 11, 12, 13, 14, 15, 16, 17, 18, 19, 20, 21, 22, 23, 24] [(20, some true), (24, some true), (23, some false)] (bA 29 [0, 1, 2, 3, 4, 5, 6, 7, 8, 9, 10, 11, 12, 13, 14, 15, 16, 17, 18, 19, 20, 21, 22, 23, 24]) 4 (by kernel_rfl) (by kernel_rfl) (Cls.refl _ _) ?_
        have hC296 := Cls.refl w249 []
        refine gv_pureNC hC296 3 [74, 77, 78] [(74, undef), (77, undef), (78, undef)] (by kernel_rfl) ?_
        refine gv_nil <| gv_goA ?_
        refine gv_stage (fun _ => True) [0, 1, 2, 3, 4, 5, 6, 7, 8, 9, 10, 11, 12, 13, 14, 15, 16, 17, 18, 19, 20, 21, 22, 23, 24, 25] [(25, some false)] (bA 29 [0, 1, 2, 3, 4, 5, 6, 7, 8, 9, 10, 11, 12, 13, 14, 15, 16, 17, 18, 19, 20, 21, 22, 23, 24, 25]) 3 (by kernel_rfl) (by kernel_rfl) trivial ?_
        refine gv_pureNC trivial 1 [79] [(79, undef)] (by kernel_rfl) ?_
        refine gv_nil <| gv_goA ?_
        refine gv_pre [26, 27, 28] (bA 29 [0, 1, 2, 3, 4, 5, 6, 7, 8, 9, 10, 11, 12, 13, 14, 15, 16, 17, 18, 19, 20, 21, 22, 23, 24, 25, 26, 27, 28]) 0 (by kernel_rfl) (by kernel_rfl) ?_
        refine gv_pureN 3 [80, 81, 82] [(82, (.bool false))] (by kernel_rfl) ?_
        refine gv_nil <| gv_goA ?_
        refine gv_stageE (by kernel_rfl) ?_
        have e := sj h1; subst e
        refine gv_goal fun a hd hs hok => ?_
        have hg297 := (grown_trans hg224 hg250)
        have hB298 := bg hB222 hg297 nb
        have hz299 := (nt (nt hg219.size hg224.size) hg250.size)
        have hg300 := (grown_trans hg238 hg250)
        have hk301 := hk213.grown hg300 (fun _ h => h.elim) nb
        have hk302 := hk214.grown hg300 (fun _ h => h.elim) nb
        exact ⟨hB298, hz299, hk263, hk301, hk302, hd, hs, ok_pick [0, 1, 9, 10, 12, 82] hok (by kernel_rfl)⟩
     ·skip
      replace h1 := ite_f hc240 h1
      refine gv_pureN 1 [61] [(61, undef)] (by kernel_rfl) ?_
      refine gv_nil <| gv_goA ?_
      refine gv_stage (Cls w223 []) [0, 1, 2, 3, 4, 5, 6, 7, 8, 9] [(8, some true), (9, some true)] (bA 29 [0, 1, 2, 3, 4, 5, 6, 7, 8, 9]) 19 (by kernel_rfl) (by kernel_rfl) (Cls.refl _ _) ?_
      have hC303 := Cls.refl w223 []
      refine gv_pureN 2 [62, 63] [(62, undef), (63, undef)] (by kernel_rfl) ?_
      refine gv_nil <| gv_goA ?_
      refine gv_stage (fun _ => True) [0, 1, 2, 3, 4, 5, 6, 7, 8, 9, 10] [(10, some false)] (bA 29 [0, 1, 2, 3, 4, 5, 6, 7, 8, 9, 10]) 18 (by kernel_rfl) (by kernel_rfl) trivial ?_
      refine gv_pureNC trivial 1 [64] [(64, undef)] (by kernel_rfl) ?_
      refine gv_nil <| gv_goA ?_
      refine gv_pre [11, 12, 13, 14, 15] (bA 29 [0, 1, 2, 3, 4, 5, 6, 7, 8, 9, 10, 11, 12, 13, 14, 15]) 13 (by kernel_rfl) (by kernel_rfl) ?_
      refine gv_pureN 5 [65, 66, 67, 68, 69] [(68, (.bool false)), (69, (bp b23))] (by kernel_rfl) ?_
      refine gv_nil <| gv_goA ?_
      refine gv_stage (Cls w223 []) [0, 1, 2, 3, 4, 5, 6, 7, 8, 9, 10, 11, 12, 13, 14, 15, 16] [(16, some true)] (bA 29 [0, 1, 2, 3, 4, 5, 6, 7, 8, 9, 10, 11, 12, 13, 14, 15, 16]) 12 (by kernel_rfl) (by kernel_rfl) (Cls.refl _ _) ?_
      have hC304 := Cls.refl w223 []
      refine gv_load (t := 3) (A := ⟨b23, 0, none⟩) (.int .i64 j78.1) [] (fun e => by cases e) rfl rfl rfl (by kernel_rfl) (by kernel_rfl) (by kernel_rfl) (inw1 fun w' hC' => ((hC'.box hk239 nm_nil).cell 0 rfl)) rfl ?_
      refine gv_nil <| gv_goA ?_
      refine gv_pre [17, 18, 19, 21, 22] (bA 29 [0, 1, 2, 3, 4, 5, 6, 7, 8, 9, 10, 11, 12, 13, 14, 15, 16, 17, 18, 19, 21, 22]) 7 (by kernel_rfl) (by kernel_rfl) ?_
      refine gv_pureN 2 [71, 72] [(72, (.bool (j78.1 == 0)))] (by kernel_rfl) ?_
      refine gv_split (s := 72) (g := (j78.1 == 0)) (by kernel_rfl) (fun hc305 => ?_) (fun hc305 => ?_)
      ·skip
       replace h1 := ite_t hc305 h1
       refine gv_pureN 3 [73, 75, 76] [(73, (.slice a6 (List.length r1.1) c7)), (75, (.slice a70 (List.length r64) c71)), (76, (.int .i64 width_2))] (by kernel_rfl) ?_
       refine gv_nil <| gv_goA ?_
       refine gv_stage (Cls w223 []) [0, 1, 2, 3, 4, 5, 6, 7, 8, 9, 10, 11, 12, 13, 14, 15, 16, 17, 18, 19, 20, 21, 22, 23, 24] [(20, some true), (24, some true), (23, some false)] (bA 29 [0, 1, 2, 3, 4, 5, 6, 7, 8, 9, 10, 11, 12, 13, 14, 15, 16, 17, 18, 19, 20, 21, 22, 23, 24]) 4 (by kernel_rfl) (by kernel_rfl) (Cls.refl _ _) ?_
       have hC306 := Cls.refl w223 []
       have hk307 := hb210.grown hg238 nb
       refine gv_loadBox (t := 24) (b := b13) (t' := 24) (fr := (0, 0)) #[(.int .i64 r1.2.1), (.int .i64 r1.2.2)] [] (fun e => by cases e) rfl rfl rfl (by kernel_rfl) (by kernel_rfl) (by kernel_rfl) (by kernel_rfl) (inw1 fun w' hC' => (hC'.box hk307 nm_nil)) rfl ?_
       refine gv_loadBox (t := 24) (b := b23) (t' := 24) (fr := (0, 0)) #[(.int .i64 j78.1), (.int .i64 j78.2)] [] (fun e => by cases e) rfl rfl rfl (by kernel_rfl) (by kernel_rfl) (by kernel_rfl) (by kernel_rfl) (inw1 fun w' hC' => (hC'.box hk239 nm_nil)) rfl ?_
       refine gv_sub [0, 1, 9, 10, 12, 68, 72, 73, 74, 75, 76, 78] (σ' := [(0, (.string s_0)), (1, (.string t_1)), (9, (bp b23)), (10, (.slice a38 (List.length r33.1) c39)), (12, (.slice a58 (List.length r53.1) c59)), (68, (.bool false)), (72, (.bool true)), (73, (.slice a6 (List.length r1.1) c7)), (74, (.agg #[(.int .i64 r1.2.1), (.int .i64 r1.2.2)])), (75, (.slice a70 (List.length r64) c71)), (76, (.int .i64 width_2)), (78, (.agg #[(.int .i64 j78.1), (.int .i64 j78.2)]))]) (by kernel_rfl) ?_
       refine bindE h1 ?_; clear h1; intro r308 hr309 h1
       have hk310 := hk215.grown hg238 (fun _ h => h.elim) nb
       refine gv_call (f := 34) (vs := [(.slice a70 (List.length r64) c71), (.int .i64 width_2)]) (cap := []) _ (by decide) rfl rfl rfl (by kernel_rfl) (by kernel_rfl) enters34 (ref4_Wrapped_ok fuel a70 c71 r64 width_2 w223 (fun k => (fun k => blk a70 = some k) k) (fun k hk => (fun k (hk : blk a70 = some k) => hk310.lt k hk) k hk) ((hk310.rd (Y := fun k => blk a70 = some k) (fun _ h => h.elim) (fun g e => e)).wide (fun k hk => hk)) r308 hr309) ?_
       rintro v313 w311 ⟨hg312, a314, c315, rfl, ho316, hl317⟩
       refine ⟨(fun _ => hC306.grown hg312 nb), ?_⟩
       have hB319 := bg hB222 hg224 nb
       have hl318 : ∀ g, blk a314 = some g → w0.heap.size ≤ g := fun g e => Nat.le_trans hB319.size (hl317 g e)
       refine gv_nil <| gv_goA ?_
       refine gv_stage (fun _ => True) [0, 1, 2, 3, 4, 5, 6, 7, 8, 9, 10, 11, 12, 13, 14, 15, 16, 17, 18, 19, 20, 21, 22, 23, 24, 25] [(25, some false)] (bA 29 [0, 1, 2, 3, 4, 5, 6, 7, 8, 9, 10, 11, 12, 13, 14, 15, 16, 17, 18, 19, 20, 21, 22, 23, 24, 25]) 3 (by kernel_rfl) (by kernel_rfl) trivial ?_
       refine bindE h1 ?_; clear h1; intro r320 hr321 h1
       have hg322 := (grown_trans (grown_trans hg36 hg56) hg68)
       have hx323 := ltx (ltx (ltx (ltx (ltx hx11 hg15.size) hg20.size) hg25.size) hg30.size) hg322.size
       have hg324 := (grown_trans hg238 hg312)
       have hx325 := ltx (fun k hk => ltl (hx323 k hk) hz209) hg324.size
       have hk326 := hk212.grown hg324 (fun k hk => ltl (hx323 k hk) hz209) nb
       refine gv_call (f := 33) (vs := [(.slice a6 (List.length r1.1) c7), (.agg #[(.int .i64 r1.2.1), (.int .i64 r1.2.2)]), (.slice a314 (List.length r308) c315), (.agg #[(.int .i64 j78.1), (.int .i64 j78.2)])]) (cap := []) _ (by decide) rfl rfl rfl (by kernel_rfl) (by kernel_rfl) enters33 (law4_list_ok fuel a6 c7 r1.1 (r1.2.1, r1.2.2) a314 c315 r308 (j78.1, j78.2) w311 (fun k => X9 k ∨ (fun k => blk a314 = some k) k) (fun k hk => (hk).elim (fun h => hx325 k h) (fun h => (fun k (hk : blk a314 = some k) => ho316.lt k hk) k h)) (hk326.wide (fun k hk => (.inl hk))) ((ho316.rd (Y := fun k => blk a314 = some k) (fun _ h => h.elim) (fun g e => e)).wide (fun k hk => (.inr hk))) r320 hr321) ?_
       rintro v329 w327 ⟨hg328, rfl⟩
       refine ⟨(fun _ => trivial), ?_⟩
       refine gv_nil <| gv_goA ?_
       refine gv_pre [26, 27, 28] (bA 29 [0, 1, 2, 3, 4, 5, 6, 7, 8, 9, 10, 11, 12, 13, 14, 15, 16, 17, 18, 19, 20, 21, 22, 23, 24, 25, 26, 27, 28]) 0 (by kernel_rfl) (by kernel_rfl) ?_
       refine gv_pureN 3 [80, 81, 82] [(82, (.bool (!r320)))] (by kernel_rfl) ?_
       refine gv_nil <| gv_goA ?_
       refine gv_stageE (by kernel_rfl) ?_
       have e := sj h1; subst e
       refine gv_goal fun a hd hs hok => ?_
       have hg330 := (grown_trans hg312 hg328)
       have hB331 := bg hB319 hg330 nb
       have hz332 := (nt (nt (nt hg219.size hg224.size) hg312.size) hg328.size)
       have hk333 := hk239.grown hg330 nb
       have hg334 := (grown_trans hg324 hg328)
       have hk335 := hk213.grown hg334 (fun _ h => h.elim) nb
       have hk336 := hk214.grown hg334 (fun _ h => h.elim) nb
       exact ⟨hB331, hz332, hk333, hk335, hk336, hd, hs, ok_pick [0, 1, 9, 10, 12, 82] hok (by kernel_rfl)⟩
      ·skip
       replace h1 := ite_f hc305 h1
       refine gv_pureN 3 [73, 75, 76] [(73, undef), (75, undef), (76, undef)] (by kernel_rfl) ?_
       refine gv_nil <| gv_goA ?_
       refine gv_stage (Cls w223 []) [0, 1, 2, 3, 4, 5, 6, 7, 8, 9, 10, 11, 12, 13, 14, 15, 16, 17, 18, 19, 20, 21, 22, 23, 24] [(20, some true), (24, some true), (23, some false)] (bA 29 [0, 1, 2, 3, 4, 5, 6, 7, 8, 9, 10, 11, 12, 13, 14, 15, 16, 17, 18, 19, 20, 21, 22, 23, 24]) 4 (by kernel_rfl) (by kernel_rfl) (Cls.refl _ _) ?_
       have hC337 := Cls.refl w223 []
       refine gv_pureNC hC337 3 [74, 77, 78] [(74, undef), (77, undef), (78, undef)] (by kernel_rfl) ?_
       refine gv_nil <| gv_goA ?_
       refine gv_stage (fun _ => True) [0, 1, 2, 3, 4, 5, 6, 7, 8, 9, 10, 11, 12, 13, 14, 15, 16, 17, 18, 19, 20, 21, 22, 23, 24, 25] [(25, some false)] (bA 29 [0, 1, 2, 3, 4, 5, 6, 7, 8, 9, 10, 11, 12, 13, 14, 15, 16, 17, 18, 19, 20, 21, 22, 23, 24, 25]) 3 (by kernel_rfl) (by kernel_rfl) trivial ?_
       refine gv_pureNC trivial 1 [79] [(79, undef)] (by kernel_rfl) ?_
       refine gv_sub [0, 1, 9, 10, 12, 68, 72, 79] (σ' := [(0, (.string s_0)), (1, (.string t_1)), (9, (bp b23)), (10, (.slice a38 (List.length r33.1) c39)), (12, (.slice a58 (List.length r53.1) c59)), (68, (.bool false)), (72, (.bool false)), (79, undef)]) (by kernel_rfl) ?_
       refine gv_nil <| gv_goA ?_
       refine gv_pre [26, 27, 28] (bA 29 [0, 1, 2, 3, 4, 5, 6, 7, 8, 9, 10, 11, 12, 13, 14, 15, 16, 17, 18, 19, 20, 21, 22, 23, 24, 25, 26, 27, 28]) 0 (by kernel_rfl) (by kernel_rfl) ?_
       refine gv_pureN 3 [80, 81, 82] [(82, (.bool false))] (by kernel_rfl) ?_
       refine gv_nil <| gv_goA ?_
       refine gv_stageE (by kernel_rfl) ?_
       have e := sj h1; subst e
       refine gv_goal fun a hd hs hok => ?_
       have hB338 := bg hB222 hg224 nb
       have hz339 := (nt hg219.size hg224.size)
       have hk340 := hk213.grown hg238 (fun _ h => h.elim) nb
       have hk341 := hk214.grown hg238 (fun _ h => h.elim) nb
       exact ⟨hB338, hz339, hk239, hk340, hk341, hd, hs, ok_pick [0, 1, 9, 10, 12, 82] hok (by kernel_rfl)⟩
   ·rintro a w217 ⟨hB342, hz343, hb344, hk345, hk346, hd, hs, hok⟩
    refine gv_in ?_ hd hs hok
    clear hd hs hok
    clear hz343 hk215 hk214 hk213 hk212 hb211 hb210 hz209 hB208 hl74 hB75 hl73 ho72 hg68 hk66 ho60 hg56 hlo46 hg30 hbe27 hg25 hb21 hg20 hbe17 hg15 hx12 hx11 ho8
    refine gv_cond (b := j216) (by kernel_rfl) (fun hc347 => ?_) (fun hc347 => ?_)
    ·replace h0 := ite_t hc347 h0
     refine gv_seq <| gv_region <| gv_pureN 1 [6] [(6, (.bool false))] (by kernel_rfl) ?_
     refine gv_nil <| gv_cret ?_
     have e := sj h0; subst e
     refine gv_ret (gv_done [(.bool false)] rfl ⟨(by kernel_rfl), trivial⟩ ?_)
     exact ⟨grown_of_below hB342, rfl⟩
    ·replace h0 := ite_f hc347 h0
     refine gv_skip <| gv_seq <| gv_seq <| gv_region <| gv_cut_ops (J := fun a w348 => w217 = w348 ∧ a.defers = [] ∧ a.tmps.size = 125 ∧ Ok [(0, (.string s_0)), (1, (.string t_1)), (9, (bp b23)), (10, (.slice a38 (List.length r33.1) c39)), (12, (.slice a58 (List.length r53.1) c59)), (90, (.bool ((decide (((List.length r33.1 : Nat) : Int) > 400)) || (decide (((List.length r53.1 : Nat) : Int) > 400)))))] a.tmps) ?_ ?_
     ·skip
      refine gv_pureN 4 [83, 84, 85, 86] [(86, (.bool (decide (((List.length r33.1 : Nat) : Int) > 400))))] (by kernel_rfl) ?_
      refine gv_split (s := 86) (g := (decide (((List.length r33.1 : Nat) : Int) > 400))) (by kernel_rfl) (fun hc349 => ?_) (fun hc349 => ?_)
      ·skip
       refine gv_pureN 4 [87, 88, 89, 90] [(90, (.bool true))] (by kernel_rfl) ?_
       refine gv_nil <| gv_sub [0, 1, 9, 10, 12, 90] (σ' := [(0, (.string s_0)), (1, (.string t_1)), (9, (bp b23)), (10, (.slice a38 (List.length r33.1) c39)), (12, (.slice a58 (List.length r53.1) c59)), (90, (.bool true))]) (by kernel_rfl) ?_
       refine gv_goal fun a hd hs hok => ⟨rfl, hd, hs, ?_⟩
       obtain ⟨q0, q1, q9, q10, q12, q90, _⟩ := hok
       exact ⟨q0, q1, q9, q10, q12, (by rw [hc349]; exact q90), trivial⟩
      ·skip
       refine gv_pureN 4 [87, 88, 89, 90] [(90, (.bool (decide (((List.length r53.1 : Nat) : Int) > 400))))] (by kernel_rfl) ?_
       refine gv_nil <| gv_sub [0, 1, 9, 10, 12, 90] (σ' := [(0, (.string s_0)), (1, (.string t_1)), (9, (bp b23)), (10, (.slice a38 (List.length r33.1) c39)), (12, (.slice a58 (List.length r53.1) c59)), (90, (.bool (decide (((List.length r53.1 : Nat) : Int) > 400))))]) (by kernel_rfl) ?_
       refine gv_goal fun a hd hs hok => ⟨rfl, hd, hs, ?_⟩
       obtain ⟨q0, q1, q9, q10, q12, q90, _⟩ := hok
       exact ⟨q0, q1, q9, q10, q12, (by rw [hc349]; exact q90), trivial⟩
     ·rintro a w348 ⟨e, hd, hs, hok⟩; subst e
      refine gv_in ?_ hd hs hok
      clear hd hs hok
      refine gv_cond (b := ((decide (((List.length r33.1 : Nat) : Int) > 400)) || (decide (((List.length r53.1 : Nat) : Int) > 400)))) (by kernel_rfl) (fun hc350 => ?_) (fun hc350 => ?_)
      ·replace h0 := ite_t hc350 h0
       refine gv_seq <| gv_region <| gv_pureN 1 [6] [(6, (.bool true))] (by kernel_rfl) ?_
       refine gv_nil <| gv_cret ?_
       have e := sj h0; subst e
       refine gv_ret (gv_done [(.bool true)] rfl ⟨(by kernel_rfl), trivial⟩ ?_)
       exact ⟨grown_of_below hB342, rfl⟩
      ·replace h0 := ite_f hc350 h0
       refine gv_skip <| gv_seq <| gv_region <| gv_pureN 2 [92, 93] [(92, (.string s_0)), (93, (.string t_1))] (by kernel_rfl) ?_
       refine bindE h0 ?_; clear h0; intro r351 hr352 h0
       refine gv_call0 (by kernel_rfl) rfl (by kernel_rfl) enters35 (textstr_Distance_ok fuel s_0 t_1 w217 (fun k => X0 k ∨ X0 k) (fun k hk => (hk).elim (fun h => (fun k (hk : X0 k) => ltl (hX0 k hk) hB342.size) k h) (fun h => (fun k (hk : X0 k) => ltl (hX0 k hk) hB342.size) k h)) ((hG1.below hB342 hX0).wide (fun k hk => (.inl hk))) ((hG2.below hB342 hX0).wide (fun k hk => (.inr hk))) r351 hr352) ?_
       rintro v355 w353 ⟨hg354, rfl⟩
       refine gv_pureN 3 [91, 95, 96] [(95, (.int .i64 r351.1)), (96, (.agg #[(.int .i64 r351.2.1), (.int .i64 r351.2.2)]))] (by kernel_rfl) ?_
       refine gv_new0 (fun b => .pointer (some ⟨b, 0, none⟩)) #[(.int .i64 0), (.int .i64 0)] 24 (by kernel_rfl) (by kernel_rfl) ?_
       intro b356 w357 hg358 hb359 hbe360 hz361
       clear hz361 hr352 hc350 hc347
       refine gv_pureN 1 [15] [(15, (.int .i64 r351.1))] (by kernel_rfl) ?_
       refine gv_store0 24 0 (.agg #[(.int .i64 r351.2.1), (.int .i64 r351.2.2)]) #[(.int .i64 r351.2.1), (.int .i64 r351.2.2)] hb359 (by kernel_rfl) (by kernel_rfl) (by kernel_rfl) ?_
       intro w362 hg363 hb364 hz365
       refine gv_nil <| gv_seq <| gv_region <| gv_pureN 2 [97, 98] [(97, (.string s_0)), (98, (.string t_1))] (by kernel_rfl) ?_
       refine gv_new0 (fun b => .slice (some ⟨b, 0, none⟩) 2 2) #[(.string s_0), (.string t_1)] 9 (by kernel_rfl) (by kernel_rfl) ?_
       intro b366 w367 hg368 hb369 hbe370 hz371
       have ho372 : Gv.Own sE 9 w367 (fun _ => False) (some ⟨b366, 0, none⟩) 2 ([s_0, t_1] : List ByteArray) := Box.ownE hb369 ⟨[(.string s_0)], [(.string t_1)], rfl, rfl, ⟨[(.string t_1)], [], rfl, rfl, rfl⟩⟩ (show 2 ≤ maxLen by decide) (fun h => h)
       have hg377 := (grown_trans hg354 hg358)
       have hB378 := bg hB342 hg377 nb
       have hB379 := bg hB342 hg354 nb
       have hlo380 : w0.heap.size ≤ b356 := lob hbe360 hB379.size
       have hB381 := bg hB378 hg363 (rowlo hlo380)
       have hl373 : ∀ g, blk (some ⟨b366, 0, none⟩) = some g → w0.heap.size ≤ g := loo hbe370 hB381.size
       refine bindE h0 ?_; clear h0; intro r382 hr383 h0
       refine gv_call0 (by kernel_rfl) rfl (by kernel_rfl) enters23 (ref4_TextFaults_ok fuel (some ⟨b366, 0, none⟩) 2 ([s_0, t_1] : List ByteArray) w367 (fun k => (fun k => blk (some ⟨b366, 0, none⟩) = some k) k) (fun k hk => (fun k (hk : blk (some ⟨b366, 0, none⟩) = some k) => ho372.lt k hk) k hk) ((ho372.rd (Y := fun k => blk (some ⟨b366, 0, none⟩) = some k) (fun _ h => h.elim) (fun g e => e)).wide (fun k hk => hk)) r382 hr383) ?_
       rintro v386 w384 ⟨hg385, rfl⟩
       have hk391 := hb344.grown hg354 nb
       have lt392 := ltl ((ltb hk391) _ rfl) ((lowb hbe360) _ rfl)
       have hg393 := (grown_trans hg368 hg385)
       have hk394 := ((hb344.grown hg377 nb).grown hg363 (rowne (ng lt392))).grown hg393 nb
       refine gv_store0 24 0 (.agg #[(.int .i64 r382.1), (.int .i64 r382.2)]) #[(.int .i64 r382.1), (.int .i64 r382.2)] hk394 (by kernel_rfl) (by kernel_rfl) (by kernel_rfl) ?_
       intro w387 hg388 hb389 hz390
       refine gv_nil <| gv_seq <| gv_region <| bindE h0 ?_; clear h0; intro j395 h1 h0
       refine gv_cut_ops (J := fun a w396 => Below w0.heap.size w0 w396 ∧ w387.heap.size ≤ w396.heap.size ∧ a.defers = [] ∧ a.tmps.size = 125 ∧ Ok [(6, (.bool j395))] a.tmps) ?_ ?_
       ·skip
        have hk397 := (hb364.grown hg393 nb).grown hg388 (rowne (Nat.ne_of_lt lt392))
        refine gv_loadBox (t := 24) (b := b356) (t' := 24) (fr := (0, 0)) #[(.int .i64 r351.2.1), (.int .i64 r351.2.2)] [] (fun e => by cases e) rfl rfl rfl (by kernel_rfl) (by kernel_rfl) (by kernel_rfl) (by kernel_rfl) (inw0 hk397) rfl ?_
        refine gv_loadBox (t := 24) (b := b23) (t' := 24) (fr := (0, 0)) #[(.int .i64 r382.1), (.int .i64 r382.2)] [] (fun e => by cases e) rfl rfl rfl (by kernel_rfl) (by kernel_rfl) (by kernel_rfl) (by kernel_rfl) (inw0 hb389) rfl ?_
        refine gv_eqs (t := 24) (op := .eql) (x := (.tmp 101)) (y := (.tmp 102)) (xs := #[(.int .i64 r351.2.1), (.int .i64 r351.2.2)]) (ys := #[(.int .i64 r382.1), (.int .i64 r382.2)]) ((r351.2.1 == r382.1) && (r351.2.2 == r382.2)) [] (fun e => by cases e) rfl rfl rfl (by kernel_rfl) (by kernel_rfl) (fun w' => eqs24eql r351.2.1 r351.2.2 r382.1 r382.2 _ _ w') rfl ?_
        refine gv_pureN 1 [104] [(104, (.bool ((r351.2.1 == r382.1) && (r351.2.2 == r382.2))))] (by kernel_rfl) ?_
        refine gv_sub [9, 10, 12, 15, 104] (σ' := [(9, (bp b23)), (10, (.slice a38 (List.length r33.1) c39)), (12, (.slice a58 (List.length r53.1) c59)), (15, (.int .i64 r351.1)), (104, (.bool ((r351.2.1 == r382.1) && (r351.2.2 == r382.2))))]) (by kernel_rfl) ?_
        refine gv_split (s := 104) (g := ((r351.2.1 == r382.1) && (r351.2.2 == r382.2))) (by kernel_rfl) (fun hc398 => ?_) (fun hc398 => ?_)
        ·skip
         replace h1 := ite_t hc398 h1
         refine gv_pureN 1 [105] [(105, (bp b23))] (by kernel_rfl) ?_
         refine gv_load (t := 3) (A := ⟨b23, 0, none⟩) (.int .i64 r382.1) [] (fun e => by cases e) rfl rfl rfl (by kernel_rfl) (by kernel_rfl) (by kernel_rfl) (inw0 (hb389.cell 0 rfl)) rfl ?_
         refine gv_pureN 2 [107, 108] [(108, (.bool (r382.1 != 0)))] (by kernel_rfl) ?_
         refine gv_split (s := 108) (g := (r382.1 != 0)) (by kernel_rfl) (fun hc399 => ?_) (fun hc399 => ?_)
         ·skip
          replace h1 := ite_t hc399 h1
          refine gv_pureN 4 [109, 110, 111, 112] [(112, (.bool (r351.1 == 0)))] (by kernel_rfl) ?_
          refine gv_split (s := 112) (g := (r351.1 == 0)) (by kernel_rfl) (fun hc400 => ?_) (fun hc400 => ?_)
          ·skip
           replace h1 := ite_t hc400 h1
           refine gv_pureN 13 [6, 113, 114, 115, 116, 117, 118, 119, 120, 121, 122, 123, 124] [(6, (.bool true))] (by kernel_rfl) ?_
           refine gv_nil ?_
           have e := sj h1; subst e
           refine gv_goal fun a hd hs hok => ?_
           have hB401 := bg hB381 hg393 nb
           have hB402 := bg hB401 hg388 (rowlo hlo51)
           exact ⟨hB402, (Nat.le_refl _), hd, hs, ok_pick [6] hok (by kernel_rfl)⟩
          ·skip
           replace h1 := ite_f hc400 h1
           refine gv_pureN 1 [113] [(113, (bp b23))] (by kernel_rfl) ?_
           refine gv_load (t := 3) (A := ⟨b23, 0, none⟩) (.int .i64 r382.1) [] (fun e => by cases e) rfl rfl rfl (by kernel_rfl) (by kernel_rfl) (by kernel_rfl) (inw0 (hb389.cell 0 rfl)) rfl ?_
           refine gv_pureN 2 [115, 116] [(116, (.bool (r382.1 == 0)))] (by kernel_rfl) ?_
           refine gv_split (s := 116) (g := (r382.1 == 0)) (by kernel_rfl) (fun hc403 => ?_) (fun hc403 => ?_)
           ·skip
            replace h1 := ite_t hc403 h1
            refine gv_pureN 3 [117, 118, 119] [(117, (.int .i64 r351.1)), (118, (.slice a38 (List.length r33.1) c39)), (119, (.slice a58 (List.length r53.1) c59))] (by kernel_rfl) ?_
            refine bindE h1 ?_; clear h1; intro r404 hr405 h1
            have hk406 := hk345.grown hg354 (fun _ h => h.elim) nb
            have ap407 : ¬ (fun k => blk a38 = some k) b356 := fun hx => nl ((lowb hbe360) _ rfl) ((fun k (hk : blk a38 = some k) => hk406.lt k hk) _ hx)
            have ap408 : ¬ (fun k => blk a38 = some k) b23 := fun hx => nl ((show ∀ k, blk a38 = some k → w29.heap.size ≤ k from hl41) _ hx) ((ltb hb31) _ rfl)
            have hk409 := (((hk345.grown hg377 (fun _ h => h.elim) nb).grown hg363 (fun _ h => h.elim) (rdnn (rowne ap407))).grown hg393 (fun _ h => h.elim) nb).grown hg388 (fun _ h => h.elim) (rdnn (rowne ap408))
            have hk410 := hk346.grown hg354 (fun _ h => h.elim) nb
            have ap411 : ¬ (fun k => blk a58 = some k) b356 := fun hx => nl ((lowb hbe360) _ rfl) ((fun k (hk : blk a58 = some k) => hk410.lt k hk) _ hx)
            have hk412 := hb31.grown hg36 nb
            have ap413 : ¬ (fun k => blk a58 = some k) b23 := fun hx => nl ((show ∀ k, blk a58 = some k → w35.heap.size ≤ k from hl61) _ hx) ((ltb hk412) _ rfl)
            have hk414 := (((hk346.grown hg377 (fun _ h => h.elim) nb).grown hg363 (fun _ h => h.elim) (rdnn (rowne ap411))).grown hg393 (fun _ h => h.elim) nb).grown hg388 (fun _ h => h.elim) (rdnn (rowne ap413))
            refine gv_call0 (by kernel_rfl) rfl (by kernel_rfl) enters36 (ref4_Changes_ok fuel a38 c39 r33.1 a58 c59 r53.1 w387 (fun k => (fun k => blk a38 = some k) k ∨ (fun k => blk a58 = some k) k) (fun k hk => (hk).elim (fun h => (fun k (hk : blk a38 = some k) => hk409.lt k hk) k h) (fun h => (fun k (hk : blk a58 = some k) => hk414.lt k hk) k h)) ((hk409.rd (Y := fun k => blk a38 = some k) (fun _ h => h.elim) (fun g e => e)).wide (fun k hk => (.inl hk))) ((hk414.rd (Y := fun k => blk a58 = some k) (fun _ h => h.elim) (fun g e => e)).wide (fun k hk => (.inr hk))) r404 hr405) ?_
            rintro v417 w415 ⟨hg416, rfl⟩
            refine gv_pureN 5 [6, 121, 122, 123, 124] [(6, (.bool (r351.1 == r404)))] (by kernel_rfl) ?_
            refine gv_nil ?_
            have e := sj h1; subst e
            refine gv_goal fun a hd hs hok => ?_
            have hB418 := bg hB381 hg393 nb
            have hB419 := bg hB418 hg388 (rowlo hlo51)
            have hB420 := bg hB419 hg416 nb
            have hz421 := hg416.size
            exact ⟨hB420, hz421, hd, hs, ok_pick [6] hok (by kernel_rfl)⟩
           ·skip
            replace h1 := ite_f hc403 h1
            refine gv_pureN 9 [6, 117, 118, 119, 120, 121, 122, 123, 124] [(6, (.bool false))] (by kernel_rfl) ?_
            refine gv_nil ?_
            have e := sj h1; subst e
            refine gv_goal fun a hd hs hok => ?_
            have hB422 := bg hB381 hg393 nb
            have hB423 := bg hB422 hg388 (rowlo hlo51)
            exact ⟨hB423, (Nat.le_refl _), hd, hs, ok_pick [6] hok (by kernel_rfl)⟩
         ·skip
          replace h1 := ite_f hc399 h1
          refine gv_pureN 5 [109, 110, 111, 112, 113] [(112, (.bool false)), (113, (bp b23))] (by kernel_rfl) ?_
          refine gv_load (t := 3) (A := ⟨b23, 0, none⟩) (.int .i64 r382.1) [] (fun e => by cases e) rfl rfl rfl (by kernel_rfl) (by kernel_rfl) (by kernel_rfl) (inw0 (hb389.cell 0 rfl)) rfl ?_
          refine gv_pureN 2 [115, 116] [(116, (.bool (r382.1 == 0)))] (by kernel_rfl) ?_
          refine gv_split (s := 116) (g := (r382.1 == 0)) (by kernel_rfl) (fun hc424 => ?_) (fun hc424 => ?_)
          ·skip
           replace h1 := ite_t hc424 h1
           refine gv_pureN 3 [117, 118, 119] [(117, (.int .i64 r351.1)), (118, (.slice a38 (List.length r33.1) c39)), (119, (.slice a58 (List.length r53.1) c59))] (by kernel_rfl) ?_
           refine bindE h1 ?_; clear h1; intro r425 hr426 h1
           have hk427 := hk345.grown hg354 (fun _ h => h.elim) nb
           have ap428 : ¬ (fun k => blk a38 = some k) b356 := fun hx => nl ((lowb hbe360) _ rfl) ((fun k (hk : blk a38 = some k) => hk427.lt k hk) _ hx)
           have ap429 : ¬ (fun k => blk a38 = some k) b23 := fun hx => nl ((show ∀ k, blk a38 = some k → w29.heap.size ≤ k from hl41) _ hx) ((ltb hb31) _ rfl)
           have hk430 := (((hk345.grown hg377 (fun _ h => h.elim) nb).grown hg363 (fun _ h => h.elim) (rdnn (rowne ap428))).grown hg393 (fun _ h => h.elim) nb).grown hg388 (fun _ h => h.elim) (rdnn (rowne ap429))
           have hk431 := hk346.grown hg354 (fun _ h => h.elim) nb
           have ap432 : ¬ (fun k => blk a58 = some k) b356 := fun hx => nl ((lowb hbe360) _ rfl) ((fun k (hk : blk a58 = some k) => hk431.lt k hk) _ hx)
           have hk433 := hb31.grown hg36 nb
           have ap434 : ¬ (fun k => blk a58 = some k) b23 := fun hx => nl ((show ∀ k, blk a58 = some k → w35.heap.size ≤ k from hl61) _ hx) ((ltb hk433) _ rfl)
           have hk435 := (((hk346.grown hg377 (fun _ h => h.elim) nb).grown hg363 (fun _ h => h.elim) (rdnn (rowne ap432))).grown hg393 (fun _ h => h.elim) nb).grown hg388 (fun _ h => h.elim) (rdnn (rowne ap434))
           refine gv_call0 (by kernel_rfl) rfl (by kernel_rfl) enters36 (ref4_Changes_ok fuel a38 c39 r33.1 a58 c59 r53.1 w387 (fun k => (fun k => blk a38 = some k) k ∨ (fun k => blk a58 = some k) k) (fun k hk => (hk).elim (fun h => (fun k (hk : blk a38 = some k) => hk430.lt k hk) k h) (fun h => (fun k (hk : blk a58 = some k) => hk435.lt k hk) k h)) ((hk430.rd (Y := fun k => blk a38 = some k) (fun _ h => h.elim) (fun g e => e)).wide (fun k hk => (.inl hk))) ((hk435.rd (Y := fun k => blk a58 = some k) (fun _ h => h.elim) (fun g e => e)).wide (fun k hk => (.inr hk))) r425 hr426) ?_
           rintro v438 w436 ⟨hg437, rfl⟩
           refine gv_pureN 5 [6, 121, 122, 123, 124] [(6, (.bool (r351.1 == r425)))] (by kernel_rfl) ?_
           refine gv_nil ?_
           have e := sj h1; subst e
           refine gv_goal fun a hd hs hok => ?_
           have hB439 := bg hB381 hg393 nb
           have hB440 := bg hB439 hg388 (rowlo hlo51)
           have hB441 := bg hB440 hg437 nb
           have hz442 := hg437.size
           exact ⟨hB441, hz442, hd, hs, ok_pick [6] hok (by kernel_rfl)⟩
          ·skip
           replace h1 := ite_f hc424 h1
           refine gv_pureN 9 [6, 117, 118, 119, 120, 121, 122, 123, 124] [(6, (.bool false))] (by kernel_rfl) ?_
           refine gv_nil ?_
           have e := sj h1; subst e
           refine gv_goal fun a hd hs hok => ?_
           have hB443 := bg hB381 hg393 nb
           have hB444 := bg hB443 hg388 (rowlo hlo51)
           exact ⟨hB444, (Nat.le_refl _), hd, hs, ok_pick [6] hok (by kernel_rfl)⟩
        ·skip
         replace h1 := ite_f hc398 h1
         refine gv_pureN 21 [6, 105, 106, 107, 108, 109, 110, 111, 112, 113, 114, 115, 116, 117, 118, 119, 120, 121, 122, 123, 124] [(6, (.bool false))] (by kernel_rfl) ?_
         refine gv_nil ?_
         have e := sj h1; subst e
         refine gv_goal fun a hd hs hok => ?_
         have hB445 := bg hB381 hg393 nb
         have hB446 := bg hB445 hg388 (rowlo hlo51)
         exact ⟨hB446, (Nat.le_refl _), hd, hs, ok_pick [6] hok (by kernel_rfl)⟩
       ·rintro a w396 ⟨hB447, hz448, hd, hs, hok⟩
        refine gv_in ?_ hd hs hok
        clear hd hs hok
        clear hz448 hz390 hb389 hg388 hk394 hg393 lt392 hk391 hg385 hr383 hl373 hB381 hlo380 hB379 hB378 hg377 ho372 hz371 hbe370 hb369 hg368 hz365 hb364 hg363 hbe360 hb359 hg358 hg354 hk346 hk345 hb344 hB342 hl62 hl61 hl42 hlo51 hl41 ho40 hg36 hb31
        refine gv_cret ?_
        have e := sj h0; subst e
        refine gv_ret (gv_done [(.bool j395)] rfl ⟨(by kernel_rfl), trivial⟩ ?_)
        exact ⟨grown_of_below hB447, rfl⟩

end Go.Proofs.YtkmcegicngjhbaaDoor
