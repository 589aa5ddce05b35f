import Derived.Test.YtenjigdaaeiklaaP3
set_option linter.all false
set_option maxHeartbeats 4000000
set_option maxRecDepth 100000
/- Own work, printed by a program of mine: the walk of each function: a call returns what the plain function says. -/
namespace Go.Proofs.Ytenjigdaaeiklaa
open Go.Gv Go.Gv.D Go.RowKit
theorem law4_RandomIntegers_ok (fuel : Nat) (g_0 : (Int × Int)) (pa1_0 : Option Addr) (pc1_0 : Nat) (n_1 : (Bool × (List Int))) (pa2_0 : Option Addr) (pc2_0 : Nat) (low_2 : (Bool × (List Int))) (pa3_0 : Option Addr) (pc3_0 : Nat) (high_3 : (Bool × (List Int))) (w0 : World) (X0 : Nat → Prop) (hX0 : ∀ k, X0 k → k < w0.heap.size) (hpa1_0 : Rd (iE .u32) w0 X0 pa1_0 pc1_0 n_1.2) (hpa2_0 : Rd (iE .u32) w0 X0 pa2_0 pc2_0 low_2.2) (hpa3_0 : Rd (iE .u32) w0 X0 pa3_0 pc3_0 high_3.2) (r0 : Bool) (h0 : law4_RandomIntegers fuel g_0 n_1 low_2 high_3 = some r0) :
    Calls Try.prog 4 ([(.agg #[(.int .u64 g_0.1), (.int .u64 g_0.2)]), (.agg #[(.bool n_1.1), (.slice pa1_0 (List.length n_1.2) pc1_0)]), (.agg #[(.bool low_2.1), (.slice pa2_0 (List.length low_2.2) pc2_0)]), (.agg #[(.bool high_3.1), (.slice pa3_0 (List.length high_3.2) pc3_0)])] : List Value).toArray w0 (Ret fun v w' => w0.grownBy w' none ∧ v = tup [(.bool r0)]) := by
 have hB0 : Below w0.heap.size w0 w0 := Below.refl _ _
 unfold law4_RandomIntegers at h0
 refine calls_run Try.func4 rfl Try.ntmps4 (by kernel_rfl) ?_
 refine gv_sub [0, 1, 2, 3] (σ' := [(0, (.agg #[(.int .u64 g_0.1), (.int .u64 g_0.2)])), (1, (.agg #[(.bool n_1.1), (.slice pa1_0 (List.length n_1.2) pc1_0)])), (2, (.agg #[(.bool low_2.1), (.slice pa2_0 (List.length low_2.2) pc2_0)])), (3, (.agg #[(.bool high_3.1), (.slice pa3_0 (List.length high_3.2) pc3_0)]))]) (by kernel_rfl) ?_
 refine gv_seq <| gv_region <| gv_new0 (fun b => .pointer (some ⟨b, 0, none⟩)) #[(.int .u64 g_0.1), (.int .u64 g_0.2)] 27 (by kernel_rfl) (by kernel_rfl) ?_
 intro b1 w2 hg3 hb4 hbe5 hz6
 refine gv_new0 (fun b => .pointer (some ⟨b, 0, none⟩)) #[(.bool n_1.1), (.slice pa1_0 (List.length n_1.2) pc1_0)] 24 (by kernel_rfl) (by kernel_rfl) ?_
 intro b7 w8 hg9 hb10 hbe11 hz12
 refine gv_new0 (fun b => .pointer (some ⟨b, 0, none⟩)) #[(.bool low_2.1), (.slice pa2_0 (List.length low_2.2) pc2_0)] 24 (by kernel_rfl) (by kernel_rfl) ?_
 intro b13 w14 hg15 hb16 hbe17 hz18
 refine gv_new0 (fun b => .pointer (some ⟨b, 0, none⟩)) #[(.bool high_3.1), (.slice pa3_0 (List.length high_3.2) pc3_0)] 24 (by kernel_rfl) (by kernel_rfl) ?_
 intro b19 w20 hg21 hb22 hbe23 hz24
 refine gv_pureN 1 [8] [] (by kernel_rfl) ?_
 refine gv_nil <| gv_seq <| gv_region ?_
 have hg25 := (grown_trans (grown_trans hg9 hg15) hg21)
 have hk26 := hb4.grown hg25 nb
 refine gv_loadBox (t := 27) (b := b1) (t' := 27) (fr := (0, 0)) #[(.int .u64 g_0.1), (.int .u64 g_0.2)] [] (fun e => by cases e) rfl rfl rfl (by kernel_rfl) (by kernel_rfl) (by kernel_rfl) (by kernel_rfl) (inw0 hk26) rfl ?_
 have hg27 := (grown_trans hg15 hg21)
 have hk28 := hb10.grown hg27 nb
 refine gv_loadBox (t := 24) (b := b7) (t' := 24) (fr := (0, 0)) #[(.bool n_1.1), (.slice pa1_0 (List.length n_1.2) pc1_0)] [] (fun e => by cases e) rfl rfl rfl (by kernel_rfl) (by kernel_rfl) (by kernel_rfl) (by kernel_rfl) (inw0 hk28) rfl ?_
 refine bindE h0 ?_; clear h0; intro r29 hr30 h0
 have hg31 := (grown_trans hg3 hg25)
 have hB32 := bg hB0 hg31 nb
 refine gv_call0 (by kernel_rfl) rfl (by kernel_rfl) enters16 (random_Below_ok fuel (g_0.1, g_0.2) pa1_0 pc1_0 (n_1.1, n_1.2) w20 (fun k => X0 k) (fun k hk => (fun k (hk : X0 k) => ltl (hX0 k hk) hB32.size) k hk) ((hpa1_0.below hB32 hX0).wide (fun k hk => hk)) r29 hr30) ?_
 rintro v35 w33 ⟨hg34, a36, c37, rfl, ho38, hl39⟩
 have hl40 : ∀ g, blk a36 = some g → w0.heap.size ≤ g := fun g e => Nat.le_trans hB32.size (hl39 g e)
 refine gv_pureN 4 [24, 28, 29, 30] [(28, (.agg #[(.bool r29.1.1), (.slice a36 (List.length r29.1.2) c37)])), (29, (.agg #[(.int .u64 r29.2.1.1), (.int .u64 r29.2.1.2)])), (30, (.agg #[(.int .i64 r29.2.2.1), (.int .i64 r29.2.2.2)]))] (by kernel_rfl) ?_
 refine gv_new0 (fun b => .pointer (some ⟨b, 0, none⟩)) #[(.bool false), (.slice none (List.length ([] : List Int)) 0)] 24 (by kernel_rfl) (by kernel_rfl) ?_
 intro b41 w42 hg43 hb44 hbe45 hz46
 refine gv_new0 (fun b => .pointer (some ⟨b, 0, none⟩)) #[(.int .u64 0), (.int .u64 0)] 27 (by kernel_rfl) (by kernel_rfl) ?_
 intro b47 w48 hg49 hb50 hbe51 hz52
 refine gv_new0 (fun b => .pointer (some ⟨b, 0, none⟩)) #[(.int .i64 0), (.int .i64 0)] 29 (by kernel_rfl) (by kernel_rfl) ?_
 intro b53 w54 hg55 hb56 hbe57 hz58
 clear hz58 hz52 hz46 hg31 hr30 hg27 hg25 hz24 hz18 hz12 hz6
 have hg63 := (grown_trans hg49 hg55)
 have hk64 := hb44.grown hg63 nb
 refine gv_store0 24 0 (.agg #[(.bool r29.1.1), (.slice a36 (List.length r29.1.2) c37)]) #[(.bool r29.1.1), (.slice a36 (List.length r29.1.2) c37)] hk64 (by kernel_rfl) (by kernel_rfl) (by kernel_rfl) ?_
 intro w59 hg60 hb61 hz62
 have lt69 := ltl ((ltb hb44) _ rfl) ((lowb hbe51) _ rfl)
 have hk70 := (hb50.grown hg55 nb).grown hg60 (rowne (Nat.ne_of_lt lt69))
 refine gv_store0 27 0 (.agg #[(.int .u64 r29.2.1.1), (.int .u64 r29.2.1.2)]) #[(.int .u64 r29.2.1.1), (.int .u64 r29.2.1.2)] hk70 (by kernel_rfl) (by kernel_rfl) (by kernel_rfl) ?_
 intro w65 hg66 hb67 hz68
 refine gv_sub [4, 5, 6, 7, 9, 10, 11, 30] (σ' := [(4, (bp b1)), (5, (bp b7)), (6, (bp b13)), (7, (bp b19)), (9, (bp b41)), (10, (bp b47)), (11, (bp b53)), (30, (.agg #[(.int .i64 r29.2.2.1), (.int .i64 r29.2.2.2)]))]) (by kernel_rfl) ?_
 have lt75 := ltl ((ltb hb50) _ rfl) ((lowb hbe57) _ rfl)
 have lt76 := ltt lt69 lt75
 have hk77 := (hb56.grown hg60 (rowne (Nat.ne_of_lt lt76))).grown hg66 (rowne (Nat.ne_of_lt lt75))
 refine gv_store0 29 0 (.agg #[(.int .i64 r29.2.2.1), (.int .i64 r29.2.2.2)]) #[(.int .i64 r29.2.2.1), (.int .i64 r29.2.2.2)] hk77 (by kernel_rfl) (by kernel_rfl) (by kernel_rfl) ?_
 intro w71 hg72 hb73 hz74
 refine gv_nil <| gv_seq <| gv_region ?_
 have hg78 := (grown_trans (grown_trans hg34 hg43) hg63)
 have lt79 := ltl ((ltb hb4) _ rfl) ((lowb hbe11) _ rfl)
 have lt80 := ltl ((ltb hb10) _ rfl) ((lowb hbe17) _ rfl)
 have lt81 := ltt lt79 lt80
 have lt82 := ltl ((ltb hb16) _ rfl) ((lowb hbe23) _ rfl)
 have lt83 := ltt lt81 lt82
 have hk84 := hb22.grown hg34 nb
 have lt85 := ltl ((ltb hk84) _ rfl) ((lowb hbe45) _ rfl)
 have lt86 := ltt lt83 lt85
 have lt87 := ltt lt86 lt69
 have lt88 := ltt lt87 lt75
 have hk89 := (((hk26.grown hg78 nb).grown hg60 (rowne (ng lt86))).grown hg66 (rowne (ng lt87))).grown hg72 (rowne (ng lt88))
 refine gv_loadBox (t := 27) (b := b1) (t' := 27) (fr := (0, 0)) #[(.int .u64 g_0.1), (.int .u64 g_0.2)] [] (fun e => by cases e) rfl rfl rfl (by kernel_rfl) (by kernel_rfl) (by kernel_rfl) (by kernel_rfl) (inw0 hk89) rfl ?_
 have hg90 := (grown_trans hg21 hg78)
 have lt91 := ltt lt82 lt85
 have lt92 := ltt lt91 lt69
 have lt93 := ltt lt92 lt75
 have hk94 := (((hb16.grown hg90 nb).grown hg60 (rowne (ng lt91))).grown hg66 (rowne (ng lt92))).grown hg72 (rowne (ng lt93))
 refine gv_loadBox (t := 24) (b := b13) (t' := 24) (fr := (0, 0)) #[(.bool low_2.1), (.slice pa2_0 (List.length low_2.2) pc2_0)] [] (fun e => by cases e) rfl rfl rfl (by kernel_rfl) (by kernel_rfl) (by kernel_rfl) (by kernel_rfl) (inw0 hk94) rfl ?_
 have hg95 := (grown_trans hg43 hg63)
 have lt96 := ltt lt85 lt69
 have lt97 := ltt lt96 lt75
 have hk98 := (((hk84.grown hg95 nb).grown hg60 (rowne (ng lt85))).grown hg66 (rowne (ng lt96))).grown hg72 (rowne (ng lt97))
 refine gv_loadBox (t := 24) (b := b19) (t' := 24) (fr := (0, 0)) #[(.bool high_3.1), (.slice pa3_0 (List.length high_3.2) pc3_0)] [] (fun e => by cases e) rfl rfl rfl (by kernel_rfl) (by kernel_rfl) (by kernel_rfl) (by kernel_rfl) (inw0 hk98) rfl ?_
 refine bindE h0 ?_; clear h0; intro r99 hr100 h0
 have hB101 := bg hB32 hg78 nb
 have hB102 := bg hB32 hg34 nb
 have hlo103 : w0.heap.size ≤ b41 := lob hbe45 hB102.size
 have hB104 := bg hB101 hg60 (rowlo hlo103)
 have hB105 := bg hB102 hg43 nb
 have hlo106 : w0.heap.size ≤ b47 := lob hbe51 hB105.size
 have hB107 := bg hB104 hg66 (rowlo hlo106)
 have hB108 := bg hB105 hg49 nb
 have hlo109 : w0.heap.size ≤ b53 := lob hbe57 hB108.size
 have hB110 := bg hB107 hg72 (rowlo hlo109)
 refine gv_call0 (by kernel_rfl) rfl (by kernel_rfl) enters17 (random_Between_ok fuel (g_0.1, g_0.2) pa2_0 pc2_0 (low_2.1, low_2.2) pa3_0 pc3_0 (high_3.1, high_3.2) w71 (fun k => X0 k ∨ X0 k) (fun k hk => (hk).elim (fun h => (fun k (hk : X0 k) => ltl (hX0 k hk) hB110.size) k h) (fun h => (fun k (hk : X0 k) => ltl (hX0 k hk) hB110.size) k h)) ((hpa2_0.below hB110 hX0).wide (fun k hk => (.inl hk))) ((hpa3_0.below hB110 hX0).wide (fun k hk => (.inr hk))) r99 hr100) ?_
 rintro v113 w111 ⟨hg112, a114, c115, X117, rfl, ho116, hx118⟩
 have hx119 : ∀ k, X117 k → k < w111.heap.size := fun k hk => (hx118 k hk).1
 have hx120 : ∀ k, X117 k → X0 k ∨ w0.heap.size ≤ k := fun k hk => (hx118 k hk).2.elim (fun h => (h).elim (fun h => (fun k (hk : X0 k) => Or.inl hk) k h) (fun h => (fun k (hk : X0 k) => Or.inl hk) k h)) (fun h => .inr (Nat.le_trans hB110.size h))
 refine gv_pureN 4 [31, 36, 37, 38] [(36, (.agg #[(.bool r99.1.1), (.slice a114 (List.length r99.1.2) c115)])), (37, (.agg #[(.int .u64 r99.2.1.1), (.int .u64 r99.2.1.2)])), (38, (.agg #[(.int .i64 r99.2.2.1), (.int .i64 r99.2.2.2)]))] (by kernel_rfl) ?_
 refine gv_new0 (fun b => .pointer (some ⟨b, 0, none⟩)) #[(.bool false), (.slice none (List.length ([] : List Int)) 0)] 24 (by kernel_rfl) (by kernel_rfl) ?_
 intro b121 w122 hg123 hb124 hbe125 hz126
 refine gv_new0 (fun b => .pointer (some ⟨b, 0, none⟩)) #[(.int .u64 0), (.int .u64 0)] 27 (by kernel_rfl) (by kernel_rfl) ?_
 intro b127 w128 hg129 hb130 hbe131 hz132
 refine gv_new0 (fun b => .pointer (some ⟨b, 0, none⟩)) #[(.int .i64 0), (.int .i64 0)] 29 (by kernel_rfl) (by kernel_rfl) ?_
 intro b133 w134 hg135 hb136 hbe137 hz138
 have hg143 := (grown_trans hg129 hg135)
 have hk144 := hb124.grown hg143 nb
 refine gv_store0 24 0 (.agg #[(.bool r99.1.1), (.slice a114 (List.length r99.1.2) c115)]) #[(.bool r99.1.1), (.slice a114 (List.length r99.1.2) c115)] hk144 (by kernel_rfl) (by kernel_rfl) (by kernel_rfl) ?_
 intro w139 hg140 hb141 hz142
 clear hz142 hk144 hg143 hz138 hz132 hz126 hB108 hB107 hB105 hB104 hB102 hB101 hr100 hg95 hg90 hk84 hg78 hz74 hk77 hz68 hk70 hz62 hk64 hg63 hb56 hb50 hb44 hB32 hb10 hb4
 have lt149 := ltl ((ltb hb124) _ rfl) ((lowb hbe131) _ rfl)
 have hk150 := (hb130.grown hg135 nb).grown hg140 (rowne (Nat.ne_of_lt lt149))
 refine gv_store0 27 0 (.agg #[(.int .u64 r99.2.1.1), (.int .u64 r99.2.1.2)]) #[(.int .u64 r99.2.1.1), (.int .u64 r99.2.1.2)] hk150 (by kernel_rfl) (by kernel_rfl) (by kernel_rfl) ?_
 intro w145 hg146 hb147 hz148
 have lt155 := ltl ((ltb hb130) _ rfl) ((lowb hbe137) _ rfl)
 have lt156 := ltt lt149 lt155
 have hk157 := (hb136.grown hg140 (rowne (Nat.ne_of_lt lt156))).grown hg146 (rowne (Nat.ne_of_lt lt155))
 refine gv_store0 29 0 (.agg #[(.int .i64 r99.2.2.1), (.int .i64 r99.2.2.2)]) #[(.int .i64 r99.2.2.1), (.int .i64 r99.2.2.2)] hk157 (by kernel_rfl) (by kernel_rfl) (by kernel_rfl) ?_
 intro w151 hg152 hb153 hz154
 refine gv_nil <| gv_seq <| gv_seq <| gv_region <| bindE h0 ?_; clear h0; intro r158 hr159 h0
 refine gv_call0 (by kernel_rfl) rfl (by kernel_rfl) enters11 (law4_draws_ok fuel  w151  r158 hr159) ?_
 rintro v162 w160 ⟨hg161, rfl⟩
 refine gv_pureN 1 [40] [(40, (.bool (!r158)))] (by kernel_rfl) ?_
 refine gv_sub [4, 5, 6, 7, 9, 10, 11, 12, 13, 14, 40] (σ' := [(4, (bp b1)), (5, (bp b7)), (6, (bp b13)), (7, (bp b19)), (9, (bp b41)), (10, (bp b47)), (11, (bp b53)), (12, (bp b121)), (13, (bp b127)), (14, (bp b133)), (40, (.bool (!r158)))]) (by kernel_rfl) ?_
 refine gv_nil <| gv_cond (b := (!r158)) (by kernel_rfl) (fun hc163 => ?_) (fun hc163 => ?_)
 ·replace h0 := ite_t hc163 h0
  refine gv_seq <| gv_region <| gv_pureN 1 [8] [(8, (.bool false))] (by kernel_rfl) ?_
  refine gv_nil <| gv_cret ?_
  have e := sj h0; subst e
  refine gv_ret (gv_done [(.bool false)] rfl ⟨(by kernel_rfl), trivial⟩ ?_)
  have hg164 := (grown_trans (grown_trans (grown_trans hg112 hg123) hg129) hg135)
  have hB165 := bg hB110 hg164 nb
  have hB166 := bg hB110 hg112 nb
  have hlo167 : w0.heap.size ≤ b121 := lob hbe125 hB166.size
  have hB168 := bg hB165 hg140 (rowlo hlo167)
  have hB169 := bg hB166 hg123 nb
  have hlo170 : w0.heap.size ≤ b127 := lob hbe131 hB169.size
  have hB171 := bg hB168 hg146 (rowlo hlo170)
  have hB172 := bg hB169 hg129 nb
  have hlo173 : w0.heap.size ≤ b133 := lob hbe137 hB172.size
  have hB174 := bg hB171 hg152 (rowlo hlo173)
  have hB175 := bg hB174 hg161 nb
  exact ⟨grown_of_below hB175, rfl⟩
 ·replace h0 := ite_f hc163 h0
  refine gv_skip <| gv_seq <| gv_region <| gv_pureN 1 [41] [(41, (.agg #[(.int .i64 0), (.int .i64 0)]))] (by kernel_rfl) ?_
  refine gv_new0 (fun b => .pointer (some ⟨b, 0, none⟩)) #[(.int .i64 0), (.int .i64 0)] 29 (by kernel_rfl) (by kernel_rfl) ?_
  intro b176 w177 hg178 hb179 hbe180 hz181
  refine gv_store0 29 0 (.agg #[(.int .i64 0), (.int .i64 0)]) #[(.int .i64 0), (.int .i64 0)] hb179 (by kernel_rfl) (by kernel_rfl) (by kernel_rfl) ?_
  intro w182 hg183 hb184 hz185
  refine gv_nil <| gv_seq <| gv_seq <| gv_region <| gv_pureN 1 [42] [(42, (.pointer (some ⟨b1, 1, none⟩)))] (by kernel_rfl) ?_
  have hg186 := (grown_trans (grown_trans (grown_trans hg112 hg123) hg129) hg135)
  have hk187 := hb73.grown hg112 nb
  have lt188 := ltl ((ltb hk187) _ rfl) ((lowb hbe125) _ rfl)
  have lt189 := ltt lt88 lt188
  have lt190 := ltt lt189 lt149
  have lt191 := ltt lt190 lt155
  have hg192 := (grown_trans hg161 hg178)
  have hk193 := hb153.grown hg161 nb
  have lt194 := ltl ((ltb hk193) _ rfl) ((lowb hbe180) _ rfl)
  have lt195 := ltt lt191 lt194
  have hk196 := (((((hk89.grown hg186 nb).grown hg140 (rowne (ng lt189))).grown hg146 (rowne (ng lt190))).grown hg152 (rowne (ng lt191))).grown hg192 nb).grown hg183 (rowne (ng lt195))
  refine gv_load (t := 25) (A := ⟨b1, 1, none⟩) (.int .u64 g_0.2) [] (fun e => by cases e) rfl rfl rfl (by kernel_rfl) (by kernel_rfl) (by kernel_rfl) (inw0 (hk196.cell 1 rfl)) rfl ?_
  refine gv_pureN 2 [44, 45] [(45, (.bool (((g_0.2).tmod 2) == 0)))] (by kernel_rfl) ?_
  refine gv_nil <| bindE h0 ?_; clear h0; intro j197 h1 h0
  refine gv_cut_code (J := fun a w198 => Below w0.heap.size w0 w198 ∧ w182.heap.size ≤ w198.heap.size ∧ Box w198 b1 27 #[(.int .u64 g_0.1), (.int .u64 g_0.2)] ∧ Box w198 b7 24 #[(.bool n_1.1), (.slice pa1_0 (List.length n_1.2) pc1_0)] ∧ Box w198 b13 24 #[(.bool low_2.1), (.slice pa2_0 (List.length low_2.2) pc2_0)] ∧ Box w198 b19 24 #[(.bool high_3.1), (.slice pa3_0 (List.length high_3.2) pc3_0)] ∧ Box w198 b41 24 #[(.bool r29.1.1), (.slice a36 (List.length r29.1.2) c37)] ∧ Box w198 b47 27 #[(.int .u64 r29.2.1.1), (.int .u64 r29.2.1.2)] ∧ Box w198 b53 29 #[(.int .i64 r29.2.2.1), (.int .i64 r29.2.2.2)] ∧ Box w198 b121 24 #[(.bool r99.1.1), (.slice a114 (List.length r99.1.2) c115)] ∧ Box w198 b127 27 #[(.int .u64 r99.2.1.1), (.int .u64 r99.2.1.2)] ∧ Box w198 b133 29 #[(.int .i64 r99.2.2.1), (.int .i64 r99.2.2.2)] ∧ Box w198 b176 29 #[(.int .i64 j197.1), (.int .i64 j197.2)] ∧ Own (iE .u32) 76 w198 (fun _ => False) a36 c37 r29.1.2 ∧ Rd (iE .u32) w198 X117 a114 c115 r99.1.2 ∧ a.defers = [] ∧ a.tmps.size = 187 ∧ Ok [(4, (bp b1)), (5, (bp b7)), (6, (bp b13)), (7, (bp b19)), (9, (bp b41)), (10, (bp b47)), (11, (bp b53)), (12, (bp b121)), (13, (bp b127)), (14, (bp b133)), (15, (bp b176))] a.tmps) ?_ ?_
  ·skip
   refine gv_cond (b := (((g_0.2).tmod 2) == 0)) (by kernel_rfl) (fun hc199 => ?_) (fun hc199 => ?_)
   ·replace h1 := ite_t hc199 h1
    refine gv_region <| bindE h1 ?_; clear h1; intro r200 hr201 h1
    refine gv_call0 (by kernel_rfl) rfl (by kernel_rfl) enters13 (ref4_At_ok fuel 6 (-1) w182  r200 hr201) ?_
    rintro v204 w202 ⟨hg203, rfl⟩
    have hk209 := hb184.grown hg203 nb
    refine gv_store0 29 0 (.agg #[(.int .i64 r200.1), (.int .i64 r200.2)]) #[(.int .i64 r200.1), (.int .i64 r200.2)] hk209 (by kernel_rfl) (by kernel_rfl) (by kernel_rfl) ?_
    intro w205 hg206 hb207 hz208
    refine gv_nil ?_
    have e := sj h1; subst e
    refine gv_goal fun a hd hs hok => ?_
    have hB210 := bg hB110 hg186 nb
    have hB211 := bg hB110 hg112 nb
    have hlo212 : w0.heap.size ≤ b121 := lob hbe125 hB211.size
    have hB213 := bg hB210 hg140 (rowlo hlo212)
    have hB214 := bg hB211 hg123 nb
    have hlo215 : w0.heap.size ≤ b127 := lob hbe131 hB214.size
    have hB216 := bg hB213 hg146 (rowlo hlo215)
    have hB217 := bg hB214 hg129 nb
    have hlo218 : w0.heap.size ≤ b133 := lob hbe137 hB217.size
    have hB219 := bg hB216 hg152 (rowlo hlo218)
    have hB220 := bg hB219 hg192 nb
    have hB221 := bg hB217 hg135 nb
    have hB222 := bg hB221 hg140 (rowlo hlo212)
    have hB223 := bg hB222 hg146 (rowlo hlo215)
    have hB224 := bg hB223 hg152 (rowlo hlo218)
    have hB225 := bg hB224 hg161 nb
    have hlo226 : w0.heap.size ≤ b176 := lob hbe180 hB225.size
    have hB227 := bg hB220 hg183 (rowlo hlo226)
    have hB228 := bg hB227 hg203 nb
    have hB229 := bg hB228 hg206 (rowlo hlo226)
    have hz230 := (nt hg203.size hg206.size)
    have hk231 := (hk196.grown hg203 nb).grown hg206 (rowne (ng lt195))
    have hg232 := (grown_trans (grown_trans (grown_trans hg34 hg43) hg49) hg55)
    have lt233 := ltt lt80 lt82
    have lt234 := ltt lt233 lt85
    have lt235 := ltt lt234 lt69
    have lt236 := ltt lt235 lt75
    have lt237 := ltt lt236 lt188
    have lt238 := ltt lt237 lt149
    have lt239 := ltt lt238 lt155
    have lt240 := ltt lt239 lt194
    have hk241 := (((((((((((hk28.grown hg232 nb).grown hg60 (rowne (ng lt234))).grown hg66 (rowne (ng lt235))).grown hg72 (rowne (ng lt236))).grown hg186 nb).grown hg140 (rowne (ng lt237))).grown hg146 (rowne (ng lt238))).grown hg152 (rowne (ng lt239))).grown hg192 nb).grown hg183 (rowne (ng lt240))).grown hg203 nb).grown hg206 (rowne (ng lt240))
    have lt242 := ltt lt93 lt188
    have lt243 := ltt lt242 lt149
    have lt244 := ltt lt243 lt155
    have lt245 := ltt lt244 lt194
    have hk246 := (((((((hk94.grown hg186 nb).grown hg140 (rowne (ng lt242))).grown hg146 (rowne (ng lt243))).grown hg152 (rowne (ng lt244))).grown hg192 nb).grown hg183 (rowne (ng lt245))).grown hg203 nb).grown hg206 (rowne (ng lt245))
    have lt247 := ltt lt97 lt188
    have lt248 := ltt lt247 lt149
    have lt249 := ltt lt248 lt155
    have lt250 := ltt lt249 lt194
    have hk251 := (((((((hk98.grown hg186 nb).grown hg140 (rowne (ng lt247))).grown hg146 (rowne (ng lt248))).grown hg152 (rowne (ng lt249))).grown hg192 nb).grown hg183 (rowne (ng lt250))).grown hg203 nb).grown hg206 (rowne (ng lt250))
    have lt252 := ltt lt76 lt188
    have lt253 := ltt lt252 lt149
    have lt254 := ltt lt253 lt155
    have lt255 := ltt lt254 lt194
    have hk256 := (((((((((hb61.grown hg66 (rowne (ng lt69))).grown hg72 (rowne (ng lt76))).grown hg186 nb).grown hg140 (rowne (ng lt252))).grown hg146 (rowne (ng lt253))).grown hg152 (rowne (ng lt254))).grown hg192 nb).grown hg183 (rowne (ng lt255))).grown hg203 nb).grown hg206 (rowne (ng lt255))
    have lt257 := ltt lt75 lt188
    have lt258 := ltt lt257 lt149
    have lt259 := ltt lt258 lt155
    have lt260 := ltt lt259 lt194
    have hk261 := ((((((((hb67.grown hg72 (rowne (ng lt75))).grown hg186 nb).grown hg140 (rowne (ng lt257))).grown hg146 (rowne (ng lt258))).grown hg152 (rowne (ng lt259))).grown hg192 nb).grown hg183 (rowne (ng lt260))).grown hg203 nb).grown hg206 (rowne (ng lt260))
    have hg262 := (grown_trans (grown_trans hg123 hg129) hg135)
    have lt263 := ltt lt188 lt149
    have lt264 := ltt lt263 lt155
    have lt265 := ltt lt264 lt194
    have hk266 := (((((((hk187.grown hg262 nb).grown hg140 (rowne (ng lt188))).grown hg146 (rowne (ng lt263))).grown hg152 (rowne (ng lt264))).grown hg192 nb).grown hg183 (rowne (ng lt265))).grown hg203 nb).grown hg206 (rowne (ng lt265))
    have lt267 := ltt lt156 lt194
    have hk268 := (((((hb141.grown hg146 (rowne (ng lt149))).grown hg152 (rowne (ng lt156))).grown hg192 nb).grown hg183 (rowne (ng lt267))).grown hg203 nb).grown hg206 (rowne (ng lt267))
    have lt269 := ltt lt155 lt194
    have hk270 := ((((hb147.grown hg152 (rowne (ng lt155))).grown hg192 nb).grown hg183 (rowne (ng lt269))).grown hg203 nb).grown hg206 (rowne (ng lt269))
    have hk271 := (((hk193.grown hg178 nb).grown hg183 (rowne (ng lt194))).grown hg203 nb).grown hg206 (rowne (ng lt194))
    have hg272 := (grown_trans (grown_trans hg43 hg49) hg55)
    have ap273 : ¬ (fun k => blk a36 = some k) b41 := fun hx => nl ((lowb hbe45) _ rfl) ((fun k (hk : blk a36 = some k) => ho38.lt k hk) _ hx)
    have hk274 := ho38.grown hg43 (fun _ h => h.elim) nb
    have ap275 : ¬ (fun k => blk a36 = some k) b47 := fun hx => nl ((lowb hbe51) _ rfl) ((fun k (hk : blk a36 = some k) => hk274.lt k hk) _ hx)
    have hk276 := hk274.grown hg49 (fun _ h => h.elim) nb
    have ap277 : ¬ (fun k => blk a36 = some k) b53 := fun hx => nl ((lowb hbe57) _ rfl) ((fun k (hk : blk a36 = some k) => hk276.lt k hk) _ hx)
    have hk278 := ((((hk276.grown hg55 (fun _ h => h.elim) nb).grown hg60 (fun _ h => h.elim) (rdnn (rowne ap273))).grown hg66 (fun _ h => h.elim) (rdnn (rowne ap275))).grown hg72 (fun _ h => h.elim) (rdnn (rowne ap277))).grown hg112 (fun _ h => h.elim) nb
    have ap279 : ¬ (fun k => blk a36 = some k) b121 := fun hx => nl ((lowb hbe125) _ rfl) ((fun k (hk : blk a36 = some k) => hk278.lt k hk) _ hx)
    have hk280 := hk278.grown hg123 (fun _ h => h.elim) nb
    have ap281 : ¬ (fun k => blk a36 = some k) b127 := fun hx => nl ((lowb hbe131) _ rfl) ((fun k (hk : blk a36 = some k) => hk280.lt k hk) _ hx)
    have hk282 := hk280.grown hg129 (fun _ h => h.elim) nb
    have ap283 : ¬ (fun k => blk a36 = some k) b133 := fun hx => nl ((lowb hbe137) _ rfl) ((fun k (hk : blk a36 = some k) => hk282.lt k hk) _ hx)
    have hk284 := ((((hk282.grown hg135 (fun _ h => h.elim) nb).grown hg140 (fun _ h => h.elim) (rdnn (rowne ap279))).grown hg146 (fun _ h => h.elim) (rdnn (rowne ap281))).grown hg152 (fun _ h => h.elim) (rdnn (rowne ap283))).grown hg161 (fun _ h => h.elim) nb
    have ap285 : ¬ (fun k => blk a36 = some k) b176 := fun hx => nl ((lowb hbe180) _ rfl) ((fun k (hk : blk a36 = some k) => hk284.lt k hk) _ hx)
    have hk286 := (((((((((((ho38.grown hg272 (fun _ h => h.elim) nb).grown hg60 (fun _ h => h.elim) (rdnn (rowne ap273))).grown hg66 (fun _ h => h.elim) (rdnn (rowne ap275))).grown hg72 (fun _ h => h.elim) (rdnn (rowne ap277))).grown hg186 (fun _ h => h.elim) nb).grown hg140 (fun _ h => h.elim) (rdnn (rowne ap279))).grown hg146 (fun _ h => h.elim) (rdnn (rowne ap281))).grown hg152 (fun _ h => h.elim) (rdnn (rowne ap283))).grown hg192 (fun _ h => h.elim) nb).grown hg183 (fun _ h => h.elim) (rdnn (rowne ap285))).grown hg203 (fun _ h => h.elim) nb).grown hg206 (fun _ h => h.elim) (rdnn (rowne ap285))
    have ap287 : ¬ X117 b121 := fun hx => nl ((lowb hbe125) _ rfl) (hx119 _ hx)
    have hx288 := ltx hx119 hg262.size
    have hx289 := ltx hx119 hg123.size
    have ap290 : ¬ X117 b127 := fun hx => nl ((lowb hbe131) _ rfl) (hx289 _ hx)
    have hx291 := ltx hx288 hg140.size
    have hx292 := ltx hx289 hg129.size
    have ap293 : ¬ X117 b133 := fun hx => nl ((lowb hbe137) _ rfl) (hx292 _ hx)
    have hx294 := ltx hx291 hg146.size
    have hx295 := ltx hx294 hg152.size
    have hx296 := ltx hx295 hg161.size
    have ap297 : ¬ X117 b176 := fun hx => nl ((lowb hbe180) _ rfl) (hx296 _ hx)
    have hx298 := ltx hx296 hg178.size
    have hx299 := ltx hx298 hg183.size
    have hx300 := ltx hx299 hg203.size
    have hk301 := (((((((ho116.grown hg262 hx119 nb).grown hg140 hx288 (rowne ap287)).grown hg146 hx291 (rowne ap290)).grown hg152 hx294 (rowne ap293)).grown hg192 hx295 nb).grown hg183 hx298 (rowne ap297)).grown hg203 hx299 nb).grown hg206 hx300 (rowne ap297)
    exact ⟨hB229, hz230, hk231, hk241, hk246, hk251, hk256, hk261, hk266, hk268, hk270, hk271, hb207, hk286, hk301, hd, hs, ok_pick [4, 5, 6, 7, 9, 10, 11, 12, 13, 14, 15] hok (by kernel_rfl)⟩
   ·replace h1 := ite_f hc199 h1
    refine gv_skip ?_
    have e := sj h1; subst e
    refine gv_goal fun a hd hs hok => ?_
    have hB302 := bg hB110 hg186 nb
    have hB303 := bg hB110 hg112 nb
    have hlo304 : w0.heap.size ≤ b121 := lob hbe125 hB303.size
    have hB305 := bg hB302 hg140 (rowlo hlo304)
    have hB306 := bg hB303 hg123 nb
    have hlo307 : w0.heap.size ≤ b127 := lob hbe131 hB306.size
    have hB308 := bg hB305 hg146 (rowlo hlo307)
    have hB309 := bg hB306 hg129 nb
    have hlo310 : w0.heap.size ≤ b133 := lob hbe137 hB309.size
    have hB311 := bg hB308 hg152 (rowlo hlo310)
    have hB312 := bg hB311 hg192 nb
    have hB313 := bg hB309 hg135 nb
    have hB314 := bg hB313 hg140 (rowlo hlo304)
    have hB315 := bg hB314 hg146 (rowlo hlo307)
    have hB316 := bg hB315 hg152 (rowlo hlo310)
    have hB317 := bg hB316 hg161 nb
    have hlo318 : w0.heap.size ≤ b176 := lob hbe180 hB317.size
    have hB319 := bg hB312 hg183 (rowlo hlo318)
    have hg320 := (grown_trans (grown_trans (grown_trans hg34 hg43) hg49) hg55)
    have lt321 := ltt lt80 lt82
    have lt322 := ltt lt321 lt85
    have lt323 := ltt lt322 lt69
    have lt324 := ltt lt323 lt75
    have lt325 := ltt lt324 lt188
    have lt326 := ltt lt325 lt149
    have lt327 := ltt lt326 lt155
    have lt328 := ltt lt327 lt194
    have hk329 := (((((((((hk28.grown hg320 nb).grown hg60 (rowne (ng lt322))).grown hg66 (rowne (ng lt323))).grown hg72 (rowne (ng lt324))).grown hg186 nb).grown hg140 (rowne (ng lt325))).grown hg146 (rowne (ng lt326))).grown hg152 (rowne (ng lt327))).grown hg192 nb).grown hg183 (rowne (ng lt328))
    have lt330 := ltt lt93 lt188
    have lt331 := ltt lt330 lt149
    have lt332 := ltt lt331 lt155
    have lt333 := ltt lt332 lt194
    have hk334 := (((((hk94.grown hg186 nb).grown hg140 (rowne (ng lt330))).grown hg146 (rowne (ng lt331))).grown hg152 (rowne (ng lt332))).grown hg192 nb).grown hg183 (rowne (ng lt333))
    have lt335 := ltt lt97 lt188
    have lt336 := ltt lt335 lt149
    have lt337 := ltt lt336 lt155
    have lt338 := ltt lt337 lt194
    have hk339 := (((((hk98.grown hg186 nb).grown hg140 (rowne (ng lt335))).grown hg146 (rowne (ng lt336))).grown hg152 (rowne (ng lt337))).grown hg192 nb).grown hg183 (rowne (ng lt338))
    have lt340 := ltt lt76 lt188
    have lt341 := ltt lt340 lt149
    have lt342 := ltt lt341 lt155
    have lt343 := ltt lt342 lt194
    have hk344 := (((((((hb61.grown hg66 (rowne (ng lt69))).grown hg72 (rowne (ng lt76))).grown hg186 nb).grown hg140 (rowne (ng lt340))).grown hg146 (rowne (ng lt341))).grown hg152 (rowne (ng lt342))).grown hg192 nb).grown hg183 (rowne (ng lt343))
    have lt345 := ltt lt75 lt188
    have lt346 := ltt lt345 lt149
    have lt347 := ltt lt346 lt155
    have lt348 := ltt lt347 lt194
    have hk349 := ((((((hb67.grown hg72 (rowne (ng lt75))).grown hg186 nb).grown hg140 (rowne (ng lt345))).grown hg146 (rowne (ng lt346))).grown hg152 (rowne (ng lt347))).grown hg192 nb).grown hg183 (rowne (ng lt348))
    have hg350 := (grown_trans (grown_trans hg123 hg129) hg135)
    have lt351 := ltt lt188 lt149
    have lt352 := ltt lt351 lt155
    have lt353 := ltt lt352 lt194
    have hk354 := (((((hk187.grown hg350 nb).grown hg140 (rowne (ng lt188))).grown hg146 (rowne (ng lt351))).grown hg152 (rowne (ng lt352))).grown hg192 nb).grown hg183 (rowne (ng lt353))
    have lt355 := ltt lt156 lt194
    have hk356 := (((hb141.grown hg146 (rowne (ng lt149))).grown hg152 (rowne (ng lt156))).grown hg192 nb).grown hg183 (rowne (ng lt355))
    have lt357 := ltt lt155 lt194
    have hk358 := ((hb147.grown hg152 (rowne (ng lt155))).grown hg192 nb).grown hg183 (rowne (ng lt357))
    have hk359 := (hk193.grown hg178 nb).grown hg183 (rowne (ng lt194))
    have hg360 := (grown_trans (grown_trans hg43 hg49) hg55)
    have ap361 : ¬ (fun k => blk a36 = some k) b41 := fun hx => nl ((lowb hbe45) _ rfl) ((fun k (hk : blk a36 = some k) => ho38.lt k hk) _ hx)
    have hk362 := ho38.grown hg43 (fun _ h => h.elim) nb
    have ap363 : ¬ (fun k => blk a36 = some k) b47 := fun hx => nl ((lowb hbe51) _ rfl) ((fun k (hk : blk a36 = some k) => hk362.lt k hk) _ hx)
    have hk364 := hk362.grown hg49 (fun _ h => h.elim) nb
    have ap365 : ¬ (fun k => blk a36 = some k) b53 := fun hx => nl ((lowb hbe57) _ rfl) ((fun k (hk : blk a36 = some k) => hk364.lt k hk) _ hx)
    have hk366 := ((((hk364.grown hg55 (fun _ h => h.elim) nb).grown hg60 (fun _ h => h.elim) (rdnn (rowne ap361))).grown hg66 (fun _ h => h.elim) (rdnn (rowne ap363))).grown hg72 (fun _ h => h.elim) (rdnn (rowne ap365))).grown hg112 (fun _ h => h.elim) nb
    have ap367 : ¬ (fun k => blk a36 = some k) b121 := fun hx => nl ((lowb hbe125) _ rfl) ((fun k (hk : blk a36 = some k) => hk366.lt k hk) _ hx)
    have hk368 := hk366.grown hg123 (fun _ h => h.elim) nb
    have ap369 : ¬ (fun k => blk a36 = some k) b127 := fun hx => nl ((lowb hbe131) _ rfl) ((fun k (hk : blk a36 = some k) => hk368.lt k hk) _ hx)
    have hk370 := hk368.grown hg129 (fun _ h => h.elim) nb
    have ap371 : ¬ (fun k => blk a36 = some k) b133 := fun hx => nl ((lowb hbe137) _ rfl) ((fun k (hk : blk a36 = some k) => hk370.lt k hk) _ hx)
    have hk372 := ((((hk370.grown hg135 (fun _ h => h.elim) nb).grown hg140 (fun _ h => h.elim) (rdnn (rowne ap367))).grown hg146 (fun _ h => h.elim) (rdnn (rowne ap369))).grown hg152 (fun _ h => h.elim) (rdnn (rowne ap371))).grown hg161 (fun _ h => h.elim) nb
    have ap373 : ¬ (fun k => blk a36 = some k) b176 := fun hx => nl ((lowb hbe180) _ rfl) ((fun k (hk : blk a36 = some k) => hk372.lt k hk) _ hx)
    have hk374 := (((((((((ho38.grown hg360 (fun _ h => h.elim) nb).grown hg60 (fun _ h => h.elim) (rdnn (rowne ap361))).grown hg66 (fun _ h => h.elim) (rdnn (rowne ap363))).grown hg72 (fun _ h => h.elim) (rdnn (rowne ap365))).grown hg186 (fun _ h => h.elim) nb).grown hg140 (fun _ h => h.elim) (rdnn (rowne ap367))).grown hg146 (fun _ h => h.elim) (rdnn (rowne ap369))).grown hg152 (fun _ h => h.elim) (rdnn (rowne ap371))).grown hg192 (fun _ h => h.elim) nb).grown hg183 (fun _ h => h.elim) (rdnn (rowne ap373))
    have ap375 : ¬ X117 b121 := fun hx => nl ((lowb hbe125) _ rfl) (hx119 _ hx)
    have hx376 := ltx hx119 hg350.size
    have hx377 := ltx hx119 hg123.size
    have ap378 : ¬ X117 b127 := fun hx => nl ((lowb hbe131) _ rfl) (hx377 _ hx)
    have hx379 := ltx hx376 hg140.size
    have hx380 := ltx hx377 hg129.size
    have ap381 : ¬ X117 b133 := fun hx => nl ((lowb hbe137) _ rfl) (hx380 _ hx)
    have hx382 := ltx hx379 hg146.size
    have hx383 := ltx hx382 hg152.size
    have hx384 := ltx hx383 hg161.size
    have ap385 : ¬ X117 b176 := fun hx => nl ((lowb hbe180) _ rfl) (hx384 _ hx)
    have hx386 := ltx hx384 hg178.size
    have hk387 := (((((ho116.grown hg350 hx119 nb).grown hg140 hx376 (rowne ap375)).grown hg146 hx379 (rowne ap378)).grown hg152 hx382 (rowne ap381)).grown hg192 hx383 nb).grown hg183 hx386 (rowne ap385)
    exact ⟨hB319, (Nat.le_refl _), hk196, hk329, hk334, hk339, hk344, hk349, hk354, hk356, hk358, hk359, hb184, hk374, hk387, hd, hs, ok_pick [4, 5, 6, 7, 9, 10, 11, 12, 13, 14, 15] hok (by kernel_rfl)⟩
  ·rintro a w198 ⟨hB388, hz389, hb390, hb391, hb392, hb393, hb394, hb395, hb396, hb397, hb398, hb399, hb400, hk401, hk402, hd, hs, hok⟩
   refine gv_in ?_ hd hs hok
   clear hd hs hok
   clear hk196 hk193 hg192 hk187 hg186 hz185 hb184 hz181 hb179 hc163 hr159 hz154 hb153 hk157 hz148 hb147 hk150 hb141 hb136 hb130 hb124 ho116
   refine gv_seq <| gv_region <| gv_loadBox (t := 29) (b := b176) (t' := 29) (fr := (0, 0)) #[(.int .i64 j197.1), (.int .i64 j197.2)] [] (fun e => by cases e) rfl rfl rfl (by kernel_rfl) (by kernel_rfl) (by kernel_rfl) (by kernel_rfl) (inw0 hb400) rfl ?_
   refine gv_new0 (fun b => .pointer (some ⟨b, 0, none⟩)) #[(.int .i64 0), (.int .i64 0)] 29 (by kernel_rfl) (by kernel_rfl) ?_
   intro b403 w404 hg405 hb406 hbe407 hz408
   refine gv_store0 29 0 (.agg #[(.int .i64 j197.1), (.int .i64 j197.2)]) #[(.int .i64 j197.1), (.int .i64 j197.2)] hb406 (by kernel_rfl) (by kernel_rfl) (by kernel_rfl) ?_
   intro w409 hg410 hb411 hz412
   refine gv_nil <| gv_seq <| gv_block <| gv_seq <| gv_region <| gv_pureN 1 [49] [(49, (bp b176))] (by kernel_rfl) ?_
   have lt413 := ltl ((ltb hb400) _ rfl) ((lowb hbe407) _ rfl)
   have hk414 := (hb400.grown hg405 nb).grown hg410 (rowne (ng lt413))
   refine gv_load (t := 3) (A := ⟨b176, 0, none⟩) (.int .i64 j197.1) [] (fun e => by cases e) rfl rfl rfl (by kernel_rfl) (by kernel_rfl) (by kernel_rfl) (inw0 (hk414.cell 0 rfl)) rfl ?_
   refine gv_pureN 2 [48, 51] [(48, (.bool (j197.1 != 0)))] (by kernel_rfl) ?_
   refine gv_nil <| bindE h0 ?_; clear h0; intro j415 h1 h0
   refine gv_cut_code (J := fun a w416 => Below w0.heap.size w0 w416 ∧ w409.heap.size ≤ w416.heap.size ∧ Box w416 b1 27 #[(.int .u64 g_0.1), (.int .u64 g_0.2)] ∧ Box w416 b7 24 #[(.bool n_1.1), (.slice pa1_0 (List.length n_1.2) pc1_0)] ∧ Box w416 b13 24 #[(.bool low_2.1), (.slice pa2_0 (List.length low_2.2) pc2_0)] ∧ Box w416 b19 24 #[(.bool high_3.1), (.slice pa3_0 (List.length high_3.2) pc3_0)] ∧ Box w416 b41 24 #[(.bool r29.1.1), (.slice a36 (List.length r29.1.2) c37)] ∧ Box w416 b47 27 #[(.int .u64 r29.2.1.1), (.int .u64 r29.2.1.2)] ∧ Box w416 b53 29 #[(.int .i64 r29.2.2.1), (.int .i64 r29.2.2.2)] ∧ Box w416 b121 24 #[(.bool r99.1.1), (.slice a114 (List.length r99.1.2) c115)] ∧ Box w416 b127 27 #[(.int .u64 r99.2.1.1), (.int .u64 r99.2.1.2)] ∧ Box w416 b133 29 #[(.int .i64 r99.2.2.1), (.int .i64 r99.2.2.2)] ∧ Box w416 b176 29 #[(.int .i64 j415.1), (.int .i64 j415.2)] ∧ Box w416 b403 29 #[(.int .i64 j197.1), (.int .i64 j197.2)] ∧ Own (iE .u32) 76 w416 (fun _ => False) a36 c37 r29.1.2 ∧ Rd (iE .u32) w416 X117 a114 c115 r99.1.2 ∧ a.defers = [] ∧ a.tmps.size = 187 ∧ Ok [(4, (bp b1)), (5, (bp b7)), (6, (bp b13)), (7, (bp b19)), (9, (bp b41)), (10, (bp b47)), (11, (bp b53)), (12, (bp b121)), (13, (bp b127)), (14, (bp b133)), (15, (bp b176)), (16, (bp b403))] a.tmps) ?_ ?_
   ·skip
    refine gv_cond (b := (j197.1 != 0)) (by kernel_rfl) (fun hc417 => ?_) (fun hc417 => ?_)
    ·replace h1 := ite_t hc417 h1
     refine gv_skip ?_
     have e := sj h1; subst e
     refine gv_goal fun a hd hs hok => ?_
     have hB418 := bg hB388 hg405 nb
     have hlo419 : w0.heap.size ≤ b403 := lob hbe407 hB388.size
     have hB420 := bg hB418 hg410 (rowlo hlo419)
     have lt421 := ltt lt195 lt413
     have hk422 := (hb390.grown hg405 nb).grown hg410 (rowne (ng lt421))
     have lt423 := ltt lt80 lt82
     have lt424 := ltt lt423 lt85
     have lt425 := ltt lt424 lt69
     have lt426 := ltt lt425 lt75
     have lt427 := ltt lt426 lt188
     have lt428 := ltt lt427 lt149
     have lt429 := ltt lt428 lt155
     have lt430 := ltt lt429 lt194
     have lt431 := ltt lt430 lt413
     have hk432 := (hb391.grown hg405 nb).grown hg410 (rowne (ng lt431))
     have lt433 := ltt lt93 lt188
     have lt434 := ltt lt433 lt149
     have lt435 := ltt lt434 lt155
     have lt436 := ltt lt435 lt194
     have lt437 := ltt lt436 lt413
     have hk438 := (hb392.grown hg405 nb).grown hg410 (rowne (ng lt437))
     have lt439 := ltt lt97 lt188
     have lt440 := ltt lt439 lt149
     have lt441 := ltt lt440 lt155
     have lt442 := ltt lt441 lt194
     have lt443 := ltt lt442 lt413
     have hk444 := (hb393.grown hg405 nb).grown hg410 (rowne (ng lt443))
     have lt445 := ltt lt76 lt188
     have lt446 := ltt lt445 lt149
     have lt447 := ltt lt446 lt155
     have lt448 := ltt lt447 lt194
     have lt449 := ltt lt448 lt413
     have hk450 := (hb394.grown hg405 nb).grown hg410 (rowne (ng lt449))
     have lt451 := ltt lt75 lt188
     have lt452 := ltt lt451 lt149
     have lt453 := ltt lt452 lt155
     have lt454 := ltt lt453 lt194
     have lt455 := ltt lt454 lt413
     have hk456 := (hb395.grown hg405 nb).grown hg410 (rowne (ng lt455))
     have lt457 := ltt lt188 lt149
     have lt458 := ltt lt457 lt155
     have lt459 := ltt lt458 lt194
     have lt460 := ltt lt459 lt413
     have hk461 := (hb396.grown hg405 nb).grown hg410 (rowne (ng lt460))
     have lt462 := ltt lt156 lt194
     have lt463 := ltt lt462 lt413
     have hk464 := (hb397.grown hg405 nb).grown hg410 (rowne (ng lt463))
     have lt465 := ltt lt155 lt194
     have lt466 := ltt lt465 lt413
     have hk467 := (hb398.grown hg405 nb).grown hg410 (rowne (ng lt466))
     have lt468 := ltt lt194 lt413
     have hk469 := (hb399.grown hg405 nb).grown hg410 (rowne (ng lt468))
     have ap470 : ¬ (fun k => blk a36 = some k) b403 := fun hx => nl ((lowb hbe407) _ rfl) ((fun k (hk : blk a36 = some k) => hk401.lt k hk) _ hx)
     have hk471 := (hk401.grown hg405 (fun _ h => h.elim) nb).grown hg410 (fun _ h => h.elim) (rdnn (rowne ap470))
     have hg472 := (grown_trans (grown_trans hg123 hg129) hg135)
     have hg473 := (grown_trans hg161 hg178)
     have hx474 := ltx (ltx (ltx (ltx (ltx (ltx hx119 hg472.size) hg140.size) hg146.size) hg152.size) hg473.size) hg183.size
     have ap475 : ¬ X117 b403 := fun hx => nl ((lowb hbe407) _ rfl) ((fun k hk => ltl (hx474 k hk) hz389) _ hx)
     have hx476 := ltx (fun k hk => ltl (hx474 k hk) hz389) hg405.size
     have hk477 := (hk402.grown hg405 (fun k hk => ltl (hx474 k hk) hz389) nb).grown hg410 hx476 (rowne ap475)
     exact ⟨hB420, (Nat.le_refl _), hk422, hk432, hk438, hk444, hk450, hk456, hk461, hk464, hk467, hk469, hk414, hb411, hk471, hk477, hd, hs, ok_pick [4, 5, 6, 7, 9, 10, 11, 12, 13, 14, 15, 16] hok (by kernel_rfl)⟩
    ·replace h1 := ite_f hc417 h1
     refine gv_seq <| gv_region ?_
     have lt478 := ltt lt80 lt82
     have lt479 := ltt lt478 lt85
     have lt480 := ltt lt479 lt69
     have lt481 := ltt lt480 lt75
     have lt482 := ltt lt481 lt188
     have lt483 := ltt lt482 lt149
     have lt484 := ltt lt483 lt155
     have lt485 := ltt lt484 lt194
     have lt486 := ltt lt485 lt413
     have hk487 := (hb391.grown hg405 nb).grown hg410 (rowne (ng lt486))
     refine gv_loadBox (t := 24) (b := b7) (t' := 24) (fr := (0, 0)) #[(.bool n_1.1), (.slice pa1_0 (List.length n_1.2) pc1_0)] [] (fun e => by cases e) rfl rfl rfl (by kernel_rfl) (by kernel_rfl) (by kernel_rfl) (by kernel_rfl) (inw0 hk487) rfl ?_
     refine bindE h1 ?_; clear h1; intro r488 hr489 h1
     have hB490 := bg hB388 hg405 nb
     have hlo491 : w0.heap.size ≤ b403 := lob hbe407 hB388.size
     have hB492 := bg hB490 hg410 (rowlo hlo491)
     refine gv_call0 (by kernel_rfl) rfl (by kernel_rfl) enters12 (ref3_IntOk_ok fuel pa1_0 pc1_0 (n_1.1, n_1.2) w409 (fun k => X0 k) (fun k hk => (fun k (hk : X0 k) => ltl (hX0 k hk) hB492.size) k hk) ((hpa1_0.below hB492 hX0).wide (fun k hk => hk)) r488 hr489) ?_
     rintro v495 w493 ⟨hg494, rfl⟩
     refine gv_pureN 2 [52, 55] [(52, (.bool (!r488)))] (by kernel_rfl) ?_
     refine gv_nil <| gv_cond (b := (!r488)) (by kernel_rfl) (fun hc496 => ?_) (fun hc496 => ?_)
     ·replace h1 := ite_t hc496 h1
      refine gv_region <| bindE h1 ?_; clear h1; intro r497 hr498 h1
      refine gv_call0 (by kernel_rfl) rfl (by kernel_rfl) enters13 (ref4_At_ok fuel 6 (-2) w493  r497 hr498) ?_
      rintro v501 w499 ⟨hg500, rfl⟩
      have hg506 := (grown_trans hg494 hg500)
      have hk507 := hk414.grown hg506 nb
      refine gv_store0 29 0 (.agg #[(.int .i64 r497.1), (.int .i64 r497.2)]) #[(.int .i64 r497.1), (.int .i64 r497.2)] hk507 (by kernel_rfl) (by kernel_rfl) (by kernel_rfl) ?_
      intro w502 hg503 hb504 hz505
      refine gv_nil ?_
      have e := sj h1; subst e
      refine gv_goal fun a hd hs hok => ?_
      have hB508 := bg hB492 hg506 nb
      have hg509 := (grown_trans (grown_trans (grown_trans hg112 hg123) hg129) hg135)
      have hB510 := bg hB110 hg509 nb
      have hB511 := bg hB110 hg112 nb
      have hlo512 : w0.heap.size ≤ b121 := lob hbe125 hB511.size
      have hB513 := bg hB510 hg140 (rowlo hlo512)
      have hB514 := bg hB511 hg123 nb
      have hlo515 : w0.heap.size ≤ b127 := lob hbe131 hB514.size
      have hB516 := bg hB513 hg146 (rowlo hlo515)
      have hB517 := bg hB514 hg129 nb
      have hlo518 : w0.heap.size ≤ b133 := lob hbe137 hB517.size
      have hB519 := bg hB516 hg152 (rowlo hlo518)
      have hB520 := bg hB519 hg161 nb
      have hlo521 : w0.heap.size ≤ b176 := lob hbe180 hB520.size
      have hB522 := bg hB508 hg503 (rowlo hlo521)
      have hz523 := (nt (nt hg494.size hg500.size) hg503.size)
      have lt524 := ltt lt195 lt413
      have hk525 := (((hb390.grown hg405 nb).grown hg410 (rowne (ng lt524))).grown hg506 nb).grown hg503 (rowne (ng lt195))
      have hk526 := (hk487.grown hg506 nb).grown hg503 (rowne (ng lt485))
      have lt527 := ltt lt93 lt188
      have lt528 := ltt lt527 lt149
      have lt529 := ltt lt528 lt155
      have lt530 := ltt lt529 lt194
      have lt531 := ltt lt530 lt413
      have hk532 := (((hb392.grown hg405 nb).grown hg410 (rowne (ng lt531))).grown hg506 nb).grown hg503 (rowne (ng lt530))
      have lt533 := ltt lt97 lt188
      have lt534 := ltt lt533 lt149
      have lt535 := ltt lt534 lt155
      have lt536 := ltt lt535 lt194
      have lt537 := ltt lt536 lt413
      have hk538 := (((hb393.grown hg405 nb).grown hg410 (rowne (ng lt537))).grown hg506 nb).grown hg503 (rowne (ng lt536))
      have lt539 := ltt lt76 lt188
      have lt540 := ltt lt539 lt149
      have lt541 := ltt lt540 lt155
      have lt542 := ltt lt541 lt194
      have lt543 := ltt lt542 lt413
      have hk544 := (((hb394.grown hg405 nb).grown hg410 (rowne (ng lt543))).grown hg506 nb).grown hg503 (rowne (ng lt542))
      have lt545 := ltt lt75 lt188
      have lt546 := ltt lt545 lt149
      have lt547 := ltt lt546 lt155
      have lt548 := ltt lt547 lt194
      have lt549 := ltt lt548 lt413
      have hk550 := (((hb395.grown hg405 nb).grown hg410 (rowne (ng lt549))).grown hg506 nb).grown hg503 (rowne (ng lt548))
      have lt551 := ltt lt188 lt149
      have lt552 := ltt lt551 lt155
      have lt553 := ltt lt552 lt194
      have lt554 := ltt lt553 lt413
      have hk555 := (((hb396.grown hg405 nb).grown hg410 (rowne (ng lt554))).grown hg506 nb).grown hg503 (rowne (ng lt553))
      have lt556 := ltt lt156 lt194
      have lt557 := ltt lt556 lt413
      have hk558 := (((hb397.grown hg405 nb).grown hg410 (rowne (ng lt557))).grown hg506 nb).grown hg503 (rowne (ng lt556))
      have lt559 := ltt lt155 lt194
      have lt560 := ltt lt559 lt413
      have hk561 := (((hb398.grown hg405 nb).grown hg410 (rowne (ng lt560))).grown hg506 nb).grown hg503 (rowne (ng lt559))
      have lt562 := ltt lt194 lt413
      have hk563 := (((hb399.grown hg405 nb).grown hg410 (rowne (ng lt562))).grown hg506 nb).grown hg503 (rowne (ng lt194))
      have hk564 := (hb411.grown hg506 nb).grown hg503 (rowne (Nat.ne_of_lt lt413))
      have ap565 : ¬ (fun k => blk a36 = some k) b403 := fun hx => nl ((lowb hbe407) _ rfl) ((fun k (hk : blk a36 = some k) => hk401.lt k hk) _ hx)
      have hg566 := (grown_trans (grown_trans hg43 hg49) hg55)
      have ap567 : ¬ (fun k => blk a36 = some k) b41 := fun hx => nl ((lowb hbe45) _ rfl) ((fun k (hk : blk a36 = some k) => ho38.lt k hk) _ hx)
      have hk568 := ho38.grown hg43 (fun _ h => h.elim) nb
      have ap569 : ¬ (fun k => blk a36 = some k) b47 := fun hx => nl ((lowb hbe51) _ rfl) ((fun k (hk : blk a36 = some k) => hk568.lt k hk) _ hx)
      have hk570 := hk568.grown hg49 (fun _ h => h.elim) nb
      have ap571 : ¬ (fun k => blk a36 = some k) b53 := fun hx => nl ((lowb hbe57) _ rfl) ((fun k (hk : blk a36 = some k) => hk570.lt k hk) _ hx)
      have hk572 := ((((hk570.grown hg55 (fun _ h => h.elim) nb).grown hg60 (fun _ h => h.elim) (rdnn (rowne ap567))).grown hg66 (fun _ h => h.elim) (rdnn (rowne ap569))).grown hg72 (fun _ h => h.elim) (rdnn (rowne ap571))).grown hg112 (fun _ h => h.elim) nb
      have ap573 : ¬ (fun k => blk a36 = some k) b121 := fun hx => nl ((lowb hbe125) _ rfl) ((fun k (hk : blk a36 = some k) => hk572.lt k hk) _ hx)
      have hk574 := hk572.grown hg123 (fun _ h => h.elim) nb
      have ap575 : ¬ (fun k => blk a36 = some k) b127 := fun hx => nl ((lowb hbe131) _ rfl) ((fun k (hk : blk a36 = some k) => hk574.lt k hk) _ hx)
      have hk576 := hk574.grown hg129 (fun _ h => h.elim) nb
      have ap577 : ¬ (fun k => blk a36 = some k) b133 := fun hx => nl ((lowb hbe137) _ rfl) ((fun k (hk : blk a36 = some k) => hk576.lt k hk) _ hx)
      have hk578 := ((((((((ho38.grown hg566 (fun _ h => h.elim) nb).grown hg60 (fun _ h => h.elim) (rdnn (rowne ap567))).grown hg66 (fun _ h => h.elim) (rdnn (rowne ap569))).grown hg72 (fun _ h => h.elim) (rdnn (rowne ap571))).grown hg509 (fun _ h => h.elim) nb).grown hg140 (fun _ h => h.elim) (rdnn (rowne ap573))).grown hg146 (fun _ h => h.elim) (rdnn (rowne ap575))).grown hg152 (fun _ h => h.elim) (rdnn (rowne ap577))).grown hg161 (fun _ h => h.elim) nb
      have ap579 : ¬ (fun k => blk a36 = some k) b176 := fun hx => nl ((lowb hbe180) _ rfl) ((fun k (hk : blk a36 = some k) => hk578.lt k hk) _ hx)
      have hk580 := (((hk401.grown hg405 (fun _ h => h.elim) nb).grown hg410 (fun _ h => h.elim) (rdnn (rowne ap565))).grown hg506 (fun _ h => h.elim) nb).grown hg503 (fun _ h => h.elim) (rdnn (rowne ap579))
      have hg581 := (grown_trans (grown_trans hg123 hg129) hg135)
      have hg582 := (grown_trans hg161 hg178)
      have hx583 := ltx (ltx (ltx (ltx (ltx (ltx hx119 hg581.size) hg140.size) hg146.size) hg152.size) hg582.size) hg183.size
      have ap584 : ¬ X117 b403 := fun hx => nl ((lowb hbe407) _ rfl) ((fun k hk => ltl (hx583 k hk) hz389) _ hx)
      have hx585 := ltx (fun k hk => ltl (hx583 k hk) hz389) hg405.size
      have hx586 := ltx hx585 hg410.size
      have hx587 := ltx (ltx (ltx (ltx (ltx hx119 hg581.size) hg140.size) hg146.size) hg152.size) hg161.size
      have ap588 : ¬ X117 b176 := fun hx => nl ((lowb hbe180) _ rfl) (hx587 _ hx)
      have hx589 := ltx hx586 hg506.size
      have hk590 := (((hk402.grown hg405 (fun k hk => ltl (hx583 k hk) hz389) nb).grown hg410 hx585 (rowne ap584)).grown hg506 hx586 nb).grown hg503 hx589 (rowne ap588)
      exact ⟨hB522, hz523, hk525, hk526, hk532, hk538, hk544, hk550, hk555, hk558, hk561, hk563, hb504, hk564, hk580, hk590, hd, hs, ok_pick [4, 5, 6, 7, 9, 10, 11, 12, 13, 14, 15, 16] hok (by kernel_rfl)⟩
     ·replace h1 := ite_f hc496 h1
      refine gv_seq <| gv_region <| bindE h1 ?_; clear h1; intro j591 h2 h1
      refine gv_cut_ops (J := fun a w592 => Below w0.heap.size w0 w592 ∧ w493.heap.size ≤ w592.heap.size ∧ Box w592 b1 27 #[(.int .u64 g_0.1), (.int .u64 g_0.2)] ∧ Box w592 b7 24 #[(.bool n_1.1), (.slice pa1_0 (List.length n_1.2) pc1_0)] ∧ Box w592 b13 24 #[(.bool low_2.1), (.slice pa2_0 (List.length low_2.2) pc2_0)] ∧ Box w592 b19 24 #[(.bool high_3.1), (.slice pa3_0 (List.length high_3.2) pc3_0)] ∧ Box w592 b41 24 #[(.bool r29.1.1), (.slice a36 (List.length r29.1.2) c37)] ∧ Box w592 b47 27 #[(.int .u64 r29.2.1.1), (.int .u64 r29.2.1.2)] ∧ Box w592 b53 29 #[(.int .i64 r29.2.2.1), (.int .i64 r29.2.2.2)] ∧ Box w592 b121 24 #[(.bool r99.1.1), (.slice a114 (List.length r99.1.2) c115)] ∧ Box w592 b127 27 #[(.int .u64 r99.2.1.1), (.int .u64 r99.2.1.2)] ∧ Box w592 b133 29 #[(.int .i64 r99.2.2.1), (.int .i64 r99.2.2.2)] ∧ Box w592 b176 29 #[(.int .i64 j197.1), (.int .i64 j197.2)] ∧ Box w592 b403 29 #[(.int .i64 j197.1), (.int .i64 j197.2)] ∧ Own (iE .u32) 76 w592 (fun _ => False) a36 c37 r29.1.2 ∧ Rd (iE .u32) w592 X117 a114 c115 r99.1.2 ∧ a.defers = [] ∧ a.tmps.size = 187 ∧ Ok [(4, (bp b1)), (5, (bp b7)), (6, (bp b13)), (7, (bp b19)), (9, (bp b41)), (10, (bp b47)), (11, (bp b53)), (12, (bp b121)), (13, (bp b127)), (14, (bp b133)), (15, (bp b176)), (16, (bp b403)), (57, (.bool j591))] a.tmps) ?_ ?_
      ·skip
       refine gv_pureN 1 [58] [(58, (bp b7))] (by kernel_rfl) ?_
       have hk593 := hk487.grown hg494 nb
       refine gv_load (t := 4) (A := ⟨b7, 0, none⟩) (.bool n_1.1) [] (fun e => by cases e) rfl rfl rfl (by kernel_rfl) (by kernel_rfl) (by kernel_rfl) (inw0 (hk593.cell 0 rfl)) rfl ?_
       refine gv_pureN 1 [60] [(60, (.bool n_1.1))] (by kernel_rfl) ?_
       refine gv_split (s := 60) (g := n_1.1) (by kernel_rfl) (fun hc594 => ?_) (fun hc594 => ?_)
       ·skip
        replace h2 := ite_t hc594 h2
        refine gv_pureN 4 [57, 61, 62, 63] [(57, (.bool true))] (by kernel_rfl) ?_
        refine gv_nil ?_
        have e := sj h2; subst e
        refine gv_goal fun a hd hs hok => ?_
        have hB595 := bg hB492 hg494 nb
        have lt596 := ltt lt195 lt413
        have hk597 := ((hb390.grown hg405 nb).grown hg410 (rowne (ng lt596))).grown hg494 nb
        have lt598 := ltt lt93 lt188
        have lt599 := ltt lt598 lt149
        have lt600 := ltt lt599 lt155
        have lt601 := ltt lt600 lt194
        have lt602 := ltt lt601 lt413
        have hk603 := ((hb392.grown hg405 nb).grown hg410 (rowne (ng lt602))).grown hg494 nb
        have lt604 := ltt lt97 lt188
        have lt605 := ltt lt604 lt149
        have lt606 := ltt lt605 lt155
        have lt607 := ltt lt606 lt194
        have lt608 := ltt lt607 lt413
        have hk609 := ((hb393.grown hg405 nb).grown hg410 (rowne (ng lt608))).grown hg494 nb
        have lt610 := ltt lt76 lt188
        have lt611 := ltt lt610 lt149
        have lt612 := ltt lt611 lt155
        have lt613 := ltt lt612 lt194
        have lt614 := ltt lt613 lt413
        have hk615 := ((hb394.grown hg405 nb).grown hg410 (rowne (ng lt614))).grown hg494 nb
        have lt616 := ltt lt75 lt188
        have lt617 := ltt lt616 lt149
        have lt618 := ltt lt617 lt155
        have lt619 := ltt lt618 lt194
        have lt620 := ltt lt619 lt413
        have hk621 := ((hb395.grown hg405 nb).grown hg410 (rowne (ng lt620))).grown hg494 nb
        have lt622 := ltt lt188 lt149
        have lt623 := ltt lt622 lt155
        have lt624 := ltt lt623 lt194
        have lt625 := ltt lt624 lt413
        have hk626 := ((hb396.grown hg405 nb).grown hg410 (rowne (ng lt625))).grown hg494 nb
        have lt627 := ltt lt156 lt194
        have lt628 := ltt lt627 lt413
        have hk629 := ((hb397.grown hg405 nb).grown hg410 (rowne (ng lt628))).grown hg494 nb
        have lt630 := ltt lt155 lt194
        have lt631 := ltt lt630 lt413
        have hk632 := ((hb398.grown hg405 nb).grown hg410 (rowne (ng lt631))).grown hg494 nb
        have lt633 := ltt lt194 lt413
        have hk634 := ((hb399.grown hg405 nb).grown hg410 (rowne (ng lt633))).grown hg494 nb
        have hk635 := hk414.grown hg494 nb
        have hk636 := hb411.grown hg494 nb
        have ap637 : ¬ (fun k => blk a36 = some k) b403 := fun hx => nl ((lowb hbe407) _ rfl) ((fun k (hk : blk a36 = some k) => hk401.lt k hk) _ hx)
        have hk638 := ((hk401.grown hg405 (fun _ h => h.elim) nb).grown hg410 (fun _ h => h.elim) (rdnn (rowne ap637))).grown hg494 (fun _ h => h.elim) nb
        have hg639 := (grown_trans (grown_trans hg123 hg129) hg135)
        have hg640 := (grown_trans hg161 hg178)
        have hx641 := ltx (ltx (ltx (ltx (ltx (ltx hx119 hg639.size) hg140.size) hg146.size) hg152.size) hg640.size) hg183.size
        have ap642 : ¬ X117 b403 := fun hx => nl ((lowb hbe407) _ rfl) ((fun k hk => ltl (hx641 k hk) hz389) _ hx)
        have hx643 := ltx (fun k hk => ltl (hx641 k hk) hz389) hg405.size
        have hx644 := ltx hx643 hg410.size
        have hk645 := ((hk402.grown hg405 (fun k hk => ltl (hx641 k hk) hz389) nb).grown hg410 hx643 (rowne ap642)).grown hg494 hx644 nb
        exact ⟨hB595, (Nat.le_refl _), hk597, hk593, hk603, hk609, hk615, hk621, hk626, hk629, hk632, hk634, hk635, hk636, hk638, hk645, hd, hs, ok_pick [4, 5, 6, 7, 9, 10, 11, 12, 13, 14, 15, 16, 57] hok (by kernel_rfl)⟩
       ·skip
        replace h2 := ite_f hc594 h2
        refine gv_loadBox (t := 24) (b := b7) (t' := 24) (fr := (0, 0)) #[(.bool n_1.1), (.slice pa1_0 (List.length n_1.2) pc1_0)] [] (fun e => by cases e) rfl rfl rfl (by kernel_rfl) (by kernel_rfl) (by kernel_rfl) (by kernel_rfl) (inw0 hk593) rfl ?_
        refine bindE h2 ?_; clear h2; intro r646 hr647 h2
        have hB648 := bg hB492 hg494 nb
        refine gv_call0 (by kernel_rfl) rfl (by kernel_rfl) enters18 (ref3_NoInt_ok fuel pa1_0 pc1_0 (n_1.1, n_1.2) w493 (fun k => X0 k) (fun k hk => (fun k (hk : X0 k) => ltl (hX0 k hk) hB648.size) k hk) ((hpa1_0.below hB648 hX0).wide (fun k hk => hk)) r646 hr647) ?_
        rintro v651 w649 ⟨hg650, rfl⟩
        refine gv_pureN 2 [57, 63] [(57, (.bool r646))] (by kernel_rfl) ?_
        refine gv_sub [4, 5, 6, 7, 9, 10, 11, 12, 13, 14, 15, 16, 57] (σ' := [(4, (bp b1)), (5, (bp b7)), (6, (bp b13)), (7, (bp b19)), (9, (bp b41)), (10, (bp b47)), (11, (bp b53)), (12, (bp b121)), (13, (bp b127)), (14, (bp b133)), (15, (bp b176)), (16, (bp b403)), (57, (.bool r646))]) (by kernel_rfl) ?_
        refine gv_nil ?_
        have e := sj h2; subst e
        refine gv_goal fun a hd hs hok => ?_
        have hB652 := bg hB648 hg650 nb
        have hz653 := hg650.size
        have lt654 := ltt lt195 lt413
        have hg655 := (grown_trans hg494 hg650)
        have hk656 := ((hb390.grown hg405 nb).grown hg410 (rowne (ng lt654))).grown hg655 nb
        have hk657 := hk593.grown hg650 nb
        have lt658 := ltt lt93 lt188
        have lt659 := ltt lt658 lt149
        have lt660 := ltt lt659 lt155
        have lt661 := ltt lt660 lt194
        have lt662 := ltt lt661 lt413
        have hk663 := ((hb392.grown hg405 nb).grown hg410 (rowne (ng lt662))).grown hg655 nb
        have lt664 := ltt lt97 lt188
        have lt665 := ltt lt664 lt149
        have lt666 := ltt lt665 lt155
        have lt667 := ltt lt666 lt194
        have lt668 := ltt lt667 lt413
        have hk669 := ((hb393.grown hg405 nb).grown hg410 (rowne (ng lt668))).grown hg655 nb
        have lt670 := ltt lt76 lt188
        have lt671 := ltt lt670 lt149
        have lt672 := ltt lt671 lt155
        have lt673 := ltt lt672 lt194
        have lt674 := ltt lt673 lt413
        have hk675 := ((hb394.grown hg405 nb).grown hg410 (rowne (ng lt674))).grown hg655 nb
        have lt676 := ltt lt75 lt188
        have lt677 := ltt lt676 lt149
        have lt678 := ltt lt677 lt155
        have lt679 := ltt lt678 lt194
        have lt680 := ltt lt679 lt413
        have hk681 := ((hb395.grown hg405 nb).grown hg410 (rowne (ng lt680))).grown hg655 nb
        have lt682 := ltt lt188 lt149
        have lt683 := ltt lt682 lt155
        have lt684 := ltt lt683 lt194
        have lt685 := ltt lt684 lt413
        have hk686 := ((hb396.grown hg405 nb).grown hg410 (rowne (ng lt685))).grown hg655 nb
        have lt687 := ltt lt156 lt194
        have lt688 := ltt lt687 lt413
        have hk689 := ((hb397.grown hg405 nb).grown hg410 (rowne (ng lt688))).grown hg655 nb
        have lt690 := ltt lt155 lt194
        have lt691 := ltt lt690 lt413
        have hk692 := ((hb398.grown hg405 nb).grown hg410 (rowne (ng lt691))).grown hg655 nb
        have lt693 := ltt lt194 lt413
        have hk694 := ((hb399.grown hg405 nb).grown hg410 (rowne (ng lt693))).grown hg655 nb
        have hk695 := hk414.grown hg655 nb
        have hk696 := hb411.grown hg655 nb
        have ap697 : ¬ (fun k => blk a36 = some k) b403 := fun hx => nl ((lowb hbe407) _ rfl) ((fun k (hk : blk a36 = some k) => hk401.lt k hk) _ hx)
        have hk698 := ((hk401.grown hg405 (fun _ h => h.elim) nb).grown hg410 (fun _ h => h.elim) (rdnn (rowne ap697))).grown hg655 (fun _ h => h.elim) nb
        have hg699 := (grown_trans (grown_trans hg123 hg129) hg135)
        have hg700 := (grown_trans hg161 hg178)
        have hx701 := ltx (ltx (ltx (ltx (ltx (ltx hx119 hg699.size) hg140.size) hg146.size) hg152.size) hg700.size) hg183.size
        have ap702 : ¬ X117 b403 := fun hx => nl ((lowb hbe407) _ rfl) ((fun k hk => ltl (hx701 k hk) hz389) _ hx)
        have hx703 := ltx (fun k hk => ltl (hx701 k hk) hz389) hg405.size
        have hx704 := ltx hx703 hg410.size
        have hk705 := ((hk402.grown hg405 (fun k hk => ltl (hx701 k hk) hz389) nb).grown hg410 hx703 (rowne ap702)).grown hg655 hx704 nb
        exact ⟨hB652, hz653, hk656, hk657, hk663, hk669, hk675, hk681, hk686, hk689, hk692, hk694, hk695, hk696, hk698, hk705, hd, hs, ok_pick [4, 5, 6, 7, 9, 10, 11, 12, 13, 14, 15, 16, 57] hok (by kernel_rfl)⟩
      ·rintro a w592 ⟨hB706, hz707, hb708, hb709, hb710, hb711, hb712, hb713, hb714, hb715, hb716, hb717, hb718, hb719, hk720, hk721, hd, hs, hok⟩
       refine gv_in ?_ hd hs hok
       clear hd hs hok
       have hz722 := (nt hg494.size hz707)
       clear hc496 hB492 hB490 hr489 hk487 hc417 hk414 hz412 hb411 hz408 hb406 hk402 hb400 hb399 hb398 hb397 hb396 hb395 hb394 hb393 hb392 hb391 hb390 hB388
       refine gv_cond (b := j591) (by kernel_rfl) (fun hc723 => ?_) (fun hc723 => ?_)
       ·replace h1 := ite_t hc723 h1
        refine gv_region <| bindE h1 ?_; clear h1; intro r724 hr725 h1
        refine gv_call0 (by kernel_rfl) rfl (by kernel_rfl) enters13 (ref4_At_ok fuel 4 (-2) w592  r724 hr725) ?_
        rintro v728 w726 ⟨hg727, rfl⟩
        have hk733 := hb718.grown hg727 nb
        refine gv_store0 29 0 (.agg #[(.int .i64 r724.1), (.int .i64 r724.2)]) #[(.int .i64 r724.1), (.int .i64 r724.2)] hk733 (by kernel_rfl) (by kernel_rfl) (by kernel_rfl) ?_
        intro w729 hg730 hb731 hz732
        refine gv_nil ?_
        have e := sj h1; subst e
        refine gv_goal fun a hd hs hok => ?_
        have hB734 := bg hB706 hg727 nb
        have hg735 := (grown_trans (grown_trans (grown_trans hg112 hg123) hg129) hg135)
        have hB736 := bg hB110 hg735 nb
        have hB737 := bg hB110 hg112 nb
        have hlo738 : w0.heap.size ≤ b121 := lob hbe125 hB737.size
        have hB739 := bg hB736 hg140 (rowlo hlo738)
        have hB740 := bg hB737 hg123 nb
        have hlo741 : w0.heap.size ≤ b127 := lob hbe131 hB740.size
        have hB742 := bg hB739 hg146 (rowlo hlo741)
        have hB743 := bg hB740 hg129 nb
        have hlo744 : w0.heap.size ≤ b133 := lob hbe137 hB743.size
        have hB745 := bg hB742 hg152 (rowlo hlo744)
        have hB746 := bg hB745 hg161 nb
        have hlo747 : w0.heap.size ≤ b176 := lob hbe180 hB746.size
        have hB748 := bg hB734 hg730 (rowlo hlo747)
        have hz749 := (nt (nt hz722 hg727.size) hg730.size)
        have hk750 := (hb708.grown hg727 nb).grown hg730 (rowne (ng lt195))
        have hk751 := (hb709.grown hg727 nb).grown hg730 (rowne (ng lt485))
        have lt752 := ltt lt93 lt188
        have lt753 := ltt lt752 lt149
        have lt754 := ltt lt753 lt155
        have lt755 := ltt lt754 lt194
        have hk756 := (hb710.grown hg727 nb).grown hg730 (rowne (ng lt755))
        have lt757 := ltt lt97 lt188
        have lt758 := ltt lt757 lt149
        have lt759 := ltt lt758 lt155
        have lt760 := ltt lt759 lt194
        have hk761 := (hb711.grown hg727 nb).grown hg730 (rowne (ng lt760))
        have lt762 := ltt lt76 lt188
        have lt763 := ltt lt762 lt149
        have lt764 := ltt lt763 lt155
        have lt765 := ltt lt764 lt194
        have hk766 := (hb712.grown hg727 nb).grown hg730 (rowne (ng lt765))
        have lt767 := ltt lt75 lt188
        have lt768 := ltt lt767 lt149
        have lt769 := ltt lt768 lt155
        have lt770 := ltt lt769 lt194
        have hk771 := (hb713.grown hg727 nb).grown hg730 (rowne (ng lt770))
        have lt772 := ltt lt188 lt149
        have lt773 := ltt lt772 lt155
        have lt774 := ltt lt773 lt194
        have hk775 := (hb714.grown hg727 nb).grown hg730 (rowne (ng lt774))
        have lt776 := ltt lt156 lt194
        have hk777 := (hb715.grown hg727 nb).grown hg730 (rowne (ng lt776))
        have lt778 := ltt lt155 lt194
        have hk779 := (hb716.grown hg727 nb).grown hg730 (rowne (ng lt778))
        have hk780 := (hb717.grown hg727 nb).grown hg730 (rowne (ng lt194))
        have hk781 := (hb719.grown hg727 nb).grown hg730 (rowne (Nat.ne_of_lt lt413))
        have hg782 := (grown_trans (grown_trans hg43 hg49) hg55)
        have ap783 : ¬ (fun k => blk a36 = some k) b41 := fun hx => nl ((lowb hbe45) _ rfl) ((fun k (hk : blk a36 = some k) => ho38.lt k hk) _ hx)
        have hk784 := ho38.grown hg43 (fun _ h => h.elim) nb
        have ap785 : ¬ (fun k => blk a36 = some k) b47 := fun hx => nl ((lowb hbe51) _ rfl) ((fun k (hk : blk a36 = some k) => hk784.lt k hk) _ hx)
        have hk786 := hk784.grown hg49 (fun _ h => h.elim) nb
        have ap787 : ¬ (fun k => blk a36 = some k) b53 := fun hx => nl ((lowb hbe57) _ rfl) ((fun k (hk : blk a36 = some k) => hk786.lt k hk) _ hx)
        have hk788 := ((((hk786.grown hg55 (fun _ h => h.elim) nb).grown hg60 (fun _ h => h.elim) (rdnn (rowne ap783))).grown hg66 (fun _ h => h.elim) (rdnn (rowne ap785))).grown hg72 (fun _ h => h.elim) (rdnn (rowne ap787))).grown hg112 (fun _ h => h.elim) nb
        have ap789 : ¬ (fun k => blk a36 = some k) b121 := fun hx => nl ((lowb hbe125) _ rfl) ((fun k (hk : blk a36 = some k) => hk788.lt k hk) _ hx)
        have hk790 := hk788.grown hg123 (fun _ h => h.elim) nb
        have ap791 : ¬ (fun k => blk a36 = some k) b127 := fun hx => nl ((lowb hbe131) _ rfl) ((fun k (hk : blk a36 = some k) => hk790.lt k hk) _ hx)
        have hk792 := hk790.grown hg129 (fun _ h => h.elim) nb
        have ap793 : ¬ (fun k => blk a36 = some k) b133 := fun hx => nl ((lowb hbe137) _ rfl) ((fun k (hk : blk a36 = some k) => hk792.lt k hk) _ hx)
        have hk794 := ((((((((ho38.grown hg782 (fun _ h => h.elim) nb).grown hg60 (fun _ h => h.elim) (rdnn (rowne ap783))).grown hg66 (fun _ h => h.elim) (rdnn (rowne ap785))).grown hg72 (fun _ h => h.elim) (rdnn (rowne ap787))).grown hg735 (fun _ h => h.elim) nb).grown hg140 (fun _ h => h.elim) (rdnn (rowne ap789))).grown hg146 (fun _ h => h.elim) (rdnn (rowne ap791))).grown hg152 (fun _ h => h.elim) (rdnn (rowne ap793))).grown hg161 (fun _ h => h.elim) nb
        have ap795 : ¬ (fun k => blk a36 = some k) b176 := fun hx => nl ((lowb hbe180) _ rfl) ((fun k (hk : blk a36 = some k) => hk794.lt k hk) _ hx)
        have hk796 := (hk720.grown hg727 (fun _ h => h.elim) nb).grown hg730 (fun _ h => h.elim) (rdnn (rowne ap795))
        have hg797 := (grown_trans (grown_trans hg123 hg129) hg135)
        have hg798 := (grown_trans hg161 hg178)
        have hx799 := ltx (ltx (ltx (ltx (ltx (ltx hx119 hg797.size) hg140.size) hg146.size) hg152.size) hg798.size) hg183.size
        have hx800 := ltx (ltx (ltx (fun k hk => ltl (hx799 k hk) hz389) hg405.size) hg410.size) hg494.size
        have hx801 := ltx (ltx (ltx (ltx (ltx hx119 hg797.size) hg140.size) hg146.size) hg152.size) hg161.size
        have ap802 : ¬ X117 b176 := fun hx => nl ((lowb hbe180) _ rfl) (hx801 _ hx)
        have hx803 := ltx (fun k hk => ltl (hx800 k hk) hz707) hg727.size
        have hk804 := (hk721.grown hg727 (fun k hk => ltl (hx800 k hk) hz707) nb).grown hg730 hx803 (rowne ap802)
        exact ⟨hB748, hz749, hk750, hk751, hk756, hk761, hk766, hk771, hk775, hk777, hk779, hk780, hb731, hk781, hk796, hk804, hd, hs, ok_pick [4, 5, 6, 7, 9, 10, 11, 12, 13, 14, 15, 16] hok (by kernel_rfl)⟩
       ·replace h1 := ite_f hc723 h1
        refine gv_skip ?_
        have e := sj h1; subst e
        refine gv_goal fun a hd hs hok => ?_
        have hz805 := hz722
        exact ⟨hB706, hz805, hb708, hb709, hb710, hb711, hb712, hb713, hb714, hb715, hb716, hb717, hb718, hb719, hk720, hk721, hd, hs, ok_pick [4, 5, 6, 7, 9, 10, 11, 12, 13, 14, 15, 16] hok (by kernel_rfl)⟩
   ·rintro a w416 ⟨hB806, hz807, hb808, hb809, hb810, hb811, hb812, hb813, hb814, hb815, hb816, hb817, hb818, hb819, hk820, hk821, hd, hs, hok⟩
    refine gv_in ?_ hd hs hok
    clear hd hs hok
    clear hk414 hz412 hb411 hz408 hb406 hk402 hb400 hb399 hb398 hb397 hb396 hb395 hb394 hb393 hb392 hb391 hb390
    refine gv_blk <| gv_seq <| gv_seq <| gv_region <| gv_pureN 1 [65] [(65, (bp b176))] (by kernel_rfl) ?_
    refine gv_load (t := 3) (A := ⟨b176, 0, none⟩) (.int .i64 j415.1) [] (fun e => by cases e) rfl rfl rfl (by kernel_rfl) (by kernel_rfl) (by kernel_rfl) (inw0 (hb818.cell 0 rfl)) rfl ?_
    refine gv_pureN 1 [67] [(67, (.bool (j415.1 != 0)))] (by kernel_rfl) ?_
    refine gv_nil <| bindE h0 ?_; clear h0; intro j822 h1 h0
    refine gv_cut_code (J := fun a w824 => ∃ s823 : Unit, j822 = .inl s823 ∧ Below w0.heap.size w0 w824 ∧ w416.heap.size ≤ w824.heap.size ∧ Box w824 b1 27 #[(.int .u64 g_0.1), (.int .u64 g_0.2)] ∧ Box w824 b13 24 #[(.bool low_2.1), (.slice pa2_0 (List.length low_2.2) pc2_0)] ∧ Box w824 b19 24 #[(.bool high_3.1), (.slice pa3_0 (List.length high_3.2) pc3_0)] ∧ Box w824 b121 24 #[(.bool r99.1.1), (.slice a114 (List.length r99.1.2) c115)] ∧ Box w824 b127 27 #[(.int .u64 r99.2.1.1), (.int .u64 r99.2.1.2)] ∧ Box w824 b133 29 #[(.int .i64 r99.2.2.1), (.int .i64 r99.2.2.2)] ∧ Box w824 b403 29 #[(.int .i64 j197.1), (.int .i64 j197.2)] ∧ Rd (iE .u32) w824 X117 a114 c115 r99.1.2 ∧ a.defers = [] ∧ a.tmps.size = 187 ∧ Ok [(4, (bp b1)), (6, (bp b13)), (7, (bp b19)), (12, (bp b121)), (13, (bp b127)), (14, (bp b133)), (16, (bp b403))] a.tmps) ?_ ?_
    ·skip
     refine gv_cond (b := (j415.1 != 0)) (by kernel_rfl) (fun hc825 => ?_) (fun hc825 => ?_)
     ·replace h1 := ite_t hc825 h1
      refine gv_seq <| gv_region <| bindE h1 ?_; clear h1; intro j826 h2 h1
      refine gv_cut_ops (J := fun a w827 => Below w0.heap.size w0 w827 ∧ w416.heap.size ≤ w827.heap.size ∧ Box w827 b1 27 #[(.int .u64 g_0.1), (.int .u64 g_0.2)] ∧ Box w827 b13 24 #[(.bool low_2.1), (.slice pa2_0 (List.length low_2.2) pc2_0)] ∧ Box w827 b19 24 #[(.bool high_3.1), (.slice pa3_0 (List.length high_3.2) pc3_0)] ∧ Box w827 b121 24 #[(.bool r99.1.1), (.slice a114 (List.length r99.1.2) c115)] ∧ Box w827 b127 27 #[(.int .u64 r99.2.1.1), (.int .u64 r99.2.1.2)] ∧ Box w827 b133 29 #[(.int .i64 r99.2.2.1), (.int .i64 r99.2.2.2)] ∧ Box w827 b403 29 #[(.int .i64 j197.1), (.int .i64 j197.2)] ∧ Rd (iE .u32) w827 X117 a114 c115 r99.1.2 ∧ a.defers = [] ∧ a.tmps.size = 187 ∧ Ok [(4, (bp b1)), (6, (bp b13)), (7, (bp b19)), (12, (bp b121)), (13, (bp b127)), (14, (bp b133)), (16, (bp b403)), (80, (.bool j826))] a.tmps) ?_ ?_
      ·skip
       refine gv_loadBox (t := 29) (b := b53) (t' := 29) (fr := (0, 0)) #[(.int .i64 r29.2.2.1), (.int .i64 r29.2.2.2)] [] (fun e => by cases e) rfl rfl rfl (by kernel_rfl) (by kernel_rfl) (by kernel_rfl) (by kernel_rfl) (inw0 hb814) rfl ?_
       refine gv_loadBox (t := 29) (b := b176) (t' := 29) (fr := (0, 0)) #[(.int .i64 j415.1), (.int .i64 j415.2)] [] (fun e => by cases e) rfl rfl rfl (by kernel_rfl) (by kernel_rfl) (by kernel_rfl) (by kernel_rfl) (inw0 hb818) rfl ?_
       refine gv_eqs (t := 29) (op := .neq) (x := (.tmp 68)) (y := (.tmp 69)) (xs := #[(.int .i64 r29.2.2.1), (.int .i64 r29.2.2.2)]) (ys := #[(.int .i64 j415.1), (.int .i64 j415.2)]) (!((r29.2.2.1 == j415.1) && (r29.2.2.2 == j415.2))) [] (fun e => by cases e) rfl rfl rfl (by kernel_rfl) (by kernel_rfl) (fun w' => eqs29neq r29.2.2.1 r29.2.2.2 j415.1 j415.2 _ _ w') rfl ?_
       refine gv_pureN 1 [71] [(71, (.bool (!((r29.2.2.1 == j415.1) && (r29.2.2.2 == j415.2)))))] (by kernel_rfl) ?_
       refine gv_split (s := 71) (g := (!((r29.2.2.1 == j415.1) && (r29.2.2.2 == j415.2)))) (by kernel_rfl) (fun hc828 => ?_) (fun hc828 => ?_)
       ·skip
        replace h2 := ite_t hc828 h2
        refine gv_pureN 9 [72, 73, 74, 75, 76, 77, 78, 79, 80] [(80, (.bool true))] (by kernel_rfl) ?_
        refine gv_nil ?_
        have e := sj h2; subst e
        refine gv_goal fun a hd hs hok => ?_
        exact ⟨hB806, (Nat.le_refl _), hb808, hb810, hb811, hb815, hb816, hb817, hb819, hk821, hd, hs, ok_pick [4, 6, 7, 12, 13, 14, 16, 80] hok (by kernel_rfl)⟩
       ·skip
        replace h2 := ite_f hc828 h2
        refine gv_loadBox (t := 24) (b := b41) (t' := 24) (fr := (0, 0)) #[(.bool r29.1.1), (.slice a36 (List.length r29.1.2) c37)] [] (fun e => by cases e) rfl rfl rfl (by kernel_rfl) (by kernel_rfl) (by kernel_rfl) (by kernel_rfl) (inw0 hb812) rfl ?_
        refine bindE h2 ?_; clear h2; intro r829 hr830 h2
        refine gv_call0 (by kernel_rfl) rfl (by kernel_rfl) enters18 (ref3_NoInt_ok fuel a36 c37 (r29.1.1, r29.1.2) w416 (fun k => (fun k => blk a36 = some k) k) (fun k hk => (fun k (hk : blk a36 = some k) => hk820.lt k hk) k hk) ((hk820.rd (Y := fun k => blk a36 = some k) (fun _ h => h.elim) (fun g e => e)).wide (fun k hk => hk)) r829 hr830) ?_
        rintro v833 w831 ⟨hg832, rfl⟩
        clear hr830 hc828 hc825 hk820 hb818 hb814 hb812 hb809 hk401 hbe180 hlo109 hlo103 lt91 lt88 lt86 lt85 lt80 lt79 hb73 lt76 hg66 lt69 hb61 hg60 hbe57 hg55 hbe51 hg49 hbe45 hg43 hl40 hl39 ho38 hg34 hk28 hk26 hb22 hg21 hb16 hbe11
        refine gv_pureN 3 [74, 75, 76] [(76, (.bool (!r829)))] (by kernel_rfl) ?_
        refine gv_split (s := 76) (g := (!r829)) (by kernel_rfl) (fun hc834 => ?_) (fun hc834 => ?_)
        ·skip
         replace h2 := ite_t hc834 h2
         refine gv_pureN 4 [77, 78, 79, 80] [(80, (.bool true))] (by kernel_rfl) ?_
         refine gv_nil ?_
         have e := sj h2; subst e
         refine gv_goal fun a hd hs hok => ?_
         have hB835 := bg hB806 hg832 nb
         have hz836 := hg832.size
         have hk837 := hb808.grown hg832 nb
         have hk838 := hb810.grown hg832 nb
         have hk839 := hb811.grown hg832 nb
         have hk840 := hb815.grown hg832 nb
         have hk841 := hb816.grown hg832 nb
         have hk842 := hb817.grown hg832 nb
         have hk843 := hb819.grown hg832 nb
         have hg844 := (grown_trans (grown_trans hg123 hg129) hg135)
         have hg845 := (grown_trans hg161 hg178)
         have hx846 := ltx (ltx (ltx (ltx (ltx (ltx hx119 hg844.size) hg140.size) hg146.size) hg152.size) hg845.size) hg183.size
         have hx847 := ltx (ltx (fun k hk => ltl (hx846 k hk) hz389) hg405.size) hg410.size
         have hk848 := hk821.grown hg832 (fun k hk => ltl (hx847 k hk) hz807) nb
         exact ⟨hB835, hz836, hk837, hk838, hk839, hk840, hk841, hk842, hk843, hk848, hd, hs, ok_pick [4, 6, 7, 12, 13, 14, 16, 80] hok (by kernel_rfl)⟩
        ·skip
         replace h2 := ite_f hc834 h2
         have hk849 := hb813.grown hg832 nb
         refine gv_loadBox (t := 27) (b := b47) (t' := 27) (fr := (0, 0)) #[(.int .u64 r29.2.1.1), (.int .u64 r29.2.1.2)] [] (fun e => by cases e) rfl rfl rfl (by kernel_rfl) (by kernel_rfl) (by kernel_rfl) (by kernel_rfl) (inw0 hk849) rfl ?_
         refine gv_pureN 1 [78] [(78, (.agg #[(.int .u64 0), (.int .u64 0)]))] (by kernel_rfl) ?_
         refine gv_eqs (t := 27) (op := .neq) (x := (.tmp 77)) (y := (.tmp 78)) (xs := #[(.int .u64 r29.2.1.1), (.int .u64 r29.2.1.2)]) (ys := #[(.int .u64 0), (.int .u64 0)]) (!((r29.2.1.1 == 0) && (r29.2.1.2 == 0))) [] (fun e => by cases e) rfl rfl rfl (by kernel_rfl) (by kernel_rfl) (fun w' => eqs27neq r29.2.1.1 r29.2.1.2 0 0 _ _ w') rfl ?_
         refine gv_pureN 1 [80] [(80, (.bool (!((r29.2.1.1 == 0) && (r29.2.1.2 == 0)))))] (by kernel_rfl) ?_
         refine gv_sub [4, 6, 7, 12, 13, 14, 16, 80] (σ' := [(4, (bp b1)), (6, (bp b13)), (7, (bp b19)), (12, (bp b121)), (13, (bp b127)), (14, (bp b133)), (16, (bp b403)), (80, (.bool (!((r29.2.1.1 == 0) && (r29.2.1.2 == 0)))))]) (by kernel_rfl) ?_
         refine gv_nil ?_
         have e := sj h2; subst e
         refine gv_goal fun a hd hs hok => ?_
         have hB850 := bg hB806 hg832 nb
         have hz851 := hg832.size
         have hk852 := hb808.grown hg832 nb
         have hk853 := hb810.grown hg832 nb
         have hk854 := hb811.grown hg832 nb
         have hk855 := hb815.grown hg832 nb
         have hk856 := hb816.grown hg832 nb
         have hk857 := hb817.grown hg832 nb
         have hk858 := hb819.grown hg832 nb
         have hg859 := (grown_trans (grown_trans hg123 hg129) hg135)
         have hg860 := (grown_trans hg161 hg178)
         have hx861 := ltx (ltx (ltx (ltx (ltx (ltx hx119 hg859.size) hg140.size) hg146.size) hg152.size) hg860.size) hg183.size
         have hx862 := ltx (ltx (fun k hk => ltl (hx861 k hk) hz389) hg405.size) hg410.size
         have hk863 := hk821.grown hg832 (fun k hk => ltl (hx862 k hk) hz807) nb
         exact ⟨hB850, hz851, hk852, hk853, hk854, hk855, hk856, hk857, hk858, hk863, hd, hs, ok_pick [4, 6, 7, 12, 13, 14, 16, 80] hok (by kernel_rfl)⟩
      ·rintro a w827 ⟨hB864, hz865, hb866, hb867, hb868, hb869, hb870, hb871, hb872, hk873, hd, hs, hok⟩
       refine gv_in ?_ hd hs hok
       clear hd hs hok
       clear hc825 hk821 hk820 hb819 hb818 hb817 hb816 hb815 hb814 hb813 hb812 hb811 hb810 hb809 hb808 hB806 hk401 hbe180 hlo109 hlo106 hlo103 lt96 lt92 lt91 lt88 lt87 lt86 lt85 lt80 lt79 hb73 hg72 lt76 lt75 hb67 hg66 lt69 hb61 hg60 hbe57 hg55 hbe51 hg49 hbe45 hg43 hl40 hl39 ho38 hg34 hk28 hk26 hb22 hg21 hb16 hbe11
       refine gv_cond (b := j826) (by kernel_rfl) (fun hc874 => ?_) (fun hc874 => ?_)
       ·replace h1 := ite_t hc874 h1
        refine gv_seq <| gv_region <| gv_pureN 1 [8] [(8, (.bool false))] (by kernel_rfl) ?_
        refine gv_nil <| gv_cret ?_
        have e := sj h1; subst e
        replace h0 := cont_inr h0
        have e := sj h0; subst e
        refine gv_ret (gv_done [(.bool false)] rfl ⟨(by kernel_rfl), trivial⟩ ?_)
        exact ⟨grown_of_below hB864, rfl⟩
       ·replace h1 := ite_f hc874 h1
        refine gv_skip ?_
        have e := sj h1; subst e
        refine gv_goal fun a hd hs hok => ?_
        have hz875 := hz865
        exact ⟨(), rfl, hB864, hz875, hb866, hb867, hb868, hb869, hb870, hb871, hb872, hk873, hd, hs, ok_pick [4, 6, 7, 12, 13, 14, 16] hok (by kernel_rfl)⟩
     ·replace h1 := ite_f hc825 h1
      refine gv_seq <| gv_region <| gv_loadBox (t := 27) (b := b1) (t' := 27) (fr := (0, 0)) #[(.int .u64 g_0.1), (.int .u64 g_0.2)] [] (fun e => by cases e) rfl rfl rfl (by kernel_rfl) (by kernel_rfl) (by kernel_rfl) (by kernel_rfl) (inw0 hb808) rfl ?_
      refine gv_pureN 1 [82] [(82, (.agg #[(.int .u64 g_0.1), (.int .u64 g_0.2)]))] (by kernel_rfl) ?_
      refine gv_new0 (fun b => .pointer (some ⟨b, 0, none⟩)) #[(.int .u64 0), (.int .u64 0)] 40 (by kernel_rfl) (by kernel_rfl) ?_
      intro b876 w877 hg878 hb879 hbe880 hz881
      refine gv_store0 40 0 (.agg #[(.int .u64 g_0.1), (.int .u64 g_0.2)]) #[(.int .u64 g_0.1), (.int .u64 g_0.2)] hb879 (by kernel_rfl) (by kernel_rfl) (by kernel_rfl) ?_
      intro w882 hg883 hb884 hz885
      refine gv_nil <| gv_seq <| gv_region ?_
      have lt886 := ltt lt80 lt82
      have lt887 := ltt lt886 lt85
      have lt888 := ltt lt887 lt69
      have lt889 := ltt lt888 lt75
      have lt890 := ltt lt889 lt188
      have lt891 := ltt lt890 lt149
      have lt892 := ltt lt891 lt155
      have lt893 := ltt lt892 lt194
      have lt894 := ltt lt893 lt413
      have lt895 := ltl ((ltb hb819) _ rfl) ((lowb hbe880) _ rfl)
      have lt896 := ltt lt894 lt895
      have hk897 := (hb809.grown hg878 nb).grown hg883 (rowne (ng lt896))
      refine gv_loadBox (t := 24) (b := b7) (t' := 24) (fr := (0, 0)) #[(.bool n_1.1), (.slice pa1_0 (List.length n_1.2) pc1_0)] [] (fun e => by cases e) rfl rfl rfl (by kernel_rfl) (by kernel_rfl) (by kernel_rfl) (by kernel_rfl) (inw0 hk897) rfl ?_
      refine bindE h1 ?_; clear h1; intro r898 hr899 h1
      have hB900 := bg hB806 hg878 nb
      have hlo901 : w0.heap.size ≤ b876 := lob hbe880 hB806.size
      have hB902 := bg hB900 hg883 (rowlo hlo901)
      refine gv_call0 (by kernel_rfl) rfl (by kernel_rfl) enters20 (ref3_IntOf_ok fuel pa1_0 pc1_0 (n_1.1, n_1.2) w882 (fun k => X0 k) (fun k hk => (fun k (hk : X0 k) => ltl (hX0 k hk) hB902.size) k hk) ((hpa1_0.below hB902 hX0).wide (fun k hk => hk)) r898 hr899) ?_
      rintro v905 w903 ⟨hg904, a906, c907, X909, rfl, ho908, hx910⟩
      have hx911 : ∀ k, X909 k → k < w903.heap.size := fun k hk => (hx910 k hk).1
      have hx912 : ∀ k, X909 k → X0 k ∨ w0.heap.size ≤ k := fun k hk => (hx910 k hk).2.elim (fun h => (fun k (hk : X0 k) => Or.inl hk) k h) (fun h => .inr (Nat.le_trans hB902.size h))
      refine bindE h1 ?_; clear h1; intro r913 hr914 h1
      have ap915 : ¬ X909 b876 := fun h => ((hx910 _ h).2.elim (fun h => ((fun (hx : X0 b876) => nl hlo901 (hX0 _ hx)))  h) (fun h => nl h (hb884.lt)))
      have hk916 := hb884.grown hg904 nb
      refine gv_call0 (by kernel_rfl) rfl (by kernel_rfl) enters19 (ref4_Random_Below_ok fuel b876 (g_0.1, g_0.2) a906 c907 (r898.1, r898.2) w903 (fun k => X909 k) (fun k hk => ⟨hx911 k hk, fun e => ap915 (e ▸ hk)⟩) hk916 (ho908.wide (fun k hk => hk)) r913 hr914) ?_
      rintro v919 w917 ⟨hg918, a920, c921, X923, rfl, ho922, hx924, hb925⟩
      have hx926 : ∀ k, X923 k → k < w917.heap.size := fun k hk => (hx924 k hk).1
      have hB928 := bg hB902 hg904 nb
      have hx927 : ∀ k, X923 k → X0 k ∨ w0.heap.size ≤ k := fun k hk => (hx924 k hk).2.elim (fun h => hx912 k h) (fun h => .inr (Nat.le_trans hB928.size h))
      refine gv_pureN 3 [83, 87, 88] [(87, (.agg #[(.bool r913.1.1), (.slice a920 (List.length r913.1.2) c921)])), (88, (.bool r913.2.1))] (by kernel_rfl) ?_
      refine gv_new0 (fun b => .pointer (some ⟨b, 0, none⟩)) #[(.bool false), (.slice none (List.length ([] : List Int)) 0)] 49 (by kernel_rfl) (by kernel_rfl) ?_
      intro b929 w930 hg931 hb932 hbe933 hz934
      refine gv_store0 49 0 (.agg #[(.bool r913.1.1), (.slice a920 (List.length r913.1.2) c921)]) #[(.bool r913.1.1), (.slice a920 (List.length r913.1.2) c921)] hb932 (by kernel_rfl) (by kernel_rfl) (by kernel_rfl) ?_
      intro w935 hg936 hb937 hz938
      refine gv_pureN 1 [19] [(19, (.bool r913.2.1))] (by kernel_rfl) ?_
      refine gv_sub [4, 6, 7, 9, 10, 11, 12, 13, 14, 16, 17, 18, 19] (σ' := [(4, (bp b1)), (6, (bp b13)), (7, (bp b19)), (9, (bp b41)), (10, (bp b47)), (11, (bp b53)), (12, (bp b121)), (13, (bp b127)), (14, (bp b133)), (16, (bp b403)), (17, (bp b876)), (18, (bp b929)), (19, (.bool r913.2.1))]) (by kernel_rfl) ?_
      refine gv_nil <| gv_seq <| gv_region <| bindE h1 ?_; clear h1; intro j939 h2 h1
      refine gv_cut_ops (J := fun a w940 => Below w0.heap.size w0 w940 ∧ w935.heap.size ≤ w940.heap.size ∧ Box w940 b1 27 #[(.int .u64 g_0.1), (.int .u64 g_0.2)] ∧ Box w940 b13 24 #[(.bool low_2.1), (.slice pa2_0 (List.length low_2.2) pc2_0)] ∧ Box w940 b19 24 #[(.bool high_3.1), (.slice pa3_0 (List.length high_3.2) pc3_0)] ∧ Box w940 b121 24 #[(.bool r99.1.1), (.slice a114 (List.length r99.1.2) c115)] ∧ Box w940 b127 27 #[(.int .u64 r99.2.1.1), (.int .u64 r99.2.1.2)] ∧ Box w940 b133 29 #[(.int .i64 r99.2.2.1), (.int .i64 r99.2.2.2)] ∧ Box w940 b403 29 #[(.int .i64 j197.1), (.int .i64 j197.2)] ∧ Rd (iE .u32) w940 X117 a114 c115 r99.1.2 ∧ a.defers = [] ∧ a.tmps.size = 187 ∧ Ok [(4, (bp b1)), (6, (bp b13)), (7, (bp b19)), (12, (bp b121)), (13, (bp b127)), (14, (bp b133)), (16, (bp b403)), (106, (.bool j939))] a.tmps) ?_ ?_
      ·skip
       refine gv_pureN 2 [89, 90] [(90, (.bool r913.2.1))] (by kernel_rfl) ?_
       refine gv_split (s := 90) (g := r913.2.1) (by kernel_rfl) (fun hc941 => ?_) (fun hc941 => ?_)
       ·skip
        replace h2 := ite_t hc941 h2
        refine gv_pureN 1 [91] [(91, (bp b53))] (by kernel_rfl) ?_
        have lt942 := ltt lt188 lt149
        have lt943 := ltt lt942 lt155
        have lt944 := ltt lt943 lt194
        have lt945 := ltt lt944 lt413
        have lt946 := ltt lt945 lt895
        have lt947 := ltl ((ltb hb925) _ rfl) ((lowb hbe933) _ rfl)
        have lt948 := ltt lt946 lt947
        have hk949 := (((((hb814.grown hg878 nb).grown hg883 (rowne (ng lt946))).grown hg904 nb).grown hg918 (rowne (ng lt946))).grown hg931 nb).grown hg936 (rowne (ng lt948))
        refine gv_load (t := 3) (A := ⟨b53, 0, none⟩) (.int .i64 r29.2.2.1) [] (fun e => by cases e) rfl rfl rfl (by kernel_rfl) (by kernel_rfl) (by kernel_rfl) (inw0 (hk949.cell 0 rfl)) rfl ?_
        refine gv_pureN 2 [93, 94] [(94, (.bool (r29.2.2.1 != 0)))] (by kernel_rfl) ?_
        refine gv_split (s := 94) (g := (r29.2.2.1 != 0)) (by kernel_rfl) (fun hc950 => ?_) (fun hc950 => ?_)
        ·skip
         replace h2 := ite_t hc950 h2
         refine gv_pureN 12 [95, 96, 97, 98, 99, 100, 101, 102, 103, 104, 105, 106] [(106, (.bool true))] (by kernel_rfl) ?_
         refine gv_nil ?_
         have e := sj h2; subst e
         refine gv_goal fun a hd hs hok => ?_
         have hB951 := bg hB928 hg918 (rowlo hlo901)
         have hB952 := bg hB951 hg931 nb
         have hB953 := bg hB928 hg918 (rowlo hlo901)
         have hlo954 : w0.heap.size ≤ b929 := lob hbe933 hB953.size
         have hB955 := bg hB952 hg936 (rowlo hlo954)
         have lt956 := ltt lt195 lt413
         have lt957 := ltt lt956 lt895
         have lt958 := ltt lt957 lt947
         have hk959 := (((((hb808.grown hg878 nb).grown hg883 (rowne (ng lt957))).grown hg904 nb).grown hg918 (rowne (ng lt957))).grown hg931 nb).grown hg936 (rowne (ng lt958))
         have lt960 := ltt lt93 lt188
         have lt961 := ltt lt960 lt149
         have lt962 := ltt lt961 lt155
         have lt963 := ltt lt962 lt194
         have lt964 := ltt lt963 lt413
         have lt965 := ltt lt964 lt895
         have lt966 := ltt lt965 lt947
         have hk967 := (((((hb810.grown hg878 nb).grown hg883 (rowne (ng lt965))).grown hg904 nb).grown hg918 (rowne (ng lt965))).grown hg931 nb).grown hg936 (rowne (ng lt966))
         have lt968 := ltt lt97 lt188
         have lt969 := ltt lt968 lt149
         have lt970 := ltt lt969 lt155
         have lt971 := ltt lt970 lt194
         have lt972 := ltt lt971 lt413
         have lt973 := ltt lt972 lt895
         have lt974 := ltt lt973 lt947
         have hk975 := (((((hb811.grown hg878 nb).grown hg883 (rowne (ng lt973))).grown hg904 nb).grown hg918 (rowne (ng lt973))).grown hg931 nb).grown hg936 (rowne (ng lt974))
         have lt976 := ltt lt156 lt194
         have lt977 := ltt lt976 lt413
         have lt978 := ltt lt977 lt895
         have lt979 := ltt lt978 lt947
         have hk980 := (((((hb815.grown hg878 nb).grown hg883 (rowne (ng lt978))).grown hg904 nb).grown hg918 (rowne (ng lt978))).grown hg931 nb).grown hg936 (rowne (ng lt979))
         have lt981 := ltt lt155 lt194
         have lt982 := ltt lt981 lt413
         have lt983 := ltt lt982 lt895
         have lt984 := ltt lt983 lt947
         have hk985 := (((((hb816.grown hg878 nb).grown hg883 (rowne (ng lt983))).grown hg904 nb).grown hg918 (rowne (ng lt983))).grown hg931 nb).grown hg936 (rowne (ng lt984))
         have lt986 := ltt lt194 lt413
         have lt987 := ltt lt986 lt895
         have lt988 := ltt lt987 lt947
         have hk989 := (((((hb817.grown hg878 nb).grown hg883 (rowne (ng lt987))).grown hg904 nb).grown hg918 (rowne (ng lt987))).grown hg931 nb).grown hg936 (rowne (ng lt988))
         have lt990 := ltt lt895 lt947
         have hk991 := (((((hb819.grown hg878 nb).grown hg883 (rowne (ng lt895))).grown hg904 nb).grown hg918 (rowne (ng lt895))).grown hg931 nb).grown hg936 (rowne (ng lt990))
         have hg992 := (grown_trans (grown_trans hg123 hg129) hg135)
         have hg993 := (grown_trans hg161 hg178)
         have hx994 := ltx (ltx (ltx (ltx (ltx (ltx hx119 hg992.size) hg140.size) hg146.size) hg152.size) hg993.size) hg183.size
         have hx995 := ltx (ltx (fun k hk => ltl (hx994 k hk) hz389) hg405.size) hg410.size
         have ap996 : ¬ X117 b876 := fun hx => nl ((lowb hbe880) _ rfl) ((fun k hk => ltl (hx995 k hk) hz807) _ hx)
         have hx997 := ltx (fun k hk => ltl (hx995 k hk) hz807) hg878.size
         have hx998 := ltx hx997 hg883.size
         have hx999 := ltx hx998 hg904.size
         have hx1000 := ltx hx999 hg918.size
         have ap1001 : ¬ X117 b929 := fun hx => nl ((lowb hbe933) _ rfl) (hx1000 _ hx)
         have hx1002 := ltx hx1000 hg931.size
         have hk1003 := (((((hk821.grown hg878 (fun k hk => ltl (hx995 k hk) hz807) nb).grown hg883 hx997 (rowne ap996)).grown hg904 hx998 nb).grown hg918 hx999 (rowne ap996)).grown hg931 hx1000 nb).grown hg936 hx1002 (rowne ap1001)
         exact ⟨hB955, (Nat.le_refl _), hk959, hk967, hk975, hk980, hk985, hk989, hk991, hk1003, hd, hs, ok_pick [4, 6, 7, 12, 13, 14, 16, 106] hok (by kernel_rfl)⟩
        ·skip
         replace h2 := ite_f hc950 h2
         have lt1004 := ltt lt76 lt188
         have lt1005 := ltt lt1004 lt149
         have lt1006 := ltt lt1005 lt155
         have lt1007 := ltt lt1006 lt194
         have lt1008 := ltt lt1007 lt413
         have lt1009 := ltt lt1008 lt895
         have lt1010 := ltt lt1009 lt947
         have hk1011 := (((((hb812.grown hg878 nb).grown hg883 (rowne (ng lt1009))).grown hg904 nb).grown hg918 (rowne (ng lt1009))).grown hg931 nb).grown hg936 (rowne (ng lt1010))
         refine gv_loadBox (t := 24) (b := b41) (t' := 24) (fr := (0, 0)) #[(.bool r29.1.1), (.slice a36 (List.length r29.1.2) c37)] [] (fun e => by cases e) rfl rfl rfl (by kernel_rfl) (by kernel_rfl) (by kernel_rfl) (by kernel_rfl) (inw0 hk1011) rfl ?_
         refine gv_loadBox (t := 49) (b := b929) (t' := 49) (fr := (0, 0)) #[(.bool r913.1.1), (.slice a920 (List.length r913.1.2) c921)] [] (fun e => by cases e) rfl rfl rfl (by kernel_rfl) (by kernel_rfl) (by kernel_rfl) (by kernel_rfl) (inw0 hb937) rfl ?_
         refine bindE h2 ?_; clear h2; intro r1012 hr1013 h2
         have ap1014 : ¬ (fun k => blk a36 = some k) b876 := fun hx => nl ((lowb hbe880) _ rfl) ((fun k (hk : blk a36 = some k) => hk820.lt k hk) _ hx)
         have hk1015 := (((hk820.grown hg878 (fun _ h => h.elim) nb).grown hg883 (fun _ h => h.elim) (rdnn (rowne ap1014))).grown hg904 (fun _ h => h.elim) nb).grown hg918 (fun _ h => h.elim) (rdnn (rowne ap1014))
         have ap1016 : ¬ (fun k => blk a36 = some k) b929 := fun hx => nl ((lowb hbe933) _ rfl) ((fun k (hk : blk a36 = some k) => hk1015.lt k hk) _ hx)
         have hk1017 := (((((hk820.grown hg878 (fun _ h => h.elim) nb).grown hg883 (fun _ h => h.elim) (rdnn (rowne ap1014))).grown hg904 (fun _ h => h.elim) nb).grown hg918 (fun _ h => h.elim) (rdnn (rowne ap1014))).grown hg931 (fun _ h => h.elim) nb).grown hg936 (fun _ h => h.elim) (rdnn (rowne ap1016))
         have hx1018 := ltx (ltx hx926 hg931.size) hg936.size
         have ap1019 : ¬ X923 b929 := fun hx => nl ((lowb hbe933) _ rfl) (hx926 _ hx)
         have hx1020 := ltx hx926 hg931.size
         have hk1021 := (ho922.grown hg931 hx926 nb).grown hg936 hx1020 (rowne ap1019)
         refine gv_call0 (by kernel_rfl) rfl (by kernel_rfl) enters21 (ref3_SameInt_ok fuel a36 c37 (r29.1.1, r29.1.2) a920 c921 (r913.1.1, r913.1.2) w935 (fun k => (fun k => blk a36 = some k) k ∨ X923 k) (fun k hk => (hk).elim (fun h => (fun k (hk : blk a36 = some k) => hk1017.lt k hk) k h) (fun h => hx1018 k h)) ((hk1017.rd (Y := fun k => blk a36 = some k) (fun _ h => h.elim) (fun g e => e)).wide (fun k hk => (.inl hk))) (hk1021.wide (fun k hk => (.inr hk))) r1012 hr1013) ?_
         rintro v1024 w1022 ⟨hg1023, rfl⟩
         refine gv_pureN 3 [98, 99, 100] [(100, (.bool (!r1012)))] (by kernel_rfl) ?_
         refine gv_split (s := 100) (g := (!r1012)) (by kernel_rfl) (fun hc1025 => ?_) (fun hc1025 => ?_)
         ·skip
          replace h2 := ite_t hc1025 h2
          refine gv_pureN 6 [101, 102, 103, 104, 105, 106] [(106, (.bool true))] (by kernel_rfl) ?_
          refine gv_nil ?_
          have e := sj h2; subst e
          refine gv_goal fun a hd hs hok => ?_
          have hB1026 := bg hB928 hg918 (rowlo hlo901)
          have hB1027 := bg hB1026 hg931 nb
          have hB1028 := bg hB928 hg918 (rowlo hlo901)
          have hlo1029 : w0.heap.size ≤ b929 := lob hbe933 hB1028.size
          have hB1030 := bg hB1027 hg936 (rowlo hlo1029)
          have hB1031 := bg hB1030 hg1023 nb
          have hz1032 := hg1023.size
          have lt1033 := ltt lt195 lt413
          have lt1034 := ltt lt1033 lt895
          have lt1035 := ltt lt1034 lt947
          have hk1036 := ((((((hb808.grown hg878 nb).grown hg883 (rowne (ng lt1034))).grown hg904 nb).grown hg918 (rowne (ng lt1034))).grown hg931 nb).grown hg936 (rowne (ng lt1035))).grown hg1023 nb
          have lt1037 := ltt lt93 lt188
          have lt1038 := ltt lt1037 lt149
          have lt1039 := ltt lt1038 lt155
          have lt1040 := ltt lt1039 lt194
          have lt1041 := ltt lt1040 lt413
          have lt1042 := ltt lt1041 lt895
          have lt1043 := ltt lt1042 lt947
          have hk1044 := ((((((hb810.grown hg878 nb).grown hg883 (rowne (ng lt1042))).grown hg904 nb).grown hg918 (rowne (ng lt1042))).grown hg931 nb).grown hg936 (rowne (ng lt1043))).grown hg1023 nb
          have lt1045 := ltt lt97 lt188
          have lt1046 := ltt lt1045 lt149
          have lt1047 := ltt lt1046 lt155
          have lt1048 := ltt lt1047 lt194
          have lt1049 := ltt lt1048 lt413
          have lt1050 := ltt lt1049 lt895
          have lt1051 := ltt lt1050 lt947
          have hk1052 := ((((((hb811.grown hg878 nb).grown hg883 (rowne (ng lt1050))).grown hg904 nb).grown hg918 (rowne (ng lt1050))).grown hg931 nb).grown hg936 (rowne (ng lt1051))).grown hg1023 nb
          have lt1053 := ltt lt156 lt194
          have lt1054 := ltt lt1053 lt413
          have lt1055 := ltt lt1054 lt895
          have lt1056 := ltt lt1055 lt947
          have hk1057 := ((((((hb815.grown hg878 nb).grown hg883 (rowne (ng lt1055))).grown hg904 nb).grown hg918 (rowne (ng lt1055))).grown hg931 nb).grown hg936 (rowne (ng lt1056))).grown hg1023 nb
          have lt1058 := ltt lt155 lt194
          have lt1059 := ltt lt1058 lt413
          have lt1060 := ltt lt1059 lt895
          have lt1061 := ltt lt1060 lt947
          have hk1062 := ((((((hb816.grown hg878 nb).grown hg883 (rowne (ng lt1060))).grown hg904 nb).grown hg918 (rowne (ng lt1060))).grown hg931 nb).grown hg936 (rowne (ng lt1061))).grown hg1023 nb
          have lt1063 := ltt lt194 lt413
          have lt1064 := ltt lt1063 lt895
          have lt1065 := ltt lt1064 lt947
          have hk1066 := ((((((hb817.grown hg878 nb).grown hg883 (rowne (ng lt1064))).grown hg904 nb).grown hg918 (rowne (ng lt1064))).grown hg931 nb).grown hg936 (rowne (ng lt1065))).grown hg1023 nb
          have lt1067 := ltt lt895 lt947
          have hk1068 := ((((((hb819.grown hg878 nb).grown hg883 (rowne (ng lt895))).grown hg904 nb).grown hg918 (rowne (ng lt895))).grown hg931 nb).grown hg936 (rowne (ng lt1067))).grown hg1023 nb
          have hg1069 := (grown_trans (grown_trans hg123 hg129) hg135)
          have hg1070 := (grown_trans hg161 hg178)
          have hx1071 := ltx (ltx (ltx (ltx (ltx (ltx hx119 hg1069.size) hg140.size) hg146.size) hg152.size) hg1070.size) hg183.size
          have hx1072 := ltx (ltx (fun k hk => ltl (hx1071 k hk) hz389) hg405.size) hg410.size
          have ap1073 : ¬ X117 b876 := fun hx => nl ((lowb hbe880) _ rfl) ((fun k hk => ltl (hx1072 k hk) hz807) _ hx)
          have hx1074 := ltx (fun k hk => ltl (hx1072 k hk) hz807) hg878.size
          have hx1075 := ltx hx1074 hg883.size
          have hx1076 := ltx hx1075 hg904.size
          have hx1077 := ltx hx1076 hg918.size
          have ap1078 : ¬ X117 b929 := fun hx => nl ((lowb hbe933) _ rfl) (hx1077 _ hx)
          have hx1079 := ltx hx1077 hg931.size
          have hx1080 := ltx hx1079 hg936.size
          have hk1081 := ((((((hk821.grown hg878 (fun k hk => ltl (hx1072 k hk) hz807) nb).grown hg883 hx1074 (rowne ap1073)).grown hg904 hx1075 nb).grown hg918 hx1076 (rowne ap1073)).grown hg931 hx1077 nb).grown hg936 hx1079 (rowne ap1078)).grown hg1023 hx1080 nb
          exact ⟨hB1031, hz1032, hk1036, hk1044, hk1052, hk1057, hk1062, hk1066, hk1068, hk1081, hd, hs, ok_pick [4, 6, 7, 12, 13, 14, 16, 106] hok (by kernel_rfl)⟩
         ·skip
          replace h2 := ite_f hc1025 h2
          have lt1082 := ltt lt75 lt188
          have lt1083 := ltt lt1082 lt149
          have lt1084 := ltt lt1083 lt155
          have lt1085 := ltt lt1084 lt194
          have lt1086 := ltt lt1085 lt413
          have lt1087 := ltt lt1086 lt895
          have lt1088 := ltt lt1087 lt947
          have hk1089 := ((((((hb813.grown hg878 nb).grown hg883 (rowne (ng lt1087))).grown hg904 nb).grown hg918 (rowne (ng lt1087))).grown hg931 nb).grown hg936 (rowne (ng lt1088))).grown hg1023 nb
          refine gv_loadBox (t := 27) (b := b47) (t' := 27) (fr := (0, 0)) #[(.int .u64 r29.2.1.1), (.int .u64 r29.2.1.2)] [] (fun e => by cases e) rfl rfl rfl (by kernel_rfl) (by kernel_rfl) (by kernel_rfl) (by kernel_rfl) (inw0 hk1089) rfl ?_
          refine gv_pureN 1 [102] [(102, (bp b876))] (by kernel_rfl) ?_
          have hk1090 := ((hb925.grown hg931 nb).grown hg936 (rowne (ng lt947))).grown hg1023 nb
          refine gv_loadBox (t := 27) (b := b876) (t' := 40) (fr := (0, 0)) #[(.int .u64 r913.2.2.1), (.int .u64 r913.2.2.2)] [] (fun e => by cases e) rfl rfl rfl (by kernel_rfl) (by kernel_rfl) (by kernel_rfl) (by kernel_rfl) (inw0 hk1090) rfl ?_
          refine gv_eqs (t := 27) (op := .neq) (x := (.tmp 101)) (y := (.tmp 103)) (xs := #[(.int .u64 r29.2.1.1), (.int .u64 r29.2.1.2)]) (ys := #[(.int .u64 r913.2.2.1), (.int .u64 r913.2.2.2)]) (!((r29.2.1.1 == r913.2.2.1) && (r29.2.1.2 == r913.2.2.2))) [] (fun e => by cases e) rfl rfl rfl (by kernel_rfl) (by kernel_rfl) (fun w' => eqs27neq r29.2.1.1 r29.2.1.2 r913.2.2.1 r913.2.2.2 _ _ w') rfl ?_
          refine gv_pureN 2 [105, 106] [(106, (.bool (!((r29.2.1.1 == r913.2.2.1) && (r29.2.1.2 == r913.2.2.2)))))] (by kernel_rfl) ?_
          refine gv_nil ?_
          have e := sj h2; subst e
          refine gv_goal fun a hd hs hok => ?_
          have hB1091 := bg hB928 hg918 (rowlo hlo901)
          have hB1092 := bg hB1091 hg931 nb
          have hB1093 := bg hB928 hg918 (rowlo hlo901)
          have hlo1094 : w0.heap.size ≤ b929 := lob hbe933 hB1093.size
          have hB1095 := bg hB1092 hg936 (rowlo hlo1094)
          have hB1096 := bg hB1095 hg1023 nb
          have hz1097 := hg1023.size
          have lt1098 := ltt lt195 lt413
          have lt1099 := ltt lt1098 lt895
          have lt1100 := ltt lt1099 lt947
          have hk1101 := ((((((hb808.grown hg878 nb).grown hg883 (rowne (ng lt1099))).grown hg904 nb).grown hg918 (rowne (ng lt1099))).grown hg931 nb).grown hg936 (rowne (ng lt1100))).grown hg1023 nb
          have lt1102 := ltt lt93 lt188
          have lt1103 := ltt lt1102 lt149
          have lt1104 := ltt lt1103 lt155
          have lt1105 := ltt lt1104 lt194
          have lt1106 := ltt lt1105 lt413
          have lt1107 := ltt lt1106 lt895
          have lt1108 := ltt lt1107 lt947
          have hk1109 := ((((((hb810.grown hg878 nb).grown hg883 (rowne (ng lt1107))).grown hg904 nb).grown hg918 (rowne (ng lt1107))).grown hg931 nb).grown hg936 (rowne (ng lt1108))).grown hg1023 nb
          have lt1110 := ltt lt97 lt188
          have lt1111 := ltt lt1110 lt149
          have lt1112 := ltt lt1111 lt155
          have lt1113 := ltt lt1112 lt194
          have lt1114 := ltt lt1113 lt413
          have lt1115 := ltt lt1114 lt895
          have lt1116 := ltt lt1115 lt947
          have hk1117 := ((((((hb811.grown hg878 nb).grown hg883 (rowne (ng lt1115))).grown hg904 nb).grown hg918 (rowne (ng lt1115))).grown hg931 nb).grown hg936 (rowne (ng lt1116))).grown hg1023 nb
          have lt1118 := ltt lt156 lt194
          have lt1119 := ltt lt1118 lt413
          have lt1120 := ltt lt1119 lt895
          have lt1121 := ltt lt1120 lt947
          have hk1122 := ((((((hb815.grown hg878 nb).grown hg883 (rowne (ng lt1120))).grown hg904 nb).grown hg918 (rowne (ng lt1120))).grown hg931 nb).grown hg936 (rowne (ng lt1121))).grown hg1023 nb
          have lt1123 := ltt lt155 lt194
          have lt1124 := ltt lt1123 lt413
          have lt1125 := ltt lt1124 lt895
          have lt1126 := ltt lt1125 lt947
          have hk1127 := ((((((hb816.grown hg878 nb).grown hg883 (rowne (ng lt1125))).grown hg904 nb).grown hg918 (rowne (ng lt1125))).grown hg931 nb).grown hg936 (rowne (ng lt1126))).grown hg1023 nb
          have lt1128 := ltt lt194 lt413
          have lt1129 := ltt lt1128 lt895
          have lt1130 := ltt lt1129 lt947
          have hk1131 := ((((((hb817.grown hg878 nb).grown hg883 (rowne (ng lt1129))).grown hg904 nb).grown hg918 (rowne (ng lt1129))).grown hg931 nb).grown hg936 (rowne (ng lt1130))).grown hg1023 nb
          have lt1132 := ltt lt895 lt947
          have hk1133 := ((((((hb819.grown hg878 nb).grown hg883 (rowne (ng lt895))).grown hg904 nb).grown hg918 (rowne (ng lt895))).grown hg931 nb).grown hg936 (rowne (ng lt1132))).grown hg1023 nb
          have hg1134 := (grown_trans (grown_trans hg123 hg129) hg135)
          have hg1135 := (grown_trans hg161 hg178)
          have hx1136 := ltx (ltx (ltx (ltx (ltx (ltx hx119 hg1134.size) hg140.size) hg146.size) hg152.size) hg1135.size) hg183.size
          have hx1137 := ltx (ltx (fun k hk => ltl (hx1136 k hk) hz389) hg405.size) hg410.size
          have ap1138 : ¬ X117 b876 := fun hx => nl ((lowb hbe880) _ rfl) ((fun k hk => ltl (hx1137 k hk) hz807) _ hx)
          have hx1139 := ltx (fun k hk => ltl (hx1137 k hk) hz807) hg878.size
          have hx1140 := ltx hx1139 hg883.size
          have hx1141 := ltx hx1140 hg904.size
          have hx1142 := ltx hx1141 hg918.size
          have ap1143 : ¬ X117 b929 := fun hx => nl ((lowb hbe933) _ rfl) (hx1142 _ hx)
          have hx1144 := ltx hx1142 hg931.size
          have hx1145 := ltx hx1144 hg936.size
          have hk1146 := ((((((hk821.grown hg878 (fun k hk => ltl (hx1137 k hk) hz807) nb).grown hg883 hx1139 (rowne ap1138)).grown hg904 hx1140 nb).grown hg918 hx1141 (rowne ap1138)).grown hg931 hx1142 nb).grown hg936 hx1144 (rowne ap1143)).grown hg1023 hx1145 nb
          exact ⟨hB1096, hz1097, hk1101, hk1109, hk1117, hk1122, hk1127, hk1131, hk1133, hk1146, hd, hs, ok_pick [4, 6, 7, 12, 13, 14, 16, 106] hok (by kernel_rfl)⟩
       ·skip
        replace h2 := ite_f hc941 h2
        refine gv_pureN 16 [91, 92, 93, 94, 95, 96, 97, 98, 99, 100, 101, 102, 103, 104, 105, 106] [(106, (.bool false))] (by kernel_rfl) ?_
        refine gv_nil ?_
        have e := sj h2; subst e
        refine gv_goal fun a hd hs hok => ?_
        have hB1147 := bg hB928 hg918 (rowlo hlo901)
        have hB1148 := bg hB1147 hg931 nb
        have hB1149 := bg hB928 hg918 (rowlo hlo901)
        have hlo1150 : w0.heap.size ≤ b929 := lob hbe933 hB1149.size
        have hB1151 := bg hB1148 hg936 (rowlo hlo1150)
        have lt1152 := ltt lt195 lt413
        have lt1153 := ltt lt1152 lt895
        have lt1154 := ltl ((ltb hb925) _ rfl) ((lowb hbe933) _ rfl)
        have lt1155 := ltt lt1153 lt1154
        have hk1156 := (((((hb808.grown hg878 nb).grown hg883 (rowne (ng lt1153))).grown hg904 nb).grown hg918 (rowne (ng lt1153))).grown hg931 nb).grown hg936 (rowne (ng lt1155))
        have lt1157 := ltt lt93 lt188
        have lt1158 := ltt lt1157 lt149
        have lt1159 := ltt lt1158 lt155
        have lt1160 := ltt lt1159 lt194
        have lt1161 := ltt lt1160 lt413
        have lt1162 := ltt lt1161 lt895
        have lt1163 := ltt lt1162 lt1154
        have hk1164 := (((((hb810.grown hg878 nb).grown hg883 (rowne (ng lt1162))).grown hg904 nb).grown hg918 (rowne (ng lt1162))).grown hg931 nb).grown hg936 (rowne (ng lt1163))
        have lt1165 := ltt lt97 lt188
        have lt1166 := ltt lt1165 lt149
        have lt1167 := ltt lt1166 lt155
        have lt1168 := ltt lt1167 lt194
        have lt1169 := ltt lt1168 lt413
        have lt1170 := ltt lt1169 lt895
        have lt1171 := ltt lt1170 lt1154
        have hk1172 := (((((hb811.grown hg878 nb).grown hg883 (rowne (ng lt1170))).grown hg904 nb).grown hg918 (rowne (ng lt1170))).grown hg931 nb).grown hg936 (rowne (ng lt1171))
        have lt1173 := ltt lt156 lt194
        have lt1174 := ltt lt1173 lt413
        have lt1175 := ltt lt1174 lt895
        have lt1176 := ltt lt1175 lt1154
        have hk1177 := (((((hb815.grown hg878 nb).grown hg883 (rowne (ng lt1175))).grown hg904 nb).grown hg918 (rowne (ng lt1175))).grown hg931 nb).grown hg936 (rowne (ng lt1176))
        have lt1178 := ltt lt155 lt194
        have lt1179 := ltt lt1178 lt413
        have lt1180 := ltt lt1179 lt895
        have lt1181 := ltt lt1180 lt1154
        have hk1182 := (((((hb816.grown hg878 nb).grown hg883 (rowne (ng lt1180))).grown hg904 nb).grown hg918 (rowne (ng lt1180))).grown hg931 nb).grown hg936 (rowne (ng lt1181))
        have lt1183 := ltt lt194 lt413
        have lt1184 := ltt lt1183 lt895
        have lt1185 := ltt lt1184 lt1154
        have hk1186 := (((((hb817.grown hg878 nb).grown hg883 (rowne (ng lt1184))).grown hg904 nb).grown hg918 (rowne (ng lt1184))).grown hg931 nb).grown hg936 (rowne (ng lt1185))
        have lt1187 := ltt lt895 lt1154
        have hk1188 := (((((hb819.grown hg878 nb).grown hg883 (rowne (ng lt895))).grown hg904 nb).grown hg918 (rowne (ng lt895))).grown hg931 nb).grown hg936 (rowne (ng lt1187))
        have hg1189 := (grown_trans (grown_trans hg123 hg129) hg135)
        have hg1190 := (grown_trans hg161 hg178)
        have hx1191 := ltx (ltx (ltx (ltx (ltx (ltx hx119 hg1189.size) hg140.size) hg146.size) hg152.size) hg1190.size) hg183.size
        have hx1192 := ltx (ltx (fun k hk => ltl (hx1191 k hk) hz389) hg405.size) hg410.size
        have ap1193 : ¬ X117 b876 := fun hx => nl ((lowb hbe880) _ rfl) ((fun k hk => ltl (hx1192 k hk) hz807) _ hx)
        have hx1194 := ltx (fun k hk => ltl (hx1192 k hk) hz807) hg878.size
        have hx1195 := ltx hx1194 hg883.size
        have hx1196 := ltx hx1195 hg904.size
        have hx1197 := ltx hx1196 hg918.size
        have ap1198 : ¬ X117 b929 := fun hx => nl ((lowb hbe933) _ rfl) (hx1197 _ hx)
        have hx1199 := ltx hx1197 hg931.size
        have hk1200 := (((((hk821.grown hg878 (fun k hk => ltl (hx1192 k hk) hz807) nb).grown hg883 hx1194 (rowne ap1193)).grown hg904 hx1195 nb).grown hg918 hx1196 (rowne ap1193)).grown hg931 hx1197 nb).grown hg936 hx1199 (rowne ap1198)
        exact ⟨hB1151, (Nat.le_refl _), hk1156, hk1164, hk1172, hk1177, hk1182, hk1186, hk1188, hk1200, hd, hs, ok_pick [4, 6, 7, 12, 13, 14, 16, 106] hok (by kernel_rfl)⟩
      ·rintro a w940 ⟨hB1201, hz1202, hb1203, hb1204, hb1205, hb1206, hb1207, hb1208, hb1209, hk1210, hd, hs, hok⟩
       refine gv_in ?_ hd hs hok
       clear hd hs hok
       have hz1211 := (nt (nt (nt (nt (nt (nt hg878.size hg883.size) hg904.size) hg918.size) hg931.size) hg936.size) hz1202)
       clear hz938 hb937 hz934 hbe933 hb932 hx927 hB928 hx926 hb925 hx924 ho922 hk916 ap915 hr914 hx912 hx911 hx910 ho908 hB902 hlo901 hB900 hr899 hk897 lt896 lt895 lt894 lt893 lt892 lt891 lt890 lt889 lt888 lt887 lt886 hz885 hb884 hz881 hbe880 hb879 hc825 hk821 hk820 hb819 hb818 hb817 hb816 hb815 hb814 hb813 hb812 hb811 hb810 hb809 hb808 hB806 hk401 hbe180 hlo109 hlo106 hlo103 lt96 lt92 lt91 lt88 lt87 lt86 lt85 lt80 lt79 hb73 hg72 lt76 lt75 hb67 hg66 lt69 hb61 hg60 hbe57 hg55 hbe51 hg49 hbe45 hg43 hl40 hl39 ho38 hg34 hk28 hk26 hb22 hg21 hb16 hbe11
       refine gv_cond (b := j939) (by kernel_rfl) (fun hc1212 => ?_) (fun hc1212 => ?_)
       ·replace h1 := ite_t hc1212 h1
        refine gv_seq <| gv_region <| gv_pureN 1 [8] [(8, (.bool false))] (by kernel_rfl) ?_
        refine gv_nil <| gv_cret ?_
        have e := sj h1; subst e
        replace h0 := cont_inr h0
        have e := sj h0; subst e
        refine gv_ret (gv_done [(.bool false)] rfl ⟨(by kernel_rfl), trivial⟩ ?_)
        exact ⟨grown_of_below hB1201, rfl⟩
       ·replace h1 := ite_f hc1212 h1
        refine gv_skip ?_
        have e := sj h1; subst e
        refine gv_goal fun a hd hs hok => ?_
        have hz1213 := hz1211
        exact ⟨(), rfl, hB1201, hz1213, hb1203, hb1204, hb1205, hb1206, hb1207, hb1208, hb1209, hk1210, hd, hs, ok_pick [4, 6, 7, 12, 13, 14, 16] hok (by kernel_rfl)⟩
    ·rintro a w824 ⟨s823, e, hB1214, hz1215, hb1216, hb1217, hb1218, hb1219, hb1220, hb1221, hb1222, hk1223, hd, hs, hok⟩
     subst e
     refine gv_in ?_ hd hs hok
     clear hd hs hok
     replace h0 := cont_inl h0
     clear hk821 hk820 hb819 hb818 hb817 hb816 hb815 hb814 hb813 hb812 hb811 hb810 hb809 hb808 hB806 hk401 hbe180 hlo109 hlo106 hlo103 lt96 lt92 lt91 lt88 lt87 lt86 lt85 lt80 lt79 hb73 hg72 lt76 lt75 hb67 hg66 lt69 hb61 hg60 hbe57 hg55 hbe51 hg49 hbe45 hg43 hl40 hl39 ho38 hg34 hk28 hk26 hb22 hg21 hb16 hbe11
     refine gv_seq <| gv_block <| gv_seq <| gv_region <| gv_pureN 1 [108] [(108, (bp b403))] (by kernel_rfl) ?_
     refine gv_load (t := 3) (A := ⟨b403, 0, none⟩) (.int .i64 j197.1) [] (fun e => by cases e) rfl rfl rfl (by kernel_rfl) (by kernel_rfl) (by kernel_rfl) (inw0 (hb1222.cell 0 rfl)) rfl ?_
     refine gv_pureN 2 [107, 110] [(107, (.bool (j197.1 != 0)))] (by kernel_rfl) ?_
     refine gv_nil <| bindE h0 ?_; clear h0; intro j1224 h1 h0
     refine gv_cut_code (J := fun a w1225 => Below w0.heap.size w0 w1225 ∧ w824.heap.size ≤ w1225.heap.size ∧ Box w1225 b1 27 #[(.int .u64 g_0.1), (.int .u64 g_0.2)] ∧ Box w1225 b13 24 #[(.bool low_2.1), (.slice pa2_0 (List.length low_2.2) pc2_0)] ∧ Box w1225 b19 24 #[(.bool high_3.1), (.slice pa3_0 (List.length high_3.2) pc3_0)] ∧ Box w1225 b121 24 #[(.bool r99.1.1), (.slice a114 (List.length r99.1.2) c115)] ∧ Box w1225 b127 27 #[(.int .u64 r99.2.1.1), (.int .u64 r99.2.1.2)] ∧ Box w1225 b133 29 #[(.int .i64 r99.2.2.1), (.int .i64 r99.2.2.2)] ∧ Box w1225 b403 29 #[(.int .i64 j1224.1), (.int .i64 j1224.2)] ∧ Rd (iE .u32) w1225 X117 a114 c115 r99.1.2 ∧ a.defers = [] ∧ a.tmps.size = 187 ∧ Ok [(4, (bp b1)), (6, (bp b13)), (7, (bp b19)), (12, (bp b121)), (13, (bp b127)), (14, (bp b133)), (16, (bp b403))] a.tmps) ?_ ?_
     ·skip
      refine gv_cond (b := (j197.1 != 0)) (by kernel_rfl) (fun hc1226 => ?_) (fun hc1226 => ?_)
      ·replace h1 := ite_t hc1226 h1
       refine gv_skip ?_
       have e := sj h1; subst e
       refine gv_goal fun a hd hs hok => ?_
       exact ⟨hB1214, (Nat.le_refl _), hb1216, hb1217, hb1218, hb1219, hb1220, hb1221, hb1222, hk1223, hd, hs, ok_pick [4, 6, 7, 12, 13, 14, 16] hok (by kernel_rfl)⟩
      ·replace h1 := ite_f hc1226 h1
       refine gv_seq <| gv_region <| gv_loadBox (t := 24) (b := b13) (t' := 24) (fr := (0, 0)) #[(.bool low_2.1), (.slice pa2_0 (List.length low_2.2) pc2_0)] [] (fun e => by cases e) rfl rfl rfl (by kernel_rfl) (by kernel_rfl) (by kernel_rfl) (by kernel_rfl) (inw0 hb1217) rfl ?_
       refine bindE h1 ?_; clear h1; intro r1227 hr1228 h1
       refine gv_call0 (by kernel_rfl) rfl (by kernel_rfl) enters12 (ref3_IntOk_ok fuel pa2_0 pc2_0 (low_2.1, low_2.2) w824 (fun k => X0 k) (fun k hk => (fun k (hk : X0 k) => ltl (hX0 k hk) hB1214.size) k hk) ((hpa2_0.below hB1214 hX0).wide (fun k hk => hk)) r1227 hr1228) ?_
       rintro v1231 w1229 ⟨hg1230, rfl⟩
       refine gv_pureN 2 [111, 114] [(111, (.bool (!r1227)))] (by kernel_rfl) ?_
       refine gv_nil <| gv_cond (b := (!r1227)) (by kernel_rfl) (fun hc1232 => ?_) (fun hc1232 => ?_)
       ·replace h1 := ite_t hc1232 h1
        refine gv_region <| bindE h1 ?_; clear h1; intro r1233 hr1234 h1
        refine gv_call0 (by kernel_rfl) rfl (by kernel_rfl) enters13 (ref4_At_ok fuel 6 (-2) w1229  r1233 hr1234) ?_
        rintro v1237 w1235 ⟨hg1236, rfl⟩
        have hg1242 := (grown_trans hg1230 hg1236)
        have hk1243 := hb1222.grown hg1242 nb
        refine gv_store0 29 0 (.agg #[(.int .i64 r1233.1), (.int .i64 r1233.2)]) #[(.int .i64 r1233.1), (.int .i64 r1233.2)] hk1243 (by kernel_rfl) (by kernel_rfl) (by kernel_rfl) ?_
        intro w1238 hg1239 hb1240 hz1241
        refine gv_nil ?_
        have e := sj h1; subst e
        refine gv_goal fun a hd hs hok => ?_
        have hB1244 := bg hB1214 hg1242 nb
        have hlo1245 : w0.heap.size ≤ b403 := lob hbe407 hB388.size
        have hB1246 := bg hB1244 hg1239 (rowlo hlo1245)
        have hz1247 := (nt (nt hg1230.size hg1236.size) hg1239.size)
        have lt1248 := ltt lt195 lt413
        have hk1249 := (hb1216.grown hg1242 nb).grown hg1239 (rowne (ng lt1248))
        have lt1250 := ltt lt93 lt188
        have lt1251 := ltt lt1250 lt149
        have lt1252 := ltt lt1251 lt155
        have lt1253 := ltt lt1252 lt194
        have lt1254 := ltt lt1253 lt413
        have hk1255 := (hb1217.grown hg1242 nb).grown hg1239 (rowne (ng lt1254))
        have lt1256 := ltt lt97 lt188
        have lt1257 := ltt lt1256 lt149
        have lt1258 := ltt lt1257 lt155
        have lt1259 := ltt lt1258 lt194
        have lt1260 := ltt lt1259 lt413
        have hk1261 := (hb1218.grown hg1242 nb).grown hg1239 (rowne (ng lt1260))
        have lt1262 := ltt lt156 lt194
        have lt1263 := ltt lt1262 lt413
        have hk1264 := (hb1219.grown hg1242 nb).grown hg1239 (rowne (ng lt1263))
        have lt1265 := ltt lt155 lt194
        have lt1266 := ltt lt1265 lt413
        have hk1267 := (hb1220.grown hg1242 nb).grown hg1239 (rowne (ng lt1266))
        have lt1268 := ltt lt194 lt413
        have hk1269 := (hb1221.grown hg1242 nb).grown hg1239 (rowne (ng lt1268))
        have hg1270 := (grown_trans (grown_trans hg123 hg129) hg135)
        have hg1271 := (grown_trans hg161 hg178)
        have hx1272 := ltx (ltx (ltx (ltx (ltx (ltx hx119 hg1270.size) hg140.size) hg146.size) hg152.size) hg1271.size) hg183.size
        have hx1273 := ltx (ltx (fun k hk => ltl (hx1272 k hk) hz389) hg405.size) hg410.size
        have ap1274 : ¬ X117 b403 := fun hx => nl ((lowb hbe407) _ rfl) ((fun k hk => ltl (hx1272 k hk) hz389) _ hx)
        have hx1275 := ltx (fun k hk => ltl ((fun k hk => ltl (hx1273 k hk) hz807) k hk) hz1215) hg1242.size
        have hk1276 := (hk1223.grown hg1242 (fun k hk => ltl ((fun k hk => ltl (hx1273 k hk) hz807) k hk) hz1215) nb).grown hg1239 hx1275 (rowne ap1274)
        exact ⟨hB1246, hz1247, hk1249, hk1255, hk1261, hk1264, hk1267, hk1269, hb1240, hk1276, hd, hs, ok_pick [4, 6, 7, 12, 13, 14, 16] hok (by kernel_rfl)⟩
       ·replace h1 := ite_f hc1232 h1
        refine gv_seq <| gv_region ?_
        have hk1277 := hb1218.grown hg1230 nb
        refine gv_loadBox (t := 24) (b := b19) (t' := 24) (fr := (0, 0)) #[(.bool high_3.1), (.slice pa3_0 (List.length high_3.2) pc3_0)] [] (fun e => by cases e) rfl rfl rfl (by kernel_rfl) (by kernel_rfl) (by kernel_rfl) (by kernel_rfl) (inw0 hk1277) rfl ?_
        refine bindE h1 ?_; clear h1; intro r1278 hr1279 h1
        have hB1280 := bg hB1214 hg1230 nb
        refine gv_call0 (by kernel_rfl) rfl (by kernel_rfl) enters12 (ref3_IntOk_ok fuel pa3_0 pc3_0 (high_3.1, high_3.2) w1229 (fun k => X0 k) (fun k hk => (fun k (hk : X0 k) => ltl (hX0 k hk) hB1280.size) k hk) ((hpa3_0.below hB1280 hX0).wide (fun k hk => hk)) r1278 hr1279) ?_
        rintro v1283 w1281 ⟨hg1282, rfl⟩
        refine gv_pureN 2 [116, 119] [(116, (.bool (!r1278)))] (by kernel_rfl) ?_
        refine gv_nil <| gv_cond (b := (!r1278)) (by kernel_rfl) (fun hc1284 => ?_) (fun hc1284 => ?_)
        ·replace h1 := ite_t hc1284 h1
         refine gv_region <| bindE h1 ?_; clear h1; intro r1285 hr1286 h1
         refine gv_call0 (by kernel_rfl) rfl (by kernel_rfl) enters13 (ref4_At_ok fuel 6 (-3) w1281  r1285 hr1286) ?_
         rintro v1289 w1287 ⟨hg1288, rfl⟩
         have hg1294 := (grown_trans (grown_trans hg1230 hg1282) hg1288)
         have hk1295 := hb1222.grown hg1294 nb
         refine gv_store0 29 0 (.agg #[(.int .i64 r1285.1), (.int .i64 r1285.2)]) #[(.int .i64 r1285.1), (.int .i64 r1285.2)] hk1295 (by kernel_rfl) (by kernel_rfl) (by kernel_rfl) ?_
         intro w1290 hg1291 hb1292 hz1293
         refine gv_nil ?_
         have e := sj h1; subst e
         refine gv_goal fun a hd hs hok => ?_
         have hg1296 := (grown_trans hg1282 hg1288)
         have hB1297 := bg hB1280 hg1296 nb
         have hlo1298 : w0.heap.size ≤ b403 := lob hbe407 hB388.size
         have hB1299 := bg hB1297 hg1291 (rowlo hlo1298)
         have hz1300 := (nt (nt (nt hg1230.size hg1282.size) hg1288.size) hg1291.size)
         have lt1301 := ltt lt195 lt413
         have hk1302 := (hb1216.grown hg1294 nb).grown hg1291 (rowne (ng lt1301))
         have lt1303 := ltt lt93 lt188
         have lt1304 := ltt lt1303 lt149
         have lt1305 := ltt lt1304 lt155
         have lt1306 := ltt lt1305 lt194
         have lt1307 := ltt lt1306 lt413
         have hk1308 := (hb1217.grown hg1294 nb).grown hg1291 (rowne (ng lt1307))
         have lt1309 := ltt lt97 lt188
         have lt1310 := ltt lt1309 lt149
         have lt1311 := ltt lt1310 lt155
         have lt1312 := ltt lt1311 lt194
         have lt1313 := ltt lt1312 lt413
         have hk1314 := (hk1277.grown hg1296 nb).grown hg1291 (rowne (ng lt1313))
         have lt1315 := ltt lt156 lt194
         have lt1316 := ltt lt1315 lt413
         have hk1317 := (hb1219.grown hg1294 nb).grown hg1291 (rowne (ng lt1316))
         have lt1318 := ltt lt155 lt194
         have lt1319 := ltt lt1318 lt413
         have hk1320 := (hb1220.grown hg1294 nb).grown hg1291 (rowne (ng lt1319))
         have lt1321 := ltt lt194 lt413
         have hk1322 := (hb1221.grown hg1294 nb).grown hg1291 (rowne (ng lt1321))
         have hg1323 := (grown_trans (grown_trans hg123 hg129) hg135)
         have hg1324 := (grown_trans hg161 hg178)
         have hx1325 := ltx (ltx (ltx (ltx (ltx (ltx hx119 hg1323.size) hg140.size) hg146.size) hg152.size) hg1324.size) hg183.size
         have hx1326 := ltx (ltx (fun k hk => ltl (hx1325 k hk) hz389) hg405.size) hg410.size
         have ap1327 : ¬ X117 b403 := fun hx => nl ((lowb hbe407) _ rfl) ((fun k hk => ltl (hx1325 k hk) hz389) _ hx)
         have hx1328 := ltx (fun k hk => ltl ((fun k hk => ltl (hx1326 k hk) hz807) k hk) hz1215) hg1294.size
         have hk1329 := (hk1223.grown hg1294 (fun k hk => ltl ((fun k hk => ltl (hx1326 k hk) hz807) k hk) hz1215) nb).grown hg1291 hx1328 (rowne ap1327)
         exact ⟨hB1299, hz1300, hk1302, hk1308, hk1314, hk1317, hk1320, hk1322, hb1292, hk1329, hd, hs, ok_pick [4, 6, 7, 12, 13, 14, 16] hok (by kernel_rfl)⟩
        ·replace h1 := ite_f hc1284 h1
         refine gv_seq <| gv_drawA (by kernel_rfl) ?_
         intro w1330 hg1331
         refine gv_stage (Cls w1330 []) [0, 1, 2] [(0, some true), (2, some true), (1, some false)] (bA 7 [0, 1, 2]) 4 (by kernel_rfl) (by kernel_rfl) (Cls.refl _ _) ?_
         have hC1332 := Cls.refl w1330 []
         have hg1333 := (grown_trans hg1282 hg1331)
         have hk1334 := hk1277.grown hg1333 nb
         refine gv_loadBox (t := 24) (b := b19) (t' := 24) (fr := (0, 0)) #[(.bool high_3.1), (.slice pa3_0 (List.length high_3.2) pc3_0)] [] (fun e => by cases e) rfl rfl rfl (by kernel_rfl) (by kernel_rfl) (by kernel_rfl) (by kernel_rfl) (inw1 fun w' hC' => (hC'.box hk1334 nm_nil)) rfl ?_
         have hg1335 := (grown_trans hg1230 hg1333)
         have hk1336 := hb1217.grown hg1335 nb
         refine gv_loadBox (t := 24) (b := b13) (t' := 24) (fr := (0, 0)) #[(.bool low_2.1), (.slice pa2_0 (List.length low_2.2) pc2_0)] [] (fun e => by cases e) rfl rfl rfl (by kernel_rfl) (by kernel_rfl) (by kernel_rfl) (by kernel_rfl) (inw1 fun w' hC' => (hC'.box hk1336 nm_nil)) rfl ?_
         refine bindE h1 ?_; clear h1; intro r1337 hr1338 h1
         have hB1339 := bg hB1280 hg1333 nb
         refine gv_call (f := 20) (vs := [(.agg #[(.bool high_3.1), (.slice pa3_0 (List.length high_3.2) pc3_0)])]) (cap := []) _ (by decide) rfl rfl rfl (by kernel_rfl) (by kernel_rfl) enters20 (ref3_IntOf_ok fuel pa3_0 pc3_0 (high_3.1, high_3.2) w1330 (fun k => X0 k) (fun k hk => (fun k (hk : X0 k) => ltl (hX0 k hk) hB1339.size) k hk) ((hpa3_0.below hB1339 hX0).wide (fun k hk => hk)) r1337 hr1338) ?_
         rintro v1342 w1340 ⟨hg1341, a1343, c1344, X1346, rfl, ho1345, hx1347⟩
         refine ⟨(fun _ => hC1332.grown hg1341 nb), ?_⟩
         have hx1348 : ∀ k, X1346 k → k < w1340.heap.size := fun k hk => (hx1347 k hk).1
         have hx1349 : ∀ k, X1346 k → X0 k ∨ w0.heap.size ≤ k := fun k hk => (hx1347 k hk).2.elim (fun h => (fun k (hk : X0 k) => Or.inl hk) k h) (fun h => .inr (Nat.le_trans hB1339.size h))
         refine gv_nil <| gv_goA ?_
         refine gv_stage (fun _ => True) [0, 1, 2, 3] [(3, some false)] (bA 7 [0, 1, 2, 3]) 3 (by kernel_rfl) (by kernel_rfl) trivial ?_
         refine bindE h1 ?_; clear h1; intro r1350 hr1351 h1
         have hB1352 := bg hB1339 hg1341 nb
         refine gv_call (f := 20) (vs := [(.agg #[(.bool low_2.1), (.slice pa2_0 (List.length low_2.2) pc2_0)])]) (cap := []) _ (by decide) rfl rfl rfl (by kernel_rfl) (by kernel_rfl) enters20 (ref3_IntOf_ok fuel pa2_0 pc2_0 (low_2.1, low_2.2) w1340 (fun k => X0 k) (fun k hk => (fun k (hk : X0 k) => ltl (hX0 k hk) hB1352.size) k hk) ((hpa2_0.below hB1352 hX0).wide (fun k hk => hk)) r1350 hr1351) ?_
         rintro v1355 w1353 ⟨hg1354, a1356, c1357, X1359, rfl, ho1358, hx1360⟩
         refine ⟨(fun _ => trivial), ?_⟩
         have hx1361 : ∀ k, X1359 k → k < w1353.heap.size := fun k hk => (hx1360 k hk).1
         have hx1362 : ∀ k, X1359 k → X0 k ∨ w0.heap.size ≤ k := fun k hk => (hx1360 k hk).2.elim (fun h => (fun k (hk : X0 k) => Or.inl hk) k h) (fun h => .inr (Nat.le_trans hB1352.size h))
         have hz1363 := (nt (nt (nt hg1230.size hg1282.size) hg1331.size) hg1341.size)
         clear hr1351 hB1339 hr1338 hg1335 hg1333 hC1332 hc1284 hB1280 hr1279 hk1277 hc1232 hr1228 hc1226 hb1218 hb1217 hB1214
         refine gv_nil <| gv_goA ?_
         refine gv_stage (fun _ => True) [0, 1, 2, 3, 4] [(4, some false)] (bA 7 [0, 1, 2, 3, 4]) 2 (by kernel_rfl) (by kernel_rfl) trivial ?_
         refine bindE h1 ?_; clear h1; intro r1364 hr1365 h1
         have hx1366 := ltx hx1348 hg1354.size
         have hk1367 := ho1345.grown hg1354 hx1348 nb
         refine gv_call (f := 22) (vs := [(.agg #[(.bool r1337.1), (.slice a1343 (List.length r1337.2) c1344)]), (.agg #[(.bool r1350.1), (.slice a1356 (List.length r1350.2) c1357)])]) (cap := []) _ (by decide) rfl rfl rfl (by kernel_rfl) (by kernel_rfl) enters22 (ref3_Int_Order_ok fuel a1343 c1344 (r1337.1, r1337.2) a1356 c1357 (r1350.1, r1350.2) w1353 (fun k => X1346 k ∨ X1359 k) (fun k hk => (hk).elim (fun h => hx1366 k h) (fun h => hx1361 k h)) (hk1367.wide (fun k hk => (.inl hk))) (ho1358.wide (fun k hk => (.inr hk))) r1364 hr1365) ?_
         rintro v1370 w1368 ⟨hg1369, rfl⟩
         refine ⟨(fun _ => trivial), ?_⟩
         refine gv_nil <| gv_goA ?_
         refine gv_pre [5, 6] (bA 7 [0, 1, 2, 3, 4, 5, 6]) 0 (by kernel_rfl) (by kernel_rfl) ?_
         refine gv_pureN 2 [121, 127] [(121, (.bool (decide (r1364 < 0))))] (by kernel_rfl) ?_
         refine gv_sub [4, 6, 7, 12, 13, 14, 16, 121] (σ' := [(4, (bp b1)), (6, (bp b13)), (7, (bp b19)), (12, (bp b121)), (13, (bp b127)), (14, (bp b133)), (16, (bp b403)), (121, (.bool (decide (r1364 < 0))))]) (by kernel_rfl) ?_
         refine gv_nil <| gv_goA ?_
         refine gv_stageE (by kernel_rfl) ?_
         refine gv_cond (b := (decide (r1364 < 0))) (by kernel_rfl) (fun hc1371 => ?_) (fun hc1371 => ?_)
         ·replace h1 := ite_t hc1371 h1
          refine gv_region <| bindE h1 ?_; clear h1; intro r1372 hr1373 h1
          refine gv_call0 (by kernel_rfl) rfl (by kernel_rfl) enters13 (ref4_At_ok fuel 4 (-3) w1368  r1372 hr1373) ?_
          rintro v1376 w1374 ⟨hg1375, rfl⟩
          have hg1381 := (grown_trans (grown_trans (grown_trans (grown_trans (grown_trans (grown_trans hg1230 hg1282) hg1331) hg1341) hg1354) hg1369) hg1375)
          have hk1382 := hb1222.grown hg1381 nb
          refine gv_store0 29 0 (.agg #[(.int .i64 r1372.1), (.int .i64 r1372.2)]) #[(.int .i64 r1372.1), (.int .i64 r1372.2)] hk1382 (by kernel_rfl) (by kernel_rfl) (by kernel_rfl) ?_
          intro w1377 hg1378 hb1379 hz1380
          refine gv_nil ?_
          have e := sj h1; subst e
          refine gv_goal fun a hd hs hok => ?_
          have hg1383 := (grown_trans (grown_trans hg1354 hg1369) hg1375)
          have hB1384 := bg hB1352 hg1383 nb
          have hlo1385 : w0.heap.size ≤ b403 := lob hbe407 hB388.size
          have hB1386 := bg hB1384 hg1378 (rowlo hlo1385)
          have hz1387 := (nt (nt (nt (nt hz1363 hg1354.size) hg1369.size) hg1375.size) hg1378.size)
          have lt1388 := ltt lt195 lt413
          have hk1389 := (hb1216.grown hg1381 nb).grown hg1378 (rowne (ng lt1388))
          have hg1390 := (grown_trans hg1341 hg1383)
          have lt1391 := ltt lt93 lt188
          have lt1392 := ltt lt1391 lt149
          have lt1393 := ltt lt1392 lt155
          have lt1394 := ltt lt1393 lt194
          have lt1395 := ltt lt1394 lt413
          have hk1396 := (hk1336.grown hg1390 nb).grown hg1378 (rowne (ng lt1395))
          have lt1397 := ltt lt97 lt188
          have lt1398 := ltt lt1397 lt149
          have lt1399 := ltt lt1398 lt155
          have lt1400 := ltt lt1399 lt194
          have lt1401 := ltt lt1400 lt413
          have hk1402 := (hk1334.grown hg1390 nb).grown hg1378 (rowne (ng lt1401))
          have lt1403 := ltt lt156 lt194
          have lt1404 := ltt lt1403 lt413
          have hk1405 := (hb1219.grown hg1381 nb).grown hg1378 (rowne (ng lt1404))
          have lt1406 := ltt lt155 lt194
          have lt1407 := ltt lt1406 lt413
          have hk1408 := (hb1220.grown hg1381 nb).grown hg1378 (rowne (ng lt1407))
          have lt1409 := ltt lt194 lt413
          have hk1410 := (hb1221.grown hg1381 nb).grown hg1378 (rowne (ng lt1409))
          have hg1411 := (grown_trans (grown_trans hg123 hg129) hg135)
          have hg1412 := (grown_trans hg161 hg178)
          have hx1413 := ltx (ltx (ltx (ltx (ltx (ltx hx119 hg1411.size) hg140.size) hg146.size) hg152.size) hg1412.size) hg183.size
          have hx1414 := ltx (ltx (fun k hk => ltl (hx1413 k hk) hz389) hg405.size) hg410.size
          have ap1415 : ¬ X117 b403 := fun hx => nl ((lowb hbe407) _ rfl) ((fun k hk => ltl (hx1413 k hk) hz389) _ hx)
          have hx1416 := ltx (fun k hk => ltl ((fun k hk => ltl (hx1414 k hk) hz807) k hk) hz1215) hg1381.size
          have hk1417 := (hk1223.grown hg1381 (fun k hk => ltl ((fun k hk => ltl (hx1414 k hk) hz807) k hk) hz1215) nb).grown hg1378 hx1416 (rowne ap1415)
          exact ⟨hB1386, hz1387, hk1389, hk1396, hk1402, hk1405, hk1408, hk1410, hb1379, hk1417, hd, hs, ok_pick [4, 6, 7, 12, 13, 14, 16] hok (by kernel_rfl)⟩
         ·replace h1 := ite_f hc1371 h1
          refine gv_skip ?_
          have e := sj h1; subst e
          refine gv_goal fun a hd hs hok => ?_
          have hg1418 := (grown_trans hg1354 hg1369)
          have hB1419 := bg hB1352 hg1418 nb
          have hz1420 := (nt (nt hz1363 hg1354.size) hg1369.size)
          have hg1421 := (grown_trans (grown_trans (grown_trans (grown_trans hg1230 hg1282) hg1331) hg1341) hg1418)
          have hk1422 := hb1216.grown hg1421 nb
          have hg1423 := (grown_trans hg1341 hg1418)
          have hk1424 := hk1336.grown hg1423 nb
          have hk1425 := hk1334.grown hg1423 nb
          have hk1426 := hb1219.grown hg1421 nb
          have hk1427 := hb1220.grown hg1421 nb
          have hk1428 := hb1221.grown hg1421 nb
          have hk1429 := hb1222.grown hg1421 nb
          have hg1430 := (grown_trans (grown_trans hg123 hg129) hg135)
          have hg1431 := (grown_trans hg161 hg178)
          have hx1432 := ltx (ltx (ltx (ltx (ltx (ltx hx119 hg1430.size) hg140.size) hg146.size) hg152.size) hg1431.size) hg183.size
          have hx1433 := ltx (ltx (fun k hk => ltl (hx1432 k hk) hz389) hg405.size) hg410.size
          have hk1434 := hk1223.grown hg1421 (fun k hk => ltl ((fun k hk => ltl (hx1433 k hk) hz807) k hk) hz1215) nb
          exact ⟨hB1419, hz1420, hk1422, hk1424, hk1425, hk1426, hk1427, hk1428, hk1429, hk1434, hd, hs, ok_pick [4, 6, 7, 12, 13, 14, 16] hok (by kernel_rfl)⟩
     ·rintro a w1225 ⟨hB1435, hz1436, hb1437, hb1438, hb1439, hb1440, hb1441, hb1442, hb1443, hk1444, hd, hs, hok⟩
      refine gv_in ?_ hd hs hok
      clear hd hs hok
      clear hk1223 hb1222 hb1221 hb1220 hb1219 hb1218 hb1217 hb1216 hB1214
      refine gv_blk <| gv_seq <| gv_region <| gv_new0 (fun b => .pointer (some ⟨b, 0, none⟩)) #[(.bool false), (.slice none (List.length ([] : List Int)) 0)] 49 (by kernel_rfl) (by kernel_rfl) ?_
      intro b1445 w1446 hg1447 hb1448 hbe1449 hz1450
      refine gv_nil <| gv_seq <| gv_seq <| gv_region <| gv_pureN 1 [129] [(129, (bp b403))] (by kernel_rfl) ?_
      have hk1451 := hb1443.grown hg1447 nb
      refine gv_load (t := 3) (A := ⟨b403, 0, none⟩) (.int .i64 j1224.1) [] (fun e => by cases e) rfl rfl rfl (by kernel_rfl) (by kernel_rfl) (by kernel_rfl) (inw0 (hk1451.cell 0 rfl)) rfl ?_
      refine gv_pureN 1 [131] [(131, (.bool (j1224.1 == 0)))] (by kernel_rfl) ?_
      refine gv_nil <| bindE h0 ?_; clear h0; intro j1452 h1 h0
      refine gv_cut_code (J := fun a w1453 => ∃ (abb1445_0j : Option Addr) (cbb1445_0j : Nat), ∃ (Xbb1445_0j : Nat → Prop), Below w0.heap.size w0 w1453 ∧ w1446.heap.size ≤ w1453.heap.size ∧ Rd (iE .i64) w1453 Xbb1445_0j abb1445_0j cbb1445_0j j1452.2.2 ∧ (∀ k, Xbb1445_0j k → k < w1453.heap.size) ∧ (∀ k, Xbb1445_0j k → X0 k ∨ w0.heap.size ≤ k) ∧ ¬ Xbb1445_0j b1 ∧ ¬ Xbb1445_0j b13 ∧ ¬ Xbb1445_0j b121 ∧ ¬ Xbb1445_0j b127 ∧ ¬ Xbb1445_0j b133 ∧ ¬ Xbb1445_0j b403 ∧ ¬ Xbb1445_0j b1445 ∧ Box w1453 b1 27 #[(.int .u64 g_0.1), (.int .u64 g_0.2)] ∧ Box w1453 b13 24 #[(.bool low_2.1), (.slice pa2_0 (List.length low_2.2) pc2_0)] ∧ Box w1453 b121 24 #[(.bool r99.1.1), (.slice a114 (List.length r99.1.2) c115)] ∧ Box w1453 b127 27 #[(.int .u64 r99.2.1.1), (.int .u64 r99.2.1.2)] ∧ Box w1453 b133 29 #[(.int .i64 r99.2.2.1), (.int .i64 r99.2.2.2)] ∧ Box w1453 b403 29 #[(.int .i64 j1452.1.1), (.int .i64 j1452.1.2)] ∧ Box w1453 b1445 49 #[(.bool j1452.2.1), (.slice abb1445_0j (List.length j1452.2.2) cbb1445_0j)] ∧ Rd (iE .u32) w1453 X117 a114 c115 r99.1.2 ∧ a.defers = [] ∧ a.tmps.size = 187 ∧ Ok [(4, (bp b1)), (6, (bp b13)), (12, (bp b121)), (13, (bp b127)), (14, (bp b133)), (16, (bp b403)), (20, (bp b1445))] a.tmps) ?_ ?_
      ·skip
       refine gv_cond (b := (j1224.1 == 0)) (by kernel_rfl) (fun hc1454 => ?_) (fun hc1454 => ?_)
       ·replace h1 := ite_t hc1454 h1
        refine gv_seq <| gv_drawA (by kernel_rfl) ?_
        intro w1455 hg1456
        refine gv_stage (Cls w1455 []) [0, 1, 2] [(0, some true), (2, some true), (1, some false)] (bA 9 [0, 1, 2]) 6 (by kernel_rfl) (by kernel_rfl) (Cls.refl _ _) ?_
        have hC1457 := Cls.refl w1455 []
        have hg1458 := (grown_trans hg1447 hg1456)
        have hk1459 := hb1439.grown hg1458 nb
        refine gv_loadBox (t := 24) (b := b19) (t' := 24) (fr := (0, 0)) #[(.bool high_3.1), (.slice pa3_0 (List.length high_3.2) pc3_0)] [] (fun e => by cases e) rfl rfl rfl (by kernel_rfl) (by kernel_rfl) (by kernel_rfl) (by kernel_rfl) (inw1 fun w' hC' => (hC'.box hk1459 nm_nil)) rfl ?_
        have hk1460 := hb1438.grown hg1458 nb
        refine gv_loadBox (t := 24) (b := b13) (t' := 24) (fr := (0, 0)) #[(.bool low_2.1), (.slice pa2_0 (List.length low_2.2) pc2_0)] [] (fun e => by cases e) rfl rfl rfl (by kernel_rfl) (by kernel_rfl) (by kernel_rfl) (by kernel_rfl) (inw1 fun w' hC' => (hC'.box hk1460 nm_nil)) rfl ?_
        refine bindE h1 ?_; clear h1; intro r1461 hr1462 h1
        have hB1463 := bg hB1435 hg1458 nb
        refine gv_call (f := 20) (vs := [(.agg #[(.bool high_3.1), (.slice pa3_0 (List.length high_3.2) pc3_0)])]) (cap := []) _ (by decide) rfl rfl rfl (by kernel_rfl) (by kernel_rfl) enters20 (ref3_IntOf_ok fuel pa3_0 pc3_0 (high_3.1, high_3.2) w1455 (fun k => X0 k) (fun k hk => (fun k (hk : X0 k) => ltl (hX0 k hk) hB1463.size) k hk) ((hpa3_0.below hB1463 hX0).wide (fun k hk => hk)) r1461 hr1462) ?_
        rintro v1466 w1464 ⟨hg1465, a1467, c1468, X1470, rfl, ho1469, hx1471⟩
        refine ⟨(fun _ => hC1457.grown hg1465 nb), ?_⟩
        have hx1472 : ∀ k, X1470 k → k < w1464.heap.size := fun k hk => (hx1471 k hk).1
        have hx1473 : ∀ k, X1470 k → X0 k ∨ w0.heap.size ≤ k := fun k hk => (hx1471 k hk).2.elim (fun h => (fun k (hk : X0 k) => Or.inl hk) k h) (fun h => .inr (Nat.le_trans hB1463.size h))
        refine gv_nil <| gv_goA ?_
        refine gv_stage (fun _ => True) [0, 1, 2, 3] [(3, some false)] (bA 9 [0, 1, 2, 3]) 5 (by kernel_rfl) (by kernel_rfl) trivial ?_
        refine bindE h1 ?_; clear h1; intro r1474 hr1475 h1
        have hB1476 := bg hB1463 hg1465 nb
        refine gv_call (f := 20) (vs := [(.agg #[(.bool low_2.1), (.slice pa2_0 (List.length low_2.2) pc2_0)])]) (cap := []) _ (by decide) rfl rfl rfl (by kernel_rfl) (by kernel_rfl) enters20 (ref3_IntOf_ok fuel pa2_0 pc2_0 (low_2.1, low_2.2) w1464 (fun k => X0 k) (fun k hk => (fun k (hk : X0 k) => ltl (hX0 k hk) hB1476.size) k hk) ((hpa2_0.below hB1476 hX0).wide (fun k hk => hk)) r1474 hr1475) ?_
        rintro v1479 w1477 ⟨hg1478, a1480, c1481, X1483, rfl, ho1482, hx1484⟩
        refine ⟨(fun _ => trivial), ?_⟩
        have hx1485 : ∀ k, X1483 k → k < w1477.heap.size := fun k hk => (hx1484 k hk).1
        have hx1486 : ∀ k, X1483 k → X0 k ∨ w0.heap.size ≤ k := fun k hk => (hx1484 k hk).2.elim (fun h => (fun k (hk : X0 k) => Or.inl hk) k h) (fun h => .inr (Nat.le_trans hB1476.size h))
        refine gv_nil <| gv_goA ?_
        refine gv_stage (fun _ => True) [0, 1, 2, 3, 4] [(4, some false)] (bA 9 [0, 1, 2, 3, 4]) 4 (by kernel_rfl) (by kernel_rfl) trivial ?_
        refine bindE h1 ?_; clear h1; intro r1487 hr1488 h1
        refine gv_call (f := 24) (vs := [(.agg #[(.bool r1474.1), (.slice a1480 (List.length r1474.2) c1481)])]) (cap := []) _ (by decide) rfl rfl rfl (by kernel_rfl) (by kernel_rfl) enters24 (ref3_Int_Minus_ok fuel a1480 c1481 (r1474.1, r1474.2) w1477 (fun k => X1483 k) (fun k hk => hx1485 k hk) (ho1482.wide (fun k hk => hk)) r1487 hr1488) ?_
        rintro v1491 w1489 ⟨hg1490, a1492, c1493, X1495, rfl, ho1494, hx1496⟩
        refine ⟨(fun _ => trivial), ?_⟩
        have hx1497 : ∀ k, X1495 k → k < w1489.heap.size := fun k hk => (hx1496 k hk).1
        have hB1499 := bg hB1476 hg1478 nb
        have hx1498 : ∀ k, X1495 k → X0 k ∨ w0.heap.size ≤ k := fun k hk => (hx1496 k hk).2.elim (fun h => hx1486 k h) (fun h => .inr (Nat.le_trans hB1499.size h))
        have hz1500 := (nt (nt hg1456.size hg1465.size) hg1478.size)
        clear hr1488 hB1476 hr1475 hB1463 hr1462 hg1458 hC1457 hc1454 hz1450 hb1439 hb1438 hk98 lt97 lt83 lt82
        refine gv_nil <| gv_goA ?_
        refine gv_stage (fun _ => True) [0, 1, 2, 3, 4, 5] [(5, some false)] (bA 9 [0, 1, 2, 3, 4, 5]) 3 (by kernel_rfl) (by kernel_rfl) trivial ?_
        refine bindE h1 ?_; clear h1; intro r1501 hr1502 h1
        have hg1503 := (grown_trans hg1478 hg1490)
        have hx1504 := ltx hx1472 hg1503.size
        have hk1505 := ho1469.grown hg1503 hx1472 nb
        refine gv_call (f := 23) (vs := [(.agg #[(.bool r1461.1), (.slice a1467 (List.length r1461.2) c1468)]), (.agg #[(.bool r1487.1), (.slice a1492 (List.length r1487.2) c1493)])]) (cap := []) _ (by decide) rfl rfl rfl (by kernel_rfl) (by kernel_rfl) enters23 (ref3_Int_Plus_ok fuel a1467 c1468 (r1461.1, r1461.2) a1492 c1493 (r1487.1, r1487.2) w1489 (fun k => X1470 k ∨ X1495 k) (fun k hk => (hk).elim (fun h => hx1504 k h) (fun h => hx1497 k h)) (hk1505.wide (fun k hk => (.inl hk))) (ho1494.wide (fun k hk => (.inr hk))) r1501 hr1502) ?_
        rintro v1508 w1506 ⟨hg1507, a1509, c1510, X1512, rfl, ho1511, hx1513⟩
        refine ⟨(fun _ => trivial), ?_⟩
        have hx1514 : ∀ k, X1512 k → k < w1506.heap.size := fun k hk => (hx1513 k hk).1
        have hB1516 := bg hB1499 hg1490 nb
        have hx1515 : ∀ k, X1512 k → X0 k ∨ w0.heap.size ≤ k := fun k hk => (hx1513 k hk).2.elim (fun h => (h).elim (fun h => hx1473 k h) (fun h => hx1498 k h)) (fun h => .inr (Nat.le_trans hB1516.size h))
        refine gv_nil <| gv_goA ?_
        refine gv_stage (fun _ => True) [0, 1, 2, 3, 4, 5, 6] [(6, some false)] (bA 9 [0, 1, 2, 3, 4, 5, 6]) 2 (by kernel_rfl) (by kernel_rfl) trivial ?_
        refine bindE h1 ?_; clear h1; intro r1517 hr1518 h1
        refine gv_call (f := 25) (vs := [(.int .i64 1)]) (cap := []) _ (by decide) rfl rfl rfl (by kernel_rfl) (by kernel_rfl) enters25 (ref3_Number_ok fuel 1 w1506  r1517 hr1518) ?_
        rintro v1521 w1519 ⟨hg1520, a1522, c1523, X1525, rfl, ho1524, hx1526⟩
        refine ⟨(fun _ => trivial), ?_⟩
        have hx1527 : ∀ k, X1525 k → k < w1519.heap.size := fun k hk => (hx1526 k hk).1
        have hB1529 := bg hB1516 hg1507 nb
        have hx1528 : ∀ k, X1525 k → X0 k ∨ w0.heap.size ≤ k := fun k hk => (hx1526 k hk).2.elim (fun h => h.elim) (fun h => .inr (Nat.le_trans hB1529.size h))
        refine gv_nil <| gv_goA ?_
        refine gv_stage (fun _ => True) [0, 1, 2, 3, 4, 5, 6, 7] [(7, some false)] (bA 9 [0, 1, 2, 3, 4, 5, 6, 7]) 1 (by kernel_rfl) (by kernel_rfl) trivial ?_
        refine bindE h1 ?_; clear h1; intro r1530 hr1531 h1
        have hx1532 := ltx hx1514 hg1520.size
        have hk1533 := ho1511.grown hg1520 hx1514 nb
        refine gv_call (f := 23) (vs := [(.agg #[(.bool r1501.1), (.slice a1509 (List.length r1501.2) c1510)]), (.agg #[(.bool r1517.1), (.slice a1522 (List.length r1517.2) c1523)])]) (cap := []) _ (by decide) rfl rfl rfl (by kernel_rfl) (by kernel_rfl) enters23 (ref3_Int_Plus_ok fuel a1509 c1510 (r1501.1, r1501.2) a1522 c1523 (r1517.1, r1517.2) w1519 (fun k => X1512 k ∨ X1525 k) (fun k hk => (hk).elim (fun h => hx1532 k h) (fun h => hx1527 k h)) (hk1533.wide (fun k hk => (.inl hk))) (ho1524.wide (fun k hk => (.inr hk))) r1530 hr1531) ?_
        rintro v1536 w1534 ⟨hg1535, a1537, c1538, X1540, rfl, ho1539, hx1541⟩
        refine ⟨(fun _ => trivial), ?_⟩
        have hx1542 : ∀ k, X1540 k → k < w1534.heap.size := fun k hk => (hx1541 k hk).1
        have hB1544 := bg hB1529 hg1520 nb
        have hx1543 : ∀ k, X1540 k → X0 k ∨ w0.heap.size ≤ k := fun k hk => (hx1541 k hk).2.elim (fun h => (h).elim (fun h => hx1515 k h) (fun h => hx1528 k h)) (fun h => .inr (Nat.le_trans hB1544.size h))
        refine gv_nil <| gv_goA ?_
        refine gv_stage (fun _ => True) [0, 1, 2, 3, 4, 5, 6, 7, 8] [(8, some false)] (bA 9 [0, 1, 2, 3, 4, 5, 6, 7, 8]) 0 (by kernel_rfl) (by kernel_rfl) trivial ?_
        have hg1549 := (grown_trans (grown_trans (grown_trans (grown_trans (grown_trans hg1456 hg1465) hg1503) hg1507) hg1520) hg1535)
        have hk1550 := hb1448.grown hg1549 nb
        refine gv_store (t := 49) (b := b1445) (off := 0) (v := (.agg #[(.bool r1530.1), (.slice a1537 (List.length r1530.2) c1538)])) (t' := 49) (cs := #[(.bool false), (.slice none (List.length ([] : List Int)) 0)]) #[(.bool r1530.1), (.slice a1537 (List.length r1530.2) c1538)] (by decide) rfl rfl (by kernel_rfl) (by kernel_rfl) (by kernel_rfl) (by intro u hu; simp [Value.cells] at hu; rcases hu with rfl | rfl <;> rfl) (show 0 + 2 ≤ 2 by decide) (by rfl) hk1550 ?_
        intro w1545 hg1546 hb1547 hz1548
        refine ⟨(fun _ => trivial), ?_⟩
        refine gv_nil <| gv_goA ?_
        refine gv_stageE (by kernel_rfl) ?_
        refine gv_seq <| gv_region <| gv_loadBox (t := 49) (b := b1445) (t' := 49) (fr := (0, 0)) #[(.bool r1530.1), (.slice a1537 (List.length r1530.2) c1538)] [] (fun e => by cases e) rfl rfl rfl (by kernel_rfl) (by kernel_rfl) (by kernel_rfl) (by kernel_rfl) (inw0 hb1547) rfl ?_
        refine gv_sub [4, 6, 12, 13, 14, 16, 20, 140] (σ' := [(4, (bp b1)), (6, (bp b13)), (12, (bp b121)), (13, (bp b127)), (14, (bp b133)), (16, (bp b403)), (20, (bp b1445)), (140, (.agg #[(.bool r1530.1), (.slice a1537 (List.length r1530.2) c1538)]))]) (by kernel_rfl) ?_
        refine bindE h1 ?_; clear h1; intro r1551 hr1552 h1
        have hx1553 := ltx hx1542 hg1546.size
        have hlo1554 : w0.heap.size ≤ b1445 := lob hbe1449 hB1435.size
        have hk1555 := hb1448.grown hg1456 nb
        have ap1556 : ¬ X1470 b1445 := fun h => ((hx1471 _ h).2.elim (fun h => ((fun (hx : X0 b1445) => nl hlo1554 (hX0 _ hx)))  h) (fun h => nl h (hk1555.lt)))
        have hk1557 := hk1555.grown hg1465 nb
        have ap1558 : ¬ X1483 b1445 := fun h => ((hx1484 _ h).2.elim (fun h => ((fun (hx : X0 b1445) => nl hlo1554 (hX0 _ hx)))  h) (fun h => nl h (hk1557.lt)))
        have hk1559 := hk1557.grown hg1478 nb
        have ap1560 : ¬ X1495 b1445 := fun h => ((hx1496 _ h).2.elim (fun h => (ap1558)  h) (fun h => nl h (hk1559.lt)))
        have hk1561 := hk1559.grown hg1490 nb
        have ap1562 : ¬ X1512 b1445 := fun h => ((hx1513 _ h).2.elim (fun h => (h).elim (fun h => (ap1556)  h) (fun h => (ap1560)  h)) (fun h => nl h (hk1561.lt)))
        have hk1563 := hk1561.grown hg1507 nb
        have ap1564 : ¬ X1525 b1445 := fun h => ((hx1526 _ h).2.elim (fun h => h.elim) (fun h => nl h (hk1563.lt)))
        have hk1565 := hk1563.grown hg1520 nb
        have ap1566 : ¬ X1540 b1445 := fun h => ((hx1541 _ h).2.elim (fun h => (h).elim (fun h => (ap1562)  h) (fun h => (ap1564)  h)) (fun h => nl h (hk1565.lt)))
        have hk1567 := ho1539.grown hg1546 hx1542 (rowne ap1566)
        refine gv_call0 (by kernel_rfl) rfl (by kernel_rfl) enters26 (ref3_Int_Fits_ok fuel a1537 c1538 (r1530.1, r1530.2) 128 w1545 (fun k => X1540 k) (fun k hk => hx1553 k hk) (hk1567.wide (fun k hk => hk)) r1551 hr1552) ?_
        rintro v1570 w1568 ⟨hg1569, rfl⟩
        refine gv_pureN 1 [142] [(142, (.bool (!r1551)))] (by kernel_rfl) ?_
        refine gv_nil <| gv_cond (b := (!r1551)) (by kernel_rfl) (fun hc1571 => ?_) (fun hc1571 => ?_)
        ·replace h1 := ite_t hc1571 h1
         refine gv_region <| bindE h1 ?_; clear h1; intro r1572 hr1573 h1
         refine gv_call0 (by kernel_rfl) rfl (by kernel_rfl) enters13 (ref4_At_ok fuel 14 (-3) w1568  r1572 hr1573) ?_
         rintro v1576 w1574 ⟨hg1575, rfl⟩
         have lt1581 := ltl ((ltb hb1443) _ rfl) ((lowb hbe1449) _ rfl)
         have hg1582 := (grown_trans hg1569 hg1575)
         have hk1583 := ((hk1451.grown hg1549 nb).grown hg1546 (rowne (ng lt1581))).grown hg1582 nb
         refine gv_store0 29 0 (.agg #[(.int .i64 r1572.1), (.int .i64 r1572.2)]) #[(.int .i64 r1572.1), (.int .i64 r1572.2)] hk1583 (by kernel_rfl) (by kernel_rfl) (by kernel_rfl) ?_
         intro w1577 hg1578 hb1579 hz1580
         refine gv_nil ?_
         have e := sj h1; subst e
         refine gv_goal fun a hd hs hok => ?_
         have hB1584 := bg hB1544 hg1535 nb
         have hB1585 := bg hB1584 hg1546 (rowlo hlo1554)
         have hB1586 := bg hB1585 hg1582 nb
         have hlo1587 : w0.heap.size ≤ b403 := lob hbe407 hB388.size
         have hB1588 := bg hB1586 hg1578 (rowlo hlo1587)
         have hz1589 := (nt (nt (nt (nt (nt (nt (nt (nt hz1500 hg1490.size) hg1507.size) hg1520.size) hg1535.size) hg1546.size) hg1569.size) hg1575.size) hg1578.size)
         have hk1590 := hk1451.grown hg1456 nb
         have ap1591 : ¬ X1470 b403 := fun h => ((hx1471 _ h).2.elim (fun h => ((fun (hx : X0 b403) => nl hlo1587 (hX0 _ hx)))  h) (fun h => nl h (hk1590.lt)))
         have hk1592 := hk1590.grown hg1465 nb
         have ap1593 : ¬ X1483 b403 := fun h => ((hx1484 _ h).2.elim (fun h => ((fun (hx : X0 b403) => nl hlo1587 (hX0 _ hx)))  h) (fun h => nl h (hk1592.lt)))
         have hk1594 := hk1592.grown hg1478 nb
         have ap1595 : ¬ X1495 b403 := fun h => ((hx1496 _ h).2.elim (fun h => (ap1593)  h) (fun h => nl h (hk1594.lt)))
         have hk1596 := hk1594.grown hg1490 nb
         have ap1597 : ¬ X1512 b403 := fun h => ((hx1513 _ h).2.elim (fun h => (h).elim (fun h => (ap1591)  h) (fun h => (ap1595)  h)) (fun h => nl h (hk1596.lt)))
         have hk1598 := hk1596.grown hg1507 nb
         have ap1599 : ¬ X1525 b403 := fun h => ((hx1526 _ h).2.elim (fun h => h.elim) (fun h => nl h (hk1598.lt)))
         have hk1600 := hk1598.grown hg1520 nb
         have ap1601 : ¬ X1540 b403 := fun h => ((hx1541 _ h).2.elim (fun h => (h).elim (fun h => (ap1597)  h) (fun h => (ap1599)  h)) (fun h => nl h (hk1600.lt)))
         have hx1602 := ltx hx1553 hg1582.size
         have hk1603 := (hk1567.grown hg1582 hx1553 nb).grown hg1578 hx1602 (rowne ap1601)
         have hx1604 := ltx hx1602 hg1578.size
         have hlo1605 : w0.heap.size ≤ b1 := lob hbe5 hB0.size
         have hg1606 := (grown_trans hg1447 hg1456)
         have hk1607 := hb1437.grown hg1606 nb
         have ap1608 : ¬ X1470 b1 := fun h => ((hx1471 _ h).2.elim (fun h => ((fun (hx : X0 b1) => nl hlo1605 (hX0 _ hx)))  h) (fun h => nl h (hk1607.lt)))
         have hk1609 := hk1607.grown hg1465 nb
         have ap1610 : ¬ X1483 b1 := fun h => ((hx1484 _ h).2.elim (fun h => ((fun (hx : X0 b1) => nl hlo1605 (hX0 _ hx)))  h) (fun h => nl h (hk1609.lt)))
         have hk1611 := hk1609.grown hg1478 nb
         have ap1612 : ¬ X1495 b1 := fun h => ((hx1496 _ h).2.elim (fun h => (ap1610)  h) (fun h => nl h (hk1611.lt)))
         have hk1613 := hk1611.grown hg1490 nb
         have ap1614 : ¬ X1512 b1 := fun h => ((hx1513 _ h).2.elim (fun h => (h).elim (fun h => (ap1608)  h) (fun h => (ap1612)  h)) (fun h => nl h (hk1613.lt)))
         have hk1615 := hk1613.grown hg1507 nb
         have ap1616 : ¬ X1525 b1 := fun h => ((hx1526 _ h).2.elim (fun h => h.elim) (fun h => nl h (hk1615.lt)))
         have hk1617 := hk1615.grown hg1520 nb
         have ap1618 : ¬ X1540 b1 := fun h => ((hx1541 _ h).2.elim (fun h => (h).elim (fun h => (ap1614)  h) (fun h => (ap1616)  h)) (fun h => nl h (hk1617.lt)))
         have hg1619 := (grown_trans hg3 hg9)
         have hB1620 := bg hB0 hg1619 nb
         have hlo1621 : w0.heap.size ≤ b13 := lob hbe17 hB1620.size
         have ap1622 : ¬ X1470 b13 := fun h => ((hx1471 _ h).2.elim (fun h => ((fun (hx : X0 b13) => nl hlo1621 (hX0 _ hx)))  h) (fun h => nl h (hk1460.lt)))
         have hk1623 := hk1460.grown hg1465 nb
         have ap1624 : ¬ X1483 b13 := fun h => ((hx1484 _ h).2.elim (fun h => ((fun (hx : X0 b13) => nl hlo1621 (hX0 _ hx)))  h) (fun h => nl h (hk1623.lt)))
         have hk1625 := hk1623.grown hg1478 nb
         have ap1626 : ¬ X1495 b13 := fun h => ((hx1496 _ h).2.elim (fun h => (ap1624)  h) (fun h => nl h (hk1625.lt)))
         have hk1627 := hk1625.grown hg1490 nb
         have ap1628 : ¬ X1512 b13 := fun h => ((hx1513 _ h).2.elim (fun h => (h).elim (fun h => (ap1622)  h) (fun h => (ap1626)  h)) (fun h => nl h (hk1627.lt)))
         have hk1629 := hk1627.grown hg1507 nb
         have ap1630 : ¬ X1525 b13 := fun h => ((hx1526 _ h).2.elim (fun h => h.elim) (fun h => nl h (hk1629.lt)))
         have hk1631 := hk1629.grown hg1520 nb
         have ap1632 : ¬ X1540 b13 := fun h => ((hx1541 _ h).2.elim (fun h => (h).elim (fun h => (ap1628)  h) (fun h => (ap1630)  h)) (fun h => nl h (hk1631.lt)))
         have hB1633 := bg hB110 hg112 nb
         have hlo1634 : w0.heap.size ≤ b121 := lob hbe125 hB1633.size
         have hk1635 := hb1440.grown hg1606 nb
         have ap1636 : ¬ X1470 b121 := fun h => ((hx1471 _ h).2.elim (fun h => ((fun (hx : X0 b121) => nl hlo1634 (hX0 _ hx)))  h) (fun h => nl h (hk1635.lt)))
         have hk1637 := hk1635.grown hg1465 nb
         have ap1638 : ¬ X1483 b121 := fun h => ((hx1484 _ h).2.elim (fun h => ((fun (hx : X0 b121) => nl hlo1634 (hX0 _ hx)))  h) (fun h => nl h (hk1637.lt)))
         have hk1639 := hk1637.grown hg1478 nb
         have ap1640 : ¬ X1495 b121 := fun h => ((hx1496 _ h).2.elim (fun h => (ap1638)  h) (fun h => nl h (hk1639.lt)))
         have hk1641 := hk1639.grown hg1490 nb
         have ap1642 : ¬ X1512 b121 := fun h => ((hx1513 _ h).2.elim (fun h => (h).elim (fun h => (ap1636)  h) (fun h => (ap1640)  h)) (fun h => nl h (hk1641.lt)))
         have hk1643 := hk1641.grown hg1507 nb
         have ap1644 : ¬ X1525 b121 := fun h => ((hx1526 _ h).2.elim (fun h => h.elim) (fun h => nl h (hk1643.lt)))
         have hk1645 := hk1643.grown hg1520 nb
         have ap1646 : ¬ X1540 b121 := fun h => ((hx1541 _ h).2.elim (fun h => (h).elim (fun h => (ap1642)  h) (fun h => (ap1644)  h)) (fun h => nl h (hk1645.lt)))
         have hB1647 := bg hB1633 hg123 nb
         have hlo1648 : w0.heap.size ≤ b127 := lob hbe131 hB1647.size
         have hk1649 := hb1441.grown hg1606 nb
         have ap1650 : ¬ X1470 b127 := fun h => ((hx1471 _ h).2.elim (fun h => ((fun (hx : X0 b127) => nl hlo1648 (hX0 _ hx)))  h) (fun h => nl h (hk1649.lt)))
         have hk1651 := hk1649.grown hg1465 nb
         have ap1652 : ¬ X1483 b127 := fun h => ((hx1484 _ h).2.elim (fun h => ((fun (hx : X0 b127) => nl hlo1648 (hX0 _ hx)))  h) (fun h => nl h (hk1651.lt)))
         have hk1653 := hk1651.grown hg1478 nb
         have ap1654 : ¬ X1495 b127 := fun h => ((hx1496 _ h).2.elim (fun h => (ap1652)  h) (fun h => nl h (hk1653.lt)))
         have hk1655 := hk1653.grown hg1490 nb
         have ap1656 : ¬ X1512 b127 := fun h => ((hx1513 _ h).2.elim (fun h => (h).elim (fun h => (ap1650)  h) (fun h => (ap1654)  h)) (fun h => nl h (hk1655.lt)))
         have hk1657 := hk1655.grown hg1507 nb
         have ap1658 : ¬ X1525 b127 := fun h => ((hx1526 _ h).2.elim (fun h => h.elim) (fun h => nl h (hk1657.lt)))
         have hk1659 := hk1657.grown hg1520 nb
         have ap1660 : ¬ X1540 b127 := fun h => ((hx1541 _ h).2.elim (fun h => (h).elim (fun h => (ap1656)  h) (fun h => (ap1658)  h)) (fun h => nl h (hk1659.lt)))
         have hB1661 := bg hB1647 hg129 nb
         have hlo1662 : w0.heap.size ≤ b133 := lob hbe137 hB1661.size
         have hk1663 := hb1442.grown hg1606 nb
         have ap1664 : ¬ X1470 b133 := fun h => ((hx1471 _ h).2.elim (fun h => ((fun (hx : X0 b133) => nl hlo1662 (hX0 _ hx)))  h) (fun h => nl h (hk1663.lt)))
         have hk1665 := hk1663.grown hg1465 nb
         have ap1666 : ¬ X1483 b133 := fun h => ((hx1484 _ h).2.elim (fun h => ((fun (hx : X0 b133) => nl hlo1662 (hX0 _ hx)))  h) (fun h => nl h (hk1665.lt)))
         have hk1667 := hk1665.grown hg1478 nb
         have ap1668 : ¬ X1495 b133 := fun h => ((hx1496 _ h).2.elim (fun h => (ap1666)  h) (fun h => nl h (hk1667.lt)))
         have hk1669 := hk1667.grown hg1490 nb
         have ap1670 : ¬ X1512 b133 := fun h => ((hx1513 _ h).2.elim (fun h => (h).elim (fun h => (ap1664)  h) (fun h => (ap1668)  h)) (fun h => nl h (hk1669.lt)))
         have hk1671 := hk1669.grown hg1507 nb
         have ap1672 : ¬ X1525 b133 := fun h => ((hx1526 _ h).2.elim (fun h => h.elim) (fun h => nl h (hk1671.lt)))
         have hk1673 := hk1671.grown hg1520 nb
         have ap1674 : ¬ X1540 b133 := fun h => ((hx1541 _ h).2.elim (fun h => (h).elim (fun h => (ap1670)  h) (fun h => (ap1672)  h)) (fun h => nl h (hk1673.lt)))
         have lt1675 := ltt lt195 lt413
         have lt1676 := ltt lt1675 lt1581
         have hk1677 := (((hk1617.grown hg1535 nb).grown hg1546 (rowne (ng lt1676))).grown hg1582 nb).grown hg1578 (rowne (ng lt1675))
         have lt1678 := ltt lt93 lt188
         have lt1679 := ltt lt1678 lt149
         have lt1680 := ltt lt1679 lt155
         have lt1681 := ltt lt1680 lt194
         have lt1682 := ltt lt1681 lt413
         have lt1683 := ltt lt1682 lt1581
         have hk1684 := (((hk1631.grown hg1535 nb).grown hg1546 (rowne (ng lt1683))).grown hg1582 nb).grown hg1578 (rowne (ng lt1682))
         have lt1685 := ltt lt156 lt194
         have lt1686 := ltt lt1685 lt413
         have lt1687 := ltt lt1686 lt1581
         have hk1688 := (((hk1645.grown hg1535 nb).grown hg1546 (rowne (ng lt1687))).grown hg1582 nb).grown hg1578 (rowne (ng lt1686))
         have lt1689 := ltt lt155 lt194
         have lt1690 := ltt lt1689 lt413
         have lt1691 := ltt lt1690 lt1581
         have hk1692 := (((hk1659.grown hg1535 nb).grown hg1546 (rowne (ng lt1691))).grown hg1582 nb).grown hg1578 (rowne (ng lt1690))
         have lt1693 := ltt lt194 lt413
         have lt1694 := ltt lt1693 lt1581
         have hk1695 := (((hk1673.grown hg1535 nb).grown hg1546 (rowne (ng lt1694))).grown hg1582 nb).grown hg1578 (rowne (ng lt1693))
         have hk1696 := (hb1547.grown hg1582 nb).grown hg1578 (rowne (Nat.ne_of_lt lt1581))
         have hg1697 := (grown_trans (grown_trans (grown_trans (grown_trans (grown_trans hg1606 hg1465) hg1503) hg1507) hg1520) hg1535)
         have hg1698 := (grown_trans (grown_trans hg123 hg129) hg135)
         have hg1699 := (grown_trans hg161 hg178)
         have hx1700 := ltx (ltx (ltx (ltx (ltx (ltx hx119 hg1698.size) hg140.size) hg146.size) hg152.size) hg1699.size) hg183.size
         have hx1701 := ltx (ltx (fun k hk => ltl (hx1700 k hk) hz389) hg405.size) hg410.size
         have ap1702 : ¬ X117 b1445 := fun hx => nl ((lowb hbe1449) _ rfl) ((fun k hk => ltl ((fun k hk => ltl ((fun k hk => ltl (hx1701 k hk) hz807) k hk) hz1215) k hk) hz1436) _ hx)
         have hx1703 := ltx (fun k hk => ltl ((fun k hk => ltl ((fun k hk => ltl (hx1701 k hk) hz807) k hk) hz1215) k hk) hz1436) hg1697.size
         have hx1704 := ltx hx1703 hg1546.size
         have ap1705 : ¬ X117 b403 := fun hx => nl ((lowb hbe407) _ rfl) ((fun k hk => ltl (hx1700 k hk) hz389) _ hx)
         have hx1706 := ltx hx1704 hg1582.size
         have hk1707 := (((hk1444.grown hg1697 (fun k hk => ltl ((fun k hk => ltl ((fun k hk => ltl (hx1701 k hk) hz807) k hk) hz1215) k hk) hz1436) nb).grown hg1546 hx1703 (rowne ap1702)).grown hg1582 hx1704 nb).grown hg1578 hx1706 (rowne ap1705)
         exact ⟨a1537, c1538, X1540, hB1588, hz1589, hk1603, hx1604, hx1543, ap1618, ap1632, ap1646, ap1660, ap1674, ap1601, ap1566, hk1677, hk1684, hk1688, hk1692, hk1695, hb1579, hk1696, hk1707, hd, hs, ok_pick [4, 6, 12, 13, 14, 16, 20] hok (by kernel_rfl)⟩
        ·replace h1 := ite_f hc1571 h1
         refine gv_skip ?_
         have e := sj h1; subst e
         refine gv_goal fun a hd hs hok => ?_
         have hB1708 := bg hB1544 hg1535 nb
         have hB1709 := bg hB1708 hg1546 (rowlo hlo1554)
         have hB1710 := bg hB1709 hg1569 nb
         have hz1711 := (nt (nt (nt (nt (nt (nt hz1500 hg1490.size) hg1507.size) hg1520.size) hg1535.size) hg1546.size) hg1569.size)
         have hk1712 := hk1567.grown hg1569 hx1553 nb
         have hx1713 := ltx hx1553 hg1569.size
         have hlo1714 : w0.heap.size ≤ b1 := lob hbe5 hB0.size
         have hg1715 := (grown_trans hg1447 hg1456)
         have hk1716 := hb1437.grown hg1715 nb
         have ap1717 : ¬ X1470 b1 := fun h => ((hx1471 _ h).2.elim (fun h => ((fun (hx : X0 b1) => nl hlo1714 (hX0 _ hx)))  h) (fun h => nl h (hk1716.lt)))
         have hk1718 := hk1716.grown hg1465 nb
         have ap1719 : ¬ X1483 b1 := fun h => ((hx1484 _ h).2.elim (fun h => ((fun (hx : X0 b1) => nl hlo1714 (hX0 _ hx)))  h) (fun h => nl h (hk1718.lt)))
         have hk1720 := hk1718.grown hg1478 nb
         have ap1721 : ¬ X1495 b1 := fun h => ((hx1496 _ h).2.elim (fun h => (ap1719)  h) (fun h => nl h (hk1720.lt)))
         have hk1722 := hk1720.grown hg1490 nb
         have ap1723 : ¬ X1512 b1 := fun h => ((hx1513 _ h).2.elim (fun h => (h).elim (fun h => (ap1717)  h) (fun h => (ap1721)  h)) (fun h => nl h (hk1722.lt)))
         have hk1724 := hk1722.grown hg1507 nb
         have ap1725 : ¬ X1525 b1 := fun h => ((hx1526 _ h).2.elim (fun h => h.elim) (fun h => nl h (hk1724.lt)))
         have hk1726 := hk1724.grown hg1520 nb
         have ap1727 : ¬ X1540 b1 := fun h => ((hx1541 _ h).2.elim (fun h => (h).elim (fun h => (ap1723)  h) (fun h => (ap1725)  h)) (fun h => nl h (hk1726.lt)))
         have hg1728 := (grown_trans hg3 hg9)
         have hB1729 := bg hB0 hg1728 nb
         have hlo1730 : w0.heap.size ≤ b13 := lob hbe17 hB1729.size
         have ap1731 : ¬ X1470 b13 := fun h => ((hx1471 _ h).2.elim (fun h => ((fun (hx : X0 b13) => nl hlo1730 (hX0 _ hx)))  h) (fun h => nl h (hk1460.lt)))
         have hk1732 := hk1460.grown hg1465 nb
         have ap1733 : ¬ X1483 b13 := fun h => ((hx1484 _ h).2.elim (fun h => ((fun (hx : X0 b13) => nl hlo1730 (hX0 _ hx)))  h) (fun h => nl h (hk1732.lt)))
         have hk1734 := hk1732.grown hg1478 nb
         have ap1735 : ¬ X1495 b13 := fun h => ((hx1496 _ h).2.elim (fun h => (ap1733)  h) (fun h => nl h (hk1734.lt)))
         have hk1736 := hk1734.grown hg1490 nb
         have ap1737 : ¬ X1512 b13 := fun h => ((hx1513 _ h).2.elim (fun h => (h).elim (fun h => (ap1731)  h) (fun h => (ap1735)  h)) (fun h => nl h (hk1736.lt)))
         have hk1738 := hk1736.grown hg1507 nb
         have ap1739 : ¬ X1525 b13 := fun h => ((hx1526 _ h).2.elim (fun h => h.elim) (fun h => nl h (hk1738.lt)))
         have hk1740 := hk1738.grown hg1520 nb
         have ap1741 : ¬ X1540 b13 := fun h => ((hx1541 _ h).2.elim (fun h => (h).elim (fun h => (ap1737)  h) (fun h => (ap1739)  h)) (fun h => nl h (hk1740.lt)))
         have hB1742 := bg hB110 hg112 nb
         have hlo1743 : w0.heap.size ≤ b121 := lob hbe125 hB1742.size
         have hk1744 := hb1440.grown hg1715 nb
         have ap1745 : ¬ X1470 b121 := fun h => ((hx1471 _ h).2.elim (fun h => ((fun (hx : X0 b121) => nl hlo1743 (hX0 _ hx)))  h) (fun h => nl h (hk1744.lt)))
         have hk1746 := hk1744.grown hg1465 nb
         have ap1747 : ¬ X1483 b121 := fun h => ((hx1484 _ h).2.elim (fun h => ((fun (hx : X0 b121) => nl hlo1743 (hX0 _ hx)))  h) (fun h => nl h (hk1746.lt)))
         have hk1748 := hk1746.grown hg1478 nb
         have ap1749 : ¬ X1495 b121 := fun h => ((hx1496 _ h).2.elim (fun h => (ap1747)  h) (fun h => nl h (hk1748.lt)))
         have hk1750 := hk1748.grown hg1490 nb
         have ap1751 : ¬ X1512 b121 := fun h => ((hx1513 _ h).2.elim (fun h => (h).elim (fun h => (ap1745)  h) (fun h => (ap1749)  h)) (fun h => nl h (hk1750.lt)))
         have hk1752 := hk1750.grown hg1507 nb
         have ap1753 : ¬ X1525 b121 := fun h => ((hx1526 _ h).2.elim (fun h => h.elim) (fun h => nl h (hk1752.lt)))
         have hk1754 := hk1752.grown hg1520 nb
         have ap1755 : ¬ X1540 b121 := fun h => ((hx1541 _ h).2.elim (fun h => (h).elim (fun h => (ap1751)  h) (fun h => (ap1753)  h)) (fun h => nl h (hk1754.lt)))
         have hB1756 := bg hB1742 hg123 nb
         have hlo1757 : w0.heap.size ≤ b127 := lob hbe131 hB1756.size
         have hk1758 := hb1441.grown hg1715 nb
         have ap1759 : ¬ X1470 b127 := fun h => ((hx1471 _ h).2.elim (fun h => ((fun (hx : X0 b127) => nl hlo1757 (hX0 _ hx)))  h) (fun h => nl h (hk1758.lt)))
         have hk1760 := hk1758.grown hg1465 nb
         have ap1761 : ¬ X1483 b127 := fun h => ((hx1484 _ h).2.elim (fun h => ((fun (hx : X0 b127) => nl hlo1757 (hX0 _ hx)))  h) (fun h => nl h (hk1760.lt)))
         have hk1762 := hk1760.grown hg1478 nb
         have ap1763 : ¬ X1495 b127 := fun h => ((hx1496 _ h).2.elim (fun h => (ap1761)  h) (fun h => nl h (hk1762.lt)))
         have hk1764 := hk1762.grown hg1490 nb
         have ap1765 : ¬ X1512 b127 := fun h => ((hx1513 _ h).2.elim (fun h => (h).elim (fun h => (ap1759)  h) (fun h => (ap1763)  h)) (fun h => nl h (hk1764.lt)))
         have hk1766 := hk1764.grown hg1507 nb
         have ap1767 : ¬ X1525 b127 := fun h => ((hx1526 _ h).2.elim (fun h => h.elim) (fun h => nl h (hk1766.lt)))
         have hk1768 := hk1766.grown hg1520 nb
         have ap1769 : ¬ X1540 b127 := fun h => ((hx1541 _ h).2.elim (fun h => (h).elim (fun h => (ap1765)  h) (fun h => (ap1767)  h)) (fun h => nl h (hk1768.lt)))
         have hB1770 := bg hB1756 hg129 nb
         have hlo1771 : w0.heap.size ≤ b133 := lob hbe137 hB1770.size
         have hk1772 := hb1442.grown hg1715 nb
         have ap1773 : ¬ X1470 b133 := fun h => ((hx1471 _ h).2.elim (fun h => ((fun (hx : X0 b133) => nl hlo1771 (hX0 _ hx)))  h) (fun h => nl h (hk1772.lt)))
         have hk1774 := hk1772.grown hg1465 nb
         have ap1775 : ¬ X1483 b133 := fun h => ((hx1484 _ h).2.elim (fun h => ((fun (hx : X0 b133) => nl hlo1771 (hX0 _ hx)))  h) (fun h => nl h (hk1774.lt)))
         have hk1776 := hk1774.grown hg1478 nb
         have ap1777 : ¬ X1495 b133 := fun h => ((hx1496 _ h).2.elim (fun h => (ap1775)  h) (fun h => nl h (hk1776.lt)))
         have hk1778 := hk1776.grown hg1490 nb
         have ap1779 : ¬ X1512 b133 := fun h => ((hx1513 _ h).2.elim (fun h => (h).elim (fun h => (ap1773)  h) (fun h => (ap1777)  h)) (fun h => nl h (hk1778.lt)))
         have hk1780 := hk1778.grown hg1507 nb
         have ap1781 : ¬ X1525 b133 := fun h => ((hx1526 _ h).2.elim (fun h => h.elim) (fun h => nl h (hk1780.lt)))
         have hk1782 := hk1780.grown hg1520 nb
         have ap1783 : ¬ X1540 b133 := fun h => ((hx1541 _ h).2.elim (fun h => (h).elim (fun h => (ap1779)  h) (fun h => (ap1781)  h)) (fun h => nl h (hk1782.lt)))
         have hlo1784 : w0.heap.size ≤ b403 := lob hbe407 hB388.size
         have hk1785 := hk1451.grown hg1456 nb
         have ap1786 : ¬ X1470 b403 := fun h => ((hx1471 _ h).2.elim (fun h => ((fun (hx : X0 b403) => nl hlo1784 (hX0 _ hx)))  h) (fun h => nl h (hk1785.lt)))
         have hk1787 := hk1785.grown hg1465 nb
         have ap1788 : ¬ X1483 b403 := fun h => ((hx1484 _ h).2.elim (fun h => ((fun (hx : X0 b403) => nl hlo1784 (hX0 _ hx)))  h) (fun h => nl h (hk1787.lt)))
         have hk1789 := hk1787.grown hg1478 nb
         have ap1790 : ¬ X1495 b403 := fun h => ((hx1496 _ h).2.elim (fun h => (ap1788)  h) (fun h => nl h (hk1789.lt)))
         have hk1791 := hk1789.grown hg1490 nb
         have ap1792 : ¬ X1512 b403 := fun h => ((hx1513 _ h).2.elim (fun h => (h).elim (fun h => (ap1786)  h) (fun h => (ap1790)  h)) (fun h => nl h (hk1791.lt)))
         have hk1793 := hk1791.grown hg1507 nb
         have ap1794 : ¬ X1525 b403 := fun h => ((hx1526 _ h).2.elim (fun h => h.elim) (fun h => nl h (hk1793.lt)))
         have hk1795 := hk1793.grown hg1520 nb
         have ap1796 : ¬ X1540 b403 := fun h => ((hx1541 _ h).2.elim (fun h => (h).elim (fun h => (ap1792)  h) (fun h => (ap1794)  h)) (fun h => nl h (hk1795.lt)))
         have lt1797 := ltt lt195 lt413
         have lt1798 := ltl ((ltb hb1443) _ rfl) ((lowb hbe1449) _ rfl)
         have lt1799 := ltt lt1797 lt1798
         have hk1800 := ((hk1726.grown hg1535 nb).grown hg1546 (rowne (ng lt1799))).grown hg1569 nb
         have lt1801 := ltt lt93 lt188
         have lt1802 := ltt lt1801 lt149
         have lt1803 := ltt lt1802 lt155
         have lt1804 := ltt lt1803 lt194
         have lt1805 := ltt lt1804 lt413
         have lt1806 := ltt lt1805 lt1798
         have hk1807 := ((hk1740.grown hg1535 nb).grown hg1546 (rowne (ng lt1806))).grown hg1569 nb
         have lt1808 := ltt lt156 lt194
         have lt1809 := ltt lt1808 lt413
         have lt1810 := ltt lt1809 lt1798
         have hk1811 := ((hk1754.grown hg1535 nb).grown hg1546 (rowne (ng lt1810))).grown hg1569 nb
         have lt1812 := ltt lt155 lt194
         have lt1813 := ltt lt1812 lt413
         have lt1814 := ltt lt1813 lt1798
         have hk1815 := ((hk1768.grown hg1535 nb).grown hg1546 (rowne (ng lt1814))).grown hg1569 nb
         have lt1816 := ltt lt194 lt413
         have lt1817 := ltt lt1816 lt1798
         have hk1818 := ((hk1782.grown hg1535 nb).grown hg1546 (rowne (ng lt1817))).grown hg1569 nb
         have hk1819 := ((hk1795.grown hg1535 nb).grown hg1546 (rowne (ng lt1798))).grown hg1569 nb
         have hk1820 := hb1547.grown hg1569 nb
         have hg1821 := (grown_trans (grown_trans (grown_trans (grown_trans (grown_trans hg1715 hg1465) hg1503) hg1507) hg1520) hg1535)
         have hg1822 := (grown_trans (grown_trans hg123 hg129) hg135)
         have hg1823 := (grown_trans hg161 hg178)
         have hx1824 := ltx (ltx (ltx (ltx (ltx (ltx hx119 hg1822.size) hg140.size) hg146.size) hg152.size) hg1823.size) hg183.size
         have hx1825 := ltx (ltx (fun k hk => ltl (hx1824 k hk) hz389) hg405.size) hg410.size
         have ap1826 : ¬ X117 b1445 := fun hx => nl ((lowb hbe1449) _ rfl) ((fun k hk => ltl ((fun k hk => ltl ((fun k hk => ltl (hx1825 k hk) hz807) k hk) hz1215) k hk) hz1436) _ hx)
         have hx1827 := ltx (fun k hk => ltl ((fun k hk => ltl ((fun k hk => ltl (hx1825 k hk) hz807) k hk) hz1215) k hk) hz1436) hg1821.size
         have hx1828 := ltx hx1827 hg1546.size
         have hk1829 := ((hk1444.grown hg1821 (fun k hk => ltl ((fun k hk => ltl ((fun k hk => ltl (hx1825 k hk) hz807) k hk) hz1215) k hk) hz1436) nb).grown hg1546 hx1827 (rowne ap1826)).grown hg1569 hx1828 nb
         exact ⟨a1537, c1538, X1540, hB1710, hz1711, hk1712, hx1713, hx1543, ap1727, ap1741, ap1755, ap1769, ap1783, ap1796, ap1566, hk1800, hk1807, hk1811, hk1815, hk1818, hk1819, hk1820, hk1829, hd, hs, ok_pick [4, 6, 12, 13, 14, 16, 20] hok (by kernel_rfl)⟩
       ·replace h1 := ite_f hc1454 h1
        refine gv_skip ?_
        have e := sj h1; subst e
        refine gv_goal fun a hd hs hok => ?_
        have hB1830 := bg hB1435 hg1447 nb
        have hk1831 := hb1437.grown hg1447 nb
        have hk1832 := hb1438.grown hg1447 nb
        have hk1833 := hb1440.grown hg1447 nb
        have hk1834 := hb1441.grown hg1447 nb
        have hk1835 := hb1442.grown hg1447 nb
        have hg1836 := (grown_trans (grown_trans hg123 hg129) hg135)
        have hg1837 := (grown_trans hg161 hg178)
        have hx1838 := ltx (ltx (ltx (ltx (ltx (ltx hx119 hg1836.size) hg140.size) hg146.size) hg152.size) hg1837.size) hg183.size
        have hx1839 := ltx (ltx (fun k hk => ltl (hx1838 k hk) hz389) hg405.size) hg410.size
        have hk1840 := hk1444.grown hg1447 (fun k hk => ltl ((fun k hk => ltl ((fun k hk => ltl (hx1839 k hk) hz807) k hk) hz1215) k hk) hz1436) nb
        exact ⟨none, 0, (fun _ => False), hB1830, (Nat.le_refl _), (Rd.nil (iE .i64) w1446 (fun _ => False) none 0), (fun _ h => h.elim), (fun _ h => h.elim), (fun h => by cases h), (fun h => by cases h), (fun h => by cases h), (fun h => by cases h), (fun h => by cases h), (fun h => by cases h), (fun h => by cases h), hk1831, hk1832, hk1833, hk1834, hk1835, hk1451, hb1448, hk1840, hd, hs, ok_pick [4, 6, 12, 13, 14, 16, 20] hok (by kernel_rfl)⟩
      ·rintro a w1453 ⟨a1843, c1844, X1843, hB1841, hz1842, hr1845, hx1846, hx1847, ap1848, ap1849, ap1850, ap1851, ap1852, ap1853, ap1854, hb1855, hb1856, hb1857, hb1858, hb1859, hb1860, hb1861, hk1862, hd, hs, hok⟩
       refine gv_in ?_ hd hs hok
       clear hd hs hok
       clear hk1451 hz1450 hb1448 hk1444 hb1442 hb1441 hb1440 hb1439 hb1438 hb1437 hk98 lt97 lt83 lt82 hbe23 hg15
       refine gv_seq <| gv_seq <| gv_region <| gv_pureN 1 [144] [(144, (bp b403))] (by kernel_rfl) ?_
       refine gv_load (t := 3) (A := ⟨b403, 0, none⟩) (.int .i64 j1452.1.1) [] (fun e => by cases e) rfl rfl rfl (by kernel_rfl) (by kernel_rfl) (by kernel_rfl) (inw0 (hb1860.cell 0 rfl)) rfl ?_
       refine gv_pureN 1 [146] [(146, (.bool (j1452.1.1 != 0)))] (by kernel_rfl) ?_
       refine gv_nil <| gv_cond (b := (j1452.1.1 != 0)) (by kernel_rfl) (fun hc1863 => ?_) (fun hc1863 => ?_)
       ·replace h0 := ite_t hc1863 h0
        refine gv_seq <| gv_region <| bindE h0 ?_; clear h0; intro j1864 h1 h0
        refine gv_cut_ops (J := fun a w1865 => Below w0.heap.size w0 w1865 ∧ w1453.heap.size ≤ w1865.heap.size ∧ a.defers = [] ∧ a.tmps.size = 187 ∧ Ok [(8, (.bool j1864))] a.tmps) ?_ ?_
        ·skip
         refine gv_loadBox (t := 29) (b := b133) (t' := 29) (fr := (0, 0)) #[(.int .i64 r99.2.2.1), (.int .i64 r99.2.2.2)] [] (fun e => by cases e) rfl rfl rfl (by kernel_rfl) (by kernel_rfl) (by kernel_rfl) (by kernel_rfl) (inw0 hb1859) rfl ?_
         refine gv_loadBox (t := 29) (b := b403) (t' := 29) (fr := (0, 0)) #[(.int .i64 j1452.1.1), (.int .i64 j1452.1.2)] [] (fun e => by cases e) rfl rfl rfl (by kernel_rfl) (by kernel_rfl) (by kernel_rfl) (by kernel_rfl) (inw0 hb1860) rfl ?_
         refine gv_eqs (t := 29) (op := .eql) (x := (.tmp 147)) (y := (.tmp 148)) (xs := #[(.int .i64 r99.2.2.1), (.int .i64 r99.2.2.2)]) (ys := #[(.int .i64 j1452.1.1), (.int .i64 j1452.1.2)]) ((r99.2.2.1 == j1452.1.1) && (r99.2.2.2 == j1452.1.2)) [] (fun e => by cases e) rfl rfl rfl (by kernel_rfl) (by kernel_rfl) (fun w' => eqs29eql r99.2.2.1 r99.2.2.2 j1452.1.1 j1452.1.2 _ _ w') rfl ?_
         refine gv_pureN 1 [150] [(150, (.bool ((r99.2.2.1 == j1452.1.1) && (r99.2.2.2 == j1452.1.2))))] (by kernel_rfl) ?_
         refine gv_split (s := 150) (g := ((r99.2.2.1 == j1452.1.1) && (r99.2.2.2 == j1452.1.2))) (by kernel_rfl) (fun hc1866 => ?_) (fun hc1866 => ?_)
         ·skip
          replace h1 := ite_t hc1866 h1
          refine gv_loadBox (t := 24) (b := b121) (t' := 24) (fr := (0, 0)) #[(.bool r99.1.1), (.slice a114 (List.length r99.1.2) c115)] [] (fun e => by cases e) rfl rfl rfl (by kernel_rfl) (by kernel_rfl) (by kernel_rfl) (by kernel_rfl) (inw0 hb1857) rfl ?_
          refine bindE h1 ?_; clear h1; intro r1867 hr1868 h1
          have hg1869 := (grown_trans (grown_trans hg123 hg129) hg135)
          have hg1870 := (grown_trans hg161 hg178)
          have hx1871 := ltx (ltx (ltx (ltx (ltx (ltx hx119 hg1869.size) hg140.size) hg146.size) hg152.size) hg1870.size) hg183.size
          have hx1872 := ltx (ltx (fun k hk => ltl (hx1871 k hk) hz389) hg405.size) hg410.size
          have hx1873 := ltx (fun k hk => ltl ((fun k hk => ltl ((fun k hk => ltl (hx1872 k hk) hz807) k hk) hz1215) k hk) hz1436) hg1447.size
          refine gv_call0 (by kernel_rfl) rfl (by kernel_rfl) enters18 (ref3_NoInt_ok fuel a114 c115 (r99.1.1, r99.1.2) w1453 (fun k => X117 k) (fun k hk => (fun k hk => ltl (hx1873 k hk) hz1842) k hk) (hk1862.wide (fun k hk => hk)) r1867 hr1868) ?_
          rintro v1876 w1874 ⟨hg1875, rfl⟩
          clear hx1873 hx1872 hx1871 hg1870 hg1869 hr1868 hc1866 hc1863 hk1862 hb1861 hb1860 hb1859 hb1857 hb1856 hb1855 ap1854 ap1853 ap1852 ap1851 ap1850 ap1849 ap1848 hx1847 hx1846 hr1845 hz1842 hbe1449 hg1447 hb1443 hz1436 hB1435 hz1215 hz807 lt413 hg410 hbe407 hg405 hz389 hB388 lt195 lt194 lt191 lt190 lt189 lt188 hg183 hg178 hg161 hg152 lt156 lt155 hg146 lt149 hg140 hbe137 hg135 hg129 hbe125 hx120 hx119 hx118 hk94 lt93 hk89 lt81 hbe17 hg9 hbe5 hg3
          refine gv_pureN 2 [153, 154] [(154, (.bool r1867))] (by kernel_rfl) ?_
          refine gv_split (s := 154) (g := r1867) (by kernel_rfl) (fun hc1877 => ?_) (fun hc1877 => ?_)
          ·skip
           replace h1 := ite_t hc1877 h1
           have hk1878 := hb1858.grown hg1875 nb
           refine gv_loadBox (t := 27) (b := b127) (t' := 27) (fr := (0, 0)) #[(.int .u64 r99.2.1.1), (.int .u64 r99.2.1.2)] [] (fun e => by cases e) rfl rfl rfl (by kernel_rfl) (by kernel_rfl) (by kernel_rfl) (by kernel_rfl) (inw0 hk1878) rfl ?_
           refine gv_pureN 1 [156] [(156, (.agg #[(.int .u64 0), (.int .u64 0)]))] (by kernel_rfl) ?_
           refine gv_eqs (t := 27) (op := .eql) (x := (.tmp 155)) (y := (.tmp 156)) (xs := #[(.int .u64 r99.2.1.1), (.int .u64 r99.2.1.2)]) (ys := #[(.int .u64 0), (.int .u64 0)]) ((r99.2.1.1 == 0) && (r99.2.1.2 == 0)) [] (fun e => by cases e) rfl rfl rfl (by kernel_rfl) (by kernel_rfl) (fun w' => eqs27eql r99.2.1.1 r99.2.1.2 0 0 _ _ w') rfl ?_
           refine gv_pureN 2 [8, 158] [(8, (.bool ((r99.2.1.1 == 0) && (r99.2.1.2 == 0))))] (by kernel_rfl) ?_
           refine gv_sub [8] (σ' := [(8, (.bool ((r99.2.1.1 == 0) && (r99.2.1.2 == 0))))]) (by kernel_rfl) ?_
           refine gv_nil ?_
           have e := sj h1; subst e
           refine gv_goal fun a hd hs hok => ?_
           have hB1879 := bg hB1841 hg1875 nb
           have hz1880 := hg1875.size
           exact ⟨hB1879, hz1880, hd, hs, ok_pick [8] hok (by kernel_rfl)⟩
          ·skip
           replace h1 := ite_f hc1877 h1
           refine gv_pureN 5 [8, 155, 156, 157, 158] [(8, (.bool false))] (by kernel_rfl) ?_
           refine gv_nil ?_
           have e := sj h1; subst e
           refine gv_goal fun a hd hs hok => ?_
           have hB1881 := bg hB1841 hg1875 nb
           have hz1882 := hg1875.size
           exact ⟨hB1881, hz1882, hd, hs, ok_pick [8] hok (by kernel_rfl)⟩
         ·skip
          replace h1 := ite_f hc1866 h1
          refine gv_pureN 9 [8, 151, 152, 153, 154, 155, 156, 157, 158] [(8, (.bool false))] (by kernel_rfl) ?_
          refine gv_nil ?_
          have e := sj h1; subst e
          refine gv_goal fun a hd hs hok => ?_
          exact ⟨hB1841, (Nat.le_refl _), hd, hs, ok_pick [8] hok (by kernel_rfl)⟩
        ·rintro a w1865 ⟨hB1883, hz1884, hd, hs, hok⟩
         refine gv_in ?_ hd hs hok
         clear hd hs hok
         clear hz1884 hc1863 hk1862 hb1861 hb1860 hb1859 hb1858 hb1857 hb1856 hb1855 ap1854 ap1853 ap1852 ap1851 ap1850 ap1849 ap1848 hx1847 hx1846 hr1845 hz1842 hB1841 hbe1449 hg1447 hb1443 hz1436 hB1435 hz1215 hz807 lt413 hg410 hbe407 hg405 hz389 hB388 lt195 lt194 lt191 lt190 lt189 lt188 hg183 hg178 hg161 hg152 lt156 lt155 hg146 lt149 hg140 hbe137 hg135 hbe131 hg129 hbe125 hg123 hx120 hx119 hx118 hg112 hB110 hk94 lt93 hk89 lt81 hbe17 hg9 hbe5 hg3
         refine gv_cret ?_
         have e := sj h0; subst e
         refine gv_ret (gv_done [(.bool j1864)] rfl ⟨(by kernel_rfl), trivial⟩ ?_)
         exact ⟨grown_of_below hB1883, rfl⟩
       ·replace h0 := ite_f hc1863 h0
        refine gv_skip <| gv_seq <| gv_region <| gv_loadBox (t := 27) (b := b1) (t' := 27) (fr := (0, 0)) #[(.int .u64 g_0.1), (.int .u64 g_0.2)] [] (fun e => by cases e) rfl rfl rfl (by kernel_rfl) (by kernel_rfl) (by kernel_rfl) (by kernel_rfl) (inw0 hb1855) rfl ?_
        refine gv_pureN 1 [160] [(160, (.agg #[(.int .u64 g_0.1), (.int .u64 g_0.2)]))] (by kernel_rfl) ?_
        refine gv_new0 (fun b => .pointer (some ⟨b, 0, none⟩)) #[(.int .u64 0), (.int .u64 0)] 40 (by kernel_rfl) (by kernel_rfl) ?_
        intro b1885 w1886 hg1887 hb1888 hbe1889 hz1890
        refine gv_store0 40 0 (.agg #[(.int .u64 g_0.1), (.int .u64 g_0.2)]) #[(.int .u64 g_0.1), (.int .u64 g_0.2)] hb1888 (by kernel_rfl) (by kernel_rfl) (by kernel_rfl) ?_
        intro w1891 hg1892 hb1893 hz1894
        refine gv_nil <| gv_seq <| gv_region ?_
        have lt1895 := ltl ((ltb hb1861) _ rfl) ((lowb hbe1889) _ rfl)
        have hk1896 := (hb1861.grown hg1887 nb).grown hg1892 (rowne (ng lt1895))
        refine gv_loadBox (t := 49) (b := b1445) (t' := 49) (fr := (0, 0)) #[(.bool j1452.2.1), (.slice a1843 (List.length j1452.2.2) c1844)] [] (fun e => by cases e) rfl rfl rfl (by kernel_rfl) (by kernel_rfl) (by kernel_rfl) (by kernel_rfl) (inw0 hk1896) rfl ?_
        refine bindE h0 ?_; clear h0; intro r1897 hr1898 h0
        have hx1899 := ltx (ltx hx1846 hg1887.size) hg1892.size
        have ap1900 : ¬ X1843 b1885 := fun hx => nl ((lowb hbe1889) _ rfl) (hx1846 _ hx)
        have hx1901 := ltx hx1846 hg1887.size
        have hk1902 := (hr1845.grown hg1887 hx1846 nb).grown hg1892 hx1901 (rowne ap1900)
        refine gv_call0 (by kernel_rfl) rfl (by kernel_rfl) enters19 (ref4_Random_Below_ok fuel b1885 (g_0.1, g_0.2) a1843 c1844 (j1452.2.1, j1452.2.2) w1891 (fun k => X1843 k) (fun k hk => ⟨hx1899 k hk, fun e => ap1900 (e ▸ hk)⟩) hb1893 (hk1902.wide (fun k hk => hk)) r1897 hr1898) ?_
        rintro v1905 w1903 ⟨hg1904, a1906, c1907, X1909, rfl, ho1908, hx1910, hb1911⟩
        have hx1912 : ∀ k, X1909 k → k < w1903.heap.size := fun k hk => (hx1910 k hk).1
        have hB1914 := bg hB1841 hg1887 nb
        have hlo1915 : w0.heap.size ≤ b1885 := lob hbe1889 hB1841.size
        have hB1916 := bg hB1914 hg1892 (rowlo hlo1915)
        have hx1913 : ∀ k, X1909 k → X0 k ∨ w0.heap.size ≤ k := fun k hk => (hx1910 k hk).2.elim (fun h => hx1847 k h) (fun h => .inr (Nat.le_trans hB1916.size h))
        refine gv_pureN 3 [161, 164, 165] [(164, (.agg #[(.bool r1897.1.1), (.slice a1906 (List.length r1897.1.2) c1907)])), (165, (.bool r1897.2.1))] (by kernel_rfl) ?_
        refine gv_new0 (fun b => .pointer (some ⟨b, 0, none⟩)) #[(.bool false), (.slice none (List.length ([] : List Int)) 0)] 49 (by kernel_rfl) (by kernel_rfl) ?_
        intro b1917 w1918 hg1919 hb1920 hbe1921 hz1922
        refine gv_store0 49 0 (.agg #[(.bool r1897.1.1), (.slice a1906 (List.length r1897.1.2) c1907)]) #[(.bool r1897.1.1), (.slice a1906 (List.length r1897.1.2) c1907)] hb1920 (by kernel_rfl) (by kernel_rfl) (by kernel_rfl) ?_
        intro w1923 hg1924 hb1925 hz1926
        refine gv_pureN 1 [23] [(23, (.bool r1897.2.1))] (by kernel_rfl) ?_
        refine gv_nil <| gv_seq <| bindE h0 ?_; clear h0; intro j1927 h1 h0
        refine gv_cut_code (J := fun a w1928 => Below w0.heap.size w0 w1928 ∧ w1923.heap.size ≤ w1928.heap.size ∧ a.defers = [] ∧ a.tmps.size = 187 ∧ Ok [(8, (.bool j1927))] a.tmps) ?_ ?_
        ·skip
         refine gv_drawA (by kernel_rfl) ?_
         intro w1929 hg1930
         refine gv_pre [0, 1, 2, 3] (bA 22 [0, 1, 2, 3]) 18 (by kernel_rfl) (by kernel_rfl) ?_
         refine gv_pureN 3 [166, 167, 168] [(168, (.bool (!r1897.2.1)))] (by kernel_rfl) ?_
         refine gv_sub [6, 12, 13, 14, 21, 22, 168] (σ' := [(6, (bp b13)), (12, (bp b121)), (13, (bp b127)), (14, (bp b133)), (21, (bp b1885)), (22, (bp b1917)), (168, (.bool (!r1897.2.1)))]) (by kernel_rfl) ?_
         refine gv_split (s := 168) (g := (!r1897.2.1)) (by kernel_rfl) (fun hc1931 => ?_) (fun hc1931 => ?_)
         ·skip
          replace h1 := ite_t hc1931 h1
          refine gv_pureN 1 [169] [(169, undef)] (by kernel_rfl) ?_
          refine gv_nil <| gv_goA ?_
          refine gv_stage (Cls w1929 []) [0, 1, 2, 3, 4] [(4, some true)] (bA 22 [0, 1, 2, 3, 4]) 17 (by kernel_rfl) (by kernel_rfl) (Cls.refl _ _) ?_
          have hC1932 := Cls.refl w1929 []
          refine gv_pureN 1 [170] [(170, undef)] (by kernel_rfl) ?_
          refine gv_nil <| gv_goA ?_
          refine gv_pre [5, 6] (bA 22 [0, 1, 2, 3, 4, 5, 6]) 15 (by kernel_rfl) (by kernel_rfl) ?_
          refine gv_pureN 2 [171, 172] [(172, undef)] (by kernel_rfl) ?_
          refine gv_nil <| gv_goA ?_
          refine gv_stage (Cls w1929 []) [0, 1, 2, 3, 4, 5, 6, 7, 8, 9, 10, 11] [(7, some true), (8, some true), (9, some true), (10, some false), (11, some false)] (bA 22 [0, 1, 2, 3, 4, 5, 6, 7, 8, 9, 10, 11]) 10 (by kernel_rfl) (by kernel_rfl) (Cls.refl _ _) ?_
          have hC1933 := Cls.refl w1929 []
          refine gv_pureNC hC1933 5 [173, 174, 175, 176, 177] [(173, undef), (177, undef)] (by kernel_rfl) ?_
          refine gv_nil <| gv_goA ?_
          refine gv_stage (fun _ => True) [0, 1, 2, 3, 4, 5, 6, 7, 8, 9, 10, 11, 12] [(12, some false)] (bA 22 [0, 1, 2, 3, 4, 5, 6, 7, 8, 9, 10, 11, 12]) 9 (by kernel_rfl) (by kernel_rfl) trivial ?_
          refine gv_pureNC trivial 1 [178] [(178, undef)] (by kernel_rfl) ?_
          refine gv_nil <| gv_goA ?_
          refine gv_pre [13, 14, 16] (bA 22 [0, 1, 2, 3, 4, 5, 6, 7, 8, 9, 10, 11, 12, 13, 14, 16]) 6 (by kernel_rfl) (by kernel_rfl) ?_
          refine gv_pureN 3 [179, 180, 182] [(180, undef), (182, undef)] (by kernel_rfl) ?_
          refine gv_nil <| gv_goA ?_
          refine gv_stage (Cls w1929 []) [0, 1, 2, 3, 4, 5, 6, 7, 8, 9, 10, 11, 12, 13, 14, 15, 16, 17] [(15, some true), (17, some true)] (bA 22 [0, 1, 2, 3, 4, 5, 6, 7, 8, 9, 10, 11, 12, 13, 14, 15, 16, 17]) 4 (by kernel_rfl) (by kernel_rfl) (Cls.refl _ _) ?_
          have hC1934 := Cls.refl w1929 []
          refine gv_pureN 2 [181, 183] [(181, undef), (183, undef)] (by kernel_rfl) ?_
          refine gv_nil <| gv_goA ?_
          refine gv_pre [18, 19, 20, 21] (bA 22 [0, 1, 2, 3, 4, 5, 6, 7, 8, 9, 10, 11, 12, 13, 14, 15, 16, 17, 18, 19, 20, 21]) 0 (by kernel_rfl) (by kernel_rfl) ?_
          refine gv_pureN 4 [8, 184, 185, 186] [(8, (.bool true))] (by kernel_rfl) ?_
          refine gv_nil <| gv_goA ?_
          refine gv_stageE (by kernel_rfl) ?_
          have e := sj h1; subst e
          refine gv_goal fun a hd hs hok => ?_
          have hB1935 := bg hB1916 hg1904 (rowlo hlo1915)
          have hB1936 := bg hB1935 hg1919 nb
          have hB1937 := bg hB1916 hg1904 (rowlo hlo1915)
          have hlo1938 : w0.heap.size ≤ b1917 := lob hbe1921 hB1937.size
          have hB1939 := bg hB1936 hg1924 (rowlo hlo1938)
          have hB1940 := bg hB1939 hg1930 nb
          have hz1941 := hg1930.size
          exact ⟨hB1940, hz1941, hd, hs, ok_pick [8] hok (by kernel_rfl)⟩
         ·skip
          replace h1 := ite_f hc1931 h1
          refine gv_pureN 1 [169] [(169, (bp b133))] (by kernel_rfl) ?_
          refine gv_nil <| gv_goA ?_
          refine gv_stage (Cls w1929 []) [0, 1, 2, 3, 4] [(4, some true)] (bA 22 [0, 1, 2, 3, 4]) 17 (by kernel_rfl) (by kernel_rfl) (Cls.refl _ _) ?_
          have hC1942 := Cls.refl w1929 []
          have lt1943 := ltt lt194 lt413
          have lt1944 := ltl ((ltb hb1443) _ rfl) ((lowb hbe1449) _ rfl)
          have lt1945 := ltt lt1943 lt1944
          have lt1946 := ltt lt1945 lt1895
          have lt1947 := ltl ((ltb hb1911) _ rfl) ((lowb hbe1921) _ rfl)
          have lt1948 := ltt lt1946 lt1947
          have hk1949 := (((((hb1859.grown hg1887 nb).grown hg1892 (rowne (ng lt1946))).grown hg1904 (rowne (ng lt1946))).grown hg1919 nb).grown hg1924 (rowne (ng lt1948))).grown hg1930 nb
          refine gv_load (t := 3) (A := ⟨b133, 0, none⟩) (.int .i64 r99.2.2.1) [] (fun e => by cases e) rfl rfl rfl (by kernel_rfl) (by kernel_rfl) (by kernel_rfl) (inw1 fun w' hC' => ((hC'.box hk1949 nm_nil).cell 0 rfl)) rfl ?_
          refine gv_nil <| gv_goA ?_
          refine gv_pre [5, 6] (bA 22 [0, 1, 2, 3, 4, 5, 6]) 15 (by kernel_rfl) (by kernel_rfl) ?_
          refine gv_pureN 2 [171, 172] [(172, (.bool (r99.2.2.1 == 0)))] (by kernel_rfl) ?_
          refine gv_nil <| gv_goA ?_
          refine gv_stage (Cls w1929 []) [0, 1, 2, 3, 4, 5, 6, 7, 8, 9, 10, 11] [(7, some true), (8, some true), (9, some true), (10, some false), (11, some false)] (bA 22 [0, 1, 2, 3, 4, 5, 6, 7, 8, 9, 10, 11]) 10 (by kernel_rfl) (by kernel_rfl) (Cls.refl _ _) ?_
          have hC1950 := Cls.refl w1929 []
          refine gv_split (s := 172) (g := (r99.2.2.1 == 0)) (by kernel_rfl) (fun hc1951 => ?_) (fun hc1951 => ?_)
          ·skip
           replace h1 := ite_t hc1951 h1
           have lt1952 := ltt lt156 lt194
           have lt1953 := ltt lt1952 lt413
           have lt1954 := ltt lt1953 lt1944
           have lt1955 := ltt lt1954 lt1895
           have lt1956 := ltt lt1955 lt1947
           have hk1957 := (((((hb1857.grown hg1887 nb).grown hg1892 (rowne (ng lt1955))).grown hg1904 (rowne (ng lt1955))).grown hg1919 nb).grown hg1924 (rowne (ng lt1956))).grown hg1930 nb
           refine gv_loadBox (t := 24) (b := b121) (t' := 24) (fr := (0, 0)) #[(.bool r99.1.1), (.slice a114 (List.length r99.1.2) c115)] [] (fun e => by cases e) rfl rfl rfl (by kernel_rfl) (by kernel_rfl) (by kernel_rfl) (by kernel_rfl) (inw1 fun w' hC' => (hC'.box hk1957 nm_nil)) rfl ?_
           have hk1958 := hb1925.grown hg1930 nb
           refine gv_loadBox (t := 49) (b := b1917) (t' := 49) (fr := (0, 0)) #[(.bool r1897.1.1), (.slice a1906 (List.length r1897.1.2) c1907)] [] (fun e => by cases e) rfl rfl rfl (by kernel_rfl) (by kernel_rfl) (by kernel_rfl) (by kernel_rfl) (inw1 fun w' hC' => (hC'.box hk1958 nm_nil)) rfl ?_
           have lt1959 := ltt lt93 lt188
           have lt1960 := ltt lt1959 lt149
           have lt1961 := ltt lt1960 lt155
           have lt1962 := ltt lt1961 lt194
           have lt1963 := ltt lt1962 lt413
           have lt1964 := ltt lt1963 lt1944
           have lt1965 := ltt lt1964 lt1895
           have lt1966 := ltt lt1965 lt1947
           have hk1967 := (((((hb1856.grown hg1887 nb).grown hg1892 (rowne (ng lt1965))).grown hg1904 (rowne (ng lt1965))).grown hg1919 nb).grown hg1924 (rowne (ng lt1966))).grown hg1930 nb
           refine gv_loadBox (t := 24) (b := b13) (t' := 24) (fr := (0, 0)) #[(.bool low_2.1), (.slice pa2_0 (List.length low_2.2) pc2_0)] [] (fun e => by cases e) rfl rfl rfl (by kernel_rfl) (by kernel_rfl) (by kernel_rfl) (by kernel_rfl) (inw1 fun w' hC' => (hC'.box hk1967 nm_nil)) rfl ?_
           refine bindE h1 ?_; clear h1; intro r1968 hr1969 h1
           have hB1970 := bg hB1916 hg1904 (rowlo hlo1915)
           have hB1971 := bg hB1970 hg1919 nb
           have hB1972 := bg hB1916 hg1904 (rowlo hlo1915)
           have hlo1973 : w0.heap.size ≤ b1917 := lob hbe1921 hB1972.size
           have hB1974 := bg hB1971 hg1924 (rowlo hlo1973)
           have hB1975 := bg hB1974 hg1930 nb
           refine gv_call (f := 20) (vs := [(.agg #[(.bool low_2.1), (.slice pa2_0 (List.length low_2.2) pc2_0)])]) (cap := []) _ (by decide) rfl rfl rfl (by kernel_rfl) (by kernel_rfl) enters20 (ref3_IntOf_ok fuel pa2_0 pc2_0 (low_2.1, low_2.2) w1929 (fun k => X0 k) (fun k hk => (fun k (hk : X0 k) => ltl (hX0 k hk) hB1975.size) k hk) ((hpa2_0.below hB1975 hX0).wide (fun k hk => hk)) r1968 hr1969) ?_
           rintro v1978 w1976 ⟨hg1977, a1979, c1980, X1982, rfl, ho1981, hx1983⟩
           refine ⟨(fun _ => hC1950.grown hg1977 nb), ?_⟩
           have hx1984 : ∀ k, X1982 k → k < w1976.heap.size := fun k hk => (hx1983 k hk).1
           have hx1985 : ∀ k, X1982 k → X0 k ∨ w0.heap.size ≤ k := fun k hk => (hx1983 k hk).2.elim (fun h => (fun k (hk : X0 k) => Or.inl hk) k h) (fun h => .inr (Nat.le_trans hB1975.size h))
           refine bindE h1 ?_; clear h1; intro r1986 hr1987 h1
           have hg1988 := (grown_trans hg1930 hg1977)
           have hx1989 := ltx (ltx (ltx hx1912 hg1919.size) hg1924.size) hg1988.size
           have ap1990 : ¬ X1909 b1917 := fun hx => nl ((lowb hbe1921) _ rfl) (hx1912 _ hx)
           have hx1991 := ltx hx1912 hg1919.size
           have hx1992 := ltx hx1991 hg1924.size
           have hk1993 := ((ho1908.grown hg1919 hx1912 nb).grown hg1924 hx1991 (rowne ap1990)).grown hg1988 hx1992 nb
           refine gv_call (f := 23) (vs := [(.agg #[(.bool r1897.1.1), (.slice a1906 (List.length r1897.1.2) c1907)]), (.agg #[(.bool r1968.1), (.slice a1979 (List.length r1968.2) c1980)])]) (cap := []) _ (by decide) rfl rfl rfl (by kernel_rfl) (by kernel_rfl) enters23 (ref3_Int_Plus_ok fuel a1906 c1907 (r1897.1.1, r1897.1.2) a1979 c1980 (r1968.1, r1968.2) w1976 (fun k => X1909 k ∨ X1982 k) (fun k hk => (hk).elim (fun h => hx1989 k h) (fun h => hx1984 k h)) (hk1993.wide (fun k hk => (.inl hk))) (ho1981.wide (fun k hk => (.inr hk))) r1986 hr1987) ?_
           rintro v1996 w1994 ⟨hg1995, a1997, c1998, X2000, rfl, ho1999, hx2001⟩
           have hC2002 := hC1950.grown hg1977 nb
           refine ⟨(fun _ => hC2002.grown hg1995 nb), ?_⟩
           have hx2003 : ∀ k, X2000 k → k < w1994.heap.size := fun k hk => (hx2001 k hk).1
           have hB2005 := bg hB1975 hg1977 nb
           have hx2004 : ∀ k, X2000 k → X0 k ∨ w0.heap.size ≤ k := fun k hk => (hx2001 k hk).2.elim (fun h => (h).elim (fun h => hx1913 k h) (fun h => hx1985 k h)) (fun h => .inr (Nat.le_trans hB2005.size h))
           have hz2006 := (nt hg1977.size hg1995.size)
           clear hk1993 hx1989 hg1988 hr1987 hx1985 hx1984 ho1981 hB1975 hB1974 hB1972 hB1971 hB1970 hr1969 lt1966 lt1965 lt1964 lt1963 lt1962 lt1961 lt1960 lt1959 lt1956 lt1955 lt1954 lt1953 lt1952 hc1951 hC1950 lt1948 lt1946 lt1945 lt1943 hC1942 hc1931 hz1926 hb1925 hz1922 hb1920 hB1916 hB1914 hx1901 hr1898 hz1894 hz1890 hb1888 hc1863 hb1861 hb1859 hb1857 hb1856 ap1854 ap1853 ap1852 ap1850 ap1849 ap1848 hx1846 hr1845 hB1841 hb1443 lt191 lt190 lt189 lt188 lt156 lt149 hx118 hk94 lt93 hk89 lt81
           refine gv_nil <| gv_goA ?_
           refine gv_stage (fun _ => True) [0, 1, 2, 3, 4, 5, 6, 7, 8, 9, 10, 11, 12] [(12, some false)] (bA 22 [0, 1, 2, 3, 4, 5, 6, 7, 8, 9, 10, 11, 12]) 9 (by kernel_rfl) (by kernel_rfl) trivial ?_
           refine bindE h1 ?_; clear h1; intro r2007 hr2008 h1
           have hg2009 := (grown_trans (grown_trans hg123 hg129) hg135)
           have hg2010 := (grown_trans hg161 hg178)
           have hx2011 := ltx (ltx (ltx (ltx (ltx (ltx hx119 hg2009.size) hg140.size) hg146.size) hg152.size) hg2010.size) hg183.size
           have hx2012 := ltx (ltx (fun k hk => ltl (hx2011 k hk) hz389) hg405.size) hg410.size
           have hx2013 := ltx (fun k hk => ltl ((fun k hk => ltl ((fun k hk => ltl (hx2012 k hk) hz807) k hk) hz1215) k hk) hz1436) hg1447.size
           have hg2014 := (grown_trans (grown_trans hg1930 hg1977) hg1995)
           have hx2015 := ltx (ltx (ltx (ltx (ltx (ltx (fun k hk => ltl (hx2013 k hk) hz1842) hg1887.size) hg1892.size) hg1904.size) hg1919.size) hg1924.size) hg2014.size
           have ap2016 : ¬ X117 b1885 := fun hx => nl ((lowb hbe1889) _ rfl) ((fun k hk => ltl (hx2013 k hk) hz1842) _ hx)
           have hx2017 := ltx (fun k hk => ltl (hx2013 k hk) hz1842) hg1887.size
           have hx2018 := ltx hx2017 hg1892.size
           have hx2019 := ltx hx2018 hg1904.size
           have ap2020 : ¬ X117 b1917 := fun hx => nl ((lowb hbe1921) _ rfl) (hx2019 _ hx)
           have hx2021 := ltx hx2019 hg1919.size
           have hx2022 := ltx hx2021 hg1924.size
           have hk2023 := (((((hk1862.grown hg1887 (fun k hk => ltl (hx2013 k hk) hz1842) nb).grown hg1892 hx2017 (rowne ap2016)).grown hg1904 hx2018 (rowne ap2016)).grown hg1919 hx2019 nb).grown hg1924 hx2021 (rowne ap2020)).grown hg2014 hx2022 nb
           refine gv_call (f := 21) (vs := [(.agg #[(.bool r99.1.1), (.slice a114 (List.length r99.1.2) c115)]), (.agg #[(.bool r1986.1), (.slice a1997 (List.length r1986.2) c1998)])]) (cap := []) _ (by decide) rfl rfl rfl (by kernel_rfl) (by kernel_rfl) enters21 (ref3_SameInt_ok fuel a114 c115 (r99.1.1, r99.1.2) a1997 c1998 (r1986.1, r1986.2) w1994 (fun k => X117 k ∨ X2000 k) (fun k hk => (hk).elim (fun h => hx2015 k h) (fun h => hx2003 k h)) (hk2023.wide (fun k hk => (.inl hk))) (ho1999.wide (fun k hk => (.inr hk))) r2007 hr2008) ?_
           rintro v2026 w2024 ⟨hg2025, rfl⟩
           refine ⟨(fun _ => trivial), ?_⟩
           refine gv_nil <| gv_goA ?_
           refine gv_pre [13, 14, 16] (bA 22 [0, 1, 2, 3, 4, 5, 6, 7, 8, 9, 10, 11, 12, 13, 14, 16]) 6 (by kernel_rfl) (by kernel_rfl) ?_
           refine gv_pureN 2 [179, 180] [(180, (.bool r2007))] (by kernel_rfl) ?_
           refine gv_split (s := 180) (g := r2007) (by kernel_rfl) (fun hc2027 => ?_) (fun hc2027 => ?_)
           ·skip
            replace h1 := ite_t hc2027 h1
            refine gv_pureN 1 [182] [(182, (bp b1885))] (by kernel_rfl) ?_
            refine gv_nil <| gv_goA ?_
            refine gv_stage (Cls w2024 []) [0, 1, 2, 3, 4, 5, 6, 7, 8, 9, 10, 11, 12, 13, 14, 15, 16, 17] [(15, some true), (17, some true)] (bA 22 [0, 1, 2, 3, 4, 5, 6, 7, 8, 9, 10, 11, 12, 13, 14, 15, 16, 17]) 4 (by kernel_rfl) (by kernel_rfl) (Cls.refl _ _) ?_
            have hC2028 := Cls.refl w2024 []
            have lt2029 := ltt lt155 lt194
            have lt2030 := ltt lt2029 lt413
            have lt2031 := ltt lt2030 lt1944
            have lt2032 := ltt lt2031 lt1895
            have lt2033 := ltt lt2032 lt1947
            have hg2034 := (grown_trans hg2014 hg2025)
            have hk2035 := (((((hb1858.grown hg1887 nb).grown hg1892 (rowne (ng lt2032))).grown hg1904 (rowne (ng lt2032))).grown hg1919 nb).grown hg1924 (rowne (ng lt2033))).grown hg2034 nb
            refine gv_loadBox (t := 27) (b := b127) (t' := 27) (fr := (0, 0)) #[(.int .u64 r99.2.1.1), (.int .u64 r99.2.1.2)] [] (fun e => by cases e) rfl rfl rfl (by kernel_rfl) (by kernel_rfl) (by kernel_rfl) (by kernel_rfl) (inw1 fun w' hC' => (hC'.box hk2035 nm_nil)) rfl ?_
            have hk2036 := ((hb1911.grown hg1919 nb).grown hg1924 (rowne (ng lt1947))).grown hg2034 nb
            refine gv_loadBox (t := 27) (b := b1885) (t' := 40) (fr := (0, 0)) #[(.int .u64 r1897.2.2.1), (.int .u64 r1897.2.2.2)] [] (fun e => by cases e) rfl rfl rfl (by kernel_rfl) (by kernel_rfl) (by kernel_rfl) (by kernel_rfl) (inw1 fun w' hC' => (hC'.box hk2036 nm_nil)) rfl ?_
            refine gv_nil <| gv_goA ?_
            refine gv_pre [18, 19, 20, 21] (bA 22 [0, 1, 2, 3, 4, 5, 6, 7, 8, 9, 10, 11, 12, 13, 14, 15, 16, 17, 18, 19, 20, 21]) 0 (by kernel_rfl) (by kernel_rfl) ?_
            refine gv_eqs (t := 27) (op := .eql) (x := (.tmp 181)) (y := (.tmp 183)) (xs := #[(.int .u64 r99.2.1.1), (.int .u64 r99.2.1.2)]) (ys := #[(.int .u64 r1897.2.2.1), (.int .u64 r1897.2.2.2)]) ((r99.2.1.1 == r1897.2.2.1) && (r99.2.1.2 == r1897.2.2.2)) [] (fun e => by cases e) rfl rfl rfl (by kernel_rfl) (by kernel_rfl) (fun w' => eqs27eql r99.2.1.1 r99.2.1.2 r1897.2.2.1 r1897.2.2.2 _ _ w') rfl ?_
            refine gv_pureN 3 [8, 185, 186] [(8, (.bool ((r99.2.1.1 == r1897.2.2.1) && (r99.2.1.2 == r1897.2.2.2))))] (by kernel_rfl) ?_
            refine gv_sub [8] (σ' := [(8, (.bool ((r99.2.1.1 == r1897.2.2.1) && (r99.2.1.2 == r1897.2.2.2))))]) (by kernel_rfl) ?_
            refine bindE h1 ?_; clear h1; intro n2037 hn2038 h1
            refine gv_name (s := 8) (v := (.bool ((r99.2.1.1 == r1897.2.2.1) && (r99.2.1.2 == r1897.2.2.2)))) (v' := (.bool n2037)) (by kernel_rfl) (congrArg (Value.bool) (sj hn2038)) ?_
            refine gv_nil <| gv_goA ?_
            refine gv_stageE (by kernel_rfl) ?_
            have e := sj h1; subst e
            refine gv_goal fun a hd hs hok => ?_
            have hg2039 := (grown_trans hg1995 hg2025)
            have hB2040 := bg hB2005 hg2039 nb
            have hz2041 := (nt (nt hg1930.size hz2006) hg2025.size)
            exact ⟨hB2040, hz2041, hd, hs, ok_pick [8] hok (by kernel_rfl)⟩
           ·skip
            replace h1 := ite_f hc2027 h1
            refine gv_pureN 1 [182] [(182, undef)] (by kernel_rfl) ?_
            refine gv_nil <| gv_goA ?_
            refine gv_stage (Cls w2024 []) [0, 1, 2, 3, 4, 5, 6, 7, 8, 9, 10, 11, 12, 13, 14, 15, 16, 17] [(15, some true), (17, some true)] (bA 22 [0, 1, 2, 3, 4, 5, 6, 7, 8, 9, 10, 11, 12, 13, 14, 15, 16, 17]) 4 (by kernel_rfl) (by kernel_rfl) (Cls.refl _ _) ?_
            have hC2042 := Cls.refl w2024 []
            refine gv_pureN 2 [181, 183] [(181, undef), (183, undef)] (by kernel_rfl) ?_
            refine gv_nil <| gv_goA ?_
            refine gv_pre [18, 19, 20, 21] (bA 22 [0, 1, 2, 3, 4, 5, 6, 7, 8, 9, 10, 11, 12, 13, 14, 15, 16, 17, 18, 19, 20, 21]) 0 (by kernel_rfl) (by kernel_rfl) ?_
            refine gv_pureN 4 [8, 184, 185, 186] [(8, (.bool false))] (by kernel_rfl) ?_
            refine gv_nil <| gv_goA ?_
            refine gv_stageE (by kernel_rfl) ?_
            have e := sj h1; subst e
            refine gv_goal fun a hd hs hok => ?_
            have hg2043 := (grown_trans hg1995 hg2025)
            have hB2044 := bg hB2005 hg2043 nb
            have hz2045 := (nt (nt hg1930.size hz2006) hg2025.size)
            exact ⟨hB2044, hz2045, hd, hs, ok_pick [8] hok (by kernel_rfl)⟩
          ·skip
           replace h1 := ite_f hc1951 h1
           refine gv_pureNC hC1950 5 [173, 174, 175, 176, 177] [(173, undef), (177, undef)] (by kernel_rfl) ?_
           refine gv_nil <| gv_goA ?_
           refine gv_stage (fun _ => True) [0, 1, 2, 3, 4, 5, 6, 7, 8, 9, 10, 11, 12] [(12, some false)] (bA 22 [0, 1, 2, 3, 4, 5, 6, 7, 8, 9, 10, 11, 12]) 9 (by kernel_rfl) (by kernel_rfl) trivial ?_
           refine gv_pureNC trivial 1 [178] [(178, undef)] (by kernel_rfl) ?_
           refine gv_nil <| gv_goA ?_
           refine gv_pre [13, 14, 16] (bA 22 [0, 1, 2, 3, 4, 5, 6, 7, 8, 9, 10, 11, 12, 13, 14, 16]) 6 (by kernel_rfl) (by kernel_rfl) ?_
           refine gv_pureN 3 [179, 180, 182] [(180, (.bool false)), (182, undef)] (by kernel_rfl) ?_
           refine gv_nil <| gv_goA ?_
           refine gv_stage (Cls w1929 []) [0, 1, 2, 3, 4, 5, 6, 7, 8, 9, 10, 11, 12, 13, 14, 15, 16, 17] [(15, some true), (17, some true)] (bA 22 [0, 1, 2, 3, 4, 5, 6, 7, 8, 9, 10, 11, 12, 13, 14, 15, 16, 17]) 4 (by kernel_rfl) (by kernel_rfl) (Cls.refl _ _) ?_
           have hC2046 := Cls.refl w1929 []
           refine gv_pureN 2 [181, 183] [(181, undef), (183, undef)] (by kernel_rfl) ?_
           refine gv_nil <| gv_goA ?_
           refine gv_pre [18, 19, 20, 21] (bA 22 [0, 1, 2, 3, 4, 5, 6, 7, 8, 9, 10, 11, 12, 13, 14, 15, 16, 17, 18, 19, 20, 21]) 0 (by kernel_rfl) (by kernel_rfl) ?_
           refine gv_pureN 4 [8, 184, 185, 186] [(8, (.bool false))] (by kernel_rfl) ?_
           refine gv_nil <| gv_goA ?_
           refine gv_stageE (by kernel_rfl) ?_
           have e := sj h1; subst e
           refine gv_goal fun a hd hs hok => ?_
           have hB2047 := bg hB1916 hg1904 (rowlo hlo1915)
           have hB2048 := bg hB2047 hg1919 nb
           have hB2049 := bg hB1916 hg1904 (rowlo hlo1915)
           have hlo2050 : w0.heap.size ≤ b1917 := lob hbe1921 hB2049.size
           have hB2051 := bg hB2048 hg1924 (rowlo hlo2050)
           have hB2052 := bg hB2051 hg1930 nb
           have hz2053 := hg1930.size
           exact ⟨hB2052, hz2053, hd, hs, ok_pick [8] hok (by kernel_rfl)⟩
        ·rintro a w1928 ⟨hB2054, hz2055, hd, hs, hok⟩
         refine gv_in ?_ hd hs hok
         clear hd hs hok
         clear hz2055 hz1926 hb1925 hg1924 hz1922 hbe1921 hb1920 hg1919 hx1913 hB1916 hlo1915 hB1914 hx1912 hb1911 hx1910 ho1908 hg1904 hk1902 hx1901 ap1900 hx1899 hr1898 hk1896 lt1895 hz1894 hb1893 hg1892 hz1890 hbe1889 hb1888 hg1887 hc1863 hk1862 hb1861 hb1860 hb1859 hb1858 hb1857 hb1856 hb1855 ap1854 ap1853 ap1852 ap1851 ap1850 ap1849 ap1848 hx1847 hx1846 hr1845 hz1842 hB1841 hbe1449 hg1447 hb1443 hz1436 hB1435 hz1215 hz807 lt413 hg410 hbe407 hg405 hz389 hB388 lt195 lt194 lt191 lt190 lt189 lt188 hg183 hg178 hg161 hg152 lt156 lt155 hg146 lt149 hg140 hbe137 hg135 hbe131 hg129 hbe125 hg123 hx120 hx119 hx118 hg112 hB110 hk94 lt93 hk89 lt81 hbe17 hg9 hbe5 hg3
         refine gv_cret ?_
         have e := sj h0; subst e
         refine gv_ret (gv_done [(.bool j1927)] rfl ⟨(by kernel_rfl), trivial⟩ ?_)
         exact ⟨grown_of_below hB2054, rfl⟩

end Go.Proofs.Ytenjigdaaeiklaa
