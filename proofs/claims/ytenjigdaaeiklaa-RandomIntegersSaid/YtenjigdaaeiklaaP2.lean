import Derived.Test.YtenjigdaaeiklaaP1
set_option linter.all false
set_option maxHeartbeats 4000000
set_option maxRecDepth 100000
/- Own work, printed by a program of mine: the walk of each function: a call returns what the plain function says. -/
namespace Go.Proofs.Ytenjigdaaeiklaa
open Go.Gv Go.Gv.D Go.RowKit
theorem random_Between_ok (fuel : Nat) (g_0 : (Int × Int)) (pa1_0 : Option Addr) (pc1_0 : Nat) (low_1 : (Bool × (List Int))) (pa2_0 : Option Addr) (pc2_0 : Nat) (high_2 : (Bool × (List Int))) (w0 : World) (X0 : Nat → Prop) (hX0 : ∀ k, X0 k → k < w0.heap.size) (hpa1_0 : Rd (iE .u32) w0 X0 pa1_0 pc1_0 low_1.2) (hpa2_0 : Rd (iE .u32) w0 X0 pa2_0 pc2_0 high_2.2) (r0 : ((Bool × (List Int)) × (Int × Int) × (Int × Int))) (h0 : random_Between fuel g_0 low_1 high_2 = some r0) :
    Calls Try.prog 17 ([(.agg #[(.int .u64 g_0.1), (.int .u64 g_0.2)]), (.agg #[(.bool low_1.1), (.slice pa1_0 (List.length low_1.2) pc1_0)]), (.agg #[(.bool high_2.1), (.slice pa2_0 (List.length high_2.2) pc2_0)])] : List Value).toArray w0 (Ret fun v w' => w0.grownBy w' none ∧ ∃ (a0_0r : Option Addr) (c0_0r : Nat), ∃ (X0_0r : Nat → Prop), v = tup [(.agg #[(.bool r0.1.1), (.slice a0_0r (List.length r0.1.2) c0_0r)]), (.agg #[(.int .u64 r0.2.1.1), (.int .u64 r0.2.1.2)]), (.agg #[(.int .i64 r0.2.2.1), (.int .i64 r0.2.2.2)])] ∧ Rd (iE .u32) w' X0_0r a0_0r c0_0r r0.1.2 ∧ (∀ k, X0_0r k → k < w'.heap.size ∧ (X0 k ∨ w0.heap.size ≤ k))) := by
 have hB0 : Below w0.heap.size w0 w0 := Below.refl _ _
 unfold random_Between at h0
 refine calls_run Try.func17 rfl Try.ntmps17 (by kernel_rfl) ?_
 refine gv_sub [0, 1, 2] (σ' := [(0, (.agg #[(.int .u64 g_0.1), (.int .u64 g_0.2)])), (1, (.agg #[(.bool low_1.1), (.slice pa1_0 (List.length low_1.2) pc1_0)])), (2, (.agg #[(.bool high_2.1), (.slice pa2_0 (List.length high_2.2) pc2_0)]))]) (by kernel_rfl) ?_
 refine gv_seq <| gv_region <| gv_new0 (fun b => .pointer (some ⟨b, 0, none⟩)) #[(.int .u64 g_0.1), (.int .u64 g_0.2)] 27 (by kernel_rfl) (by kernel_rfl) ?_
 intro b1 w2 hg3 hb4 hbe5 hz6
 refine gv_new0 (fun b => .pointer (some ⟨b, 0, none⟩)) #[(.bool low_1.1), (.slice pa1_0 (List.length low_1.2) pc1_0)] 24 (by kernel_rfl) (by kernel_rfl) ?_
 intro b7 w8 hg9 hb10 hbe11 hz12
 refine gv_new0 (fun b => .pointer (some ⟨b, 0, none⟩)) #[(.bool high_2.1), (.slice pa2_0 (List.length high_2.2) pc2_0)] 24 (by kernel_rfl) (by kernel_rfl) ?_
 intro b13 w14 hg15 hb16 hbe17 hz18
 refine gv_new0 (fun b => .pointer (some ⟨b, 0, none⟩)) #[(.bool false), (.slice none (List.length ([] : List Int)) 0)] 24 (by kernel_rfl) (by kernel_rfl) ?_
 intro b19 w20 hg21 hb22 hbe23 hz24
 refine gv_new0 (fun b => .pointer (some ⟨b, 0, none⟩)) #[(.int .u64 0), (.int .u64 0)] 27 (by kernel_rfl) (by kernel_rfl) ?_
 intro b25 w26 hg27 hb28 hbe29 hz30
 refine gv_new0 (fun b => .pointer (some ⟨b, 0, none⟩)) #[(.int .i64 0), (.int .i64 0)] 29 (by kernel_rfl) (by kernel_rfl) ?_
 intro b31 w32 hg33 hb34 hbe35 hz36
 refine gv_nil <| gv_seq <| gv_region ?_
 have hg37 := (grown_trans (grown_trans (grown_trans (grown_trans hg9 hg15) hg21) hg27) hg33)
 have hk38 := hb4.grown hg37 nb
 refine gv_loadBox (t := 27) (b := b1) (t' := 27) (fr := (0, 0)) #[(.int .u64 g_0.1), (.int .u64 g_0.2)] [] (fun e => by cases e) rfl rfl rfl (by kernel_rfl) (by kernel_rfl) (by kernel_rfl) (by kernel_rfl) (inw0 hk38) rfl ?_
 refine bindE h0 ?_; clear h0; intro r39 hr40 h0
 refine gv_call0 (by kernel_rfl) rfl (by kernel_rfl) enters39 (random_open_ok fuel (g_0.1, g_0.2) w32  r39 hr40) ?_
 rintro v43 w41 ⟨hg42, p44, rfl, hp45⟩
 rcases hp45 with ⟨hn46, rfl⟩ | ⟨x48, b49, hn47, rfl, hb50, hlo51⟩
 ·skip
  replace h0 := optc_none hn46 h0
  refine gv_pureN 3 [16, 19, 20] [(19, (.pointer none)), (20, (.agg #[(.int .i64 r39.2.1), (.int .i64 r39.2.2)]))] (by kernel_rfl) ?_
  refine gv_new0 (fun b => .pointer (some ⟨b, 0, none⟩)) #[(.int .i64 0), (.int .i64 0)] 29 (by kernel_rfl) (by kernel_rfl) ?_
  intro b52 w53 hg54 hb55 hbe56 hz57
  clear hz57 hr40 hk38 hg37 hz36 hz30 hz24 hz18 hz12 hz6 hbe5 hb4
  refine gv_pureN 1 [9] [(9, (.pointer none))] (by kernel_rfl) ?_
  refine gv_store0 29 0 (.agg #[(.int .i64 r39.2.1), (.int .i64 r39.2.2)]) #[(.int .i64 r39.2.1), (.int .i64 r39.2.2)] hb55 (by kernel_rfl) (by kernel_rfl) (by kernel_rfl) ?_
  intro w58 hg59 hb60 hz61
  refine gv_nil <| gv_seq <| gv_block <| gv_seq <| gv_region <| gv_pureN 1 [22] [(22, (bp b52))] (by kernel_rfl) ?_
  refine gv_load (t := 3) (A := ⟨b52, 0, none⟩) (.int .i64 r39.2.1) [] (fun e => by cases e) rfl rfl rfl (by kernel_rfl) (by kernel_rfl) (by kernel_rfl) (inw0 (hb60.cell 0 rfl)) rfl ?_
  refine gv_pureN 2 [21, 24] [(21, (.bool (r39.2.1 != 0)))] (by kernel_rfl) ?_
  refine gv_sub [4, 5, 6, 7, 8, 9, 10, 21] (σ' := [(4, (bp b7)), (5, (bp b13)), (6, (bp b19)), (7, (bp b25)), (8, (bp b31)), (9, (.pointer none)), (10, (bp b52)), (21, (.bool (r39.2.1 != 0)))]) (by kernel_rfl) ?_
  refine gv_nil <| gv_cond (b := (r39.2.1 != 0)) (by kernel_rfl) (fun hc62 => ?_) (fun hc62 => ?_)
  ·replace h0 := ite_t hc62 h0
   refine gv_seq <| gv_drawA (by kernel_rfl) ?_
   intro w63 hg64
   refine gv_pre [0, 1] (bA 6 [0, 1]) 4 (by kernel_rfl) (by kernel_rfl) ?_
   refine gv_pureN 2 [25, 26] [(25, (.agg #[(.bool false), (.slice none (List.length ([] : List Int)) 0)])), (26, (.agg #[(.int .u64 0), (.int .u64 0)]))] (by kernel_rfl) ?_
   refine gv_nil <| gv_goA ?_
   refine gv_stage (Cls w63 [b19, b25]) [0, 1, 2, 3, 4] [(2, some true), (3, some false), (4, some false)] (bA 6 [0, 1, 2, 3, 4]) 1 (by kernel_rfl) (by kernel_rfl) (Cls.refl _ _) ?_
   have hC65 := Cls.refl w63 [b19, b25]
   have hk66 := hb60.grown hg64 nb
   have lt67 := ltl ((ltb hb22) _ rfl) ((lowb hbe29) _ rfl)
   have lt68 := ltl ((ltb hb28) _ rfl) ((lowb hbe35) _ rfl)
   have lt69 := ltt lt67 lt68
   have hk70 := hb34.grown hg42 nb
   have lt71 := ltl ((ltb hk70) _ rfl) ((lowb hbe56) _ rfl)
   have lt72 := ltt lt69 lt71
   have lt73 := ltt lt68 lt71
   refine gv_loadBox (t := 29) (b := b52) (t' := 29) (fr := (0, 0)) #[(.int .i64 r39.2.1), (.int .i64 r39.2.2)] [] (fun e => by cases e) rfl rfl rfl (by kernel_rfl) (by kernel_rfl) (by kernel_rfl) (by kernel_rfl) (inw1 fun w' hC' => (hC'.box hk66 (nm_cons (ng lt72) (nm_cons (ng lt73) nm_nil)))) rfl ?_
   have hg78 := (grown_trans (grown_trans (grown_trans hg27 hg33) hg42) hg54)
   have hk79 := ((hb22.grown hg78 nb).grown hg59 (rowne (ng lt72))).grown hg64 nb
   refine gv_store (t := 24) (b := b19) (off := 0) (v := (.agg #[(.bool false), (.slice none (List.length ([] : List Int)) 0)])) (t' := 24) (cs := #[(.bool false), (.slice none (List.length ([] : List Int)) 0)]) #[(.bool false), (.slice none (List.length ([] : List Int)) 0)] (by decide) rfl rfl (by kernel_rfl) (by kernel_rfl) (by kernel_rfl) (by intro u hu; simp [Value.cells] at hu; rcases hu with rfl | rfl <;> rfl) (show 0 + 2 ≤ 2 by decide) (by rfl) hk79 ?_
   intro w74 hg75 hb76 hz77
   refine ⟨(fun _ => hC65.grown hg75 (rowm (List.Mem.head _))), ?_⟩
   have hg84 := (grown_trans (grown_trans hg33 hg42) hg54)
   have hk85 := (((hb28.grown hg84 nb).grown hg59 (rowne (ng lt73))).grown hg64 nb).grown hg75 (rowne (Nat.ne_of_lt lt67))
   refine gv_store (t := 27) (b := b25) (off := 0) (v := (.agg #[(.int .u64 0), (.int .u64 0)])) (t' := 27) (cs := #[(.int .u64 0), (.int .u64 0)]) #[(.int .u64 0), (.int .u64 0)] (by decide) rfl rfl (by kernel_rfl) (by kernel_rfl) (by kernel_rfl) (by intro u hu; simp [Value.cells] at hu; rcases hu with rfl | rfl <;> rfl) (show 0 + 2 ≤ 2 by decide) (by rfl) hk85 ?_
   intro w80 hg81 hb82 hz83
   have hC86 := hC65.grown hg75 (rowm (List.Mem.head _))
   refine ⟨(fun _ => hC86.grown hg81 (rowm (List.Mem.tail _ (List.Mem.head _)))), ?_⟩
   refine gv_nil <| gv_goA ?_
   refine gv_stage (fun _ => True) [0, 1, 2, 3, 4, 5] [(5, some false)] (bA 6 [0, 1, 2, 3, 4, 5]) 0 (by kernel_rfl) (by kernel_rfl) trivial ?_
   have hk91 := ((((hk70.grown hg54 nb).grown hg59 (rowne (ng lt71))).grown hg64 nb).grown hg75 (rowne (Nat.ne_of_lt lt69))).grown hg81 (rowne (Nat.ne_of_lt lt68))
   refine gv_store (t := 29) (b := b31) (off := 0) (v := (.agg #[(.int .i64 r39.2.1), (.int .i64 r39.2.2)])) (t' := 29) (cs := #[(.int .i64 0), (.int .i64 0)]) #[(.int .i64 r39.2.1), (.int .i64 r39.2.2)] (by decide) rfl rfl (by kernel_rfl) (by kernel_rfl) (by kernel_rfl) (by intro u hu; simp [Value.cells] at hu; rcases hu with rfl | rfl <;> rfl) (show 0 + 2 ≤ 2 by decide) (by rfl) hk91 ?_
   intro w87 hg88 hb89 hz90
   refine ⟨(fun _ => trivial), ?_⟩
   refine gv_nil <| gv_goA ?_
   refine gv_stageE (by kernel_rfl) ?_
   refine gv_cret ?_
   have e := sj h0; subst e
   have hk92 := (hb76.grown hg81 (rowne (ng lt67))).grown hg88 (rowne (ng lt69))
   have hk93 := hb82.grown hg88 (rowne (ng lt68))
   refine gv_ret (gv_done [(.agg #[(.bool false), (.slice none (List.length ([] : List Int)) 0)]), (.agg #[(.int .u64 0), (.int .u64 0)]), (.agg #[(.int .i64 r39.2.1), (.int .i64 r39.2.2)])] rfl ⟨⟨⟨b19, 0, none⟩, (by kernel_rfl), run_loadVar_row w87 b19 _ 24 _ _ _ hk92 Try.underlying24 rfl (by kernel_rfl)⟩, ⟨⟨b25, 0, none⟩, (by kernel_rfl), run_loadVar_row w87 b25 _ 27 _ _ _ hk93 Try.underlying27 rfl (by kernel_rfl)⟩, ⟨⟨b31, 0, none⟩, (by kernel_rfl), run_loadVar_row w87 b31 _ 29 _ _ _ hb89 Try.underlying29 rfl (by kernel_rfl)⟩, trivial⟩ ?_)
   have hg94 := (grown_trans (grown_trans (grown_trans (grown_trans hg3 hg9) hg15) hg21) hg78)
   have hB95 := bg hB0 hg94 nb
   have hg96 := (grown_trans (grown_trans (grown_trans (grown_trans (grown_trans (grown_trans hg3 hg9) hg15) hg21) hg27) hg33) hg42)
   have hB97 := bg hB0 hg96 nb
   have hlo98 : w0.heap.size ≤ b52 := lob hbe56 hB97.size
   have hB99 := bg hB95 hg59 (rowlo hlo98)
   have hB100 := bg hB99 hg64 nb
   have hg101 := (grown_trans (grown_trans hg3 hg9) hg15)
   have hB102 := bg hB0 hg101 nb
   have hlo103 : w0.heap.size ≤ b19 := lob hbe23 hB102.size
   have hB104 := bg hB100 hg75 (rowlo hlo103)
   have hB105 := bg hB102 hg21 nb
   have hlo106 : w0.heap.size ≤ b25 := lob hbe29 hB105.size
   have hB107 := bg hB104 hg81 (rowlo hlo106)
   have hB108 := bg hB105 hg27 nb
   have hlo109 : w0.heap.size ≤ b31 := lob hbe35 hB108.size
   have hB110 := bg hB107 hg88 (rowlo hlo109)
   exact ⟨grown_of_below hB110, none, 0, (fun _ => False), rfl, (Rd.nil (iE .u32) w87 (fun _ => False) none 0), (fun k hk => ⟨(fun _ h => h.elim) k hk, (fun _ h => h.elim) k hk⟩)⟩
  ·replace h0 := ite_f hc62 h0
   refine gv_seq <| gv_region ?_
   have hg111 := (grown_trans (grown_trans (grown_trans (grown_trans (grown_trans hg15 hg21) hg27) hg33) hg42) hg54)
   have lt112 := ltl ((ltb hb10) _ rfl) ((lowb hbe17) _ rfl)
   have lt113 := ltl ((ltb hb16) _ rfl) ((lowb hbe23) _ rfl)
   have lt114 := ltt lt112 lt113
   have lt115 := ltl ((ltb hb22) _ rfl) ((lowb hbe29) _ rfl)
   have lt116 := ltt lt114 lt115
   have lt117 := ltl ((ltb hb28) _ rfl) ((lowb hbe35) _ rfl)
   have lt118 := ltt lt116 lt117
   have hk119 := hb34.grown hg42 nb
   have lt120 := ltl ((ltb hk119) _ rfl) ((lowb hbe56) _ rfl)
   have lt121 := ltt lt118 lt120
   have hk122 := (hb10.grown hg111 nb).grown hg59 (rowne (ng lt121))
   refine gv_loadBox (t := 24) (b := b7) (t' := 24) (fr := (0, 0)) #[(.bool low_1.1), (.slice pa1_0 (List.length low_1.2) pc1_0)] [] (fun e => by cases e) rfl rfl rfl (by kernel_rfl) (by kernel_rfl) (by kernel_rfl) (by kernel_rfl) (inw0 hk122) rfl ?_
   refine bindE h0 ?_; clear h0; intro r123 hr124 h0
   have hg125 := (grown_trans (grown_trans hg3 hg9) hg111)
   have hB126 := bg hB0 hg125 nb
   have hg127 := (grown_trans (grown_trans (grown_trans (grown_trans (grown_trans (grown_trans hg3 hg9) hg15) hg21) hg27) hg33) hg42)
   have hB128 := bg hB0 hg127 nb
   have hlo129 : w0.heap.size ≤ b52 := lob hbe56 hB128.size
   have hB130 := bg hB126 hg59 (rowlo hlo129)
   refine gv_call0 (by kernel_rfl) rfl (by kernel_rfl) enters36 (integer_Valid_ok fuel pa1_0 pc1_0 (low_1.1, low_1.2) w58 (fun k => X0 k) (fun k hk => (fun k (hk : X0 k) => ltl (hX0 k hk) hB130.size) k hk) ((hpa1_0.below hB130 hX0).wide (fun k hk => hk)) r123 hr124) ?_
   rintro v133 w131 ⟨hg132, rfl⟩
   refine gv_pureN 2 [28, 31] [(28, (.bool (!r123)))] (by kernel_rfl) ?_
   refine gv_nil <| gv_cond (b := (!r123)) (by kernel_rfl) (fun hc134 => ?_) (fun hc134 => ?_)
   ·replace h0 := ite_t hc134 h0
    refine gv_seq <| gv_region <| gv_pureN 2 [32, 33] [(32, (.agg #[(.bool false), (.slice none (List.length ([] : List Int)) 0)])), (33, (.agg #[(.int .u64 0), (.int .u64 0)]))] (by kernel_rfl) ?_
    refine bindE h0 ?_; clear h0; intro r135 hr136 h0
    refine gv_call0 (by kernel_rfl) rfl (by kernel_rfl) enters37 (random_at_ok fuel 6 (-2) w131  r135 hr136) ?_
    rintro v139 w137 ⟨hg138, rfl⟩
    have hg144 := (grown_trans (grown_trans (grown_trans hg27 hg33) hg42) hg54)
    have lt145 := ltt lt115 lt117
    have lt146 := ltt lt145 lt120
    have hg147 := (grown_trans hg132 hg138)
    have hk148 := ((hb22.grown hg144 nb).grown hg59 (rowne (ng lt146))).grown hg147 nb
    refine gv_store0 24 0 (.agg #[(.bool false), (.slice none (List.length ([] : List Int)) 0)]) #[(.bool false), (.slice none (List.length ([] : List Int)) 0)] hk148 (by kernel_rfl) (by kernel_rfl) (by kernel_rfl) ?_
    intro w140 hg141 hb142 hz143
    clear hz143 hk148 hg147 lt146 hg144 hr136 hc134 hlo129 hB128 hg127 hB126 hg125 hr124 hk122 lt121 lt118 lt116 lt114 lt113 lt112 hg111 hc62 hz61 hb60 hbe56 hb55 hb34 hb22 hbe17 hb16 hbe11 hb10
    have hg153 := (grown_trans (grown_trans hg33 hg42) hg54)
    have lt154 := ltt lt117 lt120
    have hg155 := (grown_trans hg132 hg138)
    have hk156 := (((hb28.grown hg153 nb).grown hg59 (rowne (ng lt154))).grown hg155 nb).grown hg141 (rowne (Nat.ne_of_lt lt115))
    refine gv_store0 27 0 (.agg #[(.int .u64 0), (.int .u64 0)]) #[(.int .u64 0), (.int .u64 0)] hk156 (by kernel_rfl) (by kernel_rfl) (by kernel_rfl) ?_
    intro w149 hg150 hb151 hz152
    have hk161 := ((((hk119.grown hg54 nb).grown hg59 (rowne (ng lt120))).grown hg155 nb).grown hg141 (rowne (Nat.ne_of_lt lt145))).grown hg150 (rowne (Nat.ne_of_lt lt117))
    refine gv_store0 29 0 (.agg #[(.int .i64 r135.1), (.int .i64 r135.2)]) #[(.int .i64 r135.1), (.int .i64 r135.2)] hk161 (by kernel_rfl) (by kernel_rfl) (by kernel_rfl) ?_
    intro w157 hg158 hb159 hz160
    refine gv_nil <| gv_cret ?_
    have e := sj h0; subst e
    have hk162 := (hb142.grown hg150 (rowne (ng lt115))).grown hg158 (rowne (ng lt145))
    have hk163 := hb151.grown hg158 (rowne (ng lt117))
    refine gv_ret (gv_done [(.agg #[(.bool false), (.slice none (List.length ([] : List Int)) 0)]), (.agg #[(.int .u64 0), (.int .u64 0)]), (.agg #[(.int .i64 r135.1), (.int .i64 r135.2)])] rfl ⟨⟨⟨b19, 0, none⟩, (by kernel_rfl), run_loadVar_row w157 b19 _ 24 _ _ _ hk162 Try.underlying24 rfl (by kernel_rfl)⟩, ⟨⟨b25, 0, none⟩, (by kernel_rfl), run_loadVar_row w157 b25 _ 27 _ _ _ hk163 Try.underlying27 rfl (by kernel_rfl)⟩, ⟨⟨b31, 0, none⟩, (by kernel_rfl), run_loadVar_row w157 b31 _ 29 _ _ _ hb159 Try.underlying29 rfl (by kernel_rfl)⟩, trivial⟩ ?_)
    have hB164 := bg hB130 hg155 nb
    have hg165 := (grown_trans (grown_trans hg3 hg9) hg15)
    have hB166 := bg hB0 hg165 nb
    have hlo167 : w0.heap.size ≤ b19 := lob hbe23 hB166.size
    have hB168 := bg hB164 hg141 (rowlo hlo167)
    have hB169 := bg hB166 hg21 nb
    have hlo170 : w0.heap.size ≤ b25 := lob hbe29 hB169.size
    have hB171 := bg hB168 hg150 (rowlo hlo170)
    have hB172 := bg hB169 hg27 nb
    have hlo173 : w0.heap.size ≤ b31 := lob hbe35 hB172.size
    have hB174 := bg hB171 hg158 (rowlo hlo173)
    exact ⟨grown_of_below hB174, none, 0, (fun _ => False), rfl, (Rd.nil (iE .u32) w157 (fun _ => False) none 0), (fun k hk => ⟨(fun _ h => h.elim) k hk, (fun _ h => h.elim) k hk⟩)⟩
   ·replace h0 := ite_f hc134 h0
    refine gv_seq <| gv_region ?_
    have hg175 := (grown_trans (grown_trans (grown_trans (grown_trans hg21 hg27) hg33) hg42) hg54)
    have lt176 := ltt lt113 lt115
    have lt177 := ltt lt176 lt117
    have lt178 := ltt lt177 lt120
    have hk179 := ((hb16.grown hg175 nb).grown hg59 (rowne (ng lt178))).grown hg132 nb
    refine gv_loadBox (t := 24) (b := b13) (t' := 24) (fr := (0, 0)) #[(.bool high_2.1), (.slice pa2_0 (List.length high_2.2) pc2_0)] [] (fun e => by cases e) rfl rfl rfl (by kernel_rfl) (by kernel_rfl) (by kernel_rfl) (by kernel_rfl) (inw0 hk179) rfl ?_
    refine bindE h0 ?_; clear h0; intro r180 hr181 h0
    have hB182 := bg hB130 hg132 nb
    refine gv_call0 (by kernel_rfl) rfl (by kernel_rfl) enters36 (integer_Valid_ok fuel pa2_0 pc2_0 (high_2.1, high_2.2) w131 (fun k => X0 k) (fun k hk => (fun k (hk : X0 k) => ltl (hX0 k hk) hB182.size) k hk) ((hpa2_0.below hB182 hX0).wide (fun k hk => hk)) r180 hr181) ?_
    rintro v185 w183 ⟨hg184, rfl⟩
    refine gv_pureN 2 [35, 38] [(35, (.bool (!r180)))] (by kernel_rfl) ?_
    refine gv_nil <| gv_cond (b := (!r180)) (by kernel_rfl) (fun hc186 => ?_) (fun hc186 => ?_)
    ·replace h0 := ite_t hc186 h0
     refine gv_seq <| gv_region <| gv_pureN 2 [39, 40] [(39, (.agg #[(.bool false), (.slice none (List.length ([] : List Int)) 0)])), (40, (.agg #[(.int .u64 0), (.int .u64 0)]))] (by kernel_rfl) ?_
     refine bindE h0 ?_; clear h0; intro r187 hr188 h0
     refine gv_call0 (by kernel_rfl) rfl (by kernel_rfl) enters37 (random_at_ok fuel 6 (-3) w183  r187 hr188) ?_
     rintro v191 w189 ⟨hg190, rfl⟩
     have hg196 := (grown_trans (grown_trans (grown_trans hg27 hg33) hg42) hg54)
     have lt197 := ltt lt115 lt117
     have lt198 := ltt lt197 lt120
     have hg199 := (grown_trans (grown_trans hg132 hg184) hg190)
     have hk200 := ((hb22.grown hg196 nb).grown hg59 (rowne (ng lt198))).grown hg199 nb
     refine gv_store0 24 0 (.agg #[(.bool false), (.slice none (List.length ([] : List Int)) 0)]) #[(.bool false), (.slice none (List.length ([] : List Int)) 0)] hk200 (by kernel_rfl) (by kernel_rfl) (by kernel_rfl) ?_
     intro w192 hg193 hb194 hz195
     have hg205 := (grown_trans (grown_trans hg33 hg42) hg54)
     have lt206 := ltt lt117 lt120
     have hk207 := (((hb28.grown hg205 nb).grown hg59 (rowne (ng lt206))).grown hg199 nb).grown hg193 (rowne (Nat.ne_of_lt lt115))
     refine gv_store0 27 0 (.agg #[(.int .u64 0), (.int .u64 0)]) #[(.int .u64 0), (.int .u64 0)] hk207 (by kernel_rfl) (by kernel_rfl) (by kernel_rfl) ?_
     intro w201 hg202 hb203 hz204
     have hk212 := ((((hk119.grown hg54 nb).grown hg59 (rowne (ng lt120))).grown hg199 nb).grown hg193 (rowne (Nat.ne_of_lt lt197))).grown hg202 (rowne (Nat.ne_of_lt lt117))
     refine gv_store0 29 0 (.agg #[(.int .i64 r187.1), (.int .i64 r187.2)]) #[(.int .i64 r187.1), (.int .i64 r187.2)] hk212 (by kernel_rfl) (by kernel_rfl) (by kernel_rfl) ?_
     intro w208 hg209 hb210 hz211
     refine gv_nil <| gv_cret ?_
     have e := sj h0; subst e
     have hk213 := (hb194.grown hg202 (rowne (ng lt115))).grown hg209 (rowne (ng lt197))
     have hk214 := hb203.grown hg209 (rowne (ng lt117))
     refine gv_ret (gv_done [(.agg #[(.bool false), (.slice none (List.length ([] : List Int)) 0)]), (.agg #[(.int .u64 0), (.int .u64 0)]), (.agg #[(.int .i64 r187.1), (.int .i64 r187.2)])] rfl ⟨⟨⟨b19, 0, none⟩, (by kernel_rfl), run_loadVar_row w208 b19 _ 24 _ _ _ hk213 Try.underlying24 rfl (by kernel_rfl)⟩, ⟨⟨b25, 0, none⟩, (by kernel_rfl), run_loadVar_row w208 b25 _ 27 _ _ _ hk214 Try.underlying27 rfl (by kernel_rfl)⟩, ⟨⟨b31, 0, none⟩, (by kernel_rfl), run_loadVar_row w208 b31 _ 29 _ _ _ hb210 Try.underlying29 rfl (by kernel_rfl)⟩, trivial⟩ ?_)
     have hg215 := (grown_trans hg184 hg190)
     have hB216 := bg hB182 hg215 nb
     have hg217 := (grown_trans (grown_trans hg3 hg9) hg15)
     have hB218 := bg hB0 hg217 nb
     have hlo219 : w0.heap.size ≤ b19 := lob hbe23 hB218.size
     have hB220 := bg hB216 hg193 (rowlo hlo219)
     have hB221 := bg hB218 hg21 nb
     have hlo222 : w0.heap.size ≤ b25 := lob hbe29 hB221.size
     have hB223 := bg hB220 hg202 (rowlo hlo222)
     have hB224 := bg hB221 hg27 nb
     have hlo225 : w0.heap.size ≤ b31 := lob hbe35 hB224.size
     have hB226 := bg hB223 hg209 (rowlo hlo225)
     exact ⟨grown_of_below hB226, none, 0, (fun _ => False), rfl, (Rd.nil (iE .u32) w208 (fun _ => False) none 0), (fun k hk => ⟨(fun _ h => h.elim) k hk, (fun _ h => h.elim) k hk⟩)⟩
    ·replace h0 := ite_f hc186 h0
     refine gv_skip <| gv_blk <| gv_seq <| gv_seq <| gv_region ?_
     have hk227 := hk179.grown hg184 nb
     refine gv_loadBox (t := 24) (b := b13) (t' := 24) (fr := (0, 0)) #[(.bool high_2.1), (.slice pa2_0 (List.length high_2.2) pc2_0)] [] (fun e => by cases e) rfl rfl rfl (by kernel_rfl) (by kernel_rfl) (by kernel_rfl) (by kernel_rfl) (inw0 hk227) rfl ?_
     have hg228 := (grown_trans hg132 hg184)
     have hk229 := hk122.grown hg228 nb
     refine gv_loadBox (t := 24) (b := b7) (t' := 24) (fr := (0, 0)) #[(.bool low_1.1), (.slice pa1_0 (List.length low_1.2) pc1_0)] [] (fun e => by cases e) rfl rfl rfl (by kernel_rfl) (by kernel_rfl) (by kernel_rfl) (by kernel_rfl) (inw0 hk229) rfl ?_
     refine bindE h0 ?_; clear h0; intro r230 hr231 h0
     have hB232 := bg hB182 hg184 nb
     refine gv_call0 (by kernel_rfl) rfl (by kernel_rfl) enters44 (integer_Cmp_ok fuel pa2_0 pc2_0 (high_2.1, high_2.2) pa1_0 pc1_0 (low_1.1, low_1.2) w183 (fun k => X0 k ∨ X0 k) (fun k hk => (hk).elim (fun h => (fun k (hk : X0 k) => ltl (hX0 k hk) hB232.size) k h) (fun h => (fun k (hk : X0 k) => ltl (hX0 k hk) hB232.size) k h)) ((hpa2_0.below hB232 hX0).wide (fun k hk => (.inl hk))) ((hpa1_0.below hB232 hX0).wide (fun k hk => (.inr hk))) r230 hr231) ?_
     rintro v235 w233 ⟨hg234, rfl⟩
     clear hr231 hg228 hc186 hB182 hr181 hk179 hg175 hc134 hB130 hB128 hg127 hB126 hg125 hr124 hk122 hg111 hc62 hz61 hbe56 hb55 hb34 hb16 hb10
     refine gv_pureN 3 [42, 46, 47] [(46, (.int .i64 r230.1)), (47, (.agg #[(.int .i64 r230.2.1), (.int .i64 r230.2.2)]))] (by kernel_rfl) ?_
     refine gv_new0 (fun b => .pointer (some ⟨b, 0, none⟩)) #[(.int .i64 0), (.int .i64 0)] 29 (by kernel_rfl) (by kernel_rfl) ?_
     intro b236 w237 hg238 hb239 hbe240 hz241
     refine gv_pureN 1 [11] [(11, (.int .i64 r230.1))] (by kernel_rfl) ?_
     refine gv_store0 29 0 (.agg #[(.int .i64 r230.2.1), (.int .i64 r230.2.2)]) #[(.int .i64 r230.2.1), (.int .i64 r230.2.2)] hb239 (by kernel_rfl) (by kernel_rfl) (by kernel_rfl) ?_
     intro w242 hg243 hb244 hz245
     refine gv_nil <| gv_seq <| gv_region <| gv_pureN 2 [48, 49] [(49, (.bool (decide (r230.1 < 0))))] (by kernel_rfl) ?_
     refine gv_sub [4, 5, 6, 7, 8, 9, 10, 49] (σ' := [(4, (bp b7)), (5, (bp b13)), (6, (bp b19)), (7, (bp b25)), (8, (bp b31)), (9, (.pointer none)), (10, (bp b52)), (49, (.bool (decide (r230.1 < 0))))]) (by kernel_rfl) ?_
     refine gv_nil <| gv_cond (b := (decide (r230.1 < 0))) (by kernel_rfl) (fun hc246 => ?_) (fun hc246 => ?_)
     ·replace h0 := ite_t hc246 h0
      refine gv_seq <| gv_region <| gv_pureN 2 [50, 51] [(50, (.agg #[(.bool false), (.slice none (List.length ([] : List Int)) 0)])), (51, (.agg #[(.int .u64 0), (.int .u64 0)]))] (by kernel_rfl) ?_
      refine bindE h0 ?_; clear h0; intro r247 hr248 h0
      refine gv_call0 (by kernel_rfl) rfl (by kernel_rfl) enters37 (random_at_ok fuel 4 (-3) w242  r247 hr248) ?_
      rintro v251 w249 ⟨hg250, rfl⟩
      have hg256 := (grown_trans (grown_trans (grown_trans hg27 hg33) hg42) hg54)
      have lt257 := ltt lt115 lt117
      have lt258 := ltt lt257 lt120
      have hg259 := (grown_trans (grown_trans (grown_trans hg132 hg184) hg234) hg238)
      have hg260 := (grown_trans (grown_trans hg132 hg184) hg234)
      have hk261 := hb60.grown hg260 nb
      have lt262 := ltl ((ltb hk261) _ rfl) ((lowb hbe240) _ rfl)
      have lt263 := ltt lt258 lt262
      have hk264 := ((((hb22.grown hg256 nb).grown hg59 (rowne (ng lt258))).grown hg259 nb).grown hg243 (rowne (ng lt263))).grown hg250 nb
      refine gv_store0 24 0 (.agg #[(.bool false), (.slice none (List.length ([] : List Int)) 0)]) #[(.bool false), (.slice none (List.length ([] : List Int)) 0)] hk264 (by kernel_rfl) (by kernel_rfl) (by kernel_rfl) ?_
      intro w252 hg253 hb254 hz255
      have hg269 := (grown_trans (grown_trans hg33 hg42) hg54)
      have lt270 := ltt lt117 lt120
      have lt271 := ltt lt270 lt262
      have hk272 := (((((hb28.grown hg269 nb).grown hg59 (rowne (ng lt270))).grown hg259 nb).grown hg243 (rowne (ng lt271))).grown hg250 nb).grown hg253 (rowne (Nat.ne_of_lt lt115))
      refine gv_store0 27 0 (.agg #[(.int .u64 0), (.int .u64 0)]) #[(.int .u64 0), (.int .u64 0)] hk272 (by kernel_rfl) (by kernel_rfl) (by kernel_rfl) ?_
      intro w265 hg266 hb267 hz268
      have lt277 := ltt lt120 lt262
      have hk278 := ((((((hk119.grown hg54 nb).grown hg59 (rowne (ng lt120))).grown hg259 nb).grown hg243 (rowne (ng lt277))).grown hg250 nb).grown hg253 (rowne (Nat.ne_of_lt lt257))).grown hg266 (rowne (Nat.ne_of_lt lt117))
      refine gv_store0 29 0 (.agg #[(.int .i64 r247.1), (.int .i64 r247.2)]) #[(.int .i64 r247.1), (.int .i64 r247.2)] hk278 (by kernel_rfl) (by kernel_rfl) (by kernel_rfl) ?_
      intro w273 hg274 hb275 hz276
      refine gv_nil <| gv_cret ?_
      have e := sj h0; subst e
      have hk279 := (hb254.grown hg266 (rowne (ng lt115))).grown hg274 (rowne (ng lt257))
      have hk280 := hb267.grown hg274 (rowne (ng lt117))
      refine gv_ret (gv_done [(.agg #[(.bool false), (.slice none (List.length ([] : List Int)) 0)]), (.agg #[(.int .u64 0), (.int .u64 0)]), (.agg #[(.int .i64 r247.1), (.int .i64 r247.2)])] rfl ⟨⟨⟨b19, 0, none⟩, (by kernel_rfl), run_loadVar_row w273 b19 _ 24 _ _ _ hk279 Try.underlying24 rfl (by kernel_rfl)⟩, ⟨⟨b25, 0, none⟩, (by kernel_rfl), run_loadVar_row w273 b25 _ 27 _ _ _ hk280 Try.underlying27 rfl (by kernel_rfl)⟩, ⟨⟨b31, 0, none⟩, (by kernel_rfl), run_loadVar_row w273 b31 _ 29 _ _ _ hb275 Try.underlying29 rfl (by kernel_rfl)⟩, trivial⟩ ?_)
      have hg281 := (grown_trans hg234 hg238)
      have hB282 := bg hB232 hg281 nb
      have hB283 := bg hB232 hg234 nb
      have hlo284 : w0.heap.size ≤ b236 := lob hbe240 hB283.size
      have hB285 := bg hB282 hg243 (rowlo hlo284)
      have hB286 := bg hB285 hg250 nb
      have hg287 := (grown_trans (grown_trans hg3 hg9) hg15)
      have hB288 := bg hB0 hg287 nb
      have hlo289 : w0.heap.size ≤ b19 := lob hbe23 hB288.size
      have hB290 := bg hB286 hg253 (rowlo hlo289)
      have hB291 := bg hB288 hg21 nb
      have hlo292 : w0.heap.size ≤ b25 := lob hbe29 hB291.size
      have hB293 := bg hB290 hg266 (rowlo hlo292)
      have hB294 := bg hB291 hg27 nb
      have hlo295 : w0.heap.size ≤ b31 := lob hbe35 hB294.size
      have hB296 := bg hB293 hg274 (rowlo hlo295)
      exact ⟨grown_of_below hB296, none, 0, (fun _ => False), rfl, (Rd.nil (iE .u32) w273 (fun _ => False) none 0), (fun k hk => ⟨(fun _ h => h.elim) k hk, (fun _ h => h.elim) k hk⟩)⟩
     ·replace h0 := ite_f hc246 h0
      refine gv_skip <| gv_seq <| gv_region ?_
      have hg297 := (grown_trans hg234 hg238)
      have hg298 := (grown_trans (grown_trans hg132 hg184) hg234)
      have hk299 := hb60.grown hg298 nb
      have lt300 := ltl ((ltb hk299) _ rfl) ((lowb hbe240) _ rfl)
      have lt301 := ltt lt178 lt300
      have hk302 := (hk227.grown hg297 nb).grown hg243 (rowne (ng lt301))
      refine gv_loadBox (t := 24) (b := b13) (t' := 24) (fr := (0, 0)) #[(.bool high_2.1), (.slice pa2_0 (List.length high_2.2) pc2_0)] [] (fun e => by cases e) rfl rfl rfl (by kernel_rfl) (by kernel_rfl) (by kernel_rfl) (by kernel_rfl) (inw0 hk302) rfl ?_
      have lt303 := ltt lt121 lt300
      have hk304 := (hk229.grown hg297 nb).grown hg243 (rowne (ng lt303))
      refine gv_loadBox (t := 24) (b := b7) (t' := 24) (fr := (0, 0)) #[(.bool low_1.1), (.slice pa1_0 (List.length low_1.2) pc1_0)] [] (fun e => by cases e) rfl rfl rfl (by kernel_rfl) (by kernel_rfl) (by kernel_rfl) (by kernel_rfl) (inw0 hk304) rfl ?_
      refine bindE h0 ?_; clear h0; intro r305 hr306 h0
      have hB307 := bg hB232 hg297 nb
      have hB308 := bg hB232 hg234 nb
      have hlo309 : w0.heap.size ≤ b236 := lob hbe240 hB308.size
      have hB310 := bg hB307 hg243 (rowlo hlo309)
      refine gv_call0 (by kernel_rfl) rfl (by kernel_rfl) enters45 (integer_Sub_ok fuel pa2_0 pc2_0 (high_2.1, high_2.2) pa1_0 pc1_0 (low_1.1, low_1.2) w242 (fun k => X0 k ∨ X0 k) (fun k hk => (hk).elim (fun h => (fun k (hk : X0 k) => ltl (hX0 k hk) hB310.size) k h) (fun h => (fun k (hk : X0 k) => ltl (hX0 k hk) hB310.size) k h)) ((hpa2_0.below hB310 hX0).wide (fun k hk => (.inl hk))) ((hpa1_0.below hB310 hX0).wide (fun k hk => (.inr hk))) r305 hr306) ?_
      rintro v313 w311 ⟨hg312, a314, c315, X317, rfl, ho316, hx318⟩
      have hx319 : ∀ k, X317 k → k < w311.heap.size := fun k hk => (hx318 k hk).1
      have hx320 : ∀ k, X317 k → X0 k ∨ w0.heap.size ≤ k := fun k hk => (hx318 k hk).2.elim (fun h => (h).elim (fun h => (fun k (hk : X0 k) => Or.inl hk) k h) (fun h => (fun k (hk : X0 k) => Or.inl hk) k h)) (fun h => .inr (Nat.le_trans hB310.size h))
      refine gv_pureN 3 [53, 57, 58] [(57, (.agg #[(.bool r305.1.1), (.slice a314 (List.length r305.1.2) c315)])), (58, (.agg #[(.int .i64 r305.2.1), (.int .i64 r305.2.2)]))] (by kernel_rfl) ?_
      refine gv_new0 (fun b => .pointer (some ⟨b, 0, none⟩)) #[(.bool false), (.slice none (List.length ([] : List Int)) 0)] 24 (by kernel_rfl) (by kernel_rfl) ?_
      intro b321 w322 hg323 hb324 hbe325 hz326
      clear hz326 hlo309 hB308 hB307 hr306 hk302 lt301 hg298 hg297 hc246 hz245 hz241 hbe240 hb239 hB232 hk229 hk227 lt178 lt177 lt176 lt113 lt112 hb60 hbe17
      refine gv_store0 24 0 (.agg #[(.bool r305.1.1), (.slice a314 (List.length r305.1.2) c315)]) #[(.bool r305.1.1), (.slice a314 (List.length r305.1.2) c315)] hb324 (by kernel_rfl) (by kernel_rfl) (by kernel_rfl) ?_
      intro w327 hg328 hb329 hz330
      have hg335 := (grown_trans hg312 hg323)
      have hk336 := hb244.grown hg312 nb
      have lt337 := ltl ((ltb hk336) _ rfl) ((lowb hbe325) _ rfl)
      have lt338 := ltt lt300 lt337
      have hk339 := (((hk299.grown hg238 nb).grown hg243 (rowne (ng lt300))).grown hg335 nb).grown hg328 (rowne (ng lt338))
      refine gv_store0 29 0 (.agg #[(.int .i64 r305.2.1), (.int .i64 r305.2.2)]) #[(.int .i64 r305.2.1), (.int .i64 r305.2.2)] hk339 (by kernel_rfl) (by kernel_rfl) (by kernel_rfl) ?_
      intro w331 hg332 hb333 hz334
      refine gv_nil <| gv_seq <| gv_seq <| gv_region <| gv_pureN 1 [59] [(59, (bp b52))] (by kernel_rfl) ?_
      refine gv_load (t := 3) (A := ⟨b52, 0, none⟩) (.int .i64 r305.2.1) [] (fun e => by cases e) rfl rfl rfl (by kernel_rfl) (by kernel_rfl) (by kernel_rfl) (inw0 (hb333.cell 0 rfl)) rfl ?_
      refine gv_pureN 1 [61] [(61, (.bool (r305.2.1 == 0)))] (by kernel_rfl) ?_
      refine gv_nil <| bindE h0 ?_; clear h0; intro j340 h1 h0
      refine gv_cut_code (J := fun a w341 => ∃ (abb321_0j : Option Addr) (cbb321_0j : Nat), ∃ (Xbb321_0j : Nat → Prop), Below w0.heap.size w0 w341 ∧ w331.heap.size ≤ w341.heap.size ∧ Rd (iE .u32) w341 Xbb321_0j abb321_0j cbb321_0j j340.2.2 ∧ (∀ k, Xbb321_0j k → k < w341.heap.size) ∧ (∀ k, Xbb321_0j k → X0 k ∨ w0.heap.size ≤ k) ∧ ¬ Xbb321_0j b7 ∧ ¬ Xbb321_0j b19 ∧ ¬ Xbb321_0j b25 ∧ ¬ Xbb321_0j b31 ∧ ¬ Xbb321_0j b52 ∧ ¬ Xbb321_0j b321 ∧ Box w341 b7 24 #[(.bool low_1.1), (.slice pa1_0 (List.length low_1.2) pc1_0)] ∧ Box w341 b19 24 #[(.bool false), (.slice none (List.length ([] : List Int)) 0)] ∧ Box w341 b25 27 #[(.int .u64 0), (.int .u64 0)] ∧ Box w341 b31 29 #[(.int .i64 0), (.int .i64 0)] ∧ Box w341 b52 29 #[(.int .i64 j340.1.1), (.int .i64 j340.1.2)] ∧ Box w341 b321 24 #[(.bool j340.2.1), (.slice abb321_0j (List.length j340.2.2) cbb321_0j)] ∧ a.defers = [] ∧ a.tmps.size = 88 ∧ Ok [(4, (bp b7)), (6, (bp b19)), (7, (bp b25)), (8, (bp b31)), (9, (.pointer none)), (10, (bp b52)), (13, (bp b321))] a.tmps) ?_ ?_
      ·skip
       refine gv_cond (b := (r305.2.1 == 0)) (by kernel_rfl) (fun hc342 => ?_) (fun hc342 => ?_)
       ·replace h1 := ite_t hc342 h1
        refine gv_drawA (by kernel_rfl) ?_
        intro w343 hg344
        refine gv_stage (Cls w343 []) [0, 1] [(0, some true), (1, some false)] (bA 8 [0, 1]) 6 (by kernel_rfl) (by kernel_rfl) (Cls.refl _ _) ?_
        have hC345 := Cls.refl w343 []
        have hk346 := (hb329.grown hg332 (rowne (Nat.ne_of_lt lt338))).grown hg344 nb
        refine gv_loadBox (t := 24) (b := b321) (t' := 24) (fr := (0, 0)) #[(.bool r305.1.1), (.slice a314 (List.length r305.1.2) c315)] [] (fun e => by cases e) rfl rfl rfl (by kernel_rfl) (by kernel_rfl) (by kernel_rfl) (by kernel_rfl) (inw1 fun w' hC' => (hC'.box hk346 nm_nil)) rfl ?_
        refine bindE h1 ?_; clear h1; intro r347 hr348 h1
        refine gv_call (f := 47) (vs := [(.int .i64 1)]) (cap := []) _ (by decide) rfl rfl rfl (by kernel_rfl) (by kernel_rfl) enters47 (integer_Of_ok fuel 1 w343  r347 hr348) ?_
        rintro v351 w349 ⟨hg350, a352, c353, rfl, ho354, hl355⟩
        refine ⟨(fun _ => hC345.grown hg350 nb), ?_⟩
        have hB357 := bg hB310 hg335 nb
        have hB358 := bg hB310 hg312 nb
        have hlo359 : w0.heap.size ≤ b321 := lob hbe325 hB358.size
        have hB360 := bg hB357 hg328 (rowlo hlo359)
        have hB361 := bg hB360 hg332 (rowlo hlo129)
        have hB362 := bg hB361 hg344 nb
        have hl356 : ∀ g, blk a352 = some g → w0.heap.size ≤ g := fun g e => Nat.le_trans hB362.size (hl355 g e)
        refine gv_nil <| gv_goA ?_
        refine gv_stage (fun _ => True) [0, 1, 2] [(2, some false)] (bA 8 [0, 1, 2]) 5 (by kernel_rfl) (by kernel_rfl) trivial ?_
        refine bindE h1 ?_; clear h1; intro r363 hr364 h1
        have hg365 := (grown_trans hg344 hg350)
        have hx366 := ltx (ltx (ltx (ltx hx319 hg323.size) hg328.size) hg332.size) hg365.size
        have ap367 : ¬ X317 b321 := fun hx => nl ((lowb hbe325) _ rfl) (hx319 _ hx)
        have hx368 := ltx hx319 hg323.size
        have hk369 := (hk299.grown hg238 nb).grown hg243 (rowne (ng lt300))
        have ap370 : ¬ X317 b52 := fun h => ((hx318 _ h).2.elim (fun h => (h).elim (fun h => ((fun (hx : X0 b52) => nl hlo129 (hX0 _ hx)))  h) (fun h => ((fun (hx : X0 b52) => nl hlo129 (hX0 _ hx)))  h)) (fun h => nl h (hk369.lt)))
        have hx371 := ltx hx368 hg328.size
        have hx372 := ltx hx371 hg332.size
        have hk373 := (((ho316.grown hg323 hx319 nb).grown hg328 hx368 (rowne ap367)).grown hg332 hx371 (rowne ap370)).grown hg365 hx372 nb
        refine gv_call (f := 46) (vs := [(.agg #[(.bool r305.1.1), (.slice a314 (List.length r305.1.2) c315)]), (.agg #[(.bool r347.1), (.slice a352 (List.length r347.2) c353)])]) (cap := []) _ (by decide) rfl rfl rfl (by kernel_rfl) (by kernel_rfl) enters46 (integer_Add_ok fuel a314 c315 (r305.1.1, r305.1.2) a352 c353 (r347.1, r347.2) w349 (fun k => X317 k ∨ (fun k => blk a352 = some k) k) (fun k hk => (hk).elim (fun h => hx366 k h) (fun h => (fun k (hk : blk a352 = some k) => ho354.lt k hk) k h)) (hk373.wide (fun k hk => (.inl hk))) ((ho354.rd (Y := fun k => blk a352 = some k) (fun _ h => h.elim) (fun g e => e)).wide (fun k hk => (.inr hk))) r363 hr364) ?_
        rintro v376 w374 ⟨hg375, a377, c378, X380, rfl, ho379, hx381⟩
        refine ⟨(fun _ => trivial), ?_⟩
        have hx382 : ∀ k, X380 k → k < w374.heap.size := fun k hk => (hx381 k hk).1
        have hB384 := bg hB362 hg350 nb
        have hx383 : ∀ k, X380 k → X0 k ∨ w0.heap.size ≤ k := fun k hk => (hx381 k hk).2.elim (fun h => (h).elim (fun h => hx320 k h) (fun h => (fun k (hk : blk a352 = some k) => Or.inr (hl356 k hk)) k h)) (fun h => .inr (Nat.le_trans hB384.size h))
        refine gv_nil <| gv_goA ?_
        refine gv_pre [3, 4, 5] (bA 8 [0, 1, 2, 3, 4, 5]) 2 (by kernel_rfl) (by kernel_rfl) ?_
        refine gv_pureN 3 [62, 66, 67] [(66, (.agg #[(.bool r363.1.1), (.slice a377 (List.length r363.1.2) c378)])), (67, (.agg #[(.int .i64 r363.2.1), (.int .i64 r363.2.2)]))] (by kernel_rfl) ?_
        refine gv_sub [4, 6, 7, 8, 9, 10, 13, 66, 67] (σ' := [(4, (bp b7)), (6, (bp b19)), (7, (bp b25)), (8, (bp b31)), (9, (.pointer none)), (10, (bp b52)), (13, (bp b321)), (66, (.agg #[(.bool r363.1.1), (.slice a377 (List.length r363.1.2) c378)])), (67, (.agg #[(.int .i64 r363.2.1), (.int .i64 r363.2.2)]))]) (by kernel_rfl) ?_
        refine gv_nil <| gv_goA ?_
        refine gv_stage (fun _ => True) [0, 1, 2, 3, 4, 5, 6] [(6, some false)] (bA 8 [0, 1, 2, 3, 4, 5, 6]) 1 (by kernel_rfl) (by kernel_rfl) trivial ?_
        have hg389 := (grown_trans hg350 hg375)
        have hk390 := hk346.grown hg389 nb
        refine gv_store (t := 24) (b := b321) (off := 0) (v := (.agg #[(.bool r363.1.1), (.slice a377 (List.length r363.1.2) c378)])) (t' := 24) (cs := #[(.bool r305.1.1), (.slice a314 (List.length r305.1.2) c315)]) #[(.bool r363.1.1), (.slice a377 (List.length r363.1.2) c378)] (by decide) rfl rfl (by kernel_rfl) (by kernel_rfl) (by kernel_rfl) (by intro u hu; simp [Value.cells] at hu; rcases hu with rfl | rfl <;> rfl) (show 0 + 2 ≤ 2 by decide) (by rfl) hk390 ?_
        intro w385 hg386 hb387 hz388
        refine ⟨(fun _ => trivial), ?_⟩
        refine gv_nil <| gv_goA ?_
        refine gv_stage (fun _ => True) [0, 1, 2, 3, 4, 5, 6, 7] [(7, some false)] (bA 8 [0, 1, 2, 3, 4, 5, 6, 7]) 0 (by kernel_rfl) (by kernel_rfl) trivial ?_
        have hg395 := (grown_trans hg365 hg375)
        have hk396 := (hb333.grown hg395 nb).grown hg386 (rowne (ng lt338))
        refine gv_store (t := 29) (b := b52) (off := 0) (v := (.agg #[(.int .i64 r363.2.1), (.int .i64 r363.2.2)])) (t' := 29) (cs := #[(.int .i64 r305.2.1), (.int .i64 r305.2.2)]) #[(.int .i64 r363.2.1), (.int .i64 r363.2.2)] (by decide) rfl rfl (by kernel_rfl) (by kernel_rfl) (by kernel_rfl) (by intro u hu; simp [Value.cells] at hu; rcases hu with rfl | rfl <;> rfl) (show 0 + 2 ≤ 2 by decide) (by rfl) hk396 ?_
        intro w391 hg392 hb393 hz394
        refine ⟨(fun _ => trivial), ?_⟩
        refine gv_nil <| gv_goA ?_
        refine gv_stageE (by kernel_rfl) ?_
        have e := sj h1; subst e
        refine gv_goal fun a hd hs hok => ?_
        have hB397 := bg hB384 hg375 nb
        have hB398 := bg hB397 hg386 (rowlo hlo359)
        have hB399 := bg hB398 hg392 (rowlo hlo129)
        have hz400 := (nt (nt (nt (nt hg344.size hg350.size) hg375.size) hg386.size) hg392.size)
        have ap401 : ¬ (fun k => blk a352 = some k) b321 := fun hx => nl ((show ∀ k, blk a352 = some k → w343.heap.size ≤ k from hl355) _ hx) ((ltb hk346) _ rfl)
        have hk402 := hk346.grown hg350 nb
        have ap403 : ¬ X380 b321 := fun h => ((hx381 _ h).2.elim (fun h => (h).elim (fun h => (ap367)  h) (fun h => (ap401)  h)) (fun h => nl h (hk402.lt)))
        have hk404 := hb333.grown hg344 nb
        have ap405 : ¬ (fun k => blk a352 = some k) b52 := fun hx => nl ((show ∀ k, blk a352 = some k → w343.heap.size ≤ k from hl355) _ hx) ((ltb hk404) _ rfl)
        have hk406 := hk404.grown hg350 nb
        have ap407 : ¬ X380 b52 := fun h => ((hx381 _ h).2.elim (fun h => (h).elim (fun h => (ap370)  h) (fun h => (ap405)  h)) (fun h => nl h (hk406.lt)))
        have hx408 := ltx hx382 hg386.size
        have hk409 := (ho379.grown hg386 hx382 (rowne ap403)).grown hg392 hx408 (rowne ap407)
        have hx410 := ltx hx408 hg392.size
        have hB411 := bg hB0 hg3 nb
        have hlo412 : w0.heap.size ≤ b7 := lob hbe11 hB411.size
        have ap413 : ¬ X317 b7 := fun h => ((hx318 _ h).2.elim (fun h => (h).elim (fun h => ((fun (hx : X0 b7) => nl hlo412 (hX0 _ hx)))  h) (fun h => ((fun (hx : X0 b7) => nl hlo412 (hX0 _ hx)))  h)) (fun h => nl h (hk304.lt)))
        have lt414 := ltt lt303 lt337
        have hk415 := (((hk304.grown hg335 nb).grown hg328 (rowne (ng lt414))).grown hg332 (rowne (ng lt121))).grown hg344 nb
        have ap416 : ¬ (fun k => blk a352 = some k) b7 := fun hx => nl ((show ∀ k, blk a352 = some k → w343.heap.size ≤ k from hl355) _ hx) ((ltb hk415) _ rfl)
        have hk417 := hk415.grown hg350 nb
        have ap418 : ¬ X380 b7 := fun h => ((hx381 _ h).2.elim (fun h => (h).elim (fun h => (ap413)  h) (fun h => (ap416)  h)) (fun h => nl h (hk417.lt)))
        have hg419 := (grown_trans hg9 hg15)
        have hB420 := bg hB411 hg419 nb
        have hlo421 : w0.heap.size ≤ b19 := lob hbe23 hB420.size
        have hg422 := (grown_trans (grown_trans (grown_trans hg27 hg33) hg42) hg54)
        have lt423 := ltt lt115 lt117
        have lt424 := ltt lt423 lt120
        have hg425 := (grown_trans (grown_trans (grown_trans hg132 hg184) hg234) hg238)
        have lt426 := ltt lt424 lt300
        have hk427 := (((hb22.grown hg422 nb).grown hg59 (rowne (ng lt424))).grown hg425 nb).grown hg243 (rowne (ng lt426))
        have ap428 : ¬ X317 b19 := fun h => ((hx318 _ h).2.elim (fun h => (h).elim (fun h => ((fun (hx : X0 b19) => nl hlo421 (hX0 _ hx)))  h) (fun h => ((fun (hx : X0 b19) => nl hlo421 (hX0 _ hx)))  h)) (fun h => nl h (hk427.lt)))
        have lt429 := ltt lt426 lt337
        have hk430 := (((hk427.grown hg335 nb).grown hg328 (rowne (ng lt429))).grown hg332 (rowne (ng lt424))).grown hg344 nb
        have ap431 : ¬ (fun k => blk a352 = some k) b19 := fun hx => nl ((show ∀ k, blk a352 = some k → w343.heap.size ≤ k from hl355) _ hx) ((ltb hk430) _ rfl)
        have hk432 := hk430.grown hg350 nb
        have ap433 : ¬ X380 b19 := fun h => ((hx381 _ h).2.elim (fun h => (h).elim (fun h => (ap428)  h) (fun h => (ap431)  h)) (fun h => nl h (hk432.lt)))
        have hB434 := bg hB420 hg21 nb
        have hlo435 : w0.heap.size ≤ b25 := lob hbe29 hB434.size
        have hg436 := (grown_trans (grown_trans hg33 hg42) hg54)
        have lt437 := ltt lt117 lt120
        have lt438 := ltt lt437 lt300
        have hk439 := (((hb28.grown hg436 nb).grown hg59 (rowne (ng lt437))).grown hg425 nb).grown hg243 (rowne (ng lt438))
        have ap440 : ¬ X317 b25 := fun h => ((hx318 _ h).2.elim (fun h => (h).elim (fun h => ((fun (hx : X0 b25) => nl hlo435 (hX0 _ hx)))  h) (fun h => ((fun (hx : X0 b25) => nl hlo435 (hX0 _ hx)))  h)) (fun h => nl h (hk439.lt)))
        have lt441 := ltt lt438 lt337
        have hk442 := (((hk439.grown hg335 nb).grown hg328 (rowne (ng lt441))).grown hg332 (rowne (ng lt437))).grown hg344 nb
        have ap443 : ¬ (fun k => blk a352 = some k) b25 := fun hx => nl ((show ∀ k, blk a352 = some k → w343.heap.size ≤ k from hl355) _ hx) ((ltb hk442) _ rfl)
        have hk444 := hk442.grown hg350 nb
        have ap445 : ¬ X380 b25 := fun h => ((hx381 _ h).2.elim (fun h => (h).elim (fun h => (ap440)  h) (fun h => (ap443)  h)) (fun h => nl h (hk444.lt)))
        have hB446 := bg hB434 hg27 nb
        have hlo447 : w0.heap.size ≤ b31 := lob hbe35 hB446.size
        have lt448 := ltt lt120 lt300
        have hk449 := (((hk119.grown hg54 nb).grown hg59 (rowne (ng lt120))).grown hg425 nb).grown hg243 (rowne (ng lt448))
        have ap450 : ¬ X317 b31 := fun h => ((hx318 _ h).2.elim (fun h => (h).elim (fun h => ((fun (hx : X0 b31) => nl hlo447 (hX0 _ hx)))  h) (fun h => ((fun (hx : X0 b31) => nl hlo447 (hX0 _ hx)))  h)) (fun h => nl h (hk449.lt)))
        have lt451 := ltt lt448 lt337
        have hk452 := (((hk449.grown hg335 nb).grown hg328 (rowne (ng lt451))).grown hg332 (rowne (ng lt120))).grown hg344 nb
        have ap453 : ¬ (fun k => blk a352 = some k) b31 := fun hx => nl ((show ∀ k, blk a352 = some k → w343.heap.size ≤ k from hl355) _ hx) ((ltb hk452) _ rfl)
        have hk454 := hk452.grown hg350 nb
        have ap455 : ¬ X380 b31 := fun h => ((hx381 _ h).2.elim (fun h => (h).elim (fun h => (ap450)  h) (fun h => (ap453)  h)) (fun h => nl h (hk454.lt)))
        have hk456 := ((hk417.grown hg375 nb).grown hg386 (rowne (ng lt414))).grown hg392 (rowne (ng lt121))
        have hk457 := ((hk432.grown hg375 nb).grown hg386 (rowne (ng lt429))).grown hg392 (rowne (ng lt424))
        have hk458 := ((hk444.grown hg375 nb).grown hg386 (rowne (ng lt441))).grown hg392 (rowne (ng lt437))
        have hk459 := ((hk454.grown hg375 nb).grown hg386 (rowne (ng lt451))).grown hg392 (rowne (ng lt120))
        have hk460 := hb387.grown hg392 (rowne (Nat.ne_of_lt lt338))
        exact ⟨a377, c378, X380, hB399, hz400, hk409, hx410, hx383, ap418, ap433, ap445, ap455, ap407, ap403, hk456, hk457, hk458, hk459, hb393, hk460, hd, hs, ok_pick [4, 6, 7, 8, 9, 10, 13] hok (by kernel_rfl)⟩
       ·replace h1 := ite_f hc342 h1
        refine gv_skip ?_
        have e := sj h1; subst e
        refine gv_goal fun a hd hs hok => ?_
        have hB461 := bg hB310 hg335 nb
        have hB462 := bg hB310 hg312 nb
        have hlo463 : w0.heap.size ≤ b321 := lob hbe325 hB462.size
        have hB464 := bg hB461 hg328 (rowlo hlo463)
        have hB465 := bg hB464 hg332 (rowlo hlo129)
        have ap466 : ¬ X317 b321 := fun hx => nl ((lowb hbe325) _ rfl) (hx319 _ hx)
        have hx467 := ltx hx319 hg323.size
        have hk468 := (hk299.grown hg238 nb).grown hg243 (rowne (ng lt300))
        have ap469 : ¬ X317 b52 := fun h => ((hx318 _ h).2.elim (fun h => (h).elim (fun h => ((fun (hx : X0 b52) => nl hlo129 (hX0 _ hx)))  h) (fun h => ((fun (hx : X0 b52) => nl hlo129 (hX0 _ hx)))  h)) (fun h => nl h (hk468.lt)))
        have hx470 := ltx hx467 hg328.size
        have hk471 := ((ho316.grown hg323 hx319 nb).grown hg328 hx467 (rowne ap466)).grown hg332 hx470 (rowne ap469)
        have hx472 := ltx hx470 hg332.size
        have hB473 := bg hB0 hg3 nb
        have hlo474 : w0.heap.size ≤ b7 := lob hbe11 hB473.size
        have ap475 : ¬ X317 b7 := fun h => ((hx318 _ h).2.elim (fun h => (h).elim (fun h => ((fun (hx : X0 b7) => nl hlo474 (hX0 _ hx)))  h) (fun h => ((fun (hx : X0 b7) => nl hlo474 (hX0 _ hx)))  h)) (fun h => nl h (hk304.lt)))
        have hg476 := (grown_trans hg9 hg15)
        have hB477 := bg hB473 hg476 nb
        have hlo478 : w0.heap.size ≤ b19 := lob hbe23 hB477.size
        have hg479 := (grown_trans (grown_trans (grown_trans hg27 hg33) hg42) hg54)
        have lt480 := ltt lt115 lt117
        have lt481 := ltt lt480 lt120
        have hg482 := (grown_trans (grown_trans (grown_trans hg132 hg184) hg234) hg238)
        have lt483 := ltt lt481 lt300
        have hk484 := (((hb22.grown hg479 nb).grown hg59 (rowne (ng lt481))).grown hg482 nb).grown hg243 (rowne (ng lt483))
        have ap485 : ¬ X317 b19 := fun h => ((hx318 _ h).2.elim (fun h => (h).elim (fun h => ((fun (hx : X0 b19) => nl hlo478 (hX0 _ hx)))  h) (fun h => ((fun (hx : X0 b19) => nl hlo478 (hX0 _ hx)))  h)) (fun h => nl h (hk484.lt)))
        have hB486 := bg hB477 hg21 nb
        have hlo487 : w0.heap.size ≤ b25 := lob hbe29 hB486.size
        have hg488 := (grown_trans (grown_trans hg33 hg42) hg54)
        have lt489 := ltt lt117 lt120
        have lt490 := ltt lt489 lt300
        have hk491 := (((hb28.grown hg488 nb).grown hg59 (rowne (ng lt489))).grown hg482 nb).grown hg243 (rowne (ng lt490))
        have ap492 : ¬ X317 b25 := fun h => ((hx318 _ h).2.elim (fun h => (h).elim (fun h => ((fun (hx : X0 b25) => nl hlo487 (hX0 _ hx)))  h) (fun h => ((fun (hx : X0 b25) => nl hlo487 (hX0 _ hx)))  h)) (fun h => nl h (hk491.lt)))
        have hB493 := bg hB486 hg27 nb
        have hlo494 : w0.heap.size ≤ b31 := lob hbe35 hB493.size
        have lt495 := ltt lt120 lt300
        have hk496 := (((hk119.grown hg54 nb).grown hg59 (rowne (ng lt120))).grown hg482 nb).grown hg243 (rowne (ng lt495))
        have ap497 : ¬ X317 b31 := fun h => ((hx318 _ h).2.elim (fun h => (h).elim (fun h => ((fun (hx : X0 b31) => nl hlo494 (hX0 _ hx)))  h) (fun h => ((fun (hx : X0 b31) => nl hlo494 (hX0 _ hx)))  h)) (fun h => nl h (hk496.lt)))
        have lt498 := ltt lt303 lt337
        have hk499 := ((hk304.grown hg335 nb).grown hg328 (rowne (ng lt498))).grown hg332 (rowne (ng lt121))
        have lt500 := ltt lt483 lt337
        have hk501 := ((hk484.grown hg335 nb).grown hg328 (rowne (ng lt500))).grown hg332 (rowne (ng lt481))
        have lt502 := ltt lt490 lt337
        have hk503 := ((hk491.grown hg335 nb).grown hg328 (rowne (ng lt502))).grown hg332 (rowne (ng lt489))
        have lt504 := ltt lt495 lt337
        have hk505 := ((hk496.grown hg335 nb).grown hg328 (rowne (ng lt504))).grown hg332 (rowne (ng lt120))
        have hk506 := hb329.grown hg332 (rowne (Nat.ne_of_lt lt338))
        exact ⟨a314, c315, X317, hB465, (Nat.le_refl _), hk471, hx472, hx320, ap475, ap485, ap492, ap497, ap469, ap466, hk499, hk501, hk503, hk505, hb333, hk506, hd, hs, ok_pick [4, 6, 7, 8, 9, 10, 13] hok (by kernel_rfl)⟩
      ·rintro a w341 ⟨a509, c510, X509, hB507, hz508, hr511, hx512, hx513, ap514, ap515, ap516, ap517, ap518, ap519, hb520, hb521, hb522, hb523, hb524, hb525, hd, hs, hok⟩
       refine gv_in ?_ hd hs hok
       clear hd hs hok
       clear hz508 hz334 hb333 hg332 hk339 hk336 hg335 hz330 hb329 hg328 hb324 hg323 hx320 hx319 hx318 ho316 hk304 hk299 hb244 hg243 hg238 hg234 hg184 hg132 hk119 hg59 hg54 hg42 hg33 hb28 hb22
       refine gv_seq <| gv_seq <| gv_region <| gv_pureN 1 [68] [(68, (bp b52))] (by kernel_rfl) ?_
       refine gv_load (t := 3) (A := ⟨b52, 0, none⟩) (.int .i64 j340.1.1) [] (fun e => by cases e) rfl rfl rfl (by kernel_rfl) (by kernel_rfl) (by kernel_rfl) (inw0 (hb524.cell 0 rfl)) rfl ?_
       refine gv_pureN 1 [70] [(70, (.bool (j340.1.1 != 0)))] (by kernel_rfl) ?_
       refine gv_nil <| gv_cond (b := (j340.1.1 != 0)) (by kernel_rfl) (fun hc526 => ?_) (fun hc526 => ?_)
       ·replace h0 := ite_t hc526 h0
        refine gv_seq <| gv_region <| gv_pureN 2 [71, 72] [(71, (.agg #[(.bool false), (.slice none (List.length ([] : List Int)) 0)])), (72, (.agg #[(.int .u64 0), (.int .u64 0)]))] (by kernel_rfl) ?_
        refine bindE h0 ?_; clear h0; intro r527 hr528 h0
        refine gv_call0 (by kernel_rfl) rfl (by kernel_rfl) enters37 (random_at_ok fuel 14 (-3) w341  r527 hr528) ?_
        rintro v531 w529 ⟨hg530, rfl⟩
        clear hr528 hc526 hb525 hb524 hb520 ap519 ap518 ap517 ap516 ap515 ap514 hx513 hx512 hr511 lt338 lt337 hbe325 hg312 hB310 lt303 lt300 hlo129 lt121 lt120 lt118 lt116 lt114 hbe11
        have hk536 := hb521.grown hg530 nb
        refine gv_store0 24 0 (.agg #[(.bool false), (.slice none (List.length ([] : List Int)) 0)]) #[(.bool false), (.slice none (List.length ([] : List Int)) 0)] hk536 (by kernel_rfl) (by kernel_rfl) (by kernel_rfl) ?_
        intro w532 hg533 hb534 hz535
        have hk541 := (hb522.grown hg530 nb).grown hg533 (rowne (Nat.ne_of_lt lt115))
        refine gv_store0 27 0 (.agg #[(.int .u64 0), (.int .u64 0)]) #[(.int .u64 0), (.int .u64 0)] hk541 (by kernel_rfl) (by kernel_rfl) (by kernel_rfl) ?_
        intro w537 hg538 hb539 hz540
        have lt546 := ltt lt115 lt117
        have hk547 := ((hb523.grown hg530 nb).grown hg533 (rowne (Nat.ne_of_lt lt546))).grown hg538 (rowne (Nat.ne_of_lt lt117))
        refine gv_store0 29 0 (.agg #[(.int .i64 r527.1), (.int .i64 r527.2)]) #[(.int .i64 r527.1), (.int .i64 r527.2)] hk547 (by kernel_rfl) (by kernel_rfl) (by kernel_rfl) ?_
        intro w542 hg543 hb544 hz545
        refine gv_nil <| gv_cret ?_
        have e := sj h0; subst e
        have hk548 := (hb534.grown hg538 (rowne (ng lt115))).grown hg543 (rowne (ng lt546))
        have hk549 := hb539.grown hg543 (rowne (ng lt117))
        refine gv_ret (gv_done [(.agg #[(.bool false), (.slice none (List.length ([] : List Int)) 0)]), (.agg #[(.int .u64 0), (.int .u64 0)]), (.agg #[(.int .i64 r527.1), (.int .i64 r527.2)])] rfl ⟨⟨⟨b19, 0, none⟩, (by kernel_rfl), run_loadVar_row w542 b19 _ 24 _ _ _ hk548 Try.underlying24 rfl (by kernel_rfl)⟩, ⟨⟨b25, 0, none⟩, (by kernel_rfl), run_loadVar_row w542 b25 _ 27 _ _ _ hk549 Try.underlying27 rfl (by kernel_rfl)⟩, ⟨⟨b31, 0, none⟩, (by kernel_rfl), run_loadVar_row w542 b31 _ 29 _ _ _ hb544 Try.underlying29 rfl (by kernel_rfl)⟩, trivial⟩ ?_)
        have hB550 := bg hB507 hg530 nb
        have hg551 := (grown_trans (grown_trans hg3 hg9) hg15)
        have hB552 := bg hB0 hg551 nb
        have hlo553 : w0.heap.size ≤ b19 := lob hbe23 hB552.size
        have hB554 := bg hB550 hg533 (rowlo hlo553)
        have hB555 := bg hB552 hg21 nb
        have hlo556 : w0.heap.size ≤ b25 := lob hbe29 hB555.size
        have hB557 := bg hB554 hg538 (rowlo hlo556)
        have hB558 := bg hB555 hg27 nb
        have hlo559 : w0.heap.size ≤ b31 := lob hbe35 hB558.size
        have hB560 := bg hB557 hg543 (rowlo hlo559)
        exact ⟨grown_of_below hB560, none, 0, (fun _ => False), rfl, (Rd.nil (iE .u32) w542 (fun _ => False) none 0), (fun k hk => ⟨(fun _ h => h.elim) k hk, (fun _ h => h.elim) k hk⟩)⟩
       ·replace h0 := ite_f hc526 h0
        refine gv_skip <| gv_seq ?_
        cases h0
 ·skip
  replace h0 := optc_some hn47 h0
  have hg562 := (grown_trans hg3 hg37)
  have hB563 := bg hB0 hg562 nb
  have hl561 : w0.heap.size ≤ b49 := Nat.le_trans hB563.size hlo51
  refine gv_pureN 3 [16, 19, 20] [(19, (bp b49)), (20, (.agg #[(.int .i64 r39.2.1), (.int .i64 r39.2.2)]))] (by kernel_rfl) ?_
  refine gv_new0 (fun b => .pointer (some ⟨b, 0, none⟩)) #[(.int .i64 0), (.int .i64 0)] 29 (by kernel_rfl) (by kernel_rfl) ?_
  intro b564 w565 hg566 hb567 hbe568 hz569
  refine gv_pureN 1 [9] [(9, (bp b49))] (by kernel_rfl) ?_
  refine gv_store0 29 0 (.agg #[(.int .i64 r39.2.1), (.int .i64 r39.2.2)]) #[(.int .i64 r39.2.1), (.int .i64 r39.2.2)] hb567 (by kernel_rfl) (by kernel_rfl) (by kernel_rfl) ?_
  intro w570 hg571 hb572 hz573
  refine gv_nil <| gv_seq <| gv_block <| gv_seq <| gv_region <| gv_pureN 1 [22] [(22, (bp b564))] (by kernel_rfl) ?_
  refine gv_load (t := 3) (A := ⟨b564, 0, none⟩) (.int .i64 r39.2.1) [] (fun e => by cases e) rfl rfl rfl (by kernel_rfl) (by kernel_rfl) (by kernel_rfl) (inw0 (hb572.cell 0 rfl)) rfl ?_
  refine gv_pureN 2 [21, 24] [(21, (.bool (r39.2.1 != 0)))] (by kernel_rfl) ?_
  refine gv_sub [4, 5, 6, 7, 8, 9, 10, 21] (σ' := [(4, (bp b7)), (5, (bp b13)), (6, (bp b19)), (7, (bp b25)), (8, (bp b31)), (9, (bp b49)), (10, (bp b564)), (21, (.bool (r39.2.1 != 0)))]) (by kernel_rfl) ?_
  refine gv_nil <| gv_cond (b := (r39.2.1 != 0)) (by kernel_rfl) (fun hc574 => ?_) (fun hc574 => ?_)
  ·replace h0 := ite_t hc574 h0
   refine gv_seq <| gv_drawA (by kernel_rfl) ?_
   intro w575 hg576
   refine gv_pre [0, 1] (bA 6 [0, 1]) 4 (by kernel_rfl) (by kernel_rfl) ?_
   refine gv_pureN 2 [25, 26] [(25, (.agg #[(.bool false), (.slice none (List.length ([] : List Int)) 0)])), (26, (.agg #[(.int .u64 0), (.int .u64 0)]))] (by kernel_rfl) ?_
   refine gv_nil <| gv_goA ?_
   refine gv_stage (Cls w575 [b19, b25]) [0, 1, 2, 3, 4] [(2, some true), (3, some false), (4, some false)] (bA 6 [0, 1, 2, 3, 4]) 1 (by kernel_rfl) (by kernel_rfl) (Cls.refl _ _) ?_
   have hC577 := Cls.refl w575 [b19, b25]
   have hk578 := hb572.grown hg576 nb
   have lt579 := ltl ((ltb hb22) _ rfl) ((lowb hbe29) _ rfl)
   have lt580 := ltl ((ltb hb28) _ rfl) ((lowb hbe35) _ rfl)
   have lt581 := ltt lt579 lt580
   have lt582 := ltl ((ltb hb34) _ rfl) ((lowe hlo51) _ rfl)
   have lt583 := ltt lt581 lt582
   have lt584 := ltl ((ltb hb50) _ rfl) ((lowb hbe568) _ rfl)
   have lt585 := ltt lt583 lt584
   have lt586 := ltt lt580 lt582
   have lt587 := ltt lt586 lt584
   refine gv_loadBox (t := 29) (b := b564) (t' := 29) (fr := (0, 0)) #[(.int .i64 r39.2.1), (.int .i64 r39.2.2)] [] (fun e => by cases e) rfl rfl rfl (by kernel_rfl) (by kernel_rfl) (by kernel_rfl) (by kernel_rfl) (inw1 fun w' hC' => (hC'.box hk578 (nm_cons (ng lt585) (nm_cons (ng lt587) nm_nil)))) rfl ?_
   have hg592 := (grown_trans (grown_trans (grown_trans hg27 hg33) hg42) hg566)
   have hk593 := ((hb22.grown hg592 nb).grown hg571 (rowne (ng lt585))).grown hg576 nb
   refine gv_store (t := 24) (b := b19) (off := 0) (v := (.agg #[(.bool false), (.slice none (List.length ([] : List Int)) 0)])) (t' := 24) (cs := #[(.bool false), (.slice none (List.length ([] : List Int)) 0)]) #[(.bool false), (.slice none (List.length ([] : List Int)) 0)] (by decide) rfl rfl (by kernel_rfl) (by kernel_rfl) (by kernel_rfl) (by intro u hu; simp [Value.cells] at hu; rcases hu with rfl | rfl <;> rfl) (show 0 + 2 ≤ 2 by decide) (by rfl) hk593 ?_
   intro w588 hg589 hb590 hz591
   refine ⟨(fun _ => hC577.grown hg589 (rowm (List.Mem.head _))), ?_⟩
   have hg598 := (grown_trans (grown_trans hg33 hg42) hg566)
   have hk599 := (((hb28.grown hg598 nb).grown hg571 (rowne (ng lt587))).grown hg576 nb).grown hg589 (rowne (Nat.ne_of_lt lt579))
   refine gv_store (t := 27) (b := b25) (off := 0) (v := (.agg #[(.int .u64 0), (.int .u64 0)])) (t' := 27) (cs := #[(.int .u64 0), (.int .u64 0)]) #[(.int .u64 0), (.int .u64 0)] (by decide) rfl rfl (by kernel_rfl) (by kernel_rfl) (by kernel_rfl) (by intro u hu; simp [Value.cells] at hu; rcases hu with rfl | rfl <;> rfl) (show 0 + 2 ≤ 2 by decide) (by rfl) hk599 ?_
   intro w594 hg595 hb596 hz597
   have hC600 := hC577.grown hg589 (rowm (List.Mem.head _))
   refine ⟨(fun _ => hC600.grown hg595 (rowm (List.Mem.tail _ (List.Mem.head _)))), ?_⟩
   have hz601 := (nt hg589.size hg595.size)
   clear hz597 hk599 hg598 hz591 hg592 lt586 lt585 lt583 hC577 hc574 hz573 hb572 hz569 hb567 hg562 hr40 hg37 hz36 hz30 hz24 hb22 hz18 hz12 hz6
   refine gv_nil <| gv_goA ?_
   refine gv_stage (fun _ => True) [0, 1, 2, 3, 4, 5] [(5, some false)] (bA 6 [0, 1, 2, 3, 4, 5]) 0 (by kernel_rfl) (by kernel_rfl) trivial ?_
   have hg606 := (grown_trans hg42 hg566)
   have lt607 := ltt lt582 lt584
   have hk608 := ((((hb34.grown hg606 nb).grown hg571 (rowne (ng lt607))).grown hg576 nb).grown hg589 (rowne (Nat.ne_of_lt lt581))).grown hg595 (rowne (Nat.ne_of_lt lt580))
   refine gv_store (t := 29) (b := b31) (off := 0) (v := (.agg #[(.int .i64 r39.2.1), (.int .i64 r39.2.2)])) (t' := 29) (cs := #[(.int .i64 0), (.int .i64 0)]) #[(.int .i64 r39.2.1), (.int .i64 r39.2.2)] (by decide) rfl rfl (by kernel_rfl) (by kernel_rfl) (by kernel_rfl) (by intro u hu; simp [Value.cells] at hu; rcases hu with rfl | rfl <;> rfl) (show 0 + 2 ≤ 2 by decide) (by rfl) hk608 ?_
   intro w602 hg603 hb604 hz605
   refine ⟨(fun _ => trivial), ?_⟩
   refine gv_nil <| gv_goA ?_
   refine gv_stageE (by kernel_rfl) ?_
   refine gv_cret ?_
   have e := sj h0; subst e
   have hk609 := (hb590.grown hg595 (rowne (ng lt579))).grown hg603 (rowne (ng lt581))
   have hk610 := hb596.grown hg603 (rowne (ng lt580))
   refine gv_ret (gv_done [(.agg #[(.bool false), (.slice none (List.length ([] : List Int)) 0)]), (.agg #[(.int .u64 0), (.int .u64 0)]), (.agg #[(.int .i64 r39.2.1), (.int .i64 r39.2.2)])] rfl ⟨⟨⟨b19, 0, none⟩, (by kernel_rfl), run_loadVar_row w602 b19 _ 24 _ _ _ hk609 Try.underlying24 rfl (by kernel_rfl)⟩, ⟨⟨b25, 0, none⟩, (by kernel_rfl), run_loadVar_row w602 b25 _ 27 _ _ _ hk610 Try.underlying27 rfl (by kernel_rfl)⟩, ⟨⟨b31, 0, none⟩, (by kernel_rfl), run_loadVar_row w602 b31 _ 29 _ _ _ hb604 Try.underlying29 rfl (by kernel_rfl)⟩, trivial⟩ ?_)
   have hB611 := bg hB563 hg606 nb
   have hB612 := bg hB563 hg42 nb
   have hlo613 : w0.heap.size ≤ b564 := lob hbe568 hB612.size
   have hB614 := bg hB611 hg571 (rowlo hlo613)
   have hB615 := bg hB614 hg576 nb
   have hg616 := (grown_trans (grown_trans hg3 hg9) hg15)
   have hB617 := bg hB0 hg616 nb
   have hlo618 : w0.heap.size ≤ b19 := lob hbe23 hB617.size
   have hB619 := bg hB615 hg589 (rowlo hlo618)
   have hB620 := bg hB617 hg21 nb
   have hlo621 : w0.heap.size ≤ b25 := lob hbe29 hB620.size
   have hB622 := bg hB619 hg595 (rowlo hlo621)
   have hB623 := bg hB620 hg27 nb
   have hlo624 : w0.heap.size ≤ b31 := lob hbe35 hB623.size
   have hB625 := bg hB622 hg603 (rowlo hlo624)
   exact ⟨grown_of_below hB625, none, 0, (fun _ => False), rfl, (Rd.nil (iE .u32) w602 (fun _ => False) none 0), (fun k hk => ⟨(fun _ h => h.elim) k hk, (fun _ h => h.elim) k hk⟩)⟩
  ·replace h0 := ite_f hc574 h0
   refine gv_seq <| gv_region ?_
   have hg626 := (grown_trans (grown_trans (grown_trans (grown_trans (grown_trans hg15 hg21) hg27) hg33) hg42) hg566)
   have lt627 := ltl ((ltb hb10) _ rfl) ((lowb hbe17) _ rfl)
   have lt628 := ltl ((ltb hb16) _ rfl) ((lowb hbe23) _ rfl)
   have lt629 := ltt lt627 lt628
   have lt630 := ltl ((ltb hb22) _ rfl) ((lowb hbe29) _ rfl)
   have lt631 := ltt lt629 lt630
   have lt632 := ltl ((ltb hb28) _ rfl) ((lowb hbe35) _ rfl)
   have lt633 := ltt lt631 lt632
   have lt634 := ltl ((ltb hb34) _ rfl) ((lowe hlo51) _ rfl)
   have lt635 := ltt lt633 lt634
   have lt636 := ltl ((ltb hb50) _ rfl) ((lowb hbe568) _ rfl)
   have lt637 := ltt lt635 lt636
   have hk638 := (hb10.grown hg626 nb).grown hg571 (rowne (ng lt637))
   refine gv_loadBox (t := 24) (b := b7) (t' := 24) (fr := (0, 0)) #[(.bool low_1.1), (.slice pa1_0 (List.length low_1.2) pc1_0)] [] (fun e => by cases e) rfl rfl rfl (by kernel_rfl) (by kernel_rfl) (by kernel_rfl) (by kernel_rfl) (inw0 hk638) rfl ?_
   refine bindE h0 ?_; clear h0; intro r639 hr640 h0
   have hg641 := (grown_trans hg42 hg566)
   have hB642 := bg hB563 hg641 nb
   have hB643 := bg hB563 hg42 nb
   have hlo644 : w0.heap.size ≤ b564 := lob hbe568 hB643.size
   have hB645 := bg hB642 hg571 (rowlo hlo644)
   refine gv_call0 (by kernel_rfl) rfl (by kernel_rfl) enters36 (integer_Valid_ok fuel pa1_0 pc1_0 (low_1.1, low_1.2) w570 (fun k => X0 k) (fun k hk => (fun k (hk : X0 k) => ltl (hX0 k hk) hB645.size) k hk) ((hpa1_0.below hB645 hX0).wide (fun k hk => hk)) r639 hr640) ?_
   rintro v648 w646 ⟨hg647, rfl⟩
   refine gv_pureN 2 [28, 31] [(28, (.bool (!r639)))] (by kernel_rfl) ?_
   refine gv_nil <| gv_cond (b := (!r639)) (by kernel_rfl) (fun hc649 => ?_) (fun hc649 => ?_)
   ·replace h0 := ite_t hc649 h0
    refine gv_seq <| gv_region <| gv_pureN 2 [32, 33] [(32, (.agg #[(.bool false), (.slice none (List.length ([] : List Int)) 0)])), (33, (.agg #[(.int .u64 0), (.int .u64 0)]))] (by kernel_rfl) ?_
    refine bindE h0 ?_; clear h0; intro r650 hr651 h0
    refine gv_call0 (by kernel_rfl) rfl (by kernel_rfl) enters37 (random_at_ok fuel 6 (-2) w646  r650 hr651) ?_
    rintro v654 w652 ⟨hg653, rfl⟩
    have hg659 := (grown_trans (grown_trans hg27 hg33) hg641)
    have lt660 := ltt lt630 lt632
    have lt661 := ltt lt660 lt634
    have lt662 := ltt lt661 lt636
    have hg663 := (grown_trans hg647 hg653)
    have hk664 := ((hb22.grown hg659 nb).grown hg571 (rowne (ng lt662))).grown hg663 nb
    refine gv_store0 24 0 (.agg #[(.bool false), (.slice none (List.length ([] : List Int)) 0)]) #[(.bool false), (.slice none (List.length ([] : List Int)) 0)] hk664 (by kernel_rfl) (by kernel_rfl) (by kernel_rfl) ?_
    intro w655 hg656 hb657 hz658
    have hg669 := (grown_trans hg33 hg641)
    have lt670 := ltt lt632 lt634
    have lt671 := ltt lt670 lt636
    have hk672 := (((hb28.grown hg669 nb).grown hg571 (rowne (ng lt671))).grown hg663 nb).grown hg656 (rowne (Nat.ne_of_lt lt630))
    refine gv_store0 27 0 (.agg #[(.int .u64 0), (.int .u64 0)]) #[(.int .u64 0), (.int .u64 0)] hk672 (by kernel_rfl) (by kernel_rfl) (by kernel_rfl) ?_
    intro w665 hg666 hb667 hz668
    have lt677 := ltt lt634 lt636
    have hk678 := ((((hb34.grown hg641 nb).grown hg571 (rowne (ng lt677))).grown hg663 nb).grown hg656 (rowne (Nat.ne_of_lt lt660))).grown hg666 (rowne (Nat.ne_of_lt lt632))
    refine gv_store0 29 0 (.agg #[(.int .i64 r650.1), (.int .i64 r650.2)]) #[(.int .i64 r650.1), (.int .i64 r650.2)] hk678 (by kernel_rfl) (by kernel_rfl) (by kernel_rfl) ?_
    intro w673 hg674 hb675 hz676
    refine gv_nil <| gv_cret ?_
    have e := sj h0; subst e
    have hk679 := (hb657.grown hg666 (rowne (ng lt630))).grown hg674 (rowne (ng lt660))
    have hk680 := hb667.grown hg674 (rowne (ng lt632))
    refine gv_ret (gv_done [(.agg #[(.bool false), (.slice none (List.length ([] : List Int)) 0)]), (.agg #[(.int .u64 0), (.int .u64 0)]), (.agg #[(.int .i64 r650.1), (.int .i64 r650.2)])] rfl ⟨⟨⟨b19, 0, none⟩, (by kernel_rfl), run_loadVar_row w673 b19 _ 24 _ _ _ hk679 Try.underlying24 rfl (by kernel_rfl)⟩, ⟨⟨b25, 0, none⟩, (by kernel_rfl), run_loadVar_row w673 b25 _ 27 _ _ _ hk680 Try.underlying27 rfl (by kernel_rfl)⟩, ⟨⟨b31, 0, none⟩, (by kernel_rfl), run_loadVar_row w673 b31 _ 29 _ _ _ hb675 Try.underlying29 rfl (by kernel_rfl)⟩, trivial⟩ ?_)
    have hB681 := bg hB645 hg663 nb
    have hg682 := (grown_trans (grown_trans hg3 hg9) hg15)
    have hB683 := bg hB0 hg682 nb
    have hlo684 : w0.heap.size ≤ b19 := lob hbe23 hB683.size
    have hB685 := bg hB681 hg656 (rowlo hlo684)
    have hB686 := bg hB683 hg21 nb
    have hlo687 : w0.heap.size ≤ b25 := lob hbe29 hB686.size
    have hB688 := bg hB685 hg666 (rowlo hlo687)
    have hB689 := bg hB686 hg27 nb
    have hlo690 : w0.heap.size ≤ b31 := lob hbe35 hB689.size
    have hB691 := bg hB688 hg674 (rowlo hlo690)
    exact ⟨grown_of_below hB691, none, 0, (fun _ => False), rfl, (Rd.nil (iE .u32) w673 (fun _ => False) none 0), (fun k hk => ⟨(fun _ h => h.elim) k hk, (fun _ h => h.elim) k hk⟩)⟩
   ·replace h0 := ite_f hc649 h0
    refine gv_seq <| gv_region ?_
    have hg692 := (grown_trans (grown_trans (grown_trans hg21 hg27) hg33) hg641)
    have lt693 := ltt lt628 lt630
    have lt694 := ltt lt693 lt632
    have lt695 := ltt lt694 lt634
    have lt696 := ltt lt695 lt636
    have hk697 := ((hb16.grown hg692 nb).grown hg571 (rowne (ng lt696))).grown hg647 nb
    refine gv_loadBox (t := 24) (b := b13) (t' := 24) (fr := (0, 0)) #[(.bool high_2.1), (.slice pa2_0 (List.length high_2.2) pc2_0)] [] (fun e => by cases e) rfl rfl rfl (by kernel_rfl) (by kernel_rfl) (by kernel_rfl) (by kernel_rfl) (inw0 hk697) rfl ?_
    refine bindE h0 ?_; clear h0; intro r698 hr699 h0
    have hB700 := bg hB645 hg647 nb
    refine gv_call0 (by kernel_rfl) rfl (by kernel_rfl) enters36 (integer_Valid_ok fuel pa2_0 pc2_0 (high_2.1, high_2.2) w646 (fun k => X0 k) (fun k hk => (fun k (hk : X0 k) => ltl (hX0 k hk) hB700.size) k hk) ((hpa2_0.below hB700 hX0).wide (fun k hk => hk)) r698 hr699) ?_
    rintro v703 w701 ⟨hg702, rfl⟩
    refine gv_pureN 2 [35, 38] [(35, (.bool (!r698)))] (by kernel_rfl) ?_
    refine gv_nil <| gv_cond (b := (!r698)) (by kernel_rfl) (fun hc704 => ?_) (fun hc704 => ?_)
    ·replace h0 := ite_t hc704 h0
     refine gv_seq <| gv_region <| gv_pureN 2 [39, 40] [(39, (.agg #[(.bool false), (.slice none (List.length ([] : List Int)) 0)])), (40, (.agg #[(.int .u64 0), (.int .u64 0)]))] (by kernel_rfl) ?_
     refine bindE h0 ?_; clear h0; intro r705 hr706 h0
     refine gv_call0 (by kernel_rfl) rfl (by kernel_rfl) enters37 (random_at_ok fuel 6 (-3) w701  r705 hr706) ?_
     rintro v709 w707 ⟨hg708, rfl⟩
     clear hr706 hc704 hr699 hk697 lt696 lt695 lt694 lt693 hg692 hc649 hB645 hlo644 hB643 hB642 hg641 hr640 hk638 lt637 lt635 lt633 lt631 lt629 lt628 lt627 hg626 hc574 hz573 hb572 hz569 hbe568 hb567 hl561 hB563 hg562 hr40 hk38 hg37 hz36 hz30 hz24 hz18 hbe17 hb16 hz12 hbe11 hb10 hz6 hbe5 hb4
     have hg714 := (grown_trans (grown_trans (grown_trans hg27 hg33) hg42) hg566)
     have lt715 := ltt lt630 lt632
     have lt716 := ltt lt715 lt634
     have lt717 := ltt lt716 lt636
     have hg718 := (grown_trans (grown_trans hg647 hg702) hg708)
     have hk719 := ((hb22.grown hg714 nb).grown hg571 (rowne (ng lt717))).grown hg718 nb
     refine gv_store0 24 0 (.agg #[(.bool false), (.slice none (List.length ([] : List Int)) 0)]) #[(.bool false), (.slice none (List.length ([] : List Int)) 0)] hk719 (by kernel_rfl) (by kernel_rfl) (by kernel_rfl) ?_
     intro w710 hg711 hb712 hz713
     have hg724 := (grown_trans (grown_trans hg33 hg42) hg566)
     have lt725 := ltt lt632 lt634
     have lt726 := ltt lt725 lt636
     have hk727 := (((hb28.grown hg724 nb).grown hg571 (rowne (ng lt726))).grown hg718 nb).grown hg711 (rowne (Nat.ne_of_lt lt630))
     refine gv_store0 27 0 (.agg #[(.int .u64 0), (.int .u64 0)]) #[(.int .u64 0), (.int .u64 0)] hk727 (by kernel_rfl) (by kernel_rfl) (by kernel_rfl) ?_
     intro w720 hg721 hb722 hz723
     have hg732 := (grown_trans hg42 hg566)
     have lt733 := ltt lt634 lt636
     have hk734 := ((((hb34.grown hg732 nb).grown hg571 (rowne (ng lt733))).grown hg718 nb).grown hg711 (rowne (Nat.ne_of_lt lt715))).grown hg721 (rowne (Nat.ne_of_lt lt632))
     refine gv_store0 29 0 (.agg #[(.int .i64 r705.1), (.int .i64 r705.2)]) #[(.int .i64 r705.1), (.int .i64 r705.2)] hk734 (by kernel_rfl) (by kernel_rfl) (by kernel_rfl) ?_
     intro w728 hg729 hb730 hz731
     refine gv_nil <| gv_cret ?_
     have e := sj h0; subst e
     have hk735 := (hb712.grown hg721 (rowne (ng lt630))).grown hg729 (rowne (ng lt715))
     have hk736 := hb722.grown hg729 (rowne (ng lt632))
     refine gv_ret (gv_done [(.agg #[(.bool false), (.slice none (List.length ([] : List Int)) 0)]), (.agg #[(.int .u64 0), (.int .u64 0)]), (.agg #[(.int .i64 r705.1), (.int .i64 r705.2)])] rfl ⟨⟨⟨b19, 0, none⟩, (by kernel_rfl), run_loadVar_row w728 b19 _ 24 _ _ _ hk735 Try.underlying24 rfl (by kernel_rfl)⟩, ⟨⟨b25, 0, none⟩, (by kernel_rfl), run_loadVar_row w728 b25 _ 27 _ _ _ hk736 Try.underlying27 rfl (by kernel_rfl)⟩, ⟨⟨b31, 0, none⟩, (by kernel_rfl), run_loadVar_row w728 b31 _ 29 _ _ _ hb730 Try.underlying29 rfl (by kernel_rfl)⟩, trivial⟩ ?_)
     have hg737 := (grown_trans hg702 hg708)
     have hB738 := bg hB700 hg737 nb
     have hg739 := (grown_trans (grown_trans hg3 hg9) hg15)
     have hB740 := bg hB0 hg739 nb
     have hlo741 : w0.heap.size ≤ b19 := lob hbe23 hB740.size
     have hB742 := bg hB738 hg711 (rowlo hlo741)
     have hB743 := bg hB740 hg21 nb
     have hlo744 : w0.heap.size ≤ b25 := lob hbe29 hB743.size
     have hB745 := bg hB742 hg721 (rowlo hlo744)
     have hB746 := bg hB743 hg27 nb
     have hlo747 : w0.heap.size ≤ b31 := lob hbe35 hB746.size
     have hB748 := bg hB745 hg729 (rowlo hlo747)
     exact ⟨grown_of_below hB748, none, 0, (fun _ => False), rfl, (Rd.nil (iE .u32) w728 (fun _ => False) none 0), (fun k hk => ⟨(fun _ h => h.elim) k hk, (fun _ h => h.elim) k hk⟩)⟩
    ·replace h0 := ite_f hc704 h0
     refine gv_skip <| gv_blk <| gv_seq <| gv_seq <| gv_region ?_
     have hk749 := hk697.grown hg702 nb
     refine gv_loadBox (t := 24) (b := b13) (t' := 24) (fr := (0, 0)) #[(.bool high_2.1), (.slice pa2_0 (List.length high_2.2) pc2_0)] [] (fun e => by cases e) rfl rfl rfl (by kernel_rfl) (by kernel_rfl) (by kernel_rfl) (by kernel_rfl) (inw0 hk749) rfl ?_
     have hg750 := (grown_trans hg647 hg702)
     have hk751 := hk638.grown hg750 nb
     refine gv_loadBox (t := 24) (b := b7) (t' := 24) (fr := (0, 0)) #[(.bool low_1.1), (.slice pa1_0 (List.length low_1.2) pc1_0)] [] (fun e => by cases e) rfl rfl rfl (by kernel_rfl) (by kernel_rfl) (by kernel_rfl) (by kernel_rfl) (inw0 hk751) rfl ?_
     refine bindE h0 ?_; clear h0; intro r752 hr753 h0
     have hB754 := bg hB700 hg702 nb
     refine gv_call0 (by kernel_rfl) rfl (by kernel_rfl) enters44 (integer_Cmp_ok fuel pa2_0 pc2_0 (high_2.1, high_2.2) pa1_0 pc1_0 (low_1.1, low_1.2) w701 (fun k => X0 k ∨ X0 k) (fun k hk => (hk).elim (fun h => (fun k (hk : X0 k) => ltl (hX0 k hk) hB754.size) k h) (fun h => (fun k (hk : X0 k) => ltl (hX0 k hk) hB754.size) k h)) ((hpa2_0.below hB754 hX0).wide (fun k hk => (.inl hk))) ((hpa1_0.below hB754 hX0).wide (fun k hk => (.inr hk))) r752 hr753) ?_
     rintro v757 w755 ⟨hg756, rfl⟩
     refine gv_pureN 3 [42, 46, 47] [(46, (.int .i64 r752.1)), (47, (.agg #[(.int .i64 r752.2.1), (.int .i64 r752.2.2)]))] (by kernel_rfl) ?_
     refine gv_new0 (fun b => .pointer (some ⟨b, 0, none⟩)) #[(.int .i64 0), (.int .i64 0)] 29 (by kernel_rfl) (by kernel_rfl) ?_
     intro b758 w759 hg760 hb761 hbe762 hz763
     refine gv_pureN 1 [11] [(11, (.int .i64 r752.1))] (by kernel_rfl) ?_
     refine gv_store0 29 0 (.agg #[(.int .i64 r752.2.1), (.int .i64 r752.2.2)]) #[(.int .i64 r752.2.1), (.int .i64 r752.2.2)] hb761 (by kernel_rfl) (by kernel_rfl) (by kernel_rfl) ?_
     intro w764 hg765 hb766 hz767
     refine gv_nil <| gv_seq <| gv_region <| gv_pureN 2 [48, 49] [(49, (.bool (decide (r752.1 < 0))))] (by kernel_rfl) ?_
     refine gv_sub [4, 5, 6, 7, 8, 9, 10, 49] (σ' := [(4, (bp b7)), (5, (bp b13)), (6, (bp b19)), (7, (bp b25)), (8, (bp b31)), (9, (bp b49)), (10, (bp b564)), (49, (.bool (decide (r752.1 < 0))))]) (by kernel_rfl) ?_
     refine gv_nil <| gv_cond (b := (decide (r752.1 < 0))) (by kernel_rfl) (fun hc768 => ?_) (fun hc768 => ?_)
     ·replace h0 := ite_t hc768 h0
      refine gv_seq <| gv_region <| gv_pureN 2 [50, 51] [(50, (.agg #[(.bool false), (.slice none (List.length ([] : List Int)) 0)])), (51, (.agg #[(.int .u64 0), (.int .u64 0)]))] (by kernel_rfl) ?_
      refine bindE h0 ?_; clear h0; intro r769 hr770 h0
      refine gv_call0 (by kernel_rfl) rfl (by kernel_rfl) enters37 (random_at_ok fuel 4 (-3) w764  r769 hr770) ?_
      rintro v773 w771 ⟨hg772, rfl⟩
      have hg778 := (grown_trans (grown_trans hg27 hg33) hg641)
      have lt779 := ltt lt630 lt632
      have lt780 := ltt lt779 lt634
      have lt781 := ltt lt780 lt636
      have hg782 := (grown_trans (grown_trans hg750 hg756) hg760)
      have hg783 := (grown_trans hg750 hg756)
      have hk784 := hb572.grown hg783 nb
      have lt785 := ltl ((ltb hk784) _ rfl) ((lowb hbe762) _ rfl)
      have lt786 := ltt lt781 lt785
      have hk787 := ((((hb22.grown hg778 nb).grown hg571 (rowne (ng lt781))).grown hg782 nb).grown hg765 (rowne (ng lt786))).grown hg772 nb
      refine gv_store0 24 0 (.agg #[(.bool false), (.slice none (List.length ([] : List Int)) 0)]) #[(.bool false), (.slice none (List.length ([] : List Int)) 0)] hk787 (by kernel_rfl) (by kernel_rfl) (by kernel_rfl) ?_
      intro w774 hg775 hb776 hz777
      clear hz777 hk787 lt786 hk784 hg783 hg782 lt781 lt780 hg778 hr770 hc768 hz767 hb766 hz763 hb761 hr753 hk751 hg750 hk749 hc704 hB700 hr699 hk697 lt696 lt695 lt694 lt693 hg692 hc649 hB645 hlo644 hB643 hB642 hg641 hr640 hk638 lt637 lt635 lt633 lt631 lt629 lt628 lt627 hg626 hc574 hz573 hb572 hz569 hbe568 hb567 hl561 hB563 hg562 hr40 hk38 hg37 hz36 hz30 hz24 hb22 hz18 hbe17 hb16 hz12 hbe11 hb10 hz6 hbe5 hb4
      have hg792 := (grown_trans (grown_trans hg33 hg42) hg566)
      have lt793 := ltt lt632 lt634
      have lt794 := ltt lt793 lt636
      have hg795 := (grown_trans (grown_trans (grown_trans hg647 hg702) hg756) hg760)
      have lt796 := ltt lt794 lt785
      have hk797 := (((((hb28.grown hg792 nb).grown hg571 (rowne (ng lt794))).grown hg795 nb).grown hg765 (rowne (ng lt796))).grown hg772 nb).grown hg775 (rowne (Nat.ne_of_lt lt630))
      refine gv_store0 27 0 (.agg #[(.int .u64 0), (.int .u64 0)]) #[(.int .u64 0), (.int .u64 0)] hk797 (by kernel_rfl) (by kernel_rfl) (by kernel_rfl) ?_
      intro w788 hg789 hb790 hz791
      have hg802 := (grown_trans hg42 hg566)
      have lt803 := ltt lt634 lt636
      have lt804 := ltt lt803 lt785
      have hk805 := ((((((hb34.grown hg802 nb).grown hg571 (rowne (ng lt803))).grown hg795 nb).grown hg765 (rowne (ng lt804))).grown hg772 nb).grown hg775 (rowne (Nat.ne_of_lt lt779))).grown hg789 (rowne (Nat.ne_of_lt lt632))
      refine gv_store0 29 0 (.agg #[(.int .i64 r769.1), (.int .i64 r769.2)]) #[(.int .i64 r769.1), (.int .i64 r769.2)] hk805 (by kernel_rfl) (by kernel_rfl) (by kernel_rfl) ?_
      intro w798 hg799 hb800 hz801
      refine gv_nil <| gv_cret ?_
      have e := sj h0; subst e
      have hk806 := (hb776.grown hg789 (rowne (ng lt630))).grown hg799 (rowne (ng lt779))
      have hk807 := hb790.grown hg799 (rowne (ng lt632))
      refine gv_ret (gv_done [(.agg #[(.bool false), (.slice none (List.length ([] : List Int)) 0)]), (.agg #[(.int .u64 0), (.int .u64 0)]), (.agg #[(.int .i64 r769.1), (.int .i64 r769.2)])] rfl ⟨⟨⟨b19, 0, none⟩, (by kernel_rfl), run_loadVar_row w798 b19 _ 24 _ _ _ hk806 Try.underlying24 rfl (by kernel_rfl)⟩, ⟨⟨b25, 0, none⟩, (by kernel_rfl), run_loadVar_row w798 b25 _ 27 _ _ _ hk807 Try.underlying27 rfl (by kernel_rfl)⟩, ⟨⟨b31, 0, none⟩, (by kernel_rfl), run_loadVar_row w798 b31 _ 29 _ _ _ hb800 Try.underlying29 rfl (by kernel_rfl)⟩, trivial⟩ ?_)
      have hg808 := (grown_trans hg756 hg760)
      have hB809 := bg hB754 hg808 nb
      have hB810 := bg hB754 hg756 nb
      have hlo811 : w0.heap.size ≤ b758 := lob hbe762 hB810.size
      have hB812 := bg hB809 hg765 (rowlo hlo811)
      have hB813 := bg hB812 hg772 nb
      have hg814 := (grown_trans (grown_trans hg3 hg9) hg15)
      have hB815 := bg hB0 hg814 nb
      have hlo816 : w0.heap.size ≤ b19 := lob hbe23 hB815.size
      have hB817 := bg hB813 hg775 (rowlo hlo816)
      have hB818 := bg hB815 hg21 nb
      have hlo819 : w0.heap.size ≤ b25 := lob hbe29 hB818.size
      have hB820 := bg hB817 hg789 (rowlo hlo819)
      have hB821 := bg hB818 hg27 nb
      have hlo822 : w0.heap.size ≤ b31 := lob hbe35 hB821.size
      have hB823 := bg hB820 hg799 (rowlo hlo822)
      exact ⟨grown_of_below hB823, none, 0, (fun _ => False), rfl, (Rd.nil (iE .u32) w798 (fun _ => False) none 0), (fun k hk => ⟨(fun _ h => h.elim) k hk, (fun _ h => h.elim) k hk⟩)⟩
     ·replace h0 := ite_f hc768 h0
      refine gv_skip <| gv_seq <| gv_region ?_
      have hg824 := (grown_trans hg756 hg760)
      have hg825 := (grown_trans hg750 hg756)
      have hk826 := hb572.grown hg825 nb
      have lt827 := ltl ((ltb hk826) _ rfl) ((lowb hbe762) _ rfl)
      have lt828 := ltt lt696 lt827
      have hk829 := (hk749.grown hg824 nb).grown hg765 (rowne (ng lt828))
      refine gv_loadBox (t := 24) (b := b13) (t' := 24) (fr := (0, 0)) #[(.bool high_2.1), (.slice pa2_0 (List.length high_2.2) pc2_0)] [] (fun e => by cases e) rfl rfl rfl (by kernel_rfl) (by kernel_rfl) (by kernel_rfl) (by kernel_rfl) (inw0 hk829) rfl ?_
      have lt830 := ltt lt637 lt827
      have hk831 := (hk751.grown hg824 nb).grown hg765 (rowne (ng lt830))
      refine gv_loadBox (t := 24) (b := b7) (t' := 24) (fr := (0, 0)) #[(.bool low_1.1), (.slice pa1_0 (List.length low_1.2) pc1_0)] [] (fun e => by cases e) rfl rfl rfl (by kernel_rfl) (by kernel_rfl) (by kernel_rfl) (by kernel_rfl) (inw0 hk831) rfl ?_
      refine bindE h0 ?_; clear h0; intro r832 hr833 h0
      have hB834 := bg hB754 hg824 nb
      have hB835 := bg hB754 hg756 nb
      have hlo836 : w0.heap.size ≤ b758 := lob hbe762 hB835.size
      have hB837 := bg hB834 hg765 (rowlo hlo836)
      refine gv_call0 (by kernel_rfl) rfl (by kernel_rfl) enters45 (integer_Sub_ok fuel pa2_0 pc2_0 (high_2.1, high_2.2) pa1_0 pc1_0 (low_1.1, low_1.2) w764 (fun k => X0 k ∨ X0 k) (fun k hk => (hk).elim (fun h => (fun k (hk : X0 k) => ltl (hX0 k hk) hB837.size) k h) (fun h => (fun k (hk : X0 k) => ltl (hX0 k hk) hB837.size) k h)) ((hpa2_0.below hB837 hX0).wide (fun k hk => (.inl hk))) ((hpa1_0.below hB837 hX0).wide (fun k hk => (.inr hk))) r832 hr833) ?_
      rintro v840 w838 ⟨hg839, a841, c842, X844, rfl, ho843, hx845⟩
      have hx846 : ∀ k, X844 k → k < w838.heap.size := fun k hk => (hx845 k hk).1
      have hx847 : ∀ k, X844 k → X0 k ∨ w0.heap.size ≤ k := fun k hk => (hx845 k hk).2.elim (fun h => (h).elim (fun h => (fun k (hk : X0 k) => Or.inl hk) k h) (fun h => (fun k (hk : X0 k) => Or.inl hk) k h)) (fun h => .inr (Nat.le_trans hB837.size h))
      refine gv_pureN 3 [53, 57, 58] [(57, (.agg #[(.bool r832.1.1), (.slice a841 (List.length r832.1.2) c842)])), (58, (.agg #[(.int .i64 r832.2.1), (.int .i64 r832.2.2)]))] (by kernel_rfl) ?_
      refine gv_new0 (fun b => .pointer (some ⟨b, 0, none⟩)) #[(.bool false), (.slice none (List.length ([] : List Int)) 0)] 24 (by kernel_rfl) (by kernel_rfl) ?_
      intro b848 w849 hg850 hb851 hbe852 hz853
      refine gv_store0 24 0 (.agg #[(.bool r832.1.1), (.slice a841 (List.length r832.1.2) c842)]) #[(.bool r832.1.1), (.slice a841 (List.length r832.1.2) c842)] hb851 (by kernel_rfl) (by kernel_rfl) (by kernel_rfl) ?_
      intro w854 hg855 hb856 hz857
      have hg862 := (grown_trans hg839 hg850)
      have hk863 := hb766.grown hg839 nb
      have lt864 := ltl ((ltb hk863) _ rfl) ((lowb hbe852) _ rfl)
      have lt865 := ltt lt827 lt864
      have hk866 := (((hk826.grown hg760 nb).grown hg765 (rowne (ng lt827))).grown hg862 nb).grown hg855 (rowne (ng lt865))
      refine gv_store0 29 0 (.agg #[(.int .i64 r832.2.1), (.int .i64 r832.2.2)]) #[(.int .i64 r832.2.1), (.int .i64 r832.2.2)] hk866 (by kernel_rfl) (by kernel_rfl) (by kernel_rfl) ?_
      intro w858 hg859 hb860 hz861
      refine gv_nil <| gv_seq <| gv_seq <| gv_region <| gv_pureN 1 [59] [(59, (bp b564))] (by kernel_rfl) ?_
      refine gv_load (t := 3) (A := ⟨b564, 0, none⟩) (.int .i64 r832.2.1) [] (fun e => by cases e) rfl rfl rfl (by kernel_rfl) (by kernel_rfl) (by kernel_rfl) (inw0 (hb860.cell 0 rfl)) rfl ?_
      refine gv_pureN 1 [61] [(61, (.bool (r832.2.1 == 0)))] (by kernel_rfl) ?_
      refine gv_nil <| bindE h0 ?_; clear h0; intro j867 h1 h0
      refine gv_cut_code (J := fun a w868 => ∃ (abb848_0j : Option Addr) (cbb848_0j : Nat), ∃ (Xbb848_0j : Nat → Prop), Below w0.heap.size w0 w868 ∧ w858.heap.size ≤ w868.heap.size ∧ Rd (iE .u32) w868 Xbb848_0j abb848_0j cbb848_0j j867.2.2 ∧ (∀ k, Xbb848_0j k → k < w868.heap.size) ∧ (∀ k, Xbb848_0j k → X0 k ∨ w0.heap.size ≤ k) ∧ ¬ Xbb848_0j b7 ∧ ¬ Xbb848_0j b19 ∧ ¬ Xbb848_0j b25 ∧ ¬ Xbb848_0j b31 ∧ ¬ Xbb848_0j b49 ∧ ¬ Xbb848_0j b564 ∧ ¬ Xbb848_0j b848 ∧ Box w868 b7 24 #[(.bool low_1.1), (.slice pa1_0 (List.length low_1.2) pc1_0)] ∧ Box w868 b19 24 #[(.bool false), (.slice none (List.length ([] : List Int)) 0)] ∧ Box w868 b25 27 #[(.int .u64 0), (.int .u64 0)] ∧ Box w868 b31 29 #[(.int .i64 0), (.int .i64 0)] ∧ Box w868 b49 81 #[(.int .u64 x48.1), (.int .u64 x48.2)] ∧ Box w868 b564 29 #[(.int .i64 j867.1.1), (.int .i64 j867.1.2)] ∧ Box w868 b848 24 #[(.bool j867.2.1), (.slice abb848_0j (List.length j867.2.2) cbb848_0j)] ∧ a.defers = [] ∧ a.tmps.size = 88 ∧ Ok [(4, (bp b7)), (6, (bp b19)), (7, (bp b25)), (8, (bp b31)), (9, (bp b49)), (10, (bp b564)), (13, (bp b848))] a.tmps) ?_ ?_
      ·skip
       refine gv_cond (b := (r832.2.1 == 0)) (by kernel_rfl) (fun hc869 => ?_) (fun hc869 => ?_)
       ·replace h1 := ite_t hc869 h1
        refine gv_drawA (by kernel_rfl) ?_
        intro w870 hg871
        refine gv_stage (Cls w870 []) [0, 1] [(0, some true), (1, some false)] (bA 8 [0, 1]) 6 (by kernel_rfl) (by kernel_rfl) (Cls.refl _ _) ?_
        have hC872 := Cls.refl w870 []
        have hk873 := (hb856.grown hg859 (rowne (Nat.ne_of_lt lt865))).grown hg871 nb
        refine gv_loadBox (t := 24) (b := b848) (t' := 24) (fr := (0, 0)) #[(.bool r832.1.1), (.slice a841 (List.length r832.1.2) c842)] [] (fun e => by cases e) rfl rfl rfl (by kernel_rfl) (by kernel_rfl) (by kernel_rfl) (by kernel_rfl) (inw1 fun w' hC' => (hC'.box hk873 nm_nil)) rfl ?_
        refine bindE h1 ?_; clear h1; intro r874 hr875 h1
        refine gv_call (f := 47) (vs := [(.int .i64 1)]) (cap := []) _ (by decide) rfl rfl rfl (by kernel_rfl) (by kernel_rfl) enters47 (integer_Of_ok fuel 1 w870  r874 hr875) ?_
        rintro v878 w876 ⟨hg877, a879, c880, rfl, ho881, hl882⟩
        refine ⟨(fun _ => hC872.grown hg877 nb), ?_⟩
        have hB884 := bg hB837 hg862 nb
        have hB885 := bg hB837 hg839 nb
        have hlo886 : w0.heap.size ≤ b848 := lob hbe852 hB885.size
        have hB887 := bg hB884 hg855 (rowlo hlo886)
        have hB888 := bg hB887 hg859 (rowlo hlo644)
        have hB889 := bg hB888 hg871 nb
        have hl883 : ∀ g, blk a879 = some g → w0.heap.size ≤ g := fun g e => Nat.le_trans hB889.size (hl882 g e)
        clear hB888 hB887 hB885 hB884 hr875 hc869 hz861 hk866 hg862 hz857 hb856 hz853 hb851 hB837 hB835 hB834 hr833 hg825 hg824 hc768 hz767 hb766 hz763 hbe762 hb761 hB754 hr753 hk751 hg750 hk749 hc704 hB700 hr699 hk697 lt695 lt694 lt693 hg692 hc649 hB645 hB643 hB642 hg641 hr640 hk638 hg626 hc574 hz573 hb572 hz569 hbe568 hb567 hB563 hg562 hr40 hg37 hz36 hz30 hz24 hz18 hb16 hz12 hb10 hz6
        refine gv_nil <| gv_goA ?_
        refine gv_stage (fun _ => True) [0, 1, 2] [(2, some false)] (bA 8 [0, 1, 2]) 5 (by kernel_rfl) (by kernel_rfl) trivial ?_
        refine bindE h1 ?_; clear h1; intro r890 hr891 h1
        have hg892 := (grown_trans hg871 hg877)
        have hx893 := ltx (ltx (ltx (ltx hx846 hg850.size) hg855.size) hg859.size) hg892.size
        have ap894 : ¬ X844 b848 := fun hx => nl ((lowb hbe852) _ rfl) (hx846 _ hx)
        have hx895 := ltx hx846 hg850.size
        have hk896 := (hk826.grown hg760 nb).grown hg765 (rowne (ng lt827))
        have ap897 : ¬ X844 b564 := fun h => ((hx845 _ h).2.elim (fun h => (h).elim (fun h => ((fun (hx : X0 b564) => nl hlo644 (hX0 _ hx)))  h) (fun h => ((fun (hx : X0 b564) => nl hlo644 (hX0 _ hx)))  h)) (fun h => nl h (hk896.lt)))
        have hx898 := ltx hx895 hg855.size
        have hx899 := ltx hx898 hg859.size
        have hk900 := (((ho843.grown hg850 hx846 nb).grown hg855 hx895 (rowne ap894)).grown hg859 hx898 (rowne ap897)).grown hg892 hx899 nb
        refine gv_call (f := 46) (vs := [(.agg #[(.bool r832.1.1), (.slice a841 (List.length r832.1.2) c842)]), (.agg #[(.bool r874.1), (.slice a879 (List.length r874.2) c880)])]) (cap := []) _ (by decide) rfl rfl rfl (by kernel_rfl) (by kernel_rfl) enters46 (integer_Add_ok fuel a841 c842 (r832.1.1, r832.1.2) a879 c880 (r874.1, r874.2) w876 (fun k => X844 k ∨ (fun k => blk a879 = some k) k) (fun k hk => (hk).elim (fun h => hx893 k h) (fun h => (fun k (hk : blk a879 = some k) => ho881.lt k hk) k h)) (hk900.wide (fun k hk => (.inl hk))) ((ho881.rd (Y := fun k => blk a879 = some k) (fun _ h => h.elim) (fun g e => e)).wide (fun k hk => (.inr hk))) r890 hr891) ?_
        rintro v903 w901 ⟨hg902, a904, c905, X907, rfl, ho906, hx908⟩
        refine ⟨(fun _ => trivial), ?_⟩
        have hx909 : ∀ k, X907 k → k < w901.heap.size := fun k hk => (hx908 k hk).1
        have hB911 := bg hB889 hg877 nb
        have hx910 : ∀ k, X907 k → X0 k ∨ w0.heap.size ≤ k := fun k hk => (hx908 k hk).2.elim (fun h => (h).elim (fun h => hx847 k h) (fun h => (fun k (hk : blk a879 = some k) => Or.inr (hl883 k hk)) k h)) (fun h => .inr (Nat.le_trans hB911.size h))
        refine gv_nil <| gv_goA ?_
        refine gv_pre [3, 4, 5] (bA 8 [0, 1, 2, 3, 4, 5]) 2 (by kernel_rfl) (by kernel_rfl) ?_
        refine gv_pureN 3 [62, 66, 67] [(66, (.agg #[(.bool r890.1.1), (.slice a904 (List.length r890.1.2) c905)])), (67, (.agg #[(.int .i64 r890.2.1), (.int .i64 r890.2.2)]))] (by kernel_rfl) ?_
        refine gv_sub [4, 6, 7, 8, 9, 10, 13, 66, 67] (σ' := [(4, (bp b7)), (6, (bp b19)), (7, (bp b25)), (8, (bp b31)), (9, (bp b49)), (10, (bp b564)), (13, (bp b848)), (66, (.agg #[(.bool r890.1.1), (.slice a904 (List.length r890.1.2) c905)])), (67, (.agg #[(.int .i64 r890.2.1), (.int .i64 r890.2.2)]))]) (by kernel_rfl) ?_
        refine gv_nil <| gv_goA ?_
        refine gv_stage (fun _ => True) [0, 1, 2, 3, 4, 5, 6] [(6, some false)] (bA 8 [0, 1, 2, 3, 4, 5, 6]) 1 (by kernel_rfl) (by kernel_rfl) trivial ?_
        have hg916 := (grown_trans hg877 hg902)
        have hk917 := hk873.grown hg916 nb
        refine gv_store (t := 24) (b := b848) (off := 0) (v := (.agg #[(.bool r890.1.1), (.slice a904 (List.length r890.1.2) c905)])) (t' := 24) (cs := #[(.bool r832.1.1), (.slice a841 (List.length r832.1.2) c842)]) #[(.bool r890.1.1), (.slice a904 (List.length r890.1.2) c905)] (by decide) rfl rfl (by kernel_rfl) (by kernel_rfl) (by kernel_rfl) (by intro u hu; simp [Value.cells] at hu; rcases hu with rfl | rfl <;> rfl) (show 0 + 2 ≤ 2 by decide) (by rfl) hk917 ?_
        intro w912 hg913 hb914 hz915
        refine ⟨(fun _ => trivial), ?_⟩
        refine gv_nil <| gv_goA ?_
        refine gv_stage (fun _ => True) [0, 1, 2, 3, 4, 5, 6, 7] [(7, some false)] (bA 8 [0, 1, 2, 3, 4, 5, 6, 7]) 0 (by kernel_rfl) (by kernel_rfl) trivial ?_
        have hg922 := (grown_trans hg892 hg902)
        have hk923 := (hb860.grown hg922 nb).grown hg913 (rowne (ng lt865))
        refine gv_store (t := 29) (b := b564) (off := 0) (v := (.agg #[(.int .i64 r890.2.1), (.int .i64 r890.2.2)])) (t' := 29) (cs := #[(.int .i64 r832.2.1), (.int .i64 r832.2.2)]) #[(.int .i64 r890.2.1), (.int .i64 r890.2.2)] (by decide) rfl rfl (by kernel_rfl) (by kernel_rfl) (by kernel_rfl) (by intro u hu; simp [Value.cells] at hu; rcases hu with rfl | rfl <;> rfl) (show 0 + 2 ≤ 2 by decide) (by rfl) hk923 ?_
        intro w918 hg919 hb920 hz921
        refine ⟨(fun _ => trivial), ?_⟩
        refine gv_nil <| gv_goA ?_
        refine gv_stageE (by kernel_rfl) ?_
        have e := sj h1; subst e
        refine gv_goal fun a hd hs hok => ?_
        have hB924 := bg hB911 hg902 nb
        have hB925 := bg hB924 hg913 (rowlo hlo886)
        have hB926 := bg hB925 hg919 (rowlo hlo644)
        have hz927 := (nt (nt (nt (nt hg871.size hg877.size) hg902.size) hg913.size) hg919.size)
        have ap928 : ¬ (fun k => blk a879 = some k) b848 := fun hx => nl ((show ∀ k, blk a879 = some k → w870.heap.size ≤ k from hl882) _ hx) ((ltb hk873) _ rfl)
        have hk929 := hk873.grown hg877 nb
        have ap930 : ¬ X907 b848 := fun h => ((hx908 _ h).2.elim (fun h => (h).elim (fun h => (ap894)  h) (fun h => (ap928)  h)) (fun h => nl h (hk929.lt)))
        have hk931 := hb860.grown hg871 nb
        have ap932 : ¬ (fun k => blk a879 = some k) b564 := fun hx => nl ((show ∀ k, blk a879 = some k → w870.heap.size ≤ k from hl882) _ hx) ((ltb hk931) _ rfl)
        have hk933 := hk931.grown hg877 nb
        have ap934 : ¬ X907 b564 := fun h => ((hx908 _ h).2.elim (fun h => (h).elim (fun h => (ap897)  h) (fun h => (ap932)  h)) (fun h => nl h (hk933.lt)))
        have hx935 := ltx hx909 hg913.size
        have hk936 := (ho906.grown hg913 hx909 (rowne ap930)).grown hg919 hx935 (rowne ap934)
        have hx937 := ltx hx935 hg919.size
        have hB938 := bg hB0 hg3 nb
        have hlo939 : w0.heap.size ≤ b7 := lob hbe11 hB938.size
        have ap940 : ¬ X844 b7 := fun h => ((hx845 _ h).2.elim (fun h => (h).elim (fun h => ((fun (hx : X0 b7) => nl hlo939 (hX0 _ hx)))  h) (fun h => ((fun (hx : X0 b7) => nl hlo939 (hX0 _ hx)))  h)) (fun h => nl h (hk831.lt)))
        have hg941 := (grown_trans hg839 hg850)
        have lt942 := ltt lt830 lt864
        have hk943 := (((hk831.grown hg941 nb).grown hg855 (rowne (ng lt942))).grown hg859 (rowne (ng lt637))).grown hg871 nb
        have ap944 : ¬ (fun k => blk a879 = some k) b7 := fun hx => nl ((show ∀ k, blk a879 = some k → w870.heap.size ≤ k from hl882) _ hx) ((ltb hk943) _ rfl)
        have hk945 := hk943.grown hg877 nb
        have ap946 : ¬ X907 b7 := fun h => ((hx908 _ h).2.elim (fun h => (h).elim (fun h => (ap940)  h) (fun h => (ap944)  h)) (fun h => nl h (hk945.lt)))
        have hg947 := (grown_trans hg9 hg15)
        have hB948 := bg hB938 hg947 nb
        have hlo949 : w0.heap.size ≤ b19 := lob hbe23 hB948.size
        have hg950 := (grown_trans (grown_trans (grown_trans hg27 hg33) hg42) hg566)
        have lt951 := ltt lt630 lt632
        have lt952 := ltt lt951 lt634
        have lt953 := ltt lt952 lt636
        have hg954 := (grown_trans (grown_trans (grown_trans hg647 hg702) hg756) hg760)
        have lt955 := ltt lt953 lt827
        have hk956 := (((hb22.grown hg950 nb).grown hg571 (rowne (ng lt953))).grown hg954 nb).grown hg765 (rowne (ng lt955))
        have ap957 : ¬ X844 b19 := fun h => ((hx845 _ h).2.elim (fun h => (h).elim (fun h => ((fun (hx : X0 b19) => nl hlo949 (hX0 _ hx)))  h) (fun h => ((fun (hx : X0 b19) => nl hlo949 (hX0 _ hx)))  h)) (fun h => nl h (hk956.lt)))
        have lt958 := ltt lt955 lt864
        have hk959 := (((hk956.grown hg941 nb).grown hg855 (rowne (ng lt958))).grown hg859 (rowne (ng lt953))).grown hg871 nb
        have ap960 : ¬ (fun k => blk a879 = some k) b19 := fun hx => nl ((show ∀ k, blk a879 = some k → w870.heap.size ≤ k from hl882) _ hx) ((ltb hk959) _ rfl)
        have hk961 := hk959.grown hg877 nb
        have ap962 : ¬ X907 b19 := fun h => ((hx908 _ h).2.elim (fun h => (h).elim (fun h => (ap957)  h) (fun h => (ap960)  h)) (fun h => nl h (hk961.lt)))
        have hB963 := bg hB948 hg21 nb
        have hlo964 : w0.heap.size ≤ b25 := lob hbe29 hB963.size
        have hg965 := (grown_trans (grown_trans hg33 hg42) hg566)
        have lt966 := ltt lt632 lt634
        have lt967 := ltt lt966 lt636
        have lt968 := ltt lt967 lt827
        have hk969 := (((hb28.grown hg965 nb).grown hg571 (rowne (ng lt967))).grown hg954 nb).grown hg765 (rowne (ng lt968))
        have ap970 : ¬ X844 b25 := fun h => ((hx845 _ h).2.elim (fun h => (h).elim (fun h => ((fun (hx : X0 b25) => nl hlo964 (hX0 _ hx)))  h) (fun h => ((fun (hx : X0 b25) => nl hlo964 (hX0 _ hx)))  h)) (fun h => nl h (hk969.lt)))
        have lt971 := ltt lt968 lt864
        have hk972 := (((hk969.grown hg941 nb).grown hg855 (rowne (ng lt971))).grown hg859 (rowne (ng lt967))).grown hg871 nb
        have ap973 : ¬ (fun k => blk a879 = some k) b25 := fun hx => nl ((show ∀ k, blk a879 = some k → w870.heap.size ≤ k from hl882) _ hx) ((ltb hk972) _ rfl)
        have hk974 := hk972.grown hg877 nb
        have ap975 : ¬ X907 b25 := fun h => ((hx908 _ h).2.elim (fun h => (h).elim (fun h => (ap970)  h) (fun h => (ap973)  h)) (fun h => nl h (hk974.lt)))
        have hB976 := bg hB963 hg27 nb
        have hlo977 : w0.heap.size ≤ b31 := lob hbe35 hB976.size
        have hg978 := (grown_trans hg42 hg566)
        have lt979 := ltt lt634 lt636
        have lt980 := ltt lt979 lt827
        have hk981 := (((hb34.grown hg978 nb).grown hg571 (rowne (ng lt979))).grown hg954 nb).grown hg765 (rowne (ng lt980))
        have ap982 : ¬ X844 b31 := fun h => ((hx845 _ h).2.elim (fun h => (h).elim (fun h => ((fun (hx : X0 b31) => nl hlo977 (hX0 _ hx)))  h) (fun h => ((fun (hx : X0 b31) => nl hlo977 (hX0 _ hx)))  h)) (fun h => nl h (hk981.lt)))
        have lt983 := ltt lt980 lt864
        have hk984 := (((hk981.grown hg941 nb).grown hg855 (rowne (ng lt983))).grown hg859 (rowne (ng lt979))).grown hg871 nb
        have ap985 : ¬ (fun k => blk a879 = some k) b31 := fun hx => nl ((show ∀ k, blk a879 = some k → w870.heap.size ≤ k from hl882) _ hx) ((ltb hk984) _ rfl)
        have hk986 := hk984.grown hg877 nb
        have ap987 : ¬ X907 b31 := fun h => ((hx908 _ h).2.elim (fun h => (h).elim (fun h => (ap982)  h) (fun h => (ap985)  h)) (fun h => nl h (hk986.lt)))
        have lt988 := ltt lt636 lt827
        have hk989 := (((hb50.grown hg566 nb).grown hg571 (rowne (ng lt636))).grown hg954 nb).grown hg765 (rowne (ng lt988))
        have ap990 : ¬ X844 b49 := fun h => ((hx845 _ h).2.elim (fun h => (h).elim (fun h => ((fun (hx : X0 b49) => nl hl561 (hX0 _ hx)))  h) (fun h => ((fun (hx : X0 b49) => nl hl561 (hX0 _ hx)))  h)) (fun h => nl h (hk989.lt)))
        have lt991 := ltt lt988 lt864
        have hk992 := (((hk989.grown hg941 nb).grown hg855 (rowne (ng lt991))).grown hg859 (rowne (ng lt636))).grown hg871 nb
        have ap993 : ¬ (fun k => blk a879 = some k) b49 := fun hx => nl ((show ∀ k, blk a879 = some k → w870.heap.size ≤ k from hl882) _ hx) ((ltb hk992) _ rfl)
        have hk994 := hk992.grown hg877 nb
        have ap995 : ¬ X907 b49 := fun h => ((hx908 _ h).2.elim (fun h => (h).elim (fun h => (ap990)  h) (fun h => (ap993)  h)) (fun h => nl h (hk994.lt)))
        have hk996 := ((hk945.grown hg902 nb).grown hg913 (rowne (ng lt942))).grown hg919 (rowne (ng lt637))
        have hk997 := ((hk961.grown hg902 nb).grown hg913 (rowne (ng lt958))).grown hg919 (rowne (ng lt953))
        have hk998 := ((hk974.grown hg902 nb).grown hg913 (rowne (ng lt971))).grown hg919 (rowne (ng lt967))
        have hk999 := ((hk986.grown hg902 nb).grown hg913 (rowne (ng lt983))).grown hg919 (rowne (ng lt979))
        have hk1000 := ((hk994.grown hg902 nb).grown hg913 (rowne (ng lt991))).grown hg919 (rowne (ng lt636))
        have hk1001 := hb914.grown hg919 (rowne (Nat.ne_of_lt lt865))
        exact ⟨a904, c905, X907, hB926, hz927, hk936, hx937, hx910, ap946, ap962, ap975, ap987, ap995, ap934, ap930, hk996, hk997, hk998, hk999, hk1000, hb920, hk1001, hd, hs, ok_pick [4, 6, 7, 8, 9, 10, 13] hok (by kernel_rfl)⟩
       ·replace h1 := ite_f hc869 h1
        refine gv_skip ?_
        have e := sj h1; subst e
        refine gv_goal fun a hd hs hok => ?_
        have hB1002 := bg hB837 hg862 nb
        have hB1003 := bg hB837 hg839 nb
        have hlo1004 : w0.heap.size ≤ b848 := lob hbe852 hB1003.size
        have hB1005 := bg hB1002 hg855 (rowlo hlo1004)
        have hB1006 := bg hB1005 hg859 (rowlo hlo644)
        have ap1007 : ¬ X844 b848 := fun hx => nl ((lowb hbe852) _ rfl) (hx846 _ hx)
        have hx1008 := ltx hx846 hg850.size
        have hk1009 := (hk826.grown hg760 nb).grown hg765 (rowne (ng lt827))
        have ap1010 : ¬ X844 b564 := fun h => ((hx845 _ h).2.elim (fun h => (h).elim (fun h => ((fun (hx : X0 b564) => nl hlo644 (hX0 _ hx)))  h) (fun h => ((fun (hx : X0 b564) => nl hlo644 (hX0 _ hx)))  h)) (fun h => nl h (hk1009.lt)))
        have hx1011 := ltx hx1008 hg855.size
        have hk1012 := ((ho843.grown hg850 hx846 nb).grown hg855 hx1008 (rowne ap1007)).grown hg859 hx1011 (rowne ap1010)
        have hx1013 := ltx hx1011 hg859.size
        have hB1014 := bg hB0 hg3 nb
        have hlo1015 : w0.heap.size ≤ b7 := lob hbe11 hB1014.size
        have ap1016 : ¬ X844 b7 := fun h => ((hx845 _ h).2.elim (fun h => (h).elim (fun h => ((fun (hx : X0 b7) => nl hlo1015 (hX0 _ hx)))  h) (fun h => ((fun (hx : X0 b7) => nl hlo1015 (hX0 _ hx)))  h)) (fun h => nl h (hk831.lt)))
        have hg1017 := (grown_trans hg9 hg15)
        have hB1018 := bg hB1014 hg1017 nb
        have hlo1019 : w0.heap.size ≤ b19 := lob hbe23 hB1018.size
        have hg1020 := (grown_trans (grown_trans hg27 hg33) hg641)
        have lt1021 := ltt lt630 lt632
        have lt1022 := ltt lt1021 lt634
        have lt1023 := ltt lt1022 lt636
        have hg1024 := (grown_trans hg825 hg760)
        have lt1025 := ltt lt1023 lt827
        have hk1026 := (((hb22.grown hg1020 nb).grown hg571 (rowne (ng lt1023))).grown hg1024 nb).grown hg765 (rowne (ng lt1025))
        have ap1027 : ¬ X844 b19 := fun h => ((hx845 _ h).2.elim (fun h => (h).elim (fun h => ((fun (hx : X0 b19) => nl hlo1019 (hX0 _ hx)))  h) (fun h => ((fun (hx : X0 b19) => nl hlo1019 (hX0 _ hx)))  h)) (fun h => nl h (hk1026.lt)))
        have hB1028 := bg hB1018 hg21 nb
        have hlo1029 : w0.heap.size ≤ b25 := lob hbe29 hB1028.size
        have hg1030 := (grown_trans hg33 hg641)
        have lt1031 := ltt lt632 lt634
        have lt1032 := ltt lt1031 lt636
        have lt1033 := ltt lt1032 lt827
        have hk1034 := (((hb28.grown hg1030 nb).grown hg571 (rowne (ng lt1032))).grown hg1024 nb).grown hg765 (rowne (ng lt1033))
        have ap1035 : ¬ X844 b25 := fun h => ((hx845 _ h).2.elim (fun h => (h).elim (fun h => ((fun (hx : X0 b25) => nl hlo1029 (hX0 _ hx)))  h) (fun h => ((fun (hx : X0 b25) => nl hlo1029 (hX0 _ hx)))  h)) (fun h => nl h (hk1034.lt)))
        have hB1036 := bg hB1028 hg27 nb
        have hlo1037 : w0.heap.size ≤ b31 := lob hbe35 hB1036.size
        have lt1038 := ltt lt634 lt636
        have lt1039 := ltt lt1038 lt827
        have hk1040 := (((hb34.grown hg641 nb).grown hg571 (rowne (ng lt1038))).grown hg1024 nb).grown hg765 (rowne (ng lt1039))
        have ap1041 : ¬ X844 b31 := fun h => ((hx845 _ h).2.elim (fun h => (h).elim (fun h => ((fun (hx : X0 b31) => nl hlo1037 (hX0 _ hx)))  h) (fun h => ((fun (hx : X0 b31) => nl hlo1037 (hX0 _ hx)))  h)) (fun h => nl h (hk1040.lt)))
        have lt1042 := ltt lt636 lt827
        have hk1043 := (((hb50.grown hg566 nb).grown hg571 (rowne (ng lt636))).grown hg1024 nb).grown hg765 (rowne (ng lt1042))
        have ap1044 : ¬ X844 b49 := fun h => ((hx845 _ h).2.elim (fun h => (h).elim (fun h => ((fun (hx : X0 b49) => nl hl561 (hX0 _ hx)))  h) (fun h => ((fun (hx : X0 b49) => nl hl561 (hX0 _ hx)))  h)) (fun h => nl h (hk1043.lt)))
        have lt1045 := ltt lt830 lt864
        have hk1046 := ((hk831.grown hg862 nb).grown hg855 (rowne (ng lt1045))).grown hg859 (rowne (ng lt637))
        have lt1047 := ltt lt1025 lt864
        have hk1048 := ((hk1026.grown hg862 nb).grown hg855 (rowne (ng lt1047))).grown hg859 (rowne (ng lt1023))
        have lt1049 := ltt lt1033 lt864
        have hk1050 := ((hk1034.grown hg862 nb).grown hg855 (rowne (ng lt1049))).grown hg859 (rowne (ng lt1032))
        have lt1051 := ltt lt1039 lt864
        have hk1052 := ((hk1040.grown hg862 nb).grown hg855 (rowne (ng lt1051))).grown hg859 (rowne (ng lt1038))
        have lt1053 := ltt lt1042 lt864
        have hk1054 := ((hk1043.grown hg862 nb).grown hg855 (rowne (ng lt1053))).grown hg859 (rowne (ng lt636))
        have hk1055 := hb856.grown hg859 (rowne (Nat.ne_of_lt lt865))
        exact ⟨a841, c842, X844, hB1006, (Nat.le_refl _), hk1012, hx1013, hx847, ap1016, ap1027, ap1035, ap1041, ap1044, ap1010, ap1007, hk1046, hk1048, hk1050, hk1052, hk1054, hb860, hk1055, hd, hs, ok_pick [4, 6, 7, 8, 9, 10, 13] hok (by kernel_rfl)⟩
      ·rintro a w868 ⟨a1058, c1059, X1058, hB1056, hz1057, hr1060, hx1061, hx1062, ap1063, ap1064, ap1065, ap1066, ap1067, ap1068, ap1069, hb1070, hb1071, hb1072, hb1073, hb1074, hb1075, hb1076, hd, hs, hok⟩
       refine gv_in ?_ hd hs hok
       clear hd hs hok
       clear hz1057 hz861 hb860 hg859 hk866 hk863 hg862 hz857 hb856 hg855 hz853 hb851 hg850 hx847 hx846 hx845 ho843 hlo836 hB835 hB834 hr833 hk831 hk829 lt828 hk826 hg825 hg824 hc768 hz767 hb766 hg765 hz763 hbe762 hb761 hg760 hg756 hB754 hr753 hk751 hg750 hk749 hc704 hg702 hB700 hr699 hk697 lt696 lt695 lt694 lt693 hg692 hc649 hg647 hB645 hB643 hB642 hg641 hr640 hk638 lt628 lt627 hg626 hc574 hz573 hb572 hg571 hz569 hbe568 hb567 hg566 hB563 hg562 hg42 hr40 hk38 hg37 hz36 hb34 hg33 hz30 hb28 hz24 hb22 hz18 hbe17 hb16 hz12 hb10 hz6 hbe5 hb4
       refine gv_seq <| gv_seq <| gv_region <| gv_pureN 1 [68] [(68, (bp b564))] (by kernel_rfl) ?_
       refine gv_load (t := 3) (A := ⟨b564, 0, none⟩) (.int .i64 j867.1.1) [] (fun e => by cases e) rfl rfl rfl (by kernel_rfl) (by kernel_rfl) (by kernel_rfl) (inw0 (hb1075.cell 0 rfl)) rfl ?_
       refine gv_pureN 1 [70] [(70, (.bool (j867.1.1 != 0)))] (by kernel_rfl) ?_
       refine gv_nil <| gv_cond (b := (j867.1.1 != 0)) (by kernel_rfl) (fun hc1077 => ?_) (fun hc1077 => ?_)
       ·replace h0 := ite_t hc1077 h0
        refine gv_seq <| gv_region <| gv_pureN 2 [71, 72] [(71, (.agg #[(.bool false), (.slice none (List.length ([] : List Int)) 0)])), (72, (.agg #[(.int .u64 0), (.int .u64 0)]))] (by kernel_rfl) ?_
        refine bindE h0 ?_; clear h0; intro r1078 hr1079 h0
        refine gv_call0 (by kernel_rfl) rfl (by kernel_rfl) enters37 (random_at_ok fuel 14 (-3) w868  r1078 hr1079) ?_
        rintro v1082 w1080 ⟨hg1081, rfl⟩
        have hk1087 := hb1071.grown hg1081 nb
        refine gv_store0 24 0 (.agg #[(.bool false), (.slice none (List.length ([] : List Int)) 0)]) #[(.bool false), (.slice none (List.length ([] : List Int)) 0)] hk1087 (by kernel_rfl) (by kernel_rfl) (by kernel_rfl) ?_
        intro w1083 hg1084 hb1085 hz1086
        have hk1092 := (hb1072.grown hg1081 nb).grown hg1084 (rowne (Nat.ne_of_lt lt630))
        refine gv_store0 27 0 (.agg #[(.int .u64 0), (.int .u64 0)]) #[(.int .u64 0), (.int .u64 0)] hk1092 (by kernel_rfl) (by kernel_rfl) (by kernel_rfl) ?_
        intro w1088 hg1089 hb1090 hz1091
        have lt1097 := ltt lt630 lt632
        have hk1098 := ((hb1073.grown hg1081 nb).grown hg1084 (rowne (Nat.ne_of_lt lt1097))).grown hg1089 (rowne (Nat.ne_of_lt lt632))
        refine gv_store0 29 0 (.agg #[(.int .i64 r1078.1), (.int .i64 r1078.2)]) #[(.int .i64 r1078.1), (.int .i64 r1078.2)] hk1098 (by kernel_rfl) (by kernel_rfl) (by kernel_rfl) ?_
        intro w1093 hg1094 hb1095 hz1096
        refine gv_nil <| gv_cret ?_
        have e := sj h0; subst e
        have hk1099 := (hb1085.grown hg1089 (rowne (ng lt630))).grown hg1094 (rowne (ng lt1097))
        have hk1100 := hb1090.grown hg1094 (rowne (ng lt632))
        refine gv_ret (gv_done [(.agg #[(.bool false), (.slice none (List.length ([] : List Int)) 0)]), (.agg #[(.int .u64 0), (.int .u64 0)]), (.agg #[(.int .i64 r1078.1), (.int .i64 r1078.2)])] rfl ⟨⟨⟨b19, 0, none⟩, (by kernel_rfl), run_loadVar_row w1093 b19 _ 24 _ _ _ hk1099 Try.underlying24 rfl (by kernel_rfl)⟩, ⟨⟨b25, 0, none⟩, (by kernel_rfl), run_loadVar_row w1093 b25 _ 27 _ _ _ hk1100 Try.underlying27 rfl (by kernel_rfl)⟩, ⟨⟨b31, 0, none⟩, (by kernel_rfl), run_loadVar_row w1093 b31 _ 29 _ _ _ hb1095 Try.underlying29 rfl (by kernel_rfl)⟩, trivial⟩ ?_)
        have hB1101 := bg hB1056 hg1081 nb
        have hg1102 := (grown_trans (grown_trans hg3 hg9) hg15)
        have hB1103 := bg hB0 hg1102 nb
        have hlo1104 : w0.heap.size ≤ b19 := lob hbe23 hB1103.size
        have hB1105 := bg hB1101 hg1084 (rowlo hlo1104)
        have hB1106 := bg hB1103 hg21 nb
        have hlo1107 : w0.heap.size ≤ b25 := lob hbe29 hB1106.size
        have hB1108 := bg hB1105 hg1089 (rowlo hlo1107)
        have hB1109 := bg hB1106 hg27 nb
        have hlo1110 : w0.heap.size ≤ b31 := lob hbe35 hB1109.size
        have hB1111 := bg hB1108 hg1094 (rowlo hlo1110)
        exact ⟨grown_of_below hB1111, none, 0, (fun _ => False), rfl, (Rd.nil (iE .u32) w1093 (fun _ => False) none 0), (fun k hk => ⟨(fun _ h => h.elim) k hk, (fun _ h => h.elim) k hk⟩)⟩
       ·replace h0 := ite_f hc1077 h0
        refine gv_skip <| gv_seq <| gv_anyM [b49] (by kernel_rfl) (List.range 12) [] (by kernel_rfl) ?_
        intro w1112 hg1113
        have hx1115 := ltx hx1061 hg1113.size
        have hM1114 : ∀ k, X1058 k → k < w1112.heap.size := hx1115
        have hM1116 : ∀ k, X1058 k → k < w1112.heap.size := hx1115
        have hk1118 := hb1070.grown hg1113 nb
        have hM1117 : ∀ k, (· = b7) k → k < w1112.heap.size := (ltb hk1118)
        have hk1120 := hb1071.grown hg1113 nb
        have hM1119 : ∀ k, (· = b19) k → k < w1112.heap.size := (ltb hk1120)
        have hk1122 := hb1072.grown hg1113 nb
        have hM1121 : ∀ k, (· = b25) k → k < w1112.heap.size := (ltb hk1122)
        have hk1124 := hb1073.grown hg1113 nb
        have hM1123 : ∀ k, (· = b31) k → k < w1112.heap.size := (ltb hk1124)
        have hk1126 := hb1074.grown hg1113 nb
        have hM1125 : ∀ k, (· = b49) k → k < w1112.heap.size := (ltb hk1126)
        have hk1128 := hb1075.grown hg1113 nb
        have hM1127 : ∀ k, (· = b564) k → k < w1112.heap.size := (ltb hk1128)
        have hk1130 := hb1076.grown hg1113 nb
        have hM1129 : ∀ k, (· = b848) k → k < w1112.heap.size := (ltb hk1130)
        refine bindE h0 ?_; clear h0; intro r1152 hr1153 h0
        refine bindE h0 ?_; clear h0; intro r1226 hr1227 h0
        refine gv_thrs [0, 1, 2] [(3, []), (4, [5, 6, 7])] [⟨8, 14, 24, #[(.bool false), (.slice none (List.length ([] : List Int)) 0)], some (10, 80)⟩, ⟨9, 15, 29, #[(.int .i64 0), (.int .i64 0)], some (11, 81)⟩] (fun p => match p with | 0 => [6, 7, 8, 9, 75, 76, 77] | 1 => [6, 7, 8, 9, 75, 78] | _ => [6, 7, 8, 9, 80, 81]) (fun p σ B w => match p with | 0 => (σ = [(6, (bp b19)), (7, (bp b25)), (8, (bp b31)), (9, (bp b49)), (75, (.agg #[(.bool low_1.1), (.slice pa1_0 (List.length low_1.2) pc1_0)])), (76, (bp b49)), (77, (.agg #[(.bool j867.2.1), (.slice a1058 (List.length j867.2.2) c1059)]))] ∧ Below w0.heap.size w0 w ∧ w1112.heap.size ≤ w.heap.size ∧ Rd (iE .u32) w X1058 a1058 c1059 j867.2.2 ∧ Box w b7 24 #[(.bool low_1.1), (.slice pa1_0 (List.length low_1.2) pc1_0)] ∧ Box w b19 24 #[(.bool false), (.slice none (List.length ([] : List Int)) 0)] ∧ Box w b25 27 #[(.int .u64 0), (.int .u64 0)] ∧ Box w b31 29 #[(.int .i64 0), (.int .i64 0)] ∧ Box w b49 81 #[(.int .u64 x48.1), (.int .u64 x48.2)] ∧ Box w b564 29 #[(.int .i64 j867.1.1), (.int .i64 j867.1.2)] ∧ Box w b848 24 #[(.bool j867.2.1), (.slice a1058 (List.length j867.2.2) c1059)]) | 1 => (∃ (a1157 : Option Addr), ∃ (c1158 : Nat), σ = [(6, (bp b19)), (7, (bp b25)), (8, (bp b31)), (9, (bp b49)), (75, (.agg #[(.bool low_1.1), (.slice pa1_0 (List.length low_1.2) pc1_0)])), (78, (.agg #[(.bool r1152.1.1), (.slice a1157 (List.length r1152.1.2) c1158)]))] ∧ Below w0.heap.size w0 w ∧ w1112.heap.size ≤ w.heap.size ∧ Rd (iE .u32) w X1058 a1058 c1059 j867.2.2 ∧ Box w b7 24 #[(.bool low_1.1), (.slice pa1_0 (List.length low_1.2) pc1_0)] ∧ Box w b19 24 #[(.bool false), (.slice none (List.length ([] : List Int)) 0)] ∧ Box w b25 27 #[(.int .u64 0), (.int .u64 0)] ∧ Box w b31 29 #[(.int .i64 0), (.int .i64 0)] ∧ Box w b49 81 #[(.int .u64 r1152.2.1), (.int .u64 r1152.2.2)] ∧ Box w b564 29 #[(.int .i64 j867.1.1), (.int .i64 j867.1.2)] ∧ Box w b848 24 #[(.bool j867.2.1), (.slice a1058 (List.length j867.2.2) c1059)] ∧ Own (iE .u32) 76 w (fun _ => False) a1157 c1158 r1152.1.2 ∧ (∀ g, blk a1157 = some g → w0.heap.size ≤ g) ∧ (∀ k, (fun k => blk a1157 = some k) k → B k → False) ∧ (∀ g, blk a1157 = some g → ¬ X1058 g) ∧ (∀ g, blk a1157 = some g → ¬ (· = b7) g) ∧ (¬ (fun k => blk a1157 = some k) b7) ∧ (∀ g, blk a1157 = some g → ¬ (· = b19) g) ∧ (¬ (fun k => blk a1157 = some k) b19) ∧ (∀ g, blk a1157 = some g → ¬ (· = b25) g) ∧ (¬ (fun k => blk a1157 = some k) b25) ∧ (∀ g, blk a1157 = some g → ¬ (· = b31) g) ∧ (¬ (fun k => blk a1157 = some k) b31) ∧ (∀ g, blk a1157 = some g → ¬ (· = b49) g) ∧ (¬ (fun k => blk a1157 = some k) b49) ∧ (∀ g, blk a1157 = some g → ¬ (· = b564) g) ∧ (¬ (fun k => blk a1157 = some k) b564) ∧ (∀ g, blk a1157 = some g → ¬ (· = b848) g) ∧ (¬ (fun k => blk a1157 = some k) b848)) | _ => (∃ (a1231 : Option Addr), ∃ (c1232 : Nat), ∃ (X1234 : Nat → Prop), σ = [(6, (bp b19)), (7, (bp b25)), (8, (bp b31)), (9, (bp b49)), (80, (.agg #[(.bool r1226.1.1), (.slice a1231 (List.length r1226.1.2) c1232)])), (81, (.agg #[(.int .i64 r1226.2.1), (.int .i64 r1226.2.2)]))] ∧ Below w0.heap.size w0 w ∧ w1112.heap.size ≤ w.heap.size ∧ Rd (iE .u32) w X1058 a1058 c1059 j867.2.2 ∧ Box w b7 24 #[(.bool low_1.1), (.slice pa1_0 (List.length low_1.2) pc1_0)] ∧ Box w b19 24 #[(.bool false), (.slice none (List.length ([] : List Int)) 0)] ∧ Box w b25 27 #[(.int .u64 0), (.int .u64 0)] ∧ Box w b31 29 #[(.int .i64 0), (.int .i64 0)] ∧ Box w b49 81 #[(.int .u64 r1152.2.1), (.int .u64 r1152.2.2)] ∧ Box w b564 29 #[(.int .i64 j867.1.1), (.int .i64 j867.1.2)] ∧ Box w b848 24 #[(.bool j867.2.1), (.slice a1058 (List.length j867.2.2) c1059)] ∧ Rd (iE .u32) w X1234 a1231 c1232 r1226.1.2 ∧ (∀ k, X1234 k → k < w.heap.size) ∧ (∀ k, X1234 k → X0 k ∨ w0.heap.size ≤ k) ∧ (∀ k, X1234 k → B k → False) ∧ (¬ X1234 b7) ∧ (¬ X1234 b19) ∧ (¬ X1234 b25) ∧ (¬ X1234 b31) ∧ (¬ X1234 b49) ∧ (¬ X1234 b564) ∧ (¬ X1234 b848))) (by kernel_rfl) (by kernel_rfl) (by decide) ⟨⟨rfl, rfl, by decide, fun _ _ => by kernel_rfl⟩, ⟨rfl, rfl, by decide, fun _ _ => by kernel_rfl⟩, trivial⟩ ⟨(fun s x h => by cases h; exact ⟨rfl, rfl, by kernel_rfl, by kernel_rfl, fun b v => ⟨by kernel_rfl, by kernel_rfl⟩⟩), (fun s x h => by cases h; exact ⟨rfl, rfl, by kernel_rfl, by kernel_rfl, fun b v => ⟨by kernel_rfl, by kernel_rfl⟩⟩), trivial⟩ ?_ ?_ ?_ ?_ ?_ ?_
        ·rintro σ B w ⟨a1231, c1232, X1234, rfl, hB1434, hz1435, hk1436, hk1437, hk1438, hk1439, hk1440, hk1441, hk1442, hk1443, hk1444, hhX1445, hsX1446, hnb1447, hap1448, hap1449, hap1450, hap1451, hap1452, hap1453, hap1454⟩
         exact ⟨(fun s x h => by cases h; exact ⟨(.agg #[(.bool r1226.1.1), (.slice a1231 (List.length r1226.1.2) c1232)]), rfl, rfl, by intro u hu; simp [Value.cells] at hu; rcases hu with rfl | rfl <;> rfl⟩), (fun s x h => by cases h; exact ⟨(.agg #[(.int .i64 r1226.2.1), (.int .i64 r1226.2.2)]), rfl, rfl, by intro u hu; simp [Value.cells] at hu; rcases hu with rfl | rfl <;> rfl⟩), trivial⟩
        ·intro p
         rcases p with _ | _ | p
         ·rintro σ B1270 w1268 w1269 b1272 ⟨rfl, hB1276, hz1277, hk1278, hk1279, hk1280, hk1281, hk1282, hk1283, hk1284, hk1285⟩ hBl1271 hC hbe1273 hg1274 hz1275
          have hB1286 := bg hB1276 hg1274 nb
          have hz1287 := (nt hz1277 hg1274.size)
          have hk1288 := hk1278.grown hg1274 (fun k hk => ltl (hM1116 k hk) hz1277) nb
          have hk1289 := hk1279.grown hg1274 nb
          have hk1290 := hk1280.grown hg1274 nb
          have hk1291 := hk1281.grown hg1274 nb
          have hk1292 := hk1282.grown hg1274 nb
          have hk1293 := hk1283.grown hg1274 nb
          have hk1294 := hk1284.grown hg1274 nb
          have hk1295 := hk1285.grown hg1274 nb
          exact ⟨rfl, hB1286, hz1287, hk1288, hk1289, hk1290, hk1291, hk1292, hk1293, hk1294, hk1295⟩
         ·rintro σ B1298 w1296 w1297 b1300 ⟨a1157, c1158, rfl, hB1304, hz1305, hk1306, hk1307, hk1308, hk1309, hk1310, hk1311, hk1312, hk1313, hk1314, hlo1315, hnb1316, hap1317, hap1318, hap1319, hap1320, hap1321, hap1322, hap1323, hap1324, hap1325, hap1326, hap1327, hap1328, hap1329, hap1330, hap1331⟩ hBl1299 hC hbe1301 hg1302 hz1303
          have hB1332 := bg hB1304 hg1302 nb
          have hz1333 := (nt hz1305 hg1302.size)
          have hk1334 := hk1306.grown hg1302 (fun k hk => ltl (hM1116 k hk) hz1305) nb
          have hk1335 := hk1307.grown hg1302 nb
          have hk1336 := hk1308.grown hg1302 nb
          have hk1337 := hk1309.grown hg1302 nb
          have hk1338 := hk1310.grown hg1302 nb
          have hk1339 := hk1311.grown hg1302 nb
          have hk1340 := hk1312.grown hg1302 nb
          have hk1341 := hk1313.grown hg1302 nb
          have hk1342 := hk1314.grown hg1302 (fun _ h => h.elim) nb
          exact ⟨a1157, c1158, rfl, hB1332, hz1333, hk1334, hk1335, hk1336, hk1337, hk1338, hk1339, hk1340, hk1341, hk1342, hlo1315, (fun k hk hb => hb.elim (fun hb => hnb1316 k hk hb) (fun e => Nat.ne_of_lt ((fun k (hk : blk a1157 = some k) => hk1314.lt k hk) k hk) (e.trans hbe1301))), hap1317, hap1318, hap1319, hap1320, hap1321, hap1322, hap1323, hap1324, hap1325, hap1326, hap1327, hap1328, hap1329, hap1330, hap1331⟩
         ·rintro σ B1345 w1343 w1344 b1347 ⟨a1231, c1232, X1234, rfl, hB1351, hz1352, hk1353, hk1354, hk1355, hk1356, hk1357, hk1358, hk1359, hk1360, hk1361, hhX1362, hsX1363, hnb1364, hap1365, hap1366, hap1367, hap1368, hap1369, hap1370, hap1371⟩ hBl1346 hC hbe1348 hg1349 hz1350
          have hB1372 := bg hB1351 hg1349 nb
          have hz1373 := (nt hz1352 hg1349.size)
          have hk1374 := hk1353.grown hg1349 (fun k hk => ltl (hM1116 k hk) hz1352) nb
          have hk1375 := hk1354.grown hg1349 nb
          have hk1376 := hk1355.grown hg1349 nb
          have hk1377 := hk1356.grown hg1349 nb
          have hk1378 := hk1357.grown hg1349 nb
          have hk1379 := hk1358.grown hg1349 nb
          have hk1380 := hk1359.grown hg1349 nb
          have hk1381 := hk1360.grown hg1349 nb
          have hk1382 := hk1361.grown hg1349 hhX1362 nb
          have hx1383 := ltx hhX1362 hg1349.size
          exact ⟨a1231, c1232, X1234, rfl, hB1372, hz1373, hk1374, hk1375, hk1376, hk1377, hk1378, hk1379, hk1380, hk1381, hk1382, hx1383, hsX1363, (fun k hk hb => hb.elim (fun hb => hnb1364 k hk hb) (fun e => Nat.ne_of_lt (hhX1362 k hk) (e.trans hbe1348))), hap1365, hap1366, hap1367, hap1368, hap1369, hap1370, hap1371⟩
        ·rintro σ B1386 w1384 w1385 b1388 ⟨a1231, c1232, X1234, rfl, hB1392, hz1393, hk1394, hk1395, hk1396, hk1397, hk1398, hk1399, hk1400, hk1401, hk1402, hhX1403, hsX1404, hnb1405, hap1406, hap1407, hap1408, hap1409, hap1410, hap1411, hap1412⟩ hBl1387 hC hBb1389 hg1390 hz1391
         have hB1414 := bg hB1056 hg1113 nb
         have hB1413 := below_grown hB1392 hg1390 hB1392.size (rowlo (Nat.le_trans hB1414.size (hBl1387 _ hBb1389).1))
         have : w1384.heap.size ≤ w1385.heap.size := hg1390.size
         have hr1415 : ∀ g, some b1388 = some g → ¬ X1058 g := fun g e h => by cases e; exact (fun k (h : X1058 k) (hb : B1386 k) => nl (hBl1387 k hb).1 (hM1114 k h)) _ h hBb1389
         have hk1416 := hk1394.grown hg1390 (fun k hk => ltl (hM1116 k hk) hz1393) hr1415
         have hr1417 : ∀ g, some b1388 = some g → ¬ (· = b7) g := fun g e h => by cases e; exact (fun k (h : (· = b7) k) (hb : B1386 k) => nl (hBl1387 k hb).1 (hM1117 k h)) _ h hBb1389
         have hk1418 := hk1395.grown hg1390 hr1417
         have hr1419 : ∀ g, some b1388 = some g → ¬ (· = b19) g := fun g e h => by cases e; exact (fun k (h : (· = b19) k) (hb : B1386 k) => nl (hBl1387 k hb).1 (hM1119 k h)) _ h hBb1389
         have hk1420 := hk1396.grown hg1390 hr1419
         have hr1421 : ∀ g, some b1388 = some g → ¬ (· = b25) g := fun g e h => by cases e; exact (fun k (h : (· = b25) k) (hb : B1386 k) => nl (hBl1387 k hb).1 (hM1121 k h)) _ h hBb1389
         have hk1422 := hk1397.grown hg1390 hr1421
         have hr1423 : ∀ g, some b1388 = some g → ¬ (· = b31) g := fun g e h => by cases e; exact (fun k (h : (· = b31) k) (hb : B1386 k) => nl (hBl1387 k hb).1 (hM1123 k h)) _ h hBb1389
         have hk1424 := hk1398.grown hg1390 hr1423
         have hr1425 : ∀ g, some b1388 = some g → ¬ (· = b49) g := fun g e h => by cases e; exact (fun k (h : (· = b49) k) (hb : B1386 k) => nl (hBl1387 k hb).1 (hM1125 k h)) _ h hBb1389
         have hk1426 := hk1399.grown hg1390 hr1425
         have hr1427 : ∀ g, some b1388 = some g → ¬ (· = b564) g := fun g e h => by cases e; exact (fun k (h : (· = b564) k) (hb : B1386 k) => nl (hBl1387 k hb).1 (hM1127 k h)) _ h hBb1389
         have hk1428 := hk1400.grown hg1390 hr1427
         have hr1429 : ∀ g, some b1388 = some g → ¬ (· = b848) g := fun g e h => by cases e; exact (fun k (h : (· = b848) k) (hb : B1386 k) => nl (hBl1387 k hb).1 (hM1129 k h)) _ h hBb1389
         have hk1430 := hk1401.grown hg1390 hr1429
         have hr1431 : ∀ g, some b1388 = some g → ¬ X1234 g := fun g e h => by cases e; exact hnb1405 _ h hBb1389
         have hk1432 := hk1402.grown hg1390 hhX1403 hr1431
         have hz1433 := (nt hz1393 hg1390.size)
         exact ⟨a1231, c1232, X1234, rfl, hB1413, hz1433, hk1416, hk1418, hk1420, hk1422, hk1424, hk1426, hk1428, hk1430, hk1432, (fun k hk => ltl (hhX1403 k hk) hg1390.size), hsX1404, hnb1405, hap1406, hap1407, hap1408, hap1409, hap1410, hap1411, hap1412⟩
        ·intro p m qs' hp
         rcases p with _ | _ | p
         ·cases (show some ((3, []) : Nat × List Nat) = some (m, qs') from hp)
          rintro σ B1138 w1137 es1139 ⟨rfl, hB1142, hz1143, hk1144, hk1145, hk1146, hk1147, hk1148, hk1149, hk1150, hk1151⟩ hBl1140 hC1141
          refine gv_sub [6, 7, 8, 9, 14, 15, 75, 76, 77] (σ' := [(6, (bp b19)), (7, (bp b25)), (8, (bp b31)), (9, (bp b49)), (14, (es1139 0)), (15, (es1139 1)), (75, (.agg #[(.bool low_1.1), (.slice pa1_0 (List.length low_1.2) pc1_0)])), (76, (bp b49)), (77, (.agg #[(.bool j867.2.1), (.slice a1058 (List.length j867.2.2) c1059)]))]) (by kernel_rfl) ?_
          refine gv_call (f := 43) (vs := [(bp b49), (.agg #[(.bool j867.2.1), (.slice a1058 (List.length j867.2.2) c1059)])]) (cap := []) _ (by decide) rfl rfl rfl (by kernel_rfl) (by kernel_rfl) enters43 (random_source_below_ok fuel b49 (x48.1, x48.2) a1058 c1059 (j867.2.1, j867.2.2) w1137 (fun k => X1058 k) (fun k hk => ⟨(fun k hk => ltl (hM1116 k hk) hz1143) k hk, fun e => ap1067 (e ▸ hk)⟩) hk1149 (hk1144.wide (fun k hk => hk)) r1152 hr1153) ?_
          rintro v1156 w1154 ⟨hg1155, a1157, c1158, rfl, ho1159, hl1160, hb1161⟩
          refine ⟨(fun _ => hC1141.grown hg1155 (rowm (List.Mem.head _))), ?_⟩
          have hl1162 : ∀ g, blk a1157 = some g → w0.heap.size ≤ g := fun g e => Nat.le_trans hB1142.size (hl1160 g e)
          have nb1163 : ∀ k, (fun k => blk a1157 = some k) k → B1138 k → False := fun k hk hb => (fun h => nl (hl1160 k h) (hBl1140 k hb).2) hk
          refine gv_nil <| gv_sub [6, 7, 8, 9, 14, 15, 75, 78] (σ' := [(6, (bp b19)), (7, (bp b25)), (8, (bp b31)), (9, (bp b49)), (14, (es1139 0)), (15, (es1139 1)), (75, (.agg #[(.bool low_1.1), (.slice pa1_0 (List.length low_1.2) pc1_0)])), (78, (.agg #[(.bool r1152.1.1), (.slice a1157 (List.length r1152.1.2) c1158)]))]) (by kernel_rfl) ?_
          refine gv_goal fun a hd hs hok => ?_
          obtain ⟨q6, q7, q8, q9, q14, q15, q75, q78, _⟩ := hok
          have hB1164 := bg hB1142 hg1155 (rowlo hl561)
          have hz1165 := (nt hz1143 hg1155.size)
          have hk1166 := hk1144.grown hg1155 (fun k hk => ltl (hM1116 k hk) hz1143) (rowne ap1067)
          have hk1167 := hk1145.grown hg1155 (rowne (ng lt635))
          have lt1168 := ltt lt630 lt632
          have lt1169 := ltt lt1168 lt634
          have hk1170 := hk1146.grown hg1155 (rowne (ng lt1169))
          have lt1171 := ltt lt632 lt634
          have hk1172 := hk1147.grown hg1155 (rowne (ng lt1171))
          have hk1173 := hk1148.grown hg1155 (rowne (ng lt634))
          have hk1174 := hk1150.grown hg1155 (rowne (Nat.ne_of_lt lt636))
          have lt1175 := ltt lt636 lt827
          have lt1176 := ltt lt1175 lt864
          have hk1177 := hk1151.grown hg1155 (rowne (Nat.ne_of_lt lt1176))
          have ap1178 : ∀ g, blk a1157 = some g → ¬ X1058 g := fun g e hx => nl ((show ∀ k, blk a1157 = some k → w1137.heap.size ≤ k from hl1160) g e) ((fun k hk => ltl (hM1116 k hk) hz1143) _ hx)
          have ap1179 : ∀ g, blk a1157 = some g → ¬ (· = b7) g := fun g e hx => nl ((show ∀ k, blk a1157 = some k → w1137.heap.size ≤ k from hl1160) g e) ((ltb hk1145) _ hx)
          have ap1180 : ¬ (fun k => blk a1157 = some k) b7 := fun hx => nl ((show ∀ k, blk a1157 = some k → w1137.heap.size ≤ k from hl1160) _ hx) ((ltb hk1145) _ rfl)
          have ap1181 : ∀ g, blk a1157 = some g → ¬ (· = b19) g := fun g e hx => nl ((show ∀ k, blk a1157 = some k → w1137.heap.size ≤ k from hl1160) g e) ((ltb hk1146) _ hx)
          have ap1182 : ¬ (fun k => blk a1157 = some k) b19 := fun hx => nl ((show ∀ k, blk a1157 = some k → w1137.heap.size ≤ k from hl1160) _ hx) ((ltb hk1146) _ rfl)
          have ap1183 : ∀ g, blk a1157 = some g → ¬ (· = b25) g := fun g e hx => nl ((show ∀ k, blk a1157 = some k → w1137.heap.size ≤ k from hl1160) g e) ((ltb hk1147) _ hx)
          have ap1184 : ¬ (fun k => blk a1157 = some k) b25 := fun hx => nl ((show ∀ k, blk a1157 = some k → w1137.heap.size ≤ k from hl1160) _ hx) ((ltb hk1147) _ rfl)
          have ap1185 : ∀ g, blk a1157 = some g → ¬ (· = b31) g := fun g e hx => nl ((show ∀ k, blk a1157 = some k → w1137.heap.size ≤ k from hl1160) g e) ((ltb hk1148) _ hx)
          have ap1186 : ¬ (fun k => blk a1157 = some k) b31 := fun hx => nl ((show ∀ k, blk a1157 = some k → w1137.heap.size ≤ k from hl1160) _ hx) ((ltb hk1148) _ rfl)
          have ap1187 : ∀ g, blk a1157 = some g → ¬ (· = b49) g := fun g e hx => nl ((show ∀ k, blk a1157 = some k → w1137.heap.size ≤ k from hl1160) g e) ((ltb hk1149) _ hx)
          have ap1188 : ¬ (fun k => blk a1157 = some k) b49 := fun hx => nl ((show ∀ k, blk a1157 = some k → w1137.heap.size ≤ k from hl1160) _ hx) ((ltb hk1149) _ rfl)
          have ap1189 : ∀ g, blk a1157 = some g → ¬ (· = b564) g := fun g e hx => nl ((show ∀ k, blk a1157 = some k → w1137.heap.size ≤ k from hl1160) g e) ((ltb hk1150) _ hx)
          have ap1190 : ¬ (fun k => blk a1157 = some k) b564 := fun hx => nl ((show ∀ k, blk a1157 = some k → w1137.heap.size ≤ k from hl1160) _ hx) ((ltb hk1150) _ rfl)
          have ap1191 : ∀ g, blk a1157 = some g → ¬ (· = b848) g := fun g e hx => nl ((show ∀ k, blk a1157 = some k → w1137.heap.size ≤ k from hl1160) g e) ((ltb hk1151) _ hx)
          have ap1192 : ¬ (fun k => blk a1157 = some k) b848 := fun hx => nl ((show ∀ k, blk a1157 = some k → w1137.heap.size ≤ k from hl1160) _ hx) ((ltb hk1151) _ rfl)
          exact ⟨⟨_, hg1155, fun g e => by cases e; exact ⟨by simp, hM1125 _ rfl⟩⟩, hd, hs, [(6, (bp b19)), (7, (bp b25)), (8, (bp b31)), (9, (bp b49)), (75, (.agg #[(.bool low_1.1), (.slice pa1_0 (List.length low_1.2) pc1_0)])), (78, (.agg #[(.bool r1152.1.1), (.slice a1157 (List.length r1152.1.2) c1158)]))], rfl, ⟨a1157, c1158, rfl, hB1164, hz1165, hk1166, hk1167, hk1170, hk1172, hk1173, hb1161, hk1174, hk1177, ho1159, hl1162, nb1163, ap1178, ap1179, ap1180, ap1181, ap1182, ap1183, ap1184, ap1185, ap1186, ap1187, ap1188, ap1189, ap1190, ap1191, ap1192⟩, ⟨q6, q7, q8, q9, q75, q78, q14, q15, trivial⟩⟩
         ·cases (show some ((4, [5, 6, 7]) : Nat × List Nat) = some (m, qs') from hp)
          rintro σ B1194 w1193 es1195 ⟨a1157, c1158, rfl, hB1198, hz1199, hk1200, hk1201, hk1202, hk1203, hk1204, hk1205, hk1206, hk1207, hk1208, hlo1209, hnb1210, hap1211, hap1212, hap1213, hap1214, hap1215, hap1216, hap1217, hap1218, hap1219, hap1220, hap1221, hap1222, hap1223, hap1224, hap1225⟩ hBl1196 hC1197
          refine gv_sub [6, 7, 8, 9, 14, 15, 75, 78] (σ' := [(6, (bp b19)), (7, (bp b25)), (8, (bp b31)), (9, (bp b49)), (14, (es1195 0)), (15, (es1195 1)), (75, (.agg #[(.bool low_1.1), (.slice pa1_0 (List.length low_1.2) pc1_0)])), (78, (.agg #[(.bool r1152.1.1), (.slice a1157 (List.length r1152.1.2) c1158)]))]) (by kernel_rfl) ?_
          refine gv_call (f := 46) (vs := [(.agg #[(.bool low_1.1), (.slice pa1_0 (List.length low_1.2) pc1_0)]), (.agg #[(.bool r1152.1.1), (.slice a1157 (List.length r1152.1.2) c1158)])]) (cap := []) _ (by decide) rfl rfl rfl (by kernel_rfl) (by kernel_rfl) enters46 (integer_Add_ok fuel pa1_0 pc1_0 (low_1.1, low_1.2) a1157 c1158 (r1152.1.1, r1152.1.2) w1193 (fun k => X0 k ∨ (fun k => blk a1157 = some k) k) (fun k hk => (hk).elim (fun h => (fun k (hk : X0 k) => ltl (hX0 k hk) hB1198.size) k h) (fun h => (fun k (hk : blk a1157 = some k) => hk1208.lt k hk) k h)) ((hpa1_0.below hB1198 hX0).wide (fun k hk => (.inl hk))) ((hk1208.rd (Y := fun k => blk a1157 = some k) (fun _ h => h.elim) (fun g e => e)).wide (fun k hk => (.inr hk))) r1226 hr1227) ?_
          rintro v1230 w1228 ⟨hg1229, a1231, c1232, X1234, rfl, ho1233, hx1235⟩
          refine ⟨(fun _ => hC1197.grown hg1229 nb), ?_⟩
          have hx1236 : ∀ k, X1234 k → k < w1228.heap.size := fun k hk => (hx1235 k hk).1
          have hx1237 : ∀ k, X1234 k → X0 k ∨ w0.heap.size ≤ k := fun k hk => (hx1235 k hk).2.elim (fun h => (h).elim (fun h => (fun k (hk : X0 k) => Or.inl hk) k h) (fun h => (fun k (hk : blk a1157 = some k) => Or.inr (hlo1209 k hk)) k h)) (fun h => .inr (Nat.le_trans hB1198.size h))
          have hB1239 := bg hB1056 hg1113 nb
          have nb1238 : ∀ k, X1234 k → B1194 k → False := fun k hk hb => (fun h => (hx1235 k h).2.elim (fun h => (h).elim (fun h => (fun k (h : X0 k) (hb : B1194 k) => nl (hBl1196 k hb).1 ((fun k (hk : X0 k) => ltl (hX0 k hk) hB1239.size) k h)) k h hb) (fun h => hnb1210 k h hb)) (fun h => nl h (hBl1196 k hb).2)) hk
          refine gv_pureN 3 [74, 80, 81] [(80, (.agg #[(.bool r1226.1.1), (.slice a1231 (List.length r1226.1.2) c1232)])), (81, (.agg #[(.int .i64 r1226.2.1), (.int .i64 r1226.2.2)]))] (by kernel_rfl) ?_
          refine gv_nil <| gv_sub [6, 7, 8, 9, 14, 15, 80, 81] (σ' := [(6, (bp b19)), (7, (bp b25)), (8, (bp b31)), (9, (bp b49)), (14, (es1195 0)), (15, (es1195 1)), (80, (.agg #[(.bool r1226.1.1), (.slice a1231 (List.length r1226.1.2) c1232)])), (81, (.agg #[(.int .i64 r1226.2.1), (.int .i64 r1226.2.2)]))]) (by kernel_rfl) ?_
          refine gv_goal fun a hd hs hok => ?_
          obtain ⟨q6, q7, q8, q9, q14, q15, q80, q81, _⟩ := hok
          have hB1240 := bg hB1198 hg1229 nb
          have hz1241 := (nt hz1199 hg1229.size)
          have hk1242 := hk1200.grown hg1229 (fun k hk => ltl (hM1116 k hk) hz1199) nb
          have hk1243 := hk1201.grown hg1229 nb
          have hk1244 := hk1202.grown hg1229 nb
          have hk1245 := hk1203.grown hg1229 nb
          have hk1246 := hk1204.grown hg1229 nb
          have hk1247 := hk1205.grown hg1229 nb
          have hk1248 := hk1206.grown hg1229 nb
          have hk1249 := hk1207.grown hg1229 nb
          have hB1250 := bg hB0 hg3 nb
          have hlo1251 : w0.heap.size ≤ b7 := lob hbe11 hB1250.size
          have ap1252 : ¬ X1234 b7 := fun h => ((hx1235 _ h).2.elim (fun h => (h).elim (fun h => ((fun (hx : X0 b7) => nl hlo1251 (hX0 _ hx)))  h) (fun h => (hap1213)  h)) (fun h => nl h (hk1201.lt)))
          have hg1253 := (grown_trans hg9 hg15)
          have hB1254 := bg hB1250 hg1253 nb
          have hlo1255 : w0.heap.size ≤ b19 := lob hbe23 hB1254.size
          have ap1256 : ¬ X1234 b19 := fun h => ((hx1235 _ h).2.elim (fun h => (h).elim (fun h => ((fun (hx : X0 b19) => nl hlo1255 (hX0 _ hx)))  h) (fun h => (hap1215)  h)) (fun h => nl h (hk1202.lt)))
          have hB1257 := bg hB1254 hg21 nb
          have hlo1258 : w0.heap.size ≤ b25 := lob hbe29 hB1257.size
          have ap1259 : ¬ X1234 b25 := fun h => ((hx1235 _ h).2.elim (fun h => (h).elim (fun h => ((fun (hx : X0 b25) => nl hlo1258 (hX0 _ hx)))  h) (fun h => (hap1217)  h)) (fun h => nl h (hk1203.lt)))
          have hB1260 := bg hB1257 hg27 nb
          have hlo1261 : w0.heap.size ≤ b31 := lob hbe35 hB1260.size
          have ap1262 : ¬ X1234 b31 := fun h => ((hx1235 _ h).2.elim (fun h => (h).elim (fun h => ((fun (hx : X0 b31) => nl hlo1261 (hX0 _ hx)))  h) (fun h => (hap1219)  h)) (fun h => nl h (hk1204.lt)))
          have ap1263 : ¬ X1234 b49 := fun h => ((hx1235 _ h).2.elim (fun h => (h).elim (fun h => ((fun (hx : X0 b49) => nl hl561 (hX0 _ hx)))  h) (fun h => (hap1221)  h)) (fun h => nl h (hk1205.lt)))
          have ap1264 : ¬ X1234 b564 := fun h => ((hx1235 _ h).2.elim (fun h => (h).elim (fun h => ((fun (hx : X0 b564) => nl hlo644 (hX0 _ hx)))  h) (fun h => (hap1223)  h)) (fun h => nl h (hk1206.lt)))
          have hB1265 := bg hB837 hg839 nb
          have hlo1266 : w0.heap.size ≤ b848 := lob hbe852 hB1265.size
          have ap1267 : ¬ X1234 b848 := fun h => ((hx1235 _ h).2.elim (fun h => (h).elim (fun h => ((fun (hx : X0 b848) => nl hlo1266 (hX0 _ hx)))  h) (fun h => (hap1225)  h)) (fun h => nl h (hk1207.lt)))
          exact ⟨⟨_, hg1229, fun _ e => by cases e⟩, hd, hs, [(6, (bp b19)), (7, (bp b25)), (8, (bp b31)), (9, (bp b49)), (80, (.agg #[(.bool r1226.1.1), (.slice a1231 (List.length r1226.1.2) c1232)])), (81, (.agg #[(.int .i64 r1226.2.1), (.int .i64 r1226.2.2)]))], rfl, ⟨a1231, c1232, X1234, rfl, hB1240, hz1241, hk1242, hk1243, hk1244, hk1245, hk1246, hk1247, hk1248, hk1249, ho1233, hx1236, hx1237, nb1238, ap1252, ap1256, ap1259, ap1262, ap1263, ap1264, ap1267⟩, ⟨q6, q7, q8, q9, q80, q81, q14, q15, trivial⟩⟩
         ·simp at hp
        ·skip
         have hC1132 := Cls.refl w1112 [b49]
         refine gv_loadBox (t := 24) (b := b7) (t' := 24) (fr := (0, 0)) #[(.bool low_1.1), (.slice pa1_0 (List.length low_1.2) pc1_0)] [] (fun e => by cases e) rfl rfl rfl (by kernel_rfl) (by kernel_rfl) (by kernel_rfl) (by kernel_rfl) (inw1 fun w' hC' => (hC'.box hk1118 (nm_cons (Nat.ne_of_lt lt635) nm_nil))) rfl ?_
         refine gv_pureN 1 [76] [(76, (bp b49))] (by kernel_rfl) ?_
         have lt1133 := ltt lt636 lt827
         have lt1134 := ltt lt1133 lt864
         refine gv_loadBox (t := 24) (b := b848) (t' := 24) (fr := (0, 0)) #[(.bool j867.2.1), (.slice a1058 (List.length j867.2.2) c1059)] [] (fun e => by cases e) rfl rfl rfl (by kernel_rfl) (by kernel_rfl) (by kernel_rfl) (by kernel_rfl) (inw1 fun w' hC' => (hC'.box hk1130 (nm_cons (ng lt1134) nm_nil))) rfl ?_
         refine gv_nil <| gv_sub [6, 7, 8, 9, 75, 76, 77] (σ' := [(6, (bp b19)), (7, (bp b25)), (8, (bp b31)), (9, (bp b49)), (75, (.agg #[(.bool low_1.1), (.slice pa1_0 (List.length low_1.2) pc1_0)])), (76, (bp b49)), (77, (.agg #[(.bool j867.2.1), (.slice a1058 (List.length j867.2.2) c1059)]))]) (by kernel_rfl) ?_
         refine gv_goal fun a hd hs hok => ?_
         obtain ⟨q6, q7, q8, q9, q75, q76, q77, _⟩ := hok
         have hB1135 := bg hB1056 hg1113 nb
         have hk1136 := hr1060.grown hg1113 hx1061 nb
         exact ⟨rfl, hd, hs, [(6, (bp b19)), (7, (bp b25)), (8, (bp b31)), (9, (bp b49)), (75, (.agg #[(.bool low_1.1), (.slice pa1_0 (List.length low_1.2) pc1_0)])), (76, (bp b49)), (77, (.agg #[(.bool j867.2.1), (.slice a1058 (List.length j867.2.2) c1059)]))], rfl, ⟨rfl, hB1135, (Nat.le_refl _), hk1136, hk1118, hk1120, hk1122, hk1124, hk1126, hk1128, hk1130⟩, ⟨q6, q7, q8, q9, q75, q76, q77, trivial⟩⟩
        ·rintro σ B1456 w1455 bf1459 ⟨a1231, c1232, X1234, rfl, hB1462, hz1463, hk1464, hk1465, hk1466, hk1467, hk1468, hk1469, hk1470, hk1471, hk1472, hhX1473, hsX1474, hnb1475, hap1476, hap1477, hap1478, hap1479, hap1480, hap1481, hap1482⟩ hBl1457 hC1458 hb1460 hne1461
         obtain ⟨hBb1483, hb1484⟩ : B1456 (bf1459 0) ∧ Box w1455 (bf1459 0) 24 #[(.bool r1226.1.1), (.slice a1231 (List.length r1226.1.2) c1232)] := hb1460 0 _ rfl
         have hlo1485 := (hBl1457 _ hBb1483).1
         have ap1486 : ¬ X1058 (bf1459 0) := fun h => (fun k (h : X1058 k) (hb : B1456 k) => nl (hBl1457 k hb).1 (hM1114 k h)) _ h hBb1483
         have ap1487 : ¬ (· = b7) (bf1459 0) := fun h => (fun k (h : (· = b7) k) (hb : B1456 k) => nl (hBl1457 k hb).1 (hM1117 k h)) _ h hBb1483
         have ap1488 : ¬ (· = b19) (bf1459 0) := fun h => (fun k (h : (· = b19) k) (hb : B1456 k) => nl (hBl1457 k hb).1 (hM1119 k h)) _ h hBb1483
         have ap1489 : ¬ (· = b25) (bf1459 0) := fun h => (fun k (h : (· = b25) k) (hb : B1456 k) => nl (hBl1457 k hb).1 (hM1121 k h)) _ h hBb1483
         have ap1490 : ¬ (· = b31) (bf1459 0) := fun h => (fun k (h : (· = b31) k) (hb : B1456 k) => nl (hBl1457 k hb).1 (hM1123 k h)) _ h hBb1483
         have ap1491 : ¬ (· = b49) (bf1459 0) := fun h => (fun k (h : (· = b49) k) (hb : B1456 k) => nl (hBl1457 k hb).1 (hM1125 k h)) _ h hBb1483
         have ap1492 : ¬ (· = b564) (bf1459 0) := fun h => (fun k (h : (· = b564) k) (hb : B1456 k) => nl (hBl1457 k hb).1 (hM1127 k h)) _ h hBb1483
         have ap1493 : ¬ (· = b848) (bf1459 0) := fun h => (fun k (h : (· = b848) k) (hb : B1456 k) => nl (hBl1457 k hb).1 (hM1129 k h)) _ h hBb1483
         have ap1494 : ¬ X1234 (bf1459 0) := fun h => hnb1475 _ h hBb1483
         obtain ⟨hBb1495, hb1496⟩ : B1456 (bf1459 1) ∧ Box w1455 (bf1459 1) 29 #[(.int .i64 r1226.2.1), (.int .i64 r1226.2.2)] := hb1460 1 _ rfl
         have hlo1497 := (hBl1457 _ hBb1495).1
         have ap1498 : (bf1459 0) ≠ (bf1459 1) := hne1461 0 1 (by decide) (by decide) (by decide)
         have ap1499 : ¬ X1058 (bf1459 1) := fun h => (fun k (h : X1058 k) (hb : B1456 k) => nl (hBl1457 k hb).1 (hM1114 k h)) _ h hBb1495
         have ap1500 : ¬ (· = b7) (bf1459 1) := fun h => (fun k (h : (· = b7) k) (hb : B1456 k) => nl (hBl1457 k hb).1 (hM1117 k h)) _ h hBb1495
         have ap1501 : ¬ (· = b19) (bf1459 1) := fun h => (fun k (h : (· = b19) k) (hb : B1456 k) => nl (hBl1457 k hb).1 (hM1119 k h)) _ h hBb1495
         have ap1502 : ¬ (· = b25) (bf1459 1) := fun h => (fun k (h : (· = b25) k) (hb : B1456 k) => nl (hBl1457 k hb).1 (hM1121 k h)) _ h hBb1495
         have ap1503 : ¬ (· = b31) (bf1459 1) := fun h => (fun k (h : (· = b31) k) (hb : B1456 k) => nl (hBl1457 k hb).1 (hM1123 k h)) _ h hBb1495
         have ap1504 : ¬ (· = b49) (bf1459 1) := fun h => (fun k (h : (· = b49) k) (hb : B1456 k) => nl (hBl1457 k hb).1 (hM1125 k h)) _ h hBb1495
         have ap1505 : ¬ (· = b564) (bf1459 1) := fun h => (fun k (h : (· = b564) k) (hb : B1456 k) => nl (hBl1457 k hb).1 (hM1127 k h)) _ h hBb1495
         have ap1506 : ¬ (· = b848) (bf1459 1) := fun h => (fun k (h : (· = b848) k) (hb : B1456 k) => nl (hBl1457 k hb).1 (hM1129 k h)) _ h hBb1495
         have ap1507 : ¬ X1234 (bf1459 1) := fun h => hnb1475 _ h hBb1495
         have hB1509 := bg hB1056 hg1113 nb
         have hz1508 := hB1509.size
         refine gv_seq <| gv_drawA (by kernel_rfl) ?_
         intro w1510 hg1511
         refine gv_pre [1, 2, 3, 5] (bA 9 [1, 2, 3, 5]) 5 (by kernel_rfl) (by kernel_rfl) ?_
         clear hz1508 ap1507 ap1506 ap1505 ap1504 ap1503 ap1502 ap1501 ap1500 ap1499 ap1498 ap1493 ap1492 ap1487 ap1486 hb1460 hC1458 hk1130 hk1128 hk1126 hk1124 hk1122 hk1120 hk1118 hx1115 hg1113 hc1077 hb1076 hb1075 hb1074 hb1073 hb1072 hb1071 hb1070 ap1069 ap1068 ap1067 ap1066 ap1065 ap1064 ap1063 hx1061 hr1060 hB1056 lt865 lt864 lt830 lt827 lt637 lt636 lt635 lt633 lt631 lt629
         refine gv_pureN 4 [83, 84, 85, 87] [(85, (bp b49)), (87, (.agg #[(.int .i64 0), (.int .i64 0)]))] (by kernel_rfl) ?_
         refine gv_nil <| gv_goA ?_
         refine gv_stage (Cls w1510 [b19]) [0, 1, 2, 3, 4, 5, 6] [(0, some true), (4, some true), (6, some false)] (bA 9 [0, 1, 2, 3, 4, 5, 6]) 2 (by kernel_rfl) (by kernel_rfl) (Cls.refl _ _) ?_
         have hC1512 := Cls.refl w1510 [b19]
         have hk1513 := hb1484.grown hg1511 nb
         refine gv_loadBox (t := 24) (b := (bf1459 0)) (t' := 24) (fr := (0, 0)) #[(.bool r1226.1.1), (.slice a1231 (List.length r1226.1.2) c1232)] [] (fun e => by cases e) rfl rfl rfl (by kernel_rfl) (by kernel_rfl) (by kernel_rfl) (by kernel_rfl) (inw1 fun w' hC' => (hC'.box hk1513 (nm_cons ap1488 nm_nil))) rfl ?_
         have hk1514 := hk1469.grown hg1511 nb
         have lt1515 := ltt lt630 lt632
         have lt1516 := ltt lt1515 lt634
         refine gv_loadBox (t := 27) (b := b49) (t' := 81) (fr := (0, 0)) #[(.int .u64 r1152.2.1), (.int .u64 r1152.2.2)] [] (fun e => by cases e) rfl rfl rfl (by kernel_rfl) (by kernel_rfl) (by kernel_rfl) (by kernel_rfl) (inw1 fun w' hC' => (hC'.box hk1514 (nm_cons (ng lt1516) nm_nil))) rfl ?_
         have hk1521 := hk1466.grown hg1511 nb
         refine gv_store (t := 24) (b := b19) (off := 0) (v := (.agg #[(.bool r1226.1.1), (.slice a1231 (List.length r1226.1.2) c1232)])) (t' := 24) (cs := #[(.bool false), (.slice none (List.length ([] : List Int)) 0)]) #[(.bool r1226.1.1), (.slice a1231 (List.length r1226.1.2) c1232)] (by decide) rfl rfl (by kernel_rfl) (by kernel_rfl) (by kernel_rfl) (by intro u hu; simp [Value.cells] at hu; rcases hu with rfl | rfl <;> rfl) (show 0 + 2 ≤ 2 by decide) (by rfl) hk1521 ?_
         intro w1517 hg1518 hb1519 hz1520
         refine ⟨(fun _ => hC1512.grown hg1518 (rowm (List.Mem.head _))), ?_⟩
         refine gv_nil <| gv_goA ?_
         refine gv_stage (fun _ => True) [0, 1, 2, 3, 4, 5, 6, 7] [(7, some false)] (bA 9 [0, 1, 2, 3, 4, 5, 6, 7]) 1 (by kernel_rfl) (by kernel_rfl) trivial ?_
         have hk1526 := (hk1467.grown hg1511 nb).grown hg1518 (rowne (Nat.ne_of_lt lt630))
         refine gv_store (t := 27) (b := b25) (off := 0) (v := (.agg #[(.int .u64 r1152.2.1), (.int .u64 r1152.2.2)])) (t' := 27) (cs := #[(.int .u64 0), (.int .u64 0)]) #[(.int .u64 r1152.2.1), (.int .u64 r1152.2.2)] (by decide) rfl rfl (by kernel_rfl) (by kernel_rfl) (by kernel_rfl) (by intro u hu; simp [Value.cells] at hu; rcases hu with rfl | rfl <;> rfl) (show 0 + 2 ≤ 2 by decide) (by rfl) hk1526 ?_
         intro w1522 hg1523 hb1524 hz1525
         refine ⟨(fun _ => trivial), ?_⟩
         refine gv_nil <| gv_goA ?_
         refine gv_stage (fun _ => True) [0, 1, 2, 3, 4, 5, 6, 7, 8] [(8, some false)] (bA 9 [0, 1, 2, 3, 4, 5, 6, 7, 8]) 0 (by kernel_rfl) (by kernel_rfl) trivial ?_
         refine gv_sub [6, 7, 8, 87] (σ' := [(6, (bp b19)), (7, (bp b25)), (8, (bp b31)), (87, (.agg #[(.int .i64 0), (.int .i64 0)]))]) (by kernel_rfl) ?_
         have hk1531 := ((hk1468.grown hg1511 nb).grown hg1518 (rowne (Nat.ne_of_lt lt1515))).grown hg1523 (rowne (Nat.ne_of_lt lt632))
         refine gv_store (t := 29) (b := b31) (off := 0) (v := (.agg #[(.int .i64 0), (.int .i64 0)])) (t' := 29) (cs := #[(.int .i64 0), (.int .i64 0)]) #[(.int .i64 0), (.int .i64 0)] (by decide) rfl rfl (by kernel_rfl) (by kernel_rfl) (by kernel_rfl) (by intro u hu; simp [Value.cells] at hu; rcases hu with rfl | rfl <;> rfl) (show 0 + 2 ≤ 2 by decide) (by rfl) hk1531 ?_
         intro w1527 hg1528 hb1529 hz1530
         refine ⟨(fun _ => trivial), ?_⟩
         refine gv_nil <| gv_goA ?_
         refine gv_stageE (by kernel_rfl) ?_
         refine gv_cret ?_
         have e := sj h0; subst e
         have hk1532 := (hb1519.grown hg1523 (rowne (ng lt630))).grown hg1528 (rowne (ng lt1515))
         have hk1533 := hb1524.grown hg1528 (rowne (ng lt632))
         refine gv_ret (gv_done [(.agg #[(.bool r1226.1.1), (.slice a1231 (List.length r1226.1.2) c1232)]), (.agg #[(.int .u64 r1152.2.1), (.int .u64 r1152.2.2)]), (.agg #[(.int .i64 0), (.int .i64 0)])] rfl ⟨⟨⟨b19, 0, none⟩, (by kernel_rfl), run_loadVar_row w1527 b19 _ 24 _ _ _ hk1532 Try.underlying24 rfl (by kernel_rfl)⟩, ⟨⟨b25, 0, none⟩, (by kernel_rfl), run_loadVar_row w1527 b25 _ 27 _ _ _ hk1533 Try.underlying27 rfl (by kernel_rfl)⟩, ⟨⟨b31, 0, none⟩, (by kernel_rfl), run_loadVar_row w1527 b31 _ 29 _ _ _ hb1529 Try.underlying29 rfl (by kernel_rfl)⟩, trivial⟩ ?_)
         have hB1534 := bg hB1462 hg1511 nb
         have hg1535 := (grown_trans (grown_trans hg3 hg9) hg15)
         have hB1536 := bg hB0 hg1535 nb
         have hlo1537 : w0.heap.size ≤ b19 := lob hbe23 hB1536.size
         have hB1538 := bg hB1534 hg1518 (rowlo hlo1537)
         have hB1539 := bg hB1536 hg21 nb
         have hlo1540 : w0.heap.size ≤ b25 := lob hbe29 hB1539.size
         have hB1541 := bg hB1538 hg1523 (rowlo hlo1540)
         have hB1542 := bg hB1539 hg27 nb
         have hlo1543 : w0.heap.size ≤ b31 := lob hbe35 hB1542.size
         have hB1544 := bg hB1541 hg1528 (rowlo hlo1543)
         have hx1545 := ltx hhX1473 hg1511.size
         have hx1546 := ltx hx1545 hg1518.size
         have hx1547 := ltx hx1546 hg1523.size
         have hk1548 := (((hk1472.grown hg1511 hhX1473 nb).grown hg1518 hx1545 (rowne hap1477)).grown hg1523 hx1546 (rowne hap1478)).grown hg1528 hx1547 (rowne hap1479)
         have hx1549 := ltx hx1547 hg1528.size
         exact ⟨grown_of_below hB1544, a1231, c1232, X1234, rfl, hk1548, (fun k hk => ⟨hx1549 k hk, hsX1474 k hk⟩)⟩

theorem ref3_trim_ok (fuel : Nat) (pa0_0 : Option Addr) (pc0_0 : Nat) (a_0 : (List Int)) (w0 : World) (X0 : Nat → Prop) (hX0 : ∀ k, X0 k → k < w0.heap.size) (hpa0_0 : Rd (iE .i64) w0 X0 pa0_0 pc0_0 a_0) (r0 : (List Int)) (h0 : ref3_trim fuel a_0 = some r0) :
    Calls Try.prog 65 ([(.slice pa0_0 (List.length a_0) pc0_0)] : List Value).toArray w0 (Ret fun v w' => w0.grownBy w' none ∧ ∃ (a0_0r : Option Addr) (c0_0r : Nat), ∃ (X0_0r : Nat → Prop), v = tup [(.slice a0_0r (List.length r0) c0_0r)] ∧ Rd (iE .i64) w' X0_0r a0_0r c0_0r r0 ∧ (∀ k, X0_0r k → k < w'.heap.size ∧ (X0 k ∨ w0.heap.size ≤ k))) := by
 have hB0 : Below w0.heap.size w0 w0 := Below.refl _ _
 unfold ref3_trim at h0
 refine calls_run Try.func65 rfl Try.ntmps65 (by kernel_rfl) ?_
 refine gv_sub [0] (σ' := [(0, (.slice pa0_0 (List.length a_0) pc0_0))]) (by kernel_rfl) ?_
 refine gv_seq <| gv_region <| gv_pureN 1 [2] [] (by kernel_rfl) ?_
 refine gv_nil <| gv_seq <| bindE h0 ?_; clear h0; intro j1 h1 h0
 refine gv_cut_code (J := fun a w2 => ∃ (a0_0j : Option Addr) (c0_0j : Nat), Below w0.heap.size w0 w2 ∧ w0.heap.size ≤ w2.heap.size ∧ Rd (iE .i64) w0 X0 a0_0j c0_0j j1 ∧ a.defers = [] ∧ a.tmps.size = 21 ∧ Ok [(0, (.slice a0_0j (List.length j1) c0_0j))] a.tmps) ?_ ?_
 ·skip
  refine gv_block <| gv_loop (A := fun (s3 : (List Int)) a w4 => ∃ (a0_0j : Option Addr) (c0_0j : Nat), Below w0.heap.size w0 w4 ∧ w0.heap.size ≤ w4.heap.size ∧ Rd (iE .i64) w0 X0 a0_0j c0_0j s3 ∧ a.defers = [] ∧ a.tmps.size = 21 ∧ Ok [(0, (.slice a0_0j (List.length s3) c0_0j))] a.tmps) h1 ?_ ?_
  ·intro a hd hs hok
   exact ⟨pa0_0, pc0_0, hB0, (Nat.le_refl _), hpa0_0, hd, hs, ok_pick [0] hok (by kernel_rfl)⟩
  ·rintro s3 r2 h2 hR2 a w4 ⟨a7, c8, hB5, hz6, hp9, hd, hs, hok⟩
   refine gv_in ?_ hd hs hok
   clear hd hs hok
   refine gv_seq <| gv_seq <| gv_region <| bindE h2 ?_; clear h2; intro j10 h3 h2
   refine gv_cut_ops (J := fun a w11 => Below w0.heap.size w0 w11 ∧ w4.heap.size ≤ w11.heap.size ∧ a.defers = [] ∧ a.tmps.size = 21 ∧ Ok [(0, (.slice a7 (List.length s3) c8)), (14, (.bool j10))] a.tmps) ?_ ?_
   ·skip
    refine gv_pureN 4 [3, 4, 5, 6] [(6, (.bool (decide (((List.length s3 : Nat) : Int) > 0))))] (by kernel_rfl) ?_
    refine gv_split (s := 6) (g := (decide (((List.length s3 : Nat) : Int) > 0))) (by kernel_rfl) (fun hc12 => ?_) (fun hc12 => ?_)
    ·skip
     replace h3 := ite_t hc12 h3
     refine gv_pureN 4 [7, 8, 9, 10] [(7, (.slice a7 (List.length s3) c8)), (10, (.int .i64 (IntKind.i64.wrap (((List.length s3 : Nat) : Int) - 1))))] (by kernel_rfl) ?_
     refine bindE h3 ?_; clear h3; intro x13 hx14 h3
     refine gv_idxaddr (t := 47) (e := 3) (a := a7) (len := List.length s3) (cap := c8) (kk := .i64) (i := (IntKind.i64.wrap (((List.length s3 : Nat) : Int) - 1))) (sz := 1) [] (fun e => by cases e) rfl rfl rfl (by kernel_rfl) (by kernel_rfl) Try.underlying47 (by kernel_rfl) ((hp9.below hB5 hX0).has hx14) (idx_spec hx14).1 (idx_spec hx14).2.1 rfl ?_
     refine gv_load (t := 3) (A := (elemAddr a7 (((IntKind.i64.wrap (((List.length s3 : Nat) : Int) - 1))).toNat * 1))) (.int .i64 x13) [] (fun e => by cases e) rfl rfl rfl (by kernel_rfl) (by kernel_rfl) (by kernel_rfl) (inw0 ((hp9.below hB5 hX0).cell hx14)) rfl ?_
     refine gv_pureN 2 [13, 14] [(14, (.bool (x13 == 0)))] (by kernel_rfl) ?_
     refine gv_nil ?_
     have e := sj h3; subst e
     refine gv_goal fun a hd hs hok => ?_
     exact ⟨hB5, (Nat.le_refl _), hd, hs, ok_pick [0, 14] hok (by kernel_rfl)⟩
    ·skip
     replace h3 := ite_f hc12 h3
     refine gv_pureN 8 [7, 8, 9, 10, 11, 12, 13, 14] [(14, (.bool false))] (by kernel_rfl) ?_
     refine gv_nil ?_
     have e := sj h3; subst e
     refine gv_goal fun a hd hs hok => ?_
     exact ⟨hB5, (Nat.le_refl _), hd, hs, ok_pick [0, 14] hok (by kernel_rfl)⟩
   ·rintro a w11 ⟨hB15, hz16, hd, hs, hok⟩
    refine gv_in ?_ hd hs hok
    clear hd hs hok
    have hz17 := (nt hz6 hz16)
    refine gv_cond (b := j10) (by kernel_rfl) (fun hc18 => ?_) (fun hc18 => ?_)
    ·replace h2 := ite_t hc18 h2
     refine gv_skip <| gv_block <| gv_region <| gv_pureN 4 [15, 16, 17, 18] [(15, (.slice a7 (List.length s3) c8)), (18, (.int .i64 (IntKind.i64.wrap (((List.length s3 : Nat) : Int) - 1))))] (by kernel_rfl) ?_
     refine bindE h2 ?_; clear h2; intro x19 hx20 h2
     refine gv_ssl2 (iE .i64) (t := 47) (e := 3) (xs := s3) (a := a7) (cap := c8) (lo := none) (hi := (some (.int .i64 (IntKind.i64.wrap (((List.length s3 : Nat) : Int) - 1))))) 0 (IntKind.i64.wrap (((List.length s3 : Nat) : Int) - 1)) x19 (fun e => by cases e) rfl rfl rfl (by kernel_rfl) (by kernel_rfl) Try.underlying47 (by kernel_rfl) (.inl ⟨rfl, rfl⟩) (.inr ⟨_, rfl⟩) hx20 (hp9.below hB15 hX0).1 ?_
     intro a21 c22 hsub23
     have hp24 := hsub23 _ _ hp9
     refine gv_pureN 1 [0] [(0, (.slice a21 (List.length x19) c22))] (by kernel_rfl) ?_
     refine gv_nil <| gv_blk ?_
     have e := sj h2; subst e
     refine gv_goal fun a hd hs hok => ?_
     have hz25 := hz17
     exact ⟨x19, rfl, a21, c22, hB15, hz25, hp24, hd, hs, ok_pick [0] hok (by kernel_rfl)⟩
    ·replace h2 := ite_f hc18 h2
     refine gv_cexit <| gv_exit rfl ?_
     have e := sj h2; subst e
     replace h1 := congrArg some (hR2 _ rfl)
     have e := sj h1; subst e
     refine gv_goal fun a hd hs hok => ?_
     have hz26 := hz17
     exact ⟨a7, c8, hB15, hz26, hp9, hd, hs, ok_pick [0] hok (by kernel_rfl)⟩
 ·rintro a w2 ⟨a29, c30, hB27, hz28, hp31, hd, hs, hok⟩
  refine gv_in ?_ hd hs hok
  clear hd hs hok
  refine gv_seq <| gv_region <| gv_pureN 2 [2, 20] [(2, (.slice a29 (List.length j1) c30))] (by kernel_rfl) ?_
  refine gv_nil <| gv_cret ?_
  have e := sj h0; subst e
  refine gv_ret (gv_done [(.slice a29 (List.length j1) c30)] rfl ⟨(by kernel_rfl), trivial⟩ ?_)
  exact ⟨grown_of_below hB27, a29, c30, X0, rfl, (hp31.below hB27 hX0), (fun k hk => ⟨(fun k (hk : X0 k) => ltl (hX0 k hk) hB27.size) k hk, (fun k (hk : X0 k) => Or.inl hk) k hk⟩)⟩

theorem ref3_Of_ok (fuel : Nat) (pa0_0 : Option Addr) (pc0_0 : Nat) (limbs_0 : (List Int)) (w0 : World) (X0 : Nat → Prop) (hX0 : ∀ k, X0 k → k < w0.heap.size) (hpa0_0 : Rd (iE .u32) w0 X0 pa0_0 pc0_0 limbs_0) (r0 : (List Int)) (h0 : ref3_Of fuel limbs_0 = some r0) :
    Calls Try.prog 50 ([(.slice pa0_0 (List.length limbs_0) pc0_0)] : List Value).toArray w0 (Ret fun v w' => w0.grownBy w' none ∧ ∃ (a0_0r : Option Addr) (c0_0r : Nat), ∃ (X0_0r : Nat → Prop), v = tup [(.slice a0_0r (List.length r0) c0_0r)] ∧ Rd (iE .i64) w' X0_0r a0_0r c0_0r r0 ∧ (∀ k, X0_0r k → k < w'.heap.size ∧ (X0 k ∨ w0.heap.size ≤ k))) := by
 have hB0 : Below w0.heap.size w0 w0 := Below.refl _ _
 unfold ref3_Of at h0
 refine calls_run Try.func50 rfl Try.ntmps50 (by kernel_rfl) ?_
 refine gv_sub [0] (σ' := [(0, (.slice pa0_0 (List.length limbs_0) pc0_0))]) (by kernel_rfl) ?_
 refine gv_seq <| gv_region <| gv_pureN 1 [2] [] (by kernel_rfl) ?_
 refine gv_nil <| gv_seq <| gv_region <| gv_pureN 1 [3] [(3, (.slice none (List.length ([] : List Int)) 0))] (by kernel_rfl) ?_
 refine gv_nil <| gv_seq <| gv_seq <| gv_region <| gv_pureN 1 [4] [(4, (.int .i64 0))] (by kernel_rfl) ?_
 refine gv_nil <| bindE h0 ?_; clear h0; intro j1 h1 h0
 refine gv_cut_code (J := fun a w2 => ∃ (a3_0j : Option Addr) (c3_0j : Nat), Below w0.heap.size w0 w2 ∧ w0.heap.size ≤ w2.heap.size ∧ Own (iE .i64) 3 w2 (fun _ => False) a3_0j c3_0j j1 ∧ (∀ g, blk a3_0j = some g → w0.heap.size ≤ g) ∧ a.defers = [] ∧ a.tmps.size = 28 ∧ Ok [(3, (.slice a3_0j (List.length j1) c3_0j))] a.tmps) ?_ ?_
 ·skip
  refine gv_block <| gv_loop (A := fun (s3 : ((List Int) × Int)) a w4 => ∃ (a3_0j : Option Addr) (c3_0j : Nat), Below w0.heap.size w0 w4 ∧ w0.heap.size ≤ w4.heap.size ∧ Own (iE .i64) 3 w4 (fun _ => False) a3_0j c3_0j s3.1 ∧ (∀ g, blk a3_0j = some g → w0.heap.size ≤ g) ∧ a.defers = [] ∧ a.tmps.size = 28 ∧ Ok [(0, (.slice pa0_0 (List.length limbs_0) pc0_0)), (3, (.slice a3_0j (List.length s3.1) c3_0j)), (4, (.int .i64 s3.2))] a.tmps) h1 ?_ ?_
  ·intro a hd hs hok
   exact ⟨none, 0, hB0, (Nat.le_refl _), (Own.nil (iE .i64) 3 w0 (fun _ => False)), (fun _ h => by cases h), hd, hs, ok_pick [0, 3, 4] hok (by kernel_rfl)⟩
  ·rintro s3 r2 h2 hR2 a w4 ⟨a7, c8, hB5, hz6, ho9, hl10, hd, hs, hok⟩
   refine gv_in ?_ hd hs hok
   clear hd hs hok
   refine gv_seq <| gv_seq <| gv_region <| gv_pureN 4 [5, 6, 7, 8] [(8, (.bool (decide (s3.2 < ((List.length limbs_0 : Nat) : Int)))))] (by kernel_rfl) ?_
   refine gv_nil <| gv_cond (b := (decide (s3.2 < ((List.length limbs_0 : Nat) : Int)))) (by kernel_rfl) (fun hc11 => ?_) (fun hc11 => ?_)
   ·replace h2 := ite_t hc11 h2
    refine gv_skip <| gv_seq <| gv_block <| gv_drawA (by kernel_rfl) ?_
    intro w12 hg13
    refine gv_pre [0, 1, 2, 3, 7, 8, 9] (bA 16 [0, 1, 2, 3, 7, 8, 9]) 9 (by kernel_rfl) (by kernel_rfl) ?_
    refine gv_pureN 3 [11, 12, 13] [(11, (.slice a7 (List.length s3.1) c8)), (12, (.slice pa0_0 (List.length limbs_0) pc0_0)), (13, (.int .i64 s3.2))] (by kernel_rfl) ?_
    refine bindE h2 ?_; clear h2; intro x14 hx15 h2
    have hB16 := bg hB5 hg13 nb
    refine gv_idxaddr (t := 22) (e := 76) (a := pa0_0) (len := List.length limbs_0) (cap := pc0_0) (kk := .i64) (i := s3.2) (sz := 1) [] (fun e => by cases e) rfl rfl rfl (by kernel_rfl) (by kernel_rfl) Try.underlying22 (by kernel_rfl) ((hpa0_0.below hB16 hX0).has hx15) (idx_spec hx15).1 (idx_spec hx15).2.1 rfl ?_
    refine gv_pureN 2 [18, 19] [(18, (.slice pa0_0 (List.length limbs_0) pc0_0)), (19, (.int .i64 s3.2))] (by kernel_rfl) ?_
    refine bindE h2 ?_; clear h2; intro x17 hx18 h2
    refine gv_idxaddr (t := 22) (e := 76) (a := pa0_0) (len := List.length limbs_0) (cap := pc0_0) (kk := .i64) (i := s3.2) (sz := 1) [] (fun e => by cases e) rfl rfl rfl (by kernel_rfl) (by kernel_rfl) Try.underlying22 (by kernel_rfl) ((hpa0_0.below hB16 hX0).has hx18) (idx_spec hx18).1 (idx_spec hx18).2.1 rfl ?_
    refine gv_nil <| gv_goA ?_
    refine gv_stage (Cls w12 []) [0, 1, 2, 3, 4, 5, 6, 7, 8, 9, 10, 11, 12] [(4, some true), (5, some true), (6, some true), (10, some true), (11, some true), (12, some true)] (bA 16 [0, 1, 2, 3, 4, 5, 6, 7, 8, 9, 10, 11, 12]) 3 (by kernel_rfl) (by kernel_rfl) (Cls.refl _ _) ?_
    have hC19 := Cls.refl w12 []
    refine gv_load (t := 76) (A := (elemAddr pa0_0 ((s3.2).toNat * 1))) (.int .u32 x14) [] (fun e => by cases e) rfl rfl rfl (by kernel_rfl) (by kernel_rfl) (by kernel_rfl) (inw1 fun w' hC' => ((hC'.rd (hpa0_0.below hB16 hX0) (fun k (hk : X0 k) => ltl (hX0 k hk) hB16.size) nmx_nil).cell hx15)) rfl ?_
    refine gv_pureN 2 [16, 17] [(17, (.int .i64 (IntKind.i64.wrap (((x14).tmod 65536)))))] (by kernel_rfl) ?_
    refine gv_load (t := 76) (A := (elemAddr pa0_0 ((s3.2).toNat * 1))) (.int .u32 x17) [] (fun e => by cases e) rfl rfl rfl (by kernel_rfl) (by kernel_rfl) (by kernel_rfl) (inw1 fun w' hC' => ((hC'.rd (hpa0_0.below hB16 hX0) (fun k (hk : X0 k) => ltl (hX0 k hk) hB16.size) nmx_nil).cell hx18)) rfl ?_
    refine gv_pureN 2 [22, 23] [(23, (.int .i64 (IntKind.i64.wrap ((IntKind.u32.wrap ((x17).tdiv 65536))))))] (by kernel_rfl) ?_
    refine gv_nil <| gv_goA ?_
    refine gv_stage (fun _ => True) [0, 1, 2, 3, 4, 5, 6, 7, 8, 9, 10, 11, 12, 13] [(13, some false)] (bA 16 [0, 1, 2, 3, 4, 5, 6, 7, 8, 9, 10, 11, 12, 13]) 2 (by kernel_rfl) (by kernel_rfl) trivial ?_
    refine gv_new (fun b => .slice (some ⟨b, 0, none⟩) 2 2) #[(.int .i64 (IntKind.i64.wrap (((x14).tmod 65536)))), (.int .i64 (IntKind.i64.wrap ((IntKind.u32.wrap ((x17).tdiv 65536)))))] 3 (by decide) rfl rfl (by kernel_rfl) (by kernel_rfl) ?_
    intro b20 w21 hg22 hb23 hbe24 hz25
    refine ⟨(fun _ => trivial), ?_⟩
    have ho26 : Own (iE .i64) 3 w21 (fun _ => False) (some ⟨b20, 0, none⟩) 2 ([(IntKind.i64.wrap (((x14).tmod 65536))), (IntKind.i64.wrap ((IntKind.u32.wrap ((x17).tdiv 65536))))] : List Int) := Box.ownE hb23 ⟨[(.int .i64 (IntKind.i64.wrap (((x14).tmod 65536))))], [(.int .i64 (IntKind.i64.wrap ((IntKind.u32.wrap ((x17).tdiv 65536)))))], rfl, rfl, ⟨[(.int .i64 (IntKind.i64.wrap ((IntKind.u32.wrap ((x17).tdiv 65536)))))], [], rfl, rfl, rfl⟩⟩ (show 2 ≤ maxLen by decide) (fun h => h)
    have hl27 : ∀ g, blk (some ⟨b20, 0, none⟩) = some g → w0.heap.size ≤ g := loo hbe24 hB16.size
    refine gv_nil <| gv_goA ?_
    refine gv_stage (fun _ => True) [0, 1, 2, 3, 4, 5, 6, 7, 8, 9, 10, 11, 12, 13, 14] [(14, some false)] (bA 16 [0, 1, 2, 3, 4, 5, 6, 7, 8, 9, 10, 11, 12, 13, 14]) 1 (by kernel_rfl) (by kernel_rfl) trivial ?_
    refine bindE h2 ?_; clear h2; intro l31 hx32 h2
    have hg39 := (grown_trans hg13 hg22)
    have hk40 := ho9.grown hg39 (fun _ h => h.elim) nb
    refine gv_append (iE .i64) (t := 47) (ty := 47) (e := 3) (a := a7) (ax := (some ⟨b20, 0, none⟩)) (cap := c8) (cx := 2) (xs := s3.1) (ys := ([(IntKind.i64.wrap (((x14).tmod 65536))), (IntKind.i64.wrap ((IntKind.u32.wrap ((x17).tdiv 65536))))] : List Int)) l31 (X := (fun _ => False)) (Y := (fun k => blk (some ⟨b20, 0, none⟩) = some k)) (by decide) rfl rfl (by kernel_rfl) (by kernel_rfl) Try.underlying47 info3 hk40 (ho26.rd (Y := fun k => blk (some ⟨b20, 0, none⟩) = some k) (fun _ h => h.elim) (fun g e => e)) hx32 (.inr fun _ _ _ _ _ h => h) (fun _ h => h.elim) ?_
    intro a33 c34 w35 hg36 ho37 hk38
    refine ⟨(fun _ => trivial), ?_⟩
    have hB42 := bg hB16 hg22 nb
    have hl41 : ∀ g, blk a33 = some g → w0.heap.size ≤ g := blk_step hk38 hl10 hB42.size
    have hk44 := ho9.grown hg13 (fun _ h => h.elim) nb
    have ap45 : ∀ g, blk a7 = some g → ¬ (fun k => blk (some ⟨b20, 0, none⟩) = some k) g := fun g e hx => nl ((lowo hbe24) _ hx) ((fun k (hk : blk a7 = some k) => hk44.lt k hk) g e)
    have ap43 : ∀ g, blk a33 = some g → ¬ (fun k => blk (some ⟨b20, 0, none⟩) = some k) g := blk_neX hk38 ap45 (fun k (hk : blk (some ⟨b20, 0, none⟩) = some k) => ho26.lt k hk)
    have ap47 : ∀ g, blk (some ⟨b20, 0, none⟩) = some g → ¬ (fun k => blk a7 = some k) g := fun g e hx => nl ((lowo hbe24) g e) ((fun k (hk : blk a7 = some k) => hk44.lt k hk) _ hx)
    have ap46 : ∀ g, blk (some ⟨b20, 0, none⟩) = some g → ¬ (fun k => blk a33 = some k) g := fun g e h => blk_rev hk38 (fun h => ((ap47) g e) h) (ho26.lt g e) h
    refine gv_nil <| gv_goA ?_
    refine gv_pre [15] (bA 16 [0, 1, 2, 3, 4, 5, 6, 7, 8, 9, 10, 11, 12, 13, 14, 15]) 0 (by kernel_rfl) (by kernel_rfl) ?_
    refine gv_pureN 1 [3] [(3, (.slice a33 (List.length l31) c34))] (by kernel_rfl) ?_
    refine gv_nil <| gv_goA ?_
    refine gv_stageE (by kernel_rfl) ?_
    refine gv_blk <| gv_region <| gv_pureN 3 [4, 9, 10] [(4, (.int .i64 (IntKind.i64.wrap (s3.2 + 1))))] (by kernel_rfl) ?_
    refine gv_nil ?_
    have e := sj h2; subst e
    refine gv_goal fun a hd hs hok => ?_
    have hB48 := bg hB42 hg36 hl10
    have hz49 := (nt (nt (nt hz6 hg13.size) hg22.size) hg36.size)
    exact ⟨(l31, (IntKind.i64.wrap (s3.2 + 1))), rfl, a33, c34, hB48, hz49, ho37, hl41, hd, hs, ok_pick [0, 3, 4] hok (by kernel_rfl)⟩
   ·replace h2 := ite_f hc11 h2
    refine gv_cexit <| gv_exit rfl ?_
    have e := sj h2; subst e
    replace h1 := congrArg some (hR2 _ rfl)
    have e := sj h1; subst e
    refine gv_goal fun a hd hs hok => ?_
    have hz50 := hz6
    exact ⟨a7, c8, hB5, hz50, ho9, hl10, hd, hs, ok_pick [3] hok (by kernel_rfl)⟩
 ·rintro a w2 ⟨a53, c54, hB51, hz52, ho55, hl56, hd, hs, hok⟩
  refine gv_in ?_ hd hs hok
  clear hd hs hok
  refine gv_seq <| gv_region <| gv_pureN 1 [26] [(26, (.slice a53 (List.length j1) c54))] (by kernel_rfl) ?_
  refine bindE h0 ?_; clear h0; intro r57 hr58 h0
  refine gv_call0 (by kernel_rfl) rfl (by kernel_rfl) enters65 (ref3_trim_ok fuel a53 c54 j1 w2 (fun k => (fun k => blk a53 = some k) k) (fun k hk => (fun k (hk : blk a53 = some k) => ho55.lt k hk) k hk) ((ho55.rd (Y := fun k => blk a53 = some k) (fun _ h => h.elim) (fun g e => e)).wide (fun k hk => hk)) r57 hr58) ?_
  rintro v61 w59 ⟨hg60, a62, c63, X65, rfl, ho64, hx66⟩
  have hx67 : ∀ k, X65 k → k < w59.heap.size := fun k hk => (hx66 k hk).1
  have hx68 : ∀ k, X65 k → X0 k ∨ w0.heap.size ≤ k := fun k hk => (hx66 k hk).2.elim (fun h => (fun k (hk : blk a53 = some k) => Or.inr (hl56 k hk)) k h) (fun h => .inr (Nat.le_trans hB51.size h))
  refine gv_pureN 1 [2] [(2, (.slice a62 (List.length r57) c63))] (by kernel_rfl) ?_
  refine gv_nil <| gv_cret ?_
  have e := sj h0; subst e
  refine gv_ret (gv_done [(.slice a62 (List.length r57) c63)] rfl ⟨(by kernel_rfl), trivial⟩ ?_)
  have hB69 := bg hB51 hg60 nb
  exact ⟨grown_of_below hB69, a62, c63, X65, rfl, ho64, (fun k hk => ⟨hx67 k hk, hx68 k hk⟩)⟩

theorem ref3_IntOf_ok (fuel : Nat) (pa0_0 : Option Addr) (pc0_0 : Nat) (a_0 : (Bool × (List Int))) (w0 : World) (X0 : Nat → Prop) (hX0 : ∀ k, X0 k → k < w0.heap.size) (hpa0_0 : Rd (iE .u32) w0 X0 pa0_0 pc0_0 a_0.2) (r0 : (Bool × (List Int))) (h0 : ref3_IntOf fuel a_0 = some r0) :
    Calls Try.prog 20 ([(.agg #[(.bool a_0.1), (.slice pa0_0 (List.length a_0.2) pc0_0)])] : List Value).toArray w0 (Ret fun v w' => w0.grownBy w' none ∧ ∃ (a0_0r : Option Addr) (c0_0r : Nat), ∃ (X0_0r : Nat → Prop), v = tup [(.agg #[(.bool r0.1), (.slice a0_0r (List.length r0.2) c0_0r)])] ∧ Rd (iE .i64) w' X0_0r a0_0r c0_0r r0.2 ∧ (∀ k, X0_0r k → k < w'.heap.size ∧ (X0 k ∨ w0.heap.size ≤ k))) := by
 have hB0 : Below w0.heap.size w0 w0 := Below.refl _ _
 unfold ref3_IntOf at h0
 refine calls_run Try.func20 rfl Try.ntmps20 (by kernel_rfl) ?_
 refine gv_sub [0] (σ' := [(0, (.agg #[(.bool a_0.1), (.slice pa0_0 (List.length a_0.2) pc0_0)]))]) (by kernel_rfl) ?_
 refine gv_seq <| gv_region <| gv_new0 (fun b => .pointer (some ⟨b, 0, none⟩)) #[(.bool a_0.1), (.slice pa0_0 (List.length a_0.2) pc0_0)] 24 (by kernel_rfl) (by kernel_rfl) ?_
 intro b1 w2 hg3 hb4 hbe5 hz6
 refine gv_new0 (fun b => .pointer (some ⟨b, 0, none⟩)) #[(.bool false), (.slice none (List.length ([] : List Int)) 0)] 49 (by kernel_rfl) (by kernel_rfl) ?_
 intro b7 w8 hg9 hb10 hbe11 hz12
 refine gv_nil <| gv_seq <| gv_drawA (by kernel_rfl) ?_
 intro w13 hg14
 refine gv_pre [0, 2] (bA 7 [0, 2]) 5 (by kernel_rfl) (by kernel_rfl) ?_
 refine gv_pureN 2 [3, 5] [(3, (bp b1)), (5, (.pointer (some ⟨b1, 1, none⟩)))] (by kernel_rfl) ?_
 refine gv_nil <| gv_goA ?_
 refine gv_stage (Cls w13 []) [0, 1, 2, 3, 4] [(1, some true), (3, some true), (4, some false)] (bA 7 [0, 1, 2, 3, 4]) 2 (by kernel_rfl) (by kernel_rfl) (Cls.refl _ _) ?_
 have hC15 := Cls.refl w13 []
 have hg16 := (grown_trans hg9 hg14)
 have hk17 := hb4.grown hg16 nb
 refine gv_load (t := 4) (A := ⟨b1, 0, none⟩) (.bool a_0.1) [] (fun e => by cases e) rfl rfl rfl (by kernel_rfl) (by kernel_rfl) (by kernel_rfl) (inw1 fun w' hC' => ((hC'.box hk17 nm_nil).cell 0 rfl)) rfl ?_
 refine gv_load (t := 22) (A := ⟨b1, 1, none⟩) (.slice pa0_0 (List.length a_0.2) pc0_0) [] (fun e => by cases e) rfl rfl rfl (by kernel_rfl) (by kernel_rfl) (by kernel_rfl) (inw1 fun w' hC' => ((hC'.box hk17 nm_nil).cell 1 rfl)) rfl ?_
 refine bindE h0 ?_; clear h0; intro r18 hr19 h0
 have hg20 := (grown_trans hg3 hg16)
 have hB21 := bg hB0 hg20 nb
 refine gv_call (f := 50) (vs := [(.slice pa0_0 (List.length a_0.2) pc0_0)]) (cap := []) _ (by decide) rfl rfl rfl (by kernel_rfl) (by kernel_rfl) enters50 (ref3_Of_ok fuel pa0_0 pc0_0 a_0.2 w13 (fun k => X0 k) (fun k hk => (fun k (hk : X0 k) => ltl (hX0 k hk) hB21.size) k hk) ((hpa0_0.below hB21 hX0).wide (fun k hk => hk)) r18 hr19) ?_
 rintro v24 w22 ⟨hg23, a25, c26, X28, rfl, ho27, hx29⟩
 refine ⟨(fun _ => hC15.grown hg23 nb), ?_⟩
 have hx30 : ∀ k, X28 k → k < w22.heap.size := fun k hk => (hx29 k hk).1
 have hx31 : ∀ k, X28 k → X0 k ∨ w0.heap.size ≤ k := fun k hk => (hx29 k hk).2.elim (fun h => (fun k (hk : X0 k) => Or.inl hk) k h) (fun h => .inr (Nat.le_trans hB21.size h))
 refine gv_nil <| gv_goA ?_
 refine gv_pre [5] (bA 7 [0, 1, 2, 3, 4, 5]) 1 (by kernel_rfl) (by kernel_rfl) ?_
 refine gv_pureN 1 [8] [(8, (.agg #[(.bool a_0.1), (.slice a25 (List.length r18) c26)]))] (by kernel_rfl) ?_
 refine gv_nil <| gv_goA ?_
 refine gv_stage (fun _ => True) [0, 1, 2, 3, 4, 5, 6] [(6, some false)] (bA 7 [0, 1, 2, 3, 4, 5, 6]) 0 (by kernel_rfl) (by kernel_rfl) trivial ?_
 have hg36 := (grown_trans hg14 hg23)
 have hk37 := hb10.grown hg36 nb
 refine gv_store (t := 49) (b := b7) (off := 0) (v := (.agg #[(.bool a_0.1), (.slice a25 (List.length r18) c26)])) (t' := 49) (cs := #[(.bool false), (.slice none (List.length ([] : List Int)) 0)]) #[(.bool a_0.1), (.slice a25 (List.length r18) c26)] (by decide) rfl rfl (by kernel_rfl) (by kernel_rfl) (by kernel_rfl) (by intro u hu; simp [Value.cells] at hu; rcases hu with rfl | rfl <;> rfl) (show 0 + 2 ≤ 2 by decide) (by rfl) hk37 ?_
 intro w32 hg33 hb34 hz35
 refine ⟨(fun _ => trivial), ?_⟩
 refine gv_nil <| gv_goA ?_
 refine gv_stageE (by kernel_rfl) ?_
 refine gv_cret ?_
 have e := sj h0; subst e
 refine gv_ret (gv_done [(.agg #[(.bool a_0.1), (.slice a25 (List.length r18) c26)])] rfl ⟨⟨⟨b7, 0, none⟩, (by kernel_rfl), run_loadVar_row w32 b7 _ 49 _ _ _ hb34 Try.underlying49 rfl (by kernel_rfl)⟩, trivial⟩ ?_)
 have hB38 := bg hB21 hg23 nb
 have hB39 := bg hB0 hg3 nb
 have hlo40 : w0.heap.size ≤ b7 := lob hbe11 hB39.size
 have hB41 := bg hB38 hg33 (rowlo hlo40)
 have hk42 := hb10.grown hg14 nb
 have ap43 : ¬ X28 b7 := fun h => ((hx29 _ h).2.elim (fun h => ((fun (hx : X0 b7) => nl hlo40 (hX0 _ hx)))  h) (fun h => nl h (hk42.lt)))
 have hk44 := ho27.grown hg33 hx30 (rowne ap43)
 have hx45 := ltx hx30 hg33.size
 exact ⟨grown_of_below hB41, a25, c26, X28, rfl, hk44, (fun k hk => ⟨hx45 k hk, hx31 k hk⟩)⟩

theorem ref3_Binary_ok (fuel : Nat) (pa0_0 : Option Addr) (pc0_0 : Nat) (l_0 : (List Bool)) (w0 : World) (X0 : Nat → Prop) (hX0 : ∀ k, X0 k → k < w0.heap.size) (hpa0_0 : Rd tE w0 X0 pa0_0 pc0_0 l_0) (r0 : (List Int)) (h0 : ref3_Binary fuel l_0 = some r0) :
    Calls Try.prog 49 ([(.slice pa0_0 (List.length l_0) pc0_0)] : List Value).toArray w0 (Ret fun v w' => w0.grownBy w' none ∧ ∃ (a0_0r : Option Addr) (c0_0r : Nat), ∃ (X0_0r : Nat → Prop), v = tup [(.slice a0_0r (List.length r0) c0_0r)] ∧ Rd (iE .i64) w' X0_0r a0_0r c0_0r r0 ∧ (∀ k, X0_0r k → k < w'.heap.size ∧ (X0 k ∨ w0.heap.size ≤ k))) := by
 have hB0 : Below w0.heap.size w0 w0 := Below.refl _ _
 unfold ref3_Binary at h0
 refine calls_run Try.func49 rfl Try.ntmps49 (by kernel_rfl) ?_
 refine gv_sub [0] (σ' := [(0, (.slice pa0_0 (List.length l_0) pc0_0))]) (by kernel_rfl) ?_
 refine gv_seq <| gv_region <| gv_pureN 1 [2] [] (by kernel_rfl) ?_
 refine gv_nil <| gv_seq <| gv_region <| gv_pureN 1 [3] [(3, (.slice none (List.length ([] : List Int)) 0))] (by kernel_rfl) ?_
 refine gv_nil <| gv_seq <| gv_seq <| gv_region <| gv_pureN 1 [4] [(4, (.int .i64 0))] (by kernel_rfl) ?_
 refine gv_nil <| bindE h0 ?_; clear h0; intro j1 h1 h0
 refine gv_cut_code (J := fun a w2 => ∃ (a3_0j : Option Addr) (c3_0j : Nat), Below w0.heap.size w0 w2 ∧ w0.heap.size ≤ w2.heap.size ∧ Own (iE .i64) 3 w2 (fun _ => False) a3_0j c3_0j j1 ∧ (∀ g, blk a3_0j = some g → w0.heap.size ≤ g) ∧ a.defers = [] ∧ a.tmps.size = 41 ∧ Ok [(3, (.slice a3_0j (List.length j1) c3_0j))] a.tmps) ?_ ?_
 ·skip
  refine gv_block <| gv_loop (A := fun (s3 : ((List Int) × Int)) a w4 => ∃ (a3_0j : Option Addr) (c3_0j : Nat), Below w0.heap.size w0 w4 ∧ w0.heap.size ≤ w4.heap.size ∧ Own (iE .i64) 3 w4 (fun _ => False) a3_0j c3_0j s3.1 ∧ (∀ g, blk a3_0j = some g → w0.heap.size ≤ g) ∧ a.defers = [] ∧ a.tmps.size = 41 ∧ Ok [(0, (.slice pa0_0 (List.length l_0) pc0_0)), (3, (.slice a3_0j (List.length s3.1) c3_0j)), (4, (.int .i64 s3.2))] a.tmps) h1 ?_ ?_
  ·intro a hd hs hok
   exact ⟨none, 0, hB0, (Nat.le_refl _), (Own.nil (iE .i64) 3 w0 (fun _ => False)), (fun _ h => by cases h), hd, hs, ok_pick [0, 3, 4] hok (by kernel_rfl)⟩
  ·rintro s3 r2 h2 hR2 a w4 ⟨a7, c8, hB5, hz6, ho9, hl10, hd, hs, hok⟩
   refine gv_in ?_ hd hs hok
   clear hd hs hok
   refine gv_seq <| gv_seq <| gv_region <| gv_pureN 4 [7, 8, 9, 10] [(10, (.bool (decide (s3.2 < ((List.length l_0 : Nat) : Int)))))] (by kernel_rfl) ?_
   refine gv_nil <| gv_cond (b := (decide (s3.2 < ((List.length l_0 : Nat) : Int)))) (by kernel_rfl) (fun hc11 => ?_) (fun hc11 => ?_)
   ·replace h2 := ite_t hc11 h2
    refine gv_skip <| gv_seq <| gv_block <| gv_seq <| gv_region <| gv_pureN 1 [5] [(5, (.int .i64 0))] (by kernel_rfl) ?_
    refine gv_nil <| gv_seq <| gv_seq <| gv_region <| gv_pureN 1 [6] [(6, (.int .i64 15))] (by kernel_rfl) ?_
    refine gv_nil <| bindE h2 ?_; clear h2; intro j12 h3 h2
    refine gv_cut_code (J := fun a w13 => Below w0.heap.size w0 w13 ∧ w4.heap.size ≤ w13.heap.size ∧ Own (iE .i64) 3 w13 (fun _ => False) a7 c8 s3.1 ∧ a.defers = [] ∧ a.tmps.size = 41 ∧ Ok [(0, (.slice pa0_0 (List.length l_0) pc0_0)), (3, (.slice a7 (List.length s3.1) c8)), (4, (.int .i64 s3.2)), (5, (.int .i64 j12))] a.tmps) ?_ ?_
    ·skip
     refine gv_block <| gv_loop (A := fun (s14 : (Int × Int)) a w15 => Below w0.heap.size w0 w15 ∧ w4.heap.size ≤ w15.heap.size ∧ Own (iE .i64) 3 w15 (fun _ => False) a7 c8 s3.1 ∧ a.defers = [] ∧ a.tmps.size = 41 ∧ Ok [(0, (.slice pa0_0 (List.length l_0) pc0_0)), (3, (.slice a7 (List.length s3.1) c8)), (4, (.int .i64 s3.2)), (5, (.int .i64 s14.1)), (6, (.int .i64 s14.2))] a.tmps) h3 ?_ ?_
     ·intro a hd hs hok
      exact ⟨hB5, (Nat.le_refl _), ho9, hd, hs, ok_pick [0, 3, 4, 5, 6] hok (by kernel_rfl)⟩
     ·rintro s14 r4 h4 hR4 a w15 ⟨hB16, hz17, hk18, hd, hs, hok⟩
      refine gv_in ?_ hd hs hok
      clear hd hs hok
      refine gv_seq <| gv_seq <| gv_region <| gv_pureN 2 [13, 14] [(14, (.bool (decide (s14.2 ≥ 0))))] (by kernel_rfl) ?_
      refine gv_nil <| gv_cond (b := (decide (s14.2 ≥ 0))) (by kernel_rfl) (fun hc19 => ?_) (fun hc19 => ?_)
      ·replace h4 := ite_t hc19 h4
       refine gv_skip <| gv_seq <| gv_block <| gv_seq <| gv_region <| gv_pureN 3 [5, 17, 18] [(5, (.int .i64 (IntKind.i64.wrap (s14.1 * 2))))] (by kernel_rfl) ?_
       refine gv_nil <| gv_seq <| gv_region <| bindE h4 ?_; clear h4; intro j20 h5 h4
       refine gv_cut_ops (J := fun a w21 => Below w0.heap.size w0 w21 ∧ w15.heap.size ≤ w21.heap.size ∧ Own (iE .i64) 3 w21 (fun _ => False) a7 c8 s3.1 ∧ a.defers = [] ∧ a.tmps.size = 41 ∧ Ok [(0, (.slice pa0_0 (List.length l_0) pc0_0)), (3, (.slice a7 (List.length s3.1) c8)), (4, (.int .i64 s3.2)), (5, (.int .i64 (IntKind.i64.wrap (s14.1 * 2)))), (6, (.int .i64 s14.2)), (32, (.bool j20))] a.tmps) ?_ ?_
       ·skip
        refine gv_pureN 7 [19, 20, 21, 22, 23, 24, 25] [(25, (.bool (decide ((IntKind.i64.wrap (s3.2 + s14.2)) < ((List.length l_0 : Nat) : Int)))))] (by kernel_rfl) ?_
        refine gv_split (s := 25) (g := (decide ((IntKind.i64.wrap (s3.2 + s14.2)) < ((List.length l_0 : Nat) : Int)))) (by kernel_rfl) (fun hc22 => ?_) (fun hc22 => ?_)
        ·skip
         replace h5 := ite_t hc22 h5
         refine gv_pureN 4 [26, 27, 28, 29] [(26, (.slice pa0_0 (List.length l_0) pc0_0)), (29, (.int .i64 (IntKind.i64.wrap (s3.2 + s14.2))))] (by kernel_rfl) ?_
         refine bindE h5 ?_; clear h5; intro x23 hx24 h5
         refine gv_idxaddr (t := 67) (e := 4) (a := pa0_0) (len := List.length l_0) (cap := pc0_0) (kk := .i64) (i := (IntKind.i64.wrap (s3.2 + s14.2))) (sz := 1) [] (fun e => by cases e) rfl rfl rfl (by kernel_rfl) (by kernel_rfl) Try.underlying67 (by kernel_rfl) ((hpa0_0.below hB16 hX0).has hx24) (idx_spec hx24).1 (idx_spec hx24).2.1 rfl ?_
         refine gv_load (t := 4) (A := (elemAddr pa0_0 (((IntKind.i64.wrap (s3.2 + s14.2))).toNat * 1))) (.bool x23) [] (fun e => by cases e) rfl rfl rfl (by kernel_rfl) (by kernel_rfl) (by kernel_rfl) (inw0 ((hpa0_0.below hB16 hX0).cell hx24)) rfl ?_
         refine gv_pureN 1 [32] [(32, (.bool x23))] (by kernel_rfl) ?_
         refine gv_nil ?_
         have e := sj h5; subst e
         refine gv_goal fun a hd hs hok => ?_
         exact ⟨hB16, (Nat.le_refl _), hk18, hd, hs, ok_pick [0, 3, 4, 5, 6, 32] hok (by kernel_rfl)⟩
        ·skip
         replace h5 := ite_f hc22 h5
         refine gv_pureN 7 [26, 27, 28, 29, 30, 31, 32] [(32, (.bool false))] (by kernel_rfl) ?_
         refine gv_nil ?_
         have e := sj h5; subst e
         refine gv_goal fun a hd hs hok => ?_
         exact ⟨hB16, (Nat.le_refl _), hk18, hd, hs, ok_pick [0, 3, 4, 5, 6, 32] hok (by kernel_rfl)⟩
       ·rintro a w21 ⟨hB25, hz26, hk27, hd, hs, hok⟩
        refine gv_in ?_ hd hs hok
        clear hd hs hok
        have hz28 := (nt hz17 hz26)
        clear hz26 hc19 hk18 hz17 hB16 hc11 ho9 hB5
        refine bindE h4 ?_; clear h4; intro j29 h5 h4
        refine gv_cut_code (J := fun a w30 => Below w0.heap.size w0 w30 ∧ w21.heap.size ≤ w30.heap.size ∧ Own (iE .i64) 3 w30 (fun _ => False) a7 c8 s3.1 ∧ a.defers = [] ∧ a.tmps.size = 41 ∧ Ok [(0, (.slice pa0_0 (List.length l_0) pc0_0)), (3, (.slice a7 (List.length s3.1) c8)), (4, (.int .i64 s3.2)), (5, (.int .i64 j29)), (6, (.int .i64 s14.2))] a.tmps) ?_ ?_
        ·skip
         refine gv_cond (b := j20) (by kernel_rfl) (fun hc31 => ?_) (fun hc31 => ?_)
         ·replace h5 := ite_t hc31 h5
          refine gv_region <| gv_pureN 3 [5, 33, 34] [(5, (.int .i64 (IntKind.i64.wrap ((IntKind.i64.wrap (s14.1 * 2)) + 1))))] (by kernel_rfl) ?_
          refine bindE h5 ?_; clear h5; intro n32 hn33 h5
          refine gv_name (s := 5) (v := (.int .i64 (IntKind.i64.wrap ((IntKind.i64.wrap (s14.1 * 2)) + 1)))) (v' := (.int .i64 n32)) (by kernel_rfl) (congrArg (Value.int .i64) (sj hn33)) ?_
          refine gv_nil ?_
          have e := sj h5; subst e
          refine gv_goal fun a hd hs hok => ?_
          exact ⟨hB25, (Nat.le_refl _), hk27, hd, hs, ok_pick [0, 3, 4, 5, 6] hok (by kernel_rfl)⟩
         ·replace h5 := ite_f hc31 h5
          refine gv_skip ?_
          have e := sj h5; subst e
          refine gv_goal fun a hd hs hok => ?_
          exact ⟨hB25, (Nat.le_refl _), hk27, hd, hs, ok_pick [0, 3, 4, 5, 6] hok (by kernel_rfl)⟩
        ·rintro a w30 ⟨hB34, hz35, hk36, hd, hs, hok⟩
         refine gv_in ?_ hd hs hok
         clear hd hs hok
         have hz37 := (nt hz28 hz35)
         clear hz35 hz28 hk27 hB25
         refine gv_blk <| gv_region <| gv_pureN 3 [6, 15, 16] [(6, (.int .i64 (IntKind.i64.wrap (s14.2 - 1))))] (by kernel_rfl) ?_
         refine gv_nil ?_
         have e := sj h4; subst e
         refine gv_goal fun a hd hs hok => ?_
         have hz38 := hz37
         exact ⟨(j29, (IntKind.i64.wrap (s14.2 - 1))), rfl, hB34, hz38, hk36, hd, hs, ok_pick [0, 3, 4, 5, 6] hok (by kernel_rfl)⟩
      ·replace h4 := ite_f hc19 h4
       refine gv_cexit <| gv_exit rfl ?_
       have e := sj h4; subst e
       replace h3 := congrArg some (hR4 _ rfl)
       have e := sj h3; subst e
       refine gv_goal fun a hd hs hok => ?_
       have hz39 := hz17
       exact ⟨hB16, hz39, hk18, hd, hs, ok_pick [0, 3, 4, 5] hok (by kernel_rfl)⟩
    ·rintro a w13 ⟨hB40, hz41, hk42, hd, hs, hok⟩
     refine gv_in ?_ hd hs hok
     clear hd hs hok
     have hz43 := (nt hz6 hz41)
     clear hz41 hc11 ho9 hz6 hB5
     refine gv_region <| gv_pureN 2 [35, 36] [(35, (.slice a7 (List.length s3.1) c8)), (36, (.int .i64 j12))] (by kernel_rfl) ?_
     refine gv_new0 (fun b => .slice (some ⟨b, 0, none⟩) 1 1) #[(.int .i64 j12)] 3 (by kernel_rfl) (by kernel_rfl) ?_
     intro b44 w45 hg46 hb47 hbe48 hz49
     have ho50 : Own (iE .i64) 3 w45 (fun _ => False) (some ⟨b44, 0, none⟩) 1 ([j12] : List Int) := Box.ownE hb47 ⟨[(.int .i64 j12)], [], rfl, rfl, rfl⟩ (show 1 ≤ maxLen by decide) (fun h => h)
     have hl51 : ∀ g, blk (some ⟨b44, 0, none⟩) = some g → w0.heap.size ≤ g := loo hbe48 hB40.size
     refine bindE h2 ?_; clear h2; intro l55 hx56 h2
     have hk63 := hk42.grown hg46 (fun _ h => h.elim) nb
     refine gv_append (iE .i64) (t := 47) (ty := 47) (e := 3) (a := a7) (ax := (some ⟨b44, 0, none⟩)) (cap := c8) (cx := 1) (xs := s3.1) (ys := ([j12] : List Int)) l55 (X := (fun _ => False)) (Y := (fun k => blk (some ⟨b44, 0, none⟩) = some k)) (by decide) rfl rfl (by kernel_rfl) (by kernel_rfl) Try.underlying47 info3 hk63 (ho50.rd (Y := fun k => blk (some ⟨b44, 0, none⟩) = some k) (fun _ h => h.elim) (fun g e => e)) hx56 (.inr fun _ _ _ _ _ h => h) (fun _ h => h.elim) ?_
     intro a57 c58 w59 hg60 ho61 hk62
     refine ⟨(fun e => by cases e), ?_⟩
     have hB65 := bg hB40 hg46 nb
     have hl64 : ∀ g, blk a57 = some g → w0.heap.size ≤ g := blk_step hk62 hl10 hB65.size
     have ap67 : ∀ g, blk a7 = some g → ¬ (fun k => blk (some ⟨b44, 0, none⟩) = some k) g := fun g e hx => nl ((lowo hbe48) _ hx) ((fun k (hk : blk a7 = some k) => hk42.lt k hk) g e)
     have ap66 : ∀ g, blk a57 = some g → ¬ (fun k => blk (some ⟨b44, 0, none⟩) = some k) g := blk_neX hk62 ap67 (fun k (hk : blk (some ⟨b44, 0, none⟩) = some k) => ho50.lt k hk)
     have ap69 : ∀ g, blk (some ⟨b44, 0, none⟩) = some g → ¬ (fun k => blk a7 = some k) g := fun g e hx => nl ((lowo hbe48) g e) ((fun k (hk : blk a7 = some k) => hk42.lt k hk) _ hx)
     have ap68 : ∀ g, blk (some ⟨b44, 0, none⟩) = some g → ¬ (fun k => blk a57 = some k) g := fun g e h => blk_rev hk62 (fun h => ((ap69) g e) h) (ho50.lt g e) h
     refine gv_pureN 1 [3] [(3, (.slice a57 (List.length l55) c58))] (by kernel_rfl) ?_
     refine gv_nil <| gv_blk <| gv_region <| gv_pureN 3 [4, 11, 12] [(4, (.int .i64 (IntKind.i64.wrap (s3.2 + 16))))] (by kernel_rfl) ?_
     refine gv_nil ?_
     have e := sj h2; subst e
     refine gv_goal fun a hd hs hok => ?_
     have hB70 := bg hB65 hg60 hl10
     have hz71 := (nt (nt hz43 hg46.size) hg60.size)
     exact ⟨(l55, (IntKind.i64.wrap (s3.2 + 16))), rfl, a57, c58, hB70, hz71, ho61, hl64, hd, hs, ok_pick [0, 3, 4] hok (by kernel_rfl)⟩
   ·replace h2 := ite_f hc11 h2
    refine gv_cexit <| gv_exit rfl ?_
    have e := sj h2; subst e
    replace h1 := congrArg some (hR2 _ rfl)
    have e := sj h1; subst e
    refine gv_goal fun a hd hs hok => ?_
    have hz72 := hz6
    exact ⟨a7, c8, hB5, hz72, ho9, hl10, hd, hs, ok_pick [3] hok (by kernel_rfl)⟩
 ·rintro a w2 ⟨a75, c76, hB73, hz74, ho77, hl78, hd, hs, hok⟩
  refine gv_in ?_ hd hs hok
  clear hd hs hok
  refine gv_seq <| gv_region <| gv_pureN 1 [39] [(39, (.slice a75 (List.length j1) c76))] (by kernel_rfl) ?_
  refine bindE h0 ?_; clear h0; intro r79 hr80 h0
  refine gv_call0 (by kernel_rfl) rfl (by kernel_rfl) enters65 (ref3_trim_ok fuel a75 c76 j1 w2 (fun k => (fun k => blk a75 = some k) k) (fun k hk => (fun k (hk : blk a75 = some k) => ho77.lt k hk) k hk) ((ho77.rd (Y := fun k => blk a75 = some k) (fun _ h => h.elim) (fun g e => e)).wide (fun k hk => hk)) r79 hr80) ?_
  rintro v83 w81 ⟨hg82, a84, c85, X87, rfl, ho86, hx88⟩
  have hx89 : ∀ k, X87 k → k < w81.heap.size := fun k hk => (hx88 k hk).1
  have hx90 : ∀ k, X87 k → X0 k ∨ w0.heap.size ≤ k := fun k hk => (hx88 k hk).2.elim (fun h => (fun k (hk : blk a75 = some k) => Or.inr (hl78 k hk)) k h) (fun h => .inr (Nat.le_trans hB73.size h))
  refine gv_pureN 1 [2] [(2, (.slice a84 (List.length r79) c85))] (by kernel_rfl) ?_
  refine gv_nil <| gv_cret ?_
  have e := sj h0; subst e
  refine gv_ret (gv_done [(.slice a84 (List.length r79) c85)] rfl ⟨(by kernel_rfl), trivial⟩ ?_)
  have hB91 := bg hB73 hg82 nb
  exact ⟨grown_of_below hB91, a84, c85, X87, rfl, ho86, (fun k hk => ⟨hx89 k hk, hx90 k hk⟩)⟩

theorem ref3_Number_ok (fuel : Nat) (n_0 : Int) (w0 : World)  (r0 : (Bool × (List Int))) (h0 : ref3_Number fuel n_0 = some r0) :
    Calls Try.prog 25 ([(.int .i64 n_0)] : List Value).toArray w0 (Ret fun v w' => w0.grownBy w' none ∧ ∃ (a0_0r : Option Addr) (c0_0r : Nat), ∃ (X0_0r : Nat → Prop), v = tup [(.agg #[(.bool r0.1), (.slice a0_0r (List.length r0.2) c0_0r)])] ∧ Rd (iE .i64) w' X0_0r a0_0r c0_0r r0.2 ∧ (∀ k, X0_0r k → k < w'.heap.size ∧ ((fun _ => False) k ∨ w0.heap.size ≤ k))) := by
 have hB0 : Below w0.heap.size w0 w0 := Below.refl _ _
 unfold ref3_Number at h0
 refine calls_run Try.func25 rfl Try.ntmps25 (by kernel_rfl) ?_
 refine gv_sub [0] (σ' := [(0, (.int .i64 n_0))]) (by kernel_rfl) ?_
 refine gv_seq <| gv_region <| gv_new0 (fun b => .pointer (some ⟨b, 0, none⟩)) #[(.bool false), (.slice none (List.length ([] : List Int)) 0)] 49 (by kernel_rfl) (by kernel_rfl) ?_
 intro b1 w2 hg3 hb4 hbe5 hz6
 refine gv_nil <| gv_seq <| gv_region <| gv_pureN 1 [3] [(3, (.slice none (List.length ([] : List Bool)) 0))] (by kernel_rfl) ?_
 refine gv_nil <| gv_seq <| gv_region <| gv_pureN 3 [4, 5, 6] [(4, (.bool (decide (n_0 < 0))))] (by kernel_rfl) ?_
 refine gv_nil <| gv_seq <| bindE h0 ?_; clear h0; intro j7 h1 h0
 refine gv_cut_code (J := fun a w8 => ∃ (a3_0j : Option Addr) (c3_0j : Nat), Below w0.heap.size w0 w8 ∧ w2.heap.size ≤ w8.heap.size ∧ Own tE 4 w8 (fun _ => False) a3_0j c3_0j j7 ∧ (∀ g, blk a3_0j = some g → w0.heap.size ≤ g) ∧ (∀ g, blk a3_0j = some g → ¬ (· = b1) g) ∧ ¬ (fun k => blk a3_0j = some k) b1 ∧ Box w8 b1 49 #[(.bool false), (.slice none (List.length ([] : List Int)) 0)] ∧ a.defers = [] ∧ a.tmps.size = 21 ∧ Ok [(2, (bp b1)), (3, (.slice a3_0j (List.length j7) c3_0j)), (4, (.bool (decide (n_0 < 0))))] a.tmps) ?_ ?_
 ·skip
  refine gv_block <| gv_loop (A := fun (s9 : (Int × (List Bool))) a w10 => ∃ (a3_0j : Option Addr) (c3_0j : Nat), Below w0.heap.size w0 w10 ∧ w2.heap.size ≤ w10.heap.size ∧ Own tE 4 w10 (fun _ => False) a3_0j c3_0j s9.2 ∧ (∀ g, blk a3_0j = some g → w0.heap.size ≤ g) ∧ (∀ g, blk a3_0j = some g → ¬ (· = b1) g) ∧ ¬ (fun k => blk a3_0j = some k) b1 ∧ Box w10 b1 49 #[(.bool false), (.slice none (List.length ([] : List Int)) 0)] ∧ a.defers = [] ∧ a.tmps.size = 21 ∧ Ok [(0, (.int .i64 s9.1)), (2, (bp b1)), (3, (.slice a3_0j (List.length s9.2) c3_0j)), (4, (.bool (decide (n_0 < 0))))] a.tmps) h1 ?_ ?_
  ·intro a hd hs hok
   have hB11 := bg hB0 hg3 nb
   exact ⟨none, 0, hB11, (Nat.le_refl _), (Own.nil tE 4 w2 (fun _ => False)), (fun _ h => by cases h), (fun _ h => by cases h), (fun h => by cases h), hb4, hd, hs, ok_pick [0, 2, 3, 4] hok (by kernel_rfl)⟩
  ·rintro s9 r2 h2 hR2 a w10 ⟨a14, c15, hB12, hz13, ho16, hl17, ap18, ap19, hb20, hd, hs, hok⟩
   refine gv_in ?_ hd hs hok
   clear hd hs hok
   refine gv_seq <| gv_seq <| gv_region <| gv_pureN 2 [7, 8] [(8, (.bool (s9.1 != 0)))] (by kernel_rfl) ?_
   refine gv_nil <| gv_cond (b := (s9.1 != 0)) (by kernel_rfl) (fun hc21 => ?_) (fun hc21 => ?_)
   ·replace h2 := ite_t hc21 h2
    refine gv_skip <| gv_block <| gv_seq <| gv_region <| gv_pureN 4 [9, 10, 11, 12] [(9, (.slice a14 (List.length s9.2) c15)), (12, (.bool (((s9.1).tmod 2) != 0)))] (by kernel_rfl) ?_
    refine gv_new0 (fun b => .slice (some ⟨b, 0, none⟩) 1 1) #[(.bool (((s9.1).tmod 2) != 0))] 4 (by kernel_rfl) (by kernel_rfl) ?_
    intro b22 w23 hg24 hb25 hbe26 hz27
    have ho28 : Own tE 4 w23 (fun _ => False) (some ⟨b22, 0, none⟩) 1 ([(((s9.1).tmod 2) != 0)] : List Bool) := Box.ownE hb25 ⟨[(.bool (((s9.1).tmod 2) != 0))], [], rfl, rfl, rfl⟩ (show 1 ≤ maxLen by decide) (fun h => h)
    have hl29 : ∀ g, blk (some ⟨b22, 0, none⟩) = some g → w0.heap.size ≤ g := loo hbe26 hB12.size
    refine bindE h2 ?_; clear h2; intro l33 hx34 h2
    have hk41 := ho16.grown hg24 (fun _ h => h.elim) nb
    refine gv_append tE (t := 67) (ty := 67) (e := 4) (a := a14) (ax := (some ⟨b22, 0, none⟩)) (cap := c15) (cx := 1) (xs := s9.2) (ys := ([(((s9.1).tmod 2) != 0)] : List Bool)) l33 (X := (fun _ => False)) (Y := (fun k => blk (some ⟨b22, 0, none⟩) = some k)) (by decide) rfl rfl (by kernel_rfl) (by kernel_rfl) Try.underlying67 info4 hk41 (ho28.rd (Y := fun k => blk (some ⟨b22, 0, none⟩) = some k) (fun _ h => h.elim) (fun g e => e)) hx34 (.inr fun _ _ _ _ _ h => h) (fun _ h => h.elim) ?_
    intro a35 c36 w37 hg38 ho39 hk40
    refine ⟨(fun e => by cases e), ?_⟩
    have hB43 := bg hB12 hg24 nb
    have hl42 : ∀ g, blk a35 = some g → w0.heap.size ≤ g := blk_step hk40 hl17 hB43.size
    have hk45 := hb20.grown hg24 nb
    have ap44 : ∀ g, blk a35 = some g → ¬ (· = b1) g := blk_neX hk40 ap18 (ltb hk45)
    have ap46 : ¬ (fun k => blk a35 = some k) b1 := fun h => blk_rev hk40 (fun h => (ap19) h) (hk45.lt) h
    have ap48 : ∀ g, blk a14 = some g → ¬ (fun k => blk (some ⟨b22, 0, none⟩) = some k) g := fun g e hx => nl ((lowo hbe26) _ hx) ((fun k (hk : blk a14 = some k) => ho16.lt k hk) g e)
    have ap47 : ∀ g, blk a35 = some g → ¬ (fun k => blk (some ⟨b22, 0, none⟩) = some k) g := blk_neX hk40 ap48 (fun k (hk : blk (some ⟨b22, 0, none⟩) = some k) => ho28.lt k hk)
    have ap50 : ∀ g, blk (some ⟨b22, 0, none⟩) = some g → ¬ (fun k => blk a14 = some k) g := fun g e hx => nl ((lowo hbe26) g e) ((fun k (hk : blk a14 = some k) => ho16.lt k hk) _ hx)
    have ap49 : ∀ g, blk (some ⟨b22, 0, none⟩) = some g → ¬ (fun k => blk a35 = some k) g := fun g e h => blk_rev hk40 (fun h => ((ap50) g e) h) (ho28.lt g e) h
    refine gv_pureN 1 [3] [(3, (.slice a35 (List.length l33) c36))] (by kernel_rfl) ?_
    refine gv_nil <| gv_region <| gv_pureN 3 [0, 15, 16] [(0, (.int .i64 (IntKind.i64.wrap ((s9.1).tdiv 2))))] (by kernel_rfl) ?_
    refine gv_nil <| gv_blk ?_
    have e := sj h2; subst e
    refine gv_goal fun a hd hs hok => ?_
    have hB51 := bg hB43 hg38 hl17
    have hz52 := (nt (nt hz13 hg24.size) hg38.size)
    have hk53 := hk45.grown hg38 ap18
    exact ⟨((IntKind.i64.wrap ((s9.1).tdiv 2)), l33), rfl, a35, c36, hB51, hz52, ho39, hl42, ap44, ap46, hk53, hd, hs, ok_pick [0, 2, 3, 4] hok (by kernel_rfl)⟩
   ·replace h2 := ite_f hc21 h2
    refine gv_cexit <| gv_exit rfl ?_
    have e := sj h2; subst e
    replace h1 := congrArg some (hR2 _ rfl)
    have e := sj h1; subst e
    refine gv_goal fun a hd hs hok => ?_
    have hz54 := hz13
    exact ⟨a14, c15, hB12, hz54, ho16, hl17, ap18, ap19, hb20, hd, hs, ok_pick [2, 3, 4] hok (by kernel_rfl)⟩
 ·rintro a w8 ⟨a57, c58, hB55, hz56, ho59, hl60, ap61, ap62, hb63, hd, hs, hok⟩
  refine gv_in ?_ hd hs hok
  clear hd hs hok
  clear hz56 hz6 hb4 hg3
  refine gv_seq <| gv_region <| gv_pureN 2 [17, 18] [(17, (.bool (decide (n_0 < 0)))), (18, (.slice a57 (List.length j7) c58))] (by kernel_rfl) ?_
  refine bindE h0 ?_; clear h0; intro r64 hr65 h0
  refine gv_call0 (by kernel_rfl) rfl (by kernel_rfl) enters49 (ref3_Binary_ok fuel a57 c58 j7 w8 (fun k => (fun k => blk a57 = some k) k) (fun k hk => (fun k (hk : blk a57 = some k) => ho59.lt k hk) k hk) ((ho59.rd (Y := fun k => blk a57 = some k) (fun _ h => h.elim) (fun g e => e)).wide (fun k hk => hk)) r64 hr65) ?_
  rintro v68 w66 ⟨hg67, a69, c70, X72, rfl, ho71, hx73⟩
  have hx74 : ∀ k, X72 k → k < w66.heap.size := fun k hk => (hx73 k hk).1
  have hx75 : ∀ k, X72 k → (fun _ => False) k ∨ w0.heap.size ≤ k := fun k hk => (hx73 k hk).2.elim (fun h => (fun k (hk : blk a57 = some k) => Or.inr (hl60 k hk)) k h) (fun h => .inr (Nat.le_trans hB55.size h))
  refine gv_pureN 1 [20] [(20, (.agg #[(.bool (decide (n_0 < 0))), (.slice a69 (List.length r64) c70)]))] (by kernel_rfl) ?_
  have hk80 := hb63.grown hg67 nb
  refine gv_store0 49 0 (.agg #[(.bool (decide (n_0 < 0))), (.slice a69 (List.length r64) c70)]) #[(.bool (decide (n_0 < 0))), (.slice a69 (List.length r64) c70)] hk80 (by kernel_rfl) (by kernel_rfl) (by kernel_rfl) ?_
  intro w76 hg77 hb78 hz79
  refine gv_nil <| gv_cret ?_
  have e := sj h0; subst e
  refine gv_ret (gv_done [(.agg #[(.bool (decide (n_0 < 0))), (.slice a69 (List.length r64) c70)])] rfl ⟨⟨⟨b1, 0, none⟩, (by kernel_rfl), run_loadVar_row w76 b1 _ 49 _ _ _ hb78 Try.underlying49 rfl (by kernel_rfl)⟩, trivial⟩ ?_)
  have hB81 := bg hB55 hg67 nb
  have hlo82 : w0.heap.size ≤ b1 := lob hbe5 hB0.size
  have hB83 := bg hB81 hg77 (rowlo hlo82)
  have ap84 : ¬ X72 b1 := fun h => ((hx73 _ h).2.elim (fun h => (ap62)  h) (fun h => nl h (hb63.lt)))
  have hk85 := ho71.grown hg77 hx74 (rowne ap84)
  have hx86 := ltx hx74 hg77.size
  exact ⟨grown_of_below hB83, a69, c70, X72, rfl, hk85, (fun k hk => ⟨hx86 k hk, hx75 k hk⟩)⟩

theorem ref3_Plus_ok (fuel : Nat) (pa0_0 : Option Addr) (pc0_0 : Nat) (a_0 : (List Int)) (pa1_0 : Option Addr) (pc1_0 : Nat) (b_1 : (List Int)) (w0 : World) (X0 : Nat → Prop) (hX0 : ∀ k, X0 k → k < w0.heap.size) (hpa0_0 : Rd (iE .i64) w0 X0 pa0_0 pc0_0 a_0) (hpa1_0 : Rd (iE .i64) w0 X0 pa1_0 pc1_0 b_1) (r0 : (List Int)) (h0 : ref3_Plus fuel a_0 b_1 = some r0) :
    Calls Try.prog 53 ([(.slice pa0_0 (List.length a_0) pc0_0), (.slice pa1_0 (List.length b_1) pc1_0)] : List Value).toArray w0 (Ret fun v w' => w0.grownBy w' none ∧ ∃ (a0_0r : Option Addr) (c0_0r : Nat), ∃ (X0_0r : Nat → Prop), v = tup [(.slice a0_0r (List.length r0) c0_0r)] ∧ Rd (iE .i64) w' X0_0r a0_0r c0_0r r0 ∧ (∀ k, X0_0r k → k < w'.heap.size ∧ (X0 k ∨ w0.heap.size ≤ k))) := by
 have hB0 : Below w0.heap.size w0 w0 := Below.refl _ _
 unfold ref3_Plus at h0
 refine calls_run Try.func53 rfl Try.ntmps53 (by kernel_rfl) ?_
 refine gv_sub [0, 1] (σ' := [(0, (.slice pa0_0 (List.length a_0) pc0_0)), (1, (.slice pa1_0 (List.length b_1) pc1_0))]) (by kernel_rfl) ?_
 refine gv_seq <| gv_region <| gv_pureN 1 [4] [] (by kernel_rfl) ?_
 refine gv_nil <| gv_seq <| gv_region <| gv_pureN 1 [5] [(5, (.slice none (List.length ([] : List Int)) 0))] (by kernel_rfl) ?_
 refine gv_nil <| gv_seq <| gv_region <| gv_pureN 1 [6] [(6, (.int .i64 0))] (by kernel_rfl) ?_
 refine gv_nil <| gv_seq <| gv_seq <| gv_region <| gv_pureN 1 [7] [(7, (.int .i64 0))] (by kernel_rfl) ?_
 refine gv_nil <| bindE h0 ?_; clear h0; intro j1 h1 h0
 refine gv_cut_code (J := fun a w2 => ∃ (a5_0j : Option Addr) (c5_0j : Nat), Below w0.heap.size w0 w2 ∧ w0.heap.size ≤ w2.heap.size ∧ Own (iE .i64) 3 w2 (fun _ => False) a5_0j c5_0j j1 ∧ (∀ g, blk a5_0j = some g → w0.heap.size ≤ g) ∧ a.defers = [] ∧ a.tmps.size = 53 ∧ Ok [(5, (.slice a5_0j (List.length j1) c5_0j))] a.tmps) ?_ ?_
 ·skip
  refine gv_block <| gv_loop (A := fun (s3 : ((List Int) × Int × Int)) a w4 => ∃ (a5_0j : Option Addr) (c5_0j : Nat), Below w0.heap.size w0 w4 ∧ w0.heap.size ≤ w4.heap.size ∧ Own (iE .i64) 3 w4 (fun _ => False) a5_0j c5_0j s3.1 ∧ (∀ g, blk a5_0j = some g → w0.heap.size ≤ g) ∧ a.defers = [] ∧ a.tmps.size = 53 ∧ Ok [(0, (.slice pa0_0 (List.length a_0) pc0_0)), (1, (.slice pa1_0 (List.length b_1) pc1_0)), (5, (.slice a5_0j (List.length s3.1) c5_0j)), (6, (.int .i64 s3.2.1)), (7, (.int .i64 s3.2.2))] a.tmps) h1 ?_ ?_
  ·intro a hd hs hok
   exact ⟨none, 0, hB0, (Nat.le_refl _), (Own.nil (iE .i64) 3 w0 (fun _ => False)), (fun _ h => by cases h), hd, hs, ok_pick [0, 1, 5, 6, 7] hok (by kernel_rfl)⟩
  ·rintro s3 r2 h2 hR2 a w4 ⟨a7, c8, hB5, hz6, ho9, hl10, hd, hs, hok⟩
   refine gv_in ?_ hd hs hok
   clear hd hs hok
   refine gv_seq <| gv_seq <| gv_region <| gv_cut_ops (J := fun a w11 => w4 = w11 ∧ a.defers = [] ∧ a.tmps.size = 53 ∧ Ok [(0, (.slice pa0_0 (List.length a_0) pc0_0)), (1, (.slice pa1_0 (List.length b_1) pc1_0)), (5, (.slice a7 (List.length s3.1) c8)), (6, (.int .i64 s3.2.1)), (7, (.int .i64 s3.2.2)), (21, (.bool ((decide (s3.2.2 < ((List.length a_0 : Nat) : Int))) || ((decide (s3.2.2 < ((List.length b_1 : Nat) : Int))) || (decide (s3.2.1 > 0))))))] a.tmps) ?_ ?_
   ·skip
    refine gv_pureN 5 [8, 9, 10, 11, 12] [(12, (.bool (decide (s3.2.2 < ((List.length a_0 : Nat) : Int)))))] (by kernel_rfl) ?_
    refine gv_split (s := 12) (g := (decide (s3.2.2 < ((List.length a_0 : Nat) : Int)))) (by kernel_rfl) (fun hc12 => ?_) (fun hc12 => ?_)
    ·skip
     refine gv_pureN 9 [13, 14, 15, 16, 17, 18, 19, 20, 21] [(21, (.bool true))] (by kernel_rfl) ?_
     refine gv_nil <| gv_sub [0, 1, 5, 6, 7, 21] (σ' := [(0, (.slice pa0_0 (List.length a_0) pc0_0)), (1, (.slice pa1_0 (List.length b_1) pc1_0)), (5, (.slice a7 (List.length s3.1) c8)), (6, (.int .i64 s3.2.1)), (7, (.int .i64 s3.2.2)), (21, (.bool true))]) (by kernel_rfl) ?_
     refine gv_goal fun a hd hs hok => ⟨rfl, hd, hs, ?_⟩
     obtain ⟨q0, q1, q5, q6, q7, q21, _⟩ := hok
     exact ⟨q0, q1, q5, q6, q7, (by rw [hc12]; exact q21), trivial⟩
    ·skip
     refine gv_pureN 6 [13, 14, 15, 16, 17, 18] [(18, (.bool (decide (s3.2.2 < ((List.length b_1 : Nat) : Int)))))] (by kernel_rfl) ?_
     refine gv_split (s := 18) (g := (decide (s3.2.2 < ((List.length b_1 : Nat) : Int)))) (by kernel_rfl) (fun hc13 => ?_) (fun hc13 => ?_)
     ·skip
      refine gv_pureN 3 [19, 20, 21] [(21, (.bool true))] (by kernel_rfl) ?_
      refine gv_nil <| gv_sub [0, 1, 5, 6, 7, 21] (σ' := [(0, (.slice pa0_0 (List.length a_0) pc0_0)), (1, (.slice pa1_0 (List.length b_1) pc1_0)), (5, (.slice a7 (List.length s3.1) c8)), (6, (.int .i64 s3.2.1)), (7, (.int .i64 s3.2.2)), (21, (.bool true))]) (by kernel_rfl) ?_
      refine gv_goal fun a hd hs hok => ⟨rfl, hd, hs, ?_⟩
      obtain ⟨q0, q1, q5, q6, q7, q21, _⟩ := hok
      exact ⟨q0, q1, q5, q6, q7, (by rw [hc12, hc13]; exact q21), trivial⟩
     ·skip
      refine gv_pureN 3 [19, 20, 21] [(21, (.bool (decide (s3.2.1 > 0))))] (by kernel_rfl) ?_
      refine gv_nil <| gv_sub [0, 1, 5, 6, 7, 21] (σ' := [(0, (.slice pa0_0 (List.length a_0) pc0_0)), (1, (.slice pa1_0 (List.length b_1) pc1_0)), (5, (.slice a7 (List.length s3.1) c8)), (6, (.int .i64 s3.2.1)), (7, (.int .i64 s3.2.2)), (21, (.bool (decide (s3.2.1 > 0))))]) (by kernel_rfl) ?_
      refine gv_goal fun a hd hs hok => ⟨rfl, hd, hs, ?_⟩
      obtain ⟨q0, q1, q5, q6, q7, q21, _⟩ := hok
      exact ⟨q0, q1, q5, q6, q7, (by rw [hc12, hc13]; exact q21), trivial⟩
   ·rintro a w11 ⟨e, hd, hs, hok⟩; subst e
    refine gv_in ?_ hd hs hok
    clear hd hs hok
    refine gv_cond (b := ((decide (s3.2.2 < ((List.length a_0 : Nat) : Int))) || ((decide (s3.2.2 < ((List.length b_1 : Nat) : Int))) || (decide (s3.2.1 > 0))))) (by kernel_rfl) (fun hc14 => ?_) (fun hc14 => ?_)
    ·replace h2 := ite_t hc14 h2
     refine gv_skip <| gv_seq <| gv_block <| gv_seq <| gv_seq <| gv_region <| gv_pureN 4 [24, 25, 26, 27] [(27, (.bool (decide (s3.2.2 < ((List.length a_0 : Nat) : Int)))))] (by kernel_rfl) ?_
     refine gv_nil <| bindE h2 ?_; clear h2; intro j15 h3 h2
     refine gv_cut_code (J := fun a w16 => Below w0.heap.size w0 w16 ∧ w4.heap.size ≤ w16.heap.size ∧ Own (iE .i64) 3 w16 (fun _ => False) a7 c8 s3.1 ∧ a.defers = [] ∧ a.tmps.size = 53 ∧ Ok [(0, (.slice pa0_0 (List.length a_0) pc0_0)), (1, (.slice pa1_0 (List.length b_1) pc1_0)), (5, (.slice a7 (List.length s3.1) c8)), (6, (.int .i64 j15)), (7, (.int .i64 s3.2.2))] a.tmps) ?_ ?_
     ·skip
      refine gv_cond (b := (decide (s3.2.2 < ((List.length a_0 : Nat) : Int)))) (by kernel_rfl) (fun hc17 => ?_) (fun hc17 => ?_)
      ·replace h3 := ite_t hc17 h3
       refine gv_region <| gv_pureN 3 [28, 29, 30] [(28, (.int .i64 s3.2.1)), (29, (.slice pa0_0 (List.length a_0) pc0_0)), (30, (.int .i64 s3.2.2))] (by kernel_rfl) ?_
       refine bindE h3 ?_; clear h3; intro x18 hx19 h3
       refine gv_idxaddr (t := 47) (e := 3) (a := pa0_0) (len := List.length a_0) (cap := pc0_0) (kk := .i64) (i := s3.2.2) (sz := 1) [] (fun e => by cases e) rfl rfl rfl (by kernel_rfl) (by kernel_rfl) Try.underlying47 (by kernel_rfl) ((hpa0_0.below hB5 hX0).has hx19) (idx_spec hx19).1 (idx_spec hx19).2.1 rfl ?_
       refine gv_load (t := 3) (A := (elemAddr pa0_0 ((s3.2.2).toNat * 1))) (.int .i64 x18) [] (fun e => by cases e) rfl rfl rfl (by kernel_rfl) (by kernel_rfl) (by kernel_rfl) (inw0 ((hpa0_0.below hB5 hX0).cell hx19)) rfl ?_
       refine gv_pureN 2 [6, 33] [(6, (.int .i64 (IntKind.i64.wrap (s3.2.1 + x18))))] (by kernel_rfl) ?_
       refine gv_nil ?_
       have e := sj h3; subst e
       refine gv_goal fun a hd hs hok => ?_
       exact ⟨hB5, (Nat.le_refl _), ho9, hd, hs, ok_pick [0, 1, 5, 6, 7] hok (by kernel_rfl)⟩
      ·replace h3 := ite_f hc17 h3
       refine gv_skip ?_
       have e := sj h3; subst e
       refine gv_goal fun a hd hs hok => ?_
       exact ⟨hB5, (Nat.le_refl _), ho9, hd, hs, ok_pick [0, 1, 5, 6, 7] hok (by kernel_rfl)⟩
     ·rintro a w16 ⟨hB20, hz21, hk22, hd, hs, hok⟩
      refine gv_in ?_ hd hs hok
      clear hd hs hok
      have hz23 := (nt hz6 hz21)
      clear hz21 hc14 ho9 hz6 hB5
      refine gv_seq <| gv_seq <| gv_region <| gv_pureN 4 [34, 35, 36, 37] [(37, (.bool (decide (s3.2.2 < ((List.length b_1 : Nat) : Int)))))] (by kernel_rfl) ?_
      refine gv_nil <| bindE h2 ?_; clear h2; intro j24 h3 h2
      refine gv_cut_code (J := fun a w25 => Below w0.heap.size w0 w25 ∧ w16.heap.size ≤ w25.heap.size ∧ Own (iE .i64) 3 w25 (fun _ => False) a7 c8 s3.1 ∧ a.defers = [] ∧ a.tmps.size = 53 ∧ Ok [(0, (.slice pa0_0 (List.length a_0) pc0_0)), (1, (.slice pa1_0 (List.length b_1) pc1_0)), (5, (.slice a7 (List.length s3.1) c8)), (6, (.int .i64 j24)), (7, (.int .i64 s3.2.2))] a.tmps) ?_ ?_
      ·skip
       refine gv_cond (b := (decide (s3.2.2 < ((List.length b_1 : Nat) : Int)))) (by kernel_rfl) (fun hc26 => ?_) (fun hc26 => ?_)
       ·replace h3 := ite_t hc26 h3
        refine gv_region <| gv_pureN 3 [38, 39, 40] [(38, (.int .i64 j15)), (39, (.slice pa1_0 (List.length b_1) pc1_0)), (40, (.int .i64 s3.2.2))] (by kernel_rfl) ?_
        refine bindE h3 ?_; clear h3; intro x27 hx28 h3
        refine gv_idxaddr (t := 47) (e := 3) (a := pa1_0) (len := List.length b_1) (cap := pc1_0) (kk := .i64) (i := s3.2.2) (sz := 1) [] (fun e => by cases e) rfl rfl rfl (by kernel_rfl) (by kernel_rfl) Try.underlying47 (by kernel_rfl) ((hpa1_0.below hB20 hX0).has hx28) (idx_spec hx28).1 (idx_spec hx28).2.1 rfl ?_
        refine gv_load (t := 3) (A := (elemAddr pa1_0 ((s3.2.2).toNat * 1))) (.int .i64 x27) [] (fun e => by cases e) rfl rfl rfl (by kernel_rfl) (by kernel_rfl) (by kernel_rfl) (inw0 ((hpa1_0.below hB20 hX0).cell hx28)) rfl ?_
        refine gv_pureN 2 [6, 43] [(6, (.int .i64 (IntKind.i64.wrap (j15 + x27))))] (by kernel_rfl) ?_
        refine gv_nil ?_
        have e := sj h3; subst e
        refine gv_goal fun a hd hs hok => ?_
        exact ⟨hB20, (Nat.le_refl _), hk22, hd, hs, ok_pick [0, 1, 5, 6, 7] hok (by kernel_rfl)⟩
       ·replace h3 := ite_f hc26 h3
        refine gv_skip ?_
        have e := sj h3; subst e
        refine gv_goal fun a hd hs hok => ?_
        exact ⟨hB20, (Nat.le_refl _), hk22, hd, hs, ok_pick [0, 1, 5, 6, 7] hok (by kernel_rfl)⟩
      ·rintro a w25 ⟨hB29, hz30, hk31, hd, hs, hok⟩
       refine gv_in ?_ hd hs hok
       clear hd hs hok
       have hz32 := (nt hz23 hz30)
       clear hz30 hz23 hk22 hB20
       refine gv_seq <| gv_region <| gv_pureN 3 [44, 45, 46] [(44, (.slice a7 (List.length s3.1) c8)), (46, (.int .i64 ((j24).tmod 65536)))] (by kernel_rfl) ?_
       refine gv_new0 (fun b => .slice (some ⟨b, 0, none⟩) 1 1) #[(.int .i64 ((j24).tmod 65536))] 3 (by kernel_rfl) (by kernel_rfl) ?_
       intro b33 w34 hg35 hb36 hbe37 hz38
       have ho39 : Own (iE .i64) 3 w34 (fun _ => False) (some ⟨b33, 0, none⟩) 1 ([((j24).tmod 65536)] : List Int) := Box.ownE hb36 ⟨[(.int .i64 ((j24).tmod 65536))], [], rfl, rfl, rfl⟩ (show 1 ≤ maxLen by decide) (fun h => h)
       have hl40 : ∀ g, blk (some ⟨b33, 0, none⟩) = some g → w0.heap.size ≤ g := loo hbe37 hB29.size
       refine bindE h2 ?_; clear h2; intro l44 hx45 h2
       have hk52 := hk31.grown hg35 (fun _ h => h.elim) nb
       refine gv_append (iE .i64) (t := 47) (ty := 47) (e := 3) (a := a7) (ax := (some ⟨b33, 0, none⟩)) (cap := c8) (cx := 1) (xs := s3.1) (ys := ([((j24).tmod 65536)] : List Int)) l44 (X := (fun _ => False)) (Y := (fun k => blk (some ⟨b33, 0, none⟩) = some k)) (by decide) rfl rfl (by kernel_rfl) (by kernel_rfl) Try.underlying47 info3 hk52 (ho39.rd (Y := fun k => blk (some ⟨b33, 0, none⟩) = some k) (fun _ h => h.elim) (fun g e => e)) hx45 (.inr fun _ _ _ _ _ h => h) (fun _ h => h.elim) ?_
       intro a46 c47 w48 hg49 ho50 hk51
       refine ⟨(fun e => by cases e), ?_⟩
       have hB54 := bg hB29 hg35 nb
       have hl53 : ∀ g, blk a46 = some g → w0.heap.size ≤ g := blk_step hk51 hl10 hB54.size
       have ap56 : ∀ g, blk a7 = some g → ¬ (fun k => blk (some ⟨b33, 0, none⟩) = some k) g := fun g e hx => nl ((lowo hbe37) _ hx) ((fun k (hk : blk a7 = some k) => hk31.lt k hk) g e)
       have ap55 : ∀ g, blk a46 = some g → ¬ (fun k => blk (some ⟨b33, 0, none⟩) = some k) g := blk_neX hk51 ap56 (fun k (hk : blk (some ⟨b33, 0, none⟩) = some k) => ho39.lt k hk)
       have ap58 : ∀ g, blk (some ⟨b33, 0, none⟩) = some g → ¬ (fun k => blk a7 = some k) g := fun g e hx => nl ((lowo hbe37) g e) ((fun k (hk : blk a7 = some k) => hk31.lt k hk) _ hx)
       have ap57 : ∀ g, blk (some ⟨b33, 0, none⟩) = some g → ¬ (fun k => blk a46 = some k) g := fun g e h => blk_rev hk51 (fun h => ((ap58) g e) h) (ho39.lt g e) h
       refine gv_pureN 1 [5] [(5, (.slice a46 (List.length l44) c47))] (by kernel_rfl) ?_
       refine gv_nil <| gv_region <| gv_pureN 3 [6, 49, 50] [(6, (.int .i64 (IntKind.i64.wrap ((j24).tdiv 65536))))] (by kernel_rfl) ?_
       refine gv_nil <| gv_blk <| gv_region <| gv_pureN 3 [7, 22, 23] [(7, (.int .i64 (IntKind.i64.wrap (s3.2.2 + 1))))] (by kernel_rfl) ?_
       refine gv_nil ?_
       have e := sj h2; subst e
       refine gv_goal fun a hd hs hok => ?_
       have hB59 := bg hB54 hg49 hl10
       have hz60 := (nt (nt hz32 hg35.size) hg49.size)
       exact ⟨(l44, (IntKind.i64.wrap ((j24).tdiv 65536)), (IntKind.i64.wrap (s3.2.2 + 1))), rfl, a46, c47, hB59, hz60, ho50, hl53, hd, hs, ok_pick [0, 1, 5, 6, 7] hok (by kernel_rfl)⟩
    ·replace h2 := ite_f hc14 h2
     refine gv_cexit <| gv_exit rfl ?_
     have e := sj h2; subst e
     replace h1 := congrArg some (hR2 _ rfl)
     have e := sj h1; subst e
     refine gv_goal fun a hd hs hok => ?_
     have hz61 := hz6
     exact ⟨a7, c8, hB5, hz61, ho9, hl10, hd, hs, ok_pick [5] hok (by kernel_rfl)⟩
 ·rintro a w2 ⟨a64, c65, hB62, hz63, ho66, hl67, hd, hs, hok⟩
  refine gv_in ?_ hd hs hok
  clear hd hs hok
  refine gv_seq <| gv_region <| gv_pureN 1 [51] [(51, (.slice a64 (List.length j1) c65))] (by kernel_rfl) ?_
  refine bindE h0 ?_; clear h0; intro r68 hr69 h0
  refine gv_call0 (by kernel_rfl) rfl (by kernel_rfl) enters65 (ref3_trim_ok fuel a64 c65 j1 w2 (fun k => (fun k => blk a64 = some k) k) (fun k hk => (fun k (hk : blk a64 = some k) => ho66.lt k hk) k hk) ((ho66.rd (Y := fun k => blk a64 = some k) (fun _ h => h.elim) (fun g e => e)).wide (fun k hk => hk)) r68 hr69) ?_
  rintro v72 w70 ⟨hg71, a73, c74, X76, rfl, ho75, hx77⟩
  have hx78 : ∀ k, X76 k → k < w70.heap.size := fun k hk => (hx77 k hk).1
  have hx79 : ∀ k, X76 k → X0 k ∨ w0.heap.size ≤ k := fun k hk => (hx77 k hk).2.elim (fun h => (fun k (hk : blk a64 = some k) => Or.inr (hl67 k hk)) k h) (fun h => .inr (Nat.le_trans hB62.size h))
  refine gv_pureN 1 [4] [(4, (.slice a73 (List.length r68) c74))] (by kernel_rfl) ?_
  refine gv_nil <| gv_cret ?_
  have e := sj h0; subst e
  refine gv_ret (gv_done [(.slice a73 (List.length r68) c74)] rfl ⟨(by kernel_rfl), trivial⟩ ?_)
  have hB80 := bg hB62 hg71 nb
  exact ⟨grown_of_below hB80, a73, c74, X76, rfl, ho75, (fun k hk => ⟨hx78 k hk, hx79 k hk⟩)⟩

theorem ref3_Compare_ok (fuel : Nat) (pa0_0 : Option Addr) (pc0_0 : Nat) (a_0 : (List Int)) (pa1_0 : Option Addr) (pc1_0 : Nat) (b_1 : (List Int)) (w0 : World) (X0 : Nat → Prop) (hX0 : ∀ k, X0 k → k < w0.heap.size) (hpa0_0 : Rd (iE .i64) w0 X0 pa0_0 pc0_0 a_0) (hpa1_0 : Rd (iE .i64) w0 X0 pa1_0 pc1_0 b_1) (r0 : Int) (h0 : ref3_Compare fuel a_0 b_1 = some r0) :
    Calls Try.prog 52 ([(.slice pa0_0 (List.length a_0) pc0_0), (.slice pa1_0 (List.length b_1) pc1_0)] : List Value).toArray w0 (Ret fun v w' => w0.grownBy w' none ∧ v = tup [(.int .i64 r0)]) := by
 have hB0 : Below w0.heap.size w0 w0 := Below.refl _ _
 unfold ref3_Compare at h0
 refine calls_run Try.func52 rfl Try.ntmps52 (by kernel_rfl) ?_
 refine gv_sub [0, 1] (σ' := [(0, (.slice pa0_0 (List.length a_0) pc0_0)), (1, (.slice pa1_0 (List.length b_1) pc1_0))]) (by kernel_rfl) ?_
 refine gv_seq <| gv_region <| gv_pureN 1 [4] [] (by kernel_rfl) ?_
 refine gv_nil <| gv_seq <| gv_seq <| gv_region <| gv_pureN 5 [6, 7, 8, 9, 10] [(10, (.bool (((List.length a_0 : Nat) : Int) != ((List.length b_1 : Nat) : Int))))] (by kernel_rfl) ?_
 refine gv_nil <| gv_cond (b := (((List.length a_0 : Nat) : Int) != ((List.length b_1 : Nat) : Int))) (by kernel_rfl) (fun hc1 => ?_) (fun hc1 => ?_)
 ·replace h0 := ite_t hc1 h0
  refine gv_seq <| gv_seq <| gv_region <| gv_pureN 5 [11, 12, 13, 14, 15] [(15, (.bool (decide (((List.length a_0 : Nat) : Int) < ((List.length b_1 : Nat) : Int)))))] (by kernel_rfl) ?_
  refine gv_nil <| gv_cond (b := (decide (((List.length a_0 : Nat) : Int) < ((List.length b_1 : Nat) : Int)))) (by kernel_rfl) (fun hc2 => ?_) (fun hc2 => ?_)
  ·replace h0 := ite_t hc2 h0
   refine gv_seq <| gv_region <| gv_pureN 1 [4] [(4, (.int .i64 (-1)))] (by kernel_rfl) ?_
   refine gv_nil <| gv_cret ?_
   have e := sj h0; subst e
   refine gv_ret (gv_done [(.int .i64 (-1))] rfl ⟨(by kernel_rfl), trivial⟩ ?_)
   exact ⟨grown_of_below hB0, rfl⟩
  ·replace h0 := ite_f hc2 h0
   refine gv_skip <| gv_seq <| gv_region <| gv_pureN 1 [4] [(4, (.int .i64 1))] (by kernel_rfl) ?_
   refine gv_nil <| gv_cret ?_
   have e := sj h0; subst e
   refine gv_ret (gv_done [(.int .i64 1)] rfl ⟨(by kernel_rfl), trivial⟩ ?_)
   exact ⟨grown_of_below hB0, rfl⟩
 ·replace h0 := ite_f hc1 h0
  refine gv_skip <| gv_seq <| gv_seq <| gv_region <| gv_pureN 4 [5, 16, 17, 18] [(5, (.int .i64 (IntKind.i64.wrap (((List.length a_0 : Nat) : Int) - 1))))] (by kernel_rfl) ?_
  refine bindE h0 ?_; clear h0; intro n3 hn4 h0
  refine gv_name (s := 5) (v := (.int .i64 (IntKind.i64.wrap (((List.length a_0 : Nat) : Int) - 1)))) (v' := (.int .i64 n3)) (by kernel_rfl) (congrArg (Value.int .i64) (sj hn4)) ?_
  refine gv_nil <| bindE h0 ?_; clear h0; intro j5 h1 h0
  refine gv_cut_code (J := fun a w7 => ∃ s6 : Unit, j5 = .inl s6 ∧ Below w0.heap.size w0 w7 ∧ w0.heap.size ≤ w7.heap.size ∧ a.defers = [] ∧ a.tmps.size = 41 ∧ Ok [] a.tmps) ?_ ?_
  ·skip
   refine gv_block <| gv_loop (A := fun (s8 : Int) a w9 => Below w0.heap.size w0 w9 ∧ w0.heap.size ≤ w9.heap.size ∧ a.defers = [] ∧ a.tmps.size = 41 ∧ Ok [(0, (.slice pa0_0 (List.length a_0) pc0_0)), (1, (.slice pa1_0 (List.length b_1) pc1_0)), (5, (.int .i64 s8))] a.tmps) h1 ?_ ?_
   ·intro a hd hs hok
    exact ⟨hB0, (Nat.le_refl _), hd, hs, ok_pick [0, 1, 5] hok (by kernel_rfl)⟩
   ·rintro s8 r2 h2 hR2 a w9 ⟨hB10, hz11, hd, hs, hok⟩
    refine gv_in ?_ hd hs hok
    clear hd hs hok
    refine gv_seq <| gv_seq <| gv_region <| gv_pureN 2 [19, 20] [(20, (.bool (decide (s8 ≥ 0))))] (by kernel_rfl) ?_
    refine gv_nil <| gv_cond (b := (decide (s8 ≥ 0))) (by kernel_rfl) (fun hc12 => ?_) (fun hc12 => ?_)
    ·replace h2 := ite_t hc12 h2
     refine gv_skip <| gv_seq <| gv_block <| gv_seq <| gv_seq <| gv_drawA (by kernel_rfl) ?_
     intro w13 hg14
     refine gv_pre [0, 1, 2, 4, 5, 6] (bA 9 [0, 1, 2, 4, 5, 6]) 3 (by kernel_rfl) (by kernel_rfl) ?_
     refine gv_pureN 2 [23, 24] [(23, (.slice pa0_0 (List.length a_0) pc0_0)), (24, (.int .i64 s8))] (by kernel_rfl) ?_
     refine bindE h2 ?_; clear h2; intro x15 hx16 h2
     have hB17 := bg hB10 hg14 nb
     refine gv_idxaddr (t := 47) (e := 3) (a := pa0_0) (len := List.length a_0) (cap := pc0_0) (kk := .i64) (i := s8) (sz := 1) [] (fun e => by cases e) rfl rfl rfl (by kernel_rfl) (by kernel_rfl) Try.underlying47 (by kernel_rfl) ((hpa0_0.below hB17 hX0).has hx16) (idx_spec hx16).1 (idx_spec hx16).2.1 rfl ?_
     refine gv_pureN 2 [27, 28] [(27, (.slice pa1_0 (List.length b_1) pc1_0)), (28, (.int .i64 s8))] (by kernel_rfl) ?_
     refine bindE h2 ?_; clear h2; intro x18 hx19 h2
     refine gv_idxaddr (t := 47) (e := 3) (a := pa1_0) (len := List.length b_1) (cap := pc1_0) (kk := .i64) (i := s8) (sz := 1) [] (fun e => by cases e) rfl rfl rfl (by kernel_rfl) (by kernel_rfl) Try.underlying47 (by kernel_rfl) ((hpa1_0.below hB17 hX0).has hx19) (idx_spec hx19).1 (idx_spec hx19).2.1 rfl ?_
     refine gv_nil <| gv_goA ?_
     refine gv_stage (Cls w13 []) [0, 1, 2, 3, 4, 5, 6, 7] [(3, some true), (7, some true)] (bA 9 [0, 1, 2, 3, 4, 5, 6, 7]) 1 (by kernel_rfl) (by kernel_rfl) (Cls.refl _ _) ?_
     have hC20 := Cls.refl w13 []
     refine gv_load (t := 3) (A := (elemAddr pa0_0 ((s8).toNat * 1))) (.int .i64 x15) [] (fun e => by cases e) rfl rfl rfl (by kernel_rfl) (by kernel_rfl) (by kernel_rfl) (inw1 fun w' hC' => ((hC'.rd (hpa0_0.below hB17 hX0) (fun k (hk : X0 k) => ltl (hX0 k hk) hB17.size) nmx_nil).cell hx16)) rfl ?_
     refine gv_load (t := 3) (A := (elemAddr pa1_0 ((s8).toNat * 1))) (.int .i64 x18) [] (fun e => by cases e) rfl rfl rfl (by kernel_rfl) (by kernel_rfl) (by kernel_rfl) (inw1 fun w' hC' => ((hC'.rd (hpa1_0.below hB17 hX0) (fun k (hk : X0 k) => ltl (hX0 k hk) hB17.size) nmx_nil).cell hx19)) rfl ?_
     refine gv_nil <| gv_goA ?_
     refine gv_pre [8] (bA 9 [0, 1, 2, 3, 4, 5, 6, 7, 8]) 0 (by kernel_rfl) (by kernel_rfl) ?_
     refine gv_pureN 1 [31] [(31, (.bool (decide (x15 < x18))))] (by kernel_rfl) ?_
     refine gv_nil <| gv_goA ?_
     refine gv_stageE (by kernel_rfl) ?_
     refine gv_cond (b := (decide (x15 < x18))) (by kernel_rfl) (fun hc21 => ?_) (fun hc21 => ?_)
     ·replace h2 := ite_t hc21 h2
      refine gv_seq <| gv_region <| gv_pureN 1 [4] [(4, (.int .i64 (-1)))] (by kernel_rfl) ?_
      refine gv_nil <| gv_cret ?_
      have e := sj h2; subst e
      replace h1 := congrArg some (hR2 _ rfl)
      have e := sj h1; subst e
      replace h0 := cont_inr h0
      have e := sj h0; subst e
      refine gv_ret (gv_done [(.int .i64 (-1))] rfl ⟨(by kernel_rfl), trivial⟩ ?_)
      exact ⟨grown_of_below hB17, rfl⟩
     ·replace h2 := ite_f hc21 h2
      refine gv_skip <| gv_seq <| gv_drawA (by kernel_rfl) ?_
      intro w22 hg23
      refine gv_pre [0, 1, 2, 4, 5, 6] (bA 9 [0, 1, 2, 4, 5, 6]) 3 (by kernel_rfl) (by kernel_rfl) ?_
      refine gv_pureN 2 [32, 33] [(32, (.slice pa0_0 (List.length a_0) pc0_0)), (33, (.int .i64 s8))] (by kernel_rfl) ?_
      refine bindE h2 ?_; clear h2; intro x24 hx25 h2
      have hB26 := bg hB17 hg23 nb
      refine gv_idxaddr (t := 47) (e := 3) (a := pa0_0) (len := List.length a_0) (cap := pc0_0) (kk := .i64) (i := s8) (sz := 1) [] (fun e => by cases e) rfl rfl rfl (by kernel_rfl) (by kernel_rfl) Try.underlying47 (by kernel_rfl) ((hpa0_0.below hB26 hX0).has hx25) (idx_spec hx25).1 (idx_spec hx25).2.1 rfl ?_
      refine gv_pureN 2 [36, 37] [(36, (.slice pa1_0 (List.length b_1) pc1_0)), (37, (.int .i64 s8))] (by kernel_rfl) ?_
      refine bindE h2 ?_; clear h2; intro x27 hx28 h2
      refine gv_idxaddr (t := 47) (e := 3) (a := pa1_0) (len := List.length b_1) (cap := pc1_0) (kk := .i64) (i := s8) (sz := 1) [] (fun e => by cases e) rfl rfl rfl (by kernel_rfl) (by kernel_rfl) Try.underlying47 (by kernel_rfl) ((hpa1_0.below hB26 hX0).has hx28) (idx_spec hx28).1 (idx_spec hx28).2.1 rfl ?_
      refine gv_nil <| gv_goA ?_
      refine gv_stage (Cls w22 []) [0, 1, 2, 3, 4, 5, 6, 7] [(3, some true), (7, some true)] (bA 9 [0, 1, 2, 3, 4, 5, 6, 7]) 1 (by kernel_rfl) (by kernel_rfl) (Cls.refl _ _) ?_
      have hC29 := Cls.refl w22 []
      refine gv_load (t := 3) (A := (elemAddr pa0_0 ((s8).toNat * 1))) (.int .i64 x24) [] (fun e => by cases e) rfl rfl rfl (by kernel_rfl) (by kernel_rfl) (by kernel_rfl) (inw1 fun w' hC' => ((hC'.rd (hpa0_0.below hB26 hX0) (fun k (hk : X0 k) => ltl (hX0 k hk) hB26.size) nmx_nil).cell hx25)) rfl ?_
      refine gv_load (t := 3) (A := (elemAddr pa1_0 ((s8).toNat * 1))) (.int .i64 x27) [] (fun e => by cases e) rfl rfl rfl (by kernel_rfl) (by kernel_rfl) (by kernel_rfl) (inw1 fun w' hC' => ((hC'.rd (hpa1_0.below hB26 hX0) (fun k (hk : X0 k) => ltl (hX0 k hk) hB26.size) nmx_nil).cell hx28)) rfl ?_
      refine gv_nil <| gv_goA ?_
      refine gv_pre [8] (bA 9 [0, 1, 2, 3, 4, 5, 6, 7, 8]) 0 (by kernel_rfl) (by kernel_rfl) ?_
      refine gv_pureN 1 [40] [(40, (.bool (decide (x24 > x27))))] (by kernel_rfl) ?_
      refine gv_sub [0, 1, 5, 40] (σ' := [(0, (.slice pa0_0 (List.length a_0) pc0_0)), (1, (.slice pa1_0 (List.length b_1) pc1_0)), (5, (.int .i64 s8)), (40, (.bool (decide (x24 > x27))))]) (by kernel_rfl) ?_
      refine gv_nil <| gv_goA ?_
      refine gv_stageE (by kernel_rfl) ?_
      refine gv_cond (b := (decide (x24 > x27))) (by kernel_rfl) (fun hc30 => ?_) (fun hc30 => ?_)
      ·replace h2 := ite_t hc30 h2
       refine gv_seq <| gv_region <| gv_pureN 1 [4] [(4, (.int .i64 1))] (by kernel_rfl) ?_
       refine gv_nil <| gv_cret ?_
       have e := sj h2; subst e
       replace h1 := congrArg some (hR2 _ rfl)
       have e := sj h1; subst e
       replace h0 := cont_inr h0
       have e := sj h0; subst e
       refine gv_ret (gv_done [(.int .i64 1)] rfl ⟨(by kernel_rfl), trivial⟩ ?_)
       exact ⟨grown_of_below hB26, rfl⟩
      ·replace h2 := ite_f hc30 h2
       refine gv_skip <| gv_blk <| gv_region <| gv_pureN 3 [5, 21, 22] [(5, (.int .i64 (IntKind.i64.wrap (s8 - 1))))] (by kernel_rfl) ?_
       refine gv_nil ?_
       have e := sj h2; subst e
       refine gv_goal fun a hd hs hok => ?_
       have hz31 := (nt (nt hz11 hg14.size) hg23.size)
       exact ⟨(IntKind.i64.wrap (s8 - 1)), rfl, hB26, hz31, hd, hs, ok_pick [0, 1, 5] hok (by kernel_rfl)⟩
    ·replace h2 := ite_f hc12 h2
     refine gv_cexit <| gv_exit rfl ?_
     have e := sj h2; subst e
     replace h1 := congrArg some (hR2 _ rfl)
     have e := sj h1; subst e
     refine gv_goal fun a hd hs hok => ?_
     have hz32 := hz11
     exact ⟨(), rfl, hB10, hz32, hd, hs, ok_pick [] hok (by kernel_rfl)⟩
  ·rintro a w7 ⟨s6, e, hB33, hz34, hd, hs, hok⟩
   subst e
   refine gv_in ?_ hd hs hok
   clear hd hs hok
   replace h0 := cont_inl h0
   refine gv_seq <| gv_region <| gv_pureN 1 [4] [(4, (.int .i64 0))] (by kernel_rfl) ?_
   refine gv_nil <| gv_cret ?_
   have e := sj h0; subst e
   refine gv_ret (gv_done [(.int .i64 0)] rfl ⟨(by kernel_rfl), trivial⟩ ?_)
   exact ⟨grown_of_below hB33, rfl⟩

theorem ref3_Minus_ok (fuel : Nat) (pa0_0 : Option Addr) (pc0_0 : Nat) (a_0 : (List Int)) (pa1_0 : Option Addr) (pc1_0 : Nat) (b_1 : (List Int)) (w0 : World) (X0 : Nat → Prop) (hX0 : ∀ k, X0 k → k < w0.heap.size) (hpa0_0 : Rd (iE .i64) w0 X0 pa0_0 pc0_0 a_0) (hpa1_0 : Rd (iE .i64) w0 X0 pa1_0 pc1_0 b_1) (r0 : (List Int)) (h0 : ref3_Minus fuel a_0 b_1 = some r0) :
    Calls Try.prog 54 ([(.slice pa0_0 (List.length a_0) pc0_0), (.slice pa1_0 (List.length b_1) pc1_0)] : List Value).toArray w0 (Ret fun v w' => w0.grownBy w' none ∧ ∃ (a0_0r : Option Addr) (c0_0r : Nat), ∃ (X0_0r : Nat → Prop), v = tup [(.slice a0_0r (List.length r0) c0_0r)] ∧ Rd (iE .i64) w' X0_0r a0_0r c0_0r r0 ∧ (∀ k, X0_0r k → k < w'.heap.size ∧ (X0 k ∨ w0.heap.size ≤ k))) := by
 have hB0 : Below w0.heap.size w0 w0 := Below.refl _ _
 unfold ref3_Minus at h0
 refine calls_run Try.func54 rfl Try.ntmps54 (by kernel_rfl) ?_
 refine gv_sub [0, 1] (σ' := [(0, (.slice pa0_0 (List.length a_0) pc0_0)), (1, (.slice pa1_0 (List.length b_1) pc1_0))]) (by kernel_rfl) ?_
 refine gv_seq <| gv_region <| gv_pureN 1 [4] [] (by kernel_rfl) ?_
 refine gv_nil <| gv_seq <| gv_region <| gv_pureN 1 [5] [(5, (.slice none (List.length ([] : List Int)) 0))] (by kernel_rfl) ?_
 refine gv_nil <| gv_seq <| gv_region <| gv_pureN 1 [6] [(6, (.int .i64 0))] (by kernel_rfl) ?_
 refine gv_nil <| gv_seq <| gv_seq <| gv_region <| gv_pureN 1 [7] [(7, (.int .i64 0))] (by kernel_rfl) ?_
 refine gv_nil <| bindE h0 ?_; clear h0; intro j1 h1 h0
 refine gv_cut_code (J := fun a w2 => ∃ (a5_0j : Option Addr) (c5_0j : Nat), Below w0.heap.size w0 w2 ∧ w0.heap.size ≤ w2.heap.size ∧ Own (iE .i64) 3 w2 (fun _ => False) a5_0j c5_0j j1 ∧ (∀ g, blk a5_0j = some g → w0.heap.size ≤ g) ∧ a.defers = [] ∧ a.tmps.size = 41 ∧ Ok [(5, (.slice a5_0j (List.length j1) c5_0j))] a.tmps) ?_ ?_
 ·skip
  refine gv_block <| gv_loop (A := fun (s3 : ((List Int) × Int × Int)) a w4 => ∃ (a5_0j : Option Addr) (c5_0j : Nat), Below w0.heap.size w0 w4 ∧ w0.heap.size ≤ w4.heap.size ∧ Own (iE .i64) 3 w4 (fun _ => False) a5_0j c5_0j s3.1 ∧ (∀ g, blk a5_0j = some g → w0.heap.size ≤ g) ∧ a.defers = [] ∧ a.tmps.size = 41 ∧ Ok [(0, (.slice pa0_0 (List.length a_0) pc0_0)), (1, (.slice pa1_0 (List.length b_1) pc1_0)), (5, (.slice a5_0j (List.length s3.1) c5_0j)), (6, (.int .i64 s3.2.1)), (7, (.int .i64 s3.2.2))] a.tmps) h1 ?_ ?_
  ·intro a hd hs hok
   exact ⟨none, 0, hB0, (Nat.le_refl _), (Own.nil (iE .i64) 3 w0 (fun _ => False)), (fun _ h => by cases h), hd, hs, ok_pick [0, 1, 5, 6, 7] hok (by kernel_rfl)⟩
  ·rintro s3 r2 h2 hR2 a w4 ⟨a7, c8, hB5, hz6, ho9, hl10, hd, hs, hok⟩
   refine gv_in ?_ hd hs hok
   clear hd hs hok
   refine gv_seq <| gv_seq <| gv_region <| gv_pureN 4 [9, 10, 11, 12] [(12, (.bool (decide (s3.2.2 < ((List.length a_0 : Nat) : Int)))))] (by kernel_rfl) ?_
   refine gv_nil <| gv_cond (b := (decide (s3.2.2 < ((List.length a_0 : Nat) : Int)))) (by kernel_rfl) (fun hc11 => ?_) (fun hc11 => ?_)
   ·replace h2 := ite_t hc11 h2
    refine gv_skip <| gv_seq <| gv_block <| gv_seq <| gv_region <| gv_pureN 2 [15, 16] [(15, (.slice pa0_0 (List.length a_0) pc0_0)), (16, (.int .i64 s3.2.2))] (by kernel_rfl) ?_
    refine bindE h2 ?_; clear h2; intro x12 hx13 h2
    refine gv_idxaddr (t := 47) (e := 3) (a := pa0_0) (len := List.length a_0) (cap := pc0_0) (kk := .i64) (i := s3.2.2) (sz := 1) [] (fun e => by cases e) rfl rfl rfl (by kernel_rfl) (by kernel_rfl) Try.underlying47 (by kernel_rfl) ((hpa0_0.below hB5 hX0).has hx13) (idx_spec hx13).1 (idx_spec hx13).2.1 rfl ?_
    refine gv_load (t := 3) (A := (elemAddr pa0_0 ((s3.2.2).toNat * 1))) (.int .i64 x12) [] (fun e => by cases e) rfl rfl rfl (by kernel_rfl) (by kernel_rfl) (by kernel_rfl) (inw0 ((hpa0_0.below hB5 hX0).cell hx13)) rfl ?_
    refine gv_pureN 3 [8, 19, 20] [(8, (.int .i64 (IntKind.i64.wrap (x12 - s3.2.1))))] (by kernel_rfl) ?_
    refine gv_nil <| gv_seq <| gv_seq <| gv_region <| gv_pureN 4 [21, 22, 23, 24] [(24, (.bool (decide (s3.2.2 < ((List.length b_1 : Nat) : Int)))))] (by kernel_rfl) ?_
    refine gv_nil <| bindE h2 ?_; clear h2; intro j14 h3 h2
    refine gv_cut_code (J := fun a w15 => Below w0.heap.size w0 w15 ∧ w4.heap.size ≤ w15.heap.size ∧ Own (iE .i64) 3 w15 (fun _ => False) a7 c8 s3.1 ∧ a.defers = [] ∧ a.tmps.size = 41 ∧ Ok [(0, (.slice pa0_0 (List.length a_0) pc0_0)), (1, (.slice pa1_0 (List.length b_1) pc1_0)), (5, (.slice a7 (List.length s3.1) c8)), (7, (.int .i64 s3.2.2)), (8, (.int .i64 j14))] a.tmps) ?_ ?_
    ·skip
     refine gv_cond (b := (decide (s3.2.2 < ((List.length b_1 : Nat) : Int)))) (by kernel_rfl) (fun hc16 => ?_) (fun hc16 => ?_)
     ·replace h3 := ite_t hc16 h3
      refine gv_region <| gv_pureN 3 [25, 26, 27] [(25, (.int .i64 (IntKind.i64.wrap (x12 - s3.2.1)))), (26, (.slice pa1_0 (List.length b_1) pc1_0)), (27, (.int .i64 s3.2.2))] (by kernel_rfl) ?_
      refine bindE h3 ?_; clear h3; intro x17 hx18 h3
      refine gv_idxaddr (t := 47) (e := 3) (a := pa1_0) (len := List.length b_1) (cap := pc1_0) (kk := .i64) (i := s3.2.2) (sz := 1) [] (fun e => by cases e) rfl rfl rfl (by kernel_rfl) (by kernel_rfl) Try.underlying47 (by kernel_rfl) ((hpa1_0.below hB5 hX0).has hx18) (idx_spec hx18).1 (idx_spec hx18).2.1 rfl ?_
      refine gv_load (t := 3) (A := (elemAddr pa1_0 ((s3.2.2).toNat * 1))) (.int .i64 x17) [] (fun e => by cases e) rfl rfl rfl (by kernel_rfl) (by kernel_rfl) (by kernel_rfl) (inw0 ((hpa1_0.below hB5 hX0).cell hx18)) rfl ?_
      refine gv_pureN 2 [8, 30] [(8, (.int .i64 (IntKind.i64.wrap ((IntKind.i64.wrap (x12 - s3.2.1)) - x17))))] (by kernel_rfl) ?_
      refine bindE h3 ?_; clear h3; intro n19 hn20 h3
      refine gv_name (s := 8) (v := (.int .i64 (IntKind.i64.wrap ((IntKind.i64.wrap (x12 - s3.2.1)) - x17)))) (v' := (.int .i64 n19)) (by kernel_rfl) (congrArg (Value.int .i64) (sj hn20)) ?_
      refine gv_nil ?_
      have e := sj h3; subst e
      refine gv_goal fun a hd hs hok => ?_
      exact ⟨hB5, (Nat.le_refl _), ho9, hd, hs, ok_pick [0, 1, 5, 7, 8] hok (by kernel_rfl)⟩
     ·replace h3 := ite_f hc16 h3
      refine gv_skip ?_
      have e := sj h3; subst e
      refine gv_goal fun a hd hs hok => ?_
      exact ⟨hB5, (Nat.le_refl _), ho9, hd, hs, ok_pick [0, 1, 5, 7, 8] hok (by kernel_rfl)⟩
    ·rintro a w15 ⟨hB21, hz22, hk23, hd, hs, hok⟩
     refine gv_in ?_ hd hs hok
     clear hd hs hok
     have hz24 := (nt hz6 hz22)
     clear hz22 hx13 hc11 ho9 hz6 hB5
     refine gv_seq <| gv_region <| gv_pureN 1 [6] [(6, (.int .i64 0))] (by kernel_rfl) ?_
     refine gv_nil <| gv_seq <| gv_seq <| gv_region <| gv_pureN 2 [31, 32] [(32, (.bool (decide (j14 < 0))))] (by kernel_rfl) ?_
     refine gv_nil <| bindE h2 ?_; clear h2; intro j25 h3 h2
     refine gv_cut_code (J := fun a w26 => Below w0.heap.size w0 w26 ∧ w15.heap.size ≤ w26.heap.size ∧ Own (iE .i64) 3 w26 (fun _ => False) a7 c8 s3.1 ∧ a.defers = [] ∧ a.tmps.size = 41 ∧ Ok [(0, (.slice pa0_0 (List.length a_0) pc0_0)), (1, (.slice pa1_0 (List.length b_1) pc1_0)), (5, (.slice a7 (List.length s3.1) c8)), (6, (.int .i64 j25.1)), (7, (.int .i64 s3.2.2)), (8, (.int .i64 j25.2))] a.tmps) ?_ ?_
     ·skip
      refine gv_cond (b := (decide (j14 < 0))) (by kernel_rfl) (fun hc27 => ?_) (fun hc27 => ?_)
      ·replace h3 := ite_t hc27 h3
       refine gv_seq <| gv_region <| gv_pureN 3 [8, 33, 34] [(8, (.int .i64 (IntKind.i64.wrap (j14 + 65536))))] (by kernel_rfl) ?_
       refine gv_nil <| gv_region <| gv_pureN 1 [6] [(6, (.int .i64 1))] (by kernel_rfl) ?_
       refine gv_nil ?_
       have e := sj h3; subst e
       refine gv_goal fun a hd hs hok => ?_
       exact ⟨hB21, (Nat.le_refl _), hk23, hd, hs, ok_pick [0, 1, 5, 6, 7, 8] hok (by kernel_rfl)⟩
      ·replace h3 := ite_f hc27 h3
       refine gv_skip ?_
       have e := sj h3; subst e
       refine gv_goal fun a hd hs hok => ?_
       exact ⟨hB21, (Nat.le_refl _), hk23, hd, hs, ok_pick [0, 1, 5, 6, 7, 8] hok (by kernel_rfl)⟩
     ·rintro a w26 ⟨hB28, hz29, hk30, hd, hs, hok⟩
      refine gv_in ?_ hd hs hok
      clear hd hs hok
      have hz31 := (nt hz24 hz29)
      clear hz29 hz24 hk23 hB21
      refine gv_region <| gv_pureN 2 [35, 36] [(35, (.slice a7 (List.length s3.1) c8)), (36, (.int .i64 j25.2))] (by kernel_rfl) ?_
      refine gv_new0 (fun b => .slice (some ⟨b, 0, none⟩) 1 1) #[(.int .i64 j25.2)] 3 (by kernel_rfl) (by kernel_rfl) ?_
      intro b32 w33 hg34 hb35 hbe36 hz37
      have ho38 : Own (iE .i64) 3 w33 (fun _ => False) (some ⟨b32, 0, none⟩) 1 ([j25.2] : List Int) := Box.ownE hb35 ⟨[(.int .i64 j25.2)], [], rfl, rfl, rfl⟩ (show 1 ≤ maxLen by decide) (fun h => h)
      have hl39 : ∀ g, blk (some ⟨b32, 0, none⟩) = some g → w0.heap.size ≤ g := loo hbe36 hB28.size
      refine bindE h2 ?_; clear h2; intro l43 hx44 h2
      have hk51 := hk30.grown hg34 (fun _ h => h.elim) nb
      refine gv_append (iE .i64) (t := 47) (ty := 47) (e := 3) (a := a7) (ax := (some ⟨b32, 0, none⟩)) (cap := c8) (cx := 1) (xs := s3.1) (ys := ([j25.2] : List Int)) l43 (X := (fun _ => False)) (Y := (fun k => blk (some ⟨b32, 0, none⟩) = some k)) (by decide) rfl rfl (by kernel_rfl) (by kernel_rfl) Try.underlying47 info3 hk51 (ho38.rd (Y := fun k => blk (some ⟨b32, 0, none⟩) = some k) (fun _ h => h.elim) (fun g e => e)) hx44 (.inr fun _ _ _ _ _ h => h) (fun _ h => h.elim) ?_
      intro a45 c46 w47 hg48 ho49 hk50
      refine ⟨(fun e => by cases e), ?_⟩
      have hB53 := bg hB28 hg34 nb
      have hl52 : ∀ g, blk a45 = some g → w0.heap.size ≤ g := blk_step hk50 hl10 hB53.size
      have ap55 : ∀ g, blk a7 = some g → ¬ (fun k => blk (some ⟨b32, 0, none⟩) = some k) g := fun g e hx => nl ((lowo hbe36) _ hx) ((fun k (hk : blk a7 = some k) => hk30.lt k hk) g e)
      have ap54 : ∀ g, blk a45 = some g → ¬ (fun k => blk (some ⟨b32, 0, none⟩) = some k) g := blk_neX hk50 ap55 (fun k (hk : blk (some ⟨b32, 0, none⟩) = some k) => ho38.lt k hk)
      have ap57 : ∀ g, blk (some ⟨b32, 0, none⟩) = some g → ¬ (fun k => blk a7 = some k) g := fun g e hx => nl ((lowo hbe36) g e) ((fun k (hk : blk a7 = some k) => hk30.lt k hk) _ hx)
      have ap56 : ∀ g, blk (some ⟨b32, 0, none⟩) = some g → ¬ (fun k => blk a45 = some k) g := fun g e h => blk_rev hk50 (fun h => ((ap57) g e) h) (ho38.lt g e) h
      refine gv_pureN 1 [5] [(5, (.slice a45 (List.length l43) c46))] (by kernel_rfl) ?_
      refine gv_nil <| gv_blk <| gv_region <| gv_pureN 3 [7, 13, 14] [(7, (.int .i64 (IntKind.i64.wrap (s3.2.2 + 1))))] (by kernel_rfl) ?_
      refine gv_nil ?_
      have e := sj h2; subst e
      refine gv_goal fun a hd hs hok => ?_
      have hB58 := bg hB53 hg48 hl10
      have hz59 := (nt (nt hz31 hg34.size) hg48.size)
      exact ⟨(l43, j25.1, (IntKind.i64.wrap (s3.2.2 + 1))), rfl, a45, c46, hB58, hz59, ho49, hl52, hd, hs, ok_pick [0, 1, 5, 6, 7] hok (by kernel_rfl)⟩
   ·replace h2 := ite_f hc11 h2
    refine gv_cexit <| gv_exit rfl ?_
    have e := sj h2; subst e
    replace h1 := congrArg some (hR2 _ rfl)
    have e := sj h1; subst e
    refine gv_goal fun a hd hs hok => ?_
    have hz60 := hz6
    exact ⟨a7, c8, hB5, hz60, ho9, hl10, hd, hs, ok_pick [5] hok (by kernel_rfl)⟩
 ·rintro a w2 ⟨a63, c64, hB61, hz62, ho65, hl66, hd, hs, hok⟩
  refine gv_in ?_ hd hs hok
  clear hd hs hok
  refine gv_seq <| gv_region <| gv_pureN 1 [39] [(39, (.slice a63 (List.length j1) c64))] (by kernel_rfl) ?_
  refine bindE h0 ?_; clear h0; intro r67 hr68 h0
  refine gv_call0 (by kernel_rfl) rfl (by kernel_rfl) enters65 (ref3_trim_ok fuel a63 c64 j1 w2 (fun k => (fun k => blk a63 = some k) k) (fun k hk => (fun k (hk : blk a63 = some k) => ho65.lt k hk) k hk) ((ho65.rd (Y := fun k => blk a63 = some k) (fun _ h => h.elim) (fun g e => e)).wide (fun k hk => hk)) r67 hr68) ?_
  rintro v71 w69 ⟨hg70, a72, c73, X75, rfl, ho74, hx76⟩
  have hx77 : ∀ k, X75 k → k < w69.heap.size := fun k hk => (hx76 k hk).1
  have hx78 : ∀ k, X75 k → X0 k ∨ w0.heap.size ≤ k := fun k hk => (hx76 k hk).2.elim (fun h => (fun k (hk : blk a63 = some k) => Or.inr (hl66 k hk)) k h) (fun h => .inr (Nat.le_trans hB61.size h))
  refine gv_pureN 1 [4] [(4, (.slice a72 (List.length r67) c73))] (by kernel_rfl) ?_
  refine gv_nil <| gv_cret ?_
  have e := sj h0; subst e
  refine gv_ret (gv_done [(.slice a72 (List.length r67) c73)] rfl ⟨(by kernel_rfl), trivial⟩ ?_)
  have hB79 := bg hB61 hg70 nb
  exact ⟨grown_of_below hB79, a72, c73, X75, rfl, ho74, (fun k hk => ⟨hx77 k hk, hx78 k hk⟩)⟩

theorem ref3_Int_Plus_ok (fuel : Nat) (pa0_0 : Option Addr) (pc0_0 : Nat) (a_0 : (Bool × (List Int))) (pa1_0 : Option Addr) (pc1_0 : Nat) (b_1 : (Bool × (List Int))) (w0 : World) (X0 : Nat → Prop) (hX0 : ∀ k, X0 k → k < w0.heap.size) (hpa0_0 : Rd (iE .i64) w0 X0 pa0_0 pc0_0 a_0.2) (hpa1_0 : Rd (iE .i64) w0 X0 pa1_0 pc1_0 b_1.2) (r0 : (Bool × (List Int))) (h0 : ref3_Int_Plus fuel a_0 b_1 = some r0) :
    Calls Try.prog 23 ([(.agg #[(.bool a_0.1), (.slice pa0_0 (List.length a_0.2) pc0_0)]), (.agg #[(.bool b_1.1), (.slice pa1_0 (List.length b_1.2) pc1_0)])] : List Value).toArray w0 (Ret fun v w' => w0.grownBy w' none ∧ ∃ (a0_0r : Option Addr) (c0_0r : Nat), ∃ (X0_0r : Nat → Prop), v = tup [(.agg #[(.bool r0.1), (.slice a0_0r (List.length r0.2) c0_0r)])] ∧ Rd (iE .i64) w' X0_0r a0_0r c0_0r r0.2 ∧ (∀ k, X0_0r k → k < w'.heap.size ∧ (X0 k ∨ w0.heap.size ≤ k))) := by
 have hB0 : Below w0.heap.size w0 w0 := Below.refl _ _
 unfold ref3_Int_Plus at h0
 refine calls_run Try.func23 rfl Try.ntmps23 (by kernel_rfl) ?_
 refine gv_sub [0, 1] (σ' := [(0, (.agg #[(.bool a_0.1), (.slice pa0_0 (List.length a_0.2) pc0_0)])), (1, (.agg #[(.bool b_1.1), (.slice pa1_0 (List.length b_1.2) pc1_0)]))]) (by kernel_rfl) ?_
 refine gv_seq <| gv_region <| gv_new0 (fun b => .pointer (some ⟨b, 0, none⟩)) #[(.bool a_0.1), (.slice pa0_0 (List.length a_0.2) pc0_0)] 49 (by kernel_rfl) (by kernel_rfl) ?_
 intro b1 w2 hg3 hb4 hbe5 hz6
 refine gv_new0 (fun b => .pointer (some ⟨b, 0, none⟩)) #[(.bool b_1.1), (.slice pa1_0 (List.length b_1.2) pc1_0)] 49 (by kernel_rfl) (by kernel_rfl) ?_
 intro b7 w8 hg9 hb10 hbe11 hz12
 refine gv_new0 (fun b => .pointer (some ⟨b, 0, none⟩)) #[(.bool false), (.slice none (List.length ([] : List Int)) 0)] 49 (by kernel_rfl) (by kernel_rfl) ?_
 intro b13 w14 hg15 hb16 hbe17 hz18
 refine gv_nil <| gv_seq <| gv_block <| gv_seq <| gv_region <| gv_pureN 1 [6] [(6, (bp b1))] (by kernel_rfl) ?_
 have hg19 := (grown_trans hg9 hg15)
 have hk20 := hb4.grown hg19 nb
 refine gv_load (t := 4) (A := ⟨b1, 0, none⟩) (.bool a_0.1) [] (fun e => by cases e) rfl rfl rfl (by kernel_rfl) (by kernel_rfl) (by kernel_rfl) (inw0 (hk20.cell 0 rfl)) rfl ?_
 refine gv_pureN 1 [8] [(8, (bp b7))] (by kernel_rfl) ?_
 have hk21 := hb10.grown hg15 nb
 refine gv_load (t := 4) (A := ⟨b7, 0, none⟩) (.bool b_1.1) [] (fun e => by cases e) rfl rfl rfl (by kernel_rfl) (by kernel_rfl) (by kernel_rfl) (inw0 (hk21.cell 0 rfl)) rfl ?_
 refine gv_pureN 2 [5, 10] [(5, (.bool (a_0.1 == b_1.1)))] (by kernel_rfl) ?_
 refine gv_nil <| gv_cond (b := (a_0.1 == b_1.1)) (by kernel_rfl) (fun hc22 => ?_) (fun hc22 => ?_)
 ·replace h0 := ite_t hc22 h0
  refine gv_seq <| gv_drawA (by kernel_rfl) ?_
  intro w23 hg24
  refine gv_pre [0, 2, 4] (bA 9 [0, 2, 4]) 6 (by kernel_rfl) (by kernel_rfl) ?_
  refine gv_pureN 3 [11, 13, 15] [(11, (bp b1)), (13, (.pointer (some ⟨b1, 1, none⟩))), (15, (.pointer (some ⟨b7, 1, none⟩)))] (by kernel_rfl) ?_
  refine gv_nil <| gv_goA ?_
  refine gv_stage (Cls w23 []) [0, 1, 2, 3, 4, 5, 6] [(1, some true), (3, some true), (5, some true), (6, some false)] (bA 9 [0, 1, 2, 3, 4, 5, 6]) 2 (by kernel_rfl) (by kernel_rfl) (Cls.refl _ _) ?_
  have hC25 := Cls.refl w23 []
  have hk26 := hk20.grown hg24 nb
  refine gv_load (t := 4) (A := ⟨b1, 0, none⟩) (.bool a_0.1) [] (fun e => by cases e) rfl rfl rfl (by kernel_rfl) (by kernel_rfl) (by kernel_rfl) (inw1 fun w' hC' => ((hC'.box hk26 nm_nil).cell 0 rfl)) rfl ?_
  refine gv_load (t := 47) (A := ⟨b1, 1, none⟩) (.slice pa0_0 (List.length a_0.2) pc0_0) [] (fun e => by cases e) rfl rfl rfl (by kernel_rfl) (by kernel_rfl) (by kernel_rfl) (inw1 fun w' hC' => ((hC'.box hk26 nm_nil).cell 1 rfl)) rfl ?_
  have hk27 := hk21.grown hg24 nb
  refine gv_load (t := 47) (A := ⟨b7, 1, none⟩) (.slice pa1_0 (List.length b_1.2) pc1_0) [] (fun e => by cases e) rfl rfl rfl (by kernel_rfl) (by kernel_rfl) (by kernel_rfl) (inw1 fun w' hC' => ((hC'.box hk27 nm_nil).cell 1 rfl)) rfl ?_
  refine bindE h0 ?_; clear h0; intro r28 hr29 h0
  have hg30 := (grown_trans (grown_trans hg3 hg19) hg24)
  have hB31 := bg hB0 hg30 nb
  refine gv_call (f := 53) (vs := [(.slice pa0_0 (List.length a_0.2) pc0_0), (.slice pa1_0 (List.length b_1.2) pc1_0)]) (cap := []) _ (by decide) rfl rfl rfl (by kernel_rfl) (by kernel_rfl) enters53 (ref3_Plus_ok fuel pa0_0 pc0_0 a_0.2 pa1_0 pc1_0 b_1.2 w23 (fun k => X0 k ∨ X0 k) (fun k hk => (hk).elim (fun h => (fun k (hk : X0 k) => ltl (hX0 k hk) hB31.size) k h) (fun h => (fun k (hk : X0 k) => ltl (hX0 k hk) hB31.size) k h)) ((hpa0_0.below hB31 hX0).wide (fun k hk => (.inl hk))) ((hpa1_0.below hB31 hX0).wide (fun k hk => (.inr hk))) r28 hr29) ?_
  rintro v34 w32 ⟨hg33, a35, c36, X38, rfl, ho37, hx39⟩
  refine ⟨(fun _ => hC25.grown hg33 nb), ?_⟩
  have hx40 : ∀ k, X38 k → k < w32.heap.size := fun k hk => (hx39 k hk).1
  have hx41 : ∀ k, X38 k → X0 k ∨ w0.heap.size ≤ k := fun k hk => (hx39 k hk).2.elim (fun h => (h).elim (fun h => (fun k (hk : X0 k) => Or.inl hk) k h) (fun h => (fun k (hk : X0 k) => Or.inl hk) k h)) (fun h => .inr (Nat.le_trans hB31.size h))
  refine gv_nil <| gv_goA ?_
  refine gv_pre [7] (bA 9 [0, 1, 2, 3, 4, 5, 6, 7]) 1 (by kernel_rfl) (by kernel_rfl) ?_
  refine gv_pureN 1 [18] [(18, (.agg #[(.bool a_0.1), (.slice a35 (List.length r28) c36)]))] (by kernel_rfl) ?_
  refine gv_sub [4, 18] (σ' := [(4, (bp b13)), (18, (.agg #[(.bool a_0.1), (.slice a35 (List.length r28) c36)]))]) (by kernel_rfl) ?_
  refine gv_nil <| gv_goA ?_
  refine gv_stage (fun _ => True) [0, 1, 2, 3, 4, 5, 6, 7, 8] [(8, some false)] (bA 9 [0, 1, 2, 3, 4, 5, 6, 7, 8]) 0 (by kernel_rfl) (by kernel_rfl) trivial ?_
  have hg46 := (grown_trans hg24 hg33)
  have hk47 := hb16.grown hg46 nb
  refine gv_store (t := 49) (b := b13) (off := 0) (v := (.agg #[(.bool a_0.1), (.slice a35 (List.length r28) c36)])) (t' := 49) (cs := #[(.bool false), (.slice none (List.length ([] : List Int)) 0)]) #[(.bool a_0.1), (.slice a35 (List.length r28) c36)] (by decide) rfl rfl (by kernel_rfl) (by kernel_rfl) (by kernel_rfl) (by intro u hu; simp [Value.cells] at hu; rcases hu with rfl | rfl <;> rfl) (show 0 + 2 ≤ 2 by decide) (by rfl) hk47 ?_
  intro w42 hg43 hb44 hz45
  refine ⟨(fun _ => trivial), ?_⟩
  refine gv_nil <| gv_goA ?_
  refine gv_stageE (by kernel_rfl) ?_
  refine gv_cret ?_
  have e := sj h0; subst e
  refine gv_ret (gv_done [(.agg #[(.bool a_0.1), (.slice a35 (List.length r28) c36)])] rfl ⟨⟨⟨b13, 0, none⟩, (by kernel_rfl), run_loadVar_row w42 b13 _ 49 _ _ _ hb44 Try.underlying49 rfl (by kernel_rfl)⟩, trivial⟩ ?_)
  have hB48 := bg hB31 hg33 nb
  have hg49 := (grown_trans hg3 hg9)
  have hB50 := bg hB0 hg49 nb
  have hlo51 : w0.heap.size ≤ b13 := lob hbe17 hB50.size
  have hB52 := bg hB48 hg43 (rowlo hlo51)
  have hk53 := hb16.grown hg24 nb
  have ap54 : ¬ X38 b13 := fun h => ((hx39 _ h).2.elim (fun h => (h).elim (fun h => ((fun (hx : X0 b13) => nl hlo51 (hX0 _ hx)))  h) (fun h => ((fun (hx : X0 b13) => nl hlo51 (hX0 _ hx)))  h)) (fun h => nl h (hk53.lt)))
  have hk55 := ho37.grown hg43 hx40 (rowne ap54)
  have hx56 := ltx hx40 hg43.size
  exact ⟨grown_of_below hB52, a35, c36, X38, rfl, hk55, (fun k hk => ⟨hx56 k hk, hx41 k hk⟩)⟩
 ·replace h0 := ite_f hc22 h0
  refine gv_seq <| gv_region <| gv_pureN 1 [20] [(20, (.pointer (some ⟨b1, 1, none⟩)))] (by kernel_rfl) ?_
  refine gv_load (t := 47) (A := ⟨b1, 1, none⟩) (.slice pa0_0 (List.length a_0.2) pc0_0) [] (fun e => by cases e) rfl rfl rfl (by kernel_rfl) (by kernel_rfl) (by kernel_rfl) (inw0 (hk20.cell 1 rfl)) rfl ?_
  refine gv_pureN 1 [22] [(22, (.pointer (some ⟨b7, 1, none⟩)))] (by kernel_rfl) ?_
  refine gv_load (t := 47) (A := ⟨b7, 1, none⟩) (.slice pa1_0 (List.length b_1.2) pc1_0) [] (fun e => by cases e) rfl rfl rfl (by kernel_rfl) (by kernel_rfl) (by kernel_rfl) (inw0 (hk21.cell 1 rfl)) rfl ?_
  refine bindE h0 ?_; clear h0; intro r57 hr58 h0
  have hg59 := (grown_trans hg3 hg19)
  have hB60 := bg hB0 hg59 nb
  refine gv_call0 (by kernel_rfl) rfl (by kernel_rfl) enters52 (ref3_Compare_ok fuel pa0_0 pc0_0 a_0.2 pa1_0 pc1_0 b_1.2 w14 (fun k => X0 k ∨ X0 k) (fun k hk => (hk).elim (fun h => (fun k (hk : X0 k) => ltl (hX0 k hk) hB60.size) k h) (fun h => (fun k (hk : X0 k) => ltl (hX0 k hk) hB60.size) k h)) ((hpa0_0.below hB60 hX0).wide (fun k hk => (.inl hk))) ((hpa1_0.below hB60 hX0).wide (fun k hk => (.inr hk))) r57 hr58) ?_
  rintro v63 w61 ⟨hg62, rfl⟩
  refine gv_pureN 2 [19, 25] [(19, (.bool (decide (r57 ≥ 0))))] (by kernel_rfl) ?_
  refine gv_sub [2, 3, 4, 19] (σ' := [(2, (bp b1)), (3, (bp b7)), (4, (bp b13)), (19, (.bool (decide (r57 ≥ 0))))]) (by kernel_rfl) ?_
  refine gv_nil <| gv_cond (b := (decide (r57 ≥ 0))) (by kernel_rfl) (fun hc64 => ?_) (fun hc64 => ?_)
  ·replace h0 := ite_t hc64 h0
   refine gv_seq <| gv_drawA (by kernel_rfl) ?_
   intro w65 hg66
   refine gv_pre [0, 2, 4] (bA 9 [0, 2, 4]) 6 (by kernel_rfl) (by kernel_rfl) ?_
   clear hc64 hg59 hr58 hc22 hg19 hz18 hg15 hz12 hz6
   refine gv_pureN 3 [26, 28, 30] [(26, (bp b1)), (28, (.pointer (some ⟨b1, 1, none⟩))), (30, (.pointer (some ⟨b7, 1, none⟩)))] (by kernel_rfl) ?_
   refine gv_nil <| gv_goA ?_
   refine gv_stage (Cls w65 []) [0, 1, 2, 3, 4, 5, 6] [(1, some true), (3, some true), (5, some true), (6, some false)] (bA 9 [0, 1, 2, 3, 4, 5, 6]) 2 (by kernel_rfl) (by kernel_rfl) (Cls.refl _ _) ?_
   have hC67 := Cls.refl w65 []
   have hg68 := (grown_trans hg62 hg66)
   have hk69 := hk20.grown hg68 nb
   refine gv_load (t := 4) (A := ⟨b1, 0, none⟩) (.bool a_0.1) [] (fun e => by cases e) rfl rfl rfl (by kernel_rfl) (by kernel_rfl) (by kernel_rfl) (inw1 fun w' hC' => ((hC'.box hk69 nm_nil).cell 0 rfl)) rfl ?_
   refine gv_load (t := 47) (A := ⟨b1, 1, none⟩) (.slice pa0_0 (List.length a_0.2) pc0_0) [] (fun e => by cases e) rfl rfl rfl (by kernel_rfl) (by kernel_rfl) (by kernel_rfl) (inw1 fun w' hC' => ((hC'.box hk69 nm_nil).cell 1 rfl)) rfl ?_
   have hk70 := hk21.grown hg68 nb
   refine gv_load (t := 47) (A := ⟨b7, 1, none⟩) (.slice pa1_0 (List.length b_1.2) pc1_0) [] (fun e => by cases e) rfl rfl rfl (by kernel_rfl) (by kernel_rfl) (by kernel_rfl) (inw1 fun w' hC' => ((hC'.box hk70 nm_nil).cell 1 rfl)) rfl ?_
   refine bindE h0 ?_; clear h0; intro r71 hr72 h0
   have hB73 := bg hB60 hg68 nb
   refine gv_call (f := 54) (vs := [(.slice pa0_0 (List.length a_0.2) pc0_0), (.slice pa1_0 (List.length b_1.2) pc1_0)]) (cap := []) _ (by decide) rfl rfl rfl (by kernel_rfl) (by kernel_rfl) enters54 (ref3_Minus_ok fuel pa0_0 pc0_0 a_0.2 pa1_0 pc1_0 b_1.2 w65 (fun k => X0 k ∨ X0 k) (fun k hk => (hk).elim (fun h => (fun k (hk : X0 k) => ltl (hX0 k hk) hB73.size) k h) (fun h => (fun k (hk : X0 k) => ltl (hX0 k hk) hB73.size) k h)) ((hpa0_0.below hB73 hX0).wide (fun k hk => (.inl hk))) ((hpa1_0.below hB73 hX0).wide (fun k hk => (.inr hk))) r71 hr72) ?_
   rintro v76 w74 ⟨hg75, a77, c78, X80, rfl, ho79, hx81⟩
   refine ⟨(fun _ => hC67.grown hg75 nb), ?_⟩
   have hx82 : ∀ k, X80 k → k < w74.heap.size := fun k hk => (hx81 k hk).1
   have hx83 : ∀ k, X80 k → X0 k ∨ w0.heap.size ≤ k := fun k hk => (hx81 k hk).2.elim (fun h => (h).elim (fun h => (fun k (hk : X0 k) => Or.inl hk) k h) (fun h => (fun k (hk : X0 k) => Or.inl hk) k h)) (fun h => .inr (Nat.le_trans hB73.size h))
   refine gv_nil <| gv_goA ?_
   refine gv_pre [7] (bA 9 [0, 1, 2, 3, 4, 5, 6, 7]) 1 (by kernel_rfl) (by kernel_rfl) ?_
   refine gv_pureN 1 [33] [(33, (.agg #[(.bool a_0.1), (.slice a77 (List.length r71) c78)]))] (by kernel_rfl) ?_
   refine gv_nil <| gv_goA ?_
   refine gv_stage (fun _ => True) [0, 1, 2, 3, 4, 5, 6, 7, 8] [(8, some false)] (bA 9 [0, 1, 2, 3, 4, 5, 6, 7, 8]) 0 (by kernel_rfl) (by kernel_rfl) trivial ?_
   have hg88 := (grown_trans hg68 hg75)
   have hk89 := hb16.grown hg88 nb
   refine gv_store (t := 49) (b := b13) (off := 0) (v := (.agg #[(.bool a_0.1), (.slice a77 (List.length r71) c78)])) (t' := 49) (cs := #[(.bool false), (.slice none (List.length ([] : List Int)) 0)]) #[(.bool a_0.1), (.slice a77 (List.length r71) c78)] (by decide) rfl rfl (by kernel_rfl) (by kernel_rfl) (by kernel_rfl) (by intro u hu; simp [Value.cells] at hu; rcases hu with rfl | rfl <;> rfl) (show 0 + 2 ≤ 2 by decide) (by rfl) hk89 ?_
   intro w84 hg85 hb86 hz87
   refine ⟨(fun _ => trivial), ?_⟩
   refine gv_nil <| gv_goA ?_
   refine gv_stageE (by kernel_rfl) ?_
   refine gv_cret ?_
   have e := sj h0; subst e
   refine gv_ret (gv_done [(.agg #[(.bool a_0.1), (.slice a77 (List.length r71) c78)])] rfl ⟨⟨⟨b13, 0, none⟩, (by kernel_rfl), run_loadVar_row w84 b13 _ 49 _ _ _ hb86 Try.underlying49 rfl (by kernel_rfl)⟩, trivial⟩ ?_)
   have hB90 := bg hB73 hg75 nb
   have hg91 := (grown_trans hg3 hg9)
   have hB92 := bg hB0 hg91 nb
   have hlo93 : w0.heap.size ≤ b13 := lob hbe17 hB92.size
   have hB94 := bg hB90 hg85 (rowlo hlo93)
   have hk95 := hb16.grown hg68 nb
   have ap96 : ¬ X80 b13 := fun h => ((hx81 _ h).2.elim (fun h => (h).elim (fun h => ((fun (hx : X0 b13) => nl hlo93 (hX0 _ hx)))  h) (fun h => ((fun (hx : X0 b13) => nl hlo93 (hX0 _ hx)))  h)) (fun h => nl h (hk95.lt)))
   have hk97 := ho79.grown hg85 hx82 (rowne ap96)
   have hx98 := ltx hx82 hg85.size
   exact ⟨grown_of_below hB94, a77, c78, X80, rfl, hk97, (fun k hk => ⟨hx98 k hk, hx83 k hk⟩)⟩
  ·replace h0 := ite_f hc64 h0
   refine gv_skip <| gv_blk <| gv_seq <| gv_drawA (by kernel_rfl) ?_
   intro w99 hg100
   refine gv_pre [0, 2, 4] (bA 9 [0, 2, 4]) 6 (by kernel_rfl) (by kernel_rfl) ?_
   refine gv_pureN 3 [34, 36, 38] [(34, (bp b7)), (36, (.pointer (some ⟨b7, 1, none⟩))), (38, (.pointer (some ⟨b1, 1, none⟩)))] (by kernel_rfl) ?_
   refine gv_nil <| gv_goA ?_
   refine gv_stage (Cls w99 []) [0, 1, 2, 3, 4, 5, 6] [(1, some true), (3, some true), (5, some true), (6, some false)] (bA 9 [0, 1, 2, 3, 4, 5, 6]) 2 (by kernel_rfl) (by kernel_rfl) (Cls.refl _ _) ?_
   have hC101 := Cls.refl w99 []
   have hg102 := (grown_trans hg62 hg100)
   have hk103 := hk21.grown hg102 nb
   refine gv_load (t := 4) (A := ⟨b7, 0, none⟩) (.bool b_1.1) [] (fun e => by cases e) rfl rfl rfl (by kernel_rfl) (by kernel_rfl) (by kernel_rfl) (inw1 fun w' hC' => ((hC'.box hk103 nm_nil).cell 0 rfl)) rfl ?_
   refine gv_load (t := 47) (A := ⟨b7, 1, none⟩) (.slice pa1_0 (List.length b_1.2) pc1_0) [] (fun e => by cases e) rfl rfl rfl (by kernel_rfl) (by kernel_rfl) (by kernel_rfl) (inw1 fun w' hC' => ((hC'.box hk103 nm_nil).cell 1 rfl)) rfl ?_
   have hk104 := hk20.grown hg102 nb
   refine gv_load (t := 47) (A := ⟨b1, 1, none⟩) (.slice pa0_0 (List.length a_0.2) pc0_0) [] (fun e => by cases e) rfl rfl rfl (by kernel_rfl) (by kernel_rfl) (by kernel_rfl) (inw1 fun w' hC' => ((hC'.box hk104 nm_nil).cell 1 rfl)) rfl ?_
   refine bindE h0 ?_; clear h0; intro r105 hr106 h0
   have hB107 := bg hB60 hg102 nb
   refine gv_call (f := 54) (vs := [(.slice pa1_0 (List.length b_1.2) pc1_0), (.slice pa0_0 (List.length a_0.2) pc0_0)]) (cap := []) _ (by decide) rfl rfl rfl (by kernel_rfl) (by kernel_rfl) enters54 (ref3_Minus_ok fuel pa1_0 pc1_0 b_1.2 pa0_0 pc0_0 a_0.2 w99 (fun k => X0 k ∨ X0 k) (fun k hk => (hk).elim (fun h => (fun k (hk : X0 k) => ltl (hX0 k hk) hB107.size) k h) (fun h => (fun k (hk : X0 k) => ltl (hX0 k hk) hB107.size) k h)) ((hpa1_0.below hB107 hX0).wide (fun k hk => (.inl hk))) ((hpa0_0.below hB107 hX0).wide (fun k hk => (.inr hk))) r105 hr106) ?_
   rintro v110 w108 ⟨hg109, a111, c112, X114, rfl, ho113, hx115⟩
   refine ⟨(fun _ => hC101.grown hg109 nb), ?_⟩
   have hx116 : ∀ k, X114 k → k < w108.heap.size := fun k hk => (hx115 k hk).1
   have hx117 : ∀ k, X114 k → X0 k ∨ w0.heap.size ≤ k := fun k hk => (hx115 k hk).2.elim (fun h => (h).elim (fun h => (fun k (hk : X0 k) => Or.inl hk) k h) (fun h => (fun k (hk : X0 k) => Or.inl hk) k h)) (fun h => .inr (Nat.le_trans hB107.size h))
   refine gv_nil <| gv_goA ?_
   refine gv_pre [7] (bA 9 [0, 1, 2, 3, 4, 5, 6, 7]) 1 (by kernel_rfl) (by kernel_rfl) ?_
   refine gv_pureN 1 [41] [(41, (.agg #[(.bool b_1.1), (.slice a111 (List.length r105) c112)]))] (by kernel_rfl) ?_
   refine gv_nil <| gv_goA ?_
   refine gv_stage (fun _ => True) [0, 1, 2, 3, 4, 5, 6, 7, 8] [(8, some false)] (bA 9 [0, 1, 2, 3, 4, 5, 6, 7, 8]) 0 (by kernel_rfl) (by kernel_rfl) trivial ?_
   have hg122 := (grown_trans hg102 hg109)
   have hk123 := hb16.grown hg122 nb
   refine gv_store (t := 49) (b := b13) (off := 0) (v := (.agg #[(.bool b_1.1), (.slice a111 (List.length r105) c112)])) (t' := 49) (cs := #[(.bool false), (.slice none (List.length ([] : List Int)) 0)]) #[(.bool b_1.1), (.slice a111 (List.length r105) c112)] (by decide) rfl rfl (by kernel_rfl) (by kernel_rfl) (by kernel_rfl) (by intro u hu; simp [Value.cells] at hu; rcases hu with rfl | rfl <;> rfl) (show 0 + 2 ≤ 2 by decide) (by rfl) hk123 ?_
   intro w118 hg119 hb120 hz121
   refine ⟨(fun _ => trivial), ?_⟩
   refine gv_nil <| gv_goA ?_
   refine gv_stageE (by kernel_rfl) ?_
   refine gv_cret ?_
   have e := sj h0; subst e
   refine gv_ret (gv_done [(.agg #[(.bool b_1.1), (.slice a111 (List.length r105) c112)])] rfl ⟨⟨⟨b13, 0, none⟩, (by kernel_rfl), run_loadVar_row w118 b13 _ 49 _ _ _ hb120 Try.underlying49 rfl (by kernel_rfl)⟩, trivial⟩ ?_)
   have hB124 := bg hB107 hg109 nb
   have hg125 := (grown_trans hg3 hg9)
   have hB126 := bg hB0 hg125 nb
   have hlo127 : w0.heap.size ≤ b13 := lob hbe17 hB126.size
   have hB128 := bg hB124 hg119 (rowlo hlo127)
   have hk129 := hb16.grown hg102 nb
   have ap130 : ¬ X114 b13 := fun h => ((hx115 _ h).2.elim (fun h => (h).elim (fun h => ((fun (hx : X0 b13) => nl hlo127 (hX0 _ hx)))  h) (fun h => ((fun (hx : X0 b13) => nl hlo127 (hX0 _ hx)))  h)) (fun h => nl h (hk129.lt)))
   have hk131 := ho113.grown hg119 hx116 (rowne ap130)
   have hx132 := ltx hx116 hg119.size
   exact ⟨grown_of_below hB128, a111, c112, X114, rfl, hk131, (fun k hk => ⟨hx132 k hk, hx117 k hk⟩)⟩

theorem ref3_Ones_ok (fuel : Nat) (pa0_0 : Option Addr) (pc0_0 : Nat) (a_0 : (List Int)) (w0 : World) (X0 : Nat → Prop) (hX0 : ∀ k, X0 k → k < w0.heap.size) (hpa0_0 : Rd (iE .i64) w0 X0 pa0_0 pc0_0 a_0) (r0 : (List Bool)) (h0 : ref3_Ones fuel a_0 = some r0) :
    Calls Try.prog 48 ([(.slice pa0_0 (List.length a_0) pc0_0)] : List Value).toArray w0 (Ret fun v w' => w0.grownBy w' none ∧ ∃ (a0_0r : Option Addr) (c0_0r : Nat), v = tup [(.slice a0_0r (List.length r0) c0_0r)] ∧ Own tE 4 w' (fun _ => False) a0_0r c0_0r r0 ∧ (∀ g, blk a0_0r = some g → w0.heap.size ≤ g)) := by
 have hB0 : Below w0.heap.size w0 w0 := Below.refl _ _
 unfold ref3_Ones at h0
 refine calls_run Try.func48 rfl Try.ntmps48 (by kernel_rfl) ?_
 refine gv_sub [0] (σ' := [(0, (.slice pa0_0 (List.length a_0) pc0_0))]) (by kernel_rfl) ?_
 refine gv_seq <| gv_region <| gv_pureN 1 [2] [] (by kernel_rfl) ?_
 refine gv_nil <| gv_seq <| gv_region <| gv_pureN 1 [3] [(3, (.slice none (List.length ([] : List Bool)) 0))] (by kernel_rfl) ?_
 refine gv_nil <| gv_seq <| gv_seq <| gv_region <| gv_pureN 1 [4] [(4, (.int .i64 0))] (by kernel_rfl) ?_
 refine gv_nil <| bindE h0 ?_; clear h0; intro j1 h1 h0
 refine gv_cut_code (J := fun a w2 => ∃ (a3_0j : Option Addr) (c3_0j : Nat), Below w0.heap.size w0 w2 ∧ w0.heap.size ≤ w2.heap.size ∧ Own tE 4 w2 (fun _ => False) a3_0j c3_0j j1 ∧ (∀ g, blk a3_0j = some g → w0.heap.size ≤ g) ∧ a.defers = [] ∧ a.tmps.size = 47 ∧ Ok [(3, (.slice a3_0j (List.length j1) c3_0j))] a.tmps) ?_ ?_
 ·skip
  refine gv_block <| gv_loop (A := fun (s3 : ((List Bool) × Int)) a w4 => ∃ (a3_0j : Option Addr) (c3_0j : Nat), Below w0.heap.size w0 w4 ∧ w0.heap.size ≤ w4.heap.size ∧ Own tE 4 w4 (fun _ => False) a3_0j c3_0j s3.1 ∧ (∀ g, blk a3_0j = some g → w0.heap.size ≤ g) ∧ a.defers = [] ∧ a.tmps.size = 47 ∧ Ok [(0, (.slice pa0_0 (List.length a_0) pc0_0)), (3, (.slice a3_0j (List.length s3.1) c3_0j)), (4, (.int .i64 s3.2))] a.tmps) h1 ?_ ?_
  ·intro a hd hs hok
   exact ⟨none, 0, hB0, (Nat.le_refl _), (Own.nil tE 4 w0 (fun _ => False)), (fun _ h => by cases h), hd, hs, ok_pick [0, 3, 4] hok (by kernel_rfl)⟩
  ·rintro s3 r2 h2 hR2 a w4 ⟨a7, c8, hB5, hz6, ho9, hl10, hd, hs, hok⟩
   refine gv_in ?_ hd hs hok
   clear hd hs hok
   refine gv_seq <| gv_seq <| gv_region <| gv_pureN 4 [7, 8, 9, 10] [(10, (.bool (decide (s3.2 < ((List.length a_0 : Nat) : Int)))))] (by kernel_rfl) ?_
   refine gv_nil <| gv_cond (b := (decide (s3.2 < ((List.length a_0 : Nat) : Int)))) (by kernel_rfl) (fun hc11 => ?_) (fun hc11 => ?_)
   ·replace h2 := ite_t hc11 h2
    refine gv_skip <| gv_seq <| gv_block <| gv_seq <| gv_region <| gv_pureN 2 [13, 14] [(13, (.slice pa0_0 (List.length a_0) pc0_0)), (14, (.int .i64 s3.2))] (by kernel_rfl) ?_
    refine bindE h2 ?_; clear h2; intro x12 hx13 h2
    refine gv_idxaddr (t := 47) (e := 3) (a := pa0_0) (len := List.length a_0) (cap := pc0_0) (kk := .i64) (i := s3.2) (sz := 1) [] (fun e => by cases e) rfl rfl rfl (by kernel_rfl) (by kernel_rfl) Try.underlying47 (by kernel_rfl) ((hpa0_0.below hB5 hX0).has hx13) (idx_spec hx13).1 (idx_spec hx13).2.1 rfl ?_
    refine gv_load (t := 3) (A := (elemAddr pa0_0 ((s3.2).toNat * 1))) (.int .i64 x12) [] (fun e => by cases e) rfl rfl rfl (by kernel_rfl) (by kernel_rfl) (by kernel_rfl) (inw0 ((hpa0_0.below hB5 hX0).cell hx13)) rfl ?_
    refine gv_pureN 1 [5] [(5, (.int .i64 x12))] (by kernel_rfl) ?_
    refine gv_nil <| gv_seq <| gv_region <| gv_pureN 1 [6] [(6, (.int .i64 0))] (by kernel_rfl) ?_
    refine gv_nil <| bindE h2 ?_; clear h2; intro j14 h3 h2
    refine gv_cut_code (J := fun a w15 => ∃ (a3_0j : Option Addr) (c3_0j : Nat), Below w0.heap.size w0 w15 ∧ w4.heap.size ≤ w15.heap.size ∧ Own tE 4 w15 (fun _ => False) a3_0j c3_0j j14 ∧ (∀ g, blk a3_0j = some g → w0.heap.size ≤ g) ∧ a.defers = [] ∧ a.tmps.size = 47 ∧ Ok [(0, (.slice pa0_0 (List.length a_0) pc0_0)), (3, (.slice a3_0j (List.length j14) c3_0j)), (4, (.int .i64 s3.2))] a.tmps) ?_ ?_
    ·skip
     refine gv_block <| gv_loop (A := fun (s16 : ((List Bool) × Int × Int)) a w17 => ∃ (a3_0j : Option Addr) (c3_0j : Nat), Below w0.heap.size w0 w17 ∧ w4.heap.size ≤ w17.heap.size ∧ Own tE 4 w17 (fun _ => False) a3_0j c3_0j s16.1 ∧ (∀ g, blk a3_0j = some g → w0.heap.size ≤ g) ∧ a.defers = [] ∧ a.tmps.size = 47 ∧ Ok [(0, (.slice pa0_0 (List.length a_0) pc0_0)), (3, (.slice a3_0j (List.length s16.1) c3_0j)), (4, (.int .i64 s3.2)), (5, (.int .i64 s16.2.1)), (6, (.int .i64 s16.2.2))] a.tmps) h3 ?_ ?_
     ·intro a hd hs hok
      exact ⟨a7, c8, hB5, (Nat.le_refl _), ho9, hl10, hd, hs, ok_pick [0, 3, 4, 5, 6] hok (by kernel_rfl)⟩
     ·rintro s16 r4 h4 hR4 a w17 ⟨a20, c21, hB18, hz19, ho22, hl23, hd, hs, hok⟩
      refine gv_in ?_ hd hs hok
      clear hd hs hok
      clear hx13 hc11 hl10 ho9 hB5
      refine gv_seq <| gv_seq <| gv_region <| gv_pureN 2 [17, 18] [(18, (.bool (decide (s16.2.2 < 16))))] (by kernel_rfl) ?_
      refine gv_nil <| gv_cond (b := (decide (s16.2.2 < 16))) (by kernel_rfl) (fun hc24 => ?_) (fun hc24 => ?_)
      ·replace h4 := ite_t hc24 h4
       refine gv_skip <| gv_seq <| gv_block <| gv_seq <| gv_region <| gv_pureN 4 [21, 22, 23, 24] [(21, (.slice a20 (List.length s16.1) c21)), (24, (.bool (((s16.2.1).tmod 2) == 1)))] (by kernel_rfl) ?_
       refine gv_new0 (fun b => .slice (some ⟨b, 0, none⟩) 1 1) #[(.bool (((s16.2.1).tmod 2) == 1))] 4 (by kernel_rfl) (by kernel_rfl) ?_
       intro b25 w26 hg27 hb28 hbe29 hz30
       have ho31 : Own tE 4 w26 (fun _ => False) (some ⟨b25, 0, none⟩) 1 ([(((s16.2.1).tmod 2) == 1)] : List Bool) := Box.ownE hb28 ⟨[(.bool (((s16.2.1).tmod 2) == 1))], [], rfl, rfl, rfl⟩ (show 1 ≤ maxLen by decide) (fun h => h)
       have hl32 : ∀ g, blk (some ⟨b25, 0, none⟩) = some g → w0.heap.size ≤ g := loo hbe29 hB18.size
       refine bindE h4 ?_; clear h4; intro l36 hx37 h4
       have hk44 := ho22.grown hg27 (fun _ h => h.elim) nb
       refine gv_append tE (t := 67) (ty := 67) (e := 4) (a := a20) (ax := (some ⟨b25, 0, none⟩)) (cap := c21) (cx := 1) (xs := s16.1) (ys := ([(((s16.2.1).tmod 2) == 1)] : List Bool)) l36 (X := (fun _ => False)) (Y := (fun k => blk (some ⟨b25, 0, none⟩) = some k)) (by decide) rfl rfl (by kernel_rfl) (by kernel_rfl) Try.underlying67 info4 hk44 (ho31.rd (Y := fun k => blk (some ⟨b25, 0, none⟩) = some k) (fun _ h => h.elim) (fun g e => e)) hx37 (.inr fun _ _ _ _ _ h => h) (fun _ h => h.elim) ?_
       intro a38 c39 w40 hg41 ho42 hk43
       refine ⟨(fun e => by cases e), ?_⟩
       have hB46 := bg hB18 hg27 nb
       have hl45 : ∀ g, blk a38 = some g → w0.heap.size ≤ g := blk_step hk43 hl23 hB46.size
       have ap48 : ∀ g, blk a20 = some g → ¬ (fun k => blk (some ⟨b25, 0, none⟩) = some k) g := fun g e hx => nl ((lowo hbe29) _ hx) ((fun k (hk : blk a20 = some k) => ho22.lt k hk) g e)
       have ap47 : ∀ g, blk a38 = some g → ¬ (fun k => blk (some ⟨b25, 0, none⟩) = some k) g := blk_neX hk43 ap48 (fun k (hk : blk (some ⟨b25, 0, none⟩) = some k) => ho31.lt k hk)
       have ap50 : ∀ g, blk (some ⟨b25, 0, none⟩) = some g → ¬ (fun k => blk a20 = some k) g := fun g e hx => nl ((lowo hbe29) g e) ((fun k (hk : blk a20 = some k) => ho22.lt k hk) _ hx)
       have ap49 : ∀ g, blk (some ⟨b25, 0, none⟩) = some g → ¬ (fun k => blk a38 = some k) g := fun g e h => blk_rev hk43 (fun h => ((ap50) g e) h) (ho31.lt g e) h
       refine gv_pureN 1 [3] [(3, (.slice a38 (List.length l36) c39))] (by kernel_rfl) ?_
       refine gv_nil <| gv_region <| gv_pureN 3 [5, 27, 28] [(5, (.int .i64 (IntKind.i64.wrap ((s16.2.1).tdiv 2))))] (by kernel_rfl) ?_
       refine gv_nil <| gv_blk <| gv_region <| gv_pureN 3 [6, 19, 20] [(6, (.int .i64 (IntKind.i64.wrap (s16.2.2 + 1))))] (by kernel_rfl) ?_
       refine gv_nil ?_
       have e := sj h4; subst e
       refine gv_goal fun a hd hs hok => ?_
       have hB51 := bg hB46 hg41 hl23
       have hz52 := (nt (nt hz19 hg27.size) hg41.size)
       exact ⟨(l36, (IntKind.i64.wrap ((s16.2.1).tdiv 2)), (IntKind.i64.wrap (s16.2.2 + 1))), rfl, a38, c39, hB51, hz52, ho42, hl45, hd, hs, ok_pick [0, 3, 4, 5, 6] hok (by kernel_rfl)⟩
      ·replace h4 := ite_f hc24 h4
       refine gv_cexit <| gv_exit rfl ?_
       have e := sj h4; subst e
       replace h3 := congrArg some (hR4 _ rfl)
       have e := sj h3; subst e
       refine gv_goal fun a hd hs hok => ?_
       have hz53 := hz19
       exact ⟨a20, c21, hB18, hz53, ho22, hl23, hd, hs, ok_pick [0, 3, 4] hok (by kernel_rfl)⟩
    ·rintro a w15 ⟨a56, c57, hB54, hz55, ho58, hl59, hd, hs, hok⟩
     refine gv_in ?_ hd hs hok
     clear hd hs hok
     have hz60 := (nt hz6 hz55)
     clear hz55 hx13 hc11 hl10 ho9 hz6 hB5
     refine gv_blk <| gv_region <| gv_pureN 3 [4, 11, 12] [(4, (.int .i64 (IntKind.i64.wrap (s3.2 + 1))))] (by kernel_rfl) ?_
     refine gv_nil ?_
     have e := sj h2; subst e
     refine gv_goal fun a hd hs hok => ?_
     have hz61 := hz60
     exact ⟨(j14, (IntKind.i64.wrap (s3.2 + 1))), rfl, a56, c57, hB54, hz61, ho58, hl59, hd, hs, ok_pick [0, 3, 4] hok (by kernel_rfl)⟩
   ·replace h2 := ite_f hc11 h2
    refine gv_cexit <| gv_exit rfl ?_
    have e := sj h2; subst e
    replace h1 := congrArg some (hR2 _ rfl)
    have e := sj h1; subst e
    refine gv_goal fun a hd hs hok => ?_
    have hz62 := hz6
    exact ⟨a7, c8, hB5, hz62, ho9, hl10, hd, hs, ok_pick [3] hok (by kernel_rfl)⟩
 ·rintro a w2 ⟨a65, c66, hB63, hz64, ho67, hl68, hd, hs, hok⟩
  refine gv_in ?_ hd hs hok
  clear hd hs hok
  refine gv_seq <| bindE h0 ?_; clear h0; intro j69 h1 h0
  refine gv_cut_code (J := fun a w70 => ∃ (a3_0j : Option Addr) (c3_0j : Nat), Below w0.heap.size w0 w70 ∧ w2.heap.size ≤ w70.heap.size ∧ Own tE 4 w70 (fun _ => False) a3_0j c3_0j j69 ∧ (∀ g, blk a3_0j = some g → w0.heap.size ≤ g) ∧ a.defers = [] ∧ a.tmps.size = 47 ∧ Ok [(3, (.slice a3_0j (List.length j69) c3_0j))] a.tmps) ?_ ?_
  ·skip
   refine gv_block <| gv_loop (A := fun (s71 : (List Bool)) a w72 => ∃ (a3_0j : Option Addr) (c3_0j : Nat), Below w0.heap.size w0 w72 ∧ w2.heap.size ≤ w72.heap.size ∧ Own tE 4 w72 (fun _ => False) a3_0j c3_0j s71 ∧ (∀ g, blk a3_0j = some g → w0.heap.size ≤ g) ∧ a.defers = [] ∧ a.tmps.size = 47 ∧ Ok [(3, (.slice a3_0j (List.length s71) c3_0j))] a.tmps) h1 ?_ ?_
   ·intro a hd hs hok
    exact ⟨a65, c66, hB63, (Nat.le_refl _), ho67, hl68, hd, hs, ok_pick [3] hok (by kernel_rfl)⟩
   ·rintro s71 r2 h2 hR2 a w72 ⟨a75, c76, hB73, hz74, ho77, hl78, hd, hs, hok⟩
    refine gv_in ?_ hd hs hok
    clear hd hs hok
    clear hl68 ho67 hz64 hB63
    refine gv_seq <| gv_seq <| gv_region <| bindE h2 ?_; clear h2; intro j79 h3 h2
    refine gv_cut_ops (J := fun a w80 => Below w0.heap.size w0 w80 ∧ w72.heap.size ≤ w80.heap.size ∧ Own tE 4 w80 (fun _ => False) a75 c76 s71 ∧ a.defers = [] ∧ a.tmps.size = 47 ∧ Ok [(3, (.slice a75 (List.length s71) c76)), (40, (.bool j79))] a.tmps) ?_ ?_
    ·skip
     refine gv_pureN 4 [29, 30, 31, 32] [(32, (.bool (decide (((List.length s71 : Nat) : Int) > 0))))] (by kernel_rfl) ?_
     refine gv_split (s := 32) (g := (decide (((List.length s71 : Nat) : Int) > 0))) (by kernel_rfl) (fun hc81 => ?_) (fun hc81 => ?_)
     ·skip
      replace h3 := ite_t hc81 h3
      refine gv_pureN 4 [33, 34, 35, 36] [(33, (.slice a75 (List.length s71) c76)), (36, (.int .i64 (IntKind.i64.wrap (((List.length s71 : Nat) : Int) - 1))))] (by kernel_rfl) ?_
      refine bindE h3 ?_; clear h3; intro x82 hx83 h3
      refine gv_idxaddr (t := 67) (e := 4) (a := a75) (len := List.length s71) (cap := c76) (kk := .i64) (i := (IntKind.i64.wrap (((List.length s71 : Nat) : Int) - 1))) (sz := 1) [] (fun e => by cases e) rfl rfl rfl (by kernel_rfl) (by kernel_rfl) Try.underlying67 (by kernel_rfl) ((ho77.rd (Y := fun k => blk a75 = some k) (fun _ h => h.elim) (fun g e => e)).has hx83) (idx_spec hx83).1 (idx_spec hx83).2.1 rfl ?_
      refine gv_load (t := 4) (A := (elemAddr a75 (((IntKind.i64.wrap (((List.length s71 : Nat) : Int) - 1))).toNat * 1))) (.bool x82) [] (fun e => by cases e) rfl rfl rfl (by kernel_rfl) (by kernel_rfl) (by kernel_rfl) (inw0 ((ho77.rd (Y := fun k => blk a75 = some k) (fun _ h => h.elim) (fun g e => e)).cell hx83)) rfl ?_
      refine gv_pureN 2 [39, 40] [(40, (.bool (!x82)))] (by kernel_rfl) ?_
      refine gv_nil ?_
      have e := sj h3; subst e
      refine gv_goal fun a hd hs hok => ?_
      exact ⟨hB73, (Nat.le_refl _), ho77, hd, hs, ok_pick [3, 40] hok (by kernel_rfl)⟩
     ·skip
      replace h3 := ite_f hc81 h3
      refine gv_pureN 8 [33, 34, 35, 36, 37, 38, 39, 40] [(40, (.bool false))] (by kernel_rfl) ?_
      refine gv_nil ?_
      have e := sj h3; subst e
      refine gv_goal fun a hd hs hok => ?_
      exact ⟨hB73, (Nat.le_refl _), ho77, hd, hs, ok_pick [3, 40] hok (by kernel_rfl)⟩
    ·rintro a w80 ⟨hB84, hz85, hk86, hd, hs, hok⟩
     refine gv_in ?_ hd hs hok
     clear hd hs hok
     have hz87 := (nt hz74 hz85)
     clear hz85 ho77 hz74 hB73
     refine gv_cond (b := j79) (by kernel_rfl) (fun hc88 => ?_) (fun hc88 => ?_)
     ·replace h2 := ite_t hc88 h2
      refine gv_skip <| gv_block <| gv_region <| gv_pureN 4 [41, 42, 43, 44] [(41, (.slice a75 (List.length s71) c76)), (44, (.int .i64 (IntKind.i64.wrap (((List.length s71 : Nat) : Int) - 1))))] (by kernel_rfl) ?_
      refine bindE h2 ?_; clear h2; intro x89 hx90 h2
      refine gv_pop tE (t := 67) (e := 4) (xs := s71) (a := a75) (cap := c76) (lo := none) (hi := (some (.int .i64 (IntKind.i64.wrap (((List.length s71 : Nat) : Int) - 1))))) (IntKind.i64.wrap (((List.length s71 : Nat) : Int) - 1)) x89 (fun e => by cases e) rfl rfl rfl (by kernel_rfl) (by kernel_rfl) Try.underlying67 (by kernel_rfl) (.inl ⟨rfl, rfl⟩) (.inr ⟨_, rfl⟩) hx90 (hk86.rd (Y := fun k => blk a75 = some k) (fun _ h => h.elim) (fun g e => e)).1 ?_
      have ho91 := hk86.pop hx90
      refine gv_pureN 1 [3] [(3, (.slice a75 (List.length x89) c76))] (by kernel_rfl) ?_
      refine gv_nil <| gv_blk ?_
      have e := sj h2; subst e
      refine gv_goal fun a hd hs hok => ?_
      have hz92 := hz87
      exact ⟨x89, rfl, a75, c76, hB84, hz92, ho91, hl78, hd, hs, ok_pick [3] hok (by kernel_rfl)⟩
     ·replace h2 := ite_f hc88 h2
      refine gv_cexit <| gv_exit rfl ?_
      have e := sj h2; subst e
      replace h1 := congrArg some (hR2 _ rfl)
      have e := sj h1; subst e
      refine gv_goal fun a hd hs hok => ?_
      have hz93 := hz87
      exact ⟨a75, c76, hB84, hz93, hk86, hl78, hd, hs, ok_pick [3] hok (by kernel_rfl)⟩
  ·rintro a w70 ⟨a96, c97, hB94, hz95, ho98, hl99, hd, hs, hok⟩
   refine gv_in ?_ hd hs hok
   clear hd hs hok
   clear hz95 hl68 ho67 hz64 hB63
   refine gv_seq <| gv_region <| gv_pureN 2 [2, 46] [(2, (.slice a96 (List.length j69) c97))] (by kernel_rfl) ?_
   refine gv_nil <| gv_cret ?_
   have e := sj h0; subst e
   refine gv_ret (gv_done [(.slice a96 (List.length j69) c97)] rfl ⟨(by kernel_rfl), trivial⟩ ?_)
   exact ⟨grown_of_below hB94, a96, c97, rfl, ho98, hl99⟩

end Go.Proofs.Ytenjigdaaeiklaa
