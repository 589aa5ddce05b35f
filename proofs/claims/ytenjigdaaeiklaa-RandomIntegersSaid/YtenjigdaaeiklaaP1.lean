import Derived.Test.YtenjigdaaeiklaaP0
set_option linter.all false
set_option maxHeartbeats 4000000
set_option maxRecDepth 100000
/- Own work, printed by a program of mine: the walk of each function: a call returns what the plain function says. -/
namespace Go.Proofs.Ytenjigdaaeiklaa
open Go.Gv Go.Gv.D Go.RowKit
theorem integer_Cmp_ok (fuel : Nat) (pa0_0 : Option Addr) (pc0_0 : Nat) (a_0 : (Bool × (List Int))) (pa1_0 : Option Addr) (pc1_0 : Nat) (b_1 : (Bool × (List Int))) (w0 : World) (X0 : Nat → Prop) (hX0 : ∀ k, X0 k → k < w0.heap.size) (hpa0_0 : Rd (iE .u32) w0 X0 pa0_0 pc0_0 a_0.2) (hpa1_0 : Rd (iE .u32) w0 X0 pa1_0 pc1_0 b_1.2) (r0 : (Int × (Int × Int))) (h0 : integer_Cmp fuel a_0 b_1 = some r0) :
    Calls Try.prog 44 ([(.agg #[(.bool a_0.1), (.slice pa0_0 (List.length a_0.2) pc0_0)]), (.agg #[(.bool b_1.1), (.slice pa1_0 (List.length b_1.2) pc1_0)])] : List Value).toArray w0 (Ret fun v w' => w0.grownBy w' none ∧ v = tup [(.int .i64 r0.1), (.agg #[(.int .i64 r0.2.1), (.int .i64 r0.2.2)])]) := by
 have hB0 : Below w0.heap.size w0 w0 := Below.refl _ _
 unfold integer_Cmp at h0
 refine calls_run Try.func44 rfl Try.ntmps44 (by kernel_rfl) ?_
 refine gv_sub [0, 1] (σ' := [(0, (.agg #[(.bool a_0.1), (.slice pa0_0 (List.length a_0.2) pc0_0)])), (1, (.agg #[(.bool b_1.1), (.slice pa1_0 (List.length b_1.2) pc1_0)]))]) (by kernel_rfl) ?_
 refine gv_seq <| gv_region <| gv_new0 (fun b => .pointer (some ⟨b, 0, none⟩)) #[(.bool a_0.1), (.slice pa0_0 (List.length a_0.2) pc0_0)] 24 (by kernel_rfl) (by kernel_rfl) ?_
 intro b1 w2 hg3 hb4 hbe5 hz6
 refine gv_new0 (fun b => .pointer (some ⟨b, 0, none⟩)) #[(.bool b_1.1), (.slice pa1_0 (List.length b_1.2) pc1_0)] 24 (by kernel_rfl) (by kernel_rfl) ?_
 intro b7 w8 hg9 hb10 hbe11 hz12
 refine gv_pureN 1 [4] [] (by kernel_rfl) ?_
 refine gv_new0 (fun b => .pointer (some ⟨b, 0, none⟩)) #[(.int .i64 0), (.int .i64 0)] 29 (by kernel_rfl) (by kernel_rfl) ?_
 intro b13 w14 hg15 hb16 hbe17 hz18
 refine gv_nil <| gv_seq <| gv_seq <| gv_region ?_
 have hg19 := (grown_trans hg9 hg15)
 have hk20 := hb4.grown hg19 nb
 refine gv_loadBox (t := 24) (b := b1) (t' := 24) (fr := (0, 0)) #[(.bool a_0.1), (.slice pa0_0 (List.length a_0.2) pc0_0)] [] (fun e => by cases e) rfl rfl rfl (by kernel_rfl) (by kernel_rfl) (by kernel_rfl) (by kernel_rfl) (inw0 hk20) rfl ?_
 have hk21 := hb10.grown hg15 nb
 refine gv_loadBox (t := 24) (b := b7) (t' := 24) (fr := (0, 0)) #[(.bool b_1.1), (.slice pa1_0 (List.length b_1.2) pc1_0)] [] (fun e => by cases e) rfl rfl rfl (by kernel_rfl) (by kernel_rfl) (by kernel_rfl) (by kernel_rfl) (inw0 hk21) rfl ?_
 refine gv_new0 (fun b => .slice (some ⟨b, 0, none⟩) 2 2) #[(.bool a_0.1), (.slice pa0_0 (List.length a_0.2) pc0_0), (.bool b_1.1), (.slice pa1_0 (List.length b_1.2) pc1_0)] 24 (by kernel_rfl) (by kernel_rfl) ?_
 intro b22 w23 hg24 hb25 hbe26 hz27
 obtain ⟨X33, e⟩ : ∃ X : Nat → Prop, X = (fun k => X0 k) := ⟨_, rfl⟩
 have hg34 := (grown_trans hg3 hg19)
 have hB35 := bg hB0 hg34 nb
 have hx31 : ∀ k, X33 k → k < w14.heap.size := fun k h => by rw [e] at h; exact (fun k (hk : X0 k) => ltl (hX0 k hk) hB35.size) k h
 have hz36 := hg24.size
 have hx30 : ∀ k, X33 k → k < w23.heap.size := fun k h => ltl (hx31 k h) hz36
 have hx32 : ∀ k, X33 k → X0 k ∨ w0.heap.size ≤ k := fun k h => by rw [e] at h; exact (fun k (hk : X0 k) => Or.inl hk) k h
 have hB37 := bg hB35 hg24 nb
 have ho28 : Own (prE tE (slE (iE .u32))) 24 w23 X33 (some ⟨b22, 0, none⟩) 2 ([(a_0.1, a_0.2), (b_1.1, b_1.2)] : List (Bool × (List Int))) := Box.ownE hb25 (by rw [e]; exact ⟨[(.bool a_0.1), (.slice pa0_0 (List.length a_0.2) pc0_0)], [(.bool b_1.1), (.slice pa1_0 (List.length b_1.2) pc1_0)], rfl, ⟨[(.bool a_0.1)], [(.slice pa0_0 (List.length a_0.2) pc0_0)], rfl, rfl, ⟨pa0_0, pc0_0, rfl, ((hpa0_0.below hB37 hX0).wide (fun _ h => h))⟩⟩, ⟨[(.bool b_1.1), (.slice pa1_0 (List.length b_1.2) pc1_0)], [], rfl, ⟨[(.bool b_1.1)], [(.slice pa1_0 (List.length b_1.2) pc1_0)], rfl, rfl, ⟨pa1_0, pc1_0, rfl, ((hpa1_0.below hB37 hX0).wide (fun _ h => h))⟩⟩, rfl⟩⟩) (show 2 ≤ maxLen by decide) (fun h => noteq hbe26 (hx31 _ h))
 have hx38 : ∀ k, X33 k → (fun k => X0 k) k := fun k h => by rw [e] at h; exact h
 clear e
 have hl29 : ∀ g, blk (some ⟨b22, 0, none⟩) = some g → w0.heap.size ≤ g := loo hbe26 hB35.size
 have ap39 : ∀ g, blk (some ⟨b22, 0, none⟩) = some g → ¬ (· = b1) g := fun g e hx => nl (lowo hbe26 g e) ((ltb hk20) _ hx)
 have hlo41 : w0.heap.size ≤ b1 := lob hbe5 hB0.size
 have ap40 : ¬ (fun k => blk (some ⟨b22, 0, none⟩) = some k ∨ X33 k) b1 := fun h => h.elim (fun h => nl (lowo hbe26 _ h) ((ltb hk20) _ rfl)) (fun h => ((fun (hx : X0 b1) => nl hlo41 (hX0 _ hx)))  (hx38 _ h))
 have ap42 : ∀ g, blk (some ⟨b22, 0, none⟩) = some g → ¬ (· = b7) g := fun g e hx => nl (lowo hbe26 g e) ((ltb hk21) _ hx)
 have hB44 := bg hB0 hg3 nb
 have hlo45 : w0.heap.size ≤ b7 := lob hbe11 hB44.size
 have ap43 : ¬ (fun k => blk (some ⟨b22, 0, none⟩) = some k ∨ X33 k) b7 := fun h => h.elim (fun h => nl (lowo hbe26 _ h) ((ltb hk21) _ rfl)) (fun h => ((fun (hx : X0 b7) => nl hlo45 (hX0 _ hx)))  (hx38 _ h))
 have ap46 : ∀ g, blk (some ⟨b22, 0, none⟩) = some g → ¬ (· = b13) g := fun g e hx => nl (lowo hbe26 g e) ((ltb hb16) _ hx)
 have hB48 := bg hB44 hg9 nb
 have hlo49 : w0.heap.size ≤ b13 := lob hbe17 hB48.size
 have ap47 : ¬ (fun k => blk (some ⟨b22, 0, none⟩) = some k ∨ X33 k) b13 := fun h => h.elim (fun h => nl (lowo hbe26 _ h) ((ltb hb16) _ rfl)) (fun h => ((fun (hx : X0 b13) => nl hlo49 (hX0 _ hx)))  (hx38 _ h))
 refine bindE h0 ?_; clear h0; intro r50 hr51 h0
 refine gv_call0 (by kernel_rfl) rfl (by kernel_rfl) enters62 (integer_check_ok fuel (some ⟨b22, 0, none⟩) 2 ([(a_0.1, a_0.2), (b_1.1, b_1.2)] : List (Bool × (List Int))) w23 (fun k => (fun k => blk (some ⟨b22, 0, none⟩) = some k ∨ X33 k) k) (fun k hk => (fun k (hk : blk (some ⟨b22, 0, none⟩) = some k ∨ X33 k) => hk.elim (fun h => ho28.lt k h) (fun h => hx30 k h)) k hk) ((ho28.rd (Y := fun k => blk (some ⟨b22, 0, none⟩) = some k ∨ X33 k) (fun _ h => .inr h) (fun g e => .inl e)).wide (fun k hk => hk)) r50 hr51) ?_
 rintro v54 w52 ⟨hg53, rfl⟩
 refine gv_new0 (fun b => .pointer (some ⟨b, 0, none⟩)) #[(.int .i64 0), (.int .i64 0)] 29 (by kernel_rfl) (by kernel_rfl) ?_
 intro b55 w56 hg57 hb58 hbe59 hz60
 refine gv_store0 29 0 (.agg #[(.int .i64 r50.1), (.int .i64 r50.2)]) #[(.int .i64 r50.1), (.int .i64 r50.2)] hb58 (by kernel_rfl) (by kernel_rfl) (by kernel_rfl) ?_
 intro w61 hg62 hb63 hz64
 refine gv_nil <| gv_seq <| gv_region <| gv_pureN 1 [13] [(13, (bp b55))] (by kernel_rfl) ?_
 refine gv_load (t := 3) (A := ⟨b55, 0, none⟩) (.int .i64 r50.1) [] (fun e => by cases e) rfl rfl rfl (by kernel_rfl) (by kernel_rfl) (by kernel_rfl) (inw0 (hb63.cell 0 rfl)) rfl ?_
 refine gv_pureN 1 [15] [(15, (.bool (r50.1 != 0)))] (by kernel_rfl) ?_
 refine gv_nil <| gv_cond (b := (r50.1 != 0)) (by kernel_rfl) (fun hc65 => ?_) (fun hc65 => ?_)
 ·replace h0 := ite_t hc65 h0
  refine gv_seq <| gv_drawA (by kernel_rfl) ?_
  intro w66 hg67
  refine gv_pre [1] (bA 3 [1]) 2 (by kernel_rfl) (by kernel_rfl) ?_
  clear hc65 hz64 hz60 hb58 hr51 ap47 hB48 ap46 ap43 hB44 ap42 ap40 ap39 hx38 hz36 hx31 hB35 hg34 hz27 hbe26 hb25 hg19 hz18 hg15 hz12 hg9 hz6 hbe5 hg3
  refine gv_pureN 1 [4] [(4, (.int .i64 0))] (by kernel_rfl) ?_
  refine gv_sub [4, 5, 6] (σ' := [(4, (.int .i64 0)), (5, (bp b13)), (6, (bp b55))]) (by kernel_rfl) ?_
  refine gv_nil <| gv_goA ?_
  refine gv_stage (Cls w66 []) [0, 1] [(0, some true)] (bA 3 [0, 1]) 1 (by kernel_rfl) (by kernel_rfl) (Cls.refl _ _) ?_
  have hC68 := Cls.refl w66 []
  have hk69 := hb63.grown hg67 nb
  refine gv_loadBox (t := 29) (b := b55) (t' := 29) (fr := (0, 0)) #[(.int .i64 r50.1), (.int .i64 r50.2)] [] (fun e => by cases e) rfl rfl rfl (by kernel_rfl) (by kernel_rfl) (by kernel_rfl) (by kernel_rfl) (inw1 fun w' hC' => (hC'.box hk69 nm_nil)) rfl ?_
  refine gv_nil <| gv_goA ?_
  refine gv_stage (fun _ => True) [0, 1, 2] [(2, some false)] (bA 3 [0, 1, 2]) 0 (by kernel_rfl) (by kernel_rfl) trivial ?_
  have hg74 := (grown_trans (grown_trans hg24 hg53) hg57)
  have hg75 := (grown_trans hg24 hg53)
  have hk76 := hb16.grown hg75 nb
  have lt77 := ltl ((ltb hk76) _ rfl) ((lowb hbe59) _ rfl)
  have hk78 := ((hb16.grown hg74 nb).grown hg62 (rowne (ng lt77))).grown hg67 nb
  refine gv_store (t := 29) (b := b13) (off := 0) (v := (.agg #[(.int .i64 r50.1), (.int .i64 r50.2)])) (t' := 29) (cs := #[(.int .i64 0), (.int .i64 0)]) #[(.int .i64 r50.1), (.int .i64 r50.2)] (by decide) rfl rfl (by kernel_rfl) (by kernel_rfl) (by kernel_rfl) (by intro u hu; simp [Value.cells] at hu; rcases hu with rfl | rfl <;> rfl) (show 0 + 2 ≤ 2 by decide) (by rfl) hk78 ?_
  intro w70 hg71 hb72 hz73
  refine ⟨(fun _ => trivial), ?_⟩
  refine gv_nil <| gv_goA ?_
  refine gv_stageE (by kernel_rfl) ?_
  refine gv_cret ?_
  have e := sj h0; subst e
  refine gv_ret (gv_done [(.int .i64 0), (.agg #[(.int .i64 r50.1), (.int .i64 r50.2)])] rfl ⟨(by kernel_rfl), ⟨⟨b13, 0, none⟩, (by kernel_rfl), run_loadVar_row w70 b13 _ 29 _ _ _ hb72 Try.underlying29 rfl (by kernel_rfl)⟩, trivial⟩ ?_)
  have hg79 := (grown_trans hg53 hg57)
  have hB80 := bg hB37 hg79 nb
  have hB81 := bg hB37 hg53 nb
  have hlo82 : w0.heap.size ≤ b55 := lob hbe59 hB81.size
  have hB83 := bg hB80 hg62 (rowlo hlo82)
  have hB84 := bg hB83 hg67 nb
  have hB85 := bg hB84 hg71 (rowlo hlo49)
  exact ⟨grown_of_below hB85, rfl⟩
 ·replace h0 := ite_f hc65 h0
  refine gv_skip <| gv_seq <| gv_region <| gv_pureN 1 [18] [(18, (.pointer (some ⟨b1, 1, none⟩)))] (by kernel_rfl) ?_
  refine gv_sub [2, 3, 5, 18] (σ' := [(2, (bp b1)), (3, (bp b7)), (5, (bp b13)), (18, (.pointer (some ⟨b1, 1, none⟩)))]) (by kernel_rfl) ?_
  have hg86 := (grown_trans (grown_trans hg24 hg53) hg57)
  have lt87 := ltl ((ltb hb4) _ rfl) ((lowb hbe11) _ rfl)
  have lt88 := ltl ((ltb hb10) _ rfl) ((lowb hbe17) _ rfl)
  have lt89 := ltt lt87 lt88
  have hg90 := (grown_trans hg24 hg53)
  have hk91 := hb16.grown hg90 nb
  have lt92 := ltl ((ltb hk91) _ rfl) ((lowb hbe59) _ rfl)
  have lt93 := ltt lt89 lt92
  have hk94 := (hk20.grown hg86 nb).grown hg62 (rowne (ng lt93))
  refine gv_load (t := 22) (A := ⟨b1, 1, none⟩) (.slice pa0_0 (List.length a_0.2) pc0_0) [] (fun e => by cases e) rfl rfl rfl (by kernel_rfl) (by kernel_rfl) (by kernel_rfl) (inw0 (hk94.cell 1 rfl)) rfl ?_
  refine gv_pureN 1 [20] [(20, (.pointer (some ⟨b7, 1, none⟩)))] (by kernel_rfl) ?_
  have lt95 := ltt lt88 lt92
  have hk96 := (hk21.grown hg86 nb).grown hg62 (rowne (ng lt95))
  refine gv_load (t := 22) (A := ⟨b7, 1, none⟩) (.slice pa1_0 (List.length b_1.2) pc1_0) [] (fun e => by cases e) rfl rfl rfl (by kernel_rfl) (by kernel_rfl) (by kernel_rfl) (inw0 (hk96.cell 1 rfl)) rfl ?_
  refine bindE h0 ?_; clear h0; intro r97 hr98 h0
  have hg99 := (grown_trans hg53 hg57)
  have hB100 := bg hB37 hg99 nb
  have hB101 := bg hB37 hg53 nb
  have hlo102 : w0.heap.size ≤ b55 := lob hbe59 hB101.size
  have hB103 := bg hB100 hg62 (rowlo hlo102)
  refine gv_call0 (by kernel_rfl) rfl (by kernel_rfl) enters63 (natural_Cmp_ok fuel pa0_0 pc0_0 a_0.2 pa1_0 pc1_0 b_1.2 w61 (fun k => X0 k ∨ X0 k) (fun k hk => (hk).elim (fun h => (fun k (hk : X0 k) => ltl (hX0 k hk) hB103.size) k h) (fun h => (fun k (hk : X0 k) => ltl (hX0 k hk) hB103.size) k h)) ((hpa0_0.below hB103 hX0).wide (fun k hk => (.inl hk))) ((hpa1_0.below hB103 hX0).wide (fun k hk => (.inr hk))) r97 hr98) ?_
  rintro v106 w104 ⟨hg105, rfl⟩
  refine gv_pureN 3 [17, 23, 24] [(23, (.int .i64 r97.1)), (24, (.agg #[(.int .i64 r97.2.1), (.int .i64 r97.2.2)]))] (by kernel_rfl) ?_
  refine gv_new0 (fun b => .pointer (some ⟨b, 0, none⟩)) #[(.int .i64 0), (.int .i64 0)] 29 (by kernel_rfl) (by kernel_rfl) ?_
  intro b107 w108 hg109 hb110 hbe111 hz112
  refine gv_pureN 1 [7] [(7, (.int .i64 r97.1))] (by kernel_rfl) ?_
  refine gv_store0 29 0 (.agg #[(.int .i64 r97.2.1), (.int .i64 r97.2.2)]) #[(.int .i64 r97.2.1), (.int .i64 r97.2.2)] hb110 (by kernel_rfl) (by kernel_rfl) (by kernel_rfl) ?_
  intro w113 hg114 hb115 hz116
  refine gv_nil <| gv_seq <| gv_block <| gv_seq <| gv_region <| bindE h0 ?_; clear h0; intro j117 h1 h0
  refine gv_cut_ops (J := fun a w118 => Below w0.heap.size w0 w118 ∧ w113.heap.size ≤ w118.heap.size ∧ Box w118 b1 24 #[(.bool a_0.1), (.slice pa0_0 (List.length a_0.2) pc0_0)] ∧ Box w118 b7 24 #[(.bool b_1.1), (.slice pa1_0 (List.length b_1.2) pc1_0)] ∧ Box w118 b13 29 #[(.int .i64 0), (.int .i64 0)] ∧ a.defers = [] ∧ a.tmps.size = 45 ∧ Ok [(2, (bp b1)), (3, (bp b7)), (5, (bp b13)), (7, (.int .i64 r97.1)), (25, (.bool j117))] a.tmps) ?_ ?_
  ·skip
   refine gv_pureN 1 [26] [(26, (bp b1))] (by kernel_rfl) ?_
   have hg119 := (grown_trans hg105 hg109)
   have hk120 := hb63.grown hg105 nb
   have lt121 := ltl ((ltb hk120) _ rfl) ((lowb hbe111) _ rfl)
   have lt122 := ltt lt93 lt121
   have hk123 := (hk94.grown hg119 nb).grown hg114 (rowne (ng lt122))
   refine gv_load (t := 4) (A := ⟨b1, 0, none⟩) (.bool a_0.1) [] (fun e => by cases e) rfl rfl rfl (by kernel_rfl) (by kernel_rfl) (by kernel_rfl) (inw0 (hk123.cell 0 rfl)) rfl ?_
   refine gv_pureN 1 [28] [(28, (.bool a_0.1))] (by kernel_rfl) ?_
   refine gv_split (s := 28) (g := a_0.1) (by kernel_rfl) (fun hc124 => ?_) (fun hc124 => ?_)
   ·skip
    replace h1 := ite_t hc124 h1
    refine gv_pureN 1 [29] [(29, (bp b7))] (by kernel_rfl) ?_
    have lt125 := ltt lt95 lt121
    have hk126 := (hk96.grown hg119 nb).grown hg114 (rowne (ng lt125))
    refine gv_load (t := 4) (A := ⟨b7, 0, none⟩) (.bool b_1.1) [] (fun e => by cases e) rfl rfl rfl (by kernel_rfl) (by kernel_rfl) (by kernel_rfl) (inw0 (hk126.cell 0 rfl)) rfl ?_
    refine gv_pureN 2 [25, 31] [(25, (.bool b_1.1))] (by kernel_rfl) ?_
    refine gv_sub [2, 3, 5, 7, 25] (σ' := [(2, (bp b1)), (3, (bp b7)), (5, (bp b13)), (7, (.int .i64 r97.1)), (25, (.bool b_1.1))]) (by kernel_rfl) ?_
    refine gv_nil ?_
    have e := sj h1; subst e
    refine gv_goal fun a hd hs hok => ?_
    have hB127 := bg hB103 hg119 nb
    have hB128 := bg hB103 hg105 nb
    have hlo129 : w0.heap.size ≤ b107 := lob hbe111 hB128.size
    have hB130 := bg hB127 hg114 (rowlo hlo129)
    have lt131 := ltt lt92 lt121
    have hk132 := (((hk91.grown hg57 nb).grown hg62 (rowne (ng lt92))).grown hg119 nb).grown hg114 (rowne (ng lt131))
    exact ⟨hB130, (Nat.le_refl _), hk123, hk126, hk132, hd, hs, ok_pick [2, 3, 5, 7, 25] hok (by kernel_rfl)⟩
   ·skip
    replace h1 := ite_f hc124 h1
    refine gv_pureN 4 [25, 29, 30, 31] [(25, (.bool false))] (by kernel_rfl) ?_
    refine gv_nil ?_
    have e := sj h1; subst e
    refine gv_goal fun a hd hs hok => ?_
    have hB133 := bg hB103 hg119 nb
    have hB134 := bg hB103 hg105 nb
    have hlo135 : w0.heap.size ≤ b107 := lob hbe111 hB134.size
    have hB136 := bg hB133 hg114 (rowlo hlo135)
    have lt137 := ltt lt95 lt121
    have hk138 := (hk96.grown hg119 nb).grown hg114 (rowne (ng lt137))
    have lt139 := ltt lt92 lt121
    have hk140 := (((hk91.grown hg57 nb).grown hg62 (rowne (ng lt92))).grown hg119 nb).grown hg114 (rowne (ng lt139))
    exact ⟨hB136, (Nat.le_refl _), hk123, hk138, hk140, hd, hs, ok_pick [2, 3, 5, 7, 25] hok (by kernel_rfl)⟩
  ·rintro a w118 ⟨hB141, hz142, hb143, hb144, hb145, hd, hs, hok⟩
   refine gv_in ?_ hd hs hok
   clear hd hs hok
   clear hz142 hz116 hb115 hg114 hz112 hbe111 hb110 hg109 hg105 hB103 hlo102 hB101 hB100 hg99 hr98 hk96 lt95 hk94 lt93 lt92 hk91 hg90 hg86 hc65 hz64 hb63 hg62 hz60 hbe59 hb58 hg57 hg53 hr51 ap47 hB48 ap46 ap43 hB44 ap42 ap40 ap39 hl29 hx38 ho28 hB37 hx32 hx30 hz36 hx31 hB35 hg34 hz27 hbe26 hb25 hg24 hk21 hk20 hg19 hz18 hbe17 hb16 hg15 hz12 hbe11 hb10 hg9 hz6 hbe5 hb4 hg3
   refine gv_cond (b := j117) (by kernel_rfl) (fun hc146 => ?_) (fun hc146 => ?_)
   ·replace h0 := ite_t hc146 h0
    refine gv_seq <| gv_region <| gv_pureN 4 [4, 32, 33, 34] [(4, (.int .i64 (IntKind.i64.wrap (0 - r97.1)))), (34, (.agg #[(.int .i64 0), (.int .i64 0)]))] (by kernel_rfl) ?_
    refine gv_store0 29 0 (.agg #[(.int .i64 0), (.int .i64 0)]) #[(.int .i64 0), (.int .i64 0)] hb145 (by kernel_rfl) (by kernel_rfl) (by kernel_rfl) ?_
    intro w147 hg148 hb149 hz150
    refine gv_nil <| gv_cret ?_
    have e := sj h0; subst e
    refine gv_ret (gv_done [(.int .i64 (IntKind.i64.wrap (0 - r97.1))), (.agg #[(.int .i64 0), (.int .i64 0)])] rfl ⟨(by kernel_rfl), ⟨⟨b13, 0, none⟩, (by kernel_rfl), run_loadVar_row w147 b13 _ 29 _ _ _ hb149 Try.underlying29 rfl (by kernel_rfl)⟩, trivial⟩ ?_)
    have hB151 := bg hB141 hg148 (rowlo hlo49)
    exact ⟨grown_of_below hB151, rfl⟩
   ·replace h0 := ite_f hc146 h0
    refine gv_seq <| gv_region <| gv_pureN 1 [36] [(36, (bp b1))] (by kernel_rfl) ?_
    refine gv_load (t := 4) (A := ⟨b1, 0, none⟩) (.bool a_0.1) [] (fun e => by cases e) rfl rfl rfl (by kernel_rfl) (by kernel_rfl) (by kernel_rfl) (inw0 (hb143.cell 0 rfl)) rfl ?_
    refine gv_pureN 1 [35] [(35, (.bool a_0.1))] (by kernel_rfl) ?_
    refine gv_nil <| gv_cond (b := a_0.1) (by kernel_rfl) (fun hc152 => ?_) (fun hc152 => ?_)
    ·replace h0 := ite_t hc152 h0
     refine gv_seq <| gv_region <| gv_pureN 2 [4, 38] [(4, (.int .i64 (-1))), (38, (.agg #[(.int .i64 0), (.int .i64 0)]))] (by kernel_rfl) ?_
     refine gv_store0 29 0 (.agg #[(.int .i64 0), (.int .i64 0)]) #[(.int .i64 0), (.int .i64 0)] hb145 (by kernel_rfl) (by kernel_rfl) (by kernel_rfl) ?_
     intro w153 hg154 hb155 hz156
     refine gv_nil <| gv_cret ?_
     have e := sj h0; subst e
     refine gv_ret (gv_done [(.int .i64 (-1)), (.agg #[(.int .i64 0), (.int .i64 0)])] rfl ⟨(by kernel_rfl), ⟨⟨b13, 0, none⟩, (by kernel_rfl), run_loadVar_row w153 b13 _ 29 _ _ _ hb155 Try.underlying29 rfl (by kernel_rfl)⟩, trivial⟩ ?_)
     have hB157 := bg hB141 hg154 (rowlo hlo49)
     exact ⟨grown_of_below hB157, rfl⟩
    ·replace h0 := ite_f hc152 h0
     refine gv_seq <| gv_region <| gv_pureN 1 [40] [(40, (bp b7))] (by kernel_rfl) ?_
     refine gv_load (t := 4) (A := ⟨b7, 0, none⟩) (.bool b_1.1) [] (fun e => by cases e) rfl rfl rfl (by kernel_rfl) (by kernel_rfl) (by kernel_rfl) (inw0 (hb144.cell 0 rfl)) rfl ?_
     refine gv_pureN 1 [39] [(39, (.bool b_1.1))] (by kernel_rfl) ?_
     refine gv_nil <| gv_cond (b := b_1.1) (by kernel_rfl) (fun hc158 => ?_) (fun hc158 => ?_)
     ·replace h0 := ite_t hc158 h0
      refine gv_seq <| gv_region <| gv_pureN 2 [4, 42] [(4, (.int .i64 1)), (42, (.agg #[(.int .i64 0), (.int .i64 0)]))] (by kernel_rfl) ?_
      refine gv_store0 29 0 (.agg #[(.int .i64 0), (.int .i64 0)]) #[(.int .i64 0), (.int .i64 0)] hb145 (by kernel_rfl) (by kernel_rfl) (by kernel_rfl) ?_
      intro w159 hg160 hb161 hz162
      refine gv_nil <| gv_cret ?_
      have e := sj h0; subst e
      refine gv_ret (gv_done [(.int .i64 1), (.agg #[(.int .i64 0), (.int .i64 0)])] rfl ⟨(by kernel_rfl), ⟨⟨b13, 0, none⟩, (by kernel_rfl), run_loadVar_row w159 b13 _ 29 _ _ _ hb161 Try.underlying29 rfl (by kernel_rfl)⟩, trivial⟩ ?_)
      have hB163 := bg hB141 hg160 (rowlo hlo49)
      exact ⟨grown_of_below hB163, rfl⟩
     ·replace h0 := ite_f hc158 h0
      refine gv_skip <| gv_blk <| gv_seq <| gv_region <| gv_pureN 3 [4, 43, 44] [(4, (.int .i64 r97.1)), (44, (.agg #[(.int .i64 0), (.int .i64 0)]))] (by kernel_rfl) ?_
      refine gv_store0 29 0 (.agg #[(.int .i64 0), (.int .i64 0)]) #[(.int .i64 0), (.int .i64 0)] hb145 (by kernel_rfl) (by kernel_rfl) (by kernel_rfl) ?_
      intro w164 hg165 hb166 hz167
      clear hz167 hc158 hc152 hc146 hb145 hb144 hb143 lt89 lt88 lt87 hlo45 hlo41
      refine gv_nil <| gv_cret ?_
      have e := sj h0; subst e
      refine gv_ret (gv_done [(.int .i64 r97.1), (.agg #[(.int .i64 0), (.int .i64 0)])] rfl ⟨(by kernel_rfl), ⟨⟨b13, 0, none⟩, (by kernel_rfl), run_loadVar_row w164 b13 _ 29 _ _ _ hb166 Try.underlying29 rfl (by kernel_rfl)⟩, trivial⟩ ?_)
      have hB168 := bg hB141 hg165 (rowlo hlo49)
      exact ⟨grown_of_below hB168, rfl⟩

theorem random_source_below_ok (fuel : Nat) (pb0 : Nat) (s_0 : ((Int × Int))) (pa1_0 : Option Addr) (pc1_0 : Nat) (n_1 : (Bool × (List Int))) (w0 : World) (X0 : Nat → Prop) (hX0 : ∀ k, X0 k → k < w0.heap.size ∧ k ≠ pb0) (hp0 : Box w0 pb0 81 #[(.int .u64 s_0.1), (.int .u64 s_0.2)]) (hpa1_0 : Rd (iE .u32) w0 X0 pa1_0 pc1_0 n_1.2) (r0 : ((Bool × (List Int)) × ((Int × Int)))) (h0 : random_source_below fuel s_0 n_1 = some r0) :
    Calls Try.prog 43 ([(bp pb0), (.agg #[(.bool n_1.1), (.slice pa1_0 (List.length n_1.2) pc1_0)])] : List Value).toArray w0 (Ret fun v w' => w0.grownBy w' (some pb0) ∧ ∃ (a0_0r : Option Addr) (c0_0r : Nat), v = tup [(.agg #[(.bool r0.1.1), (.slice a0_0r (List.length r0.1.2) c0_0r)])] ∧ Own (iE .u32) 76 w' (fun _ => False) a0_0r c0_0r r0.1.2 ∧ (∀ g, blk a0_0r = some g → w0.heap.size ≤ g) ∧ Box w' pb0 81 #[(.int .u64 r0.2.1), (.int .u64 r0.2.2)]) := by
 have hB0 : w0.grownBy w0 (some pb0) := grown_refl _ _
 unfold random_source_below at h0
 refine calls_run Try.func43 rfl Try.ntmps43 (by kernel_rfl) ?_
 refine gv_sub [0, 1] (σ' := [(0, (bp pb0)), (1, (.agg #[(.bool n_1.1), (.slice pa1_0 (List.length n_1.2) pc1_0)]))]) (by kernel_rfl) ?_
 have hpl0 := hp0.lt
 refine gv_seq <| gv_region <| gv_new0 (fun b => .pointer (some ⟨b, 0, none⟩)) #[(.bool n_1.1), (.slice pa1_0 (List.length n_1.2) pc1_0)] 24 (by kernel_rfl) (by kernel_rfl) ?_
 intro b1 w2 hg3 hb4 hbe5 hz6
 refine gv_new0 (fun b => .pointer (some ⟨b, 0, none⟩)) #[(.bool false), (.slice none (List.length ([] : List Int)) 0)] 24 (by kernel_rfl) (by kernel_rfl) ?_
 intro b7 w8 hg9 hb10 hbe11 hz12
 refine gv_nil <| gv_seq <| gv_anyM [] (by kernel_rfl) (List.range 10) [] (by kernel_rfl) ?_
 intro w13 hg14
 have hg16 := (grown_trans (grown_trans hg3 hg9) hg14)
 have hk17 := hp0.grown hg16 nb
 have hM15 : ∀ k, (· = pb0) k → k < w13.heap.size := (ltb hk17)
 have hg19 := (grown_trans hg9 hg14)
 have hk20 := hb4.grown hg19 nb
 have hM18 : ∀ k, (· = b1) k → k < w13.heap.size := (ltb hk20)
 have hk22 := hb10.grown hg14 nb
 have hM21 : ∀ k, (· = b7) k → k < w13.heap.size := (ltb hk22)
 refine bindE h0 ?_; clear h0; intro r36 hr37 h0
 refine bindE h0 ?_; clear h0; intro r77 hr78 h0
 refine gv_thrs [0] [(1, []), (2, [3, 4, 5])] [⟨6, 5, 24, #[(.bool false), (.slice none (List.length ([] : List Int)) 0)], some (8, 16)⟩, ⟨7, 6, 29, #[(.int .i64 0), (.int .i64 0)], some (9, 17)⟩] (fun p => match p with | 0 => [0, 3, 4, 13] | 1 => [0, 3, 4, 13, 14] | _ => [0, 3, 4, 16, 17]) (fun p σ B w => match p with | 0 => (σ = [(0, (bp pb0)), (3, (bp b1)), (4, (bp b7)), (13, (.agg #[(.bool n_1.1), (.slice pa1_0 (List.length n_1.2) pc1_0)]))] ∧ w0.grownBy w (some pb0) ∧ w13.heap.size ≤ w.heap.size ∧ Box w pb0 81 #[(.int .u64 s_0.1), (.int .u64 s_0.2)] ∧ Box w b1 24 #[(.bool n_1.1), (.slice pa1_0 (List.length n_1.2) pc1_0)] ∧ Box w b7 24 #[(.bool false), (.slice none (List.length ([] : List Int)) 0)]) | 1 => (∃ (a41 : Option Addr), ∃ (c42 : Nat), σ = [(0, (bp pb0)), (3, (bp b1)), (4, (bp b7)), (13, (.agg #[(.bool n_1.1), (.slice pa1_0 (List.length n_1.2) pc1_0)])), (14, (.agg #[(.bool r36.1), (.slice a41 (List.length r36.2) c42)]))] ∧ w0.grownBy w (some pb0) ∧ w13.heap.size ≤ w.heap.size ∧ Box w pb0 81 #[(.int .u64 s_0.1), (.int .u64 s_0.2)] ∧ Box w b1 24 #[(.bool n_1.1), (.slice pa1_0 (List.length n_1.2) pc1_0)] ∧ Box w b7 24 #[(.bool false), (.slice none (List.length ([] : List Int)) 0)] ∧ Own (iE .u32) 76 w (fun _ => False) a41 c42 r36.2 ∧ (∀ g, blk a41 = some g → w0.heap.size ≤ g) ∧ (∀ k, (fun k => blk a41 = some k) k → B k → False) ∧ (∀ g, blk a41 = some g → ¬ (· = pb0) g) ∧ (¬ (fun k => blk a41 = some k) pb0) ∧ (∀ g, blk a41 = some g → ¬ (· = b1) g) ∧ (¬ (fun k => blk a41 = some k) b1) ∧ (∀ g, blk a41 = some g → ¬ (· = b7) g) ∧ (¬ (fun k => blk a41 = some k) b7)) | _ => (∃ (a82 : Option Addr), ∃ (c83 : Nat), ∃ (X85 : Nat → Prop), σ = [(0, (bp pb0)), (3, (bp b1)), (4, (bp b7)), (16, (.agg #[(.bool r77.1.1), (.slice a82 (List.length r77.1.2) c83)])), (17, (.agg #[(.int .i64 r77.2.1), (.int .i64 r77.2.2)]))] ∧ w0.grownBy w (some pb0) ∧ w13.heap.size ≤ w.heap.size ∧ Box w pb0 81 #[(.int .u64 s_0.1), (.int .u64 s_0.2)] ∧ Box w b1 24 #[(.bool n_1.1), (.slice pa1_0 (List.length n_1.2) pc1_0)] ∧ Box w b7 24 #[(.bool false), (.slice none (List.length ([] : List Int)) 0)] ∧ Rd (iE .u32) w X85 a82 c83 r77.1.2 ∧ (∀ k, X85 k → k < w.heap.size) ∧ (∀ k, X85 k → X0 k ∨ w0.heap.size ≤ k) ∧ (∀ k, X85 k → B k → False) ∧ (¬ X85 b1) ∧ (¬ X85 b7))) (by kernel_rfl) (by kernel_rfl) (by decide) ⟨⟨rfl, rfl, by decide, fun _ _ => by kernel_rfl⟩, ⟨rfl, rfl, by decide, fun _ _ => by kernel_rfl⟩, trivial⟩ ⟨(fun s x h => by cases h; exact ⟨rfl, rfl, by kernel_rfl, by kernel_rfl, fun b v => ⟨by kernel_rfl, by kernel_rfl⟩⟩), (fun s x h => by cases h; exact ⟨rfl, rfl, by kernel_rfl, by kernel_rfl, fun b v => ⟨by kernel_rfl, by kernel_rfl⟩⟩), trivial⟩ ?_ ?_ ?_ ?_ ?_ ?_
 ·rintro σ B w ⟨a82, c83, X85, rfl, hB203, hz204, hk205, hk206, hk207, hk208, hhX209, hsX210, hnb211, hap212, hap213⟩
  exact ⟨(fun s x h => by cases h; exact ⟨(.agg #[(.bool r77.1.1), (.slice a82 (List.length r77.1.2) c83)]), rfl, rfl, by intro u hu; simp [Value.cells] at hu; rcases hu with rfl | rfl <;> rfl⟩), (fun s x h => by cases h; exact ⟨(.agg #[(.int .i64 r77.2.1), (.int .i64 r77.2.2)]), rfl, rfl, by intro u hu; simp [Value.cells] at hu; rcases hu with rfl | rfl <;> rfl⟩), trivial⟩
 ·intro p
  rcases p with _ | _ | p
  ·rintro σ B103 w101 w102 b105 ⟨rfl, hB109, hz110, hk111, hk112, hk113⟩ hBl104 hC hbe106 hg107 hz108
   have hB114 := grown_step hB109 hg107 nb
   have hz115 := (nt hz110 hg107.size)
   have hk116 := hk111.grown hg107 nb
   have hk117 := hk112.grown hg107 nb
   have hk118 := hk113.grown hg107 nb
   exact ⟨rfl, hB114, hz115, hk116, hk117, hk118⟩
  ·rintro σ B121 w119 w120 b123 ⟨a41, c42, rfl, hB127, hz128, hk129, hk130, hk131, hk132, hlo133, hnb134, hap135, hap136, hap137, hap138, hap139, hap140⟩ hBl122 hC hbe124 hg125 hz126
   have hB141 := grown_step hB127 hg125 nb
   have hz142 := (nt hz128 hg125.size)
   have hk143 := hk129.grown hg125 nb
   have hk144 := hk130.grown hg125 nb
   have hk145 := hk131.grown hg125 nb
   have hk146 := hk132.grown hg125 (fun _ h => h.elim) nb
   exact ⟨a41, c42, rfl, hB141, hz142, hk143, hk144, hk145, hk146, hlo133, (fun k hk hb => hb.elim (fun hb => hnb134 k hk hb) (fun e => Nat.ne_of_lt ((fun k (hk : blk a41 = some k) => hk132.lt k hk) k hk) (e.trans hbe124))), hap135, hap136, hap137, hap138, hap139, hap140⟩
  ·rintro σ B149 w147 w148 b151 ⟨a82, c83, X85, rfl, hB155, hz156, hk157, hk158, hk159, hk160, hhX161, hsX162, hnb163, hap164, hap165⟩ hBl150 hC hbe152 hg153 hz154
   have hB166 := grown_step hB155 hg153 nb
   have hz167 := (nt hz156 hg153.size)
   have hk168 := hk157.grown hg153 nb
   have hk169 := hk158.grown hg153 nb
   have hk170 := hk159.grown hg153 nb
   have hk171 := hk160.grown hg153 hhX161 nb
   have hx172 := ltx hhX161 hg153.size
   exact ⟨a82, c83, X85, rfl, hB166, hz167, hk168, hk169, hk170, hk171, hx172, hsX162, (fun k hk hb => hb.elim (fun hb => hnb163 k hk hb) (fun e => Nat.ne_of_lt (hhX161 k hk) (e.trans hbe152))), hap164, hap165⟩
 ·rintro σ B175 w173 w174 b177 ⟨a82, c83, X85, rfl, hB181, hz182, hk183, hk184, hk185, hk186, hhX187, hsX188, hnb189, hap190, hap191⟩ hBl176 hC hBb178 hg179 hz180
  have hB193 := grown_step hB0 hg16 nb
  have hB192 := grown_step hB181 hg179  (rowppr (Nat.le_trans hB193.size (hBl176 _ hBb178).1))
  have : w173.heap.size ≤ w174.heap.size := hg179.size
  have hr194 : ∀ g, some b177 = some g → ¬ (· = pb0) g := fun g e h => by cases e; exact (fun k (h : (· = pb0) k) (hb : B175 k) => nl (hBl176 k hb).1 (hM15 k h)) _ h hBb178
  have hk195 := hk183.grown hg179 hr194
  have hr196 : ∀ g, some b177 = some g → ¬ (· = b1) g := fun g e h => by cases e; exact (fun k (h : (· = b1) k) (hb : B175 k) => nl (hBl176 k hb).1 (hM18 k h)) _ h hBb178
  have hk197 := hk184.grown hg179 hr196
  have hr198 : ∀ g, some b177 = some g → ¬ (· = b7) g := fun g e h => by cases e; exact (fun k (h : (· = b7) k) (hb : B175 k) => nl (hBl176 k hb).1 (hM21 k h)) _ h hBb178
  have hk199 := hk185.grown hg179 hr198
  have hr200 : ∀ g, some b177 = some g → ¬ X85 g := fun g e h => by cases e; exact hnb189 _ h hBb178
  have hk201 := hk186.grown hg179 hhX187 hr200
  have hz202 := (nt hz182 hg179.size)
  exact ⟨a82, c83, X85, rfl, hB192, hz202, hk195, hk197, hk199, hk201, (fun k hk => ltl (hhX187 k hk) hg179.size), hsX188, hnb189, hap190, hap191⟩
 ·intro p m qs' hp
  rcases p with _ | _ | p
  ·cases (show some ((1, []) : Nat × List Nat) = some (m, qs') from hp)
   rintro σ B27 w26 es28 ⟨rfl, hB31, hz32, hk33, hk34, hk35⟩ hBl29 hC30
   refine gv_sub [0, 3, 4, 5, 6, 13] (σ' := [(0, (bp pb0)), (3, (bp b1)), (4, (bp b7)), (5, (es28 0)), (6, (es28 1)), (13, (.agg #[(.bool n_1.1), (.slice pa1_0 (List.length n_1.2) pc1_0)]))]) (by kernel_rfl) ?_
   refine gv_call (f := 47) (vs := [(.int .i64 1)]) (cap := []) _ (by decide) rfl rfl rfl (by kernel_rfl) (by kernel_rfl) enters47 (integer_Of_ok fuel 1 w26  r36 hr37) ?_
   rintro v40 w38 ⟨hg39, a41, c42, rfl, ho43, hl44⟩
   refine ⟨(fun _ => hC30.grown hg39 nb), ?_⟩
   have hl45 : ∀ g, blk a41 = some g → w0.heap.size ≤ g := fun g e => Nat.le_trans hB31.size (hl44 g e)
   have nb46 : ∀ k, (fun k => blk a41 = some k) k → B27 k → False := fun k hk hb => (fun h => nl (hl44 k h) (hBl29 k hb).2) hk
   refine gv_nil <| gv_sub [0, 3, 4, 5, 6, 13, 14] (σ' := [(0, (bp pb0)), (3, (bp b1)), (4, (bp b7)), (5, (es28 0)), (6, (es28 1)), (13, (.agg #[(.bool n_1.1), (.slice pa1_0 (List.length n_1.2) pc1_0)])), (14, (.agg #[(.bool r36.1), (.slice a41 (List.length r36.2) c42)]))]) (by kernel_rfl) ?_
   refine gv_goal fun a hd hs hok => ?_
   obtain ⟨q0, q3, q4, q5, q6, q13, q14, _⟩ := hok
   have hB47 := grown_step hB31 hg39 nb
   have hz48 := (nt hz32 hg39.size)
   have hk49 := hk33.grown hg39 nb
   have hk50 := hk34.grown hg39 nb
   have hk51 := hk35.grown hg39 nb
   have ap52 : ∀ g, blk a41 = some g → ¬ (· = pb0) g := fun g e hx => nl ((show ∀ k, blk a41 = some k → w26.heap.size ≤ k from hl44) g e) ((ltb hk33) _ hx)
   have ap53 : ¬ (fun k => blk a41 = some k) pb0 := fun hx => nl ((show ∀ k, blk a41 = some k → w26.heap.size ≤ k from hl44) _ hx) ((ltb hk33) _ rfl)
   have ap54 : ∀ g, blk a41 = some g → ¬ (· = b1) g := fun g e hx => nl ((show ∀ k, blk a41 = some k → w26.heap.size ≤ k from hl44) g e) ((ltb hk34) _ hx)
   have ap55 : ¬ (fun k => blk a41 = some k) b1 := fun hx => nl ((show ∀ k, blk a41 = some k → w26.heap.size ≤ k from hl44) _ hx) ((ltb hk34) _ rfl)
   have ap56 : ∀ g, blk a41 = some g → ¬ (· = b7) g := fun g e hx => nl ((show ∀ k, blk a41 = some k → w26.heap.size ≤ k from hl44) g e) ((ltb hk35) _ hx)
   have ap57 : ¬ (fun k => blk a41 = some k) b7 := fun hx => nl ((show ∀ k, blk a41 = some k → w26.heap.size ≤ k from hl44) _ hx) ((ltb hk35) _ rfl)
   exact ⟨⟨_, hg39, fun _ e => by cases e⟩, hd, hs, [(0, (bp pb0)), (3, (bp b1)), (4, (bp b7)), (13, (.agg #[(.bool n_1.1), (.slice pa1_0 (List.length n_1.2) pc1_0)])), (14, (.agg #[(.bool r36.1), (.slice a41 (List.length r36.2) c42)]))], rfl, ⟨a41, c42, rfl, hB47, hz48, hk49, hk50, hk51, ho43, hl45, nb46, ap52, ap53, ap54, ap55, ap56, ap57⟩, ⟨q0, q3, q4, q13, q14, q5, q6, trivial⟩⟩
  ·cases (show some ((2, [3, 4, 5]) : Nat × List Nat) = some (m, qs') from hp)
   rintro σ B59 w58 es60 ⟨a41, c42, rfl, hB63, hz64, hk65, hk66, hk67, hk68, hlo69, hnb70, hap71, hap72, hap73, hap74, hap75, hap76⟩ hBl61 hC62
   refine gv_sub [0, 3, 4, 5, 6, 13, 14] (σ' := [(0, (bp pb0)), (3, (bp b1)), (4, (bp b7)), (5, (es60 0)), (6, (es60 1)), (13, (.agg #[(.bool n_1.1), (.slice pa1_0 (List.length n_1.2) pc1_0)])), (14, (.agg #[(.bool r36.1), (.slice a41 (List.length r36.2) c42)]))]) (by kernel_rfl) ?_
   refine gv_call (f := 45) (vs := [(.agg #[(.bool n_1.1), (.slice pa1_0 (List.length n_1.2) pc1_0)]), (.agg #[(.bool r36.1), (.slice a41 (List.length r36.2) c42)])]) (cap := []) _ (by decide) rfl rfl rfl (by kernel_rfl) (by kernel_rfl) enters45 (integer_Sub_ok fuel pa1_0 pc1_0 (n_1.1, n_1.2) a41 c42 (r36.1, r36.2) w58 (fun k => X0 k ∨ (fun k => blk a41 = some k) k) (fun k hk => (hk).elim (fun h => (fun k (hk : X0 k) => ltl (hX0 k hk).1 hB63.size) k h) (fun h => (fun k (hk : blk a41 = some k) => hk68.lt k hk) k h)) ((hpa1_0.grown hB63 (fun k hk => (hX0 k hk).1) (fun g e hk => by cases e; exact (hX0 _ hk).2 rfl)).wide (fun k hk => (.inl hk))) ((hk68.rd (Y := fun k => blk a41 = some k) (fun _ h => h.elim) (fun g e => e)).wide (fun k hk => (.inr hk))) r77 hr78) ?_
   rintro v81 w79 ⟨hg80, a82, c83, X85, rfl, ho84, hx86⟩
   refine ⟨(fun _ => hC62.grown hg80 nb), ?_⟩
   have hx87 : ∀ k, X85 k → k < w79.heap.size := fun k hk => (hx86 k hk).1
   have hx88 : ∀ k, X85 k → X0 k ∨ w0.heap.size ≤ k := fun k hk => (hx86 k hk).2.elim (fun h => (h).elim (fun h => (fun k (hk : X0 k) => Or.inl hk) k h) (fun h => (fun k (hk : blk a41 = some k) => Or.inr (hlo69 k hk)) k h)) (fun h => .inr (Nat.le_trans hB63.size h))
   have hB90 := grown_step hB0 hg16 nb
   have nb89 : ∀ k, X85 k → B59 k → False := fun k hk hb => (fun h => (hx86 k h).2.elim (fun h => (h).elim (fun h => (fun k (h : X0 k) (hb : B59 k) => nl (hBl61 k hb).1 ((fun k (hk : X0 k) => ltl (hX0 k hk).1 hB90.size) k h)) k h hb) (fun h => hnb70 k h hb)) (fun h => nl h (hBl61 k hb).2)) hk
   refine gv_pureN 3 [12, 16, 17] [(16, (.agg #[(.bool r77.1.1), (.slice a82 (List.length r77.1.2) c83)])), (17, (.agg #[(.int .i64 r77.2.1), (.int .i64 r77.2.2)]))] (by kernel_rfl) ?_
   refine gv_nil <| gv_sub [0, 3, 4, 5, 6, 16, 17] (σ' := [(0, (bp pb0)), (3, (bp b1)), (4, (bp b7)), (5, (es60 0)), (6, (es60 1)), (16, (.agg #[(.bool r77.1.1), (.slice a82 (List.length r77.1.2) c83)])), (17, (.agg #[(.int .i64 r77.2.1), (.int .i64 r77.2.2)]))]) (by kernel_rfl) ?_
   refine gv_goal fun a hd hs hok => ?_
   obtain ⟨q0, q3, q4, q5, q6, q16, q17, _⟩ := hok
   have hB91 := grown_step hB63 hg80 nb
   have hz92 := (nt hz64 hg80.size)
   have hk93 := hk65.grown hg80 nb
   have hk94 := hk66.grown hg80 nb
   have hk95 := hk67.grown hg80 nb
   have hlo96 : w0.heap.size ≤ b1 := lob hbe5 hB0.size
   have ap97 : ¬ X85 b1 := fun h => ((hx86 _ h).2.elim (fun h => (h).elim (fun h => ((fun (hx : X0 b1) => nl hlo96 (hX0 _ hx).1))  h) (fun h => (hap74)  h)) (fun h => nl h (hk66.lt)))
   have hB98 := grown_step hB0 hg3 nb
   have hlo99 : w0.heap.size ≤ b7 := lob hbe11 hB98.size
   have ap100 : ¬ X85 b7 := fun h => ((hx86 _ h).2.elim (fun h => (h).elim (fun h => ((fun (hx : X0 b7) => nl hlo99 (hX0 _ hx).1))  h) (fun h => (hap76)  h)) (fun h => nl h (hk67.lt)))
   exact ⟨⟨_, hg80, fun _ e => by cases e⟩, hd, hs, [(0, (bp pb0)), (3, (bp b1)), (4, (bp b7)), (16, (.agg #[(.bool r77.1.1), (.slice a82 (List.length r77.1.2) c83)])), (17, (.agg #[(.int .i64 r77.2.1), (.int .i64 r77.2.2)]))], rfl, ⟨a82, c83, X85, rfl, hB91, hz92, hk93, hk94, hk95, ho84, hx87, hx88, nb89, ap97, ap100⟩, ⟨q0, q3, q4, q16, q17, q5, q6, trivial⟩⟩
  ·simp at hp
 ·skip
  have hC24 := Cls.refl w13 []
  refine gv_loadBox (t := 24) (b := b1) (t' := 24) (fr := (0, 0)) #[(.bool n_1.1), (.slice pa1_0 (List.length n_1.2) pc1_0)] [] (fun e => by cases e) rfl rfl rfl (by kernel_rfl) (by kernel_rfl) (by kernel_rfl) (by kernel_rfl) (inw1 fun w' hC' => (hC'.box hk20 nm_nil)) rfl ?_
  refine gv_nil <| gv_sub [0, 3, 4, 13] (σ' := [(0, (bp pb0)), (3, (bp b1)), (4, (bp b7)), (13, (.agg #[(.bool n_1.1), (.slice pa1_0 (List.length n_1.2) pc1_0)]))]) (by kernel_rfl) ?_
  refine gv_goal fun a hd hs hok => ?_
  obtain ⟨q0, q3, q4, q13, _⟩ := hok
  have hB25 := grown_step hB0 hg16 nb
  exact ⟨rfl, hd, hs, [(0, (bp pb0)), (3, (bp b1)), (4, (bp b7)), (13, (.agg #[(.bool n_1.1), (.slice pa1_0 (List.length n_1.2) pc1_0)]))], rfl, ⟨rfl, hB25, (Nat.le_refl _), hk17, hk20, hk22⟩, ⟨q0, q3, q4, q13, trivial⟩⟩
 ·rintro σ B215 w214 bf218 ⟨a82, c83, X85, rfl, hB221, hz222, hk223, hk224, hk225, hk226, hhX227, hsX228, hnb229, hap230, hap231⟩ hBl216 hC217 hb219 hne220
  obtain ⟨hBb232, hb233⟩ : B215 (bf218 0) ∧ Box w214 (bf218 0) 24 #[(.bool r77.1.1), (.slice a82 (List.length r77.1.2) c83)] := hb219 0 _ rfl
  have hlo234 := (hBl216 _ hBb232).1
  have ap235 : ¬ (· = pb0) (bf218 0) := fun h => (fun k (h : (· = pb0) k) (hb : B215 k) => nl (hBl216 k hb).1 (hM15 k h)) _ h hBb232
  have ap236 : ¬ (· = b1) (bf218 0) := fun h => (fun k (h : (· = b1) k) (hb : B215 k) => nl (hBl216 k hb).1 (hM18 k h)) _ h hBb232
  have ap237 : ¬ (· = b7) (bf218 0) := fun h => (fun k (h : (· = b7) k) (hb : B215 k) => nl (hBl216 k hb).1 (hM21 k h)) _ h hBb232
  have ap238 : ¬ X85 (bf218 0) := fun h => hnb229 _ h hBb232
  obtain ⟨hBb239, hb240⟩ : B215 (bf218 1) ∧ Box w214 (bf218 1) 29 #[(.int .i64 r77.2.1), (.int .i64 r77.2.2)] := hb219 1 _ rfl
  have hlo241 := (hBl216 _ hBb239).1
  have ap242 : (bf218 0) ≠ (bf218 1) := hne220 0 1 (by decide) (by decide) (by decide)
  have ap243 : ¬ (· = pb0) (bf218 1) := fun h => (fun k (h : (· = pb0) k) (hb : B215 k) => nl (hBl216 k hb).1 (hM15 k h)) _ h hBb239
  have ap244 : ¬ (· = b1) (bf218 1) := fun h => (fun k (h : (· = b1) k) (hb : B215 k) => nl (hBl216 k hb).1 (hM18 k h)) _ h hBb239
  have ap245 : ¬ (· = b7) (bf218 1) := fun h => (fun k (h : (· = b7) k) (hb : B215 k) => nl (hBl216 k hb).1 (hM21 k h)) _ h hBb239
  have ap246 : ¬ X85 (bf218 1) := fun h => hnb229 _ h hBb239
  have hB248 := grown_step hB0 hg16 nb
  have hz247 := hB248.size
  refine gv_seq <| gv_region ?_
  clear hz247 ap246 ap245 ap244 ap243 ap242 hlo241 hb240 hb219 hC217 hz222 hg19 hg16 hg14 hz12 hb10 hg9 hz6
  refine gv_loadBox (t := 24) (b := (bf218 0)) (t' := 24) (fr := (0, 0)) #[(.bool r77.1.1), (.slice a82 (List.length r77.1.2) c83)] [] (fun e => by cases e) rfl rfl rfl (by kernel_rfl) (by kernel_rfl) (by kernel_rfl) (by kernel_rfl) (inw0 hb233) rfl ?_
  refine bindE h0 ?_; clear h0; intro r249 hr250 h0
  refine gv_call0 (by kernel_rfl) rfl (by kernel_rfl) enters60 (integer_Bits_ok fuel a82 c83 (r77.1.1, r77.1.2) w214 (fun k => X85 k) (fun k hk => hhX227 k hk) (hk226.wide (fun k hk => hk)) r249 hr250) ?_
  rintro v253 w251 ⟨hg252, rfl⟩
  refine gv_pureN 3 [18, 21, 22] [(21, (.int .i64 r249.1)), (22, (.agg #[(.int .i64 r249.2.1), (.int .i64 r249.2.2)]))] (by kernel_rfl) ?_
  refine gv_new0 (fun b => .pointer (some ⟨b, 0, none⟩)) #[(.int .i64 0), (.int .i64 0)] 29 (by kernel_rfl) (by kernel_rfl) ?_
  intro b254 w255 hg256 hb257 hbe258 hz259
  refine gv_pureN 1 [7] [(7, (.int .i64 r249.1))] (by kernel_rfl) ?_
  refine gv_store0 29 0 (.agg #[(.int .i64 r249.2.1), (.int .i64 r249.2.2)]) #[(.int .i64 r249.2.1), (.int .i64 r249.2.2)] hb257 (by kernel_rfl) (by kernel_rfl) (by kernel_rfl) ?_
  intro w260 hg261 hb262 hz263
  refine gv_nil <| bindE h0 ?_; clear h0; intro j264 h1 h0
  refine gv_cut_code (J := fun a w266 => ∃ s265 : (((Int × Int)) × (Bool × (List Int))), j264 = .inl s265 ∧ ∃ (abb7_0j : Option Addr) (cbb7_0j : Nat), w0.grownBy w266 (some pb0) ∧ w260.heap.size ≤ w266.heap.size ∧ Own (iE .u32) 76 w266 (fun _ => False) abb7_0j cbb7_0j s265.2.2 ∧ (∀ g, blk abb7_0j = some g → w0.heap.size ≤ g) ∧ (∀ g, blk abb7_0j = some g → ¬ (· = b7) g) ∧ ¬ (fun k => blk abb7_0j = some k) b7 ∧ Box w266 pb0 81 #[(.int .u64 s265.1.1), (.int .u64 s265.1.2)] ∧ Box w266 b7 24 #[(.bool s265.2.1), (.slice abb7_0j (List.length s265.2.2) cbb7_0j)] ∧ a.defers = [] ∧ a.tmps.size = 35 ∧ Ok [(4, (bp b7))] a.tmps) ?_ ?_
  ·skip
   refine gv_block <| gv_loop (A := fun (s267 : (((Int × Int)) × (Bool × (List Int)))) a w268 => ∃ (abb7_0j : Option Addr) (cbb7_0j : Nat), w0.grownBy w268 (some pb0) ∧ w260.heap.size ≤ w268.heap.size ∧ Own (iE .u32) 76 w268 (fun _ => False) abb7_0j cbb7_0j s267.2.2 ∧ (∀ g, blk abb7_0j = some g → w0.heap.size ≤ g) ∧ (∀ g, blk abb7_0j = some g → ¬ (· = b1) g) ∧ (∀ g, blk abb7_0j = some g → ¬ (· = b7) g) ∧ ¬ (fun k => blk abb7_0j = some k) b1 ∧ ¬ (fun k => blk abb7_0j = some k) b7 ∧ Box w268 pb0 81 #[(.int .u64 s267.1.1), (.int .u64 s267.1.2)] ∧ Box w268 b1 24 #[(.bool n_1.1), (.slice pa1_0 (List.length n_1.2) pc1_0)] ∧ Box w268 b7 24 #[(.bool s267.2.1), (.slice abb7_0j (List.length s267.2.2) cbb7_0j)] ∧ a.defers = [] ∧ a.tmps.size = 35 ∧ Ok [(0, (bp pb0)), (3, (bp b1)), (4, (bp b7)), (7, (.int .i64 r249.1))] a.tmps) h1 ?_ ?_
   ·intro a hd hs hok
    have hg269 := (grown_trans hg252 hg256)
    have hB270 := grown_step hB221 hg269 nb
    have hB271 := grown_step hB221 hg252 nb
    have hlo272 : w0.heap.size ≤ b254 := lob hbe258 hB271.size
    have hB273 := grown_step hB270 hg261 (rowppr hlo272)
    have hk274 := hk223.grown hg252 nb
    have ap275 : ¬ (· = pb0) b254 := fun hx => nl ((lowb hbe258) _ rfl) ((ltb hk274) _ hx)
    have hk276 := (hk223.grown hg269 nb).grown hg261 (rowne ap275)
    have lt277 := ltl ((ltb hb4) _ rfl) ((lowb hbe11) _ rfl)
    have hk278 := hk225.grown hg252 nb
    have lt279 := ltl ((ltb hk278) _ rfl) ((lowb hbe258) _ rfl)
    have lt280 := ltt lt277 lt279
    have hk281 := (hk224.grown hg269 nb).grown hg261 (rowne (ng lt280))
    have hk282 := (hk278.grown hg256 nb).grown hg261 (rowne (ng lt279))
    exact ⟨none, 0, hB273, (Nat.le_refl _), (Own.nil (iE .u32) 76 w260 (fun _ => False)), (fun _ h => by cases h), (fun _ h => by cases h), (fun _ h => by cases h), (fun h => by cases h), (fun h => by cases h), hk276, hk281, hk282, hd, hs, ok_pick [0, 3, 4, 7] hok (by kernel_rfl)⟩
   ·rintro s267 r2 h2 hR2 a w268 ⟨a285, c286, hB283, hz284, ho287, hl288, ap289, ap290, ap291, ap292, hb293, hb294, hb295, hd, hs, hok⟩
    refine gv_in ?_ hd hs hok
    clear hd hs hok
    clear hz263 hb262 hg261 hz259 hbe258 hb257 hg256 hg252 hr250 ap238 ap237 ap236 ap235 hlo234 hb233 hk226 hk225 hk224 hk223 hB221
    refine gv_block <| gv_seq <| gv_region <| gv_pureN 2 [23, 24] [(23, (bp pb0)), (24, (.int .i64 r249.1))] (by kernel_rfl) ?_
    refine bindE h2 ?_; clear h2; intro r296 hr297 h2
    refine gv_call0 (by kernel_rfl) rfl (by kernel_rfl) enters61 (random_source_bits_ok fuel pb0 (s267.1.1, s267.1.2) r249.1 w268 hb293 r296 hr297) ?_
    rintro v300 w298 ⟨hg299, a301, c302, rfl, ho303, hl304, hb305⟩
    have hl306 : ∀ g, blk a301 = some g → w0.heap.size ≤ g := fun g e => Nat.le_trans hB283.size (hl304 g e)
    refine gv_new0 (fun b => .pointer (some ⟨b, 0, none⟩)) #[(.bool false), (.slice none (List.length ([] : List Int)) 0)] 24 (by kernel_rfl) (by kernel_rfl) ?_
    intro b307 w308 hg309 hb310 hbe311 hz312
    refine gv_store0 24 0 (.agg #[(.bool r296.1.1), (.slice a301 (List.length r296.1.2) c302)]) #[(.bool r296.1.1), (.slice a301 (List.length r296.1.2) c302)] hb310 (by kernel_rfl) (by kernel_rfl) (by kernel_rfl) ?_
    intro w313 hg314 hb315 hz316
    refine gv_nil <| gv_seq <| gv_region <| gv_loadBox (t := 24) (b := b307) (t' := 24) (fr := (0, 0)) #[(.bool r296.1.1), (.slice a301 (List.length r296.1.2) c302)] [] (fun e => by cases e) rfl rfl rfl (by kernel_rfl) (by kernel_rfl) (by kernel_rfl) (by kernel_rfl) (inw0 hb315) rfl ?_
    have ap317 : ¬ (· = b1) pb0 := fun hx => nl ((lowb hbe5) _ hx) ((ltb hp0) _ rfl)
    have lt318 := ltl ((ltb hb4) _ rfl) ((lowb hbe11) _ rfl)
    have hk319 := hp0.grown hg3 nb
    have ap320 : ¬ (· = b7) pb0 := fun hx => nl ((lowb hbe11) _ hx) ((ltb hk319) _ rfl)
    have hk321 := hb295.grown hg299 (rowne ap320)
    have lt322 := ltl ((ltb hk321) _ rfl) ((lowb hbe311) _ rfl)
    have lt323 := ltt lt318 lt322
    have hk324 := ((hb294.grown hg299 (rowne ap317)).grown hg309 nb).grown hg314 (rowne (ng lt323))
    refine gv_loadBox (t := 24) (b := b1) (t' := 24) (fr := (0, 0)) #[(.bool n_1.1), (.slice pa1_0 (List.length n_1.2) pc1_0)] [] (fun e => by cases e) rfl rfl rfl (by kernel_rfl) (by kernel_rfl) (by kernel_rfl) (by kernel_rfl) (inw0 hk324) rfl ?_
    refine bindE h2 ?_; clear h2; intro r325 hr326 h2
    have ap327 : ¬ (fun k => blk a301 = some k) b307 := fun hx => nl ((lowb hbe311) _ rfl) ((fun k (hk : blk a301 = some k) => ho303.lt k hk) _ hx)
    have hk328 := (ho303.grown hg309 (fun _ h => h.elim) nb).grown hg314 (fun _ h => h.elim) (rdnn (rowne ap327))
    have hB329 := grown_step hB283 hg299 rowpp
    have hB330 := grown_step hB329 hg309 nb
    have hB331 := grown_step hB283 hg299 rowpp
    have hlo332 : w0.heap.size ≤ b307 := lob hbe311 hB331.size
    have hB333 := grown_step hB330 hg314 (rowppr hlo332)
    refine gv_call0 (by kernel_rfl) rfl (by kernel_rfl) enters44 (integer_Cmp_ok fuel a301 c302 (r296.1.1, r296.1.2) pa1_0 pc1_0 (n_1.1, n_1.2) w313 (fun k => (fun k => blk a301 = some k) k ∨ X0 k) (fun k hk => (hk).elim (fun h => (fun k (hk : blk a301 = some k) => hk328.lt k hk) k h) (fun h => (fun k (hk : X0 k) => ltl (hX0 k hk).1 hB333.size) k h)) ((hk328.rd (Y := fun k => blk a301 = some k) (fun _ h => h.elim) (fun g e => e)).wide (fun k hk => (.inl hk))) ((hpa1_0.grown hB333 (fun k hk => (hX0 k hk).1) (fun g e hk => by cases e; exact (hX0 _ hk).2 rfl)).wide (fun k hk => (.inr hk))) r325 hr326) ?_
    rintro v336 w334 ⟨hg335, rfl⟩
    refine gv_pureN 3 [26, 30, 31] [(30, (.int .i64 r325.1)), (31, (.agg #[(.int .i64 r325.2.1), (.int .i64 r325.2.2)]))] (by kernel_rfl) ?_
    refine gv_new0 (fun b => .pointer (some ⟨b, 0, none⟩)) #[(.int .i64 0), (.int .i64 0)] 29 (by kernel_rfl) (by kernel_rfl) ?_
    intro b337 w338 hg339 hb340 hbe341 hz342
    have hz343 := (nt (nt (nt (nt (nt hz284 hg299.size) hg309.size) hg314.size) hg335.size) hg339.size)
    clear hz342 hB331 hB330 hB329 hr326 hz316 hz312 hb310 hr297 hz284 hB283 hb4
    refine gv_pureN 1 [10] [(10, (.int .i64 r325.1))] (by kernel_rfl) ?_
    refine gv_store0 29 0 (.agg #[(.int .i64 r325.2.1), (.int .i64 r325.2.2)]) #[(.int .i64 r325.2.1), (.int .i64 r325.2.2)] hb340 (by kernel_rfl) (by kernel_rfl) (by kernel_rfl) ?_
    intro w344 hg345 hb346 hz347
    refine gv_nil <| gv_seq <| gv_region <| gv_pureN 2 [32, 33] [(33, (.bool (decide (r325.1 < 0))))] (by kernel_rfl) ?_
    refine gv_nil <| gv_cond (b := (decide (r325.1 < 0))) (by kernel_rfl) (fun hc348 => ?_) (fun hc348 => ?_)
    ·replace h2 := ite_t hc348 h2
     refine gv_seq <| gv_region ?_
     have hg349 := (grown_trans hg335 hg339)
     have hk350 := hb315.grown hg335 nb
     have lt351 := ltl ((ltb hk350) _ rfl) ((lowb hbe341) _ rfl)
     have hk352 := (hb315.grown hg349 nb).grown hg345 (rowne (ng lt351))
     refine gv_loadBox (t := 24) (b := b307) (t' := 24) (fr := (0, 0)) #[(.bool r296.1.1), (.slice a301 (List.length r296.1.2) c302)] [] (fun e => by cases e) rfl rfl rfl (by kernel_rfl) (by kernel_rfl) (by kernel_rfl) (by kernel_rfl) (inw0 hk352) rfl ?_
     have lt357 := ltt lt322 lt351
     have hk358 := (((hk321.grown hg309 nb).grown hg314 (rowne (ng lt322))).grown hg349 nb).grown hg345 (rowne (ng lt357))
     refine gv_store0 24 0 (.agg #[(.bool r296.1.1), (.slice a301 (List.length r296.1.2) c302)]) #[(.bool r296.1.1), (.slice a301 (List.length r296.1.2) c302)] hk358 (by kernel_rfl) (by kernel_rfl) (by kernel_rfl) ?_
     intro w353 hg354 hb355 hz356
     refine gv_nil <| gv_cret ?_
     have e := sj h2; subst e
     replace h1 := congrArg some (hR2 _ rfl)
     have e := sj h1; subst e
     replace h0 := cont_inr h0
     have e := sj h0; subst e
     refine gv_ret (gv_done [(.agg #[(.bool r296.1.1), (.slice a301 (List.length r296.1.2) c302)])] rfl ⟨⟨⟨b7, 0, none⟩, (by kernel_rfl), run_loadVar_row w353 b7 _ 24 _ _ _ hb355 Try.underlying24 rfl (by kernel_rfl)⟩, trivial⟩ ?_)
     have hB359 := grown_step hB333 hg349 nb
     have hB360 := grown_step hB333 hg335 nb
     have hlo361 : w0.heap.size ≤ b337 := lob hbe341 hB360.size
     have hB362 := grown_step hB359 hg345 (rowppr hlo361)
     have hB363 := grown_step hB0 hg3 nb
     have hlo364 : w0.heap.size ≤ b7 := lob hbe11 hB363.size
     have hB365 := grown_step hB362 hg354 (rowppr hlo364)
     have hk366 := hk328.grown hg335 (fun _ h => h.elim) nb
     have ap367 : ¬ (fun k => blk a301 = some k) b337 := fun hx => nl ((lowb hbe341) _ rfl) ((fun k (hk : blk a301 = some k) => hk366.lt k hk) _ hx)
     have ap368 : ¬ (fun k => blk a301 = some k) b7 := fun hx => nl ((show ∀ k, blk a301 = some k → w268.heap.size ≤ k from hl304) _ hx) ((ltb hb295) _ rfl)
     have hk369 := ((hk328.grown hg349 (fun _ h => h.elim) nb).grown hg345 (fun _ h => h.elim) (rdnn (rowne ap367))).grown hg354 (fun _ h => h.elim) (rdnn (rowne ap368))
     have ap370 : ¬ (· = pb0) b307 := fun hx => nl ((lowb hbe311) _ rfl) ((ltb hb305) _ hx)
     have hk371 := ((hb305.grown hg309 nb).grown hg314 (rowne ap370)).grown hg335 nb
     have ap372 : ¬ (· = pb0) b337 := fun hx => nl ((lowb hbe341) _ rfl) ((ltb hk371) _ hx)
     have ap373 : ¬ (· = pb0) b7 := fun hx => nl ((lowb hbe11) _ rfl) ((ltb hk319) _ hx)
     have hk374 := ((((hb305.grown hg309 nb).grown hg314 (rowne ap370)).grown hg349 nb).grown hg345 (rowne ap372)).grown hg354 (rowne ap373)
     exact ⟨hB365, a301, c302, rfl, hk369, hl306, hk374⟩
    ·replace h2 := ite_f hc348 h2
     refine gv_skip <| gv_blk ?_
     have e := sj h2; subst e
     refine gv_goal fun a hd hs hok => ?_
     have hg375 := (grown_trans hg335 hg339)
     have hB376 := grown_step hB333 hg375 nb
     have hB377 := grown_step hB333 hg335 nb
     have hlo378 : w0.heap.size ≤ b337 := lob hbe341 hB377.size
     have hB379 := grown_step hB376 hg345 (rowppr hlo378)
     have hz380 := (nt hz343 hg345.size)
     have hk381 := ho287.grown hg299 (fun _ h => h.elim) (rdnn (rowne (fun (h : blk a285 = some pb0) => nl (hl288 _ h) hpl0)))
     have ap382 : ¬ (fun k => blk a285 = some k) b307 := fun hx => nl ((lowb hbe311) _ rfl) ((fun k (hk : blk a285 = some k) => hk381.lt k hk) _ hx)
     have hk383 := ((hk381.grown hg309 (fun _ h => h.elim) nb).grown hg314 (fun _ h => h.elim) (rdnn (rowne ap382))).grown hg335 (fun _ h => h.elim) nb
     have ap384 : ¬ (fun k => blk a285 = some k) b337 := fun hx => nl ((lowb hbe341) _ rfl) ((fun k (hk : blk a285 = some k) => hk383.lt k hk) _ hx)
     have hk385 := ((((ho287.grown hg299 (fun _ h => h.elim) (rdnn (rowne (fun (h : blk a285 = some pb0) => nl (hl288 _ h) hpl0)))).grown hg309 (fun _ h => h.elim) nb).grown hg314 (fun _ h => h.elim) (rdnn (rowne ap382))).grown hg375 (fun _ h => h.elim) nb).grown hg345 (fun _ h => h.elim) (rdnn (rowne ap384))
     have ap386 : ¬ (· = pb0) b307 := fun hx => nl ((lowb hbe311) _ rfl) ((ltb hb305) _ hx)
     have hk387 := ((hb305.grown hg309 nb).grown hg314 (rowne ap386)).grown hg335 nb
     have ap388 : ¬ (· = pb0) b337 := fun hx => nl ((lowb hbe341) _ rfl) ((ltb hk387) _ hx)
     have hk389 := (((hb305.grown hg309 nb).grown hg314 (rowne ap386)).grown hg375 nb).grown hg345 (rowne ap388)
     have hk390 := hb315.grown hg335 nb
     have lt391 := ltl ((ltb hk390) _ rfl) ((lowb hbe341) _ rfl)
     have lt392 := ltt lt323 lt391
     have hk393 := (hk324.grown hg375 nb).grown hg345 (rowne (ng lt392))
     have lt394 := ltt lt322 lt391
     have hk395 := (((hk321.grown hg309 nb).grown hg314 (rowne (ng lt322))).grown hg375 nb).grown hg345 (rowne (ng lt394))
     exact ⟨((r296.2.1, r296.2.2), (s267.2.1, s267.2.2)), rfl, a285, c286, hB379, hz380, hk385, hl288, ap289, ap290, ap291, ap292, hk389, hk393, hk395, hd, hs, ok_pick [0, 3, 4, 7] hok (by kernel_rfl)⟩
  ·rintro a w266 ⟨s265, e, a398, c399, hB396, hz397, ho400, hl401, ap402, ap403, hb404, hb405, hd, hs, hok⟩
   subst e
   refine gv_in ?_ hd hs hok
   clear hd hs hok
   replace h0 := cont_inl h0
   clear hz397 hz263 hb262 hg261 hz259 hbe258 hb257 hg256 hg252 hr250 ap238 ap237 ap236 ap235 hlo234 hb233 hk226 hk225 hk224 hk223 hB221 hb4
   have e := sj h0; subst e
   refine gv_fall (gv_done [(.agg #[(.bool s265.2.1), (.slice a398 (List.length s265.2.2) c399)])] rfl ⟨⟨⟨b7, 0, none⟩, (by kernel_rfl), run_loadVar_row w266 b7 _ 24 _ _ _ hb405 Try.underlying24 rfl (by kernel_rfl)⟩, trivial⟩ ?_)
   exact ⟨hB396, a398, c399, rfl, ho400, hl401, hb404⟩

theorem random_Below_ok (fuel : Nat) (g_0 : (Int × Int)) (pa1_0 : Option Addr) (pc1_0 : Nat) (n_1 : (Bool × (List Int))) (w0 : World) (X0 : Nat → Prop) (hX0 : ∀ k, X0 k → k < w0.heap.size) (hpa1_0 : Rd (iE .u32) w0 X0 pa1_0 pc1_0 n_1.2) (r0 : ((Bool × (List Int)) × (Int × Int) × (Int × Int))) (h0 : random_Below fuel g_0 n_1 = some r0) :
    Calls Try.prog 16 ([(.agg #[(.int .u64 g_0.1), (.int .u64 g_0.2)]), (.agg #[(.bool n_1.1), (.slice pa1_0 (List.length n_1.2) pc1_0)])] : List Value).toArray w0 (Ret fun v w' => w0.grownBy w' none ∧ ∃ (a0_0r : Option Addr) (c0_0r : Nat), v = tup [(.agg #[(.bool r0.1.1), (.slice a0_0r (List.length r0.1.2) c0_0r)]), (.agg #[(.int .u64 r0.2.1.1), (.int .u64 r0.2.1.2)]), (.agg #[(.int .i64 r0.2.2.1), (.int .i64 r0.2.2.2)])] ∧ Own (iE .u32) 76 w' (fun _ => False) a0_0r c0_0r r0.1.2 ∧ (∀ g, blk a0_0r = some g → w0.heap.size ≤ g)) := by
 have hB0 : Below w0.heap.size w0 w0 := Below.refl _ _
 unfold random_Below at h0
 refine calls_run Try.func16 rfl Try.ntmps16 (by kernel_rfl) ?_
 refine gv_sub [0, 1] (σ' := [(0, (.agg #[(.int .u64 g_0.1), (.int .u64 g_0.2)])), (1, (.agg #[(.bool n_1.1), (.slice pa1_0 (List.length n_1.2) pc1_0)]))]) (by kernel_rfl) ?_
 refine gv_seq <| gv_region <| gv_new0 (fun b => .pointer (some ⟨b, 0, none⟩)) #[(.int .u64 g_0.1), (.int .u64 g_0.2)] 27 (by kernel_rfl) (by kernel_rfl) ?_
 intro b1 w2 hg3 hb4 hbe5 hz6
 refine gv_new0 (fun b => .pointer (some ⟨b, 0, none⟩)) #[(.bool n_1.1), (.slice pa1_0 (List.length n_1.2) pc1_0)] 24 (by kernel_rfl) (by kernel_rfl) ?_
 intro b7 w8 hg9 hb10 hbe11 hz12
 refine gv_new0 (fun b => .pointer (some ⟨b, 0, none⟩)) #[(.bool false), (.slice none (List.length ([] : List Int)) 0)] 24 (by kernel_rfl) (by kernel_rfl) ?_
 intro b13 w14 hg15 hb16 hbe17 hz18
 refine gv_new0 (fun b => .pointer (some ⟨b, 0, none⟩)) #[(.int .u64 0), (.int .u64 0)] 27 (by kernel_rfl) (by kernel_rfl) ?_
 intro b19 w20 hg21 hb22 hbe23 hz24
 refine gv_new0 (fun b => .pointer (some ⟨b, 0, none⟩)) #[(.int .i64 0), (.int .i64 0)] 29 (by kernel_rfl) (by kernel_rfl) ?_
 intro b25 w26 hg27 hb28 hbe29 hz30
 refine gv_nil <| gv_seq <| gv_region ?_
 have hg31 := (grown_trans (grown_trans (grown_trans hg9 hg15) hg21) hg27)
 have hk32 := hb4.grown hg31 nb
 refine gv_loadBox (t := 27) (b := b1) (t' := 27) (fr := (0, 0)) #[(.int .u64 g_0.1), (.int .u64 g_0.2)] [] (fun e => by cases e) rfl rfl rfl (by kernel_rfl) (by kernel_rfl) (by kernel_rfl) (by kernel_rfl) (inw0 hk32) rfl ?_
 refine bindE h0 ?_; clear h0; intro r33 hr34 h0
 refine gv_call0 (by kernel_rfl) rfl (by kernel_rfl) enters39 (random_open_ok fuel (g_0.1, g_0.2) w26  r33 hr34) ?_
 rintro v37 w35 ⟨hg36, p38, rfl, hp39⟩
 rcases hp39 with ⟨hn40, rfl⟩ | ⟨x42, b43, hn41, rfl, hb44, hlo45⟩
 ·skip
  replace h0 := optc_none hn40 h0
  refine gv_pureN 3 [10, 13, 14] [(13, (.pointer none)), (14, (.agg #[(.int .i64 r33.2.1), (.int .i64 r33.2.2)]))] (by kernel_rfl) ?_
  refine gv_new0 (fun b => .pointer (some ⟨b, 0, none⟩)) #[(.int .i64 0), (.int .i64 0)] 29 (by kernel_rfl) (by kernel_rfl) ?_
  intro b46 w47 hg48 hb49 hbe50 hz51
  refine gv_pureN 1 [7] [(7, (.pointer none))] (by kernel_rfl) ?_
  refine gv_store0 29 0 (.agg #[(.int .i64 r33.2.1), (.int .i64 r33.2.2)]) #[(.int .i64 r33.2.1), (.int .i64 r33.2.2)] hb49 (by kernel_rfl) (by kernel_rfl) (by kernel_rfl) ?_
  intro w52 hg53 hb54 hz55
  clear hz55 hz51 hb49 hr34 hk32 hg31 hz30 hz24 hz18 hz12 hz6 hbe5 hb4
  refine gv_nil <| gv_seq <| gv_block <| gv_seq <| gv_region <| gv_pureN 1 [16] [(16, (bp b46))] (by kernel_rfl) ?_
  refine gv_load (t := 3) (A := ⟨b46, 0, none⟩) (.int .i64 r33.2.1) [] (fun e => by cases e) rfl rfl rfl (by kernel_rfl) (by kernel_rfl) (by kernel_rfl) (inw0 (hb54.cell 0 rfl)) rfl ?_
  refine gv_pureN 2 [15, 18] [(15, (.bool (r33.2.1 != 0)))] (by kernel_rfl) ?_
  refine gv_sub [3, 4, 5, 6, 7, 8, 15] (σ' := [(3, (bp b7)), (4, (bp b13)), (5, (bp b19)), (6, (bp b25)), (7, (.pointer none)), (8, (bp b46)), (15, (.bool (r33.2.1 != 0)))]) (by kernel_rfl) ?_
  refine gv_nil <| gv_cond (b := (r33.2.1 != 0)) (by kernel_rfl) (fun hc56 => ?_) (fun hc56 => ?_)
  ·replace h0 := ite_t hc56 h0
   refine gv_seq <| gv_drawA (by kernel_rfl) ?_
   intro w57 hg58
   refine gv_pre [0, 1] (bA 6 [0, 1]) 4 (by kernel_rfl) (by kernel_rfl) ?_
   refine gv_pureN 2 [19, 20] [(19, (.agg #[(.bool false), (.slice none (List.length ([] : List Int)) 0)])), (20, (.agg #[(.int .u64 0), (.int .u64 0)]))] (by kernel_rfl) ?_
   refine gv_nil <| gv_goA ?_
   refine gv_stage (Cls w57 [b13, b19]) [0, 1, 2, 3, 4] [(2, some true), (3, some false), (4, some false)] (bA 6 [0, 1, 2, 3, 4]) 1 (by kernel_rfl) (by kernel_rfl) (Cls.refl _ _) ?_
   have hC59 := Cls.refl w57 [b13, b19]
   have hk60 := hb54.grown hg58 nb
   have lt61 := ltl ((ltb hb16) _ rfl) ((lowb hbe23) _ rfl)
   have lt62 := ltl ((ltb hb22) _ rfl) ((lowb hbe29) _ rfl)
   have lt63 := ltt lt61 lt62
   have hk64 := hb28.grown hg36 nb
   have lt65 := ltl ((ltb hk64) _ rfl) ((lowb hbe50) _ rfl)
   have lt66 := ltt lt63 lt65
   have lt67 := ltt lt62 lt65
   refine gv_loadBox (t := 29) (b := b46) (t' := 29) (fr := (0, 0)) #[(.int .i64 r33.2.1), (.int .i64 r33.2.2)] [] (fun e => by cases e) rfl rfl rfl (by kernel_rfl) (by kernel_rfl) (by kernel_rfl) (by kernel_rfl) (inw1 fun w' hC' => (hC'.box hk60 (nm_cons (ng lt66) (nm_cons (ng lt67) nm_nil)))) rfl ?_
   have hg72 := (grown_trans (grown_trans (grown_trans hg21 hg27) hg36) hg48)
   have hk73 := ((hb16.grown hg72 nb).grown hg53 (rowne (ng lt66))).grown hg58 nb
   refine gv_store (t := 24) (b := b13) (off := 0) (v := (.agg #[(.bool false), (.slice none (List.length ([] : List Int)) 0)])) (t' := 24) (cs := #[(.bool false), (.slice none (List.length ([] : List Int)) 0)]) #[(.bool false), (.slice none (List.length ([] : List Int)) 0)] (by decide) rfl rfl (by kernel_rfl) (by kernel_rfl) (by kernel_rfl) (by intro u hu; simp [Value.cells] at hu; rcases hu with rfl | rfl <;> rfl) (show 0 + 2 ≤ 2 by decide) (by rfl) hk73 ?_
   intro w68 hg69 hb70 hz71
   refine ⟨(fun _ => hC59.grown hg69 (rowm (List.Mem.head _))), ?_⟩
   have hg78 := (grown_trans (grown_trans hg27 hg36) hg48)
   have hk79 := (((hb22.grown hg78 nb).grown hg53 (rowne (ng lt67))).grown hg58 nb).grown hg69 (rowne (Nat.ne_of_lt lt61))
   refine gv_store (t := 27) (b := b19) (off := 0) (v := (.agg #[(.int .u64 0), (.int .u64 0)])) (t' := 27) (cs := #[(.int .u64 0), (.int .u64 0)]) #[(.int .u64 0), (.int .u64 0)] (by decide) rfl rfl (by kernel_rfl) (by kernel_rfl) (by kernel_rfl) (by intro u hu; simp [Value.cells] at hu; rcases hu with rfl | rfl <;> rfl) (show 0 + 2 ≤ 2 by decide) (by rfl) hk79 ?_
   intro w74 hg75 hb76 hz77
   have hC80 := hC59.grown hg69 (rowm (List.Mem.head _))
   refine ⟨(fun _ => hC80.grown hg75 (rowm (List.Mem.tail _ (List.Mem.head _)))), ?_⟩
   refine gv_nil <| gv_goA ?_
   refine gv_stage (fun _ => True) [0, 1, 2, 3, 4, 5] [(5, some false)] (bA 6 [0, 1, 2, 3, 4, 5]) 0 (by kernel_rfl) (by kernel_rfl) trivial ?_
   have hk85 := ((((hk64.grown hg48 nb).grown hg53 (rowne (ng lt65))).grown hg58 nb).grown hg69 (rowne (Nat.ne_of_lt lt63))).grown hg75 (rowne (Nat.ne_of_lt lt62))
   refine gv_store (t := 29) (b := b25) (off := 0) (v := (.agg #[(.int .i64 r33.2.1), (.int .i64 r33.2.2)])) (t' := 29) (cs := #[(.int .i64 0), (.int .i64 0)]) #[(.int .i64 r33.2.1), (.int .i64 r33.2.2)] (by decide) rfl rfl (by kernel_rfl) (by kernel_rfl) (by kernel_rfl) (by intro u hu; simp [Value.cells] at hu; rcases hu with rfl | rfl <;> rfl) (show 0 + 2 ≤ 2 by decide) (by rfl) hk85 ?_
   intro w81 hg82 hb83 hz84
   refine ⟨(fun _ => trivial), ?_⟩
   refine gv_nil <| gv_goA ?_
   refine gv_stageE (by kernel_rfl) ?_
   refine gv_cret ?_
   have e := sj h0; subst e
   have hk86 := (hb70.grown hg75 (rowne (ng lt61))).grown hg82 (rowne (ng lt63))
   have hk87 := hb76.grown hg82 (rowne (ng lt62))
   refine gv_ret (gv_done [(.agg #[(.bool false), (.slice none (List.length ([] : List Int)) 0)]), (.agg #[(.int .u64 0), (.int .u64 0)]), (.agg #[(.int .i64 r33.2.1), (.int .i64 r33.2.2)])] rfl ⟨⟨⟨b13, 0, none⟩, (by kernel_rfl), run_loadVar_row w81 b13 _ 24 _ _ _ hk86 Try.underlying24 rfl (by kernel_rfl)⟩, ⟨⟨b19, 0, none⟩, (by kernel_rfl), run_loadVar_row w81 b19 _ 27 _ _ _ hk87 Try.underlying27 rfl (by kernel_rfl)⟩, ⟨⟨b25, 0, none⟩, (by kernel_rfl), run_loadVar_row w81 b25 _ 29 _ _ _ hb83 Try.underlying29 rfl (by kernel_rfl)⟩, trivial⟩ ?_)
   have hg88 := (grown_trans (grown_trans (grown_trans hg3 hg9) hg15) hg72)
   have hB89 := bg hB0 hg88 nb
   have hg90 := (grown_trans (grown_trans (grown_trans (grown_trans (grown_trans hg3 hg9) hg15) hg21) hg27) hg36)
   have hB91 := bg hB0 hg90 nb
   have hlo92 : w0.heap.size ≤ b46 := lob hbe50 hB91.size
   have hB93 := bg hB89 hg53 (rowlo hlo92)
   have hB94 := bg hB93 hg58 nb
   have hg95 := (grown_trans hg3 hg9)
   have hB96 := bg hB0 hg95 nb
   have hlo97 : w0.heap.size ≤ b13 := lob hbe17 hB96.size
   have hB98 := bg hB94 hg69 (rowlo hlo97)
   have hB99 := bg hB96 hg15 nb
   have hlo100 : w0.heap.size ≤ b19 := lob hbe23 hB99.size
   have hB101 := bg hB98 hg75 (rowlo hlo100)
   have hB102 := bg hB99 hg21 nb
   have hlo103 : w0.heap.size ≤ b25 := lob hbe29 hB102.size
   have hB104 := bg hB101 hg82 (rowlo hlo103)
   exact ⟨grown_of_below hB104, none, 0, rfl, (Own.nil (iE .u32) 76 w81 (fun _ => False)), (fun _ h => by cases h)⟩
  ·replace h0 := ite_f hc56 h0
   refine gv_seq <| gv_region ?_
   have hg105 := (grown_trans (grown_trans (grown_trans (grown_trans hg15 hg21) hg27) hg36) hg48)
   have lt106 := ltl ((ltb hb10) _ rfl) ((lowb hbe17) _ rfl)
   have lt107 := ltl ((ltb hb16) _ rfl) ((lowb hbe23) _ rfl)
   have lt108 := ltt lt106 lt107
   have lt109 := ltl ((ltb hb22) _ rfl) ((lowb hbe29) _ rfl)
   have lt110 := ltt lt108 lt109
   have hk111 := hb28.grown hg36 nb
   have lt112 := ltl ((ltb hk111) _ rfl) ((lowb hbe50) _ rfl)
   have lt113 := ltt lt110 lt112
   have hk114 := (hb10.grown hg105 nb).grown hg53 (rowne (ng lt113))
   refine gv_loadBox (t := 24) (b := b7) (t' := 24) (fr := (0, 0)) #[(.bool n_1.1), (.slice pa1_0 (List.length n_1.2) pc1_0)] [] (fun e => by cases e) rfl rfl rfl (by kernel_rfl) (by kernel_rfl) (by kernel_rfl) (by kernel_rfl) (inw0 hk114) rfl ?_
   refine bindE h0 ?_; clear h0; intro r115 hr116 h0
   have hg117 := (grown_trans (grown_trans hg3 hg9) hg105)
   have hB118 := bg hB0 hg117 nb
   have hg119 := (grown_trans (grown_trans (grown_trans (grown_trans (grown_trans hg3 hg9) hg15) hg21) hg27) hg36)
   have hB120 := bg hB0 hg119 nb
   have hlo121 : w0.heap.size ≤ b46 := lob hbe50 hB120.size
   have hB122 := bg hB118 hg53 (rowlo hlo121)
   refine gv_call0 (by kernel_rfl) rfl (by kernel_rfl) enters36 (integer_Valid_ok fuel pa1_0 pc1_0 (n_1.1, n_1.2) w52 (fun k => X0 k) (fun k hk => (fun k (hk : X0 k) => ltl (hX0 k hk) hB122.size) k hk) ((hpa1_0.below hB122 hX0).wide (fun k hk => hk)) r115 hr116) ?_
   rintro v125 w123 ⟨hg124, rfl⟩
   refine gv_pureN 2 [22, 25] [(22, (.bool (!r115)))] (by kernel_rfl) ?_
   refine gv_nil <| gv_cond (b := (!r115)) (by kernel_rfl) (fun hc126 => ?_) (fun hc126 => ?_)
   ·replace h0 := ite_t hc126 h0
    refine gv_seq <| gv_region <| gv_pureN 2 [26, 27] [(26, (.agg #[(.bool false), (.slice none (List.length ([] : List Int)) 0)])), (27, (.agg #[(.int .u64 0), (.int .u64 0)]))] (by kernel_rfl) ?_
    refine bindE h0 ?_; clear h0; intro r127 hr128 h0
    refine gv_call0 (by kernel_rfl) rfl (by kernel_rfl) enters37 (random_at_ok fuel 6 (-2) w123  r127 hr128) ?_
    rintro v131 w129 ⟨hg130, rfl⟩
    have hg136 := (grown_trans (grown_trans (grown_trans hg21 hg27) hg36) hg48)
    have lt137 := ltt lt107 lt109
    have lt138 := ltt lt137 lt112
    have hg139 := (grown_trans hg124 hg130)
    have hk140 := ((hb16.grown hg136 nb).grown hg53 (rowne (ng lt138))).grown hg139 nb
    refine gv_store0 24 0 (.agg #[(.bool false), (.slice none (List.length ([] : List Int)) 0)]) #[(.bool false), (.slice none (List.length ([] : List Int)) 0)] hk140 (by kernel_rfl) (by kernel_rfl) (by kernel_rfl) ?_
    intro w132 hg133 hb134 hz135
    have hg145 := (grown_trans (grown_trans hg27 hg36) hg48)
    have lt146 := ltt lt109 lt112
    have hk147 := (((hb22.grown hg145 nb).grown hg53 (rowne (ng lt146))).grown hg139 nb).grown hg133 (rowne (Nat.ne_of_lt lt107))
    refine gv_store0 27 0 (.agg #[(.int .u64 0), (.int .u64 0)]) #[(.int .u64 0), (.int .u64 0)] hk147 (by kernel_rfl) (by kernel_rfl) (by kernel_rfl) ?_
    intro w141 hg142 hb143 hz144
    clear hz144 hk147 lt146 hg145 hz135 hk140 hg139 lt138 hg136 hr128 hc126 hlo121 hB120 hg119 hB118 hg117 hr116 hk114 lt113 lt110 lt108 lt106 hg105 hc56 hb54 hbe50 hg36 hb28 hg27 hb22 hb16 hbe11 hb10
    have hg152 := (grown_trans hg124 hg130)
    have hk153 := ((((hk111.grown hg48 nb).grown hg53 (rowne (ng lt112))).grown hg152 nb).grown hg133 (rowne (Nat.ne_of_lt lt137))).grown hg142 (rowne (Nat.ne_of_lt lt109))
    refine gv_store0 29 0 (.agg #[(.int .i64 r127.1), (.int .i64 r127.2)]) #[(.int .i64 r127.1), (.int .i64 r127.2)] hk153 (by kernel_rfl) (by kernel_rfl) (by kernel_rfl) ?_
    intro w148 hg149 hb150 hz151
    refine gv_nil <| gv_cret ?_
    have e := sj h0; subst e
    have hk154 := (hb134.grown hg142 (rowne (ng lt107))).grown hg149 (rowne (ng lt137))
    have hk155 := hb143.grown hg149 (rowne (ng lt109))
    refine gv_ret (gv_done [(.agg #[(.bool false), (.slice none (List.length ([] : List Int)) 0)]), (.agg #[(.int .u64 0), (.int .u64 0)]), (.agg #[(.int .i64 r127.1), (.int .i64 r127.2)])] rfl ⟨⟨⟨b13, 0, none⟩, (by kernel_rfl), run_loadVar_row w148 b13 _ 24 _ _ _ hk154 Try.underlying24 rfl (by kernel_rfl)⟩, ⟨⟨b19, 0, none⟩, (by kernel_rfl), run_loadVar_row w148 b19 _ 27 _ _ _ hk155 Try.underlying27 rfl (by kernel_rfl)⟩, ⟨⟨b25, 0, none⟩, (by kernel_rfl), run_loadVar_row w148 b25 _ 29 _ _ _ hb150 Try.underlying29 rfl (by kernel_rfl)⟩, trivial⟩ ?_)
    have hB156 := bg hB122 hg152 nb
    have hg157 := (grown_trans hg3 hg9)
    have hB158 := bg hB0 hg157 nb
    have hlo159 : w0.heap.size ≤ b13 := lob hbe17 hB158.size
    have hB160 := bg hB156 hg133 (rowlo hlo159)
    have hB161 := bg hB158 hg15 nb
    have hlo162 : w0.heap.size ≤ b19 := lob hbe23 hB161.size
    have hB163 := bg hB160 hg142 (rowlo hlo162)
    have hB164 := bg hB161 hg21 nb
    have hlo165 : w0.heap.size ≤ b25 := lob hbe29 hB164.size
    have hB166 := bg hB163 hg149 (rowlo hlo165)
    exact ⟨grown_of_below hB166, none, 0, rfl, (Own.nil (iE .u32) 76 w148 (fun _ => False)), (fun _ h => by cases h)⟩
   ·replace h0 := ite_f hc126 h0
    refine gv_seq <| gv_region <| bindE h0 ?_; clear h0; intro j167 h1 h0
    refine gv_cut_ops (J := fun a w168 => Below w0.heap.size w0 w168 ∧ w123.heap.size ≤ w168.heap.size ∧ Box w168 b7 24 #[(.bool n_1.1), (.slice pa1_0 (List.length n_1.2) pc1_0)] ∧ Box w168 b13 24 #[(.bool false), (.slice none (List.length ([] : List Int)) 0)] ∧ Box w168 b19 27 #[(.int .u64 0), (.int .u64 0)] ∧ Box w168 b25 29 #[(.int .i64 0), (.int .i64 0)] ∧ a.defers = [] ∧ a.tmps.size = 50 ∧ Ok [(3, (bp b7)), (4, (bp b13)), (5, (bp b19)), (6, (bp b25)), (7, (.pointer none)), (29, (.bool j167))] a.tmps) ?_ ?_
    ·skip
     refine gv_pureN 1 [30] [(30, (bp b7))] (by kernel_rfl) ?_
     have hk169 := hk114.grown hg124 nb
     refine gv_load (t := 4) (A := ⟨b7, 0, none⟩) (.bool n_1.1) [] (fun e => by cases e) rfl rfl rfl (by kernel_rfl) (by kernel_rfl) (by kernel_rfl) (inw0 (hk169.cell 0 rfl)) rfl ?_
     refine gv_pureN 1 [32] [(32, (.bool n_1.1))] (by kernel_rfl) ?_
     refine gv_split (s := 32) (g := n_1.1) (by kernel_rfl) (fun hc170 => ?_) (fun hc170 => ?_)
     ·skip
      replace h1 := ite_t hc170 h1
      refine gv_pureN 6 [29, 33, 34, 35, 36, 37] [(29, (.bool true))] (by kernel_rfl) ?_
      refine gv_nil ?_
      have e := sj h1; subst e
      refine gv_goal fun a hd hs hok => ?_
      have hB171 := bg hB122 hg124 nb
      have hg172 := (grown_trans (grown_trans (grown_trans hg21 hg27) hg36) hg48)
      have lt173 := ltt lt107 lt109
      have lt174 := ltt lt173 lt112
      have hk175 := ((hb16.grown hg172 nb).grown hg53 (rowne (ng lt174))).grown hg124 nb
      have hg176 := (grown_trans (grown_trans hg27 hg36) hg48)
      have lt177 := ltt lt109 lt112
      have hk178 := ((hb22.grown hg176 nb).grown hg53 (rowne (ng lt177))).grown hg124 nb
      have hk179 := ((hk111.grown hg48 nb).grown hg53 (rowne (ng lt112))).grown hg124 nb
      exact ⟨hB171, (Nat.le_refl _), hk169, hk175, hk178, hk179, hd, hs, ok_pick [3, 4, 5, 6, 7, 29] hok (by kernel_rfl)⟩
     ·skip
      replace h1 := ite_f hc170 h1
      refine gv_pureN 1 [33] [(33, (.pointer (some ⟨b7, 1, none⟩)))] (by kernel_rfl) ?_
      refine gv_load (t := 22) (A := ⟨b7, 1, none⟩) (.slice pa1_0 (List.length n_1.2) pc1_0) [] (fun e => by cases e) rfl rfl rfl (by kernel_rfl) (by kernel_rfl) (by kernel_rfl) (inw0 (hk169.cell 1 rfl)) rfl ?_
      refine gv_pureN 4 [29, 35, 36, 37] [(29, (.bool (((List.length n_1.2 : Nat) : Int) == 0)))] (by kernel_rfl) ?_
      refine gv_nil ?_
      have e := sj h1; subst e
      refine gv_goal fun a hd hs hok => ?_
      have hB180 := bg hB122 hg124 nb
      have hg181 := (grown_trans (grown_trans (grown_trans hg21 hg27) hg36) hg48)
      have lt182 := ltt lt107 lt109
      have lt183 := ltt lt182 lt112
      have hk184 := ((hb16.grown hg181 nb).grown hg53 (rowne (ng lt183))).grown hg124 nb
      have hg185 := (grown_trans (grown_trans hg27 hg36) hg48)
      have lt186 := ltt lt109 lt112
      have hk187 := ((hb22.grown hg185 nb).grown hg53 (rowne (ng lt186))).grown hg124 nb
      have hk188 := ((hk111.grown hg48 nb).grown hg53 (rowne (ng lt112))).grown hg124 nb
      exact ⟨hB180, (Nat.le_refl _), hk169, hk184, hk187, hk188, hd, hs, ok_pick [3, 4, 5, 6, 7, 29] hok (by kernel_rfl)⟩
    ·rintro a w168 ⟨hB189, hz190, hb191, hb192, hb193, hb194, hd, hs, hok⟩
     refine gv_in ?_ hd hs hok
     clear hd hs hok
     clear hz190 hc126 hg124 hB122 hlo121 hB120 hg119 hB118 hg117 hr116 hk114 lt113 lt112 hk111 hg105 hc56 hb54 hg53 hbe50 hg48 hg36 hb28 hg27 hb22 hb16 hb10
     refine gv_cond (b := j167) (by kernel_rfl) (fun hc195 => ?_) (fun hc195 => ?_)
     ·replace h0 := ite_t hc195 h0
      refine gv_seq <| gv_region <| gv_pureN 2 [38, 39] [(38, (.agg #[(.bool false), (.slice none (List.length ([] : List Int)) 0)])), (39, (.agg #[(.int .u64 0), (.int .u64 0)]))] (by kernel_rfl) ?_
      refine bindE h0 ?_; clear h0; intro r196 hr197 h0
      refine gv_call0 (by kernel_rfl) rfl (by kernel_rfl) enters37 (random_at_ok fuel 4 (-2) w168  r196 hr197) ?_
      rintro v200 w198 ⟨hg199, rfl⟩
      have hk205 := hb192.grown hg199 nb
      refine gv_store0 24 0 (.agg #[(.bool false), (.slice none (List.length ([] : List Int)) 0)]) #[(.bool false), (.slice none (List.length ([] : List Int)) 0)] hk205 (by kernel_rfl) (by kernel_rfl) (by kernel_rfl) ?_
      intro w201 hg202 hb203 hz204
      have hk210 := (hb193.grown hg199 nb).grown hg202 (rowne (Nat.ne_of_lt lt107))
      refine gv_store0 27 0 (.agg #[(.int .u64 0), (.int .u64 0)]) #[(.int .u64 0), (.int .u64 0)] hk210 (by kernel_rfl) (by kernel_rfl) (by kernel_rfl) ?_
      intro w206 hg207 hb208 hz209
      have lt215 := ltt lt107 lt109
      have hk216 := ((hb194.grown hg199 nb).grown hg202 (rowne (Nat.ne_of_lt lt215))).grown hg207 (rowne (Nat.ne_of_lt lt109))
      refine gv_store0 29 0 (.agg #[(.int .i64 r196.1), (.int .i64 r196.2)]) #[(.int .i64 r196.1), (.int .i64 r196.2)] hk216 (by kernel_rfl) (by kernel_rfl) (by kernel_rfl) ?_
      intro w211 hg212 hb213 hz214
      refine gv_nil <| gv_cret ?_
      have e := sj h0; subst e
      have hk217 := (hb203.grown hg207 (rowne (ng lt107))).grown hg212 (rowne (ng lt215))
      have hk218 := hb208.grown hg212 (rowne (ng lt109))
      refine gv_ret (gv_done [(.agg #[(.bool false), (.slice none (List.length ([] : List Int)) 0)]), (.agg #[(.int .u64 0), (.int .u64 0)]), (.agg #[(.int .i64 r196.1), (.int .i64 r196.2)])] rfl ⟨⟨⟨b13, 0, none⟩, (by kernel_rfl), run_loadVar_row w211 b13 _ 24 _ _ _ hk217 Try.underlying24 rfl (by kernel_rfl)⟩, ⟨⟨b19, 0, none⟩, (by kernel_rfl), run_loadVar_row w211 b19 _ 27 _ _ _ hk218 Try.underlying27 rfl (by kernel_rfl)⟩, ⟨⟨b25, 0, none⟩, (by kernel_rfl), run_loadVar_row w211 b25 _ 29 _ _ _ hb213 Try.underlying29 rfl (by kernel_rfl)⟩, trivial⟩ ?_)
      have hB219 := bg hB189 hg199 nb
      have hg220 := (grown_trans hg3 hg9)
      have hB221 := bg hB0 hg220 nb
      have hlo222 : w0.heap.size ≤ b13 := lob hbe17 hB221.size
      have hB223 := bg hB219 hg202 (rowlo hlo222)
      have hB224 := bg hB221 hg15 nb
      have hlo225 : w0.heap.size ≤ b19 := lob hbe23 hB224.size
      have hB226 := bg hB223 hg207 (rowlo hlo225)
      have hB227 := bg hB224 hg21 nb
      have hlo228 : w0.heap.size ≤ b25 := lob hbe29 hB227.size
      have hB229 := bg hB226 hg212 (rowlo hlo228)
      exact ⟨grown_of_below hB229, none, 0, rfl, (Own.nil (iE .u32) 76 w211 (fun _ => False)), (fun _ h => by cases h)⟩
     ·replace h0 := ite_f hc195 h0
      refine gv_skip <| gv_blk <| gv_seq <| gv_region <| gv_pureN 1 [41] [(41, (.pointer none))] (by kernel_rfl) ?_
      refine gv_loadBox (t := 24) (b := b7) (t' := 24) (fr := (0, 0)) #[(.bool n_1.1), (.slice pa1_0 (List.length n_1.2) pc1_0)] [] (fun e => by cases e) rfl rfl rfl (by kernel_rfl) (by kernel_rfl) (by kernel_rfl) (by kernel_rfl) (inw0 hb191) rfl ?_
      cases h0
 ·skip
  replace h0 := optc_some hn41 h0
  have hg233 := (grown_trans hg3 hg31)
  have hB234 := bg hB0 hg233 nb
  have hl232 : w0.heap.size ≤ b43 := Nat.le_trans hB234.size hlo45
  refine gv_pureN 3 [10, 13, 14] [(13, (bp b43)), (14, (.agg #[(.int .i64 r33.2.1), (.int .i64 r33.2.2)]))] (by kernel_rfl) ?_
  refine gv_new0 (fun b => .pointer (some ⟨b, 0, none⟩)) #[(.int .i64 0), (.int .i64 0)] 29 (by kernel_rfl) (by kernel_rfl) ?_
  intro b235 w236 hg237 hb238 hbe239 hz240
  refine gv_pureN 1 [7] [(7, (bp b43))] (by kernel_rfl) ?_
  refine gv_store0 29 0 (.agg #[(.int .i64 r33.2.1), (.int .i64 r33.2.2)]) #[(.int .i64 r33.2.1), (.int .i64 r33.2.2)] hb238 (by kernel_rfl) (by kernel_rfl) (by kernel_rfl) ?_
  intro w241 hg242 hb243 hz244
  refine gv_nil <| gv_seq <| gv_block <| gv_seq <| gv_region <| gv_pureN 1 [16] [(16, (bp b235))] (by kernel_rfl) ?_
  refine gv_load (t := 3) (A := ⟨b235, 0, none⟩) (.int .i64 r33.2.1) [] (fun e => by cases e) rfl rfl rfl (by kernel_rfl) (by kernel_rfl) (by kernel_rfl) (inw0 (hb243.cell 0 rfl)) rfl ?_
  refine gv_pureN 2 [15, 18] [(15, (.bool (r33.2.1 != 0)))] (by kernel_rfl) ?_
  refine gv_sub [3, 4, 5, 6, 7, 8, 15] (σ' := [(3, (bp b7)), (4, (bp b13)), (5, (bp b19)), (6, (bp b25)), (7, (bp b43)), (8, (bp b235)), (15, (.bool (r33.2.1 != 0)))]) (by kernel_rfl) ?_
  refine gv_nil <| gv_cond (b := (r33.2.1 != 0)) (by kernel_rfl) (fun hc245 => ?_) (fun hc245 => ?_)
  ·replace h0 := ite_t hc245 h0
   refine gv_seq <| gv_drawA (by kernel_rfl) ?_
   intro w246 hg247
   refine gv_pre [0, 1] (bA 6 [0, 1]) 4 (by kernel_rfl) (by kernel_rfl) ?_
   clear hc245 hz244 hz240 hb238 hg233 hr34 hg31 hz30 hz24 hz18 hz12 hz6
   refine gv_pureN 2 [19, 20] [(19, (.agg #[(.bool false), (.slice none (List.length ([] : List Int)) 0)])), (20, (.agg #[(.int .u64 0), (.int .u64 0)]))] (by kernel_rfl) ?_
   refine gv_nil <| gv_goA ?_
   refine gv_stage (Cls w246 [b13, b19]) [0, 1, 2, 3, 4] [(2, some true), (3, some false), (4, some false)] (bA 6 [0, 1, 2, 3, 4]) 1 (by kernel_rfl) (by kernel_rfl) (Cls.refl _ _) ?_
   have hC248 := Cls.refl w246 [b13, b19]
   have hk249 := hb243.grown hg247 nb
   have lt250 := ltl ((ltb hb16) _ rfl) ((lowb hbe23) _ rfl)
   have lt251 := ltl ((ltb hb22) _ rfl) ((lowb hbe29) _ rfl)
   have lt252 := ltt lt250 lt251
   have lt253 := ltl ((ltb hb28) _ rfl) ((lowe hlo45) _ rfl)
   have lt254 := ltt lt252 lt253
   have lt255 := ltl ((ltb hb44) _ rfl) ((lowb hbe239) _ rfl)
   have lt256 := ltt lt254 lt255
   have lt257 := ltt lt251 lt253
   have lt258 := ltt lt257 lt255
   refine gv_loadBox (t := 29) (b := b235) (t' := 29) (fr := (0, 0)) #[(.int .i64 r33.2.1), (.int .i64 r33.2.2)] [] (fun e => by cases e) rfl rfl rfl (by kernel_rfl) (by kernel_rfl) (by kernel_rfl) (by kernel_rfl) (inw1 fun w' hC' => (hC'.box hk249 (nm_cons (ng lt256) (nm_cons (ng lt258) nm_nil)))) rfl ?_
   have hg263 := (grown_trans (grown_trans (grown_trans hg21 hg27) hg36) hg237)
   have hk264 := ((hb16.grown hg263 nb).grown hg242 (rowne (ng lt256))).grown hg247 nb
   refine gv_store (t := 24) (b := b13) (off := 0) (v := (.agg #[(.bool false), (.slice none (List.length ([] : List Int)) 0)])) (t' := 24) (cs := #[(.bool false), (.slice none (List.length ([] : List Int)) 0)]) #[(.bool false), (.slice none (List.length ([] : List Int)) 0)] (by decide) rfl rfl (by kernel_rfl) (by kernel_rfl) (by kernel_rfl) (by intro u hu; simp [Value.cells] at hu; rcases hu with rfl | rfl <;> rfl) (show 0 + 2 ≤ 2 by decide) (by rfl) hk264 ?_
   intro w259 hg260 hb261 hz262
   refine ⟨(fun _ => hC248.grown hg260 (rowm (List.Mem.head _))), ?_⟩
   have hg269 := (grown_trans (grown_trans hg27 hg36) hg237)
   have hk270 := (((hb22.grown hg269 nb).grown hg242 (rowne (ng lt258))).grown hg247 nb).grown hg260 (rowne (Nat.ne_of_lt lt250))
   refine gv_store (t := 27) (b := b19) (off := 0) (v := (.agg #[(.int .u64 0), (.int .u64 0)])) (t' := 27) (cs := #[(.int .u64 0), (.int .u64 0)]) #[(.int .u64 0), (.int .u64 0)] (by decide) rfl rfl (by kernel_rfl) (by kernel_rfl) (by kernel_rfl) (by intro u hu; simp [Value.cells] at hu; rcases hu with rfl | rfl <;> rfl) (show 0 + 2 ≤ 2 by decide) (by rfl) hk270 ?_
   intro w265 hg266 hb267 hz268
   have hC271 := hC248.grown hg260 (rowm (List.Mem.head _))
   refine ⟨(fun _ => hC271.grown hg266 (rowm (List.Mem.tail _ (List.Mem.head _)))), ?_⟩
   refine gv_nil <| gv_goA ?_
   refine gv_stage (fun _ => True) [0, 1, 2, 3, 4, 5] [(5, some false)] (bA 6 [0, 1, 2, 3, 4, 5]) 0 (by kernel_rfl) (by kernel_rfl) trivial ?_
   have hg276 := (grown_trans hg36 hg237)
   have lt277 := ltt lt253 lt255
   have hk278 := ((((hb28.grown hg276 nb).grown hg242 (rowne (ng lt277))).grown hg247 nb).grown hg260 (rowne (Nat.ne_of_lt lt252))).grown hg266 (rowne (Nat.ne_of_lt lt251))
   refine gv_store (t := 29) (b := b25) (off := 0) (v := (.agg #[(.int .i64 r33.2.1), (.int .i64 r33.2.2)])) (t' := 29) (cs := #[(.int .i64 0), (.int .i64 0)]) #[(.int .i64 r33.2.1), (.int .i64 r33.2.2)] (by decide) rfl rfl (by kernel_rfl) (by kernel_rfl) (by kernel_rfl) (by intro u hu; simp [Value.cells] at hu; rcases hu with rfl | rfl <;> rfl) (show 0 + 2 ≤ 2 by decide) (by rfl) hk278 ?_
   intro w272 hg273 hb274 hz275
   refine ⟨(fun _ => trivial), ?_⟩
   refine gv_nil <| gv_goA ?_
   refine gv_stageE (by kernel_rfl) ?_
   refine gv_cret ?_
   have e := sj h0; subst e
   have hk279 := (hb261.grown hg266 (rowne (ng lt250))).grown hg273 (rowne (ng lt252))
   have hk280 := hb267.grown hg273 (rowne (ng lt251))
   refine gv_ret (gv_done [(.agg #[(.bool false), (.slice none (List.length ([] : List Int)) 0)]), (.agg #[(.int .u64 0), (.int .u64 0)]), (.agg #[(.int .i64 r33.2.1), (.int .i64 r33.2.2)])] rfl ⟨⟨⟨b13, 0, none⟩, (by kernel_rfl), run_loadVar_row w272 b13 _ 24 _ _ _ hk279 Try.underlying24 rfl (by kernel_rfl)⟩, ⟨⟨b19, 0, none⟩, (by kernel_rfl), run_loadVar_row w272 b19 _ 27 _ _ _ hk280 Try.underlying27 rfl (by kernel_rfl)⟩, ⟨⟨b25, 0, none⟩, (by kernel_rfl), run_loadVar_row w272 b25 _ 29 _ _ _ hb274 Try.underlying29 rfl (by kernel_rfl)⟩, trivial⟩ ?_)
   have hB281 := bg hB234 hg276 nb
   have hB282 := bg hB234 hg36 nb
   have hlo283 : w0.heap.size ≤ b235 := lob hbe239 hB282.size
   have hB284 := bg hB281 hg242 (rowlo hlo283)
   have hB285 := bg hB284 hg247 nb
   have hg286 := (grown_trans hg3 hg9)
   have hB287 := bg hB0 hg286 nb
   have hlo288 : w0.heap.size ≤ b13 := lob hbe17 hB287.size
   have hB289 := bg hB285 hg260 (rowlo hlo288)
   have hB290 := bg hB287 hg15 nb
   have hlo291 : w0.heap.size ≤ b19 := lob hbe23 hB290.size
   have hB292 := bg hB289 hg266 (rowlo hlo291)
   have hB293 := bg hB290 hg21 nb
   have hlo294 : w0.heap.size ≤ b25 := lob hbe29 hB293.size
   have hB295 := bg hB292 hg273 (rowlo hlo294)
   exact ⟨grown_of_below hB295, none, 0, rfl, (Own.nil (iE .u32) 76 w272 (fun _ => False)), (fun _ h => by cases h)⟩
  ·replace h0 := ite_f hc245 h0
   refine gv_seq <| gv_region ?_
   have hg296 := (grown_trans (grown_trans (grown_trans (grown_trans hg15 hg21) hg27) hg36) hg237)
   have lt297 := ltl ((ltb hb10) _ rfl) ((lowb hbe17) _ rfl)
   have lt298 := ltl ((ltb hb16) _ rfl) ((lowb hbe23) _ rfl)
   have lt299 := ltt lt297 lt298
   have lt300 := ltl ((ltb hb22) _ rfl) ((lowb hbe29) _ rfl)
   have lt301 := ltt lt299 lt300
   have lt302 := ltl ((ltb hb28) _ rfl) ((lowe hlo45) _ rfl)
   have lt303 := ltt lt301 lt302
   have lt304 := ltl ((ltb hb44) _ rfl) ((lowb hbe239) _ rfl)
   have lt305 := ltt lt303 lt304
   have hk306 := (hb10.grown hg296 nb).grown hg242 (rowne (ng lt305))
   refine gv_loadBox (t := 24) (b := b7) (t' := 24) (fr := (0, 0)) #[(.bool n_1.1), (.slice pa1_0 (List.length n_1.2) pc1_0)] [] (fun e => by cases e) rfl rfl rfl (by kernel_rfl) (by kernel_rfl) (by kernel_rfl) (by kernel_rfl) (inw0 hk306) rfl ?_
   refine bindE h0 ?_; clear h0; intro r307 hr308 h0
   have hg309 := (grown_trans hg36 hg237)
   have hB310 := bg hB234 hg309 nb
   have hB311 := bg hB234 hg36 nb
   have hlo312 : w0.heap.size ≤ b235 := lob hbe239 hB311.size
   have hB313 := bg hB310 hg242 (rowlo hlo312)
   refine gv_call0 (by kernel_rfl) rfl (by kernel_rfl) enters36 (integer_Valid_ok fuel pa1_0 pc1_0 (n_1.1, n_1.2) w241 (fun k => X0 k) (fun k hk => (fun k (hk : X0 k) => ltl (hX0 k hk) hB313.size) k hk) ((hpa1_0.below hB313 hX0).wide (fun k hk => hk)) r307 hr308) ?_
   rintro v316 w314 ⟨hg315, rfl⟩
   refine gv_pureN 2 [22, 25] [(22, (.bool (!r307)))] (by kernel_rfl) ?_
   refine gv_nil <| gv_cond (b := (!r307)) (by kernel_rfl) (fun hc317 => ?_) (fun hc317 => ?_)
   ·replace h0 := ite_t hc317 h0
    refine gv_seq <| gv_region <| gv_pureN 2 [26, 27] [(26, (.agg #[(.bool false), (.slice none (List.length ([] : List Int)) 0)])), (27, (.agg #[(.int .u64 0), (.int .u64 0)]))] (by kernel_rfl) ?_
    refine bindE h0 ?_; clear h0; intro r318 hr319 h0
    refine gv_call0 (by kernel_rfl) rfl (by kernel_rfl) enters37 (random_at_ok fuel 6 (-2) w314  r318 hr319) ?_
    rintro v322 w320 ⟨hg321, rfl⟩
    have hg327 := (grown_trans (grown_trans hg21 hg27) hg309)
    have lt328 := ltt lt298 lt300
    have lt329 := ltt lt328 lt302
    have lt330 := ltt lt329 lt304
    have hg331 := (grown_trans hg315 hg321)
    have hk332 := ((hb16.grown hg327 nb).grown hg242 (rowne (ng lt330))).grown hg331 nb
    refine gv_store0 24 0 (.agg #[(.bool false), (.slice none (List.length ([] : List Int)) 0)]) #[(.bool false), (.slice none (List.length ([] : List Int)) 0)] hk332 (by kernel_rfl) (by kernel_rfl) (by kernel_rfl) ?_
    intro w323 hg324 hb325 hz326
    have hg337 := (grown_trans hg27 hg309)
    have lt338 := ltt lt300 lt302
    have lt339 := ltt lt338 lt304
    have hk340 := (((hb22.grown hg337 nb).grown hg242 (rowne (ng lt339))).grown hg331 nb).grown hg324 (rowne (Nat.ne_of_lt lt298))
    refine gv_store0 27 0 (.agg #[(.int .u64 0), (.int .u64 0)]) #[(.int .u64 0), (.int .u64 0)] hk340 (by kernel_rfl) (by kernel_rfl) (by kernel_rfl) ?_
    intro w333 hg334 hb335 hz336
    have lt345 := ltt lt302 lt304
    have hk346 := ((((hb28.grown hg309 nb).grown hg242 (rowne (ng lt345))).grown hg331 nb).grown hg324 (rowne (Nat.ne_of_lt lt328))).grown hg334 (rowne (Nat.ne_of_lt lt300))
    refine gv_store0 29 0 (.agg #[(.int .i64 r318.1), (.int .i64 r318.2)]) #[(.int .i64 r318.1), (.int .i64 r318.2)] hk346 (by kernel_rfl) (by kernel_rfl) (by kernel_rfl) ?_
    intro w341 hg342 hb343 hz344
    clear hz344 hk346 lt345 hz336 hk340 lt339 lt338 hg337 hz326 hk332 hg331 lt330 lt329 hg327 hr319 hc317 hlo312 hB311 hB310 hg309 hr308 hk306 lt305 lt304 lt303 lt302 lt301 lt299 lt297 hg296 hc245 hz244 hb243 hg242 hz240 hbe239 hb238 hg237 hl232 hB234 hg233 hg36 hr34 hk32 hg31 hz30 hb28 hg27 hz24 hb22 hz18 hb16 hz12 hbe11 hb10 hz6 hbe5 hb4
    refine gv_nil <| gv_cret ?_
    have e := sj h0; subst e
    have hk347 := (hb325.grown hg334 (rowne (ng lt298))).grown hg342 (rowne (ng lt328))
    have hk348 := hb335.grown hg342 (rowne (ng lt300))
    refine gv_ret (gv_done [(.agg #[(.bool false), (.slice none (List.length ([] : List Int)) 0)]), (.agg #[(.int .u64 0), (.int .u64 0)]), (.agg #[(.int .i64 r318.1), (.int .i64 r318.2)])] rfl ⟨⟨⟨b13, 0, none⟩, (by kernel_rfl), run_loadVar_row w341 b13 _ 24 _ _ _ hk347 Try.underlying24 rfl (by kernel_rfl)⟩, ⟨⟨b19, 0, none⟩, (by kernel_rfl), run_loadVar_row w341 b19 _ 27 _ _ _ hk348 Try.underlying27 rfl (by kernel_rfl)⟩, ⟨⟨b25, 0, none⟩, (by kernel_rfl), run_loadVar_row w341 b25 _ 29 _ _ _ hb343 Try.underlying29 rfl (by kernel_rfl)⟩, trivial⟩ ?_)
    have hg349 := (grown_trans hg315 hg321)
    have hB350 := bg hB313 hg349 nb
    have hg351 := (grown_trans hg3 hg9)
    have hB352 := bg hB0 hg351 nb
    have hlo353 : w0.heap.size ≤ b13 := lob hbe17 hB352.size
    have hB354 := bg hB350 hg324 (rowlo hlo353)
    have hB355 := bg hB352 hg15 nb
    have hlo356 : w0.heap.size ≤ b19 := lob hbe23 hB355.size
    have hB357 := bg hB354 hg334 (rowlo hlo356)
    have hB358 := bg hB355 hg21 nb
    have hlo359 : w0.heap.size ≤ b25 := lob hbe29 hB358.size
    have hB360 := bg hB357 hg342 (rowlo hlo359)
    exact ⟨grown_of_below hB360, none, 0, rfl, (Own.nil (iE .u32) 76 w341 (fun _ => False)), (fun _ h => by cases h)⟩
   ·replace h0 := ite_f hc317 h0
    refine gv_seq <| gv_region <| bindE h0 ?_; clear h0; intro j361 h1 h0
    refine gv_cut_ops (J := fun a w362 => Below w0.heap.size w0 w362 ∧ w314.heap.size ≤ w362.heap.size ∧ Box w362 b7 24 #[(.bool n_1.1), (.slice pa1_0 (List.length n_1.2) pc1_0)] ∧ Box w362 b13 24 #[(.bool false), (.slice none (List.length ([] : List Int)) 0)] ∧ Box w362 b19 27 #[(.int .u64 0), (.int .u64 0)] ∧ Box w362 b25 29 #[(.int .i64 0), (.int .i64 0)] ∧ Box w362 b43 81 #[(.int .u64 x42.1), (.int .u64 x42.2)] ∧ a.defers = [] ∧ a.tmps.size = 50 ∧ Ok [(3, (bp b7)), (4, (bp b13)), (5, (bp b19)), (6, (bp b25)), (7, (bp b43)), (29, (.bool j361))] a.tmps) ?_ ?_
    ·skip
     refine gv_pureN 1 [30] [(30, (bp b7))] (by kernel_rfl) ?_
     have hk363 := hk306.grown hg315 nb
     refine gv_load (t := 4) (A := ⟨b7, 0, none⟩) (.bool n_1.1) [] (fun e => by cases e) rfl rfl rfl (by kernel_rfl) (by kernel_rfl) (by kernel_rfl) (inw0 (hk363.cell 0 rfl)) rfl ?_
     refine gv_pureN 1 [32] [(32, (.bool n_1.1))] (by kernel_rfl) ?_
     refine gv_split (s := 32) (g := n_1.1) (by kernel_rfl) (fun hc364 => ?_) (fun hc364 => ?_)
     ·skip
      replace h1 := ite_t hc364 h1
      refine gv_pureN 6 [29, 33, 34, 35, 36, 37] [(29, (.bool true))] (by kernel_rfl) ?_
      refine gv_nil ?_
      have e := sj h1; subst e
      refine gv_goal fun a hd hs hok => ?_
      have hB365 := bg hB313 hg315 nb
      have hg366 := (grown_trans (grown_trans hg21 hg27) hg309)
      have lt367 := ltt lt298 lt300
      have lt368 := ltt lt367 lt302
      have lt369 := ltt lt368 lt304
      have hk370 := ((hb16.grown hg366 nb).grown hg242 (rowne (ng lt369))).grown hg315 nb
      have hg371 := (grown_trans hg27 hg309)
      have lt372 := ltt lt300 lt302
      have lt373 := ltt lt372 lt304
      have hk374 := ((hb22.grown hg371 nb).grown hg242 (rowne (ng lt373))).grown hg315 nb
      have lt375 := ltt lt302 lt304
      have hk376 := ((hb28.grown hg309 nb).grown hg242 (rowne (ng lt375))).grown hg315 nb
      have hk377 := ((hb44.grown hg237 nb).grown hg242 (rowne (ng lt304))).grown hg315 nb
      exact ⟨hB365, (Nat.le_refl _), hk363, hk370, hk374, hk376, hk377, hd, hs, ok_pick [3, 4, 5, 6, 7, 29] hok (by kernel_rfl)⟩
     ·skip
      replace h1 := ite_f hc364 h1
      refine gv_pureN 1 [33] [(33, (.pointer (some ⟨b7, 1, none⟩)))] (by kernel_rfl) ?_
      refine gv_load (t := 22) (A := ⟨b7, 1, none⟩) (.slice pa1_0 (List.length n_1.2) pc1_0) [] (fun e => by cases e) rfl rfl rfl (by kernel_rfl) (by kernel_rfl) (by kernel_rfl) (inw0 (hk363.cell 1 rfl)) rfl ?_
      refine gv_pureN 4 [29, 35, 36, 37] [(29, (.bool (((List.length n_1.2 : Nat) : Int) == 0)))] (by kernel_rfl) ?_
      refine gv_nil ?_
      have e := sj h1; subst e
      refine gv_goal fun a hd hs hok => ?_
      have hB378 := bg hB313 hg315 nb
      have hg379 := (grown_trans (grown_trans hg21 hg27) hg309)
      have lt380 := ltt lt298 lt300
      have lt381 := ltt lt380 lt302
      have lt382 := ltt lt381 lt304
      have hk383 := ((hb16.grown hg379 nb).grown hg242 (rowne (ng lt382))).grown hg315 nb
      have hg384 := (grown_trans hg27 hg309)
      have lt385 := ltt lt300 lt302
      have lt386 := ltt lt385 lt304
      have hk387 := ((hb22.grown hg384 nb).grown hg242 (rowne (ng lt386))).grown hg315 nb
      have lt388 := ltt lt302 lt304
      have hk389 := ((hb28.grown hg309 nb).grown hg242 (rowne (ng lt388))).grown hg315 nb
      have hk390 := ((hb44.grown hg237 nb).grown hg242 (rowne (ng lt304))).grown hg315 nb
      exact ⟨hB378, (Nat.le_refl _), hk363, hk383, hk387, hk389, hk390, hd, hs, ok_pick [3, 4, 5, 6, 7, 29] hok (by kernel_rfl)⟩
    ·rintro a w362 ⟨hB391, hz392, hb393, hb394, hb395, hb396, hb397, hd, hs, hok⟩
     refine gv_in ?_ hd hs hok
     clear hd hs hok
     clear hz392 hc317 hg315 hB313 hlo312 hB311 hB310 hg309 hr308 hk306 lt305 lt304 hg296 hc245 hz244 hb243 hg242 hz240 hbe239 hb238 hg237 hB234 hg233 hg36 hr34 hk32 hg31 hz30 hb28 hg27 hz24 hb22 hz18 hb16 hz12 hb10 hz6 hbe5 hb4
     refine gv_cond (b := j361) (by kernel_rfl) (fun hc398 => ?_) (fun hc398 => ?_)
     ·replace h0 := ite_t hc398 h0
      refine gv_seq <| gv_region <| gv_pureN 2 [38, 39] [(38, (.agg #[(.bool false), (.slice none (List.length ([] : List Int)) 0)])), (39, (.agg #[(.int .u64 0), (.int .u64 0)]))] (by kernel_rfl) ?_
      refine bindE h0 ?_; clear h0; intro r399 hr400 h0
      refine gv_call0 (by kernel_rfl) rfl (by kernel_rfl) enters37 (random_at_ok fuel 4 (-2) w362  r399 hr400) ?_
      rintro v403 w401 ⟨hg402, rfl⟩
      have hk408 := hb394.grown hg402 nb
      refine gv_store0 24 0 (.agg #[(.bool false), (.slice none (List.length ([] : List Int)) 0)]) #[(.bool false), (.slice none (List.length ([] : List Int)) 0)] hk408 (by kernel_rfl) (by kernel_rfl) (by kernel_rfl) ?_
      intro w404 hg405 hb406 hz407
      have hk413 := (hb395.grown hg402 nb).grown hg405 (rowne (Nat.ne_of_lt lt298))
      refine gv_store0 27 0 (.agg #[(.int .u64 0), (.int .u64 0)]) #[(.int .u64 0), (.int .u64 0)] hk413 (by kernel_rfl) (by kernel_rfl) (by kernel_rfl) ?_
      intro w409 hg410 hb411 hz412
      have lt418 := ltt lt298 lt300
      have hk419 := ((hb396.grown hg402 nb).grown hg405 (rowne (Nat.ne_of_lt lt418))).grown hg410 (rowne (Nat.ne_of_lt lt300))
      refine gv_store0 29 0 (.agg #[(.int .i64 r399.1), (.int .i64 r399.2)]) #[(.int .i64 r399.1), (.int .i64 r399.2)] hk419 (by kernel_rfl) (by kernel_rfl) (by kernel_rfl) ?_
      intro w414 hg415 hb416 hz417
      refine gv_nil <| gv_cret ?_
      have e := sj h0; subst e
      have hk420 := (hb406.grown hg410 (rowne (ng lt298))).grown hg415 (rowne (ng lt418))
      have hk421 := hb411.grown hg415 (rowne (ng lt300))
      refine gv_ret (gv_done [(.agg #[(.bool false), (.slice none (List.length ([] : List Int)) 0)]), (.agg #[(.int .u64 0), (.int .u64 0)]), (.agg #[(.int .i64 r399.1), (.int .i64 r399.2)])] rfl ⟨⟨⟨b13, 0, none⟩, (by kernel_rfl), run_loadVar_row w414 b13 _ 24 _ _ _ hk420 Try.underlying24 rfl (by kernel_rfl)⟩, ⟨⟨b19, 0, none⟩, (by kernel_rfl), run_loadVar_row w414 b19 _ 27 _ _ _ hk421 Try.underlying27 rfl (by kernel_rfl)⟩, ⟨⟨b25, 0, none⟩, (by kernel_rfl), run_loadVar_row w414 b25 _ 29 _ _ _ hb416 Try.underlying29 rfl (by kernel_rfl)⟩, trivial⟩ ?_)
      have hB422 := bg hB391 hg402 nb
      have hg423 := (grown_trans hg3 hg9)
      have hB424 := bg hB0 hg423 nb
      have hlo425 : w0.heap.size ≤ b13 := lob hbe17 hB424.size
      have hB426 := bg hB422 hg405 (rowlo hlo425)
      have hB427 := bg hB424 hg15 nb
      have hlo428 : w0.heap.size ≤ b19 := lob hbe23 hB427.size
      have hB429 := bg hB426 hg410 (rowlo hlo428)
      have hB430 := bg hB427 hg21 nb
      have hlo431 : w0.heap.size ≤ b25 := lob hbe29 hB430.size
      have hB432 := bg hB429 hg415 (rowlo hlo431)
      exact ⟨grown_of_below hB432, none, 0, rfl, (Own.nil (iE .u32) 76 w414 (fun _ => False)), (fun _ h => by cases h)⟩
     ·replace h0 := ite_f hc398 h0
      refine gv_skip <| gv_blk <| gv_seq <| gv_region <| gv_pureN 1 [41] [(41, (bp b43))] (by kernel_rfl) ?_
      refine gv_loadBox (t := 24) (b := b7) (t' := 24) (fr := (0, 0)) #[(.bool n_1.1), (.slice pa1_0 (List.length n_1.2) pc1_0)] [] (fun e => by cases e) rfl rfl rfl (by kernel_rfl) (by kernel_rfl) (by kernel_rfl) (by kernel_rfl) (inw0 hb393) rfl ?_
      refine bindE h0 ?_; clear h0; intro r433 hr434 h0
      refine gv_call0 (by kernel_rfl) rfl (by kernel_rfl) enters43 (random_source_below_ok fuel b43 (x42.1, x42.2) pa1_0 pc1_0 (n_1.1, n_1.2) w362 (fun k => X0 k) (fun k hk => ⟨(fun k (hk : X0 k) => ltl (hX0 k hk) hB391.size) k hk, fun e => (fun (hx : X0 b43) => nl hl232 (hX0 _ hx)) (e ▸ hk)⟩) hb397 ((hpa1_0.below hB391 hX0).wide (fun k hk => hk)) r433 hr434) ?_
      rintro v437 w435 ⟨hg436, a438, c439, rfl, ho440, hl441, hb442⟩
      have hl443 : ∀ g, blk a438 = some g → w0.heap.size ≤ g := fun g e => Nat.le_trans hB391.size (hl441 g e)
      refine gv_new0 (fun b => .pointer (some ⟨b, 0, none⟩)) #[(.bool false), (.slice none (List.length ([] : List Int)) 0)] 24 (by kernel_rfl) (by kernel_rfl) ?_
      intro b444 w445 hg446 hb447 hbe448 hz449
      refine gv_store0 24 0 (.agg #[(.bool r433.1.1), (.slice a438 (List.length r433.1.2) c439)]) #[(.bool r433.1.1), (.slice a438 (List.length r433.1.2) c439)] hb447 (by kernel_rfl) (by kernel_rfl) (by kernel_rfl) ?_
      intro w450 hg451 hb452 hz453
      refine gv_nil <| gv_seq <| gv_drawA (by kernel_rfl) ?_
      intro w454 hg455
      refine gv_pre [1, 2, 3, 5] (bA 9 [1, 2, 3, 5]) 5 (by kernel_rfl) (by kernel_rfl) ?_
      clear hz453 hz449 hb447 hr434 hc398 lt301 lt299 lt297
      refine gv_pureN 4 [45, 46, 47, 49] [(47, (bp b43)), (49, (.agg #[(.int .i64 0), (.int .i64 0)]))] (by kernel_rfl) ?_
      refine gv_nil <| gv_goA ?_
      refine gv_stage (Cls w454 [b13]) [0, 1, 2, 3, 4, 5, 6] [(0, some true), (4, some true), (6, some false)] (bA 9 [0, 1, 2, 3, 4, 5, 6]) 2 (by kernel_rfl) (by kernel_rfl) (Cls.refl _ _) ?_
      have hC456 := Cls.refl w454 [b13]
      have hk457 := hb452.grown hg455 nb
      have lt458 := ltt lt298 lt300
      have lt459 := ltt lt458 lt302
      have lt460 := ltl ((ltb hb442) _ rfl) ((lowb hbe448) _ rfl)
      have lt461 := ltt lt459 lt460
      refine gv_loadBox (t := 24) (b := b444) (t' := 24) (fr := (0, 0)) #[(.bool r433.1.1), (.slice a438 (List.length r433.1.2) c439)] [] (fun e => by cases e) rfl rfl rfl (by kernel_rfl) (by kernel_rfl) (by kernel_rfl) (by kernel_rfl) (inw1 fun w' hC' => (hC'.box hk457 (nm_cons (ng lt461) nm_nil))) rfl ?_
      have hk462 := ((hb442.grown hg446 nb).grown hg451 (rowne (ng lt460))).grown hg455 nb
      refine gv_loadBox (t := 27) (b := b43) (t' := 81) (fr := (0, 0)) #[(.int .u64 r433.2.1), (.int .u64 r433.2.2)] [] (fun e => by cases e) rfl rfl rfl (by kernel_rfl) (by kernel_rfl) (by kernel_rfl) (by kernel_rfl) (inw1 fun w' hC' => (hC'.box hk462 (nm_cons (ng lt459) nm_nil))) rfl ?_
      have hk467 := (((hb394.grown hg436 (rowne (ng lt459))).grown hg446 nb).grown hg451 (rowne (ng lt461))).grown hg455 nb
      refine gv_store (t := 24) (b := b13) (off := 0) (v := (.agg #[(.bool r433.1.1), (.slice a438 (List.length r433.1.2) c439)])) (t' := 24) (cs := #[(.bool false), (.slice none (List.length ([] : List Int)) 0)]) #[(.bool r433.1.1), (.slice a438 (List.length r433.1.2) c439)] (by decide) rfl rfl (by kernel_rfl) (by kernel_rfl) (by kernel_rfl) (by intro u hu; simp [Value.cells] at hu; rcases hu with rfl | rfl <;> rfl) (show 0 + 2 ≤ 2 by decide) (by rfl) hk467 ?_
      intro w463 hg464 hb465 hz466
      refine ⟨(fun _ => hC456.grown hg464 (rowm (List.Mem.head _))), ?_⟩
      refine gv_nil <| gv_goA ?_
      refine gv_stage (fun _ => True) [0, 1, 2, 3, 4, 5, 6, 7] [(7, some false)] (bA 9 [0, 1, 2, 3, 4, 5, 6, 7]) 1 (by kernel_rfl) (by kernel_rfl) trivial ?_
      have lt472 := ltt lt300 lt302
      have lt473 := ltt lt472 lt460
      have hk474 := ((((hb395.grown hg436 (rowne (ng lt472))).grown hg446 nb).grown hg451 (rowne (ng lt473))).grown hg455 nb).grown hg464 (rowne (Nat.ne_of_lt lt298))
      refine gv_store (t := 27) (b := b19) (off := 0) (v := (.agg #[(.int .u64 r433.2.1), (.int .u64 r433.2.2)])) (t' := 27) (cs := #[(.int .u64 0), (.int .u64 0)]) #[(.int .u64 r433.2.1), (.int .u64 r433.2.2)] (by decide) rfl rfl (by kernel_rfl) (by kernel_rfl) (by kernel_rfl) (by intro u hu; simp [Value.cells] at hu; rcases hu with rfl | rfl <;> rfl) (show 0 + 2 ≤ 2 by decide) (by rfl) hk474 ?_
      intro w468 hg469 hb470 hz471
      refine ⟨(fun _ => trivial), ?_⟩
      refine gv_nil <| gv_goA ?_
      refine gv_stage (fun _ => True) [0, 1, 2, 3, 4, 5, 6, 7, 8] [(8, some false)] (bA 9 [0, 1, 2, 3, 4, 5, 6, 7, 8]) 0 (by kernel_rfl) (by kernel_rfl) trivial ?_
      have lt479 := ltt lt302 lt460
      have hk480 := (((((hb396.grown hg436 (rowne (ng lt302))).grown hg446 nb).grown hg451 (rowne (ng lt479))).grown hg455 nb).grown hg464 (rowne (Nat.ne_of_lt lt458))).grown hg469 (rowne (Nat.ne_of_lt lt300))
      refine gv_store (t := 29) (b := b25) (off := 0) (v := (.agg #[(.int .i64 0), (.int .i64 0)])) (t' := 29) (cs := #[(.int .i64 0), (.int .i64 0)]) #[(.int .i64 0), (.int .i64 0)] (by decide) rfl rfl (by kernel_rfl) (by kernel_rfl) (by kernel_rfl) (by intro u hu; simp [Value.cells] at hu; rcases hu with rfl | rfl <;> rfl) (show 0 + 2 ≤ 2 by decide) (by rfl) hk480 ?_
      intro w475 hg476 hb477 hz478
      refine ⟨(fun _ => trivial), ?_⟩
      refine gv_nil <| gv_goA ?_
      refine gv_stageE (by kernel_rfl) ?_
      refine gv_cret ?_
      have e := sj h0; subst e
      have hk481 := (hb465.grown hg469 (rowne (ng lt298))).grown hg476 (rowne (ng lt458))
      have hk482 := hb470.grown hg476 (rowne (ng lt300))
      refine gv_ret (gv_done [(.agg #[(.bool r433.1.1), (.slice a438 (List.length r433.1.2) c439)]), (.agg #[(.int .u64 r433.2.1), (.int .u64 r433.2.2)]), (.agg #[(.int .i64 0), (.int .i64 0)])] rfl ⟨⟨⟨b13, 0, none⟩, (by kernel_rfl), run_loadVar_row w475 b13 _ 24 _ _ _ hk481 Try.underlying24 rfl (by kernel_rfl)⟩, ⟨⟨b19, 0, none⟩, (by kernel_rfl), run_loadVar_row w475 b19 _ 27 _ _ _ hk482 Try.underlying27 rfl (by kernel_rfl)⟩, ⟨⟨b25, 0, none⟩, (by kernel_rfl), run_loadVar_row w475 b25 _ 29 _ _ _ hb477 Try.underlying29 rfl (by kernel_rfl)⟩, trivial⟩ ?_)
      have hB483 := bg hB391 hg436 (rowlo hl232)
      have hB484 := bg hB483 hg446 nb
      have hB485 := bg hB391 hg436 (rowlo hl232)
      have hlo486 : w0.heap.size ≤ b444 := lob hbe448 hB485.size
      have hB487 := bg hB484 hg451 (rowlo hlo486)
      have hB488 := bg hB487 hg455 nb
      have hg489 := (grown_trans hg3 hg9)
      have hB490 := bg hB0 hg489 nb
      have hlo491 : w0.heap.size ≤ b13 := lob hbe17 hB490.size
      have hB492 := bg hB488 hg464 (rowlo hlo491)
      have hB493 := bg hB490 hg15 nb
      have hlo494 : w0.heap.size ≤ b19 := lob hbe23 hB493.size
      have hB495 := bg hB492 hg469 (rowlo hlo494)
      have hB496 := bg hB493 hg21 nb
      have hlo497 : w0.heap.size ≤ b25 := lob hbe29 hB496.size
      have hB498 := bg hB495 hg476 (rowlo hlo497)
      have ap499 : ¬ (fun k => blk a438 = some k) b444 := fun hx => nl ((lowb hbe448) _ rfl) ((fun k (hk : blk a438 = some k) => ho440.lt k hk) _ hx)
      have ap500 : ¬ (fun k => blk a438 = some k) b13 := fun hx => nl ((show ∀ k, blk a438 = some k → w362.heap.size ≤ k from hl441) _ hx) ((ltb hb394) _ rfl)
      have ap501 : ¬ (fun k => blk a438 = some k) b19 := fun hx => nl ((show ∀ k, blk a438 = some k → w362.heap.size ≤ k from hl441) _ hx) ((ltb hb395) _ rfl)
      have ap502 : ¬ (fun k => blk a438 = some k) b25 := fun hx => nl ((show ∀ k, blk a438 = some k → w362.heap.size ≤ k from hl441) _ hx) ((ltb hb396) _ rfl)
      have hk503 := (((((ho440.grown hg446 (fun _ h => h.elim) nb).grown hg451 (fun _ h => h.elim) (rdnn (rowne ap499))).grown hg455 (fun _ h => h.elim) nb).grown hg464 (fun _ h => h.elim) (rdnn (rowne ap500))).grown hg469 (fun _ h => h.elim) (rdnn (rowne ap501))).grown hg476 (fun _ h => h.elim) (rdnn (rowne ap502))
      exact ⟨grown_of_below hB498, a438, c439, rfl, hk503, hl443⟩

theorem ref4_Mixed_ok (fuel : Nat) (x_0 : Int) (w0 : World)  (r0 : Int) (h0 : ref4_Mixed fuel x_0 = some r0) :
    Calls Try.prog 42 ([(.int .u64 x_0)] : List Value).toArray w0 (Ret fun v w' => w0.grownBy w' none ∧ v = tup [(.int .u64 r0)]) := by
 have hB0 : Below w0.heap.size w0 w0 := Below.refl _ _
 unfold ref4_Mixed at h0
 refine calls_run Try.func42 rfl Try.ntmps42 (by kernel_rfl) ?_
 refine gv_sub [0] (σ' := [(0, (.int .u64 x_0))]) (by kernel_rfl) ?_
 refine gv_seq <| gv_region <| gv_pureN 1 [2] [] (by kernel_rfl) ?_
 refine gv_nil <| gv_seq <| gv_region <| gv_pureN 5 [0, 3, 4, 5, 6] [(0, (.int .u64 (bwXor .u64 x_0 (IntKind.u64.wrap ((x_0).tdiv 1073741824)))))] (by kernel_rfl) ?_
 refine bindE h0 ?_; clear h0; intro n1 hn2 h0
 refine gv_name (s := 0) (v := (.int .u64 (bwXor .u64 x_0 (IntKind.u64.wrap ((x_0).tdiv 1073741824))))) (v' := (.int .u64 n1)) (by kernel_rfl) (congrArg (Value.int .u64) (sj hn2)) ?_
 refine gv_nil <| gv_seq <| gv_region <| gv_pureN 3 [0, 7, 8] [(0, (.int .u64 (IntKind.u64.wrap (n1 * 13787848793156543929))))] (by kernel_rfl) ?_
 refine bindE h0 ?_; clear h0; intro n3 hn4 h0
 refine gv_name (s := 0) (v := (.int .u64 (IntKind.u64.wrap (n1 * 13787848793156543929)))) (v' := (.int .u64 n3)) (by kernel_rfl) (congrArg (Value.int .u64) (sj hn4)) ?_
 refine gv_nil <| gv_seq <| gv_region <| gv_pureN 5 [0, 9, 10, 11, 12] [(0, (.int .u64 (bwXor .u64 n3 (IntKind.u64.wrap ((n3).tdiv 134217728)))))] (by kernel_rfl) ?_
 refine bindE h0 ?_; clear h0; intro n5 hn6 h0
 refine gv_name (s := 0) (v := (.int .u64 (bwXor .u64 n3 (IntKind.u64.wrap ((n3).tdiv 134217728))))) (v' := (.int .u64 n5)) (by kernel_rfl) (congrArg (Value.int .u64) (sj hn6)) ?_
 refine gv_nil <| gv_seq <| gv_region <| gv_pureN 3 [0, 13, 14] [(0, (.int .u64 (IntKind.u64.wrap (n5 * 10723151780598845931))))] (by kernel_rfl) ?_
 refine bindE h0 ?_; clear h0; intro n7 hn8 h0
 refine gv_name (s := 0) (v := (.int .u64 (IntKind.u64.wrap (n5 * 10723151780598845931)))) (v' := (.int .u64 n7)) (by kernel_rfl) (congrArg (Value.int .u64) (sj hn8)) ?_
 refine gv_nil <| gv_seq <| gv_region <| gv_pureN 5 [2, 15, 16, 17, 18] [(2, (.int .u64 (bwXor .u64 n7 (IntKind.u64.wrap ((n7).tdiv 2147483648)))))] (by kernel_rfl) ?_
 refine bindE h0 ?_; clear h0; intro n9 hn10 h0
 refine gv_name (s := 2) (v := (.int .u64 (bwXor .u64 n7 (IntKind.u64.wrap ((n7).tdiv 2147483648))))) (v' := (.int .u64 n9)) (by kernel_rfl) (congrArg (Value.int .u64) (sj hn10)) ?_
 refine gv_nil <| gv_cret ?_
 have e := sj h0; subst e
 refine gv_ret (gv_done [(.int .u64 n9)] rfl ⟨(by kernel_rfl), trivial⟩ ?_)
 exact ⟨grown_of_below hB0, rfl⟩

theorem ref4_Seeded_ok (fuel : Nat) (pa0_0 : Option Addr) (pc0_0 : Nat) (n_0 : (Bool × (List Int))) (w0 : World) (X0 : Nat → Prop) (hX0 : ∀ k, X0 k → k < w0.heap.size) (hpa0_0 : Rd (iE .u32) w0 X0 pa0_0 pc0_0 n_0.2) (r0 : (Int × Int)) (h0 : ref4_Seeded fuel n_0 = some r0) :
    Calls Try.prog 14 ([(.agg #[(.bool n_0.1), (.slice pa0_0 (List.length n_0.2) pc0_0)])] : List Value).toArray w0 (Ret fun v w' => w0.grownBy w' none ∧ v = tup [(.agg #[(.int .u64 r0.1), (.int .u64 r0.2)])]) := by
 have hB0 : Below w0.heap.size w0 w0 := Below.refl _ _
 unfold ref4_Seeded at h0
 refine calls_run Try.func14 rfl Try.ntmps14 (by kernel_rfl) ?_
 refine gv_sub [0] (σ' := [(0, (.agg #[(.bool n_0.1), (.slice pa0_0 (List.length n_0.2) pc0_0)]))]) (by kernel_rfl) ?_
 refine gv_seq <| gv_region <| gv_new0 (fun b => .pointer (some ⟨b, 0, none⟩)) #[(.bool n_0.1), (.slice pa0_0 (List.length n_0.2) pc0_0)] 24 (by kernel_rfl) (by kernel_rfl) ?_
 intro b1 w2 hg3 hb4 hbe5 hz6
 refine gv_new0 (fun b => .pointer (some ⟨b, 0, none⟩)) #[(.int .u64 0), (.int .u64 0)] 27 (by kernel_rfl) (by kernel_rfl) ?_
 intro b7 w8 hg9 hb10 hbe11 hz12
 refine gv_nil <| gv_seq <| gv_region <| gv_pureN 1 [5] [(5, (.pointer (some ⟨b1, 1, none⟩)))] (by kernel_rfl) ?_
 have hk13 := hb4.grown hg9 nb
 refine gv_load (t := 22) (A := ⟨b1, 1, none⟩) (.slice pa0_0 (List.length n_0.2) pc0_0) [] (fun e => by cases e) rfl rfl rfl (by kernel_rfl) (by kernel_rfl) (by kernel_rfl) (inw0 (hk13.cell 1 rfl)) rfl ?_
 refine gv_pureN 3 [3, 7, 8] [(3, (.int .u64 (IntKind.u64.wrap (((List.length n_0.2 : Nat) : Int)))))] (by kernel_rfl) ?_
 refine bindE h0 ?_; clear h0; intro n14 hn15 h0
 refine gv_name (s := 3) (v := (.int .u64 (IntKind.u64.wrap (((List.length n_0.2 : Nat) : Int))))) (v' := (.int .u64 n14)) (by kernel_rfl) (congrArg (Value.int .u64) (sj hn15)) ?_
 refine gv_nil <| gv_seq <| gv_seq <| gv_region <| gv_pureN 1 [9] [(9, (bp b1))] (by kernel_rfl) ?_
 refine gv_load (t := 4) (A := ⟨b1, 0, none⟩) (.bool n_0.1) [] (fun e => by cases e) rfl rfl rfl (by kernel_rfl) (by kernel_rfl) (by kernel_rfl) (inw0 (hk13.cell 0 rfl)) rfl ?_
 refine gv_nil <| bindE h0 ?_; clear h0; intro j16 h1 h0
 refine gv_cut_code (J := fun a w17 => Below w0.heap.size w0 w17 ∧ w8.heap.size ≤ w17.heap.size ∧ Box w17 b1 24 #[(.bool n_0.1), (.slice pa0_0 (List.length n_0.2) pc0_0)] ∧ Box w17 b7 27 #[(.int .u64 0), (.int .u64 0)] ∧ a.defers = [] ∧ a.tmps.size = 33 ∧ Ok [(1, (bp b1)), (2, (bp b7)), (3, (.int .u64 j16))] a.tmps) ?_ ?_
 ·skip
  refine gv_cond (b := n_0.1) (by kernel_rfl) (fun hc18 => ?_) (fun hc18 => ?_)
  ·replace h1 := ite_t hc18 h1
   refine gv_region <| gv_pureN 3 [3, 11, 12] [(3, (.int .u64 (bwXor .u64 18446744073709551615 n14)))] (by kernel_rfl) ?_
   refine gv_nil ?_
   have e := sj h1; subst e
   refine gv_goal fun a hd hs hok => ?_
   have hg19 := (grown_trans hg3 hg9)
   have hB20 := bg hB0 hg19 nb
   exact ⟨hB20, (Nat.le_refl _), hk13, hb10, hd, hs, ok_pick [1, 2, 3] hok (by kernel_rfl)⟩
  ·replace h1 := ite_f hc18 h1
   refine gv_skip ?_
   have e := sj h1; subst e
   refine gv_goal fun a hd hs hok => ?_
   have hg21 := (grown_trans hg3 hg9)
   have hB22 := bg hB0 hg21 nb
   exact ⟨hB22, (Nat.le_refl _), hk13, hb10, hd, hs, ok_pick [1, 2, 3] hok (by kernel_rfl)⟩
 ·rintro a w17 ⟨hB23, hz24, hb25, hb26, hd, hs, hok⟩
  refine gv_in ?_ hd hs hok
  clear hd hs hok
  clear hz24 hn15 hk13 hz12 hb10 hg9 hz6
  refine gv_seq <| gv_seq <| gv_region <| gv_pureN 1 [4] [(4, (.int .i64 0))] (by kernel_rfl) ?_
  refine gv_nil <| bindE h0 ?_; clear h0; intro j27 h1 h0
  refine gv_cut_code (J := fun a w28 => Below w0.heap.size w0 w28 ∧ w17.heap.size ≤ w28.heap.size ∧ Box w28 b7 27 #[(.int .u64 0), (.int .u64 0)] ∧ a.defers = [] ∧ a.tmps.size = 33 ∧ Ok [(2, (bp b7)), (3, (.int .u64 j27))] a.tmps) ?_ ?_
  ·skip
   refine gv_block <| gv_loop (A := fun (s29 : (Int × Int)) a w30 => Below w0.heap.size w0 w30 ∧ w17.heap.size ≤ w30.heap.size ∧ Box w30 b1 24 #[(.bool n_0.1), (.slice pa0_0 (List.length n_0.2) pc0_0)] ∧ Box w30 b7 27 #[(.int .u64 0), (.int .u64 0)] ∧ a.defers = [] ∧ a.tmps.size = 33 ∧ Ok [(1, (bp b1)), (2, (bp b7)), (3, (.int .u64 s29.1)), (4, (.int .i64 s29.2))] a.tmps) h1 ?_ ?_
   ·intro a hd hs hok
    exact ⟨hB23, (Nat.le_refl _), hb25, hb26, hd, hs, ok_pick [1, 2, 3, 4] hok (by kernel_rfl)⟩
   ·rintro s29 r2 h2 hR2 a w30 ⟨hB31, hz32, hb33, hb34, hd, hs, hok⟩
    refine gv_in ?_ hd hs hok
    clear hd hs hok
    refine gv_seq <| gv_seq <| gv_region <| gv_pureN 2 [13, 14] [(13, (.int .i64 s29.2)), (14, (.pointer (some ⟨b1, 1, none⟩)))] (by kernel_rfl) ?_
    refine gv_load (t := 22) (A := ⟨b1, 1, none⟩) (.slice pa0_0 (List.length n_0.2) pc0_0) [] (fun e => by cases e) rfl rfl rfl (by kernel_rfl) (by kernel_rfl) (by kernel_rfl) (inw0 (hb33.cell 1 rfl)) rfl ?_
    refine gv_pureN 2 [16, 17] [(17, (.bool (decide (s29.2 < ((List.length n_0.2 : Nat) : Int)))))] (by kernel_rfl) ?_
    refine gv_nil <| gv_cond (b := (decide (s29.2 < ((List.length n_0.2 : Nat) : Int)))) (by kernel_rfl) (fun hc35 => ?_) (fun hc35 => ?_)
    ·replace h2 := ite_t hc35 h2
     refine gv_skip <| gv_seq <| gv_block <| gv_region <| gv_pureN 3 [20, 21, 22] [(21, (.int .u64 (IntKind.u64.wrap (s29.1 * 6364136223846793005)))), (22, (.pointer (some ⟨b1, 1, none⟩)))] (by kernel_rfl) ?_
     refine gv_load (t := 22) (A := ⟨b1, 1, none⟩) (.slice pa0_0 (List.length n_0.2) pc0_0) [] (fun e => by cases e) rfl rfl rfl (by kernel_rfl) (by kernel_rfl) (by kernel_rfl) (inw0 (hb33.cell 1 rfl)) rfl ?_
     refine gv_pureN 1 [24] [(24, (.int .i64 s29.2))] (by kernel_rfl) ?_
     refine bindE h2 ?_; clear h2; intro x36 hx37 h2
     refine gv_idxaddr (t := 22) (e := 76) (a := pa0_0) (len := List.length n_0.2) (cap := pc0_0) (kk := .i64) (i := s29.2) (sz := 1) [] (fun e => by cases e) rfl rfl rfl (by kernel_rfl) (by kernel_rfl) Try.underlying22 (by kernel_rfl) ((hpa0_0.below hB31 hX0).has hx37) (idx_spec hx37).1 (idx_spec hx37).2.1 rfl ?_
     refine gv_load (t := 76) (A := (elemAddr pa0_0 ((s29.2).toNat * 1))) (.int .u32 x36) [] (fun e => by cases e) rfl rfl rfl (by kernel_rfl) (by kernel_rfl) (by kernel_rfl) (inw0 ((hpa0_0.below hB31 hX0).cell hx37)) rfl ?_
     refine gv_pureN 3 [27, 28, 29] [(29, (.int .u64 (IntKind.u64.wrap ((IntKind.u64.wrap ((IntKind.u64.wrap (s29.1 * 6364136223846793005)) + (IntKind.u64.wrap (x36)))) + 1))))] (by kernel_rfl) ?_
     refine bindE h2 ?_; clear h2; intro r38 hr39 h2
     refine gv_call0 (by kernel_rfl) rfl (by kernel_rfl) enters42 (ref4_Mixed_ok fuel (IntKind.u64.wrap ((IntKind.u64.wrap ((IntKind.u64.wrap (s29.1 * 6364136223846793005)) + (IntKind.u64.wrap (x36)))) + 1)) w30  r38 hr39) ?_
     rintro v42 w40 ⟨hg41, rfl⟩
     refine gv_pureN 1 [3] [(3, (.int .u64 r38))] (by kernel_rfl) ?_
     refine gv_nil <| gv_blk <| gv_region <| gv_pureN 3 [4, 18, 19] [(4, (.int .i64 (IntKind.i64.wrap (s29.2 + 1))))] (by kernel_rfl) ?_
     refine gv_nil ?_
     have e := sj h2; subst e
     refine gv_goal fun a hd hs hok => ?_
     have hB43 := bg hB31 hg41 nb
     have hz44 := (nt hz32 hg41.size)
     have hk45 := hb33.grown hg41 nb
     have hk46 := hb34.grown hg41 nb
     exact ⟨(r38, (IntKind.i64.wrap (s29.2 + 1))), rfl, hB43, hz44, hk45, hk46, hd, hs, ok_pick [1, 2, 3, 4] hok (by kernel_rfl)⟩
    ·replace h2 := ite_f hc35 h2
     refine gv_cexit <| gv_exit rfl ?_
     have e := sj h2; subst e
     replace h1 := congrArg some (hR2 _ rfl)
     have e := sj h1; subst e
     refine gv_goal fun a hd hs hok => ?_
     have hz47 := hz32
     exact ⟨hB31, hz47, hb34, hd, hs, ok_pick [2, 3] hok (by kernel_rfl)⟩
  ·rintro a w28 ⟨hB48, hz49, hb50, hd, hs, hok⟩
   refine gv_in ?_ hd hs hok
   clear hd hs hok
   clear hz49 hb26 hb25 hB23 hbe5 hb4
   refine gv_seq <| gv_region <| gv_pureN 2 [31, 32] [(32, (.agg #[(.int .u64 j27), (.int .u64 1442695040888963407)]))] (by kernel_rfl) ?_
   refine gv_store0 27 0 (.agg #[(.int .u64 j27), (.int .u64 1442695040888963407)]) #[(.int .u64 j27), (.int .u64 1442695040888963407)] hb50 (by kernel_rfl) (by kernel_rfl) (by kernel_rfl) ?_
   intro w51 hg52 hb53 hz54
   refine gv_nil <| gv_cret ?_
   have e := sj h0; subst e
   refine gv_ret (gv_done [(.agg #[(.int .u64 j27), (.int .u64 1442695040888963407)])] rfl ⟨⟨⟨b7, 0, none⟩, (by kernel_rfl), run_loadVar_row w51 b7 _ 27 _ _ _ hb53 Try.underlying27 rfl (by kernel_rfl)⟩, trivial⟩ ?_)
   have hB55 := bg hB0 hg3 nb
   have hlo56 : w0.heap.size ≤ b7 := lob hbe11 hB55.size
   have hB57 := bg hB48 hg52 (rowlo hlo56)
   exact ⟨grown_of_below hB57, rfl⟩

theorem ref4_Random_Draw_ok (fuel : Nat) (pb0 : Nat) (g_0 : ((Int × Int))) (w0 : World) (hp0 : Box w0 pb0 40 #[(.int .u64 g_0.1), (.int .u64 g_0.2)]) (r0 : (Int × ((Int × Int)))) (h0 : ref4_Random_Draw fuel g_0 = some r0) :
    Calls Try.prog 15 ([(bp pb0)] : List Value).toArray w0 (Ret fun v w' => w0.grownBy w' (some pb0) ∧ v = tup [(.int .u64 r0.1)] ∧ Box w' pb0 40 #[(.int .u64 r0.2.1), (.int .u64 r0.2.2)]) := by
 have hB0 : w0.grownBy w0 (some pb0) := grown_refl _ _
 unfold ref4_Random_Draw at h0
 refine calls_run Try.func15 rfl Try.ntmps15 (by kernel_rfl) ?_
 refine gv_sub [0] (σ' := [(0, (bp pb0))]) (by kernel_rfl) ?_
 have hpl0 := hp0.lt
 refine gv_seq <| gv_region <| gv_pureN 1 [2] [] (by kernel_rfl) ?_
 refine gv_nil <| gv_seq <| gv_drawA (by kernel_rfl) ?_
 intro w1 hg2
 refine gv_pre [0, 1, 2, 3, 4, 7, 8, 9, 10] (bA 17 [0, 1, 2, 3, 4, 7, 8, 9, 10]) 8 (by kernel_rfl) (by kernel_rfl) ?_
 refine gv_pureN 9 [3, 4, 5, 6, 7, 10, 11, 12, 13] [(3, (bp pb0)), (7, (bp pb0)), (13, (.pointer (some ⟨pb0, 1, none⟩)))] (by kernel_rfl) ?_
 refine gv_nil <| gv_goA ?_
 refine gv_stage (Cls w1 []) [0, 1, 2, 3, 4, 5, 6, 7, 8, 9, 10, 11] [(5, some true), (6, some true), (11, some true)] (bA 17 [0, 1, 2, 3, 4, 5, 6, 7, 8, 9, 10, 11]) 5 (by kernel_rfl) (by kernel_rfl) (Cls.refl _ _) ?_
 have hC3 := Cls.refl w1 []
 have hk4 := hp0.grown hg2 nb
 refine gv_load (t := 25) (A := ⟨pb0, 0, none⟩) (.int .u64 g_0.1) [] (fun e => by cases e) rfl rfl rfl (by kernel_rfl) (by kernel_rfl) (by kernel_rfl) (inw1 fun w' hC' => ((hC'.box hk4 nm_nil).cell 0 rfl)) rfl ?_
 refine gv_pureN 1 [9] [(9, (.int .u64 (IntKind.u64.wrap (g_0.1 * 6364136223846793005))))] (by kernel_rfl) ?_
 refine gv_load (t := 25) (A := ⟨pb0, 1, none⟩) (.int .u64 g_0.2) [] (fun e => by cases e) rfl rfl rfl (by kernel_rfl) (by kernel_rfl) (by kernel_rfl) (inw1 fun w' hC' => ((hC'.box hk4 nm_nil).cell 1 rfl)) rfl ?_
 refine gv_nil <| gv_goA ?_
 refine gv_pre [12, 13, 14, 15] (bA 17 [0, 1, 2, 3, 4, 5, 6, 7, 8, 9, 10, 11, 12, 13, 14, 15]) 1 (by kernel_rfl) (by kernel_rfl) ?_
 refine gv_pureN 4 [15, 16, 17, 18] [(15, (.int .u64 (IntKind.u64.wrap ((IntKind.u64.wrap (g_0.1 * 6364136223846793005)) + g_0.2)))), (18, (bp pb0))] (by kernel_rfl) ?_
 refine gv_nil <| gv_goA ?_
 refine gv_stage (fun _ => True) [0, 1, 2, 3, 4, 5, 6, 7, 8, 9, 10, 11, 12, 13, 14, 15, 16] [(16, some false)] (bA 17 [0, 1, 2, 3, 4, 5, 6, 7, 8, 9, 10, 11, 12, 13, 14, 15, 16]) 0 (by kernel_rfl) (by kernel_rfl) trivial ?_
 refine gv_store (t := 25) (b := pb0) (off := 0) (v := (.int .u64 (IntKind.u64.wrap ((IntKind.u64.wrap (g_0.1 * 6364136223846793005)) + g_0.2)))) (t' := 40) (cs := #[(.int .u64 g_0.1), (.int .u64 g_0.2)]) #[(.int .u64 (IntKind.u64.wrap ((IntKind.u64.wrap (g_0.1 * 6364136223846793005)) + g_0.2))), (.int .u64 g_0.2)] (by decide) rfl rfl (by kernel_rfl) (by kernel_rfl) (by kernel_rfl) (by intro u hu; simp [Value.cells] at hu; subst hu; rfl) (show 0 + 1 ≤ 2 by decide) (by rfl) hk4 ?_
 intro w5 hg6 hb7 hz8
 refine ⟨(fun _ => trivial), ?_⟩
 refine gv_nil <| gv_goA ?_
 refine gv_stageE (by kernel_rfl) ?_
 refine gv_seq <| gv_region <| gv_pureN 4 [19, 20, 21, 22] [(22, (bp pb0))] (by kernel_rfl) ?_
 refine gv_load (t := 25) (A := ⟨pb0, 0, none⟩) (.int .u64 (IntKind.u64.wrap ((IntKind.u64.wrap (g_0.1 * 6364136223846793005)) + g_0.2))) [] (fun e => by cases e) rfl rfl rfl (by kernel_rfl) (by kernel_rfl) (by kernel_rfl) (inw0 (hb7.cell 0 rfl)) rfl ?_
 refine bindE h0 ?_; clear h0; intro r9 hr10 h0
 refine gv_call0 (by kernel_rfl) rfl (by kernel_rfl) enters42 (ref4_Mixed_ok fuel (IntKind.u64.wrap ((IntKind.u64.wrap (g_0.1 * 6364136223846793005)) + g_0.2)) w5  r9 hr10) ?_
 rintro v13 w11 ⟨hg12, rfl⟩
 refine gv_pureN 1 [2] [(2, (.int .u64 r9))] (by kernel_rfl) ?_
 refine gv_nil <| gv_cret ?_
 have e := sj h0; subst e
 refine gv_ret (gv_done [(.int .u64 r9)] rfl ⟨(by kernel_rfl), trivial⟩ ?_)
 have hB14 := grown_step hB0 hg2 nb
 have hB15 := grown_step hB14 hg6 rowpp
 have hB16 := grown_step hB15 hg12 nb
 have hk17 := hb7.grown hg12 nb
 exact ⟨hB16, rfl, hk17⟩

theorem ref3_NoInt_ok (fuel : Nat) (pa0_0 : Option Addr) (pc0_0 : Nat) (a_0 : (Bool × (List Int))) (w0 : World) (X0 : Nat → Prop) (hX0 : ∀ k, X0 k → k < w0.heap.size) (hpa0_0 : Rd (iE .u32) w0 X0 pa0_0 pc0_0 a_0.2) (r0 : Bool) (h0 : ref3_NoInt fuel a_0 = some r0) :
    Calls Try.prog 18 ([(.agg #[(.bool a_0.1), (.slice pa0_0 (List.length a_0.2) pc0_0)])] : List Value).toArray w0 (Ret fun v w' => w0.grownBy w' none ∧ v = tup [(.bool r0)]) := by
 have hB0 : Below w0.heap.size w0 w0 := Below.refl _ _
 unfold ref3_NoInt at h0
 refine calls_run Try.func18 rfl Try.ntmps18 (by kernel_rfl) ?_
 refine gv_sub [0] (σ' := [(0, (.agg #[(.bool a_0.1), (.slice pa0_0 (List.length a_0.2) pc0_0)]))]) (by kernel_rfl) ?_
 refine gv_seq <| gv_region <| gv_new0 (fun b => .pointer (some ⟨b, 0, none⟩)) #[(.bool a_0.1), (.slice pa0_0 (List.length a_0.2) pc0_0)] 24 (by kernel_rfl) (by kernel_rfl) ?_
 intro b1 w2 hg3 hb4 hbe5 hz6
 refine gv_pureN 1 [2] [] (by kernel_rfl) ?_
 refine gv_nil <| gv_seq <| gv_region <| bindE h0 ?_; clear h0; intro j7 h1 h0
 refine gv_cut_ops (J := fun a w8 => Below w0.heap.size w0 w8 ∧ w2.heap.size ≤ w8.heap.size ∧ a.defers = [] ∧ a.tmps.size = 12 ∧ Ok [(2, (.bool j7))] a.tmps) ?_ ?_
 ·skip
  refine gv_pureN 1 [3] [(3, (bp b1))] (by kernel_rfl) ?_
  refine gv_load (t := 4) (A := ⟨b1, 0, none⟩) (.bool a_0.1) [] (fun e => by cases e) rfl rfl rfl (by kernel_rfl) (by kernel_rfl) (by kernel_rfl) (inw0 (hb4.cell 0 rfl)) rfl ?_
  refine gv_pureN 2 [5, 6] [(6, (.bool (!a_0.1)))] (by kernel_rfl) ?_
  refine gv_split (s := 6) (g := (!a_0.1)) (by kernel_rfl) (fun hc9 => ?_) (fun hc9 => ?_)
  ·skip
   replace h1 := ite_t hc9 h1
   refine gv_pureN 1 [7] [(7, (.pointer (some ⟨b1, 1, none⟩)))] (by kernel_rfl) ?_
   refine gv_load (t := 22) (A := ⟨b1, 1, none⟩) (.slice pa0_0 (List.length a_0.2) pc0_0) [] (fun e => by cases e) rfl rfl rfl (by kernel_rfl) (by kernel_rfl) (by kernel_rfl) (inw0 (hb4.cell 1 rfl)) rfl ?_
   refine gv_pureN 4 [2, 9, 10, 11] [(2, (.bool (((List.length a_0.2 : Nat) : Int) == 0)))] (by kernel_rfl) ?_
   refine gv_nil ?_
   have e := sj h1; subst e
   refine gv_goal fun a hd hs hok => ?_
   have hB10 := bg hB0 hg3 nb
   exact ⟨hB10, (Nat.le_refl _), hd, hs, ok_pick [2] hok (by kernel_rfl)⟩
  ·skip
   replace h1 := ite_f hc9 h1
   refine gv_pureN 6 [2, 7, 8, 9, 10, 11] [(2, (.bool false))] (by kernel_rfl) ?_
   refine gv_nil ?_
   have e := sj h1; subst e
   refine gv_goal fun a hd hs hok => ?_
   have hB11 := bg hB0 hg3 nb
   exact ⟨hB11, (Nat.le_refl _), hd, hs, ok_pick [2] hok (by kernel_rfl)⟩
 ·rintro a w8 ⟨hB12, hz13, hd, hs, hok⟩
  refine gv_in ?_ hd hs hok
  clear hd hs hok
  clear hz13 hz6 hbe5 hb4 hg3
  refine gv_cret ?_
  have e := sj h0; subst e
  refine gv_ret (gv_done [(.bool j7)] rfl ⟨(by kernel_rfl), trivial⟩ ?_)
  exact ⟨grown_of_below hB12, rfl⟩

theorem law4_draws_ok (fuel : Nat)  (w0 : World)  (r0 : Bool) (h0 : law4_draws fuel  = some r0) :
    Calls Try.prog 11 ([] : List Value).toArray w0 (Ret fun v w' => w0.grownBy w' none ∧ v = tup [(.bool r0)]) := by
 have hB0 : Below w0.heap.size w0 w0 := Below.refl _ _
 unfold law4_draws at h0
 refine calls_run Try.func11 rfl Try.ntmps11 (by kernel_rfl) ?_
 refine gv_sub [] (σ' := []) (by kernel_rfl) ?_
 refine gv_seq <| gv_region <| gv_pureN 1 [0] [] (by kernel_rfl) ?_
 refine gv_nil <| gv_seq <| gv_region <| bindE h0 ?_; clear h0; intro r1 hr2 h0
 refine gv_call0 (by kernel_rfl) rfl (by kernel_rfl) enters41 (law4_whole_ok fuel 0 w0  r1 hr2) ?_
 rintro v5 w3 ⟨hg4, a6, c7, a10, c11, rfl, ho8, hl9, ho12, hl13, ap14⟩
 have hl15 : ∀ g, blk a6 = some g → w0.heap.size ≤ g := fun g e => Nat.le_trans hB0.size (hl9 g e)
 have hl16 : ∀ g, blk a10 = some g → w0.heap.size ≤ g := fun g e => Nat.le_trans hB0.size (hl13 g e)
 refine gv_pureN 1 [13] [(13, (.agg #[(.bool r1.2.1.1), (.slice a6 (List.length r1.2.1.2) c7)]))] (by kernel_rfl) ?_
 refine bindE h0 ?_; clear h0; intro r17 hr18 h0
 refine gv_call0 (by kernel_rfl) rfl (by kernel_rfl) enters8 (random_Seed_ok fuel a6 c7 (r1.2.1.1, r1.2.1.2) w3 (fun k => (fun k => blk a6 = some k) k) (fun k hk => (fun k (hk : blk a6 = some k) => ho8.lt k hk) k hk) ((ho8.rd (Y := fun k => blk a6 = some k) (fun _ h => h.elim) (fun g e => e)).wide (fun k hk => hk)) r17 hr18) ?_
 rintro v21 w19 ⟨hg20, rfl⟩
 refine gv_pureN 3 [11, 15, 16] [(15, (.agg #[(.int .u64 r17.1.1), (.int .u64 r17.1.2)])), (16, (.agg #[(.int .i64 r17.2.1), (.int .i64 r17.2.2)]))] (by kernel_rfl) ?_
 refine gv_new0 (fun b => .pointer (some ⟨b, 0, none⟩)) #[(.int .u64 0), (.int .u64 0)] 27 (by kernel_rfl) (by kernel_rfl) ?_
 intro b22 w23 hg24 hb25 hbe26 hz27
 refine gv_new0 (fun b => .pointer (some ⟨b, 0, none⟩)) #[(.int .i64 0), (.int .i64 0)] 29 (by kernel_rfl) (by kernel_rfl) ?_
 intro b28 w29 hg30 hb31 hbe32 hz33
 have hk38 := hb25.grown hg30 nb
 refine gv_store0 27 0 (.agg #[(.int .u64 r17.1.1), (.int .u64 r17.1.2)]) #[(.int .u64 r17.1.1), (.int .u64 r17.1.2)] hk38 (by kernel_rfl) (by kernel_rfl) (by kernel_rfl) ?_
 intro w34 hg35 hb36 hz37
 have lt43 := ltl ((ltb hb25) _ rfl) ((lowb hbe32) _ rfl)
 have hk44 := hb31.grown hg35 (rowne (Nat.ne_of_lt lt43))
 refine gv_store0 29 0 (.agg #[(.int .i64 r17.2.1), (.int .i64 r17.2.2)]) #[(.int .i64 r17.2.1), (.int .i64 r17.2.2)] hk44 (by kernel_rfl) (by kernel_rfl) (by kernel_rfl) ?_
 intro w39 hg40 hb41 hz42
 refine gv_nil <| gv_seq <| gv_region ?_
 have hk45 := hb36.grown hg40 (rowne (ng lt43))
 refine gv_loadBox (t := 27) (b := b22) (t' := 27) (fr := (0, 0)) #[(.int .u64 r17.1.1), (.int .u64 r17.1.2)] [] (fun e => by cases e) rfl rfl rfl (by kernel_rfl) (by kernel_rfl) (by kernel_rfl) (by kernel_rfl) (inw0 hk45) rfl ?_
 refine bindE h0 ?_; clear h0; intro r46 hr47 h0
 refine gv_call0 (by kernel_rfl) rfl (by kernel_rfl) enters9 (random_Next_ok fuel (r17.1.1, r17.1.2) w39  r46 hr47) ?_
 rintro v50 w48 ⟨hg49, rfl⟩
 refine gv_pureN 4 [17, 20, 21, 22] [(20, (.int .u64 r46.1)), (21, (.agg #[(.int .u64 r46.2.1.1), (.int .u64 r46.2.1.2)])), (22, (.agg #[(.int .i64 r46.2.2.1), (.int .i64 r46.2.2.2)]))] (by kernel_rfl) ?_
 refine gv_new0 (fun b => .pointer (some ⟨b, 0, none⟩)) #[(.int .u64 0), (.int .u64 0)] 27 (by kernel_rfl) (by kernel_rfl) ?_
 intro b51 w52 hg53 hb54 hbe55 hz56
 clear hz56 hr47 hz42 hk44 hz37 hb36 hk38 hz33 hb31 hz27 hb25 hr18 hl16 hl15 ap14 hl13 ho12 hl9 ho8 hr2
 refine gv_new0 (fun b => .pointer (some ⟨b, 0, none⟩)) #[(.int .i64 0), (.int .i64 0)] 29 (by kernel_rfl) (by kernel_rfl) ?_
 intro b57 w58 hg59 hb60 hbe61 hz62
 refine gv_pureN 1 [3] [(3, (.int .u64 r46.1))] (by kernel_rfl) ?_
 refine gv_sub [1, 2, 3, 4, 5, 21, 22] (σ' := [(1, (bp b22)), (2, (bp b28)), (3, (.int .u64 r46.1)), (4, (bp b51)), (5, (bp b57)), (21, (.agg #[(.int .u64 r46.2.1.1), (.int .u64 r46.2.1.2)])), (22, (.agg #[(.int .i64 r46.2.2.1), (.int .i64 r46.2.2.2)]))]) (by kernel_rfl) ?_
 have hk67 := hb54.grown hg59 nb
 refine gv_store0 27 0 (.agg #[(.int .u64 r46.2.1.1), (.int .u64 r46.2.1.2)]) #[(.int .u64 r46.2.1.1), (.int .u64 r46.2.1.2)] hk67 (by kernel_rfl) (by kernel_rfl) (by kernel_rfl) ?_
 intro w63 hg64 hb65 hz66
 have lt72 := ltl ((ltb hb54) _ rfl) ((lowb hbe61) _ rfl)
 have hk73 := hb60.grown hg64 (rowne (Nat.ne_of_lt lt72))
 refine gv_store0 29 0 (.agg #[(.int .i64 r46.2.2.1), (.int .i64 r46.2.2.2)]) #[(.int .i64 r46.2.2.1), (.int .i64 r46.2.2.2)] hk73 (by kernel_rfl) (by kernel_rfl) (by kernel_rfl) ?_
 intro w68 hg69 hb70 hz71
 refine gv_nil <| gv_seq <| gv_anyM [] (by kernel_rfl) (List.range 14) [] (by kernel_rfl) ?_
 intro w74 hg75
 have hg77 := (grown_trans (grown_trans hg49 hg53) hg59)
 have hk78 := hb41.grown hg49 nb
 have lt79 := ltl ((ltb hk78) _ rfl) ((lowb hbe55) _ rfl)
 have lt80 := ltt lt43 lt79
 have lt81 := ltt lt80 lt72
 have hk82 := (((hk45.grown hg77 nb).grown hg64 (rowne (ng lt80))).grown hg69 (rowne (ng lt81))).grown hg75 nb
 have hM76 : ∀ k, (· = b22) k → k < w74.heap.size := (ltb hk82)
 have hg84 := (grown_trans hg53 hg59)
 have lt85 := ltt lt79 lt72
 have hk86 := (((hk78.grown hg84 nb).grown hg64 (rowne (ng lt79))).grown hg69 (rowne (ng lt85))).grown hg75 nb
 have hM83 : ∀ k, (· = b28) k → k < w74.heap.size := (ltb hk86)
 have hk88 := (hb65.grown hg69 (rowne (ng lt72))).grown hg75 nb
 have hM87 : ∀ k, (· = b51) k → k < w74.heap.size := (ltb hk88)
 have hk90 := hb70.grown hg75 nb
 have hM89 : ∀ k, (· = b57) k → k < w74.heap.size := (ltb hk90)
 refine bindE h0 ?_; clear h0; intro r124 hr125 h0
 refine bindE h0 ?_; clear h0; intro r178 hr179 h0
 refine gv_thrs [0] [(1, [2]), (3, [4, 5, 6, 7])] [⟨8, 6, 24, #[(.bool false), (.slice none (List.length ([] : List Int)) 0)], some (11, 28)⟩, ⟨9, 7, 27, #[(.int .u64 0), (.int .u64 0)], some (12, 29)⟩, ⟨10, 8, 29, #[(.int .i64 0), (.int .i64 0)], some (13, 30)⟩] (fun p => match p with | 0 => [1, 2, 3, 4, 5, 24] | 1 => [1, 2, 3, 4, 5, 24, 26] | _ => [1, 2, 3, 4, 5, 28, 29, 30]) (fun p σ B w => match p with | 0 => (σ = [(1, (bp b22)), (2, (bp b28)), (3, (.int .u64 r46.1)), (4, (bp b51)), (5, (bp b57)), (24, (.agg #[(.int .u64 r17.1.1), (.int .u64 r17.1.2)]))] ∧ Below w0.heap.size w0 w ∧ w74.heap.size ≤ w.heap.size ∧ Box w b22 27 #[(.int .u64 r17.1.1), (.int .u64 r17.1.2)] ∧ Box w b28 29 #[(.int .i64 r17.2.1), (.int .i64 r17.2.2)] ∧ Box w b51 27 #[(.int .u64 r46.2.1.1), (.int .u64 r46.2.1.2)] ∧ Box w b57 29 #[(.int .i64 r46.2.2.1), (.int .i64 r46.2.2.2)]) | 1 => (∃ (a129 : Option Addr), ∃ (c130 : Nat), σ = [(1, (bp b22)), (2, (bp b28)), (3, (.int .u64 r46.1)), (4, (bp b51)), (5, (bp b57)), (24, (.agg #[(.int .u64 r17.1.1), (.int .u64 r17.1.2)])), (26, (.agg #[(.bool r124.2.1.1), (.slice a129 (List.length r124.2.1.2) c130)]))] ∧ Below w0.heap.size w0 w ∧ w74.heap.size ≤ w.heap.size ∧ Box w b22 27 #[(.int .u64 r17.1.1), (.int .u64 r17.1.2)] ∧ Box w b28 29 #[(.int .i64 r17.2.1), (.int .i64 r17.2.2)] ∧ Box w b51 27 #[(.int .u64 r46.2.1.1), (.int .u64 r46.2.1.2)] ∧ Box w b57 29 #[(.int .i64 r46.2.2.1), (.int .i64 r46.2.2.2)] ∧ Own (iE .u32) 76 w (fun _ => False) a129 c130 r124.2.1.2 ∧ (∀ g, blk a129 = some g → w0.heap.size ≤ g) ∧ (∀ k, (fun k => blk a129 = some k) k → B k → False) ∧ (∀ g, blk a129 = some g → ¬ (· = b22) g) ∧ (¬ (fun k => blk a129 = some k) b22) ∧ (∀ g, blk a129 = some g → ¬ (· = b28) g) ∧ (¬ (fun k => blk a129 = some k) b28) ∧ (∀ g, blk a129 = some g → ¬ (· = b51) g) ∧ (¬ (fun k => blk a129 = some k) b51) ∧ (∀ g, blk a129 = some g → ¬ (· = b57) g) ∧ (¬ (fun k => blk a129 = some k) b57)) | _ => (∃ (a183 : Option Addr), ∃ (c184 : Nat), σ = [(1, (bp b22)), (2, (bp b28)), (3, (.int .u64 r46.1)), (4, (bp b51)), (5, (bp b57)), (28, (.agg #[(.bool r178.1.1), (.slice a183 (List.length r178.1.2) c184)])), (29, (.agg #[(.int .u64 r178.2.1.1), (.int .u64 r178.2.1.2)])), (30, (.agg #[(.int .i64 r178.2.2.1), (.int .i64 r178.2.2.2)]))] ∧ Below w0.heap.size w0 w ∧ w74.heap.size ≤ w.heap.size ∧ Box w b22 27 #[(.int .u64 r17.1.1), (.int .u64 r17.1.2)] ∧ Box w b28 29 #[(.int .i64 r17.2.1), (.int .i64 r17.2.2)] ∧ Box w b51 27 #[(.int .u64 r46.2.1.1), (.int .u64 r46.2.1.2)] ∧ Box w b57 29 #[(.int .i64 r46.2.2.1), (.int .i64 r46.2.2.2)] ∧ Own (iE .u32) 76 w (fun _ => False) a183 c184 r178.1.2 ∧ (∀ g, blk a183 = some g → w0.heap.size ≤ g) ∧ (∀ k, (fun k => blk a183 = some k) k → B k → False) ∧ (∀ g, blk a183 = some g → ¬ (· = b22) g) ∧ (¬ (fun k => blk a183 = some k) b22) ∧ (∀ g, blk a183 = some g → ¬ (· = b28) g) ∧ (¬ (fun k => blk a183 = some k) b28) ∧ (∀ g, blk a183 = some g → ¬ (· = b51) g) ∧ (¬ (fun k => blk a183 = some k) b51) ∧ (∀ g, blk a183 = some g → ¬ (· = b57) g) ∧ (¬ (fun k => blk a183 = some k) b57))) (by kernel_rfl) (by kernel_rfl) (by decide) ⟨⟨rfl, rfl, by decide, fun _ _ => by kernel_rfl⟩, ⟨rfl, rfl, by decide, fun _ _ => by kernel_rfl⟩, ⟨rfl, rfl, by decide, fun _ _ => by kernel_rfl⟩, trivial⟩ ⟨(fun s x h => by cases h; exact ⟨rfl, rfl, by kernel_rfl, by kernel_rfl, fun b v => ⟨by kernel_rfl, by kernel_rfl⟩⟩), (fun s x h => by cases h; exact ⟨rfl, rfl, by kernel_rfl, by kernel_rfl, fun b v => ⟨by kernel_rfl, by kernel_rfl⟩⟩), (fun s x h => by cases h; exact ⟨rfl, rfl, by kernel_rfl, by kernel_rfl, fun b v => ⟨by kernel_rfl, by kernel_rfl⟩⟩), trivial⟩ ?_ ?_ ?_ ?_ ?_ ?_
 ·rintro σ B w ⟨a183, c184, rfl, hB344, hz345, hk346, hk347, hk348, hk349, hk350, hlo351, hnb352, hap353, hap354, hap355, hap356, hap357, hap358, hap359, hap360⟩
  exact ⟨(fun s x h => by cases h; exact ⟨(.agg #[(.bool r178.1.1), (.slice a183 (List.length r178.1.2) c184)]), rfl, rfl, by intro u hu; simp [Value.cells] at hu; rcases hu with rfl | rfl <;> rfl⟩), (fun s x h => by cases h; exact ⟨(.agg #[(.int .u64 r178.2.1.1), (.int .u64 r178.2.1.2)]), rfl, rfl, by intro u hu; simp [Value.cells] at hu; rcases hu with rfl | rfl <;> rfl⟩), (fun s x h => by cases h; exact ⟨(.agg #[(.int .i64 r178.2.2.1), (.int .i64 r178.2.2.2)]), rfl, rfl, by intro u hu; simp [Value.cells] at hu; rcases hu with rfl | rfl <;> rfl⟩), trivial⟩
 ·intro p
  rcases p with _ | _ | p
  ·rintro σ B205 w203 w204 b207 ⟨rfl, hB211, hz212, hk213, hk214, hk215, hk216⟩ hBl206 hC hbe208 hg209 hz210
   have hB217 := bg hB211 hg209 nb
   have hz218 := (nt hz212 hg209.size)
   have hk219 := hk213.grown hg209 nb
   have hk220 := hk214.grown hg209 nb
   have hk221 := hk215.grown hg209 nb
   have hk222 := hk216.grown hg209 nb
   exact ⟨rfl, hB217, hz218, hk219, hk220, hk221, hk222⟩
  ·rintro σ B225 w223 w224 b227 ⟨a129, c130, rfl, hB231, hz232, hk233, hk234, hk235, hk236, hk237, hlo238, hnb239, hap240, hap241, hap242, hap243, hap244, hap245, hap246, hap247⟩ hBl226 hC hbe228 hg229 hz230
   have hB248 := bg hB231 hg229 nb
   have hz249 := (nt hz232 hg229.size)
   have hk250 := hk233.grown hg229 nb
   have hk251 := hk234.grown hg229 nb
   have hk252 := hk235.grown hg229 nb
   have hk253 := hk236.grown hg229 nb
   have hk254 := hk237.grown hg229 (fun _ h => h.elim) nb
   exact ⟨a129, c130, rfl, hB248, hz249, hk250, hk251, hk252, hk253, hk254, hlo238, (fun k hk hb => hb.elim (fun hb => hnb239 k hk hb) (fun e => Nat.ne_of_lt ((fun k (hk : blk a129 = some k) => hk237.lt k hk) k hk) (e.trans hbe228))), hap240, hap241, hap242, hap243, hap244, hap245, hap246, hap247⟩
  ·rintro σ B257 w255 w256 b259 ⟨a183, c184, rfl, hB263, hz264, hk265, hk266, hk267, hk268, hk269, hlo270, hnb271, hap272, hap273, hap274, hap275, hap276, hap277, hap278, hap279⟩ hBl258 hC hbe260 hg261 hz262
   have hB280 := bg hB263 hg261 nb
   have hz281 := (nt hz264 hg261.size)
   have hk282 := hk265.grown hg261 nb
   have hk283 := hk266.grown hg261 nb
   have hk284 := hk267.grown hg261 nb
   have hk285 := hk268.grown hg261 nb
   have hk286 := hk269.grown hg261 (fun _ h => h.elim) nb
   exact ⟨a183, c184, rfl, hB280, hz281, hk282, hk283, hk284, hk285, hk286, hlo270, (fun k hk hb => hb.elim (fun hb => hnb271 k hk hb) (fun e => Nat.ne_of_lt ((fun k (hk : blk a183 = some k) => hk269.lt k hk) k hk) (e.trans hbe260))), hap272, hap273, hap274, hap275, hap276, hap277, hap278, hap279⟩
 ·rintro σ B289 w287 w288 b291 ⟨a183, c184, rfl, hB295, hz296, hk297, hk298, hk299, hk300, hk301, hlo302, hnb303, hap304, hap305, hap306, hap307, hap308, hap309, hap310, hap311⟩ hBl290 hC hBb292 hg293 hz294
  have hg313 := (grown_trans (grown_trans (grown_trans hg4 hg20) hg24) hg30)
  have hB314 := bg hB0 hg313 nb
  have hg315 := (grown_trans hg4 hg20)
  have hB316 := bg hB0 hg315 nb
  have hlo317 : w0.heap.size ≤ b22 := lob hbe26 hB316.size
  have hB318 := bg hB314 hg35 (rowlo hlo317)
  have hB319 := bg hB316 hg24 nb
  have hlo320 : w0.heap.size ≤ b28 := lob hbe32 hB319.size
  have hB321 := bg hB318 hg40 (rowlo hlo320)
  have hB322 := bg hB321 hg77 nb
  have hB323 := bg hB319 hg30 nb
  have hB324 := bg hB323 hg35 (rowlo hlo317)
  have hB325 := bg hB324 hg40 (rowlo hlo320)
  have hB326 := bg hB325 hg49 nb
  have hlo327 : w0.heap.size ≤ b51 := lob hbe55 hB326.size
  have hB328 := bg hB322 hg64 (rowlo hlo327)
  have hB329 := bg hB326 hg53 nb
  have hlo330 : w0.heap.size ≤ b57 := lob hbe61 hB329.size
  have hB331 := bg hB328 hg69 (rowlo hlo330)
  have hB332 := bg hB331 hg75 nb
  have hB312 := below_grown hB295 hg293 hB295.size (rowlo (Nat.le_trans hB332.size (hBl290 _ hBb292).1))
  have : w287.heap.size ≤ w288.heap.size := hg293.size
  have hr333 : ∀ g, some b291 = some g → ¬ (· = b22) g := fun g e h => by cases e; exact (fun k (h : (· = b22) k) (hb : B289 k) => nl (hBl290 k hb).1 (hM76 k h)) _ h hBb292
  have hk334 := hk297.grown hg293 hr333
  have hr335 : ∀ g, some b291 = some g → ¬ (· = b28) g := fun g e h => by cases e; exact (fun k (h : (· = b28) k) (hb : B289 k) => nl (hBl290 k hb).1 (hM83 k h)) _ h hBb292
  have hk336 := hk298.grown hg293 hr335
  have hr337 : ∀ g, some b291 = some g → ¬ (· = b51) g := fun g e h => by cases e; exact (fun k (h : (· = b51) k) (hb : B289 k) => nl (hBl290 k hb).1 (hM87 k h)) _ h hBb292
  have hk338 := hk299.grown hg293 hr337
  have hr339 : ∀ g, some b291 = some g → ¬ (· = b57) g := fun g e h => by cases e; exact (fun k (h : (· = b57) k) (hb : B289 k) => nl (hBl290 k hb).1 (hM89 k h)) _ h hBb292
  have hk340 := hk300.grown hg293 hr339
  have hr341 : ∀ g, some b291 = some g → ¬ (fun k => blk a183 = some k) g := fun g e h => by cases e; exact hnb303 _ h hBb292
  have hk342 := hk301.grown hg293 (fun _ h => h.elim) (fun g e => ⟨fun h => h, hr341 g e⟩)
  have hz343 := (nt hz296 hg293.size)
  exact ⟨a183, c184, rfl, hB312, hz343, hk334, hk336, hk338, hk340, hk342, hlo302, hnb303, hap304, hap305, hap306, hap307, hap308, hap309, hap310, hap311⟩
 ·intro p m qs' hp
  rcases p with _ | _ | p
  ·cases (show some ((1, [2]) : Nat × List Nat) = some (m, qs') from hp)
   rintro σ B114 w113 es115 ⟨rfl, hB118, hz119, hk120, hk121, hk122, hk123⟩ hBl116 hC117
   refine gv_sub [1, 2, 3, 4, 5, 6, 7, 8, 24] (σ' := [(1, (bp b22)), (2, (bp b28)), (3, (.int .u64 r46.1)), (4, (bp b51)), (5, (bp b57)), (6, (es115 0)), (7, (es115 1)), (8, (es115 2)), (24, (.agg #[(.int .u64 r17.1.1), (.int .u64 r17.1.2)]))]) (by kernel_rfl) ?_
   refine gv_call (f := 41) (vs := [(.int .i64 1)]) (cap := []) _ (by decide) rfl rfl rfl (by kernel_rfl) (by kernel_rfl) enters41 (law4_whole_ok fuel 1 w113  r124 hr125) ?_
   rintro v128 w126 ⟨hg127, a129, c130, a133, c134, rfl, ho131, hl132, ho135, hl136, ap137⟩
   refine ⟨(fun _ => hC117.grown hg127 nb), ?_⟩
   have hl138 : ∀ g, blk a129 = some g → w0.heap.size ≤ g := fun g e => Nat.le_trans hB118.size (hl132 g e)
   have nb139 : ∀ k, (fun k => blk a129 = some k) k → B114 k → False := fun k hk hb => (fun h => nl (hl132 k h) (hBl116 k hb).2) hk
   have hl140 : ∀ g, blk a133 = some g → w0.heap.size ≤ g := fun g e => Nat.le_trans hB118.size (hl136 g e)
   have nb141 : ∀ k, (fun k => blk a133 = some k) k → B114 k → False := fun k hk hb => (fun h => nl (hl136 k h) (hBl116 k hb).2) hk
   refine gv_pureN 1 [26] [(26, (.agg #[(.bool r124.2.1.1), (.slice a129 (List.length r124.2.1.2) c130)]))] (by kernel_rfl) ?_
   refine gv_nil <| gv_sub [1, 2, 3, 4, 5, 6, 7, 8, 24, 26] (σ' := [(1, (bp b22)), (2, (bp b28)), (3, (.int .u64 r46.1)), (4, (bp b51)), (5, (bp b57)), (6, (es115 0)), (7, (es115 1)), (8, (es115 2)), (24, (.agg #[(.int .u64 r17.1.1), (.int .u64 r17.1.2)])), (26, (.agg #[(.bool r124.2.1.1), (.slice a129 (List.length r124.2.1.2) c130)]))]) (by kernel_rfl) ?_
   refine gv_goal fun a hd hs hok => ?_
   obtain ⟨q1, q2, q3, q4, q5, q6, q7, q8, q24, q26, _⟩ := hok
   have hB142 := bg hB118 hg127 nb
   have hz143 := (nt hz119 hg127.size)
   have hk144 := hk120.grown hg127 nb
   have hk145 := hk121.grown hg127 nb
   have hk146 := hk122.grown hg127 nb
   have hk147 := hk123.grown hg127 nb
   have ap148 : ∀ g, blk a129 = some g → ¬ (· = b22) g := fun g e hx => nl ((show ∀ k, blk a129 = some k → w113.heap.size ≤ k from hl132) g e) ((ltb hk120) _ hx)
   have ap149 : ¬ (fun k => blk a129 = some k) b22 := fun hx => nl ((show ∀ k, blk a129 = some k → w113.heap.size ≤ k from hl132) _ hx) ((ltb hk120) _ rfl)
   have ap150 : ∀ g, blk a129 = some g → ¬ (· = b28) g := fun g e hx => nl ((show ∀ k, blk a129 = some k → w113.heap.size ≤ k from hl132) g e) ((ltb hk121) _ hx)
   have ap151 : ¬ (fun k => blk a129 = some k) b28 := fun hx => nl ((show ∀ k, blk a129 = some k → w113.heap.size ≤ k from hl132) _ hx) ((ltb hk121) _ rfl)
   have ap152 : ∀ g, blk a129 = some g → ¬ (· = b51) g := fun g e hx => nl ((show ∀ k, blk a129 = some k → w113.heap.size ≤ k from hl132) g e) ((ltb hk122) _ hx)
   have ap153 : ¬ (fun k => blk a129 = some k) b51 := fun hx => nl ((show ∀ k, blk a129 = some k → w113.heap.size ≤ k from hl132) _ hx) ((ltb hk122) _ rfl)
   have ap154 : ∀ g, blk a129 = some g → ¬ (· = b57) g := fun g e hx => nl ((show ∀ k, blk a129 = some k → w113.heap.size ≤ k from hl132) g e) ((ltb hk123) _ hx)
   have ap155 : ¬ (fun k => blk a129 = some k) b57 := fun hx => nl ((show ∀ k, blk a129 = some k → w113.heap.size ≤ k from hl132) _ hx) ((ltb hk123) _ rfl)
   exact ⟨⟨_, hg127, fun _ e => by cases e⟩, hd, hs, [(1, (bp b22)), (2, (bp b28)), (3, (.int .u64 r46.1)), (4, (bp b51)), (5, (bp b57)), (24, (.agg #[(.int .u64 r17.1.1), (.int .u64 r17.1.2)])), (26, (.agg #[(.bool r124.2.1.1), (.slice a129 (List.length r124.2.1.2) c130)]))], rfl, ⟨a129, c130, rfl, hB142, hz143, hk144, hk145, hk146, hk147, ho131, hl138, nb139, ap148, ap149, ap150, ap151, ap152, ap153, ap154, ap155⟩, ⟨q1, q2, q3, q4, q5, q24, q26, q6, q7, q8, trivial⟩⟩
  ·cases (show some ((3, [4, 5, 6, 7]) : Nat × List Nat) = some (m, qs') from hp)
   rintro σ B157 w156 es158 ⟨a129, c130, rfl, hB161, hz162, hk163, hk164, hk165, hk166, hk167, hlo168, hnb169, hap170, hap171, hap172, hap173, hap174, hap175, hap176, hap177⟩ hBl159 hC160
   refine gv_sub [1, 2, 3, 4, 5, 6, 7, 8, 24, 26] (σ' := [(1, (bp b22)), (2, (bp b28)), (3, (.int .u64 r46.1)), (4, (bp b51)), (5, (bp b57)), (6, (es158 0)), (7, (es158 1)), (8, (es158 2)), (24, (.agg #[(.int .u64 r17.1.1), (.int .u64 r17.1.2)])), (26, (.agg #[(.bool r124.2.1.1), (.slice a129 (List.length r124.2.1.2) c130)]))]) (by kernel_rfl) ?_
   refine gv_call (f := 16) (vs := [(.agg #[(.int .u64 r17.1.1), (.int .u64 r17.1.2)]), (.agg #[(.bool r124.2.1.1), (.slice a129 (List.length r124.2.1.2) c130)])]) (cap := []) _ (by decide) rfl rfl rfl (by kernel_rfl) (by kernel_rfl) enters16 (random_Below_ok fuel (r17.1.1, r17.1.2) a129 c130 (r124.2.1.1, r124.2.1.2) w156 (fun k => (fun k => blk a129 = some k) k) (fun k hk => (fun k (hk : blk a129 = some k) => hk167.lt k hk) k hk) ((hk167.rd (Y := fun k => blk a129 = some k) (fun _ h => h.elim) (fun g e => e)).wide (fun k hk => hk)) r178 hr179) ?_
   rintro v182 w180 ⟨hg181, a183, c184, rfl, ho185, hl186⟩
   refine ⟨(fun _ => hC160.grown hg181 nb), ?_⟩
   have hl187 : ∀ g, blk a183 = some g → w0.heap.size ≤ g := fun g e => Nat.le_trans hB161.size (hl186 g e)
   have nb188 : ∀ k, (fun k => blk a183 = some k) k → B157 k → False := fun k hk hb => (fun h => nl (hl186 k h) (hBl159 k hb).2) hk
   refine gv_pureN 4 [23, 28, 29, 30] [(28, (.agg #[(.bool r178.1.1), (.slice a183 (List.length r178.1.2) c184)])), (29, (.agg #[(.int .u64 r178.2.1.1), (.int .u64 r178.2.1.2)])), (30, (.agg #[(.int .i64 r178.2.2.1), (.int .i64 r178.2.2.2)]))] (by kernel_rfl) ?_
   refine gv_nil <| gv_sub [1, 2, 3, 4, 5, 6, 7, 8, 28, 29, 30] (σ' := [(1, (bp b22)), (2, (bp b28)), (3, (.int .u64 r46.1)), (4, (bp b51)), (5, (bp b57)), (6, (es158 0)), (7, (es158 1)), (8, (es158 2)), (28, (.agg #[(.bool r178.1.1), (.slice a183 (List.length r178.1.2) c184)])), (29, (.agg #[(.int .u64 r178.2.1.1), (.int .u64 r178.2.1.2)])), (30, (.agg #[(.int .i64 r178.2.2.1), (.int .i64 r178.2.2.2)]))]) (by kernel_rfl) ?_
   refine gv_goal fun a hd hs hok => ?_
   obtain ⟨q1, q2, q3, q4, q5, q6, q7, q8, q28, q29, q30, _⟩ := hok
   have hB189 := bg hB161 hg181 nb
   have hz190 := (nt hz162 hg181.size)
   have hk191 := hk163.grown hg181 nb
   have hk192 := hk164.grown hg181 nb
   have hk193 := hk165.grown hg181 nb
   have hk194 := hk166.grown hg181 nb
   have ap195 : ∀ g, blk a183 = some g → ¬ (· = b22) g := fun g e hx => nl ((show ∀ k, blk a183 = some k → w156.heap.size ≤ k from hl186) g e) ((ltb hk163) _ hx)
   have ap196 : ¬ (fun k => blk a183 = some k) b22 := fun hx => nl ((show ∀ k, blk a183 = some k → w156.heap.size ≤ k from hl186) _ hx) ((ltb hk163) _ rfl)
   have ap197 : ∀ g, blk a183 = some g → ¬ (· = b28) g := fun g e hx => nl ((show ∀ k, blk a183 = some k → w156.heap.size ≤ k from hl186) g e) ((ltb hk164) _ hx)
   have ap198 : ¬ (fun k => blk a183 = some k) b28 := fun hx => nl ((show ∀ k, blk a183 = some k → w156.heap.size ≤ k from hl186) _ hx) ((ltb hk164) _ rfl)
   have ap199 : ∀ g, blk a183 = some g → ¬ (· = b51) g := fun g e hx => nl ((show ∀ k, blk a183 = some k → w156.heap.size ≤ k from hl186) g e) ((ltb hk165) _ hx)
   have ap200 : ¬ (fun k => blk a183 = some k) b51 := fun hx => nl ((show ∀ k, blk a183 = some k → w156.heap.size ≤ k from hl186) _ hx) ((ltb hk165) _ rfl)
   have ap201 : ∀ g, blk a183 = some g → ¬ (· = b57) g := fun g e hx => nl ((show ∀ k, blk a183 = some k → w156.heap.size ≤ k from hl186) g e) ((ltb hk166) _ hx)
   have ap202 : ¬ (fun k => blk a183 = some k) b57 := fun hx => nl ((show ∀ k, blk a183 = some k → w156.heap.size ≤ k from hl186) _ hx) ((ltb hk166) _ rfl)
   exact ⟨⟨_, hg181, fun _ e => by cases e⟩, hd, hs, [(1, (bp b22)), (2, (bp b28)), (3, (.int .u64 r46.1)), (4, (bp b51)), (5, (bp b57)), (28, (.agg #[(.bool r178.1.1), (.slice a183 (List.length r178.1.2) c184)])), (29, (.agg #[(.int .u64 r178.2.1.1), (.int .u64 r178.2.1.2)])), (30, (.agg #[(.int .i64 r178.2.2.1), (.int .i64 r178.2.2.2)]))], rfl, ⟨a183, c184, rfl, hB189, hz190, hk191, hk192, hk193, hk194, ho185, hl187, nb188, ap195, ap196, ap197, ap198, ap199, ap200, ap201, ap202⟩, ⟨q1, q2, q3, q4, q5, q28, q29, q30, q6, q7, q8, trivial⟩⟩
  ·simp at hp
 ·skip
  have hC92 := Cls.refl w74 []
  refine gv_loadBox (t := 27) (b := b22) (t' := 27) (fr := (0, 0)) #[(.int .u64 r17.1.1), (.int .u64 r17.1.2)] [] (fun e => by cases e) rfl rfl rfl (by kernel_rfl) (by kernel_rfl) (by kernel_rfl) (by kernel_rfl) (inw1 fun w' hC' => (hC'.box hk82 nm_nil)) rfl ?_
  refine gv_nil <| gv_sub [1, 2, 3, 4, 5, 24] (σ' := [(1, (bp b22)), (2, (bp b28)), (3, (.int .u64 r46.1)), (4, (bp b51)), (5, (bp b57)), (24, (.agg #[(.int .u64 r17.1.1), (.int .u64 r17.1.2)]))]) (by kernel_rfl) ?_
  refine gv_goal fun a hd hs hok => ?_
  obtain ⟨q1, q2, q3, q4, q5, q24, _⟩ := hok
  have hg93 := (grown_trans (grown_trans (grown_trans hg4 hg20) hg24) hg30)
  have hB94 := bg hB0 hg93 nb
  have hg95 := (grown_trans hg4 hg20)
  have hB96 := bg hB0 hg95 nb
  have hlo97 : w0.heap.size ≤ b22 := lob hbe26 hB96.size
  have hB98 := bg hB94 hg35 (rowlo hlo97)
  have hB99 := bg hB96 hg24 nb
  have hlo100 : w0.heap.size ≤ b28 := lob hbe32 hB99.size
  have hB101 := bg hB98 hg40 (rowlo hlo100)
  have hB102 := bg hB101 hg77 nb
  have hB103 := bg hB99 hg30 nb
  have hB104 := bg hB103 hg35 (rowlo hlo97)
  have hB105 := bg hB104 hg40 (rowlo hlo100)
  have hB106 := bg hB105 hg49 nb
  have hlo107 : w0.heap.size ≤ b51 := lob hbe55 hB106.size
  have hB108 := bg hB102 hg64 (rowlo hlo107)
  have hB109 := bg hB106 hg53 nb
  have hlo110 : w0.heap.size ≤ b57 := lob hbe61 hB109.size
  have hB111 := bg hB108 hg69 (rowlo hlo110)
  have hB112 := bg hB111 hg75 nb
  exact ⟨rfl, hd, hs, [(1, (bp b22)), (2, (bp b28)), (3, (.int .u64 r46.1)), (4, (bp b51)), (5, (bp b57)), (24, (.agg #[(.int .u64 r17.1.1), (.int .u64 r17.1.2)]))], rfl, ⟨rfl, hB112, (Nat.le_refl _), hk82, hk86, hk88, hk90⟩, ⟨q1, q2, q3, q4, q5, q24, trivial⟩⟩
 ·rintro σ B362 w361 bf365 ⟨a183, c184, rfl, hB368, hz369, hk370, hk371, hk372, hk373, hk374, hlo375, hnb376, hap377, hap378, hap379, hap380, hap381, hap382, hap383, hap384⟩ hBl363 hC364 hb366 hne367
  obtain ⟨hBb385, hb386⟩ : B362 (bf365 0) ∧ Box w361 (bf365 0) 24 #[(.bool r178.1.1), (.slice a183 (List.length r178.1.2) c184)] := hb366 0 _ rfl
  have hlo387 := (hBl363 _ hBb385).1
  have ap388 : ¬ (· = b22) (bf365 0) := fun h => (fun k (h : (· = b22) k) (hb : B362 k) => nl (hBl363 k hb).1 (hM76 k h)) _ h hBb385
  have ap389 : ¬ (· = b28) (bf365 0) := fun h => (fun k (h : (· = b28) k) (hb : B362 k) => nl (hBl363 k hb).1 (hM83 k h)) _ h hBb385
  have ap390 : ¬ (· = b51) (bf365 0) := fun h => (fun k (h : (· = b51) k) (hb : B362 k) => nl (hBl363 k hb).1 (hM87 k h)) _ h hBb385
  have ap391 : ¬ (· = b57) (bf365 0) := fun h => (fun k (h : (· = b57) k) (hb : B362 k) => nl (hBl363 k hb).1 (hM89 k h)) _ h hBb385
  have ap392 : ¬ (fun k => blk a183 = some k) (bf365 0) := fun h => hnb376 _ h hBb385
  have ap393 : ∀ g, blk a183 = some g → ¬ (· = (bf365 0)) g := fun g e h => by have h : g = (bf365 0) := h; exact hnb376 g e (h ▸ hBb385)
  obtain ⟨hBb394, hb395⟩ : B362 (bf365 1) ∧ Box w361 (bf365 1) 27 #[(.int .u64 r178.2.1.1), (.int .u64 r178.2.1.2)] := hb366 1 _ rfl
  have hlo396 := (hBl363 _ hBb394).1
  have ap397 : (bf365 0) ≠ (bf365 1) := hne367 0 1 (by decide) (by decide) (by decide)
  have ap398 : ¬ (· = b22) (bf365 1) := fun h => (fun k (h : (· = b22) k) (hb : B362 k) => nl (hBl363 k hb).1 (hM76 k h)) _ h hBb394
  have ap399 : ¬ (· = b28) (bf365 1) := fun h => (fun k (h : (· = b28) k) (hb : B362 k) => nl (hBl363 k hb).1 (hM83 k h)) _ h hBb394
  have ap400 : ¬ (· = b51) (bf365 1) := fun h => (fun k (h : (· = b51) k) (hb : B362 k) => nl (hBl363 k hb).1 (hM87 k h)) _ h hBb394
  have ap401 : ¬ (· = b57) (bf365 1) := fun h => (fun k (h : (· = b57) k) (hb : B362 k) => nl (hBl363 k hb).1 (hM89 k h)) _ h hBb394
  have ap402 : ¬ (fun k => blk a183 = some k) (bf365 1) := fun h => hnb376 _ h hBb394
  have ap403 : ∀ g, blk a183 = some g → ¬ (· = (bf365 1)) g := fun g e h => by have h : g = (bf365 1) := h; exact hnb376 g e (h ▸ hBb394)
  obtain ⟨hBb404, hb405⟩ : B362 (bf365 2) ∧ Box w361 (bf365 2) 29 #[(.int .i64 r178.2.2.1), (.int .i64 r178.2.2.2)] := hb366 2 _ rfl
  have hlo406 := (hBl363 _ hBb404).1
  have ap407 : (bf365 0) ≠ (bf365 2) := hne367 0 2 (by decide) (by decide) (by decide)
  have ap408 : (bf365 1) ≠ (bf365 2) := hne367 1 2 (by decide) (by decide) (by decide)
  have ap409 : ¬ (· = b22) (bf365 2) := fun h => (fun k (h : (· = b22) k) (hb : B362 k) => nl (hBl363 k hb).1 (hM76 k h)) _ h hBb404
  have ap410 : ¬ (· = b28) (bf365 2) := fun h => (fun k (h : (· = b28) k) (hb : B362 k) => nl (hBl363 k hb).1 (hM83 k h)) _ h hBb404
  have ap411 : ¬ (· = b51) (bf365 2) := fun h => (fun k (h : (· = b51) k) (hb : B362 k) => nl (hBl363 k hb).1 (hM87 k h)) _ h hBb404
  have ap412 : ¬ (· = b57) (bf365 2) := fun h => (fun k (h : (· = b57) k) (hb : B362 k) => nl (hBl363 k hb).1 (hM89 k h)) _ h hBb404
  have ap413 : ¬ (fun k => blk a183 = some k) (bf365 2) := fun h => hnb376 _ h hBb404
  have ap414 : ∀ g, blk a183 = some g → ¬ (· = (bf365 2)) g := fun g e h => by have h : g = (bf365 2) := h; exact hnb376 g e (h ▸ hBb404)
  have hg416 := (grown_trans (grown_trans (grown_trans hg4 hg20) hg24) hg30)
  have hB417 := bg hB0 hg416 nb
  have hg418 := (grown_trans hg4 hg20)
  have hB419 := bg hB0 hg418 nb
  have hlo420 : w0.heap.size ≤ b22 := lob hbe26 hB419.size
  have hB421 := bg hB417 hg35 (rowlo hlo420)
  have hB422 := bg hB419 hg24 nb
  have hlo423 : w0.heap.size ≤ b28 := lob hbe32 hB422.size
  have hB424 := bg hB421 hg40 (rowlo hlo423)
  have hB425 := bg hB424 hg77 nb
  have hB426 := bg hB422 hg30 nb
  have hB427 := bg hB426 hg35 (rowlo hlo420)
  have hB428 := bg hB427 hg40 (rowlo hlo423)
  have hB429 := bg hB428 hg49 nb
  have hlo430 : w0.heap.size ≤ b51 := lob hbe55 hB429.size
  have hB431 := bg hB425 hg64 (rowlo hlo430)
  have hB432 := bg hB429 hg53 nb
  have hlo433 : w0.heap.size ≤ b57 := lob hbe61 hB432.size
  have hB434 := bg hB431 hg69 (rowlo hlo433)
  have hB435 := bg hB434 hg75 nb
  have hz415 := hB435.size
  refine gv_seq <| gv_region ?_
  clear hz415 hB434 hB432 hB431 hB429 hB428 hB427 hB426 hB425 hB424 hB422 hB421 hB419 hg418 hB417 hg416 hb366 hC364 hz369 hg84 hk78 hg77 hg75 hz71 hb70 hg69 hk73 hz66 hb65 hg64 hk67 hz62 hbe61 hb60 hg59 hbe55 hb54 hg53 hg49 hk45 hb41 hg40 hg35 hbe32 hg30 hbe26 hg24 hg20 hg4
  refine bindE h0 ?_; clear h0; intro r436 hr437 h0
  refine gv_call0 (by kernel_rfl) rfl (by kernel_rfl) enters41 (law4_whole_ok fuel 0 w361  r436 hr437) ?_
  rintro v440 w438 ⟨hg439, a441, c442, a445, c446, rfl, ho443, hl444, ho447, hl448, ap449⟩
  have hl450 : ∀ g, blk a441 = some g → w0.heap.size ≤ g := fun g e => Nat.le_trans hB368.size (hl444 g e)
  have hl451 : ∀ g, blk a445 = some g → w0.heap.size ≤ g := fun g e => Nat.le_trans hB368.size (hl448 g e)
  refine gv_pureN 1 [32] [(32, (.agg #[(.bool r436.2.1.1), (.slice a441 (List.length r436.2.1.2) c442)]))] (by kernel_rfl) ?_
  refine bindE h0 ?_; clear h0; intro r452 hr453 h0
  refine gv_call0 (by kernel_rfl) rfl (by kernel_rfl) enters14 (ref4_Seeded_ok fuel a441 c442 (r436.2.1.1, r436.2.1.2) w438 (fun k => (fun k => blk a441 = some k) k) (fun k hk => (fun k (hk : blk a441 = some k) => ho443.lt k hk) k hk) ((ho443.rd (Y := fun k => blk a441 = some k) (fun _ h => h.elim) (fun g e => e)).wide (fun k hk => hk)) r452 hr453) ?_
  rintro v456 w454 ⟨hg455, rfl⟩
  refine gv_pureN 1 [34] [(34, (.agg #[(.int .u64 r452.1), (.int .u64 r452.2)]))] (by kernel_rfl) ?_
  refine gv_new0 (fun b => .pointer (some ⟨b, 0, none⟩)) #[(.int .u64 0), (.int .u64 0)] 40 (by kernel_rfl) (by kernel_rfl) ?_
  intro b457 w458 hg459 hb460 hbe461 hz462
  refine gv_store0 40 0 (.agg #[(.int .u64 r452.1), (.int .u64 r452.2)]) #[(.int .u64 r452.1), (.int .u64 r452.2)] hb460 (by kernel_rfl) (by kernel_rfl) (by kernel_rfl) ?_
  intro w463 hg464 hb465 hz466
  refine gv_nil <| gv_seq <| gv_region <| bindE h0 ?_; clear h0; intro r467 hr468 h0
  refine gv_call0 (by kernel_rfl) rfl (by kernel_rfl) enters15 (ref4_Random_Draw_ok fuel b457 (r452.1, r452.2) w463 hb465 r467 hr468) ?_
  rintro v471 w469 ⟨hg470, rfl, hb472⟩
  refine gv_pureN 1 [10] [(10, (.int .u64 r467.1))] (by kernel_rfl) ?_
  refine gv_sub [1, 2, 3, 4, 5, 6, 7, 8, 9, 10] (σ' := [(1, (bp b22)), (2, (bp b28)), (3, (.int .u64 r46.1)), (4, (bp b51)), (5, (bp b57)), (6, (bp (bf365 0))), (7, (bp (bf365 1))), (8, (bp (bf365 2))), (9, (bp b457)), (10, (.int .u64 r467.1))]) (by kernel_rfl) ?_
  refine gv_nil <| gv_seq <| gv_region <| bindE h0 ?_; clear h0; intro j473 h1 h0
  refine gv_cut_ops (J := fun a w474 => Below w0.heap.size w0 w474 ∧ w469.heap.size ≤ w474.heap.size ∧ a.defers = [] ∧ a.tmps.size = 74 ∧ Ok [(0, (.bool j473))] a.tmps) ?_ ?_
  ·skip
   refine gv_pureN 1 [36] [(36, (bp b28))] (by kernel_rfl) ?_
   have hg475 := (grown_trans (grown_trans hg439 hg455) hg459)
   have hg476 := (grown_trans hg439 hg455)
   have hk477 := hk373.grown hg476 nb
   have lt478 := ltl ((ltb hk477) _ rfl) ((lowb hbe461) _ rfl)
   have lt479 := ltt lt85 lt478
   have hk480 := ((hk371.grown hg475 nb).grown hg464 (rowne (ng lt479))).grown hg470 (rowne (ng lt479))
   refine gv_load (t := 3) (A := ⟨b28, 0, none⟩) (.int .i64 r17.2.1) [] (fun e => by cases e) rfl rfl rfl (by kernel_rfl) (by kernel_rfl) (by kernel_rfl) (inw0 (hk480.cell 0 rfl)) rfl ?_
   refine gv_pureN 2 [38, 39] [(39, (.bool (r17.2.1 == 0)))] (by kernel_rfl) ?_
   refine gv_split (s := 39) (g := (r17.2.1 == 0)) (by kernel_rfl) (fun hc481 => ?_) (fun hc481 => ?_)
   ·skip
    replace h1 := ite_t hc481 h1
    refine gv_pureN 1 [40] [(40, (bp b57))] (by kernel_rfl) ?_
    have hk482 := ((hk477.grown hg459 nb).grown hg464 (rowne (ng lt478))).grown hg470 (rowne (ng lt478))
    refine gv_load (t := 3) (A := ⟨b57, 0, none⟩) (.int .i64 r46.2.2.1) [] (fun e => by cases e) rfl rfl rfl (by kernel_rfl) (by kernel_rfl) (by kernel_rfl) (inw0 (hk482.cell 0 rfl)) rfl ?_
    refine gv_pureN 3 [42, 43, 44] [(44, (.bool (r46.2.2.1 == 0)))] (by kernel_rfl) ?_
    refine gv_split (s := 44) (g := (r46.2.2.1 == 0)) (by kernel_rfl) (fun hc483 => ?_) (fun hc483 => ?_)
    ·skip
     replace h1 := ite_t hc483 h1
     refine gv_pureN 1 [45] [(45, (bp (bf365 2)))] (by kernel_rfl) ?_
     have hk484 := hb405.grown hg476 nb
     have lt485 := ltl ((ltb hk484) _ rfl) ((lowb hbe461) _ rfl)
     have hk486 := ((hb405.grown hg475 nb).grown hg464 (rowne (ng lt485))).grown hg470 (rowne (ng lt485))
     refine gv_load (t := 3) (A := ⟨(bf365 2), 0, none⟩) (.int .i64 r178.2.2.1) [] (fun e => by cases e) rfl rfl rfl (by kernel_rfl) (by kernel_rfl) (by kernel_rfl) (inw0 (hk486.cell 0 rfl)) rfl ?_
     refine gv_pureN 3 [47, 48, 49] [(49, (.bool (r178.2.2.1 == 0)))] (by kernel_rfl) ?_
     refine gv_split (s := 49) (g := (r178.2.2.1 == 0)) (by kernel_rfl) (fun hc487 => ?_) (fun hc487 => ?_)
     ·skip
      replace h1 := ite_t hc487 h1
      refine gv_pureN 1 [50] [(50, (bp b22))] (by kernel_rfl) ?_
      have lt488 := ltt lt81 lt478
      have hk489 := ((hk370.grown hg475 nb).grown hg464 (rowne (ng lt488))).grown hg470 (rowne (ng lt488))
      refine gv_load (t := 25) (A := ⟨b22, 0, none⟩) (.int .u64 r17.1.1) [] (fun e => by cases e) rfl rfl rfl (by kernel_rfl) (by kernel_rfl) (by kernel_rfl) (inw0 (hk489.cell 0 rfl)) rfl ?_
      refine gv_pureN 3 [52, 53, 54] [(54, (.bool (r17.1.1 == 0)))] (by kernel_rfl) ?_
      refine gv_split (s := 54) (g := (r17.1.1 == 0)) (by kernel_rfl) (fun hc490 => ?_) (fun hc490 => ?_)
      ·skip
       replace h1 := ite_t hc490 h1
       refine gv_pureN 5 [55, 56, 57, 58, 59] [(59, (.bool (r46.1 == r467.1)))] (by kernel_rfl) ?_
       refine gv_split (s := 59) (g := (r46.1 == r467.1)) (by kernel_rfl) (fun hc491 => ?_) (fun hc491 => ?_)
       ·skip
        replace h1 := ite_t hc491 h1
        have lt492 := ltt lt72 lt478
        have hk493 := ((hk372.grown hg475 nb).grown hg464 (rowne (ng lt492))).grown hg470 (rowne (ng lt492))
        refine gv_loadBox (t := 27) (b := b51) (t' := 27) (fr := (0, 0)) #[(.int .u64 r46.2.1.1), (.int .u64 r46.2.1.2)] [] (fun e => by cases e) rfl rfl rfl (by kernel_rfl) (by kernel_rfl) (by kernel_rfl) (by kernel_rfl) (inw0 hk493) rfl ?_
        refine gv_pureN 1 [61] [(61, (bp b457))] (by kernel_rfl) ?_
        refine gv_sub [1, 6, 7, 59, 60, 61] (σ' := [(1, (bp b22)), (6, (bp (bf365 0))), (7, (bp (bf365 1))), (59, (.bool true)), (60, (.agg #[(.int .u64 r46.2.1.1), (.int .u64 r46.2.1.2)])), (61, (bp b457))]) (by kernel_rfl) ?_
        refine gv_loadBox (t := 27) (b := b457) (t' := 40) (fr := (0, 0)) #[(.int .u64 r467.2.1), (.int .u64 r467.2.2)] [] (fun e => by cases e) rfl rfl rfl (by kernel_rfl) (by kernel_rfl) (by kernel_rfl) (by kernel_rfl) (inw0 hb472) rfl ?_
        refine gv_eqs (t := 27) (op := .eql) (x := (.tmp 60)) (y := (.tmp 62)) (xs := #[(.int .u64 r46.2.1.1), (.int .u64 r46.2.1.2)]) (ys := #[(.int .u64 r467.2.1), (.int .u64 r467.2.2)]) ((r46.2.1.1 == r467.2.1) && (r46.2.1.2 == r467.2.2)) [] (fun e => by cases e) rfl rfl rfl (by kernel_rfl) (by kernel_rfl) (fun w' => eqs27eql r46.2.1.1 r46.2.1.2 r467.2.1 r467.2.2 _ _ w') rfl ?_
        refine gv_pureN 2 [64, 65] [(65, (.bool ((r46.2.1.1 == r467.2.1) && (r46.2.1.2 == r467.2.2))))] (by kernel_rfl) ?_
        refine gv_split (s := 65) (g := ((r46.2.1.1 == r467.2.1) && (r46.2.1.2 == r467.2.2))) (by kernel_rfl) (fun hc494 => ?_) (fun hc494 => ?_)
        ·skip
         replace h1 := ite_t hc494 h1
         have hk495 := hb386.grown hg476 nb
         have lt496 := ltl ((ltb hk495) _ rfl) ((lowb hbe461) _ rfl)
         have hk497 := ((hb386.grown hg475 nb).grown hg464 (rowne (ng lt496))).grown hg470 (rowne (ng lt496))
         refine gv_loadBox (t := 24) (b := (bf365 0)) (t' := 24) (fr := (0, 0)) #[(.bool r178.1.1), (.slice a183 (List.length r178.1.2) c184)] [] (fun e => by cases e) rfl rfl rfl (by kernel_rfl) (by kernel_rfl) (by kernel_rfl) (by kernel_rfl) (inw0 hk497) rfl ?_
         refine bindE h1 ?_; clear h1; intro r498 hr499 h1
         have hk500 := hk374.grown hg476 (fun _ h => h.elim) nb
         have ap501 : ¬ (fun k => blk a183 = some k) b457 := fun hx => nl ((lowb hbe461) _ rfl) ((fun k (hk : blk a183 = some k) => hk500.lt k hk) _ hx)
         have hk502 := ((hk374.grown hg475 (fun _ h => h.elim) nb).grown hg464 (fun _ h => h.elim) (rdnn (rowne ap501))).grown hg470 (fun _ h => h.elim) (rdnn (rowne ap501))
         refine gv_call0 (by kernel_rfl) rfl (by kernel_rfl) enters18 (ref3_NoInt_ok fuel a183 c184 (r178.1.1, r178.1.2) w469 (fun k => (fun k => blk a183 = some k) k) (fun k hk => (fun k (hk : blk a183 = some k) => hk502.lt k hk) k hk) ((hk502.rd (Y := fun k => blk a183 = some k) (fun _ h => h.elim) (fun g e => e)).wide (fun k hk => hk)) r498 hr499) ?_
         rintro v505 w503 ⟨hg504, rfl⟩
         refine gv_pureN 2 [68, 69] [(69, (.bool r498))] (by kernel_rfl) ?_
         refine gv_split (s := 69) (g := r498) (by kernel_rfl) (fun hc506 => ?_) (fun hc506 => ?_)
         ·skip
          replace h1 := ite_t hc506 h1
          have hk507 := hb395.grown hg476 nb
          have lt508 := ltl ((ltb hk507) _ rfl) ((lowb hbe461) _ rfl)
          have hk509 := (((hb395.grown hg475 nb).grown hg464 (rowne (ng lt508))).grown hg470 (rowne (ng lt508))).grown hg504 nb
          refine gv_loadBox (t := 27) (b := (bf365 1)) (t' := 27) (fr := (0, 0)) #[(.int .u64 r178.2.1.1), (.int .u64 r178.2.1.2)] [] (fun e => by cases e) rfl rfl rfl (by kernel_rfl) (by kernel_rfl) (by kernel_rfl) (by kernel_rfl) (inw0 hk509) rfl ?_
          have hk510 := hk489.grown hg504 nb
          refine gv_loadBox (t := 27) (b := b22) (t' := 27) (fr := (0, 0)) #[(.int .u64 r17.1.1), (.int .u64 r17.1.2)] [] (fun e => by cases e) rfl rfl rfl (by kernel_rfl) (by kernel_rfl) (by kernel_rfl) (by kernel_rfl) (inw0 hk510) rfl ?_
          refine gv_eqs (t := 27) (op := .eql) (x := (.tmp 70)) (y := (.tmp 71)) (xs := #[(.int .u64 r178.2.1.1), (.int .u64 r178.2.1.2)]) (ys := #[(.int .u64 r17.1.1), (.int .u64 r17.1.2)]) ((r178.2.1.1 == r17.1.1) && (r178.2.1.2 == r17.1.2)) [] (fun e => by cases e) rfl rfl rfl (by kernel_rfl) (by kernel_rfl) (fun w' => eqs27eql r178.2.1.1 r178.2.1.2 r17.1.1 r17.1.2 _ _ w') rfl ?_
          refine gv_pureN 2 [0, 73] [(0, (.bool ((r178.2.1.1 == r17.1.1) && (r178.2.1.2 == r17.1.2))))] (by kernel_rfl) ?_
          refine bindE h1 ?_; clear h1; intro n511 hn512 h1
          refine gv_name (s := 0) (v := (.bool ((r178.2.1.1 == r17.1.1) && (r178.2.1.2 == r17.1.2)))) (v' := (.bool n511)) (by kernel_rfl) (congrArg (Value.bool) (sj hn512)) ?_
          refine gv_nil ?_
          have e := sj h1; subst e
          refine gv_goal fun a hd hs hok => ?_
          have hB513 := bg hB368 hg475 nb
          have hB514 := bg hB368 hg476 nb
          have hlo515 : w0.heap.size ≤ b457 := lob hbe461 hB514.size
          have hB516 := bg hB513 hg464 (rowlo hlo515)
          have hB517 := bg hB516 hg470 (rowlo hlo515)
          have hB518 := bg hB517 hg504 nb
          have hz519 := hg504.size
          exact ⟨hB518, hz519, hd, hs, ok_pick [0] hok (by kernel_rfl)⟩
         ·skip
          replace h1 := ite_f hc506 h1
          refine gv_pureN 5 [0, 70, 71, 72, 73] [(0, (.bool false))] (by kernel_rfl) ?_
          refine gv_nil ?_
          have e := sj h1; subst e
          refine gv_goal fun a hd hs hok => ?_
          have hB520 := bg hB368 hg475 nb
          have hB521 := bg hB368 hg476 nb
          have hlo522 : w0.heap.size ≤ b457 := lob hbe461 hB521.size
          have hB523 := bg hB520 hg464 (rowlo hlo522)
          have hB524 := bg hB523 hg470 (rowlo hlo522)
          have hB525 := bg hB524 hg504 nb
          have hz526 := hg504.size
          exact ⟨hB525, hz526, hd, hs, ok_pick [0] hok (by kernel_rfl)⟩
        ·skip
         replace h1 := ite_f hc494 h1
         refine gv_pureN 9 [0, 66, 67, 68, 69, 70, 71, 72, 73] [(0, (.bool false))] (by kernel_rfl) ?_
         refine gv_nil ?_
         have e := sj h1; subst e
         refine gv_goal fun a hd hs hok => ?_
         have hB527 := bg hB368 hg475 nb
         have hB528 := bg hB368 hg476 nb
         have hlo529 : w0.heap.size ≤ b457 := lob hbe461 hB528.size
         have hB530 := bg hB527 hg464 (rowlo hlo529)
         have hB531 := bg hB530 hg470 (rowlo hlo529)
         exact ⟨hB531, (Nat.le_refl _), hd, hs, ok_pick [0] hok (by kernel_rfl)⟩
       ·skip
        replace h1 := ite_f hc491 h1
        refine gv_pureN 15 [0, 60, 61, 62, 63, 64, 65, 66, 67, 68, 69, 70, 71, 72, 73] [(0, (.bool false))] (by kernel_rfl) ?_
        refine gv_sub [0] (σ' := [(0, (.bool false))]) (by kernel_rfl) ?_
        refine gv_nil ?_
        have e := sj h1; subst e
        refine gv_goal fun a hd hs hok => ?_
        have hB532 := bg hB368 hg475 nb
        have hB533 := bg hB368 hg476 nb
        have hlo534 : w0.heap.size ≤ b457 := lob hbe461 hB533.size
        have hB535 := bg hB532 hg464 (rowlo hlo534)
        have hB536 := bg hB535 hg470 (rowlo hlo534)
        exact ⟨hB536, (Nat.le_refl _), hd, hs, ok_pick [0] hok (by kernel_rfl)⟩
      ·skip
       replace h1 := ite_f hc490 h1
       refine gv_pureN 20 [0, 55, 56, 57, 58, 59, 60, 61, 62, 63, 64, 65, 66, 67, 68, 69, 70, 71, 72, 73] [(0, (.bool false))] (by kernel_rfl) ?_
       refine gv_nil ?_
       have e := sj h1; subst e
       refine gv_goal fun a hd hs hok => ?_
       have hB537 := bg hB368 hg475 nb
       have hB538 := bg hB368 hg476 nb
       have hlo539 : w0.heap.size ≤ b457 := lob hbe461 hB538.size
       have hB540 := bg hB537 hg464 (rowlo hlo539)
       have hB541 := bg hB540 hg470 (rowlo hlo539)
       exact ⟨hB541, (Nat.le_refl _), hd, hs, ok_pick [0] hok (by kernel_rfl)⟩
     ·skip
      replace h1 := ite_f hc487 h1
      refine gv_pureN 25 [0, 50, 51, 52, 53, 54, 55, 56, 57, 58, 59, 60, 61, 62, 63, 64, 65, 66, 67, 68, 69, 70, 71, 72, 73] [(0, (.bool false))] (by kernel_rfl) ?_
      refine gv_nil ?_
      have e := sj h1; subst e
      refine gv_goal fun a hd hs hok => ?_
      have hB542 := bg hB368 hg475 nb
      have hB543 := bg hB368 hg476 nb
      have hlo544 : w0.heap.size ≤ b457 := lob hbe461 hB543.size
      have hB545 := bg hB542 hg464 (rowlo hlo544)
      have hB546 := bg hB545 hg470 (rowlo hlo544)
      exact ⟨hB546, (Nat.le_refl _), hd, hs, ok_pick [0] hok (by kernel_rfl)⟩
    ·skip
     replace h1 := ite_f hc483 h1
     refine gv_pureN 30 [0, 45, 46, 47, 48, 49, 50, 51, 52, 53, 54, 55, 56, 57, 58, 59, 60, 61, 62, 63, 64, 65, 66, 67, 68, 69, 70, 71, 72, 73] [(0, (.bool false))] (by kernel_rfl) ?_
     refine gv_nil ?_
     have e := sj h1; subst e
     refine gv_goal fun a hd hs hok => ?_
     have hB547 := bg hB368 hg475 nb
     have hB548 := bg hB368 hg476 nb
     have hlo549 : w0.heap.size ≤ b457 := lob hbe461 hB548.size
     have hB550 := bg hB547 hg464 (rowlo hlo549)
     have hB551 := bg hB550 hg470 (rowlo hlo549)
     exact ⟨hB551, (Nat.le_refl _), hd, hs, ok_pick [0] hok (by kernel_rfl)⟩
   ·skip
    replace h1 := ite_f hc481 h1
    refine gv_pureN 35 [0, 40, 41, 42, 43, 44, 45, 46, 47, 48, 49, 50, 51, 52, 53, 54, 55, 56, 57, 58, 59, 60, 61, 62, 63, 64, 65, 66, 67, 68, 69, 70, 71, 72, 73] [(0, (.bool false))] (by kernel_rfl) ?_
    refine gv_nil ?_
    have e := sj h1; subst e
    refine gv_goal fun a hd hs hok => ?_
    have hB552 := bg hB368 hg475 nb
    have hB553 := bg hB368 hg476 nb
    have hlo554 : w0.heap.size ≤ b457 := lob hbe461 hB553.size
    have hB555 := bg hB552 hg464 (rowlo hlo554)
    have hB556 := bg hB555 hg470 (rowlo hlo554)
    exact ⟨hB556, (Nat.le_refl _), hd, hs, ok_pick [0] hok (by kernel_rfl)⟩
  ·rintro a w474 ⟨hB557, hz558, hd, hs, hok⟩
   refine gv_in ?_ hd hs hok
   clear hd hs hok
   clear hz558 hb472 hg470 hr468 hz466 hb465 hg464 hz462 hbe461 hb460 hg459 hg455 hr453 hl451 hl450 ap449 hl448 ho447 hl444 ho443 hg439 hr437 ap414 ap413 ap412 ap411 ap410 ap409 ap408 ap407 hlo406 hb405 ap403 ap402 ap401 ap400 ap399 ap398 ap397 hlo396 hb395 ap393 ap392 ap391 ap390 ap389 ap388 hlo387 hb386 hlo375 hk374 hk373 hk372 hk371 hk370 hB368 lt85 lt81 lt80 lt79 lt72 lt43
   refine gv_cret ?_
   have e := sj h0; subst e
   refine gv_ret (gv_done [(.bool j473)] rfl ⟨(by kernel_rfl), trivial⟩ ?_)
   exact ⟨grown_of_below hB557, rfl⟩

theorem ref3_IntOk_ok (fuel : Nat) (pa0_0 : Option Addr) (pc0_0 : Nat) (a_0 : (Bool × (List Int))) (w0 : World) (X0 : Nat → Prop) (hX0 : ∀ k, X0 k → k < w0.heap.size) (hpa0_0 : Rd (iE .u32) w0 X0 pa0_0 pc0_0 a_0.2) (r0 : Bool) (h0 : ref3_IntOk fuel a_0 = some r0) :
    Calls Try.prog 12 ([(.agg #[(.bool a_0.1), (.slice pa0_0 (List.length a_0.2) pc0_0)])] : List Value).toArray w0 (Ret fun v w' => w0.grownBy w' none ∧ v = tup [(.bool r0)]) := by
 have hB0 : Below w0.heap.size w0 w0 := Below.refl _ _
 unfold ref3_IntOk at h0
 refine calls_run Try.func12 rfl Try.ntmps12 (by kernel_rfl) ?_
 refine gv_sub [0] (σ' := [(0, (.agg #[(.bool a_0.1), (.slice pa0_0 (List.length a_0.2) pc0_0)]))]) (by kernel_rfl) ?_
 refine gv_seq <| gv_region <| gv_new0 (fun b => .pointer (some ⟨b, 0, none⟩)) #[(.bool a_0.1), (.slice pa0_0 (List.length a_0.2) pc0_0)] 24 (by kernel_rfl) (by kernel_rfl) ?_
 intro b1 w2 hg3 hb4 hbe5 hz6
 refine gv_pureN 1 [2] [] (by kernel_rfl) ?_
 refine gv_nil <| gv_seq <| gv_region <| gv_pureN 1 [4] [(4, (.pointer (some ⟨b1, 1, none⟩)))] (by kernel_rfl) ?_
 refine gv_load (t := 22) (A := ⟨b1, 1, none⟩) (.slice pa0_0 (List.length a_0.2) pc0_0) [] (fun e => by cases e) rfl rfl rfl (by kernel_rfl) (by kernel_rfl) (by kernel_rfl) (inw0 (hb4.cell 1 rfl)) rfl ?_
 refine gv_pureN 2 [3, 6] [(3, (.int .i64 ((List.length a_0.2 : Nat) : Int)))] (by kernel_rfl) ?_
 refine gv_nil <| gv_seq <| gv_region <| bindE h0 ?_; clear h0; intro j7 h1 h0
 refine gv_cut_ops (J := fun a w8 => Below w0.heap.size w0 w8 ∧ w2.heap.size ≤ w8.heap.size ∧ a.defers = [] ∧ a.tmps.size = 31 ∧ Ok [(2, (.bool j7))] a.tmps) ?_ ?_
 ·skip
  refine gv_pureN 3 [7, 8, 9] [(9, (.bool (decide (((List.length a_0.2 : Nat) : Int) ≤ 128))))] (by kernel_rfl) ?_
  refine gv_split (s := 9) (g := (decide (((List.length a_0.2 : Nat) : Int) ≤ 128))) (by kernel_rfl) (fun hc9 => ?_) (fun hc9 => ?_)
  ·skip
   replace h1 := ite_t hc9 h1
   refine gv_pureN 3 [10, 11, 12] [(12, (.bool (((List.length a_0.2 : Nat) : Int) == 0)))] (by kernel_rfl) ?_
   refine gv_split (s := 12) (g := (((List.length a_0.2 : Nat) : Int) == 0)) (by kernel_rfl) (fun hc10 => ?_) (fun hc10 => ?_)
   ·skip
    replace h1 := ite_t hc10 h1
    refine gv_pureN 1 [13] [(13, (bp b1))] (by kernel_rfl) ?_
    refine gv_load (t := 4) (A := ⟨b1, 0, none⟩) (.bool a_0.1) [] (fun e => by cases e) rfl rfl rfl (by kernel_rfl) (by kernel_rfl) (by kernel_rfl) (inw0 (hb4.cell 0 rfl)) rfl ?_
    refine gv_pureN 3 [15, 16, 17] [(17, (.bool (!a_0.1)))] (by kernel_rfl) ?_
    refine gv_split (s := 17) (g := (!a_0.1)) (by kernel_rfl) (fun hc11 => ?_) (fun hc11 => ?_)
    ·skip
     replace h1 := ite_t hc11 h1
     refine gv_pureN 14 [2, 18, 19, 20, 21, 22, 23, 24, 25, 26, 27, 28, 29, 30] [(2, (.bool true))] (by kernel_rfl) ?_
     refine gv_nil ?_
     have e := sj h1; subst e
     refine gv_goal fun a hd hs hok => ?_
     have hB12 := bg hB0 hg3 nb
     exact ⟨hB12, (Nat.le_refl _), hd, hs, ok_pick [2] hok (by kernel_rfl)⟩
    ·skip
     replace h1 := ite_f hc11 h1
     refine gv_pureN 3 [18, 19, 20] [(20, (.bool (decide (((List.length a_0.2 : Nat) : Int) > 0))))] (by kernel_rfl) ?_
     refine gv_split (s := 20) (g := (decide (((List.length a_0.2 : Nat) : Int) > 0))) (by kernel_rfl) (fun hc13 => ?_) (fun hc13 => ?_)
     ·skip
      replace h1 := ite_t hc13 h1
      refine gv_pureN 1 [21] [(21, (.pointer (some ⟨b1, 1, none⟩)))] (by kernel_rfl) ?_
      refine gv_load (t := 22) (A := ⟨b1, 1, none⟩) (.slice pa0_0 (List.length a_0.2) pc0_0) [] (fun e => by cases e) rfl rfl rfl (by kernel_rfl) (by kernel_rfl) (by kernel_rfl) (inw0 (hb4.cell 1 rfl)) rfl ?_
      refine gv_pureN 2 [23, 24] [(24, (.int .i64 (IntKind.i64.wrap (((List.length a_0.2 : Nat) : Int) - 1))))] (by kernel_rfl) ?_
      refine gv_sub [9, 17, 20, 22, 24] (σ' := [(9, (.bool true)), (17, (.bool false)), (20, (.bool true)), (22, (.slice pa0_0 (List.length a_0.2) pc0_0)), (24, (.int .i64 (IntKind.i64.wrap (((List.length a_0.2 : Nat) : Int) - 1))))]) (by kernel_rfl) ?_
      refine bindE h1 ?_; clear h1; intro x14 hx15 h1
      have hB16 := bg hB0 hg3 nb
      refine gv_idxaddr (t := 22) (e := 76) (a := pa0_0) (len := List.length a_0.2) (cap := pc0_0) (kk := .i64) (i := (IntKind.i64.wrap (((List.length a_0.2 : Nat) : Int) - 1))) (sz := 1) [] (fun e => by cases e) rfl rfl rfl (by kernel_rfl) (by kernel_rfl) Try.underlying22 (by kernel_rfl) ((hpa0_0.below hB16 hX0).has hx15) (idx_spec hx15).1 (idx_spec hx15).2.1 rfl ?_
      refine gv_load (t := 76) (A := (elemAddr pa0_0 (((IntKind.i64.wrap (((List.length a_0.2 : Nat) : Int) - 1))).toNat * 1))) (.int .u32 x14) [] (fun e => by cases e) rfl rfl rfl (by kernel_rfl) (by kernel_rfl) (by kernel_rfl) (inw0 ((hpa0_0.below hB16 hX0).cell hx15)) rfl ?_
      refine gv_pureN 5 [2, 27, 28, 29, 30] [(2, (.bool (x14 != 0)))] (by kernel_rfl) ?_
      refine gv_nil ?_
      have e := sj h1; subst e
      refine gv_goal fun a hd hs hok => ?_
      exact ⟨hB16, (Nat.le_refl _), hd, hs, ok_pick [2] hok (by kernel_rfl)⟩
     ·skip
      replace h1 := ite_f hc13 h1
      refine gv_pureN 11 [2, 21, 22, 23, 24, 25, 26, 27, 28, 29, 30] [(2, (.bool false))] (by kernel_rfl) ?_
      refine gv_nil ?_
      have e := sj h1; subst e
      refine gv_goal fun a hd hs hok => ?_
      have hB17 := bg hB0 hg3 nb
      exact ⟨hB17, (Nat.le_refl _), hd, hs, ok_pick [2] hok (by kernel_rfl)⟩
   ·skip
    replace h1 := ite_f hc10 h1
    refine gv_pureN 8 [13, 14, 15, 16, 17, 18, 19, 20] [(17, (.bool false)), (20, (.bool (decide (((List.length a_0.2 : Nat) : Int) > 0))))] (by kernel_rfl) ?_
    refine gv_split (s := 20) (g := (decide (((List.length a_0.2 : Nat) : Int) > 0))) (by kernel_rfl) (fun hc18 => ?_) (fun hc18 => ?_)
    ·skip
     replace h1 := ite_t hc18 h1
     refine gv_pureN 1 [21] [(21, (.pointer (some ⟨b1, 1, none⟩)))] (by kernel_rfl) ?_
     refine gv_load (t := 22) (A := ⟨b1, 1, none⟩) (.slice pa0_0 (List.length a_0.2) pc0_0) [] (fun e => by cases e) rfl rfl rfl (by kernel_rfl) (by kernel_rfl) (by kernel_rfl) (inw0 (hb4.cell 1 rfl)) rfl ?_
     refine gv_pureN 2 [23, 24] [(24, (.int .i64 (IntKind.i64.wrap (((List.length a_0.2 : Nat) : Int) - 1))))] (by kernel_rfl) ?_
     refine bindE h1 ?_; clear h1; intro x19 hx20 h1
     have hB21 := bg hB0 hg3 nb
     refine gv_idxaddr (t := 22) (e := 76) (a := pa0_0) (len := List.length a_0.2) (cap := pc0_0) (kk := .i64) (i := (IntKind.i64.wrap (((List.length a_0.2 : Nat) : Int) - 1))) (sz := 1) [] (fun e => by cases e) rfl rfl rfl (by kernel_rfl) (by kernel_rfl) Try.underlying22 (by kernel_rfl) ((hpa0_0.below hB21 hX0).has hx20) (idx_spec hx20).1 (idx_spec hx20).2.1 rfl ?_
     refine gv_load (t := 76) (A := (elemAddr pa0_0 (((IntKind.i64.wrap (((List.length a_0.2 : Nat) : Int) - 1))).toNat * 1))) (.int .u32 x19) [] (fun e => by cases e) rfl rfl rfl (by kernel_rfl) (by kernel_rfl) (by kernel_rfl) (inw0 ((hpa0_0.below hB21 hX0).cell hx20)) rfl ?_
     refine gv_pureN 5 [2, 27, 28, 29, 30] [(2, (.bool (x19 != 0)))] (by kernel_rfl) ?_
     refine gv_sub [2] (σ' := [(2, (.bool (x19 != 0)))]) (by kernel_rfl) ?_
     refine gv_nil ?_
     have e := sj h1; subst e
     refine gv_goal fun a hd hs hok => ?_
     exact ⟨hB21, (Nat.le_refl _), hd, hs, ok_pick [2] hok (by kernel_rfl)⟩
    ·skip
     replace h1 := ite_f hc18 h1
     refine gv_pureN 11 [2, 21, 22, 23, 24, 25, 26, 27, 28, 29, 30] [(2, (.bool false))] (by kernel_rfl) ?_
     refine gv_nil ?_
     have e := sj h1; subst e
     refine gv_goal fun a hd hs hok => ?_
     have hB22 := bg hB0 hg3 nb
     exact ⟨hB22, (Nat.le_refl _), hd, hs, ok_pick [2] hok (by kernel_rfl)⟩
  ·skip
   replace h1 := ite_f hc9 h1
   refine gv_pureN 22 [2, 10, 11, 12, 13, 14, 15, 16, 17, 18, 19, 20, 21, 22, 23, 24, 25, 26, 27, 28, 29, 30] [(2, (.bool false))] (by kernel_rfl) ?_
   refine gv_nil ?_
   have e := sj h1; subst e
   refine gv_goal fun a hd hs hok => ?_
   have hB23 := bg hB0 hg3 nb
   exact ⟨hB23, (Nat.le_refl _), hd, hs, ok_pick [2] hok (by kernel_rfl)⟩
 ·rintro a w8 ⟨hB24, hz25, hd, hs, hok⟩
  refine gv_in ?_ hd hs hok
  clear hd hs hok
  clear hz25 hz6 hbe5 hb4 hg3
  refine gv_cret ?_
  have e := sj h0; subst e
  refine gv_ret (gv_done [(.bool j7)] rfl ⟨(by kernel_rfl), trivial⟩ ?_)
  exact ⟨grown_of_below hB24, rfl⟩

theorem ref4_At_ok (fuel : Nat) (code_0 : Int) (index_1 : Int) (w0 : World)  (r0 : (Int × Int)) (h0 : ref4_At fuel code_0 index_1 = some r0) :
    Calls Try.prog 13 ([(.int .i64 code_0), (.int .i64 index_1)] : List Value).toArray w0 (Ret fun v w' => w0.grownBy w' none ∧ v = tup [(.agg #[(.int .i64 r0.1), (.int .i64 r0.2)])]) := by
 have hB0 : Below w0.heap.size w0 w0 := Below.refl _ _
 unfold ref4_At at h0
 refine calls_run Try.func13 rfl Try.ntmps13 (by kernel_rfl) ?_
 refine gv_sub [0, 1] (σ' := [(0, (.int .i64 code_0)), (1, (.int .i64 index_1))]) (by kernel_rfl) ?_
 refine gv_seq <| gv_region <| gv_new0 (fun b => .pointer (some ⟨b, 0, none⟩)) #[(.int .i64 0), (.int .i64 0)] 29 (by kernel_rfl) (by kernel_rfl) ?_
 intro b1 w2 hg3 hb4 hbe5 hz6
 refine gv_nil <| gv_seq <| gv_region <| gv_pureN 3 [5, 6, 7] [(7, (.agg #[(.int .i64 code_0), (.int .i64 index_1)]))] (by kernel_rfl) ?_
 refine gv_store0 29 0 (.agg #[(.int .i64 code_0), (.int .i64 index_1)]) #[(.int .i64 code_0), (.int .i64 index_1)] hb4 (by kernel_rfl) (by kernel_rfl) (by kernel_rfl) ?_
 intro w7 hg8 hb9 hz10
 refine gv_nil <| gv_cret ?_
 have e := sj h0; subst e
 refine gv_ret (gv_done [(.agg #[(.int .i64 code_0), (.int .i64 index_1)])] rfl ⟨⟨⟨b1, 0, none⟩, (by kernel_rfl), run_loadVar_row w7 b1 _ 29 _ _ _ hb9 Try.underlying29 rfl (by kernel_rfl)⟩, trivial⟩ ?_)
 have hB11 := bg hB0 hg3 nb
 have hlo12 : w0.heap.size ≤ b1 := lob hbe5 hB0.size
 have hB13 := bg hB11 hg8 (rowlo hlo12)
 exact ⟨grown_of_below hB13, rfl⟩

theorem integer_Add_ok (fuel : Nat) (pa0_0 : Option Addr) (pc0_0 : Nat) (a_0 : (Bool × (List Int))) (pa1_0 : Option Addr) (pc1_0 : Nat) (b_1 : (Bool × (List Int))) (w0 : World) (X0 : Nat → Prop) (hX0 : ∀ k, X0 k → k < w0.heap.size) (hpa0_0 : Rd (iE .u32) w0 X0 pa0_0 pc0_0 a_0.2) (hpa1_0 : Rd (iE .u32) w0 X0 pa1_0 pc1_0 b_1.2) (r0 : ((Bool × (List Int)) × (Int × Int))) (h0 : integer_Add fuel a_0 b_1 = some r0) :
    Calls Try.prog 46 ([(.agg #[(.bool a_0.1), (.slice pa0_0 (List.length a_0.2) pc0_0)]), (.agg #[(.bool b_1.1), (.slice pa1_0 (List.length b_1.2) pc1_0)])] : List Value).toArray w0 (Ret fun v w' => w0.grownBy w' none ∧ ∃ (a0_0r : Option Addr) (c0_0r : Nat), ∃ (X0_0r : Nat → Prop), v = tup [(.agg #[(.bool r0.1.1), (.slice a0_0r (List.length r0.1.2) c0_0r)]), (.agg #[(.int .i64 r0.2.1), (.int .i64 r0.2.2)])] ∧ Rd (iE .u32) w' X0_0r a0_0r c0_0r r0.1.2 ∧ (∀ k, X0_0r k → k < w'.heap.size ∧ (X0 k ∨ w0.heap.size ≤ k))) := by
 have hB0 : Below w0.heap.size w0 w0 := Below.refl _ _
 unfold integer_Add at h0
 refine calls_run Try.func46 rfl Try.ntmps46 (by kernel_rfl) ?_
 refine gv_sub [0, 1] (σ' := [(0, (.agg #[(.bool a_0.1), (.slice pa0_0 (List.length a_0.2) pc0_0)])), (1, (.agg #[(.bool b_1.1), (.slice pa1_0 (List.length b_1.2) pc1_0)]))]) (by kernel_rfl) ?_
 refine gv_seq <| gv_region <| gv_new0 (fun b => .pointer (some ⟨b, 0, none⟩)) #[(.bool a_0.1), (.slice pa0_0 (List.length a_0.2) pc0_0)] 24 (by kernel_rfl) (by kernel_rfl) ?_
 intro b1 w2 hg3 hb4 hbe5 hz6
 refine gv_new0 (fun b => .pointer (some ⟨b, 0, none⟩)) #[(.bool b_1.1), (.slice pa1_0 (List.length b_1.2) pc1_0)] 24 (by kernel_rfl) (by kernel_rfl) ?_
 intro b7 w8 hg9 hb10 hbe11 hz12
 refine gv_new0 (fun b => .pointer (some ⟨b, 0, none⟩)) #[(.bool false), (.slice none (List.length ([] : List Int)) 0)] 24 (by kernel_rfl) (by kernel_rfl) ?_
 intro b13 w14 hg15 hb16 hbe17 hz18
 refine gv_new0 (fun b => .pointer (some ⟨b, 0, none⟩)) #[(.int .i64 0), (.int .i64 0)] 29 (by kernel_rfl) (by kernel_rfl) ?_
 intro b19 w20 hg21 hb22 hbe23 hz24
 refine gv_nil <| gv_seq <| gv_seq <| gv_region ?_
 have hg25 := (grown_trans (grown_trans hg9 hg15) hg21)
 have hk26 := hb4.grown hg25 nb
 refine gv_loadBox (t := 24) (b := b1) (t' := 24) (fr := (0, 0)) #[(.bool a_0.1), (.slice pa0_0 (List.length a_0.2) pc0_0)] [] (fun e => by cases e) rfl rfl rfl (by kernel_rfl) (by kernel_rfl) (by kernel_rfl) (by kernel_rfl) (inw0 hk26) rfl ?_
 have hg27 := (grown_trans hg15 hg21)
 have hk28 := hb10.grown hg27 nb
 refine gv_loadBox (t := 24) (b := b7) (t' := 24) (fr := (0, 0)) #[(.bool b_1.1), (.slice pa1_0 (List.length b_1.2) pc1_0)] [] (fun e => by cases e) rfl rfl rfl (by kernel_rfl) (by kernel_rfl) (by kernel_rfl) (by kernel_rfl) (inw0 hk28) rfl ?_
 refine gv_new0 (fun b => .slice (some ⟨b, 0, none⟩) 2 2) #[(.bool a_0.1), (.slice pa0_0 (List.length a_0.2) pc0_0), (.bool b_1.1), (.slice pa1_0 (List.length b_1.2) pc1_0)] 24 (by kernel_rfl) (by kernel_rfl) ?_
 intro b29 w30 hg31 hb32 hbe33 hz34
 obtain ⟨X40, e⟩ : ∃ X : Nat → Prop, X = (fun k => X0 k) := ⟨_, rfl⟩
 have hg41 := (grown_trans hg3 hg25)
 have hB42 := bg hB0 hg41 nb
 have hx38 : ∀ k, X40 k → k < w20.heap.size := fun k h => by rw [e] at h; exact (fun k (hk : X0 k) => ltl (hX0 k hk) hB42.size) k h
 have hz43 := hg31.size
 have hx37 : ∀ k, X40 k → k < w30.heap.size := fun k h => ltl (hx38 k h) hz43
 have hx39 : ∀ k, X40 k → X0 k ∨ w0.heap.size ≤ k := fun k h => by rw [e] at h; exact (fun k (hk : X0 k) => Or.inl hk) k h
 have hB44 := bg hB42 hg31 nb
 have ho35 : Own (prE tE (slE (iE .u32))) 24 w30 X40 (some ⟨b29, 0, none⟩) 2 ([(a_0.1, a_0.2), (b_1.1, b_1.2)] : List (Bool × (List Int))) := Box.ownE hb32 (by rw [e]; exact ⟨[(.bool a_0.1), (.slice pa0_0 (List.length a_0.2) pc0_0)], [(.bool b_1.1), (.slice pa1_0 (List.length b_1.2) pc1_0)], rfl, ⟨[(.bool a_0.1)], [(.slice pa0_0 (List.length a_0.2) pc0_0)], rfl, rfl, ⟨pa0_0, pc0_0, rfl, ((hpa0_0.below hB44 hX0).wide (fun _ h => h))⟩⟩, ⟨[(.bool b_1.1), (.slice pa1_0 (List.length b_1.2) pc1_0)], [], rfl, ⟨[(.bool b_1.1)], [(.slice pa1_0 (List.length b_1.2) pc1_0)], rfl, rfl, ⟨pa1_0, pc1_0, rfl, ((hpa1_0.below hB44 hX0).wide (fun _ h => h))⟩⟩, rfl⟩⟩) (show 2 ≤ maxLen by decide) (fun h => noteq hbe33 (hx38 _ h))
 have hx45 : ∀ k, X40 k → (fun k => X0 k) k := fun k h => by rw [e] at h; exact h
 clear e
 have hl36 : ∀ g, blk (some ⟨b29, 0, none⟩) = some g → w0.heap.size ≤ g := loo hbe33 hB42.size
 have ap46 : ∀ g, blk (some ⟨b29, 0, none⟩) = some g → ¬ (· = b1) g := fun g e hx => nl (lowo hbe33 g e) ((ltb hk26) _ hx)
 have hlo48 : w0.heap.size ≤ b1 := lob hbe5 hB0.size
 have ap47 : ¬ (fun k => blk (some ⟨b29, 0, none⟩) = some k ∨ X40 k) b1 := fun h => h.elim (fun h => nl (lowo hbe33 _ h) ((ltb hk26) _ rfl)) (fun h => ((fun (hx : X0 b1) => nl hlo48 (hX0 _ hx)))  (hx45 _ h))
 have ap49 : ∀ g, blk (some ⟨b29, 0, none⟩) = some g → ¬ (· = b7) g := fun g e hx => nl (lowo hbe33 g e) ((ltb hk28) _ hx)
 have hB51 := bg hB0 hg3 nb
 have hlo52 : w0.heap.size ≤ b7 := lob hbe11 hB51.size
 have ap50 : ¬ (fun k => blk (some ⟨b29, 0, none⟩) = some k ∨ X40 k) b7 := fun h => h.elim (fun h => nl (lowo hbe33 _ h) ((ltb hk28) _ rfl)) (fun h => ((fun (hx : X0 b7) => nl hlo52 (hX0 _ hx)))  (hx45 _ h))
 have hk54 := hb16.grown hg21 nb
 have ap53 : ∀ g, blk (some ⟨b29, 0, none⟩) = some g → ¬ (· = b13) g := fun g e hx => nl (lowo hbe33 g e) ((ltb hk54) _ hx)
 have hB56 := bg hB51 hg9 nb
 have hlo57 : w0.heap.size ≤ b13 := lob hbe17 hB56.size
 have ap55 : ¬ (fun k => blk (some ⟨b29, 0, none⟩) = some k ∨ X40 k) b13 := fun h => h.elim (fun h => nl (lowo hbe33 _ h) ((ltb hk54) _ rfl)) (fun h => ((fun (hx : X0 b13) => nl hlo57 (hX0 _ hx)))  (hx45 _ h))
 have ap58 : ∀ g, blk (some ⟨b29, 0, none⟩) = some g → ¬ (· = b19) g := fun g e hx => nl (lowo hbe33 g e) ((ltb hb22) _ hx)
 have hB60 := bg hB56 hg15 nb
 have hlo61 : w0.heap.size ≤ b19 := lob hbe23 hB60.size
 have ap59 : ¬ (fun k => blk (some ⟨b29, 0, none⟩) = some k ∨ X40 k) b19 := fun h => h.elim (fun h => nl (lowo hbe33 _ h) ((ltb hb22) _ rfl)) (fun h => ((fun (hx : X0 b19) => nl hlo61 (hX0 _ hx)))  (hx45 _ h))
 refine bindE h0 ?_; clear h0; intro r62 hr63 h0
 refine gv_call0 (by kernel_rfl) rfl (by kernel_rfl) enters62 (integer_check_ok fuel (some ⟨b29, 0, none⟩) 2 ([(a_0.1, a_0.2), (b_1.1, b_1.2)] : List (Bool × (List Int))) w30 (fun k => (fun k => blk (some ⟨b29, 0, none⟩) = some k ∨ X40 k) k) (fun k hk => (fun k (hk : blk (some ⟨b29, 0, none⟩) = some k ∨ X40 k) => hk.elim (fun h => ho35.lt k h) (fun h => hx37 k h)) k hk) ((ho35.rd (Y := fun k => blk (some ⟨b29, 0, none⟩) = some k ∨ X40 k) (fun _ h => .inr h) (fun g e => .inl e)).wide (fun k hk => hk)) r62 hr63) ?_
 rintro v66 w64 ⟨hg65, rfl⟩
 refine gv_new0 (fun b => .pointer (some ⟨b, 0, none⟩)) #[(.int .i64 0), (.int .i64 0)] 29 (by kernel_rfl) (by kernel_rfl) ?_
 intro b67 w68 hg69 hb70 hbe71 hz72
 refine gv_store0 29 0 (.agg #[(.int .i64 r62.1), (.int .i64 r62.2)]) #[(.int .i64 r62.1), (.int .i64 r62.2)] hb70 (by kernel_rfl) (by kernel_rfl) (by kernel_rfl) ?_
 intro w73 hg74 hb75 hz76
 clear hz76 hz72 hb70 hr63 ap59 hB60 ap58 ap55 hB56 ap53 ap50 hB51 ap49 ap47 ap46 hl36 hx45 ho35 hx39 hx37 hz43 hx38 hB42 hg41 hz34 hbe33 hb32 hg27 hg25 hz24 hg21 hz18 hg15 hz12 hg9 hz6 hbe5 hg3
 refine gv_nil <| gv_seq <| gv_region <| gv_pureN 1 [11] [(11, (bp b67))] (by kernel_rfl) ?_
 refine gv_load (t := 3) (A := ⟨b67, 0, none⟩) (.int .i64 r62.1) [] (fun e => by cases e) rfl rfl rfl (by kernel_rfl) (by kernel_rfl) (by kernel_rfl) (inw0 (hb75.cell 0 rfl)) rfl ?_
 refine gv_pureN 1 [13] [(13, (.bool (r62.1 != 0)))] (by kernel_rfl) ?_
 refine gv_nil <| gv_cond (b := (r62.1 != 0)) (by kernel_rfl) (fun hc77 => ?_) (fun hc77 => ?_)
 ·replace h0 := ite_t hc77 h0
  refine gv_seq <| gv_drawA (by kernel_rfl) ?_
  intro w78 hg79
  refine gv_pre [0] (bA 4 [0]) 3 (by kernel_rfl) (by kernel_rfl) ?_
  refine gv_pureN 1 [14] [(14, (.agg #[(.bool false), (.slice none (List.length ([] : List Int)) 0)]))] (by kernel_rfl) ?_
  refine gv_sub [4, 5, 6, 14] (σ' := [(4, (bp b13)), (5, (bp b19)), (6, (bp b67)), (14, (.agg #[(.bool false), (.slice none (List.length ([] : List Int)) 0)]))]) (by kernel_rfl) ?_
  refine gv_nil <| gv_goA ?_
  refine gv_stage (Cls w78 [b13]) [0, 1, 2] [(1, some true), (2, some false)] (bA 4 [0, 1, 2]) 1 (by kernel_rfl) (by kernel_rfl) (Cls.refl _ _) ?_
  have hC80 := Cls.refl w78 [b13]
  have hk81 := hb75.grown hg79 nb
  have lt82 := ltl ((ltb hb16) _ rfl) ((lowb hbe23) _ rfl)
  have hg83 := (grown_trans hg31 hg65)
  have hk84 := hb22.grown hg83 nb
  have lt85 := ltl ((ltb hk84) _ rfl) ((lowb hbe71) _ rfl)
  have lt86 := ltt lt82 lt85
  refine gv_loadBox (t := 29) (b := b67) (t' := 29) (fr := (0, 0)) #[(.int .i64 r62.1), (.int .i64 r62.2)] [] (fun e => by cases e) rfl rfl rfl (by kernel_rfl) (by kernel_rfl) (by kernel_rfl) (by kernel_rfl) (inw1 fun w' hC' => (hC'.box hk81 (nm_cons (ng lt86) nm_nil))) rfl ?_
  have hg91 := (grown_trans hg83 hg69)
  have hk92 := ((hk54.grown hg91 nb).grown hg74 (rowne (ng lt86))).grown hg79 nb
  refine gv_store (t := 24) (b := b13) (off := 0) (v := (.agg #[(.bool false), (.slice none (List.length ([] : List Int)) 0)])) (t' := 24) (cs := #[(.bool false), (.slice none (List.length ([] : List Int)) 0)]) #[(.bool false), (.slice none (List.length ([] : List Int)) 0)] (by decide) rfl rfl (by kernel_rfl) (by kernel_rfl) (by kernel_rfl) (by intro u hu; simp [Value.cells] at hu; rcases hu with rfl | rfl <;> rfl) (show 0 + 2 ≤ 2 by decide) (by rfl) hk92 ?_
  intro w87 hg88 hb89 hz90
  refine ⟨(fun _ => hC80.grown hg88 (rowm (List.Mem.head _))), ?_⟩
  refine gv_nil <| gv_goA ?_
  refine gv_stage (fun _ => True) [0, 1, 2, 3] [(3, some false)] (bA 4 [0, 1, 2, 3]) 0 (by kernel_rfl) (by kernel_rfl) trivial ?_
  have hk97 := (((hk84.grown hg69 nb).grown hg74 (rowne (ng lt85))).grown hg79 nb).grown hg88 (rowne (Nat.ne_of_lt lt82))
  refine gv_store (t := 29) (b := b19) (off := 0) (v := (.agg #[(.int .i64 r62.1), (.int .i64 r62.2)])) (t' := 29) (cs := #[(.int .i64 0), (.int .i64 0)]) #[(.int .i64 r62.1), (.int .i64 r62.2)] (by decide) rfl rfl (by kernel_rfl) (by kernel_rfl) (by kernel_rfl) (by intro u hu; simp [Value.cells] at hu; rcases hu with rfl | rfl <;> rfl) (show 0 + 2 ≤ 2 by decide) (by rfl) hk97 ?_
  intro w93 hg94 hb95 hz96
  refine ⟨(fun _ => trivial), ?_⟩
  refine gv_nil <| gv_goA ?_
  refine gv_stageE (by kernel_rfl) ?_
  refine gv_cret ?_
  have e := sj h0; subst e
  have hk98 := hb89.grown hg94 (rowne (ng lt82))
  refine gv_ret (gv_done [(.agg #[(.bool false), (.slice none (List.length ([] : List Int)) 0)]), (.agg #[(.int .i64 r62.1), (.int .i64 r62.2)])] rfl ⟨⟨⟨b13, 0, none⟩, (by kernel_rfl), run_loadVar_row w93 b13 _ 24 _ _ _ hk98 Try.underlying24 rfl (by kernel_rfl)⟩, ⟨⟨b19, 0, none⟩, (by kernel_rfl), run_loadVar_row w93 b19 _ 29 _ _ _ hb95 Try.underlying29 rfl (by kernel_rfl)⟩, trivial⟩ ?_)
  have hg99 := (grown_trans hg65 hg69)
  have hB100 := bg hB44 hg99 nb
  have hB101 := bg hB44 hg65 nb
  have hlo102 : w0.heap.size ≤ b67 := lob hbe71 hB101.size
  have hB103 := bg hB100 hg74 (rowlo hlo102)
  have hB104 := bg hB103 hg79 nb
  have hB105 := bg hB104 hg88 (rowlo hlo57)
  have hB106 := bg hB105 hg94 (rowlo hlo61)
  exact ⟨grown_of_below hB106, none, 0, (fun _ => False), rfl, (Rd.nil (iE .u32) w93 (fun _ => False) none 0), (fun k hk => ⟨(fun _ h => h.elim) k hk, (fun _ h => h.elim) k hk⟩)⟩
 ·replace h0 := ite_f hc77 h0
  refine gv_skip <| gv_seq <| gv_region ?_
  have hg107 := (grown_trans (grown_trans hg31 hg65) hg69)
  have lt108 := ltl ((ltb hb4) _ rfl) ((lowb hbe11) _ rfl)
  have lt109 := ltl ((ltb hb10) _ rfl) ((lowb hbe17) _ rfl)
  have lt110 := ltt lt108 lt109
  have lt111 := ltl ((ltb hb16) _ rfl) ((lowb hbe23) _ rfl)
  have lt112 := ltt lt110 lt111
  have hg113 := (grown_trans hg31 hg65)
  have hk114 := hb22.grown hg113 nb
  have lt115 := ltl ((ltb hk114) _ rfl) ((lowb hbe71) _ rfl)
  have lt116 := ltt lt112 lt115
  have hk117 := (hk26.grown hg107 nb).grown hg74 (rowne (ng lt116))
  refine gv_loadBox (t := 24) (b := b1) (t' := 24) (fr := (0, 0)) #[(.bool a_0.1), (.slice pa0_0 (List.length a_0.2) pc0_0)] [] (fun e => by cases e) rfl rfl rfl (by kernel_rfl) (by kernel_rfl) (by kernel_rfl) (by kernel_rfl) (inw0 hk117) rfl ?_
  refine gv_sub [3, 4, 5, 16] (σ' := [(3, (bp b7)), (4, (bp b13)), (5, (bp b19)), (16, (.agg #[(.bool a_0.1), (.slice pa0_0 (List.length a_0.2) pc0_0)]))]) (by kernel_rfl) ?_
  have lt118 := ltt lt109 lt111
  have lt119 := ltt lt118 lt115
  have hk120 := (hk28.grown hg107 nb).grown hg74 (rowne (ng lt119))
  refine gv_loadBox (t := 24) (b := b7) (t' := 24) (fr := (0, 0)) #[(.bool b_1.1), (.slice pa1_0 (List.length b_1.2) pc1_0)] [] (fun e => by cases e) rfl rfl rfl (by kernel_rfl) (by kernel_rfl) (by kernel_rfl) (by kernel_rfl) (inw0 hk120) rfl ?_
  refine bindE h0 ?_; clear h0; intro r121 hr122 h0
  have hg123 := (grown_trans hg65 hg69)
  have hB124 := bg hB44 hg123 nb
  have hB125 := bg hB44 hg65 nb
  have hlo126 : w0.heap.size ≤ b67 := lob hbe71 hB125.size
  have hB127 := bg hB124 hg74 (rowlo hlo126)
  refine gv_call0 (by kernel_rfl) rfl (by kernel_rfl) enters64 (integer_plus_ok fuel pa0_0 pc0_0 (a_0.1, a_0.2) pa1_0 pc1_0 (b_1.1, b_1.2) w73 (fun k => X0 k ∨ X0 k) (fun k hk => (hk).elim (fun h => (fun k (hk : X0 k) => ltl (hX0 k hk) hB127.size) k h) (fun h => (fun k (hk : X0 k) => ltl (hX0 k hk) hB127.size) k h)) ((hpa0_0.below hB127 hX0).wide (fun k hk => (.inl hk))) ((hpa1_0.below hB127 hX0).wide (fun k hk => (.inr hk))) r121 hr122) ?_
  rintro v130 w128 ⟨hg129, a131, c132, X134, rfl, ho133, hx135⟩
  have hx136 : ∀ k, X134 k → k < w128.heap.size := fun k hk => (hx135 k hk).1
  have hx137 : ∀ k, X134 k → X0 k ∨ w0.heap.size ≤ k := fun k hk => (hx135 k hk).2.elim (fun h => (h).elim (fun h => (fun k (hk : X0 k) => Or.inl hk) k h) (fun h => (fun k (hk : X0 k) => Or.inl hk) k h)) (fun h => .inr (Nat.le_trans hB127.size h))
  refine gv_pureN 2 [19, 20] [(19, (.agg #[(.bool r121.1.1), (.slice a131 (List.length r121.1.2) c132)])), (20, (.agg #[(.int .i64 r121.2.1), (.int .i64 r121.2.2)]))] (by kernel_rfl) ?_
  have lt142 := ltt lt111 lt115
  have hk143 := ((hk54.grown hg107 nb).grown hg74 (rowne (ng lt142))).grown hg129 nb
  refine gv_store0 24 0 (.agg #[(.bool r121.1.1), (.slice a131 (List.length r121.1.2) c132)]) #[(.bool r121.1.1), (.slice a131 (List.length r121.1.2) c132)] hk143 (by kernel_rfl) (by kernel_rfl) (by kernel_rfl) ?_
  intro w138 hg139 hb140 hz141
  have hk148 := (((hk114.grown hg69 nb).grown hg74 (rowne (ng lt115))).grown hg129 nb).grown hg139 (rowne (Nat.ne_of_lt lt111))
  refine gv_store0 29 0 (.agg #[(.int .i64 r121.2.1), (.int .i64 r121.2.2)]) #[(.int .i64 r121.2.1), (.int .i64 r121.2.2)] hk148 (by kernel_rfl) (by kernel_rfl) (by kernel_rfl) ?_
  intro w144 hg145 hb146 hz147
  refine gv_nil <| gv_cret ?_
  have e := sj h0; subst e
  have hk149 := hb140.grown hg145 (rowne (ng lt111))
  refine gv_ret (gv_done [(.agg #[(.bool r121.1.1), (.slice a131 (List.length r121.1.2) c132)]), (.agg #[(.int .i64 r121.2.1), (.int .i64 r121.2.2)])] rfl ⟨⟨⟨b13, 0, none⟩, (by kernel_rfl), run_loadVar_row w144 b13 _ 24 _ _ _ hk149 Try.underlying24 rfl (by kernel_rfl)⟩, ⟨⟨b19, 0, none⟩, (by kernel_rfl), run_loadVar_row w144 b19 _ 29 _ _ _ hb146 Try.underlying29 rfl (by kernel_rfl)⟩, trivial⟩ ?_)
  have hB150 := bg hB127 hg129 nb
  have hB151 := bg hB150 hg139 (rowlo hlo57)
  have hB152 := bg hB151 hg145 (rowlo hlo61)
  have hk153 := (hk54.grown hg107 nb).grown hg74 (rowne (ng lt142))
  have ap154 : ¬ X134 b13 := fun h => ((hx135 _ h).2.elim (fun h => (h).elim (fun h => ((fun (hx : X0 b13) => nl hlo57 (hX0 _ hx)))  h) (fun h => ((fun (hx : X0 b13) => nl hlo57 (hX0 _ hx)))  h)) (fun h => nl h (hk153.lt)))
  have hk155 := (hk114.grown hg69 nb).grown hg74 (rowne (ng lt115))
  have ap156 : ¬ X134 b19 := fun h => ((hx135 _ h).2.elim (fun h => (h).elim (fun h => ((fun (hx : X0 b19) => nl hlo61 (hX0 _ hx)))  h) (fun h => ((fun (hx : X0 b19) => nl hlo61 (hX0 _ hx)))  h)) (fun h => nl h (hk155.lt)))
  have hx157 := ltx hx136 hg139.size
  have hk158 := (ho133.grown hg139 hx136 (rowne ap154)).grown hg145 hx157 (rowne ap156)
  have hx159 := ltx hx157 hg145.size
  exact ⟨grown_of_below hB152, a131, c132, X134, rfl, hk158, (fun k hk => ⟨hx159 k hk, hx137 k hk⟩)⟩

end Go.Proofs.Ytenjigdaaeiklaa
