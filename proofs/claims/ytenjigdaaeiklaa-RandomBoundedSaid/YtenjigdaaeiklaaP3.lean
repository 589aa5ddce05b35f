import Derived.Test.YtenjigdaaeiklaaP2
set_option linter.all false
set_option maxHeartbeats 4000000
set_option maxRecDepth 100000
/- Own work, printed by a program of mine: the walk of each function: a call returns what the plain function says. -/
namespace Go.Proofs.Ytenjigdaaeiklaa
open Go.Gv Go.Gv.D Go.RowKit
theorem integer_Small_ok (fuel : Nat) (pa0_0 : Option Addr) (pc0_0 : Nat) (a_0 : (Bool × (List Int))) (w0 : World) (X0 : Nat → Prop) (hX0 : ∀ k, X0 k → k < w0.heap.size) (hpa0_0 : Rd (iE .u32) w0 X0 pa0_0 pc0_0 a_0.2) (r0 : (Int × (Int × Int))) (h0 : integer_Small fuel a_0 = some r0) :
    Calls Try.prog 67 ([(.agg #[(.bool a_0.1), (.slice pa0_0 (List.length a_0.2) pc0_0)])] : List Value).toArray w0 (Ret fun v w' => w0.grownBy w' none ∧ v = tup [(.int .i64 r0.1), (.agg #[(.int .i64 r0.2.1), (.int .i64 r0.2.2)])]) := by
 have hB0 : Below w0.heap.size w0 w0 := Below.refl _ _
 unfold integer_Small at h0
 refine calls_run Try.func67 rfl Try.ntmps67 (by kernel_rfl) ?_
 refine gv_sub [0] (σ' := [(0, (.agg #[(.bool a_0.1), (.slice pa0_0 (List.length a_0.2) pc0_0)]))]) (by kernel_rfl) ?_
 refine gv_seq <| gv_region <| gv_new0 (fun b => .pointer (some ⟨b, 0, none⟩)) #[(.bool a_0.1), (.slice pa0_0 (List.length a_0.2) pc0_0)] 24 (by kernel_rfl) (by kernel_rfl) ?_
 intro b1 w2 hg3 hb4 hbe5 hz6
 refine gv_pureN 1 [2] [] (by kernel_rfl) ?_
 refine gv_new0 (fun b => .pointer (some ⟨b, 0, none⟩)) #[(.int .i64 0), (.int .i64 0)] 29 (by kernel_rfl) (by kernel_rfl) ?_
 intro b7 w8 hg9 hb10 hbe11 hz12
 refine gv_nil <| gv_seq <| gv_seq <| gv_region ?_
 have hk13 := hb4.grown hg9 nb
 refine gv_loadBox (t := 24) (b := b1) (t' := 24) (fr := (0, 0)) #[(.bool a_0.1), (.slice pa0_0 (List.length a_0.2) pc0_0)] [] (fun e => by cases e) rfl rfl rfl (by kernel_rfl) (by kernel_rfl) (by kernel_rfl) (by kernel_rfl) (inw0 hk13) rfl ?_
 refine gv_new0 (fun b => .slice (some ⟨b, 0, none⟩) 1 1) #[(.bool a_0.1), (.slice pa0_0 (List.length a_0.2) pc0_0)] 24 (by kernel_rfl) (by kernel_rfl) ?_
 intro b14 w15 hg16 hb17 hbe18 hz19
 obtain ⟨X25, e⟩ : ∃ X : Nat → Prop, X = (fun k => X0 k) := ⟨_, rfl⟩
 have hg26 := (grown_trans hg3 hg9)
 have hB27 := bg hB0 hg26 nb
 have hx23 : ∀ k, X25 k → k < w8.heap.size := fun k h => by rw [e] at h; exact (fun k (hk : X0 k) => ltl (hX0 k hk) hB27.size) k h
 have hz28 := hg16.size
 have hx22 : ∀ k, X25 k → k < w15.heap.size := fun k h => ltl (hx23 k h) hz28
 have hx24 : ∀ k, X25 k → X0 k ∨ w0.heap.size ≤ k := fun k h => by rw [e] at h; exact (fun k (hk : X0 k) => Or.inl hk) k h
 have hB29 := bg hB27 hg16 nb
 have ho20 : Own (prE tE (slE (iE .u32))) 24 w15 X25 (some ⟨b14, 0, none⟩) 1 ([(a_0.1, a_0.2)] : List (Bool × (List Int))) := Box.ownE hb17 (by rw [e]; exact ⟨[(.bool a_0.1), (.slice pa0_0 (List.length a_0.2) pc0_0)], [], rfl, ⟨[(.bool a_0.1)], [(.slice pa0_0 (List.length a_0.2) pc0_0)], rfl, rfl, ⟨pa0_0, pc0_0, rfl, ((hpa0_0.below hB29 hX0).wide (fun _ h => h))⟩⟩, rfl⟩) (show 1 ≤ maxLen by decide) (fun h => noteq hbe18 (hx23 _ h))
 have hx30 : ∀ k, X25 k → (fun k => X0 k) k := fun k h => by rw [e] at h; exact h
 clear e
 have hl21 : ∀ g, blk (some ⟨b14, 0, none⟩) = some g → w0.heap.size ≤ g := loo hbe18 hB27.size
 have ap31 : ∀ g, blk (some ⟨b14, 0, none⟩) = some g → ¬ (· = b1) g := fun g e hx => nl (lowo hbe18 g e) ((ltb hk13) _ hx)
 have hlo33 : w0.heap.size ≤ b1 := lob hbe5 hB0.size
 have ap32 : ¬ (fun k => blk (some ⟨b14, 0, none⟩) = some k ∨ X25 k) b1 := fun h => h.elim (fun h => nl (lowo hbe18 _ h) ((ltb hk13) _ rfl)) (fun h => ((fun (hx : X0 b1) => nl hlo33 (hX0 _ hx)))  (hx30 _ h))
 have ap34 : ∀ g, blk (some ⟨b14, 0, none⟩) = some g → ¬ (· = b7) g := fun g e hx => nl (lowo hbe18 g e) ((ltb hb10) _ hx)
 have hB36 := bg hB0 hg3 nb
 have hlo37 : w0.heap.size ≤ b7 := lob hbe11 hB36.size
 have ap35 : ¬ (fun k => blk (some ⟨b14, 0, none⟩) = some k ∨ X25 k) b7 := fun h => h.elim (fun h => nl (lowo hbe18 _ h) ((ltb hb10) _ rfl)) (fun h => ((fun (hx : X0 b7) => nl hlo37 (hX0 _ hx)))  (hx30 _ h))
 refine bindE h0 ?_; clear h0; intro r38 hr39 h0
 refine gv_call0 (by kernel_rfl) rfl (by kernel_rfl) enters62 (integer_check_ok fuel (some ⟨b14, 0, none⟩) 1 ([(a_0.1, a_0.2)] : List (Bool × (List Int))) w15 (fun k => (fun k => blk (some ⟨b14, 0, none⟩) = some k ∨ X25 k) k) (fun k hk => (fun k (hk : blk (some ⟨b14, 0, none⟩) = some k ∨ X25 k) => hk.elim (fun h => ho20.lt k h) (fun h => hx22 k h)) k hk) ((ho20.rd (Y := fun k => blk (some ⟨b14, 0, none⟩) = some k ∨ X25 k) (fun _ h => .inr h) (fun g e => .inl e)).wide (fun k hk => hk)) r38 hr39) ?_
 rintro v42 w40 ⟨hg41, rfl⟩
 refine gv_new0 (fun b => .pointer (some ⟨b, 0, none⟩)) #[(.int .i64 0), (.int .i64 0)] 29 (by kernel_rfl) (by kernel_rfl) ?_
 intro b43 w44 hg45 hb46 hbe47 hz48
 refine gv_store0 29 0 (.agg #[(.int .i64 r38.1), (.int .i64 r38.2)]) #[(.int .i64 r38.1), (.int .i64 r38.2)] hb46 (by kernel_rfl) (by kernel_rfl) (by kernel_rfl) ?_
 intro w49 hg50 hb51 hz52
 refine gv_nil <| gv_seq <| gv_region <| gv_pureN 1 [12] [(12, (bp b43))] (by kernel_rfl) ?_
 refine gv_load (t := 3) (A := ⟨b43, 0, none⟩) (.int .i64 r38.1) [] (fun e => by cases e) rfl rfl rfl (by kernel_rfl) (by kernel_rfl) (by kernel_rfl) (inw0 (hb51.cell 0 rfl)) rfl ?_
 refine gv_pureN 1 [14] [(14, (.bool (r38.1 != 0)))] (by kernel_rfl) ?_
 refine gv_nil <| gv_cond (b := (r38.1 != 0)) (by kernel_rfl) (fun hc53 => ?_) (fun hc53 => ?_)
 ·replace h0 := ite_t hc53 h0
  refine gv_seq <| gv_drawA (by kernel_rfl) ?_
  intro w54 hg55
  refine gv_pre [1] (bA 3 [1]) 2 (by kernel_rfl) (by kernel_rfl) ?_
  refine gv_pureN 1 [2] [(2, (.int .i64 0))] (by kernel_rfl) ?_
  refine gv_nil <| gv_goA ?_
  refine gv_stage (Cls w54 []) [0, 1] [(0, some true)] (bA 3 [0, 1]) 1 (by kernel_rfl) (by kernel_rfl) (Cls.refl _ _) ?_
  have hC56 := Cls.refl w54 []
  have hk57 := hb51.grown hg55 nb
  refine gv_loadBox (t := 29) (b := b43) (t' := 29) (fr := (0, 0)) #[(.int .i64 r38.1), (.int .i64 r38.2)] [] (fun e => by cases e) rfl rfl rfl (by kernel_rfl) (by kernel_rfl) (by kernel_rfl) (by kernel_rfl) (inw1 fun w' hC' => (hC'.box hk57 nm_nil)) rfl ?_
  refine gv_nil <| gv_goA ?_
  refine gv_stage (fun _ => True) [0, 1, 2] [(2, some false)] (bA 3 [0, 1, 2]) 0 (by kernel_rfl) (by kernel_rfl) trivial ?_
  have hg62 := (grown_trans (grown_trans hg16 hg41) hg45)
  have hg63 := (grown_trans hg16 hg41)
  have hk64 := hb10.grown hg63 nb
  have lt65 := ltl ((ltb hk64) _ rfl) ((lowb hbe47) _ rfl)
  have hk66 := ((hb10.grown hg62 nb).grown hg50 (rowne (ng lt65))).grown hg55 nb
  refine gv_store (t := 29) (b := b7) (off := 0) (v := (.agg #[(.int .i64 r38.1), (.int .i64 r38.2)])) (t' := 29) (cs := #[(.int .i64 0), (.int .i64 0)]) #[(.int .i64 r38.1), (.int .i64 r38.2)] (by decide) rfl rfl (by kernel_rfl) (by kernel_rfl) (by kernel_rfl) (by intro u hu; simp [Value.cells] at hu; rcases hu with rfl | rfl <;> rfl) (show 0 + 2 ≤ 2 by decide) (by rfl) hk66 ?_
  intro w58 hg59 hb60 hz61
  refine ⟨(fun _ => trivial), ?_⟩
  clear hz61 hk64 hg63 hg62 hC56 hc53 hz52 hb51 hz48 hb46 hr39 ap35 hB36 ap34 ap32 ap31 hx30 hz28 hx23 hB27 hg26 hz19 hbe18 hb17 hz12 hb10 hg9 hz6 hbe5 hg3
  refine gv_nil <| gv_goA ?_
  refine gv_stageE (by kernel_rfl) ?_
  refine gv_cret ?_
  have e := sj h0; subst e
  refine gv_ret (gv_done [(.int .i64 0), (.agg #[(.int .i64 r38.1), (.int .i64 r38.2)])] rfl ⟨(by kernel_rfl), ⟨⟨b7, 0, none⟩, (by kernel_rfl), run_loadVar_row w58 b7 _ 29 _ _ _ hb60 Try.underlying29 rfl (by kernel_rfl)⟩, trivial⟩ ?_)
  have hg67 := (grown_trans hg41 hg45)
  have hB68 := bg hB29 hg67 nb
  have hB69 := bg hB29 hg41 nb
  have hlo70 : w0.heap.size ≤ b43 := lob hbe47 hB69.size
  have hB71 := bg hB68 hg50 (rowlo hlo70)
  have hB72 := bg hB71 hg55 nb
  have hB73 := bg hB72 hg59 (rowlo hlo37)
  exact ⟨grown_of_below hB73, rfl⟩
 ·replace h0 := ite_f hc53 h0
  refine gv_skip <| gv_seq <| gv_region <| gv_pureN 1 [5] [(5, (.int .u64 0))] (by kernel_rfl) ?_
  refine gv_nil <| gv_seq <| gv_seq <| gv_region <| gv_pureN 1 [16] [(16, (.pointer (some ⟨b1, 1, none⟩)))] (by kernel_rfl) ?_
  have hg74 := (grown_trans (grown_trans hg16 hg41) hg45)
  have lt75 := ltl ((ltb hb4) _ rfl) ((lowb hbe11) _ rfl)
  have hg76 := (grown_trans hg16 hg41)
  have hk77 := hb10.grown hg76 nb
  have lt78 := ltl ((ltb hk77) _ rfl) ((lowb hbe47) _ rfl)
  have lt79 := ltt lt75 lt78
  have hk80 := (hk13.grown hg74 nb).grown hg50 (rowne (ng lt79))
  refine gv_load (t := 22) (A := ⟨b1, 1, none⟩) (.slice pa0_0 (List.length a_0.2) pc0_0) [] (fun e => by cases e) rfl rfl rfl (by kernel_rfl) (by kernel_rfl) (by kernel_rfl) (inw0 (hk80.cell 1 rfl)) rfl ?_
  refine gv_pureN 2 [18, 19] [(18, (.int .i64 ((List.length a_0.2 : Nat) : Int))), (19, (.int .i64 0))] (by kernel_rfl) ?_
  refine gv_sub [1, 3, 5, 17, 18, 19] (σ' := [(1, (bp b1)), (3, (bp b7)), (5, (.int .u64 0)), (17, (.slice pa0_0 (List.length a_0.2) pc0_0)), (18, (.int .i64 ((List.length a_0.2 : Nat) : Int))), (19, (.int .i64 0))]) (by kernel_rfl) ?_
  refine gv_nil <| bindE h0 ?_; clear h0; intro j81 h1 h0
  refine gv_cut_code (J := fun a w83 => ∃ s82 : (Int × (Int × Int)), j81 = .inl s82 ∧ Below w0.heap.size w0 w83 ∧ w49.heap.size ≤ w83.heap.size ∧ Box w83 b1 24 #[(.bool a_0.1), (.slice pa0_0 (List.length a_0.2) pc0_0)] ∧ Box w83 b7 29 #[(.int .i64 s82.2.1), (.int .i64 s82.2.2)] ∧ a.defers = [] ∧ a.tmps.size = 49 ∧ Ok [(1, (bp b1)), (3, (bp b7)), (5, (.int .u64 s82.1))] a.tmps) ?_ ?_
  ·skip
   refine gv_block <| gv_loop (A := fun (s84 : (Int × Int × (Int × Int))) a w85 => Below w0.heap.size w0 w85 ∧ w49.heap.size ≤ w85.heap.size ∧ Box w85 b1 24 #[(.bool a_0.1), (.slice pa0_0 (List.length a_0.2) pc0_0)] ∧ Box w85 b7 29 #[(.int .i64 s84.2.2.1), (.int .i64 s84.2.2.2)] ∧ a.defers = [] ∧ a.tmps.size = 49 ∧ Ok [(1, (bp b1)), (3, (bp b7)), (5, (.int .u64 s84.1)), (17, (.slice pa0_0 (List.length a_0.2) pc0_0)), (18, (.int .i64 ((List.length a_0.2 : Nat) : Int))), (19, (.int .i64 s84.2.1))] a.tmps) h1 ?_ ?_
   ·intro a hd hs hok
    have hg86 := (grown_trans hg41 hg45)
    have hB87 := bg hB29 hg86 nb
    have hB88 := bg hB29 hg41 nb
    have hlo89 : w0.heap.size ≤ b43 := lob hbe47 hB88.size
    have hB90 := bg hB87 hg50 (rowlo hlo89)
    have hk91 := (hk77.grown hg45 nb).grown hg50 (rowne (ng lt78))
    exact ⟨hB90, (Nat.le_refl _), hk80, hk91, hd, hs, ok_pick [1, 3, 5, 17, 18, 19] hok (by kernel_rfl)⟩
   ·rintro s84 r2 h2 hR2 a w85 ⟨hB92, hz93, hb94, hb95, hd, hs, hok⟩
    refine gv_in ?_ hd hs hok
    clear hd hs hok
    clear hk80 lt79 lt78 hk77 hg76 hg74 hc53 hz52 hb51 hg50 hz48 hbe47 hb46 hg45 hg41 hr39 ap35 hB36 ap34 ap32 ap31 hl21 hx30 ho20 hB29 hx24 hx22 hz28 hx23 hB27 hg26 hz19 hbe18 hb17 hg16 hk13 hz12 hbe11 hb10 hg9 hz6 hbe5 hb4 hg3
    refine gv_seq <| gv_region <| gv_pureN 1 [20] [(20, (.bool (decide (s84.2.1 < ((List.length a_0.2 : Nat) : Int)))))] (by kernel_rfl) ?_
    refine gv_nil <| gv_seq <| gv_cond (b := (decide (s84.2.1 < ((List.length a_0.2 : Nat) : Int)))) (by kernel_rfl) (fun hc96 => ?_) (fun hc96 => ?_)
    ·replace h2 := ite_t hc96 h2
     refine gv_skip <| gv_seq <| gv_block <| gv_seq <| gv_region <| gv_pureN 1 [21] [(21, (.int .i64 s84.2.1))] (by kernel_rfl) ?_
     refine bindE h2 ?_; clear h2; intro x97 hx98 h2
     refine gv_idxaddr (t := 22) (e := 76) (a := pa0_0) (len := List.length a_0.2) (cap := pc0_0) (kk := .i64) (i := s84.2.1) (sz := 1) [] (fun e => by cases e) rfl rfl rfl (by kernel_rfl) (by kernel_rfl) Try.underlying22 (by kernel_rfl) ((hpa0_0.below hB92 hX0).has hx98) (idx_spec hx98).1 (idx_spec hx98).2.1 rfl ?_
     refine gv_load (t := 76) (A := (elemAddr pa0_0 ((s84.2.1).toNat * 1))) (.int .u32 x97) [] (fun e => by cases e) rfl rfl rfl (by kernel_rfl) (by kernel_rfl) (by kernel_rfl) (inw0 ((hpa0_0.below hB92 hX0).cell hx98)) rfl ?_
     refine gv_pureN 2 [6, 7] [(6, (.int .i64 s84.2.1)), (7, (.int .u32 x97))] (by kernel_rfl) ?_
     refine gv_nil <| gv_seq <| gv_seq <| gv_region <| gv_pureN 2 [24, 25] [(25, (.bool (decide (s84.2.1 > 1))))] (by kernel_rfl) ?_
     refine gv_nil <| gv_cond (b := (decide (s84.2.1 > 1))) (by kernel_rfl) (fun hc99 => ?_) (fun hc99 => ?_)
     ·replace h2 := ite_t hc99 h2
      refine gv_seq <| gv_region <| bindE h2 ?_; clear h2; intro r100 hr101 h2
      refine gv_call0 (by kernel_rfl) rfl (by kernel_rfl) enters69 (integer_at_ok fuel 14 (-1) w85  r100 hr101) ?_
      rintro v104 w102 ⟨hg103, rfl⟩
      refine gv_pureN 1 [2] [(2, (.int .i64 0))] (by kernel_rfl) ?_
      have hk109 := hb95.grown hg103 nb
      refine gv_store0 29 0 (.agg #[(.int .i64 r100.1), (.int .i64 r100.2)]) #[(.int .i64 r100.1), (.int .i64 r100.2)] hk109 (by kernel_rfl) (by kernel_rfl) (by kernel_rfl) ?_
      intro w105 hg106 hb107 hz108
      refine gv_nil <| gv_cret ?_
      have e := sj h2; subst e
      replace h1 := congrArg some (hR2 _ rfl)
      have e := sj h1; subst e
      replace h0 := cont_inr h0
      have e := sj h0; subst e
      refine gv_ret (gv_done [(.int .i64 0), (.agg #[(.int .i64 r100.1), (.int .i64 r100.2)])] rfl ⟨(by kernel_rfl), ⟨⟨b7, 0, none⟩, (by kernel_rfl), run_loadVar_row w105 b7 _ 29 _ _ _ hb107 Try.underlying29 rfl (by kernel_rfl)⟩, trivial⟩ ?_)
      have hB110 := bg hB92 hg103 nb
      have hB111 := bg hB110 hg106 (rowlo hlo37)
      exact ⟨grown_of_below hB111, rfl⟩
     ·replace h2 := ite_f hc99 h2
      refine gv_skip <| gv_region <| gv_pureN 5 [27, 28, 29, 30, 31] [(27, (.int .u64 s84.1)), (29, (.int .u64 (IntKind.u64.wrap (x97)))), (31, (.int .i64 (IntKind.i64.wrap (32 * s84.2.1))))] (by kernel_rfl) ?_
      refine bindE h2 ?_; clear h2; intro _ hx112 h2
      refine gv_shift .shl (t := 25) (kk := .u64) (ky := .i64) (x := (IntKind.u64.wrap (x97))) (y := (IntKind.i64.wrap (32 * s84.2.1))) (shlI .u64 (IntKind.u64.wrap (x97)) (IntKind.i64.wrap (32 * s84.2.1))) [] (fun e => by cases e) rfl rfl rfl (by kernel_rfl) (by kernel_rfl) (nn_spec hx112) (.inl ⟨rfl, rfl⟩) rfl ?_
      refine gv_pureN 2 [5, 33] [(5, (.int .u64 (bwOr .u64 s84.1 (shlI .u64 (IntKind.u64.wrap (x97)) (IntKind.i64.wrap (32 * s84.2.1))))))] (by kernel_rfl) ?_
      refine bindE h2 ?_; clear h2; intro n113 hn114 h2
      refine gv_name (s := 5) (v := (.int .u64 (bwOr .u64 s84.1 (shlI .u64 (IntKind.u64.wrap (x97)) (IntKind.i64.wrap (32 * s84.2.1)))))) (v' := (.int .u64 n113)) (by kernel_rfl) (congrArg (Value.int .u64) (sj hn114)) ?_
      refine gv_nil <| gv_blk <| gv_region <| gv_pureN 2 [19, 34] [(19, (.int .i64 (IntKind.i64.wrap (s84.2.1 + 1))))] (by kernel_rfl) ?_
      refine gv_nil ?_
      have e := sj h2; subst e
      refine gv_goal fun a hd hs hok => ?_
      have hz115 := hz93
      exact ⟨(n113, (IntKind.i64.wrap (s84.2.1 + 1)), (s84.2.2.1, s84.2.2.2)), rfl, hB92, hz115, hb94, hb95, hd, hs, ok_pick [1, 3, 5, 17, 18, 19] hok (by kernel_rfl)⟩
    ·replace h2 := ite_f hc96 h2
     refine gv_cexit <| gv_exit rfl ?_
     have e := sj h2; subst e
     replace h1 := congrArg some (hR2 _ rfl)
     have e := sj h1; subst e
     refine gv_goal fun a hd hs hok => ?_
     have hz116 := hz93
     exact ⟨(s84.1, (s84.2.2.1, s84.2.2.2)), rfl, hB92, hz116, hb94, hb95, hd, hs, ok_pick [1, 3, 5] hok (by kernel_rfl)⟩
  ·rintro a w83 ⟨s82, e, hB117, hz118, hb119, hb120, hd, hs, hok⟩
   subst e
   refine gv_in ?_ hd hs hok
   clear hd hs hok
   replace h0 := cont_inl h0
   clear hz118 hk80 lt79 lt78 hk77 hg76 hg74 hc53 hz52 hb51 hg50 hz48 hbe47 hb46 hg45 hg41 hr39 ap35 hB36 ap34 ap32 ap31 hl21 hx30 ho20 hB29 hx24 hx22 hz28 hx23 hB27 hg26 hz19 hbe18 hb17 hg16 hk13 hz12 hbe11 hb10 hg9 hz6 hbe5 hb4 hg3
   refine gv_seq <| gv_region <| gv_pureN 3 [8, 35, 36] [(8, (.int .i64 (IntKind.i64.wrap (s82.1))))] (by kernel_rfl) ?_
   refine gv_nil <| gv_seq <| gv_seq <| gv_region <| gv_pureN 1 [37] [(37, (bp b1))] (by kernel_rfl) ?_
   refine gv_load (t := 4) (A := ⟨b1, 0, none⟩) (.bool a_0.1) [] (fun e => by cases e) rfl rfl rfl (by kernel_rfl) (by kernel_rfl) (by kernel_rfl) (inw0 (hb119.cell 0 rfl)) rfl ?_
   refine gv_nil <| bindE h0 ?_; clear h0; intro j121 h1 h0
   refine gv_cut_code (J := fun a w122 => Below w0.heap.size w0 w122 ∧ w83.heap.size ≤ w122.heap.size ∧ Box w122 b1 24 #[(.bool a_0.1), (.slice pa0_0 (List.length a_0.2) pc0_0)] ∧ Box w122 b7 29 #[(.int .i64 s82.2.1), (.int .i64 s82.2.2)] ∧ a.defers = [] ∧ a.tmps.size = 49 ∧ Ok [(1, (bp b1)), (3, (bp b7)), (8, (.int .i64 j121))] a.tmps) ?_ ?_
   ·skip
    refine gv_cond (b := a_0.1) (by kernel_rfl) (fun hc123 => ?_) (fun hc123 => ?_)
    ·replace h1 := ite_t hc123 h1
     refine gv_region <| gv_pureN 3 [8, 39, 40] [(8, (.int .i64 (IntKind.i64.wrap (0 - (IntKind.i64.wrap (s82.1))))))] (by kernel_rfl) ?_
     refine bindE h1 ?_; clear h1; intro n124 hn125 h1
     refine gv_name (s := 8) (v := (.int .i64 (IntKind.i64.wrap (0 - (IntKind.i64.wrap (s82.1)))))) (v' := (.int .i64 n124)) (by kernel_rfl) (congrArg (Value.int .i64) (sj hn125)) ?_
     refine gv_nil ?_
     have e := sj h1; subst e
     refine gv_goal fun a hd hs hok => ?_
     exact ⟨hB117, (Nat.le_refl _), hb119, hb120, hd, hs, ok_pick [1, 3, 8] hok (by kernel_rfl)⟩
    ·replace h1 := ite_f hc123 h1
     refine gv_skip ?_
     have e := sj h1; subst e
     refine gv_goal fun a hd hs hok => ?_
     exact ⟨hB117, (Nat.le_refl _), hb119, hb120, hd, hs, ok_pick [1, 3, 8] hok (by kernel_rfl)⟩
   ·rintro a w122 ⟨hB126, hz127, hb128, hb129, hd, hs, hok⟩
    refine gv_in ?_ hd hs hok
    clear hd hs hok
    clear hz127 hb120 hb119 hB117
    refine gv_seq <| gv_seq <| gv_region <| gv_pureN 3 [41, 42, 43] [(42, (.bool (decide (j121 < 0)))), (43, (bp b1))] (by kernel_rfl) ?_
    refine gv_load (t := 4) (A := ⟨b1, 0, none⟩) (.bool a_0.1) [] (fun e => by cases e) rfl rfl rfl (by kernel_rfl) (by kernel_rfl) (by kernel_rfl) (inw0 (hb128.cell 0 rfl)) rfl ?_
    refine gv_pureN 1 [45] [(45, (.bool (!((decide (j121 < 0)) == a_0.1))))] (by kernel_rfl) ?_
    refine gv_nil <| gv_cond (b := (!((decide (j121 < 0)) == a_0.1))) (by kernel_rfl) (fun hc130 => ?_) (fun hc130 => ?_)
    ·replace h0 := ite_t hc130 h0
     refine gv_seq <| gv_region <| bindE h0 ?_; clear h0; intro r131 hr132 h0
     refine gv_call0 (by kernel_rfl) rfl (by kernel_rfl) enters69 (integer_at_ok fuel 14 (-1) w122  r131 hr132) ?_
     rintro v135 w133 ⟨hg134, rfl⟩
     refine gv_pureN 1 [2] [(2, (.int .i64 0))] (by kernel_rfl) ?_
     have hk140 := hb129.grown hg134 nb
     refine gv_store0 29 0 (.agg #[(.int .i64 r131.1), (.int .i64 r131.2)]) #[(.int .i64 r131.1), (.int .i64 r131.2)] hk140 (by kernel_rfl) (by kernel_rfl) (by kernel_rfl) ?_
     intro w136 hg137 hb138 hz139
     refine gv_nil <| gv_cret ?_
     have e := sj h0; subst e
     refine gv_ret (gv_done [(.int .i64 0), (.agg #[(.int .i64 r131.1), (.int .i64 r131.2)])] rfl ⟨(by kernel_rfl), ⟨⟨b7, 0, none⟩, (by kernel_rfl), run_loadVar_row w136 b7 _ 29 _ _ _ hb138 Try.underlying29 rfl (by kernel_rfl)⟩, trivial⟩ ?_)
     have hB141 := bg hB126 hg134 nb
     have hB142 := bg hB141 hg137 (rowlo hlo37)
     exact ⟨grown_of_below hB142, rfl⟩
    ·replace h0 := ite_f hc130 h0
     refine gv_skip <| gv_seq <| gv_region <| gv_pureN 3 [2, 47, 48] [(2, (.int .i64 j121)), (48, (.agg #[(.int .i64 0), (.int .i64 0)]))] (by kernel_rfl) ?_
     refine gv_store0 29 0 (.agg #[(.int .i64 0), (.int .i64 0)]) #[(.int .i64 0), (.int .i64 0)] hb129 (by kernel_rfl) (by kernel_rfl) (by kernel_rfl) ?_
     intro w143 hg144 hb145 hz146
     refine gv_nil <| gv_cret ?_
     have e := sj h0; subst e
     refine gv_ret (gv_done [(.int .i64 j121), (.agg #[(.int .i64 0), (.int .i64 0)])] rfl ⟨(by kernel_rfl), ⟨⟨b7, 0, none⟩, (by kernel_rfl), run_loadVar_row w143 b7 _ 29 _ _ _ hb145 Try.underlying29 rfl (by kernel_rfl)⟩, trivial⟩ ?_)
     have hB147 := bg hB126 hg144 (rowlo hlo37)
     exact ⟨grown_of_below hB147, rfl⟩

theorem random_source_small_ok (fuel : Nat) (pb0 : Nat) (s_0 : ((Int × Int))) (n_1 : Int) (w0 : World) (hp0 : Box w0 pb0 81 #[(.int .u64 s_0.1), (.int .u64 s_0.2)]) (r0 : (Int × ((Int × Int)))) (h0 : random_source_small fuel s_0 n_1 = some r0) :
    Calls Try.prog 56 ([(bp pb0), (.int .i64 n_1)] : List Value).toArray w0 (Ret fun v w' => w0.grownBy w' (some pb0) ∧ v = tup [(.int .i64 r0.1)] ∧ Box w' pb0 81 #[(.int .u64 r0.2.1), (.int .u64 r0.2.2)]) := by
 have hB0 : w0.grownBy w0 (some pb0) := grown_refl _ _
 unfold random_source_small at h0
 refine calls_run Try.func56 rfl Try.ntmps56 (by kernel_rfl) ?_
 refine gv_sub [0, 1] (σ' := [(0, (bp pb0)), (1, (.int .i64 n_1))]) (by kernel_rfl) ?_
 have hpl0 := hp0.lt
 refine gv_seq <| gv_region <| gv_pureN 1 [4] [] (by kernel_rfl) ?_
 refine gv_nil <| gv_seq <| gv_region <| gv_pureN 2 [8, 9] [(8, (bp pb0)), (9, (.int .i64 n_1))] (by kernel_rfl) ?_
 refine bindE h0 ?_; clear h0; intro r1 hr2 h0
 refine gv_call0 (by kernel_rfl) rfl (by kernel_rfl) enters47 (integer_Of_ok fuel n_1 w0  r1 hr2) ?_
 rintro v5 w3 ⟨hg4, a6, c7, rfl, ho8, hl9⟩
 have hl10 : ∀ g, blk a6 = some g → w0.heap.size ≤ g := fun g e => Nat.le_trans hB0.size (hl9 g e)
 refine bindE h0 ?_; clear h0; intro r11 hr12 h0
 have ap13 : ¬ (fun k => blk a6 = some k) pb0 := fun hx => nl ((show ∀ k, blk a6 = some k → w0.heap.size ≤ k from hl9) _ hx) ((ltb hp0) _ rfl)
 have hk14 := hp0.grown hg4 nb
 refine gv_call0 (by kernel_rfl) rfl (by kernel_rfl) enters43 (random_source_below_ok fuel pb0 (s_0.1, s_0.2) a6 c7 (r1.1, r1.2) w3 (fun k => (fun k => blk a6 = some k) k) (fun k hk => ⟨(fun k (hk : blk a6 = some k) => ho8.lt k hk) k hk, fun e => ap13 (e ▸ hk)⟩) hk14 ((ho8.rd (Y := fun k => blk a6 = some k) (fun _ h => h.elim) (fun g e => e)).wide (fun k hk => hk)) r11 hr12) ?_
 rintro v17 w15 ⟨hg16, a18, c19, rfl, ho20, hl21, hb22⟩
 have hB24 := grown_step hB0 hg4 nb
 have hl23 : ∀ g, blk a18 = some g → w0.heap.size ≤ g := fun g e => Nat.le_trans hB24.size (hl21 g e)
 refine bindE h0 ?_; clear h0; intro r25 hr26 h0
 refine gv_call0 (by kernel_rfl) rfl (by kernel_rfl) enters67 (integer_Small_ok fuel a18 c19 (r11.1.1, r11.1.2) w15 (fun k => (fun k => blk a18 = some k) k) (fun k hk => (fun k (hk : blk a18 = some k) => ho20.lt k hk) k hk) ((ho20.rd (Y := fun k => blk a18 = some k) (fun _ h => h.elim) (fun g e => e)).wide (fun k hk => hk)) r25 hr26) ?_
 rintro v29 w27 ⟨hg28, rfl⟩
 refine gv_pureN 3 [7, 13, 14] [(13, (.int .i64 r25.1)), (14, (.agg #[(.int .i64 r25.2.1), (.int .i64 r25.2.2)]))] (by kernel_rfl) ?_
 refine gv_new0 (fun b => .pointer (some ⟨b, 0, none⟩)) #[(.int .i64 0), (.int .i64 0)] 29 (by kernel_rfl) (by kernel_rfl) ?_
 intro b30 w31 hg32 hb33 hbe34 hz35
 refine gv_pureN 1 [5] [(5, (.int .i64 r25.1))] (by kernel_rfl) ?_
 refine gv_store0 29 0 (.agg #[(.int .i64 r25.2.1), (.int .i64 r25.2.2)]) #[(.int .i64 r25.2.1), (.int .i64 r25.2.2)] hb33 (by kernel_rfl) (by kernel_rfl) (by kernel_rfl) ?_
 intro w36 hg37 hb38 hz39
 refine gv_nil <| gv_seq <| gv_region <| gv_pureN 2 [4, 15] [(4, (.int .i64 r25.1))] (by kernel_rfl) ?_
 refine gv_nil <| gv_cret ?_
 have e := sj h0; subst e
 refine gv_ret (gv_done [(.int .i64 r25.1)] rfl ⟨(by kernel_rfl), trivial⟩ ?_)
 have hB40 := grown_step hB24 hg16 rowpp
 have hg41 := (grown_trans hg28 hg32)
 have hB42 := grown_step hB40 hg41 nb
 have hB43 := grown_step hB24 hg16 rowpp
 have hB44 := grown_step hB43 hg28 nb
 have hlo45 : w0.heap.size ≤ b30 := lob hbe34 hB44.size
 have hB46 := grown_step hB42 hg37 (rowppr hlo45)
 have hk47 := hb22.grown hg28 nb
 have ap48 : ¬ (· = pb0) b30 := fun hx => nl ((lowb hbe34) _ rfl) ((ltb hk47) _ hx)
 have hk49 := (hb22.grown hg41 nb).grown hg37 (rowne ap48)
 exact ⟨hB46, rfl, hk49⟩

theorem random_Choose_ok (fuel : Nat) (g_0 : (Int × Int)) (pa1_0 : Option Addr) (pc1_0 : Nat) (weights_1 : (List Int)) (w0 : World) (X0 : Nat → Prop) (hX0 : ∀ k, X0 k → k < w0.heap.size) (hpa1_0 : Rd (iE .i64) w0 X0 pa1_0 pc1_0 weights_1) (r0 : (Int × (Int × Int) × (Int × Int))) (h0 : random_Choose fuel g_0 weights_1 = some r0) :
    Calls Try.prog 31 ([(.agg #[(.int .u64 g_0.1), (.int .u64 g_0.2)]), (.slice pa1_0 (List.length weights_1) pc1_0)] : List Value).toArray w0 (Ret fun v w' => w0.grownBy w' none ∧ v = tup [(.int .i64 r0.1), (.agg #[(.int .u64 r0.2.1.1), (.int .u64 r0.2.1.2)]), (.agg #[(.int .i64 r0.2.2.1), (.int .i64 r0.2.2.2)])]) := by
 have hB0 : Below w0.heap.size w0 w0 := Below.refl _ _
 unfold random_Choose at h0
 refine calls_run Try.func31 rfl Try.ntmps31 (by kernel_rfl) ?_
 refine gv_sub [0, 1] (σ' := [(0, (.agg #[(.int .u64 g_0.1), (.int .u64 g_0.2)])), (1, (.slice pa1_0 (List.length weights_1) pc1_0))]) (by kernel_rfl) ?_
 refine gv_seq <| gv_region <| gv_new0 (fun b => .pointer (some ⟨b, 0, none⟩)) #[(.int .u64 g_0.1), (.int .u64 g_0.2)] 27 (by kernel_rfl) (by kernel_rfl) ?_
 intro b1 w2 hg3 hb4 hbe5 hz6
 refine gv_pureN 1 [4] [] (by kernel_rfl) ?_
 refine gv_new0 (fun b => .pointer (some ⟨b, 0, none⟩)) #[(.int .u64 0), (.int .u64 0)] 27 (by kernel_rfl) (by kernel_rfl) ?_
 intro b7 w8 hg9 hb10 hbe11 hz12
 refine gv_new0 (fun b => .pointer (some ⟨b, 0, none⟩)) #[(.int .i64 0), (.int .i64 0)] 29 (by kernel_rfl) (by kernel_rfl) ?_
 intro b13 w14 hg15 hb16 hbe17 hz18
 refine gv_nil <| gv_seq <| gv_region ?_
 have hg19 := (grown_trans hg9 hg15)
 have hk20 := hb4.grown hg19 nb
 refine gv_loadBox (t := 27) (b := b1) (t' := 27) (fr := (0, 0)) #[(.int .u64 g_0.1), (.int .u64 g_0.2)] [] (fun e => by cases e) rfl rfl rfl (by kernel_rfl) (by kernel_rfl) (by kernel_rfl) (by kernel_rfl) (inw0 hk20) rfl ?_
 refine bindE h0 ?_; clear h0; intro r21 hr22 h0
 refine gv_call0 (by kernel_rfl) rfl (by kernel_rfl) enters39 (random_open_ok fuel (g_0.1, g_0.2) w14  r21 hr22) ?_
 rintro v25 w23 ⟨hg24, p26, rfl, hp27⟩
 rcases hp27 with ⟨hn28, rfl⟩ | ⟨x30, b31, hn29, rfl, hb32, hlo33⟩
 ·skip
  replace h0 := optc_none hn28 h0
  refine gv_pureN 3 [14, 17, 18] [(17, (.pointer none)), (18, (.agg #[(.int .i64 r21.2.1), (.int .i64 r21.2.2)]))] (by kernel_rfl) ?_
  refine gv_new0 (fun b => .pointer (some ⟨b, 0, none⟩)) #[(.int .i64 0), (.int .i64 0)] 29 (by kernel_rfl) (by kernel_rfl) ?_
  intro b34 w35 hg36 hb37 hbe38 hz39
  refine gv_pureN 1 [7] [(7, (.pointer none))] (by kernel_rfl) ?_
  refine gv_store0 29 0 (.agg #[(.int .i64 r21.2.1), (.int .i64 r21.2.2)]) #[(.int .i64 r21.2.1), (.int .i64 r21.2.2)] hb37 (by kernel_rfl) (by kernel_rfl) (by kernel_rfl) ?_
  intro w40 hg41 hb42 hz43
  refine gv_nil <| gv_seq <| gv_seq <| gv_region <| gv_pureN 1 [19] [(19, (bp b34))] (by kernel_rfl) ?_
  refine gv_load (t := 3) (A := ⟨b34, 0, none⟩) (.int .i64 r21.2.1) [] (fun e => by cases e) rfl rfl rfl (by kernel_rfl) (by kernel_rfl) (by kernel_rfl) (inw0 (hb42.cell 0 rfl)) rfl ?_
  refine gv_pureN 1 [21] [(21, (.bool (r21.2.1 != 0)))] (by kernel_rfl) ?_
  refine gv_nil <| gv_cond (b := (r21.2.1 != 0)) (by kernel_rfl) (fun hc44 => ?_) (fun hc44 => ?_)
  ·replace h0 := ite_t hc44 h0
   refine gv_seq <| gv_drawA (by kernel_rfl) ?_
   intro w45 hg46
   refine gv_pre [0, 2] (bA 5 [0, 2]) 3 (by kernel_rfl) (by kernel_rfl) ?_
   refine gv_pureN 2 [4, 22] [(4, (.int .i64 0)), (22, (.agg #[(.int .u64 0), (.int .u64 0)]))] (by kernel_rfl) ?_
   refine gv_sub [4, 5, 6, 8, 22] (σ' := [(4, (.int .i64 0)), (5, (bp b7)), (6, (bp b13)), (8, (bp b34)), (22, (.agg #[(.int .u64 0), (.int .u64 0)]))]) (by kernel_rfl) ?_
   refine gv_nil <| gv_goA ?_
   refine gv_stage (Cls w45 [b7]) [0, 1, 2, 3] [(1, some true), (3, some false)] (bA 5 [0, 1, 2, 3]) 1 (by kernel_rfl) (by kernel_rfl) (Cls.refl _ _) ?_
   have hC47 := Cls.refl w45 [b7]
   have hk48 := hb42.grown hg46 nb
   have lt49 := ltl ((ltb hb10) _ rfl) ((lowb hbe17) _ rfl)
   have hk50 := hb16.grown hg24 nb
   have lt51 := ltl ((ltb hk50) _ rfl) ((lowb hbe38) _ rfl)
   have lt52 := ltt lt49 lt51
   refine gv_loadBox (t := 29) (b := b34) (t' := 29) (fr := (0, 0)) #[(.int .i64 r21.2.1), (.int .i64 r21.2.2)] [] (fun e => by cases e) rfl rfl rfl (by kernel_rfl) (by kernel_rfl) (by kernel_rfl) (by kernel_rfl) (inw1 fun w' hC' => (hC'.box hk48 (nm_cons (ng lt52) nm_nil))) rfl ?_
   have hg57 := (grown_trans (grown_trans hg15 hg24) hg36)
   have hk58 := ((hb10.grown hg57 nb).grown hg41 (rowne (ng lt52))).grown hg46 nb
   refine gv_store (t := 27) (b := b7) (off := 0) (v := (.agg #[(.int .u64 0), (.int .u64 0)])) (t' := 27) (cs := #[(.int .u64 0), (.int .u64 0)]) #[(.int .u64 0), (.int .u64 0)] (by decide) rfl rfl (by kernel_rfl) (by kernel_rfl) (by kernel_rfl) (by intro u hu; simp [Value.cells] at hu; rcases hu with rfl | rfl <;> rfl) (show 0 + 2 ≤ 2 by decide) (by rfl) hk58 ?_
   intro w53 hg54 hb55 hz56
   refine ⟨(fun _ => hC47.grown hg54 (rowm (List.Mem.head _))), ?_⟩
   clear hz56 hg57 lt52 hc44 hz43 hb42 hz39 hb37 hr22 hg19 hz18 hb16 hz12 hb10 hz6
   refine gv_nil <| gv_goA ?_
   refine gv_stage (fun _ => True) [0, 1, 2, 3, 4] [(4, some false)] (bA 5 [0, 1, 2, 3, 4]) 0 (by kernel_rfl) (by kernel_rfl) trivial ?_
   have hk63 := (((hk50.grown hg36 nb).grown hg41 (rowne (ng lt51))).grown hg46 nb).grown hg54 (rowne (Nat.ne_of_lt lt49))
   refine gv_store (t := 29) (b := b13) (off := 0) (v := (.agg #[(.int .i64 r21.2.1), (.int .i64 r21.2.2)])) (t' := 29) (cs := #[(.int .i64 0), (.int .i64 0)]) #[(.int .i64 r21.2.1), (.int .i64 r21.2.2)] (by decide) rfl rfl (by kernel_rfl) (by kernel_rfl) (by kernel_rfl) (by intro u hu; simp [Value.cells] at hu; rcases hu with rfl | rfl <;> rfl) (show 0 + 2 ≤ 2 by decide) (by rfl) hk63 ?_
   intro w59 hg60 hb61 hz62
   refine ⟨(fun _ => trivial), ?_⟩
   refine gv_nil <| gv_goA ?_
   refine gv_stageE (by kernel_rfl) ?_
   refine gv_cret ?_
   have e := sj h0; subst e
   have hk64 := hb55.grown hg60 (rowne (ng lt49))
   refine gv_ret (gv_done [(.int .i64 0), (.agg #[(.int .u64 0), (.int .u64 0)]), (.agg #[(.int .i64 r21.2.1), (.int .i64 r21.2.2)])] rfl ⟨(by kernel_rfl), ⟨⟨b7, 0, none⟩, (by kernel_rfl), run_loadVar_row w59 b7 _ 27 _ _ _ hk64 Try.underlying27 rfl (by kernel_rfl)⟩, ⟨⟨b13, 0, none⟩, (by kernel_rfl), run_loadVar_row w59 b13 _ 29 _ _ _ hb61 Try.underlying29 rfl (by kernel_rfl)⟩, trivial⟩ ?_)
   have hg65 := (grown_trans (grown_trans (grown_trans (grown_trans hg3 hg9) hg15) hg24) hg36)
   have hB66 := bg hB0 hg65 nb
   have hg67 := (grown_trans (grown_trans (grown_trans hg3 hg9) hg15) hg24)
   have hB68 := bg hB0 hg67 nb
   have hlo69 : w0.heap.size ≤ b34 := lob hbe38 hB68.size
   have hB70 := bg hB66 hg41 (rowlo hlo69)
   have hB71 := bg hB70 hg46 nb
   have hB72 := bg hB0 hg3 nb
   have hlo73 : w0.heap.size ≤ b7 := lob hbe11 hB72.size
   have hB74 := bg hB71 hg54 (rowlo hlo73)
   have hB75 := bg hB72 hg9 nb
   have hlo76 : w0.heap.size ≤ b13 := lob hbe17 hB75.size
   have hB77 := bg hB74 hg60 (rowlo hlo76)
   exact ⟨grown_of_below hB77, rfl⟩
  ·replace h0 := ite_f hc44 h0
   refine gv_skip <| gv_seq <| gv_seq <| gv_region <| gv_pureN 3 [24, 25, 26] [(26, (.bool (decide (((List.length weights_1 : Nat) : Int) > 1000))))] (by kernel_rfl) ?_
   refine gv_sub [1, 5, 6, 7, 26] (σ' := [(1, (.slice pa1_0 (List.length weights_1) pc1_0)), (5, (bp b7)), (6, (bp b13)), (7, (.pointer none)), (26, (.bool (decide (((List.length weights_1 : Nat) : Int) > 1000))))]) (by kernel_rfl) ?_
   refine gv_nil <| gv_cond (b := (decide (((List.length weights_1 : Nat) : Int) > 1000))) (by kernel_rfl) (fun hc78 => ?_) (fun hc78 => ?_)
   ·replace h0 := ite_t hc78 h0
    refine gv_seq <| gv_region <| gv_pureN 1 [27] [(27, (.agg #[(.int .u64 0), (.int .u64 0)]))] (by kernel_rfl) ?_
    refine bindE h0 ?_; clear h0; intro r79 hr80 h0
    refine gv_call0 (by kernel_rfl) rfl (by kernel_rfl) enters37 (random_at_ok fuel 2 (-2) w40  r79 hr80) ?_
    rintro v83 w81 ⟨hg82, rfl⟩
    refine gv_pureN 1 [4] [(4, (.int .i64 0))] (by kernel_rfl) ?_
    have hg88 := (grown_trans (grown_trans hg15 hg24) hg36)
    have lt89 := ltl ((ltb hb10) _ rfl) ((lowb hbe17) _ rfl)
    have hk90 := hb16.grown hg24 nb
    have lt91 := ltl ((ltb hk90) _ rfl) ((lowb hbe38) _ rfl)
    have lt92 := ltt lt89 lt91
    have hk93 := ((hb10.grown hg88 nb).grown hg41 (rowne (ng lt92))).grown hg82 nb
    refine gv_store0 27 0 (.agg #[(.int .u64 0), (.int .u64 0)]) #[(.int .u64 0), (.int .u64 0)] hk93 (by kernel_rfl) (by kernel_rfl) (by kernel_rfl) ?_
    intro w84 hg85 hb86 hz87
    have hk98 := (((hk90.grown hg36 nb).grown hg41 (rowne (ng lt91))).grown hg82 nb).grown hg85 (rowne (Nat.ne_of_lt lt89))
    refine gv_store0 29 0 (.agg #[(.int .i64 r79.1), (.int .i64 r79.2)]) #[(.int .i64 r79.1), (.int .i64 r79.2)] hk98 (by kernel_rfl) (by kernel_rfl) (by kernel_rfl) ?_
    intro w94 hg95 hb96 hz97
    refine gv_nil <| gv_cret ?_
    have e := sj h0; subst e
    have hk99 := hb86.grown hg95 (rowne (ng lt89))
    refine gv_ret (gv_done [(.int .i64 0), (.agg #[(.int .u64 0), (.int .u64 0)]), (.agg #[(.int .i64 r79.1), (.int .i64 r79.2)])] rfl ⟨(by kernel_rfl), ⟨⟨b7, 0, none⟩, (by kernel_rfl), run_loadVar_row w94 b7 _ 27 _ _ _ hk99 Try.underlying27 rfl (by kernel_rfl)⟩, ⟨⟨b13, 0, none⟩, (by kernel_rfl), run_loadVar_row w94 b13 _ 29 _ _ _ hb96 Try.underlying29 rfl (by kernel_rfl)⟩, trivial⟩ ?_)
    have hg100 := (grown_trans (grown_trans (grown_trans hg3 hg19) hg24) hg36)
    have hB101 := bg hB0 hg100 nb
    have hg102 := (grown_trans (grown_trans hg3 hg19) hg24)
    have hB103 := bg hB0 hg102 nb
    have hlo104 : w0.heap.size ≤ b34 := lob hbe38 hB103.size
    have hB105 := bg hB101 hg41 (rowlo hlo104)
    have hB106 := bg hB105 hg82 nb
    have hB107 := bg hB0 hg3 nb
    have hlo108 : w0.heap.size ≤ b7 := lob hbe11 hB107.size
    have hB109 := bg hB106 hg85 (rowlo hlo108)
    have hB110 := bg hB107 hg9 nb
    have hlo111 : w0.heap.size ≤ b13 := lob hbe17 hB110.size
    have hB112 := bg hB109 hg95 (rowlo hlo111)
    exact ⟨grown_of_below hB112, rfl⟩
   ·replace h0 := ite_f hc78 h0
    refine gv_skip <| gv_seq <| gv_region <| gv_pureN 1 [9] [(9, (.int .i64 0))] (by kernel_rfl) ?_
    refine gv_nil <| gv_seq <| gv_seq <| gv_region <| gv_pureN 3 [29, 30, 31] [(29, (.slice pa1_0 (List.length weights_1) pc1_0)), (30, (.int .i64 ((List.length weights_1 : Nat) : Int))), (31, (.int .i64 0))] (by kernel_rfl) ?_
    refine gv_nil <| bindE h0 ?_; clear h0; intro j113 h1 h0
    refine gv_cut_code (J := fun a w115 => ∃ s114 : (Int × (Int × Int) × (Int × Int)), j113 = .inl s114 ∧ Below w0.heap.size w0 w115 ∧ w40.heap.size ≤ w115.heap.size ∧ Box w115 b7 27 #[(.int .u64 s114.2.1.1), (.int .u64 s114.2.1.2)] ∧ Box w115 b13 29 #[(.int .i64 s114.2.2.1), (.int .i64 s114.2.2.2)] ∧ a.defers = [] ∧ a.tmps.size = 76 ∧ Ok [(1, (.slice pa1_0 (List.length weights_1) pc1_0)), (5, (bp b7)), (6, (bp b13)), (7, (.pointer none)), (9, (.int .i64 s114.1))] a.tmps) ?_ ?_
    ·skip
     refine gv_block <| gv_loop (A := fun (s116 : (Int × Int × (Int × Int) × (Int × Int))) a w117 => Below w0.heap.size w0 w117 ∧ w40.heap.size ≤ w117.heap.size ∧ Box w117 b7 27 #[(.int .u64 s116.2.2.1.1), (.int .u64 s116.2.2.1.2)] ∧ Box w117 b13 29 #[(.int .i64 s116.2.2.2.1), (.int .i64 s116.2.2.2.2)] ∧ a.defers = [] ∧ a.tmps.size = 76 ∧ Ok [(1, (.slice pa1_0 (List.length weights_1) pc1_0)), (5, (bp b7)), (6, (bp b13)), (7, (.pointer none)), (9, (.int .i64 s116.1)), (29, (.slice pa1_0 (List.length weights_1) pc1_0)), (30, (.int .i64 ((List.length weights_1 : Nat) : Int))), (31, (.int .i64 s116.2.1))] a.tmps) h1 ?_ ?_
     ·intro a hd hs hok
      have hg118 := (grown_trans (grown_trans (grown_trans hg3 hg19) hg24) hg36)
      have hB119 := bg hB0 hg118 nb
      have hg120 := (grown_trans (grown_trans hg3 hg19) hg24)
      have hB121 := bg hB0 hg120 nb
      have hlo122 : w0.heap.size ≤ b34 := lob hbe38 hB121.size
      have hB123 := bg hB119 hg41 (rowlo hlo122)
      have hg124 := (grown_trans (grown_trans hg15 hg24) hg36)
      have lt125 := ltl ((ltb hb10) _ rfl) ((lowb hbe17) _ rfl)
      have hk126 := hb16.grown hg24 nb
      have lt127 := ltl ((ltb hk126) _ rfl) ((lowb hbe38) _ rfl)
      have lt128 := ltt lt125 lt127
      have hk129 := (hb10.grown hg124 nb).grown hg41 (rowne (ng lt128))
      have hk130 := (hk126.grown hg36 nb).grown hg41 (rowne (ng lt127))
      exact ⟨hB123, (Nat.le_refl _), hk129, hk130, hd, hs, ok_pick [1, 5, 6, 7, 9, 29, 30, 31] hok (by kernel_rfl)⟩
     ·rintro s116 r2 h2 hR2 a w117 ⟨hB131, hz132, hb133, hb134, hd, hs, hok⟩
      refine gv_in ?_ hd hs hok
      clear hd hs hok
      clear hc78 hc44 hz43 hb42 hg41 hz39 hbe38 hb37 hg36 hg24 hr22 hk20 hg19 hz18 hb16 hg15 hz12 hz6 hbe5 hb4
      refine gv_seq <| gv_region <| gv_pureN 1 [32] [(32, (.bool (decide (s116.2.1 < ((List.length weights_1 : Nat) : Int)))))] (by kernel_rfl) ?_
      refine gv_nil <| gv_seq <| gv_cond (b := (decide (s116.2.1 < ((List.length weights_1 : Nat) : Int)))) (by kernel_rfl) (fun hc135 => ?_) (fun hc135 => ?_)
      ·replace h2 := ite_t hc135 h2
       refine gv_skip <| gv_seq <| gv_block <| gv_seq <| gv_region <| gv_pureN 1 [33] [(33, (.int .i64 s116.2.1))] (by kernel_rfl) ?_
       refine bindE h2 ?_; clear h2; intro x136 hx137 h2
       refine gv_idxaddr (t := 46) (e := 3) (a := pa1_0) (len := List.length weights_1) (cap := pc1_0) (kk := .i64) (i := s116.2.1) (sz := 1) [] (fun e => by cases e) rfl rfl rfl (by kernel_rfl) (by kernel_rfl) Try.underlying46 (by kernel_rfl) ((hpa1_0.below hB131 hX0).has hx137) (idx_spec hx137).1 (idx_spec hx137).2.1 rfl ?_
       refine gv_load (t := 3) (A := (elemAddr pa1_0 ((s116.2.1).toNat * 1))) (.int .i64 x136) [] (fun e => by cases e) rfl rfl rfl (by kernel_rfl) (by kernel_rfl) (by kernel_rfl) (inw0 ((hpa1_0.below hB131 hX0).cell hx137)) rfl ?_
       refine gv_pureN 2 [10, 11] [(10, (.int .i64 s116.2.1)), (11, (.int .i64 x136))] (by kernel_rfl) ?_
       refine gv_nil <| gv_seq <| gv_seq <| gv_region <| gv_cut_ops (J := fun a w138 => w117 = w138 ∧ a.defers = [] ∧ a.tmps.size = 76 ∧ Ok [(1, (.slice pa1_0 (List.length weights_1) pc1_0)), (5, (bp b7)), (6, (bp b13)), (7, (.pointer none)), (9, (.int .i64 s116.1)), (10, (.int .i64 s116.2.1)), (11, (.int .i64 x136)), (29, (.slice pa1_0 (List.length weights_1) pc1_0)), (30, (.int .i64 ((List.length weights_1 : Nat) : Int))), (31, (.int .i64 s116.2.1)), (41, (.bool ((decide (x136 < 0)) || (decide (x136 > 1000000)))))] a.tmps) ?_ ?_
       ·skip
        refine gv_pureN 3 [36, 37, 38] [(38, (.bool (decide (x136 < 0))))] (by kernel_rfl) ?_
        refine gv_split (s := 38) (g := (decide (x136 < 0))) (by kernel_rfl) (fun hc139 => ?_) (fun hc139 => ?_)
        ·skip
         refine gv_pureN 3 [39, 40, 41] [(41, (.bool true))] (by kernel_rfl) ?_
         refine gv_nil <| gv_sub [1, 5, 6, 7, 9, 10, 11, 29, 30, 31, 41] (σ' := [(1, (.slice pa1_0 (List.length weights_1) pc1_0)), (5, (bp b7)), (6, (bp b13)), (7, (.pointer none)), (9, (.int .i64 s116.1)), (10, (.int .i64 s116.2.1)), (11, (.int .i64 x136)), (29, (.slice pa1_0 (List.length weights_1) pc1_0)), (30, (.int .i64 ((List.length weights_1 : Nat) : Int))), (31, (.int .i64 s116.2.1)), (41, (.bool true))]) (by kernel_rfl) ?_
         refine gv_goal fun a hd hs hok => ⟨rfl, hd, hs, ?_⟩
         obtain ⟨q1, q5, q6, q7, q9, q10, q11, q29, q30, q31, q41, _⟩ := hok
         exact ⟨q1, q5, q6, q7, q9, q10, q11, q29, q30, q31, (by rw [hc139]; exact q41), trivial⟩
        ·skip
         refine gv_pureN 3 [39, 40, 41] [(41, (.bool (decide (x136 > 1000000))))] (by kernel_rfl) ?_
         refine gv_nil <| gv_sub [1, 5, 6, 7, 9, 10, 11, 29, 30, 31, 41] (σ' := [(1, (.slice pa1_0 (List.length weights_1) pc1_0)), (5, (bp b7)), (6, (bp b13)), (7, (.pointer none)), (9, (.int .i64 s116.1)), (10, (.int .i64 s116.2.1)), (11, (.int .i64 x136)), (29, (.slice pa1_0 (List.length weights_1) pc1_0)), (30, (.int .i64 ((List.length weights_1 : Nat) : Int))), (31, (.int .i64 s116.2.1)), (41, (.bool (decide (x136 > 1000000))))]) (by kernel_rfl) ?_
         refine gv_goal fun a hd hs hok => ⟨rfl, hd, hs, ?_⟩
         obtain ⟨q1, q5, q6, q7, q9, q10, q11, q29, q30, q31, q41, _⟩ := hok
         exact ⟨q1, q5, q6, q7, q9, q10, q11, q29, q30, q31, (by rw [hc139]; exact q41), trivial⟩
       ·rintro a w138 ⟨e, hd, hs, hok⟩; subst e
        refine gv_in ?_ hd hs hok
        clear hd hs hok
        refine gv_cond (b := ((decide (x136 < 0)) || (decide (x136 > 1000000)))) (by kernel_rfl) (fun hc140 => ?_) (fun hc140 => ?_)
        ·replace h2 := ite_t hc140 h2
         refine gv_seq <| gv_region <| gv_pureN 2 [42, 43] [(42, (.agg #[(.int .u64 0), (.int .u64 0)])), (43, (.int .i64 s116.2.1))] (by kernel_rfl) ?_
         refine bindE h2 ?_; clear h2; intro r141 hr142 h2
         refine gv_call0 (by kernel_rfl) rfl (by kernel_rfl) enters37 (random_at_ok fuel 4 s116.2.1 w117  r141 hr142) ?_
         rintro v145 w143 ⟨hg144, rfl⟩
         refine gv_pureN 1 [4] [(4, (.int .i64 0))] (by kernel_rfl) ?_
         have hk150 := hb133.grown hg144 nb
         refine gv_store0 27 0 (.agg #[(.int .u64 0), (.int .u64 0)]) #[(.int .u64 0), (.int .u64 0)] hk150 (by kernel_rfl) (by kernel_rfl) (by kernel_rfl) ?_
         intro w146 hg147 hb148 hz149
         have lt155 := ltl ((ltb hb10) _ rfl) ((lowb hbe17) _ rfl)
         have hk156 := (hb134.grown hg144 nb).grown hg147 (rowne (Nat.ne_of_lt lt155))
         refine gv_store0 29 0 (.agg #[(.int .i64 r141.1), (.int .i64 r141.2)]) #[(.int .i64 r141.1), (.int .i64 r141.2)] hk156 (by kernel_rfl) (by kernel_rfl) (by kernel_rfl) ?_
         intro w151 hg152 hb153 hz154
         refine gv_nil <| gv_cret ?_
         have e := sj h2; subst e
         replace h1 := congrArg some (hR2 _ rfl)
         have e := sj h1; subst e
         replace h0 := cont_inr h0
         have e := sj h0; subst e
         have hk157 := hb148.grown hg152 (rowne (ng lt155))
         refine gv_ret (gv_done [(.int .i64 0), (.agg #[(.int .u64 0), (.int .u64 0)]), (.agg #[(.int .i64 r141.1), (.int .i64 r141.2)])] rfl ⟨(by kernel_rfl), ⟨⟨b7, 0, none⟩, (by kernel_rfl), run_loadVar_row w151 b7 _ 27 _ _ _ hk157 Try.underlying27 rfl (by kernel_rfl)⟩, ⟨⟨b13, 0, none⟩, (by kernel_rfl), run_loadVar_row w151 b13 _ 29 _ _ _ hb153 Try.underlying29 rfl (by kernel_rfl)⟩, trivial⟩ ?_)
         have hB158 := bg hB131 hg144 nb
         have hB159 := bg hB0 hg3 nb
         have hlo160 : w0.heap.size ≤ b7 := lob hbe11 hB159.size
         have hB161 := bg hB158 hg147 (rowlo hlo160)
         have hB162 := bg hB159 hg9 nb
         have hlo163 : w0.heap.size ≤ b13 := lob hbe17 hB162.size
         have hB164 := bg hB161 hg152 (rowlo hlo163)
         exact ⟨grown_of_below hB164, rfl⟩
        ·replace h2 := ite_f hc140 h2
         refine gv_skip <| gv_region <| gv_pureN 4 [9, 45, 46, 47] [(9, (.int .i64 (IntKind.i64.wrap (s116.1 + x136))))] (by kernel_rfl) ?_
         refine gv_nil <| gv_blk <| gv_region <| gv_pureN 2 [31, 48] [(31, (.int .i64 (IntKind.i64.wrap (s116.2.1 + 1))))] (by kernel_rfl) ?_
         refine gv_nil ?_
         have e := sj h2; subst e
         refine gv_goal fun a hd hs hok => ?_
         have hz165 := hz132
         exact ⟨((IntKind.i64.wrap (s116.1 + x136)), (IntKind.i64.wrap (s116.2.1 + 1)), (s116.2.2.1.1, s116.2.2.1.2), (s116.2.2.2.1, s116.2.2.2.2)), rfl, hB131, hz165, hb133, hb134, hd, hs, ok_pick [1, 5, 6, 7, 9, 29, 30, 31] hok (by kernel_rfl)⟩
      ·replace h2 := ite_f hc135 h2
       refine gv_cexit <| gv_exit rfl ?_
       have e := sj h2; subst e
       replace h1 := congrArg some (hR2 _ rfl)
       have e := sj h1; subst e
       refine gv_goal fun a hd hs hok => ?_
       have hz166 := hz132
       exact ⟨(s116.1, (s116.2.2.1.1, s116.2.2.1.2), (s116.2.2.2.1, s116.2.2.2.2)), rfl, hB131, hz166, hb133, hb134, hd, hs, ok_pick [1, 5, 6, 7, 9] hok (by kernel_rfl)⟩
    ·rintro a w115 ⟨s114, e, hB167, hz168, hb169, hb170, hd, hs, hok⟩
     subst e
     refine gv_in ?_ hd hs hok
     clear hd hs hok
     replace h0 := cont_inl h0
     clear hz168 hc78 hc44 hz43 hb42 hg41 hz39 hbe38 hb37 hg36 hg24 hr22 hk20 hg19 hz18 hb16 hg15 hz12 hz6 hbe5 hb4
     refine gv_seq <| gv_seq <| gv_region <| gv_pureN 2 [49, 50] [(50, (.bool (s114.1 == 0)))] (by kernel_rfl) ?_
     refine gv_nil <| gv_cond (b := (s114.1 == 0)) (by kernel_rfl) (fun hc171 => ?_) (fun hc171 => ?_)
     ·replace h0 := ite_t hc171 h0
      refine gv_seq <| gv_region <| gv_pureN 1 [51] [(51, (.agg #[(.int .u64 0), (.int .u64 0)]))] (by kernel_rfl) ?_
      refine bindE h0 ?_; clear h0; intro r172 hr173 h0
      refine gv_call0 (by kernel_rfl) rfl (by kernel_rfl) enters37 (random_at_ok fuel 10 (-2) w115  r172 hr173) ?_
      rintro v176 w174 ⟨hg175, rfl⟩
      refine gv_pureN 1 [4] [(4, (.int .i64 0))] (by kernel_rfl) ?_
      have hk181 := hb169.grown hg175 nb
      refine gv_store0 27 0 (.agg #[(.int .u64 0), (.int .u64 0)]) #[(.int .u64 0), (.int .u64 0)] hk181 (by kernel_rfl) (by kernel_rfl) (by kernel_rfl) ?_
      intro w177 hg178 hb179 hz180
      have lt186 := ltl ((ltb hb10) _ rfl) ((lowb hbe17) _ rfl)
      have hk187 := (hb170.grown hg175 nb).grown hg178 (rowne (Nat.ne_of_lt lt186))
      refine gv_store0 29 0 (.agg #[(.int .i64 r172.1), (.int .i64 r172.2)]) #[(.int .i64 r172.1), (.int .i64 r172.2)] hk187 (by kernel_rfl) (by kernel_rfl) (by kernel_rfl) ?_
      intro w182 hg183 hb184 hz185
      refine gv_nil <| gv_cret ?_
      have e := sj h0; subst e
      have hk188 := hb179.grown hg183 (rowne (ng lt186))
      refine gv_ret (gv_done [(.int .i64 0), (.agg #[(.int .u64 0), (.int .u64 0)]), (.agg #[(.int .i64 r172.1), (.int .i64 r172.2)])] rfl ⟨(by kernel_rfl), ⟨⟨b7, 0, none⟩, (by kernel_rfl), run_loadVar_row w182 b7 _ 27 _ _ _ hk188 Try.underlying27 rfl (by kernel_rfl)⟩, ⟨⟨b13, 0, none⟩, (by kernel_rfl), run_loadVar_row w182 b13 _ 29 _ _ _ hb184 Try.underlying29 rfl (by kernel_rfl)⟩, trivial⟩ ?_)
      have hB189 := bg hB167 hg175 nb
      have hB190 := bg hB0 hg3 nb
      have hlo191 : w0.heap.size ≤ b7 := lob hbe11 hB190.size
      have hB192 := bg hB189 hg178 (rowlo hlo191)
      have hB193 := bg hB190 hg9 nb
      have hlo194 : w0.heap.size ≤ b13 := lob hbe17 hB193.size
      have hB195 := bg hB192 hg183 (rowlo hlo194)
      exact ⟨grown_of_below hB195, rfl⟩
     ·replace h0 := ite_f hc171 h0
      refine gv_skip <| gv_seq <| gv_region <| gv_pureN 2 [53, 54] [(53, (.pointer none)), (54, (.int .i64 s114.1))] (by kernel_rfl) ?_
      cases h0
 ·skip
  replace h0 := optc_some hn29 h0
  have hg199 := (grown_trans hg3 hg19)
  have hB200 := bg hB0 hg199 nb
  have hl198 : w0.heap.size ≤ b31 := Nat.le_trans hB200.size hlo33
  refine gv_pureN 3 [14, 17, 18] [(17, (bp b31)), (18, (.agg #[(.int .i64 r21.2.1), (.int .i64 r21.2.2)]))] (by kernel_rfl) ?_
  refine gv_new0 (fun b => .pointer (some ⟨b, 0, none⟩)) #[(.int .i64 0), (.int .i64 0)] 29 (by kernel_rfl) (by kernel_rfl) ?_
  intro b201 w202 hg203 hb204 hbe205 hz206
  refine gv_pureN 1 [7] [(7, (bp b31))] (by kernel_rfl) ?_
  refine gv_store0 29 0 (.agg #[(.int .i64 r21.2.1), (.int .i64 r21.2.2)]) #[(.int .i64 r21.2.1), (.int .i64 r21.2.2)] hb204 (by kernel_rfl) (by kernel_rfl) (by kernel_rfl) ?_
  intro w207 hg208 hb209 hz210
  refine gv_nil <| gv_seq <| gv_seq <| gv_region <| gv_pureN 1 [19] [(19, (bp b201))] (by kernel_rfl) ?_
  refine gv_load (t := 3) (A := ⟨b201, 0, none⟩) (.int .i64 r21.2.1) [] (fun e => by cases e) rfl rfl rfl (by kernel_rfl) (by kernel_rfl) (by kernel_rfl) (inw0 (hb209.cell 0 rfl)) rfl ?_
  refine gv_pureN 1 [21] [(21, (.bool (r21.2.1 != 0)))] (by kernel_rfl) ?_
  refine gv_nil <| gv_cond (b := (r21.2.1 != 0)) (by kernel_rfl) (fun hc211 => ?_) (fun hc211 => ?_)
  ·replace h0 := ite_t hc211 h0
   refine gv_seq <| gv_drawA (by kernel_rfl) ?_
   intro w212 hg213
   refine gv_pre [0, 2] (bA 5 [0, 2]) 3 (by kernel_rfl) (by kernel_rfl) ?_
   refine gv_pureN 2 [4, 22] [(4, (.int .i64 0)), (22, (.agg #[(.int .u64 0), (.int .u64 0)]))] (by kernel_rfl) ?_
   refine gv_sub [4, 5, 6, 8, 22] (σ' := [(4, (.int .i64 0)), (5, (bp b7)), (6, (bp b13)), (8, (bp b201)), (22, (.agg #[(.int .u64 0), (.int .u64 0)]))]) (by kernel_rfl) ?_
   refine gv_nil <| gv_goA ?_
   refine gv_stage (Cls w212 [b7]) [0, 1, 2, 3] [(1, some true), (3, some false)] (bA 5 [0, 1, 2, 3]) 1 (by kernel_rfl) (by kernel_rfl) (Cls.refl _ _) ?_
   have hC214 := Cls.refl w212 [b7]
   have hk215 := hb209.grown hg213 nb
   have lt216 := ltl ((ltb hb10) _ rfl) ((lowb hbe17) _ rfl)
   have lt217 := ltl ((ltb hb16) _ rfl) ((lowe hlo33) _ rfl)
   have lt218 := ltt lt216 lt217
   have lt219 := ltl ((ltb hb32) _ rfl) ((lowb hbe205) _ rfl)
   have lt220 := ltt lt218 lt219
   refine gv_loadBox (t := 29) (b := b201) (t' := 29) (fr := (0, 0)) #[(.int .i64 r21.2.1), (.int .i64 r21.2.2)] [] (fun e => by cases e) rfl rfl rfl (by kernel_rfl) (by kernel_rfl) (by kernel_rfl) (by kernel_rfl) (inw1 fun w' hC' => (hC'.box hk215 (nm_cons (ng lt220) nm_nil))) rfl ?_
   have hg225 := (grown_trans (grown_trans hg15 hg24) hg203)
   have hk226 := ((hb10.grown hg225 nb).grown hg208 (rowne (ng lt220))).grown hg213 nb
   refine gv_store (t := 27) (b := b7) (off := 0) (v := (.agg #[(.int .u64 0), (.int .u64 0)])) (t' := 27) (cs := #[(.int .u64 0), (.int .u64 0)]) #[(.int .u64 0), (.int .u64 0)] (by decide) rfl rfl (by kernel_rfl) (by kernel_rfl) (by kernel_rfl) (by intro u hu; simp [Value.cells] at hu; rcases hu with rfl | rfl <;> rfl) (show 0 + 2 ≤ 2 by decide) (by rfl) hk226 ?_
   intro w221 hg222 hb223 hz224
   refine ⟨(fun _ => hC214.grown hg222 (rowm (List.Mem.head _))), ?_⟩
   refine gv_nil <| gv_goA ?_
   refine gv_stage (fun _ => True) [0, 1, 2, 3, 4] [(4, some false)] (bA 5 [0, 1, 2, 3, 4]) 0 (by kernel_rfl) (by kernel_rfl) trivial ?_
   have hg231 := (grown_trans hg24 hg203)
   have lt232 := ltt lt217 lt219
   have hk233 := (((hb16.grown hg231 nb).grown hg208 (rowne (ng lt232))).grown hg213 nb).grown hg222 (rowne (Nat.ne_of_lt lt216))
   refine gv_store (t := 29) (b := b13) (off := 0) (v := (.agg #[(.int .i64 r21.2.1), (.int .i64 r21.2.2)])) (t' := 29) (cs := #[(.int .i64 0), (.int .i64 0)]) #[(.int .i64 r21.2.1), (.int .i64 r21.2.2)] (by decide) rfl rfl (by kernel_rfl) (by kernel_rfl) (by kernel_rfl) (by intro u hu; simp [Value.cells] at hu; rcases hu with rfl | rfl <;> rfl) (show 0 + 2 ≤ 2 by decide) (by rfl) hk233 ?_
   intro w227 hg228 hb229 hz230
   refine ⟨(fun _ => trivial), ?_⟩
   refine gv_nil <| gv_goA ?_
   refine gv_stageE (by kernel_rfl) ?_
   refine gv_cret ?_
   have e := sj h0; subst e
   have hk234 := hb223.grown hg228 (rowne (ng lt216))
   refine gv_ret (gv_done [(.int .i64 0), (.agg #[(.int .u64 0), (.int .u64 0)]), (.agg #[(.int .i64 r21.2.1), (.int .i64 r21.2.2)])] rfl ⟨(by kernel_rfl), ⟨⟨b7, 0, none⟩, (by kernel_rfl), run_loadVar_row w227 b7 _ 27 _ _ _ hk234 Try.underlying27 rfl (by kernel_rfl)⟩, ⟨⟨b13, 0, none⟩, (by kernel_rfl), run_loadVar_row w227 b13 _ 29 _ _ _ hb229 Try.underlying29 rfl (by kernel_rfl)⟩, trivial⟩ ?_)
   have hB235 := bg hB200 hg231 nb
   have hB236 := bg hB200 hg24 nb
   have hlo237 : w0.heap.size ≤ b201 := lob hbe205 hB236.size
   have hB238 := bg hB235 hg208 (rowlo hlo237)
   have hB239 := bg hB238 hg213 nb
   have hB240 := bg hB0 hg3 nb
   have hlo241 : w0.heap.size ≤ b7 := lob hbe11 hB240.size
   have hB242 := bg hB239 hg222 (rowlo hlo241)
   have hB243 := bg hB240 hg9 nb
   have hlo244 : w0.heap.size ≤ b13 := lob hbe17 hB243.size
   have hB245 := bg hB242 hg228 (rowlo hlo244)
   exact ⟨grown_of_below hB245, rfl⟩
  ·replace h0 := ite_f hc211 h0
   refine gv_skip <| gv_seq <| gv_seq <| gv_region <| gv_pureN 3 [24, 25, 26] [(26, (.bool (decide (((List.length weights_1 : Nat) : Int) > 1000))))] (by kernel_rfl) ?_
   refine gv_sub [1, 5, 6, 7, 26] (σ' := [(1, (.slice pa1_0 (List.length weights_1) pc1_0)), (5, (bp b7)), (6, (bp b13)), (7, (bp b31)), (26, (.bool (decide (((List.length weights_1 : Nat) : Int) > 1000))))]) (by kernel_rfl) ?_
   refine gv_nil <| gv_cond (b := (decide (((List.length weights_1 : Nat) : Int) > 1000))) (by kernel_rfl) (fun hc246 => ?_) (fun hc246 => ?_)
   ·replace h0 := ite_t hc246 h0
    refine gv_seq <| gv_region <| gv_pureN 1 [27] [(27, (.agg #[(.int .u64 0), (.int .u64 0)]))] (by kernel_rfl) ?_
    refine bindE h0 ?_; clear h0; intro r247 hr248 h0
    refine gv_call0 (by kernel_rfl) rfl (by kernel_rfl) enters37 (random_at_ok fuel 2 (-2) w207  r247 hr248) ?_
    rintro v251 w249 ⟨hg250, rfl⟩
    clear hr248 hc246 hc211 hz210 hb209 hz206 hb204 hl198 hg199 hr22 hk20 hg19 hz18 hz12 hz6 hbe5 hb4
    refine gv_pureN 1 [4] [(4, (.int .i64 0))] (by kernel_rfl) ?_
    have hg256 := (grown_trans (grown_trans hg15 hg24) hg203)
    have lt257 := ltl ((ltb hb10) _ rfl) ((lowb hbe17) _ rfl)
    have lt258 := ltl ((ltb hb16) _ rfl) ((lowe hlo33) _ rfl)
    have lt259 := ltt lt257 lt258
    have lt260 := ltl ((ltb hb32) _ rfl) ((lowb hbe205) _ rfl)
    have lt261 := ltt lt259 lt260
    have hk262 := ((hb10.grown hg256 nb).grown hg208 (rowne (ng lt261))).grown hg250 nb
    refine gv_store0 27 0 (.agg #[(.int .u64 0), (.int .u64 0)]) #[(.int .u64 0), (.int .u64 0)] hk262 (by kernel_rfl) (by kernel_rfl) (by kernel_rfl) ?_
    intro w252 hg253 hb254 hz255
    have hg267 := (grown_trans hg24 hg203)
    have lt268 := ltt lt258 lt260
    have hk269 := (((hb16.grown hg267 nb).grown hg208 (rowne (ng lt268))).grown hg250 nb).grown hg253 (rowne (Nat.ne_of_lt lt257))
    refine gv_store0 29 0 (.agg #[(.int .i64 r247.1), (.int .i64 r247.2)]) #[(.int .i64 r247.1), (.int .i64 r247.2)] hk269 (by kernel_rfl) (by kernel_rfl) (by kernel_rfl) ?_
    intro w263 hg264 hb265 hz266
    refine gv_nil <| gv_cret ?_
    have e := sj h0; subst e
    have hk270 := hb254.grown hg264 (rowne (ng lt257))
    refine gv_ret (gv_done [(.int .i64 0), (.agg #[(.int .u64 0), (.int .u64 0)]), (.agg #[(.int .i64 r247.1), (.int .i64 r247.2)])] rfl ⟨(by kernel_rfl), ⟨⟨b7, 0, none⟩, (by kernel_rfl), run_loadVar_row w263 b7 _ 27 _ _ _ hk270 Try.underlying27 rfl (by kernel_rfl)⟩, ⟨⟨b13, 0, none⟩, (by kernel_rfl), run_loadVar_row w263 b13 _ 29 _ _ _ hb265 Try.underlying29 rfl (by kernel_rfl)⟩, trivial⟩ ?_)
    have hB271 := bg hB200 hg267 nb
    have hB272 := bg hB200 hg24 nb
    have hlo273 : w0.heap.size ≤ b201 := lob hbe205 hB272.size
    have hB274 := bg hB271 hg208 (rowlo hlo273)
    have hB275 := bg hB274 hg250 nb
    have hB276 := bg hB0 hg3 nb
    have hlo277 : w0.heap.size ≤ b7 := lob hbe11 hB276.size
    have hB278 := bg hB275 hg253 (rowlo hlo277)
    have hB279 := bg hB276 hg9 nb
    have hlo280 : w0.heap.size ≤ b13 := lob hbe17 hB279.size
    have hB281 := bg hB278 hg264 (rowlo hlo280)
    exact ⟨grown_of_below hB281, rfl⟩
   ·replace h0 := ite_f hc246 h0
    refine gv_skip <| gv_seq <| gv_region <| gv_pureN 1 [9] [(9, (.int .i64 0))] (by kernel_rfl) ?_
    refine gv_nil <| gv_seq <| gv_seq <| gv_region <| gv_pureN 3 [29, 30, 31] [(29, (.slice pa1_0 (List.length weights_1) pc1_0)), (30, (.int .i64 ((List.length weights_1 : Nat) : Int))), (31, (.int .i64 0))] (by kernel_rfl) ?_
    refine gv_nil <| bindE h0 ?_; clear h0; intro j282 h1 h0
    refine gv_cut_code (J := fun a w284 => ∃ s283 : (Int × (Int × Int) × (Int × Int)), j282 = .inl s283 ∧ Below w0.heap.size w0 w284 ∧ w207.heap.size ≤ w284.heap.size ∧ Box w284 b7 27 #[(.int .u64 s283.2.1.1), (.int .u64 s283.2.1.2)] ∧ Box w284 b13 29 #[(.int .i64 s283.2.2.1), (.int .i64 s283.2.2.2)] ∧ Box w284 b31 81 #[(.int .u64 x30.1), (.int .u64 x30.2)] ∧ a.defers = [] ∧ a.tmps.size = 76 ∧ Ok [(1, (.slice pa1_0 (List.length weights_1) pc1_0)), (5, (bp b7)), (6, (bp b13)), (7, (bp b31)), (9, (.int .i64 s283.1))] a.tmps) ?_ ?_
    ·skip
     refine gv_block <| gv_loop (A := fun (s285 : (Int × Int × (Int × Int) × (Int × Int))) a w286 => Below w0.heap.size w0 w286 ∧ w207.heap.size ≤ w286.heap.size ∧ Box w286 b7 27 #[(.int .u64 s285.2.2.1.1), (.int .u64 s285.2.2.1.2)] ∧ Box w286 b13 29 #[(.int .i64 s285.2.2.2.1), (.int .i64 s285.2.2.2.2)] ∧ Box w286 b31 81 #[(.int .u64 x30.1), (.int .u64 x30.2)] ∧ a.defers = [] ∧ a.tmps.size = 76 ∧ Ok [(1, (.slice pa1_0 (List.length weights_1) pc1_0)), (5, (bp b7)), (6, (bp b13)), (7, (bp b31)), (9, (.int .i64 s285.1)), (29, (.slice pa1_0 (List.length weights_1) pc1_0)), (30, (.int .i64 ((List.length weights_1 : Nat) : Int))), (31, (.int .i64 s285.2.1))] a.tmps) h1 ?_ ?_
     ·intro a hd hs hok
      have hg287 := (grown_trans hg24 hg203)
      have hB288 := bg hB200 hg287 nb
      have hB289 := bg hB200 hg24 nb
      have hlo290 : w0.heap.size ≤ b201 := lob hbe205 hB289.size
      have hB291 := bg hB288 hg208 (rowlo hlo290)
      have hg292 := (grown_trans hg15 hg287)
      have lt293 := ltl ((ltb hb10) _ rfl) ((lowb hbe17) _ rfl)
      have lt294 := ltl ((ltb hb16) _ rfl) ((lowe hlo33) _ rfl)
      have lt295 := ltt lt293 lt294
      have lt296 := ltl ((ltb hb32) _ rfl) ((lowb hbe205) _ rfl)
      have lt297 := ltt lt295 lt296
      have hk298 := (hb10.grown hg292 nb).grown hg208 (rowne (ng lt297))
      have lt299 := ltt lt294 lt296
      have hk300 := (hb16.grown hg287 nb).grown hg208 (rowne (ng lt299))
      have hk301 := (hb32.grown hg203 nb).grown hg208 (rowne (ng lt296))
      exact ⟨hB291, (Nat.le_refl _), hk298, hk300, hk301, hd, hs, ok_pick [1, 5, 6, 7, 9, 29, 30, 31] hok (by kernel_rfl)⟩
     ·rintro s285 r2 h2 hR2 a w286 ⟨hB302, hz303, hb304, hb305, hb306, hd, hs, hok⟩
      refine gv_in ?_ hd hs hok
      clear hd hs hok
      clear hc246 hc211 hz210 hb209 hg208 hz206 hbe205 hb204 hg203 hB200 hg199 hg24 hr22 hk20 hg19 hz18 hg15 hz12 hz6 hbe5 hb4
      refine gv_seq <| gv_region <| gv_pureN 1 [32] [(32, (.bool (decide (s285.2.1 < ((List.length weights_1 : Nat) : Int)))))] (by kernel_rfl) ?_
      refine gv_nil <| gv_seq <| gv_cond (b := (decide (s285.2.1 < ((List.length weights_1 : Nat) : Int)))) (by kernel_rfl) (fun hc307 => ?_) (fun hc307 => ?_)
      ·replace h2 := ite_t hc307 h2
       refine gv_skip <| gv_seq <| gv_block <| gv_seq <| gv_region <| gv_pureN 1 [33] [(33, (.int .i64 s285.2.1))] (by kernel_rfl) ?_
       refine bindE h2 ?_; clear h2; intro x308 hx309 h2
       refine gv_idxaddr (t := 46) (e := 3) (a := pa1_0) (len := List.length weights_1) (cap := pc1_0) (kk := .i64) (i := s285.2.1) (sz := 1) [] (fun e => by cases e) rfl rfl rfl (by kernel_rfl) (by kernel_rfl) Try.underlying46 (by kernel_rfl) ((hpa1_0.below hB302 hX0).has hx309) (idx_spec hx309).1 (idx_spec hx309).2.1 rfl ?_
       refine gv_load (t := 3) (A := (elemAddr pa1_0 ((s285.2.1).toNat * 1))) (.int .i64 x308) [] (fun e => by cases e) rfl rfl rfl (by kernel_rfl) (by kernel_rfl) (by kernel_rfl) (inw0 ((hpa1_0.below hB302 hX0).cell hx309)) rfl ?_
       refine gv_pureN 2 [10, 11] [(10, (.int .i64 s285.2.1)), (11, (.int .i64 x308))] (by kernel_rfl) ?_
       refine gv_nil <| gv_seq <| gv_seq <| gv_region <| gv_cut_ops (J := fun a w310 => w286 = w310 ∧ a.defers = [] ∧ a.tmps.size = 76 ∧ Ok [(1, (.slice pa1_0 (List.length weights_1) pc1_0)), (5, (bp b7)), (6, (bp b13)), (7, (bp b31)), (9, (.int .i64 s285.1)), (10, (.int .i64 s285.2.1)), (11, (.int .i64 x308)), (29, (.slice pa1_0 (List.length weights_1) pc1_0)), (30, (.int .i64 ((List.length weights_1 : Nat) : Int))), (31, (.int .i64 s285.2.1)), (41, (.bool ((decide (x308 < 0)) || (decide (x308 > 1000000)))))] a.tmps) ?_ ?_
       ·skip
        refine gv_pureN 3 [36, 37, 38] [(38, (.bool (decide (x308 < 0))))] (by kernel_rfl) ?_
        refine gv_split (s := 38) (g := (decide (x308 < 0))) (by kernel_rfl) (fun hc311 => ?_) (fun hc311 => ?_)
        ·skip
         refine gv_pureN 3 [39, 40, 41] [(41, (.bool true))] (by kernel_rfl) ?_
         refine gv_nil <| gv_sub [1, 5, 6, 7, 9, 10, 11, 29, 30, 31, 41] (σ' := [(1, (.slice pa1_0 (List.length weights_1) pc1_0)), (5, (bp b7)), (6, (bp b13)), (7, (bp b31)), (9, (.int .i64 s285.1)), (10, (.int .i64 s285.2.1)), (11, (.int .i64 x308)), (29, (.slice pa1_0 (List.length weights_1) pc1_0)), (30, (.int .i64 ((List.length weights_1 : Nat) : Int))), (31, (.int .i64 s285.2.1)), (41, (.bool true))]) (by kernel_rfl) ?_
         refine gv_goal fun a hd hs hok => ⟨rfl, hd, hs, ?_⟩
         obtain ⟨q1, q5, q6, q7, q9, q10, q11, q29, q30, q31, q41, _⟩ := hok
         exact ⟨q1, q5, q6, q7, q9, q10, q11, q29, q30, q31, (by rw [hc311]; exact q41), trivial⟩
        ·skip
         refine gv_pureN 3 [39, 40, 41] [(41, (.bool (decide (x308 > 1000000))))] (by kernel_rfl) ?_
         refine gv_nil <| gv_sub [1, 5, 6, 7, 9, 10, 11, 29, 30, 31, 41] (σ' := [(1, (.slice pa1_0 (List.length weights_1) pc1_0)), (5, (bp b7)), (6, (bp b13)), (7, (bp b31)), (9, (.int .i64 s285.1)), (10, (.int .i64 s285.2.1)), (11, (.int .i64 x308)), (29, (.slice pa1_0 (List.length weights_1) pc1_0)), (30, (.int .i64 ((List.length weights_1 : Nat) : Int))), (31, (.int .i64 s285.2.1)), (41, (.bool (decide (x308 > 1000000))))]) (by kernel_rfl) ?_
         refine gv_goal fun a hd hs hok => ⟨rfl, hd, hs, ?_⟩
         obtain ⟨q1, q5, q6, q7, q9, q10, q11, q29, q30, q31, q41, _⟩ := hok
         exact ⟨q1, q5, q6, q7, q9, q10, q11, q29, q30, q31, (by rw [hc311]; exact q41), trivial⟩
       ·rintro a w310 ⟨e, hd, hs, hok⟩; subst e
        refine gv_in ?_ hd hs hok
        clear hd hs hok
        refine gv_cond (b := ((decide (x308 < 0)) || (decide (x308 > 1000000)))) (by kernel_rfl) (fun hc312 => ?_) (fun hc312 => ?_)
        ·replace h2 := ite_t hc312 h2
         refine gv_seq <| gv_region <| gv_pureN 2 [42, 43] [(42, (.agg #[(.int .u64 0), (.int .u64 0)])), (43, (.int .i64 s285.2.1))] (by kernel_rfl) ?_
         refine bindE h2 ?_; clear h2; intro r313 hr314 h2
         refine gv_call0 (by kernel_rfl) rfl (by kernel_rfl) enters37 (random_at_ok fuel 4 s285.2.1 w286  r313 hr314) ?_
         rintro v317 w315 ⟨hg316, rfl⟩
         refine gv_pureN 1 [4] [(4, (.int .i64 0))] (by kernel_rfl) ?_
         have hk322 := hb304.grown hg316 nb
         refine gv_store0 27 0 (.agg #[(.int .u64 0), (.int .u64 0)]) #[(.int .u64 0), (.int .u64 0)] hk322 (by kernel_rfl) (by kernel_rfl) (by kernel_rfl) ?_
         intro w318 hg319 hb320 hz321
         have lt327 := ltl ((ltb hb10) _ rfl) ((lowb hbe17) _ rfl)
         have hk328 := (hb305.grown hg316 nb).grown hg319 (rowne (Nat.ne_of_lt lt327))
         refine gv_store0 29 0 (.agg #[(.int .i64 r313.1), (.int .i64 r313.2)]) #[(.int .i64 r313.1), (.int .i64 r313.2)] hk328 (by kernel_rfl) (by kernel_rfl) (by kernel_rfl) ?_
         intro w323 hg324 hb325 hz326
         refine gv_nil <| gv_cret ?_
         have e := sj h2; subst e
         replace h1 := congrArg some (hR2 _ rfl)
         have e := sj h1; subst e
         replace h0 := cont_inr h0
         have e := sj h0; subst e
         have hk329 := hb320.grown hg324 (rowne (ng lt327))
         refine gv_ret (gv_done [(.int .i64 0), (.agg #[(.int .u64 0), (.int .u64 0)]), (.agg #[(.int .i64 r313.1), (.int .i64 r313.2)])] rfl ⟨(by kernel_rfl), ⟨⟨b7, 0, none⟩, (by kernel_rfl), run_loadVar_row w323 b7 _ 27 _ _ _ hk329 Try.underlying27 rfl (by kernel_rfl)⟩, ⟨⟨b13, 0, none⟩, (by kernel_rfl), run_loadVar_row w323 b13 _ 29 _ _ _ hb325 Try.underlying29 rfl (by kernel_rfl)⟩, trivial⟩ ?_)
         have hB330 := bg hB302 hg316 nb
         have hB331 := bg hB0 hg3 nb
         have hlo332 : w0.heap.size ≤ b7 := lob hbe11 hB331.size
         have hB333 := bg hB330 hg319 (rowlo hlo332)
         have hB334 := bg hB331 hg9 nb
         have hlo335 : w0.heap.size ≤ b13 := lob hbe17 hB334.size
         have hB336 := bg hB333 hg324 (rowlo hlo335)
         exact ⟨grown_of_below hB336, rfl⟩
        ·replace h2 := ite_f hc312 h2
         refine gv_skip <| gv_region <| gv_pureN 4 [9, 45, 46, 47] [(9, (.int .i64 (IntKind.i64.wrap (s285.1 + x308))))] (by kernel_rfl) ?_
         refine gv_nil <| gv_blk <| gv_region <| gv_pureN 2 [31, 48] [(31, (.int .i64 (IntKind.i64.wrap (s285.2.1 + 1))))] (by kernel_rfl) ?_
         refine gv_nil ?_
         have e := sj h2; subst e
         refine gv_goal fun a hd hs hok => ?_
         have hz337 := hz303
         exact ⟨((IntKind.i64.wrap (s285.1 + x308)), (IntKind.i64.wrap (s285.2.1 + 1)), (s285.2.2.1.1, s285.2.2.1.2), (s285.2.2.2.1, s285.2.2.2.2)), rfl, hB302, hz337, hb304, hb305, hb306, hd, hs, ok_pick [1, 5, 6, 7, 9, 29, 30, 31] hok (by kernel_rfl)⟩
      ·replace h2 := ite_f hc307 h2
       refine gv_cexit <| gv_exit rfl ?_
       have e := sj h2; subst e
       replace h1 := congrArg some (hR2 _ rfl)
       have e := sj h1; subst e
       refine gv_goal fun a hd hs hok => ?_
       have hz338 := hz303
       exact ⟨(s285.1, (s285.2.2.1.1, s285.2.2.1.2), (s285.2.2.2.1, s285.2.2.2.2)), rfl, hB302, hz338, hb304, hb305, hb306, hd, hs, ok_pick [1, 5, 6, 7, 9] hok (by kernel_rfl)⟩
    ·rintro a w284 ⟨s283, e, hB339, hz340, hb341, hb342, hb343, hd, hs, hok⟩
     subst e
     refine gv_in ?_ hd hs hok
     clear hd hs hok
     replace h0 := cont_inl h0
     clear hz340 hc246 hc211 hz210 hb209 hg208 hz206 hbe205 hb204 hg203 hB200 hg199 hg24 hr22 hk20 hg19 hz18 hg15 hz12 hz6 hbe5 hb4
     refine gv_seq <| gv_seq <| gv_region <| gv_pureN 2 [49, 50] [(50, (.bool (s283.1 == 0)))] (by kernel_rfl) ?_
     refine gv_nil <| gv_cond (b := (s283.1 == 0)) (by kernel_rfl) (fun hc344 => ?_) (fun hc344 => ?_)
     ·replace h0 := ite_t hc344 h0
      refine gv_seq <| gv_region <| gv_pureN 1 [51] [(51, (.agg #[(.int .u64 0), (.int .u64 0)]))] (by kernel_rfl) ?_
      refine bindE h0 ?_; clear h0; intro r345 hr346 h0
      refine gv_call0 (by kernel_rfl) rfl (by kernel_rfl) enters37 (random_at_ok fuel 10 (-2) w284  r345 hr346) ?_
      rintro v349 w347 ⟨hg348, rfl⟩
      refine gv_pureN 1 [4] [(4, (.int .i64 0))] (by kernel_rfl) ?_
      have hk354 := hb341.grown hg348 nb
      refine gv_store0 27 0 (.agg #[(.int .u64 0), (.int .u64 0)]) #[(.int .u64 0), (.int .u64 0)] hk354 (by kernel_rfl) (by kernel_rfl) (by kernel_rfl) ?_
      intro w350 hg351 hb352 hz353
      have lt359 := ltl ((ltb hb10) _ rfl) ((lowb hbe17) _ rfl)
      have hk360 := (hb342.grown hg348 nb).grown hg351 (rowne (Nat.ne_of_lt lt359))
      refine gv_store0 29 0 (.agg #[(.int .i64 r345.1), (.int .i64 r345.2)]) #[(.int .i64 r345.1), (.int .i64 r345.2)] hk360 (by kernel_rfl) (by kernel_rfl) (by kernel_rfl) ?_
      intro w355 hg356 hb357 hz358
      clear hz358 hk360 hz353 hk354 hr346 hc344 hb343 hb342 hb341 hl198 hb16 hb10
      refine gv_nil <| gv_cret ?_
      have e := sj h0; subst e
      have hk361 := hb352.grown hg356 (rowne (ng lt359))
      refine gv_ret (gv_done [(.int .i64 0), (.agg #[(.int .u64 0), (.int .u64 0)]), (.agg #[(.int .i64 r345.1), (.int .i64 r345.2)])] rfl ⟨(by kernel_rfl), ⟨⟨b7, 0, none⟩, (by kernel_rfl), run_loadVar_row w355 b7 _ 27 _ _ _ hk361 Try.underlying27 rfl (by kernel_rfl)⟩, ⟨⟨b13, 0, none⟩, (by kernel_rfl), run_loadVar_row w355 b13 _ 29 _ _ _ hb357 Try.underlying29 rfl (by kernel_rfl)⟩, trivial⟩ ?_)
      have hB362 := bg hB339 hg348 nb
      have hB363 := bg hB0 hg3 nb
      have hlo364 : w0.heap.size ≤ b7 := lob hbe11 hB363.size
      have hB365 := bg hB362 hg351 (rowlo hlo364)
      have hB366 := bg hB363 hg9 nb
      have hlo367 : w0.heap.size ≤ b13 := lob hbe17 hB366.size
      have hB368 := bg hB365 hg356 (rowlo hlo367)
      exact ⟨grown_of_below hB368, rfl⟩
     ·replace h0 := ite_f hc344 h0
      refine gv_skip <| gv_seq <| gv_region <| gv_pureN 2 [53, 54] [(53, (bp b31)), (54, (.int .i64 s283.1))] (by kernel_rfl) ?_
      refine bindE h0 ?_; clear h0; intro r369 hr370 h0
      refine gv_call0 (by kernel_rfl) rfl (by kernel_rfl) enters56 (random_source_small_ok fuel b31 (x30.1, x30.2) s283.1 w284 hb343 r369 hr370) ?_
      rintro v373 w371 ⟨hg372, rfl, hb374⟩
      refine gv_pureN 1 [12] [(12, (.int .i64 r369.1))] (by kernel_rfl) ?_
      refine gv_nil <| gv_seq <| gv_region <| gv_pureN 1 [13] [(13, (.int .i64 0))] (by kernel_rfl) ?_
      refine gv_nil <| gv_seq <| bindE h0 ?_; clear h0; intro j375 h1 h0
      refine gv_cut_code (J := fun a w376 => Below w0.heap.size w0 w376 ∧ w371.heap.size ≤ w376.heap.size ∧ Box w376 b7 27 #[(.int .u64 s283.2.1.1), (.int .u64 s283.2.1.2)] ∧ Box w376 b13 29 #[(.int .i64 s283.2.2.1), (.int .i64 s283.2.2.2)] ∧ Box w376 b31 81 #[(.int .u64 r369.2.1), (.int .u64 r369.2.2)] ∧ a.defers = [] ∧ a.tmps.size = 76 ∧ Ok [(5, (bp b7)), (6, (bp b13)), (7, (bp b31)), (13, (.int .i64 j375))] a.tmps) ?_ ?_
      ·skip
       refine gv_block <| gv_loop (A := fun (s377 : (Int × Int)) a w378 => Below w0.heap.size w0 w378 ∧ w371.heap.size ≤ w378.heap.size ∧ Box w378 b7 27 #[(.int .u64 s283.2.1.1), (.int .u64 s283.2.1.2)] ∧ Box w378 b13 29 #[(.int .i64 s283.2.2.1), (.int .i64 s283.2.2.2)] ∧ Box w378 b31 81 #[(.int .u64 r369.2.1), (.int .u64 r369.2.2)] ∧ a.defers = [] ∧ a.tmps.size = 76 ∧ Ok [(1, (.slice pa1_0 (List.length weights_1) pc1_0)), (5, (bp b7)), (6, (bp b13)), (7, (bp b31)), (12, (.int .i64 s377.1)), (13, (.int .i64 s377.2))] a.tmps) h1 ?_ ?_
       ·intro a hd hs hok
        have hB379 := bg hB339 hg372 (rowlo hl198)
        have lt380 := ltl ((ltb hb10) _ rfl) ((lowb hbe17) _ rfl)
        have lt381 := ltl ((ltb hb16) _ rfl) ((lowe hlo33) _ rfl)
        have lt382 := ltt lt380 lt381
        have hk383 := hb341.grown hg372 (rowne (ng lt382))
        have hk384 := hb342.grown hg372 (rowne (ng lt381))
        exact ⟨hB379, (Nat.le_refl _), hk383, hk384, hb374, hd, hs, ok_pick [1, 5, 6, 7, 12, 13] hok (by kernel_rfl)⟩
       ·rintro s377 r2 h2 hR2 a w378 ⟨hB385, hz386, hb387, hb388, hb389, hd, hs, hok⟩
        refine gv_in ?_ hd hs hok
        clear hd hs hok
        clear hb374 hg372 hr370 hc344 hb343 hb342 hb341 hB339
        refine gv_seq <| gv_seq <| gv_region <| gv_pureN 3 [56, 57, 58] [(56, (.int .i64 s377.1)), (57, (.slice pa1_0 (List.length weights_1) pc1_0)), (58, (.int .i64 s377.2))] (by kernel_rfl) ?_
        refine bindE h2 ?_; clear h2; intro x390 hx391 h2
        refine gv_idxaddr (t := 46) (e := 3) (a := pa1_0) (len := List.length weights_1) (cap := pc1_0) (kk := .i64) (i := s377.2) (sz := 1) [] (fun e => by cases e) rfl rfl rfl (by kernel_rfl) (by kernel_rfl) Try.underlying46 (by kernel_rfl) ((hpa1_0.below hB385 hX0).has hx391) (idx_spec hx391).1 (idx_spec hx391).2.1 rfl ?_
        refine gv_load (t := 3) (A := (elemAddr pa1_0 ((s377.2).toNat * 1))) (.int .i64 x390) [] (fun e => by cases e) rfl rfl rfl (by kernel_rfl) (by kernel_rfl) (by kernel_rfl) (inw0 ((hpa1_0.below hB385 hX0).cell hx391)) rfl ?_
        refine gv_pureN 1 [61] [(61, (.bool (decide (s377.1 ≥ x390))))] (by kernel_rfl) ?_
        refine gv_nil <| gv_cond (b := (decide (s377.1 ≥ x390))) (by kernel_rfl) (fun hc392 => ?_) (fun hc392 => ?_)
        ·replace h2 := ite_t hc392 h2
         refine gv_skip <| gv_block <| gv_seq <| gv_region <| gv_pureN 3 [62, 63, 64] [(62, (.int .i64 s377.1)), (63, (.slice pa1_0 (List.length weights_1) pc1_0)), (64, (.int .i64 s377.2))] (by kernel_rfl) ?_
         refine bindE h2 ?_; clear h2; intro x393 hx394 h2
         refine gv_idxaddr (t := 46) (e := 3) (a := pa1_0) (len := List.length weights_1) (cap := pc1_0) (kk := .i64) (i := s377.2) (sz := 1) [] (fun e => by cases e) rfl rfl rfl (by kernel_rfl) (by kernel_rfl) Try.underlying46 (by kernel_rfl) ((hpa1_0.below hB385 hX0).has hx394) (idx_spec hx394).1 (idx_spec hx394).2.1 rfl ?_
         refine gv_load (t := 3) (A := (elemAddr pa1_0 ((s377.2).toNat * 1))) (.int .i64 x393) [] (fun e => by cases e) rfl rfl rfl (by kernel_rfl) (by kernel_rfl) (by kernel_rfl) (inw0 ((hpa1_0.below hB385 hX0).cell hx394)) rfl ?_
         refine gv_pureN 2 [12, 67] [(12, (.int .i64 (IntKind.i64.wrap (s377.1 - x393))))] (by kernel_rfl) ?_
         refine gv_nil <| gv_region <| gv_pureN 3 [13, 68, 69] [(13, (.int .i64 (IntKind.i64.wrap (s377.2 + 1))))] (by kernel_rfl) ?_
         refine gv_nil <| gv_blk ?_
         have e := sj h2; subst e
         refine gv_goal fun a hd hs hok => ?_
         have hz395 := hz386
         exact ⟨((IntKind.i64.wrap (s377.1 - x393)), (IntKind.i64.wrap (s377.2 + 1))), rfl, hB385, hz395, hb387, hb388, hb389, hd, hs, ok_pick [1, 5, 6, 7, 12, 13] hok (by kernel_rfl)⟩
        ·replace h2 := ite_f hc392 h2
         refine gv_cexit <| gv_exit rfl ?_
         have e := sj h2; subst e
         replace h1 := congrArg some (hR2 _ rfl)
         have e := sj h1; subst e
         refine gv_goal fun a hd hs hok => ?_
         have hz396 := hz386
         exact ⟨hB385, hz396, hb387, hb388, hb389, hd, hs, ok_pick [5, 6, 7, 13] hok (by kernel_rfl)⟩
      ·rintro a w376 ⟨hB397, hz398, hb399, hb400, hb401, hd, hs, hok⟩
       refine gv_in ?_ hd hs hok
       clear hd hs hok
       clear hz398 hb374 hg372 hr370 hc344 hb343 hb342 hb341 hB339
       refine gv_seq <| gv_drawA (by kernel_rfl) ?_
       intro w402 hg403
       refine gv_pre [0, 1, 2, 3, 5, 6] (bA 9 [0, 1, 2, 3, 5, 6]) 3 (by kernel_rfl) (by kernel_rfl) ?_
       refine gv_pureN 6 [4, 70, 71, 72, 73, 75] [(4, (.int .i64 j375)), (73, (bp b31)), (75, (.agg #[(.int .i64 0), (.int .i64 0)]))] (by kernel_rfl) ?_
       refine gv_nil <| gv_goA ?_
       refine gv_stage (Cls w402 []) [0, 1, 2, 3, 4, 5, 6] [(4, some true)] (bA 9 [0, 1, 2, 3, 4, 5, 6]) 2 (by kernel_rfl) (by kernel_rfl) (Cls.refl _ _) ?_
       have hC404 := Cls.refl w402 []
       have hk405 := hb401.grown hg403 nb
       refine gv_loadBox (t := 27) (b := b31) (t' := 81) (fr := (0, 0)) #[(.int .u64 r369.2.1), (.int .u64 r369.2.2)] [] (fun e => by cases e) rfl rfl rfl (by kernel_rfl) (by kernel_rfl) (by kernel_rfl) (by kernel_rfl) (inw1 fun w' hC' => (hC'.box hk405 nm_nil)) rfl ?_
       refine gv_nil <| gv_goA ?_
       refine gv_stage (fun _ => True) [0, 1, 2, 3, 4, 5, 6, 7] [(7, some false)] (bA 9 [0, 1, 2, 3, 4, 5, 6, 7]) 1 (by kernel_rfl) (by kernel_rfl) trivial ?_
       have hk410 := hb399.grown hg403 nb
       refine gv_store (t := 27) (b := b7) (off := 0) (v := (.agg #[(.int .u64 r369.2.1), (.int .u64 r369.2.2)])) (t' := 27) (cs := #[(.int .u64 s283.2.1.1), (.int .u64 s283.2.1.2)]) #[(.int .u64 r369.2.1), (.int .u64 r369.2.2)] (by decide) rfl rfl (by kernel_rfl) (by kernel_rfl) (by kernel_rfl) (by intro u hu; simp [Value.cells] at hu; rcases hu with rfl | rfl <;> rfl) (show 0 + 2 ≤ 2 by decide) (by rfl) hk410 ?_
       intro w406 hg407 hb408 hz409
       refine ⟨(fun _ => trivial), ?_⟩
       refine gv_nil <| gv_goA ?_
       refine gv_stage (fun _ => True) [0, 1, 2, 3, 4, 5, 6, 7, 8] [(8, some false)] (bA 9 [0, 1, 2, 3, 4, 5, 6, 7, 8]) 0 (by kernel_rfl) (by kernel_rfl) trivial ?_
       have lt415 := ltl ((ltb hb10) _ rfl) ((lowb hbe17) _ rfl)
       have hk416 := (hb400.grown hg403 nb).grown hg407 (rowne (Nat.ne_of_lt lt415))
       refine gv_store (t := 29) (b := b13) (off := 0) (v := (.agg #[(.int .i64 0), (.int .i64 0)])) (t' := 29) (cs := #[(.int .i64 s283.2.2.1), (.int .i64 s283.2.2.2)]) #[(.int .i64 0), (.int .i64 0)] (by decide) rfl rfl (by kernel_rfl) (by kernel_rfl) (by kernel_rfl) (by intro u hu; simp [Value.cells] at hu; rcases hu with rfl | rfl <;> rfl) (show 0 + 2 ≤ 2 by decide) (by rfl) hk416 ?_
       intro w411 hg412 hb413 hz414
       refine ⟨(fun _ => trivial), ?_⟩
       refine gv_nil <| gv_goA ?_
       refine gv_stageE (by kernel_rfl) ?_
       refine gv_cret ?_
       have e := sj h0; subst e
       have hk417 := hb408.grown hg412 (rowne (ng lt415))
       refine gv_ret (gv_done [(.int .i64 j375), (.agg #[(.int .u64 r369.2.1), (.int .u64 r369.2.2)]), (.agg #[(.int .i64 0), (.int .i64 0)])] rfl ⟨(by kernel_rfl), ⟨⟨b7, 0, none⟩, (by kernel_rfl), run_loadVar_row w411 b7 _ 27 _ _ _ hk417 Try.underlying27 rfl (by kernel_rfl)⟩, ⟨⟨b13, 0, none⟩, (by kernel_rfl), run_loadVar_row w411 b13 _ 29 _ _ _ hb413 Try.underlying29 rfl (by kernel_rfl)⟩, trivial⟩ ?_)
       have hB418 := bg hB397 hg403 nb
       have hB419 := bg hB0 hg3 nb
       have hlo420 : w0.heap.size ≤ b7 := lob hbe11 hB419.size
       have hB421 := bg hB418 hg407 (rowlo hlo420)
       have hB422 := bg hB419 hg9 nb
       have hlo423 : w0.heap.size ≤ b13 := lob hbe17 hB422.size
       have hB424 := bg hB421 hg412 (rowlo hlo423)
       exact ⟨grown_of_below hB424, rfl⟩

theorem ref3_Moved_ok (fuel : Nat) (pa0_0 : Option Addr) (pc0_0 : Nat) (a_0 : (List Int)) (n_1 : Int) (w0 : World) (X0 : Nat → Prop) (hX0 : ∀ k, X0 k → k < w0.heap.size) (hpa0_0 : Rd (iE .i64) w0 X0 pa0_0 pc0_0 a_0) (r0 : (List Int)) (h0 : ref3_Moved fuel a_0 n_1 = some r0) :
    Calls Try.prog 57 ([(.slice pa0_0 (List.length a_0) pc0_0), (.int .i64 n_1)] : List Value).toArray w0 (Ret fun v w' => w0.grownBy w' none ∧ ∃ (a0_0r : Option Addr) (c0_0r : Nat), ∃ (X0_0r : Nat → Prop), v = tup [(.slice a0_0r (List.length r0) c0_0r)] ∧ Rd (iE .i64) w' X0_0r a0_0r c0_0r r0 ∧ (∀ k, X0_0r k → k < w'.heap.size ∧ (X0 k ∨ w0.heap.size ≤ k))) := by
 have hB0 : Below w0.heap.size w0 w0 := Below.refl _ _
 unfold ref3_Moved at h0
 refine calls_run Try.func57 rfl Try.ntmps57 (by kernel_rfl) ?_
 refine gv_sub [0, 1] (σ' := [(0, (.slice pa0_0 (List.length a_0) pc0_0)), (1, (.int .i64 n_1))]) (by kernel_rfl) ?_
 refine gv_seq <| gv_region <| gv_pureN 1 [4] [] (by kernel_rfl) ?_
 refine gv_nil <| gv_seq <| gv_region <| gv_pureN 1 [6] [(6, (.slice pa0_0 (List.length a_0) pc0_0))] (by kernel_rfl) ?_
 refine bindE h0 ?_; clear h0; intro r1 hr2 h0
 refine gv_call0 (by kernel_rfl) rfl (by kernel_rfl) enters48 (ref3_Ones_ok fuel pa0_0 pc0_0 a_0 w0 (fun k => X0 k) (fun k hk => (fun k (hk : X0 k) => ltl (hX0 k hk) hB0.size) k hk) ((hpa0_0.below hB0 hX0).wide (fun k hk => hk)) r1 hr2) ?_
 rintro v5 w3 ⟨hg4, a6, c7, rfl, ho8, hl9⟩
 have hl10 : ∀ g, blk a6 = some g → w0.heap.size ≤ g := fun g e => Nat.le_trans hB0.size (hl9 g e)
 refine gv_pureN 1 [5] [(5, (.slice a6 (List.length r1) c7))] (by kernel_rfl) ?_
 refine gv_nil <| gv_seq <| gv_block <| gv_seq <| gv_region <| gv_cut_ops (J := fun a w11 => w3 = w11 ∧ a.defers = [] ∧ a.tmps.size = 32 ∧ Ok [(1, (.int .i64 n_1)), (5, (.slice a6 (List.length r1) c7)), (8, (.bool ((((List.length r1 : Nat) : Int) == 0) || (decide (n_1 ≤ (IntKind.i64.wrap (0 - ((List.length r1 : Nat) : Int))))))))] a.tmps) ?_ ?_
 ·skip
  refine gv_pureN 4 [9, 10, 11, 12] [(12, (.bool (((List.length r1 : Nat) : Int) == 0)))] (by kernel_rfl) ?_
  refine gv_split (s := 12) (g := (((List.length r1 : Nat) : Int) == 0)) (by kernel_rfl) (fun hc12 => ?_) (fun hc12 => ?_)
  ·skip
   refine gv_pureN 7 [8, 13, 14, 15, 16, 17, 18] [(8, (.bool true))] (by kernel_rfl) ?_
   refine gv_nil <| gv_sub [1, 5, 8] (σ' := [(1, (.int .i64 n_1)), (5, (.slice a6 (List.length r1) c7)), (8, (.bool true))]) (by kernel_rfl) ?_
   refine gv_goal fun a hd hs hok => ⟨rfl, hd, hs, ?_⟩
   obtain ⟨q1, q5, q8, _⟩ := hok
   exact ⟨q1, q5, (by rw [hc12]; exact q8), trivial⟩
  ·skip
   refine gv_pureN 7 [8, 13, 14, 15, 16, 17, 18] [(8, (.bool (decide (n_1 ≤ (IntKind.i64.wrap (0 - ((List.length r1 : Nat) : Int)))))))] (by kernel_rfl) ?_
   refine gv_nil <| gv_sub [1, 5, 8] (σ' := [(1, (.int .i64 n_1)), (5, (.slice a6 (List.length r1) c7)), (8, (.bool (decide (n_1 ≤ (IntKind.i64.wrap (0 - ((List.length r1 : Nat) : Int)))))))]) (by kernel_rfl) ?_
   refine gv_goal fun a hd hs hok => ⟨rfl, hd, hs, ?_⟩
   obtain ⟨q1, q5, q8, _⟩ := hok
   exact ⟨q1, q5, (by rw [hc12]; exact q8), trivial⟩
 ·rintro a w11 ⟨e, hd, hs, hok⟩; subst e
  refine gv_in ?_ hd hs hok
  clear hd hs hok
  refine gv_cond (b := ((((List.length r1 : Nat) : Int) == 0) || (decide (n_1 ≤ (IntKind.i64.wrap (0 - ((List.length r1 : Nat) : Int))))))) (by kernel_rfl) (fun hc13 => ?_) (fun hc13 => ?_)
  ·replace h0 := ite_t hc13 h0
   refine gv_seq <| gv_region <| gv_pureN 1 [4] [(4, (.slice none (List.length ([] : List Int)) 0))] (by kernel_rfl) ?_
   refine gv_nil <| gv_cret ?_
   have e := sj h0; subst e
   refine gv_ret (gv_done [(.slice none (List.length ([] : List Int)) 0)] rfl ⟨(by kernel_rfl), trivial⟩ ?_)
   have hB14 := bg hB0 hg4 nb
   exact ⟨grown_of_below hB14, none, 0, (fun _ => False), rfl, (Rd.nil (iE .i64) w3 (fun _ => False) none 0), (fun k hk => ⟨(fun _ h => h.elim) k hk, (fun _ h => h.elim) k hk⟩)⟩
  ·replace h0 := ite_f hc13 h0
   refine gv_seq <| gv_region <| gv_pureN 3 [19, 20, 21] [(19, (.bool (decide (n_1 < 0))))] (by kernel_rfl) ?_
   refine gv_nil <| gv_cond (b := (decide (n_1 < 0))) (by kernel_rfl) (fun hc15 => ?_) (fun hc15 => ?_)
   ·replace h0 := ite_t hc15 h0
    refine gv_seq <| gv_region <| gv_pureN 3 [22, 23, 24] [(22, (.slice a6 (List.length r1) c7)), (24, (.int .i64 (IntKind.i64.wrap (0 - n_1))))] (by kernel_rfl) ?_
    refine bindE h0 ?_; clear h0; intro x16 hx17 h0
    refine gv_ssl2 tE (t := 67) (e := 4) (xs := r1) (a := a6) (cap := c7) (lo := (some (.int .i64 (IntKind.i64.wrap (0 - n_1))))) (hi := none) (IntKind.i64.wrap (0 - n_1)) ((List.length r1 : Nat) : Int) x16 (fun e => by cases e) rfl rfl rfl (by kernel_rfl) (by kernel_rfl) Try.underlying67 (by kernel_rfl) (.inr ⟨_, rfl⟩) (.inl ⟨rfl, rfl⟩) hx17 (ho8.rd (Y := fun k => blk a6 = some k) (fun _ h => h.elim) (fun g e => e)).1 ?_
    intro a18 c19 hsub20
    have hr21 := hsub20 _ _ (ho8.rd (Y := fun k => blk a6 = some k) (fun _ h => h.elim) (fun g e => e))
    refine bindE h0 ?_; clear h0; intro r22 hr23 h0
    refine gv_call0 (by kernel_rfl) rfl (by kernel_rfl) enters49 (ref3_Binary_ok fuel a18 c19 x16 w3 (fun k => (fun k => blk a6 = some k) k) (fun k hk => (fun k (hk : blk a6 = some k) => ho8.lt k hk) k hk) (hr21.wide (fun k hk => hk)) r22 hr23) ?_
    rintro v26 w24 ⟨hg25, a27, c28, X30, rfl, ho29, hx31⟩
    have hx32 : ∀ k, X30 k → k < w24.heap.size := fun k hk => (hx31 k hk).1
    have hB34 := bg hB0 hg4 nb
    have hx33 : ∀ k, X30 k → X0 k ∨ w0.heap.size ≤ k := fun k hk => (hx31 k hk).2.elim (fun h => (fun k (hk : blk a6 = some k) => Or.inr (hl10 k hk)) k h) (fun h => .inr (Nat.le_trans hB34.size h))
    refine gv_pureN 1 [4] [(4, (.slice a27 (List.length r22) c28))] (by kernel_rfl) ?_
    refine gv_nil <| gv_cret ?_
    have e := sj h0; subst e
    refine gv_ret (gv_done [(.slice a27 (List.length r22) c28)] rfl ⟨(by kernel_rfl), trivial⟩ ?_)
    have hB35 := bg hB34 hg25 nb
    exact ⟨grown_of_below hB35, a27, c28, X30, rfl, ho29, (fun k hk => ⟨hx32 k hk, hx33 k hk⟩)⟩
   ·replace h0 := ite_f hc15 h0
    refine gv_skip <| gv_blk <| gv_seq <| gv_region <| gv_pureN 1 [27] [(27, (.int .i64 n_1))] (by kernel_rfl) ?_
    refine bindE h0 ?_; clear h0; intro l36 hx37 h0
    refine gv_makeC (f := Value.bool) (hf := fun _ => rfl) (t := 67) (e := 4) (kl := .i64) (kc := .i64) (l := n_1) (c := n_1) (bytes := 1) false l36 (by decide) rfl rfl (by kernel_rfl) (by kernel_rfl) Try.underlying67 (by kernel_rfl) (by decide) hx37 ?_
    intro b38 w39 hg40 ho41 hbe42 hz43
    refine ⟨(fun e => by cases e), ?_⟩
    have hB45 := bg hB0 hg4 nb
    have hl44 : ∀ g, blk (some ⟨b38, 0, none⟩) = some g → w0.heap.size ≤ g := loo hbe42 hB45.size
    refine gv_pureN 1 [29] [(29, (.slice a6 (List.length r1) c7))] (by kernel_rfl) ?_
    refine bindE h0 ?_; clear h0; intro l46 hx47 h0
    have hk54 := ho8.grown hg40 (fun _ h => h.elim) nb
    refine gv_append tE (t := 67) (ty := 67) (e := 4) (a := (some ⟨b38, 0, none⟩)) (ax := a6) (cap := (n_1).toNat) (cx := c7) (xs := l36) (ys := r1) l46 (X := (fun _ => False)) (Y := (fun k => blk a6 = some k)) (by decide) rfl rfl (by kernel_rfl) (by kernel_rfl) Try.underlying67 info4 ho41 (hk54.rd (Y := fun k => blk a6 = some k) (fun _ h => h.elim) (fun g e => e)) hx47 (.inr fun _ _ _ _ _ h => h) (fun _ h => h.elim) ?_
    intro a48 c49 w50 hg51 ho52 hk53
    refine ⟨(fun e => by cases e), ?_⟩
    have hB56 := bg hB45 hg40 nb
    have hl55 : ∀ g, blk a48 = some g → w0.heap.size ≤ g := blk_step hk53 hl44 hB56.size
    have ap58 : ∀ g, blk (some ⟨b38, 0, none⟩) = some g → ¬ (fun k => blk a6 = some k) g := fun g e hx => nl ((lowo hbe42) g e) ((fun k (hk : blk a6 = some k) => ho8.lt k hk) _ hx)
    have ap57 : ∀ g, blk a48 = some g → ¬ (fun k => blk a6 = some k) g := blk_neX hk53 ap58 (fun k (hk : blk a6 = some k) => hk54.lt k hk)
    have ap60 : ∀ g, blk a6 = some g → ¬ (fun k => blk (some ⟨b38, 0, none⟩) = some k) g := fun g e hx => nl ((lowo hbe42) _ hx) ((fun k (hk : blk a6 = some k) => ho8.lt k hk) g e)
    have ap59 : ∀ g, blk a6 = some g → ¬ (fun k => blk a48 = some k) g := fun g e h => blk_rev hk53 (fun h => ((ap60) g e) h) (hk54.lt g e) h
    refine bindE h0 ?_; clear h0; intro r61 hr62 h0
    refine gv_call0 (by kernel_rfl) rfl (by kernel_rfl) enters49 (ref3_Binary_ok fuel a48 c49 l46 w50 (fun k => (fun k => blk a48 = some k) k) (fun k hk => (fun k (hk : blk a48 = some k) => ho52.lt k hk) k hk) ((ho52.rd (Y := fun k => blk a48 = some k) (fun _ h => h.elim) (fun g e => e)).wide (fun k hk => hk)) r61 hr62) ?_
    rintro v65 w63 ⟨hg64, a66, c67, X69, rfl, ho68, hx70⟩
    have hx71 : ∀ k, X69 k → k < w63.heap.size := fun k hk => (hx70 k hk).1
    have hB73 := bg hB56 hg51 hl44
    have hx72 : ∀ k, X69 k → X0 k ∨ w0.heap.size ≤ k := fun k hk => (hx70 k hk).2.elim (fun h => (fun k (hk : blk a48 = some k) => Or.inr (hl55 k hk)) k h) (fun h => .inr (Nat.le_trans hB73.size h))
    refine gv_pureN 1 [4] [(4, (.slice a66 (List.length r61) c67))] (by kernel_rfl) ?_
    refine gv_nil <| gv_cret ?_
    have e := sj h0; subst e
    refine gv_ret (gv_done [(.slice a66 (List.length r61) c67)] rfl ⟨(by kernel_rfl), trivial⟩ ?_)
    have hB74 := bg hB73 hg64 nb
    exact ⟨grown_of_below hB74, a66, c67, X69, rfl, ho68, (fun k hk => ⟨hx71 k hk, hx72 k hk⟩)⟩

theorem ref3_Small_ok (fuel : Nat) (n_0 : Int) (w0 : World)  (r0 : (List Int)) (h0 : ref3_Small fuel n_0 = some r0) :
    Calls Try.prog 58 ([(.int .i64 n_0)] : List Value).toArray w0 (Ret fun v w' => w0.grownBy w' none ∧ ∃ (a0_0r : Option Addr) (c0_0r : Nat), v = tup [(.slice a0_0r (List.length r0) c0_0r)] ∧ Own (iE .i64) 3 w' (fun _ => False) a0_0r c0_0r r0 ∧ (∀ g, blk a0_0r = some g → w0.heap.size ≤ g)) := by
 have hB0 : Below w0.heap.size w0 w0 := Below.refl _ _
 unfold ref3_Small at h0
 refine calls_run Try.func58 rfl Try.ntmps58 (by kernel_rfl) ?_
 refine gv_sub [0] (σ' := [(0, (.int .i64 n_0))]) (by kernel_rfl) ?_
 refine gv_seq <| gv_region <| gv_pureN 1 [2] [] (by kernel_rfl) ?_
 refine gv_nil <| gv_seq <| gv_region <| gv_pureN 1 [3] [(3, (.slice none (List.length ([] : List Int)) 0))] (by kernel_rfl) ?_
 refine gv_nil <| gv_seq <| bindE h0 ?_; clear h0; intro j1 h1 h0
 refine gv_cut_code (J := fun a w2 => ∃ (a3_0j : Option Addr) (c3_0j : Nat), Below w0.heap.size w0 w2 ∧ w0.heap.size ≤ w2.heap.size ∧ Own (iE .i64) 3 w2 (fun _ => False) a3_0j c3_0j j1 ∧ (∀ g, blk a3_0j = some g → w0.heap.size ≤ g) ∧ a.defers = [] ∧ a.tmps.size = 14 ∧ Ok [(3, (.slice a3_0j (List.length j1) c3_0j))] a.tmps) ?_ ?_
 ·skip
  refine gv_block <| gv_loop (A := fun (s3 : (Int × (List Int))) a w4 => ∃ (a3_0j : Option Addr) (c3_0j : Nat), Below w0.heap.size w0 w4 ∧ w0.heap.size ≤ w4.heap.size ∧ Own (iE .i64) 3 w4 (fun _ => False) a3_0j c3_0j s3.2 ∧ (∀ g, blk a3_0j = some g → w0.heap.size ≤ g) ∧ a.defers = [] ∧ a.tmps.size = 14 ∧ Ok [(0, (.int .i64 s3.1)), (3, (.slice a3_0j (List.length s3.2) c3_0j))] a.tmps) h1 ?_ ?_
  ·intro a hd hs hok
   exact ⟨none, 0, hB0, (Nat.le_refl _), (Own.nil (iE .i64) 3 w0 (fun _ => False)), (fun _ h => by cases h), hd, hs, ok_pick [0, 3] hok (by kernel_rfl)⟩
  ·rintro s3 r2 h2 hR2 a w4 ⟨a7, c8, hB5, hz6, ho9, hl10, hd, hs, hok⟩
   refine gv_in ?_ hd hs hok
   clear hd hs hok
   refine gv_seq <| gv_seq <| gv_region <| gv_pureN 2 [4, 5] [(5, (.bool (decide (s3.1 > 0))))] (by kernel_rfl) ?_
   refine gv_nil <| gv_cond (b := (decide (s3.1 > 0))) (by kernel_rfl) (fun hc11 => ?_) (fun hc11 => ?_)
   ·replace h2 := ite_t hc11 h2
    refine gv_skip <| gv_seq <| gv_block <| gv_region <| gv_pureN 3 [8, 9, 10] [(8, (.slice a7 (List.length s3.2) c8)), (10, (.int .i64 ((s3.1).tmod 65536)))] (by kernel_rfl) ?_
    refine gv_new0 (fun b => .slice (some ⟨b, 0, none⟩) 1 1) #[(.int .i64 ((s3.1).tmod 65536))] 3 (by kernel_rfl) (by kernel_rfl) ?_
    intro b12 w13 hg14 hb15 hbe16 hz17
    have ho18 : Own (iE .i64) 3 w13 (fun _ => False) (some ⟨b12, 0, none⟩) 1 ([((s3.1).tmod 65536)] : List Int) := Box.ownE hb15 ⟨[(.int .i64 ((s3.1).tmod 65536))], [], rfl, rfl, rfl⟩ (show 1 ≤ maxLen by decide) (fun h => h)
    have hl19 : ∀ g, blk (some ⟨b12, 0, none⟩) = some g → w0.heap.size ≤ g := loo hbe16 hB5.size
    refine bindE h2 ?_; clear h2; intro l23 hx24 h2
    have hk31 := ho9.grown hg14 (fun _ h => h.elim) nb
    refine gv_append (iE .i64) (t := 47) (ty := 47) (e := 3) (a := a7) (ax := (some ⟨b12, 0, none⟩)) (cap := c8) (cx := 1) (xs := s3.2) (ys := ([((s3.1).tmod 65536)] : List Int)) l23 (X := (fun _ => False)) (Y := (fun k => blk (some ⟨b12, 0, none⟩) = some k)) (by decide) rfl rfl (by kernel_rfl) (by kernel_rfl) Try.underlying47 info3 hk31 (ho18.rd (Y := fun k => blk (some ⟨b12, 0, none⟩) = some k) (fun _ h => h.elim) (fun g e => e)) hx24 (.inr fun _ _ _ _ _ h => h) (fun _ h => h.elim) ?_
    intro a25 c26 w27 hg28 ho29 hk30
    refine ⟨(fun e => by cases e), ?_⟩
    have hB33 := bg hB5 hg14 nb
    have hl32 : ∀ g, blk a25 = some g → w0.heap.size ≤ g := blk_step hk30 hl10 hB33.size
    have ap35 : ∀ g, blk a7 = some g → ¬ (fun k => blk (some ⟨b12, 0, none⟩) = some k) g := fun g e hx => nl ((lowo hbe16) _ hx) ((fun k (hk : blk a7 = some k) => ho9.lt k hk) g e)
    have ap34 : ∀ g, blk a25 = some g → ¬ (fun k => blk (some ⟨b12, 0, none⟩) = some k) g := blk_neX hk30 ap35 (fun k (hk : blk (some ⟨b12, 0, none⟩) = some k) => ho18.lt k hk)
    have ap37 : ∀ g, blk (some ⟨b12, 0, none⟩) = some g → ¬ (fun k => blk a7 = some k) g := fun g e hx => nl ((lowo hbe16) g e) ((fun k (hk : blk a7 = some k) => ho9.lt k hk) _ hx)
    have ap36 : ∀ g, blk (some ⟨b12, 0, none⟩) = some g → ¬ (fun k => blk a25 = some k) g := fun g e h => blk_rev hk30 (fun h => ((ap37) g e) h) (ho18.lt g e) h
    refine gv_pureN 1 [3] [(3, (.slice a25 (List.length l23) c26))] (by kernel_rfl) ?_
    refine gv_nil <| gv_blk <| gv_region <| gv_pureN 3 [0, 6, 7] [(0, (.int .i64 (IntKind.i64.wrap ((s3.1).tdiv 65536))))] (by kernel_rfl) ?_
    refine gv_nil ?_
    have e := sj h2; subst e
    refine gv_goal fun a hd hs hok => ?_
    have hB38 := bg hB33 hg28 hl10
    have hz39 := (nt (nt hz6 hg14.size) hg28.size)
    exact ⟨((IntKind.i64.wrap ((s3.1).tdiv 65536)), l23), rfl, a25, c26, hB38, hz39, ho29, hl32, hd, hs, ok_pick [0, 3] hok (by kernel_rfl)⟩
   ·replace h2 := ite_f hc11 h2
    refine gv_cexit <| gv_exit rfl ?_
    have e := sj h2; subst e
    replace h1 := congrArg some (hR2 _ rfl)
    have e := sj h1; subst e
    refine gv_goal fun a hd hs hok => ?_
    have hz40 := hz6
    exact ⟨a7, c8, hB5, hz40, ho9, hl10, hd, hs, ok_pick [3] hok (by kernel_rfl)⟩
 ·rintro a w2 ⟨a43, c44, hB41, hz42, ho45, hl46, hd, hs, hok⟩
  refine gv_in ?_ hd hs hok
  clear hd hs hok
  refine gv_seq <| gv_region <| gv_pureN 2 [2, 13] [(2, (.slice a43 (List.length j1) c44))] (by kernel_rfl) ?_
  refine gv_nil <| gv_cret ?_
  have e := sj h0; subst e
  refine gv_ret (gv_done [(.slice a43 (List.length j1) c44)] rfl ⟨(by kernel_rfl), trivial⟩ ?_)
  exact ⟨grown_of_below hB41, a43, c44, rfl, ho45, hl46⟩

theorem ref3_Int_Moved_ok (fuel : Nat) (pa0_0 : Option Addr) (pc0_0 : Nat) (a_0 : (Bool × (List Int))) (n_1 : Int) (w0 : World) (X0 : Nat → Prop) (hX0 : ∀ k, X0 k → k < w0.heap.size) (hpa0_0 : Rd (iE .i64) w0 X0 pa0_0 pc0_0 a_0.2) (r0 : (Bool × (List Int))) (h0 : ref3_Int_Moved fuel a_0 n_1 = some r0) :
    Calls Try.prog 33 ([(.agg #[(.bool a_0.1), (.slice pa0_0 (List.length a_0.2) pc0_0)]), (.int .i64 n_1)] : List Value).toArray w0 (Ret fun v w' => w0.grownBy w' none ∧ ∃ (a0_0r : Option Addr) (c0_0r : Nat), ∃ (X0_0r : Nat → Prop), v = tup [(.agg #[(.bool r0.1), (.slice a0_0r (List.length r0.2) c0_0r)])] ∧ Rd (iE .i64) w' X0_0r a0_0r c0_0r r0.2 ∧ (∀ k, X0_0r k → k < w'.heap.size ∧ (X0 k ∨ w0.heap.size ≤ k))) := by
 have hB0 : Below w0.heap.size w0 w0 := Below.refl _ _
 unfold ref3_Int_Moved at h0
 refine calls_run Try.func33 rfl Try.ntmps33 (by kernel_rfl) ?_
 refine gv_sub [0, 1] (σ' := [(0, (.agg #[(.bool a_0.1), (.slice pa0_0 (List.length a_0.2) pc0_0)])), (1, (.int .i64 n_1))]) (by kernel_rfl) ?_
 refine gv_seq <| gv_region <| gv_new0 (fun b => .pointer (some ⟨b, 0, none⟩)) #[(.bool a_0.1), (.slice pa0_0 (List.length a_0.2) pc0_0)] 49 (by kernel_rfl) (by kernel_rfl) ?_
 intro b1 w2 hg3 hb4 hbe5 hz6
 refine gv_new0 (fun b => .pointer (some ⟨b, 0, none⟩)) #[(.bool false), (.slice none (List.length ([] : List Int)) 0)] 49 (by kernel_rfl) (by kernel_rfl) ?_
 intro b7 w8 hg9 hb10 hbe11 hz12
 refine gv_nil <| gv_seq <| gv_seq <| gv_region <| bindE h0 ?_; clear h0; intro j13 h1 h0
 refine gv_cut_ops (J := fun a w14 => Below w0.heap.size w0 w14 ∧ w8.heap.size ≤ w14.heap.size ∧ Box w14 b1 49 #[(.bool a_0.1), (.slice pa0_0 (List.length a_0.2) pc0_0)] ∧ Box w14 b7 49 #[(.bool false), (.slice none (List.length ([] : List Int)) 0)] ∧ a.defers = [] ∧ a.tmps.size = 28 ∧ Ok [(1, (.int .i64 n_1)), (2, (bp b1)), (4, (bp b7)), (11, (.bool j13))] a.tmps) ?_ ?_
 ·skip
  refine gv_pureN 1 [5] [(5, (bp b1))] (by kernel_rfl) ?_
  have hk15 := hb4.grown hg9 nb
  refine gv_load (t := 4) (A := ⟨b1, 0, none⟩) (.bool a_0.1) [] (fun e => by cases e) rfl rfl rfl (by kernel_rfl) (by kernel_rfl) (by kernel_rfl) (inw0 (hk15.cell 0 rfl)) rfl ?_
  refine gv_pureN 2 [7, 8] [(8, (.bool (!a_0.1)))] (by kernel_rfl) ?_
  refine gv_split (s := 8) (g := (!a_0.1)) (by kernel_rfl) (fun hc16 => ?_) (fun hc16 => ?_)
  ·skip
   replace h1 := ite_t hc16 h1
   refine gv_pureN 3 [9, 10, 11] [(11, (.bool true))] (by kernel_rfl) ?_
   refine gv_nil ?_
   have e := sj h1; subst e
   refine gv_goal fun a hd hs hok => ?_
   have hg17 := (grown_trans hg3 hg9)
   have hB18 := bg hB0 hg17 nb
   exact ⟨hB18, (Nat.le_refl _), hk15, hb10, hd, hs, ok_pick [1, 2, 4, 11] hok (by kernel_rfl)⟩
  ·skip
   replace h1 := ite_f hc16 h1
   refine gv_pureN 3 [9, 10, 11] [(11, (.bool (decide (n_1 ≥ 0))))] (by kernel_rfl) ?_
   refine gv_nil ?_
   have e := sj h1; subst e
   refine gv_goal fun a hd hs hok => ?_
   have hg19 := (grown_trans hg3 hg9)
   have hB20 := bg hB0 hg19 nb
   exact ⟨hB20, (Nat.le_refl _), hk15, hb10, hd, hs, ok_pick [1, 2, 4, 11] hok (by kernel_rfl)⟩
 ·rintro a w14 ⟨hB21, hz22, hb23, hb24, hd, hs, hok⟩
  refine gv_in ?_ hd hs hok
  clear hd hs hok
  clear hz22 hz12 hb10 hg9 hz6
  refine gv_cond (b := j13) (by kernel_rfl) (fun hc25 => ?_) (fun hc25 => ?_)
  ·replace h0 := ite_t hc25 h0
   refine gv_seq <| gv_drawA (by kernel_rfl) ?_
   intro w26 hg27
   refine gv_pre [0, 2, 4] (bA 8 [0, 2, 4]) 5 (by kernel_rfl) (by kernel_rfl) ?_
   refine gv_pureN 3 [12, 14, 16] [(12, (bp b1)), (14, (.pointer (some ⟨b1, 1, none⟩))), (16, (.int .i64 n_1))] (by kernel_rfl) ?_
   refine gv_nil <| gv_goA ?_
   refine gv_stage (Cls w26 []) [0, 1, 2, 3, 4, 5] [(1, some true), (3, some true), (5, some false)] (bA 8 [0, 1, 2, 3, 4, 5]) 2 (by kernel_rfl) (by kernel_rfl) (Cls.refl _ _) ?_
   have hC28 := Cls.refl w26 []
   have hk29 := hb23.grown hg27 nb
   refine gv_load (t := 4) (A := ⟨b1, 0, none⟩) (.bool a_0.1) [] (fun e => by cases e) rfl rfl rfl (by kernel_rfl) (by kernel_rfl) (by kernel_rfl) (inw1 fun w' hC' => ((hC'.box hk29 nm_nil).cell 0 rfl)) rfl ?_
   refine gv_load (t := 47) (A := ⟨b1, 1, none⟩) (.slice pa0_0 (List.length a_0.2) pc0_0) [] (fun e => by cases e) rfl rfl rfl (by kernel_rfl) (by kernel_rfl) (by kernel_rfl) (inw1 fun w' hC' => ((hC'.box hk29 nm_nil).cell 1 rfl)) rfl ?_
   refine bindE h0 ?_; clear h0; intro r30 hr31 h0
   have hB32 := bg hB21 hg27 nb
   refine gv_call (f := 57) (vs := [(.slice pa0_0 (List.length a_0.2) pc0_0), (.int .i64 n_1)]) (cap := []) _ (by decide) rfl rfl rfl (by kernel_rfl) (by kernel_rfl) enters57 (ref3_Moved_ok fuel pa0_0 pc0_0 a_0.2 n_1 w26 (fun k => X0 k) (fun k hk => (fun k (hk : X0 k) => ltl (hX0 k hk) hB32.size) k hk) ((hpa0_0.below hB32 hX0).wide (fun k hk => hk)) r30 hr31) ?_
   rintro v35 w33 ⟨hg34, a36, c37, X39, rfl, ho38, hx40⟩
   refine ⟨(fun _ => hC28.grown hg34 nb), ?_⟩
   have hx41 : ∀ k, X39 k → k < w33.heap.size := fun k hk => (hx40 k hk).1
   have hx42 : ∀ k, X39 k → X0 k ∨ w0.heap.size ≤ k := fun k hk => (hx40 k hk).2.elim (fun h => (fun k (hk : X0 k) => Or.inl hk) k h) (fun h => .inr (Nat.le_trans hB32.size h))
   refine gv_nil <| gv_goA ?_
   refine gv_pre [6] (bA 8 [0, 1, 2, 3, 4, 5, 6]) 1 (by kernel_rfl) (by kernel_rfl) ?_
   refine gv_pureN 1 [18] [(18, (.agg #[(.bool a_0.1), (.slice a36 (List.length r30) c37)]))] (by kernel_rfl) ?_
   refine gv_nil <| gv_goA ?_
   refine gv_stage (fun _ => True) [0, 1, 2, 3, 4, 5, 6, 7] [(7, some false)] (bA 8 [0, 1, 2, 3, 4, 5, 6, 7]) 0 (by kernel_rfl) (by kernel_rfl) trivial ?_
   have hg47 := (grown_trans hg27 hg34)
   have hk48 := hb24.grown hg47 nb
   refine gv_store (t := 49) (b := b7) (off := 0) (v := (.agg #[(.bool a_0.1), (.slice a36 (List.length r30) c37)])) (t' := 49) (cs := #[(.bool false), (.slice none (List.length ([] : List Int)) 0)]) #[(.bool a_0.1), (.slice a36 (List.length r30) c37)] (by decide) rfl rfl (by kernel_rfl) (by kernel_rfl) (by kernel_rfl) (by intro u hu; simp [Value.cells] at hu; rcases hu with rfl | rfl <;> rfl) (show 0 + 2 ≤ 2 by decide) (by rfl) hk48 ?_
   intro w43 hg44 hb45 hz46
   refine ⟨(fun _ => trivial), ?_⟩
   refine gv_nil <| gv_goA ?_
   refine gv_stageE (by kernel_rfl) ?_
   refine gv_cret ?_
   have e := sj h0; subst e
   refine gv_ret (gv_done [(.agg #[(.bool a_0.1), (.slice a36 (List.length r30) c37)])] rfl ⟨⟨⟨b7, 0, none⟩, (by kernel_rfl), run_loadVar_row w43 b7 _ 49 _ _ _ hb45 Try.underlying49 rfl (by kernel_rfl)⟩, trivial⟩ ?_)
   have hB49 := bg hB32 hg34 nb
   have hB50 := bg hB0 hg3 nb
   have hlo51 : w0.heap.size ≤ b7 := lob hbe11 hB50.size
   have hB52 := bg hB49 hg44 (rowlo hlo51)
   have hk53 := hb24.grown hg27 nb
   have ap54 : ¬ X39 b7 := fun h => ((hx40 _ h).2.elim (fun h => ((fun (hx : X0 b7) => nl hlo51 (hX0 _ hx)))  h) (fun h => nl h (hk53.lt)))
   have hk55 := ho38.grown hg44 hx41 (rowne ap54)
   have hx56 := ltx hx41 hg44.size
   exact ⟨grown_of_below hB52, a36, c37, X39, rfl, hk55, (fun k hk => ⟨hx56 k hk, hx42 k hk⟩)⟩
  ·replace h0 := ite_f hc25 h0
   refine gv_skip <| gv_seq <| gv_drawA (by kernel_rfl) ?_
   intro w57 hg58
   refine gv_pre [0, 4] (bA 10 [0, 4]) 8 (by kernel_rfl) (by kernel_rfl) ?_
   refine gv_pureN 2 [19, 23] [(19, (.pointer (some ⟨b1, 1, none⟩))), (23, (.int .i64 n_1))] (by kernel_rfl) ?_
   refine gv_nil <| gv_goA ?_
   refine gv_stage (Cls w57 []) [0, 1, 2, 4] [(1, some true), (2, some false)] (bA 10 [0, 1, 2, 4]) 6 (by kernel_rfl) (by kernel_rfl) (Cls.refl _ _) ?_
   have hC59 := Cls.refl w57 []
   have hk60 := hb23.grown hg58 nb
   refine gv_load (t := 47) (A := ⟨b1, 1, none⟩) (.slice pa0_0 (List.length a_0.2) pc0_0) [] (fun e => by cases e) rfl rfl rfl (by kernel_rfl) (by kernel_rfl) (by kernel_rfl) (inw1 fun w' hC' => ((hC'.box hk60 nm_nil).cell 1 rfl)) rfl ?_
   refine bindE h0 ?_; clear h0; intro r61 hr62 h0
   refine gv_call (f := 58) (vs := [(.int .i64 1)]) (cap := []) _ (by decide) rfl rfl rfl (by kernel_rfl) (by kernel_rfl) enters58 (ref3_Small_ok fuel 1 w57  r61 hr62) ?_
   rintro v65 w63 ⟨hg64, a66, c67, rfl, ho68, hl69⟩
   refine ⟨(fun _ => hC59.grown hg64 nb), ?_⟩
   have hB71 := bg hB21 hg58 nb
   have hl70 : ∀ g, blk a66 = some g → w0.heap.size ≤ g := fun g e => Nat.le_trans hB71.size (hl69 g e)
   refine gv_nil <| gv_goA ?_
   refine gv_stage (fun _ => True) [0, 1, 2, 3, 4] [(3, some false)] (bA 10 [0, 1, 2, 3, 4]) 5 (by kernel_rfl) (by kernel_rfl) trivial ?_
   refine bindE h0 ?_; clear h0; intro r72 hr73 h0
   have hB74 := bg hB71 hg64 nb
   refine gv_call (f := 54) (vs := [(.slice pa0_0 (List.length a_0.2) pc0_0), (.slice a66 (List.length r61) c67)]) (cap := []) _ (by decide) rfl rfl rfl (by kernel_rfl) (by kernel_rfl) enters54 (ref3_Minus_ok fuel pa0_0 pc0_0 a_0.2 a66 c67 r61 w63 (fun k => X0 k ∨ (fun k => blk a66 = some k) k) (fun k hk => (hk).elim (fun h => (fun k (hk : X0 k) => ltl (hX0 k hk) hB74.size) k h) (fun h => (fun k (hk : blk a66 = some k) => ho68.lt k hk) k h)) ((hpa0_0.below hB74 hX0).wide (fun k hk => (.inl hk))) ((ho68.rd (Y := fun k => blk a66 = some k) (fun _ h => h.elim) (fun g e => e)).wide (fun k hk => (.inr hk))) r72 hr73) ?_
   rintro v77 w75 ⟨hg76, a78, c79, X81, rfl, ho80, hx82⟩
   refine ⟨(fun _ => trivial), ?_⟩
   have hx83 : ∀ k, X81 k → k < w75.heap.size := fun k hk => (hx82 k hk).1
   have hx84 : ∀ k, X81 k → X0 k ∨ w0.heap.size ≤ k := fun k hk => (hx82 k hk).2.elim (fun h => (h).elim (fun h => (fun k (hk : X0 k) => Or.inl hk) k h) (fun h => (fun k (hk : blk a66 = some k) => Or.inr (hl70 k hk)) k h)) (fun h => .inr (Nat.le_trans hB74.size h))
   clear hr73 hB71 hr62 hC59 hc25 hb23 hB21 hb4
   refine gv_nil <| gv_goA ?_
   refine gv_stage (fun _ => True) [0, 1, 2, 3, 4, 5] [(5, some false)] (bA 10 [0, 1, 2, 3, 4, 5]) 4 (by kernel_rfl) (by kernel_rfl) trivial ?_
   refine bindE h0 ?_; clear h0; intro r85 hr86 h0
   refine gv_call (f := 57) (vs := [(.slice a78 (List.length r72) c79), (.int .i64 n_1)]) (cap := []) _ (by decide) rfl rfl rfl (by kernel_rfl) (by kernel_rfl) enters57 (ref3_Moved_ok fuel a78 c79 r72 n_1 w75 (fun k => X81 k) (fun k hk => hx83 k hk) (ho80.wide (fun k hk => hk)) r85 hr86) ?_
   rintro v89 w87 ⟨hg88, a90, c91, X93, rfl, ho92, hx94⟩
   refine ⟨(fun _ => trivial), ?_⟩
   have hx95 : ∀ k, X93 k → k < w87.heap.size := fun k hk => (hx94 k hk).1
   have hB97 := bg hB74 hg76 nb
   have hx96 : ∀ k, X93 k → X0 k ∨ w0.heap.size ≤ k := fun k hk => (hx94 k hk).2.elim (fun h => hx84 k h) (fun h => .inr (Nat.le_trans hB97.size h))
   refine gv_nil <| gv_goA ?_
   refine gv_stage (fun _ => True) [0, 1, 2, 3, 4, 5, 6] [(6, some false)] (bA 10 [0, 1, 2, 3, 4, 5, 6]) 3 (by kernel_rfl) (by kernel_rfl) trivial ?_
   refine bindE h0 ?_; clear h0; intro r98 hr99 h0
   refine gv_call (f := 58) (vs := [(.int .i64 1)]) (cap := []) _ (by decide) rfl rfl rfl (by kernel_rfl) (by kernel_rfl) enters58 (ref3_Small_ok fuel 1 w87  r98 hr99) ?_
   rintro v102 w100 ⟨hg101, a103, c104, rfl, ho105, hl106⟩
   refine ⟨(fun _ => trivial), ?_⟩
   have hB108 := bg hB97 hg88 nb
   have hl107 : ∀ g, blk a103 = some g → w0.heap.size ≤ g := fun g e => Nat.le_trans hB108.size (hl106 g e)
   refine gv_nil <| gv_goA ?_
   refine gv_stage (fun _ => True) [0, 1, 2, 3, 4, 5, 6, 7] [(7, some false)] (bA 10 [0, 1, 2, 3, 4, 5, 6, 7]) 2 (by kernel_rfl) (by kernel_rfl) trivial ?_
   refine bindE h0 ?_; clear h0; intro r109 hr110 h0
   have hx111 := ltx hx95 hg101.size
   have hk112 := ho92.grown hg101 hx95 nb
   refine gv_call (f := 53) (vs := [(.slice a90 (List.length r85) c91), (.slice a103 (List.length r98) c104)]) (cap := []) _ (by decide) rfl rfl rfl (by kernel_rfl) (by kernel_rfl) enters53 (ref3_Plus_ok fuel a90 c91 r85 a103 c104 r98 w100 (fun k => X93 k ∨ (fun k => blk a103 = some k) k) (fun k hk => (hk).elim (fun h => hx111 k h) (fun h => (fun k (hk : blk a103 = some k) => ho105.lt k hk) k h)) (hk112.wide (fun k hk => (.inl hk))) ((ho105.rd (Y := fun k => blk a103 = some k) (fun _ h => h.elim) (fun g e => e)).wide (fun k hk => (.inr hk))) r109 hr110) ?_
   rintro v115 w113 ⟨hg114, a116, c117, X119, rfl, ho118, hx120⟩
   refine ⟨(fun _ => trivial), ?_⟩
   have hx121 : ∀ k, X119 k → k < w113.heap.size := fun k hk => (hx120 k hk).1
   have hB123 := bg hB108 hg101 nb
   have hx122 : ∀ k, X119 k → X0 k ∨ w0.heap.size ≤ k := fun k hk => (hx120 k hk).2.elim (fun h => (h).elim (fun h => hx96 k h) (fun h => (fun k (hk : blk a103 = some k) => Or.inr (hl107 k hk)) k h)) (fun h => .inr (Nat.le_trans hB123.size h))
   refine gv_nil <| gv_goA ?_
   refine gv_pre [8] (bA 10 [0, 1, 2, 3, 4, 5, 6, 7, 8]) 1 (by kernel_rfl) (by kernel_rfl) ?_
   refine gv_pureN 1 [27] [(27, (.agg #[(.bool true), (.slice a116 (List.length r109) c117)]))] (by kernel_rfl) ?_
   refine gv_nil <| gv_goA ?_
   refine gv_stage (fun _ => True) [0, 1, 2, 3, 4, 5, 6, 7, 8, 9] [(9, some false)] (bA 10 [0, 1, 2, 3, 4, 5, 6, 7, 8, 9]) 0 (by kernel_rfl) (by kernel_rfl) trivial ?_
   have hg128 := (grown_trans (grown_trans (grown_trans (grown_trans (grown_trans hg58 hg64) hg76) hg88) hg101) hg114)
   have hk129 := hb24.grown hg128 nb
   refine gv_store (t := 49) (b := b7) (off := 0) (v := (.agg #[(.bool true), (.slice a116 (List.length r109) c117)])) (t' := 49) (cs := #[(.bool false), (.slice none (List.length ([] : List Int)) 0)]) #[(.bool true), (.slice a116 (List.length r109) c117)] (by decide) rfl rfl (by kernel_rfl) (by kernel_rfl) (by kernel_rfl) (by intro u hu; simp [Value.cells] at hu; rcases hu with rfl | rfl <;> rfl) (show 0 + 2 ≤ 2 by decide) (by rfl) hk129 ?_
   intro w124 hg125 hb126 hz127
   refine ⟨(fun _ => trivial), ?_⟩
   refine gv_nil <| gv_goA ?_
   refine gv_stageE (by kernel_rfl) ?_
   refine gv_cret ?_
   have e := sj h0; subst e
   refine gv_ret (gv_done [(.agg #[(.bool true), (.slice a116 (List.length r109) c117)])] rfl ⟨⟨⟨b7, 0, none⟩, (by kernel_rfl), run_loadVar_row w124 b7 _ 49 _ _ _ hb126 Try.underlying49 rfl (by kernel_rfl)⟩, trivial⟩ ?_)
   have hB130 := bg hB123 hg114 nb
   have hB131 := bg hB0 hg3 nb
   have hlo132 : w0.heap.size ≤ b7 := lob hbe11 hB131.size
   have hB133 := bg hB130 hg125 (rowlo hlo132)
   have hk134 := hb24.grown hg58 nb
   have ap135 : ¬ (fun k => blk a66 = some k) b7 := fun hx => nl ((show ∀ k, blk a66 = some k → w57.heap.size ≤ k from hl69) _ hx) ((ltb hk134) _ rfl)
   have hk136 := hk134.grown hg64 nb
   have ap137 : ¬ X81 b7 := fun h => ((hx82 _ h).2.elim (fun h => (h).elim (fun h => ((fun (hx : X0 b7) => nl hlo132 (hX0 _ hx)))  h) (fun h => (ap135)  h)) (fun h => nl h (hk136.lt)))
   have hk138 := hk136.grown hg76 nb
   have ap139 : ¬ X93 b7 := fun h => ((hx94 _ h).2.elim (fun h => (ap137)  h) (fun h => nl h (hk138.lt)))
   have hk140 := hk138.grown hg88 nb
   have ap141 : ¬ (fun k => blk a103 = some k) b7 := fun hx => nl ((show ∀ k, blk a103 = some k → w87.heap.size ≤ k from hl106) _ hx) ((ltb hk140) _ rfl)
   have hk142 := hk140.grown hg101 nb
   have ap143 : ¬ X119 b7 := fun h => ((hx120 _ h).2.elim (fun h => (h).elim (fun h => (ap139)  h) (fun h => (ap141)  h)) (fun h => nl h (hk142.lt)))
   have hk144 := ho118.grown hg125 hx121 (rowne ap143)
   have hx145 := ltx hx121 hg125.size
   exact ⟨grown_of_below hB133, a116, c117, X119, rfl, hk144, (fun k hk => ⟨hx145 k hk, hx122 k hk⟩)⟩

theorem ref3_At_ok (fuel : Nat) (code_0 : Int) (index_1 : Int) (w0 : World)  (r0 : (Int × Int)) (h0 : ref3_At fuel code_0 index_1 = some r0) :
    Calls Try.prog 59 ([(.int .i64 code_0), (.int .i64 index_1)] : List Value).toArray w0 (Ret fun v w' => w0.grownBy w' none ∧ v = tup [(.agg #[(.int .i64 r0.1), (.int .i64 r0.2)])]) := by
 have hB0 : Below w0.heap.size w0 w0 := Below.refl _ _
 unfold ref3_At at h0
 refine calls_run Try.func59 rfl Try.ntmps59 (by kernel_rfl) ?_
 refine gv_sub [0, 1] (σ' := [(0, (.int .i64 code_0)), (1, (.int .i64 index_1))]) (by kernel_rfl) ?_
 refine gv_seq <| gv_region <| gv_new0 (fun b => .pointer (some ⟨b, 0, none⟩)) #[(.int .i64 0), (.int .i64 0)] 29 (by kernel_rfl) (by kernel_rfl) ?_
 intro b1 w2 hg3 hb4 hbe5 hz6
 refine gv_nil <| gv_seq <| gv_region <| gv_pureN 3 [5, 6, 7] [(7, (.agg #[(.int .i64 code_0), (.int .i64 index_1)]))] (by kernel_rfl) ?_
 refine gv_store0 29 0 (.agg #[(.int .i64 code_0), (.int .i64 index_1)]) #[(.int .i64 code_0), (.int .i64 index_1)] hb4 (by kernel_rfl) (by kernel_rfl) (by kernel_rfl) ?_
 intro w7 hg8 hb9 hz10
 refine gv_nil <| gv_cret ?_
 have e := sj h0; subst e
 refine gv_ret (gv_done [(.agg #[(.int .i64 code_0), (.int .i64 index_1)])] rfl ⟨⟨⟨b1, 0, none⟩, (by kernel_rfl), run_loadVar_row w7 b1 _ 29 _ _ _ hb9 Try.underlying29 rfl (by kernel_rfl)⟩, trivial⟩ ?_)
 have hB11 := bg hB0 hg3 nb
 have hlo12 : w0.heap.size ≤ b1 := lob hbe5 hB0.size
 have hB13 := bg hB11 hg8 (rowlo hlo12)
 exact ⟨grown_of_below hB13, rfl⟩

theorem ref3_Faults_ok (fuel : Nat) (pa0_0 : Option Addr) (pc0_0 : Nat) (l_0 : (List (Bool × (List Int)))) (w0 : World) (X0 : Nat → Prop) (hX0 : ∀ k, X0 k → k < w0.heap.size) (hpa0_0 : Rd (prE tE (slE (iE .u32))) w0 X0 pa0_0 pc0_0 l_0) (r0 : (Int × Int)) (h0 : ref3_Faults fuel l_0 = some r0) :
    Calls Try.prog 35 ([(.slice pa0_0 (List.length l_0) pc0_0)] : List Value).toArray w0 (Ret fun v w' => w0.grownBy w' none ∧ v = tup [(.agg #[(.int .i64 r0.1), (.int .i64 r0.2)])]) := by
 have hB0 : Below w0.heap.size w0 w0 := Below.refl _ _
 unfold ref3_Faults at h0
 refine calls_run Try.func35 rfl Try.ntmps35 (by kernel_rfl) ?_
 refine gv_sub [0] (σ' := [(0, (.slice pa0_0 (List.length l_0) pc0_0))]) (by kernel_rfl) ?_
 refine gv_seq <| gv_region <| gv_new0 (fun b => .pointer (some ⟨b, 0, none⟩)) #[(.int .i64 0), (.int .i64 0)] 29 (by kernel_rfl) (by kernel_rfl) ?_
 intro b1 w2 hg3 hb4 hbe5 hz6
 refine gv_nil <| gv_seq <| gv_seq <| gv_region <| gv_pureN 1 [3] [(3, (.int .i64 0))] (by kernel_rfl) ?_
 refine gv_nil <| bindE h0 ?_; clear h0; intro j7 h1 h0
 refine gv_cut_code (J := fun a w9 => ∃ s8 : (Int × Int), j7 = .inl s8 ∧ Below w0.heap.size w0 w9 ∧ w2.heap.size ≤ w9.heap.size ∧ Box w9 b1 29 #[(.int .i64 s8.1), (.int .i64 s8.2)] ∧ a.defers = [] ∧ a.tmps.size = 20 ∧ Ok [(2, (bp b1))] a.tmps) ?_ ?_
 ·skip
  refine gv_block <| gv_loop (A := fun (s10 : (Int × (Int × Int))) a w11 => Below w0.heap.size w0 w11 ∧ w2.heap.size ≤ w11.heap.size ∧ Box w11 b1 29 #[(.int .i64 s10.2.1), (.int .i64 s10.2.2)] ∧ a.defers = [] ∧ a.tmps.size = 20 ∧ Ok [(0, (.slice pa0_0 (List.length l_0) pc0_0)), (2, (bp b1)), (3, (.int .i64 s10.1))] a.tmps) h1 ?_ ?_
  ·intro a hd hs hok
   have hB12 := bg hB0 hg3 nb
   exact ⟨hB12, (Nat.le_refl _), hb4, hd, hs, ok_pick [0, 2, 3] hok (by kernel_rfl)⟩
  ·rintro s10 r2 h2 hR2 a w11 ⟨hB13, hz14, hb15, hd, hs, hok⟩
   refine gv_in ?_ hd hs hok
   clear hd hs hok
   refine gv_seq <| gv_seq <| gv_region <| gv_pureN 4 [4, 5, 6, 7] [(7, (.bool (decide (s10.1 < ((List.length l_0 : Nat) : Int)))))] (by kernel_rfl) ?_
   refine gv_nil <| gv_cond (b := (decide (s10.1 < ((List.length l_0 : Nat) : Int)))) (by kernel_rfl) (fun hc16 => ?_) (fun hc16 => ?_)
   ·replace h2 := ite_t hc16 h2
    refine gv_skip <| gv_seq <| gv_block <| gv_seq <| gv_region <| gv_pureN 2 [10, 11] [(10, (.slice pa0_0 (List.length l_0) pc0_0)), (11, (.int .i64 s10.1))] (by kernel_rfl) ?_
    refine bindE h2 ?_; clear h2; intro x17 hx18 h2
    refine gv_idxaddr (t := 102) (e := 24) (a := pa0_0) (len := List.length l_0) (cap := pc0_0) (kk := .i64) (i := s10.1) (sz := 2) [] (fun e => by cases e) rfl rfl rfl (by kernel_rfl) (by kernel_rfl) Try.underlying102 (by kernel_rfl) ((hpa0_0.below hB13 hX0).has hx18) (idx_spec hx18).1 (idx_spec hx18).2.1 rfl ?_
    obtain ⟨_, ⟨_, _, rfl, rfl, ⟨a20, c21, rfl, hr22⟩⟩, hc19⟩ := hpa0_0.cellsK hx18
    refine gv_loadAgg (t := 24) (A := (elemAddr pa0_0 ((s10.1).toNat * 2))) #[(.bool x17.1), (.slice a20 (List.length x17.2) c21)] [] (fun e => by cases e) rfl rfl rfl (by kernel_rfl) (by kernel_rfl) (by kernel_rfl) (by kernel_rfl) (inw0 (hc19 w11 (fun k hk => hB13.block k (hX0 k hk)))) rfl ?_
    refine bindE h2 ?_; clear h2; intro r23 hr24 h2
    refine gv_call0 (by kernel_rfl) rfl (by kernel_rfl) enters12 (ref3_IntOk_ok fuel a20 c21 (x17.1, x17.2) w11 (fun k => X0 k) (fun k hk => (fun k (hk : X0 k) => ltl (hX0 k hk) hB13.size) k hk) ((hr22.below hB13 hX0).wide (fun k hk => hk)) r23 hr24) ?_
    rintro v27 w25 ⟨hg26, rfl⟩
    refine gv_pureN 1 [15] [(15, (.bool (!r23)))] (by kernel_rfl) ?_
    refine gv_nil <| gv_cond (b := (!r23)) (by kernel_rfl) (fun hc28 => ?_) (fun hc28 => ?_)
    ·replace h2 := ite_t hc28 h2
     refine gv_seq <| gv_region <| gv_pureN 2 [16, 17] [(17, (.int .i64 (IntKind.i64.wrap ((-1) - s10.1))))] (by kernel_rfl) ?_
     refine bindE h2 ?_; clear h2; intro r29 hr30 h2
     refine gv_call0 (by kernel_rfl) rfl (by kernel_rfl) enters59 (ref3_At_ok fuel 6 (IntKind.i64.wrap ((-1) - s10.1)) w25  r29 hr30) ?_
     rintro v33 w31 ⟨hg32, rfl⟩
     have hg38 := (grown_trans hg26 hg32)
     have hk39 := hb15.grown hg38 nb
     refine gv_store0 29 0 (.agg #[(.int .i64 r29.1), (.int .i64 r29.2)]) #[(.int .i64 r29.1), (.int .i64 r29.2)] hk39 (by kernel_rfl) (by kernel_rfl) (by kernel_rfl) ?_
     intro w34 hg35 hb36 hz37
     refine gv_nil <| gv_cret ?_
     have e := sj h2; subst e
     replace h1 := congrArg some (hR2 _ rfl)
     have e := sj h1; subst e
     replace h0 := cont_inr h0
     have e := sj h0; subst e
     refine gv_ret (gv_done [(.agg #[(.int .i64 r29.1), (.int .i64 r29.2)])] rfl ⟨⟨⟨b1, 0, none⟩, (by kernel_rfl), run_loadVar_row w34 b1 _ 29 _ _ _ hb36 Try.underlying29 rfl (by kernel_rfl)⟩, trivial⟩ ?_)
     have hB40 := bg hB13 hg38 nb
     have hlo41 : w0.heap.size ≤ b1 := lob hbe5 hB0.size
     have hB42 := bg hB40 hg35 (rowlo hlo41)
     exact ⟨grown_of_below hB42, rfl⟩
    ·replace h2 := ite_f hc28 h2
     refine gv_skip <| gv_blk <| gv_region <| gv_pureN 3 [3, 8, 9] [(3, (.int .i64 (IntKind.i64.wrap (s10.1 + 1))))] (by kernel_rfl) ?_
     refine gv_nil ?_
     have e := sj h2; subst e
     refine gv_goal fun a hd hs hok => ?_
     have hB43 := bg hB13 hg26 nb
     have hz44 := (nt hz14 hg26.size)
     have hk45 := hb15.grown hg26 nb
     exact ⟨((IntKind.i64.wrap (s10.1 + 1)), (s10.2.1, s10.2.2)), rfl, hB43, hz44, hk45, hd, hs, ok_pick [0, 2, 3] hok (by kernel_rfl)⟩
   ·replace h2 := ite_f hc16 h2
    refine gv_cexit <| gv_exit rfl ?_
    have e := sj h2; subst e
    replace h1 := congrArg some (hR2 _ rfl)
    have e := sj h1; subst e
    refine gv_goal fun a hd hs hok => ?_
    have hz46 := hz14
    exact ⟨(s10.2.1, s10.2.2), rfl, hB13, hz46, hb15, hd, hs, ok_pick [2] hok (by kernel_rfl)⟩
 ·rintro a w9 ⟨s8, e, hB47, hz48, hb49, hd, hs, hok⟩
  subst e
  refine gv_in ?_ hd hs hok
  clear hd hs hok
  replace h0 := cont_inl h0
  clear hz48 hz6 hb4 hg3
  refine gv_seq <| gv_region <| gv_pureN 1 [19] [(19, (.agg #[(.int .i64 0), (.int .i64 0)]))] (by kernel_rfl) ?_
  refine gv_store0 29 0 (.agg #[(.int .i64 0), (.int .i64 0)]) #[(.int .i64 0), (.int .i64 0)] hb49 (by kernel_rfl) (by kernel_rfl) (by kernel_rfl) ?_
  intro w50 hg51 hb52 hz53
  refine gv_nil <| gv_cret ?_
  have e := sj h0; subst e
  refine gv_ret (gv_done [(.agg #[(.int .i64 0), (.int .i64 0)])] rfl ⟨⟨⟨b1, 0, none⟩, (by kernel_rfl), run_loadVar_row w50 b1 _ 29 _ _ _ hb52 Try.underlying29 rfl (by kernel_rfl)⟩, trivial⟩ ?_)
  have hlo54 : w0.heap.size ≤ b1 := lob hbe5 hB0.size
  have hB55 := bg hB47 hg51 (rowlo hlo54)
  exact ⟨grown_of_below hB55, rfl⟩

theorem law4_RandomBounded_ok (fuel : Nat) (g_0 : (Int × Int)) (bits_1 : Int) (pa2_0 : Option Addr) (pc2_0 : Nat) (low_2 : (Bool × (List Int))) (pa3_0 : Option Addr) (pc3_0 : Nat) (high_3 : (Bool × (List Int))) (pa4_0 : Option Addr) (pc4_0 : Nat) (weights_4 : (List Int)) (w0 : World) (X0 : Nat → Prop) (hX0 : ∀ k, X0 k → k < w0.heap.size) (hpa2_0 : Rd (iE .u32) w0 X0 pa2_0 pc2_0 low_2.2) (hpa3_0 : Rd (iE .u32) w0 X0 pa3_0 pc3_0 high_3.2) (hpa4_0 : Rd (iE .i64) w0 X0 pa4_0 pc4_0 weights_4) (r0 : Bool) (h0 : law4_RandomBounded fuel g_0 bits_1 low_2 high_3 weights_4 = some r0) :
    Calls Try.prog 7 ([(.agg #[(.int .u64 g_0.1), (.int .u64 g_0.2)]), (.int .i64 bits_1), (.agg #[(.bool low_2.1), (.slice pa2_0 (List.length low_2.2) pc2_0)]), (.agg #[(.bool high_3.1), (.slice pa3_0 (List.length high_3.2) pc3_0)]), (.slice pa4_0 (List.length weights_4) pc4_0)] : List Value).toArray w0 (Ret fun v w' => w0.grownBy w' none ∧ v = tup [(.bool r0)]) := by
 have hB0 : Below w0.heap.size w0 w0 := Below.refl _ _
 unfold law4_RandomBounded at h0
 refine calls_run Try.func7 rfl Try.ntmps7 (by kernel_rfl) ?_
 refine gv_sub [0, 1, 2, 3, 4] (σ' := [(0, (.agg #[(.int .u64 g_0.1), (.int .u64 g_0.2)])), (1, (.int .i64 bits_1)), (2, (.agg #[(.bool low_2.1), (.slice pa2_0 (List.length low_2.2) pc2_0)])), (3, (.agg #[(.bool high_3.1), (.slice pa3_0 (List.length high_3.2) pc3_0)])), (4, (.slice pa4_0 (List.length weights_4) pc4_0))]) (by kernel_rfl) ?_
 refine gv_seq <| gv_region <| gv_new0 (fun b => .pointer (some ⟨b, 0, none⟩)) #[(.int .u64 g_0.1), (.int .u64 g_0.2)] 27 (by kernel_rfl) (by kernel_rfl) ?_
 intro b1 w2 hg3 hb4 hbe5 hz6
 refine gv_new0 (fun b => .pointer (some ⟨b, 0, none⟩)) #[(.bool low_2.1), (.slice pa2_0 (List.length low_2.2) pc2_0)] 24 (by kernel_rfl) (by kernel_rfl) ?_
 intro b7 w8 hg9 hb10 hbe11 hz12
 refine gv_new0 (fun b => .pointer (some ⟨b, 0, none⟩)) #[(.bool high_3.1), (.slice pa3_0 (List.length high_3.2) pc3_0)] 24 (by kernel_rfl) (by kernel_rfl) ?_
 intro b13 w14 hg15 hb16 hbe17 hz18
 refine gv_pureN 1 [10] [] (by kernel_rfl) ?_
 refine gv_nil <| gv_seq <| gv_seq <| gv_region <| bindE h0 ?_; clear h0; intro r19 hr20 h0
 refine gv_call0 (by kernel_rfl) rfl (by kernel_rfl) enters11 (law4_draws_ok fuel  w14  r19 hr20) ?_
 rintro v23 w21 ⟨hg22, rfl⟩
 refine gv_pureN 1 [24] [(24, (.bool (!r19)))] (by kernel_rfl) ?_
 refine gv_nil <| gv_cond (b := (!r19)) (by kernel_rfl) (fun hc24 => ?_) (fun hc24 => ?_)
 ·replace h0 := ite_t hc24 h0
  refine gv_seq <| gv_region <| gv_pureN 1 [10] [(10, (.bool false))] (by kernel_rfl) ?_
  refine gv_nil <| gv_cret ?_
  have e := sj h0; subst e
  refine gv_ret (gv_done [(.bool false)] rfl ⟨(by kernel_rfl), trivial⟩ ?_)
  have hg25 := (grown_trans (grown_trans (grown_trans hg3 hg9) hg15) hg22)
  have hB26 := bg hB0 hg25 nb
  exact ⟨grown_of_below hB26, rfl⟩
 ·replace h0 := ite_f hc24 h0
  refine gv_skip <| gv_seq <| gv_seq <| gv_region <| gv_pureN 1 [25] [(25, (.pointer (some ⟨b1, 1, none⟩)))] (by kernel_rfl) ?_
  have hg27 := (grown_trans (grown_trans hg9 hg15) hg22)
  have hk28 := hb4.grown hg27 nb
  refine gv_load (t := 25) (A := ⟨b1, 1, none⟩) (.int .u64 g_0.2) [] (fun e => by cases e) rfl rfl rfl (by kernel_rfl) (by kernel_rfl) (by kernel_rfl) (inw0 (hk28.cell 1 rfl)) rfl ?_
  refine gv_pureN 2 [27, 28] [(28, (.bool (((g_0.2).tmod 2) == 0)))] (by kernel_rfl) ?_
  refine gv_nil <| gv_cond (b := (((g_0.2).tmod 2) == 0)) (by kernel_rfl) (fun hc29 => ?_) (fun hc29 => ?_)
  ·replace h0 := ite_t hc29 h0
   refine gv_seq <| gv_region <| gv_pureN 1 [10] [(10, (.bool true))] (by kernel_rfl) ?_
   refine gv_nil <| gv_cret ?_
   have e := sj h0; subst e
   refine gv_ret (gv_done [(.bool true)] rfl ⟨(by kernel_rfl), trivial⟩ ?_)
   have hg30 := (grown_trans hg3 hg27)
   have hB31 := bg hB0 hg30 nb
   exact ⟨grown_of_below hB31, rfl⟩
  ·replace h0 := ite_f hc29 h0
   refine gv_skip <| gv_seq <| gv_seq <| gv_region <| gv_cut_ops (J := fun a w32 => w21 = w32 ∧ a.defers = [] ∧ a.tmps.size = 158 ∧ Ok [(1, (.int .i64 bits_1)), (4, (.slice pa4_0 (List.length weights_4) pc4_0)), (5, (bp b1)), (7, (bp b7)), (8, (bp b13)), (34, (.bool ((decide (bits_1 ≥ 0)) && (decide (bits_1 < 4000)))))] a.tmps) ?_ ?_
   ·skip
    refine gv_pureN 3 [29, 30, 31] [(31, (.bool (decide (bits_1 ≥ 0))))] (by kernel_rfl) ?_
    refine gv_split (s := 31) (g := (decide (bits_1 ≥ 0))) (by kernel_rfl) (fun hc33 => ?_) (fun hc33 => ?_)
    ·skip
     refine gv_pureN 3 [32, 33, 34] [(34, (.bool (decide (bits_1 < 4000))))] (by kernel_rfl) ?_
     refine gv_nil <| gv_sub [1, 4, 5, 7, 8, 34] (σ' := [(1, (.int .i64 bits_1)), (4, (.slice pa4_0 (List.length weights_4) pc4_0)), (5, (bp b1)), (7, (bp b7)), (8, (bp b13)), (34, (.bool (decide (bits_1 < 4000))))]) (by kernel_rfl) ?_
     refine gv_goal fun a hd hs hok => ⟨rfl, hd, hs, ?_⟩
     obtain ⟨q1, q4, q5, q7, q8, q34, _⟩ := hok
     exact ⟨q1, q4, q5, q7, q8, (by rw [hc33]; exact q34), trivial⟩
    ·skip
     refine gv_pureN 3 [32, 33, 34] [(34, (.bool false))] (by kernel_rfl) ?_
     refine gv_nil <| gv_sub [1, 4, 5, 7, 8, 34] (σ' := [(1, (.int .i64 bits_1)), (4, (.slice pa4_0 (List.length weights_4) pc4_0)), (5, (bp b1)), (7, (bp b7)), (8, (bp b13)), (34, (.bool false))]) (by kernel_rfl) ?_
     refine gv_goal fun a hd hs hok => ⟨rfl, hd, hs, ?_⟩
     obtain ⟨q1, q4, q5, q7, q8, q34, _⟩ := hok
     exact ⟨q1, q4, q5, q7, q8, (by rw [hc33]; exact q34), trivial⟩
   ·rintro a w32 ⟨e, hd, hs, hok⟩; subst e
    refine gv_in ?_ hd hs hok
    clear hd hs hok
    refine bindE h0 ?_; clear h0; intro j34 h1 h0
    refine gv_cut_code (J := fun a w36 => ∃ s35 : Unit, j34 = .inl s35 ∧ Below w0.heap.size w0 w36 ∧ w21.heap.size ≤ w36.heap.size ∧ Box w36 b1 27 #[(.int .u64 g_0.1), (.int .u64 g_0.2)] ∧ Box w36 b7 24 #[(.bool low_2.1), (.slice pa2_0 (List.length low_2.2) pc2_0)] ∧ Box w36 b13 24 #[(.bool high_3.1), (.slice pa3_0 (List.length high_3.2) pc3_0)] ∧ a.defers = [] ∧ a.tmps.size = 158 ∧ Ok [(4, (.slice pa4_0 (List.length weights_4) pc4_0)), (5, (bp b1)), (7, (bp b7)), (8, (bp b13))] a.tmps) ?_ ?_
    ·skip
     refine gv_cond (b := ((decide (bits_1 ≥ 0)) && (decide (bits_1 < 4000)))) (by kernel_rfl) (fun hc37 => ?_) (fun hc37 => ?_)
     ·replace h1 := ite_t hc37 h1
      refine gv_seq <| gv_region <| bindE h1 ?_; clear h1; intro r38 hr39 h1
      refine gv_call0 (by kernel_rfl) rfl (by kernel_rfl) enters25 (ref3_Number_ok fuel 1 w21  r38 hr39) ?_
      rintro v42 w40 ⟨hg41, a43, c44, X46, rfl, ho45, hx47⟩
      have hx48 : ∀ k, X46 k → k < w40.heap.size := fun k hk => (hx47 k hk).1
      have hg50 := (grown_trans hg3 hg27)
      have hB51 := bg hB0 hg50 nb
      have hx49 : ∀ k, X46 k → X0 k ∨ w0.heap.size ≤ k := fun k hk => (hx47 k hk).2.elim (fun h => h.elim) (fun h => .inr (Nat.le_trans hB51.size h))
      refine gv_pureN 1 [36] [(36, (.int .i64 bits_1))] (by kernel_rfl) ?_
      refine bindE h1 ?_; clear h1; intro r52 hr53 h1
      refine gv_call0 (by kernel_rfl) rfl (by kernel_rfl) enters33 (ref3_Int_Moved_ok fuel a43 c44 (r38.1, r38.2) bits_1 w40 (fun k => X46 k) (fun k hk => hx48 k hk) (ho45.wide (fun k hk => hk)) r52 hr53) ?_
      rintro v56 w54 ⟨hg55, a57, c58, X60, rfl, ho59, hx61⟩
      have hx62 : ∀ k, X60 k → k < w54.heap.size := fun k hk => (hx61 k hk).1
      have hB64 := bg hB51 hg41 nb
      have hx63 : ∀ k, X60 k → X0 k ∨ w0.heap.size ≤ k := fun k hk => (hx61 k hk).2.elim (fun h => hx49 k h) (fun h => .inr (Nat.le_trans hB64.size h))
      refine gv_new0 (fun b => .pointer (some ⟨b, 0, none⟩)) #[(.bool false), (.slice none (List.length ([] : List Int)) 0)] 49 (by kernel_rfl) (by kernel_rfl) ?_
      intro b65 w66 hg67 hb68 hbe69 hz70
      refine gv_store0 49 0 (.agg #[(.bool r52.1), (.slice a57 (List.length r52.2) c58)]) #[(.bool r52.1), (.slice a57 (List.length r52.2) c58)] hb68 (by kernel_rfl) (by kernel_rfl) (by kernel_rfl) ?_
      intro w71 hg72 hb73 hz74
      have hz75 := (nt (nt (nt hg41.size hg55.size) hg67.size) hg72.size)
      clear hz74 hz70 hb68 hr53 hx49 hB51 hg50 hx48 ho45 hr39 hc37 hc29 hg27 hc24 hr20 hz18 hz12 hz6
      refine gv_nil <| gv_seq <| gv_anyM [] (by kernel_rfl) (List.range 16) [] (by kernel_rfl) ?_
      intro w76 hg77
      have hg79 := (grown_trans (grown_trans hg41 hg55) hg67)
      have lt80 := ltl ((ltb hb4) _ rfl) ((lowb hbe11) _ rfl)
      have lt81 := ltl ((ltb hb10) _ rfl) ((lowb hbe17) _ rfl)
      have lt82 := ltt lt80 lt81
      have hg83 := (grown_trans (grown_trans hg22 hg41) hg55)
      have hk84 := hb16.grown hg83 nb
      have lt85 := ltl ((ltb hk84) _ rfl) ((lowb hbe69) _ rfl)
      have lt86 := ltt lt82 lt85
      have hk87 := ((hk28.grown hg79 nb).grown hg72 (rowne (ng lt86))).grown hg77 nb
      have hM78 : ∀ k, (· = b1) k → k < w76.heap.size := (ltb hk87)
      have hg89 := (grown_trans (grown_trans hg15 hg83) hg67)
      have lt90 := ltt lt81 lt85
      have hk91 := ((hb10.grown hg89 nb).grown hg72 (rowne (ng lt90))).grown hg77 nb
      have hM88 : ∀ k, (· = b7) k → k < w76.heap.size := (ltb hk91)
      have hk93 := ((hk84.grown hg67 nb).grown hg72 (rowne (ng lt85))).grown hg77 nb
      have hM92 : ∀ k, (· = b13) k → k < w76.heap.size := (ltb hk93)
      have hx95 := ltx (ltx (ltx hx62 hg67.size) hg72.size) hg77.size
      have hM94 : ∀ k, X60 k → k < w76.heap.size := hx95
      have hM96 : ∀ k, X60 k → k < w76.heap.size := hx95
      have hk98 := hb73.grown hg77 nb
      have hM97 : ∀ k, (· = b65) k → k < w76.heap.size := (ltb hk98)
      refine bindE h1 ?_; clear h1; intro r123 hr124 h1
      refine bindE h1 ?_; clear h1; intro r174 hr175 h1
      refine gv_thrs [0, 1, 2] [(3, [4]), (5, [6, 7, 8, 9])] [⟨10, 12, 24, #[(.bool false), (.slice none (List.length ([] : List Int)) 0)], some (13, 45)⟩, ⟨11, 13, 27, #[(.int .u64 0), (.int .u64 0)], some (14, 46)⟩, ⟨12, 14, 29, #[(.int .i64 0), (.int .i64 0)], some (15, 47)⟩] (fun p => match p with | 0 => [1, 4, 5, 7, 8, 11, 39, 41] | 1 => [1, 4, 5, 7, 8, 11, 39, 43] | _ => [1, 4, 5, 7, 8, 11, 45, 46, 47]) (fun p σ B w => match p with | 0 => (σ = [(1, (.int .i64 bits_1)), (4, (.slice pa4_0 (List.length weights_4) pc4_0)), (5, (bp b1)), (7, (bp b7)), (8, (bp b13)), (11, (bp b65)), (39, (.agg #[(.int .u64 g_0.1), (.int .u64 g_0.2)])), (41, (.slice a57 (List.length r52.2) c58))] ∧ Below w0.heap.size w0 w ∧ w76.heap.size ≤ w.heap.size ∧ Box w b1 27 #[(.int .u64 g_0.1), (.int .u64 g_0.2)] ∧ Box w b7 24 #[(.bool low_2.1), (.slice pa2_0 (List.length low_2.2) pc2_0)] ∧ Box w b13 24 #[(.bool high_3.1), (.slice pa3_0 (List.length high_3.2) pc3_0)] ∧ Rd (iE .i64) w X60 a57 c58 r52.2 ∧ Box w b65 49 #[(.bool r52.1), (.slice a57 (List.length r52.2) c58)]) | 1 => (∃ (a128 : Option Addr), ∃ (c129 : Nat), σ = [(1, (.int .i64 bits_1)), (4, (.slice pa4_0 (List.length weights_4) pc4_0)), (5, (bp b1)), (7, (bp b7)), (8, (bp b13)), (11, (bp b65)), (39, (.agg #[(.int .u64 g_0.1), (.int .u64 g_0.2)])), (43, (.agg #[(.bool false), (.slice a128 (List.length r123) c129)]))] ∧ Below w0.heap.size w0 w ∧ w76.heap.size ≤ w.heap.size ∧ Box w b1 27 #[(.int .u64 g_0.1), (.int .u64 g_0.2)] ∧ Box w b7 24 #[(.bool low_2.1), (.slice pa2_0 (List.length low_2.2) pc2_0)] ∧ Box w b13 24 #[(.bool high_3.1), (.slice pa3_0 (List.length high_3.2) pc3_0)] ∧ Rd (iE .i64) w X60 a57 c58 r52.2 ∧ Box w b65 49 #[(.bool r52.1), (.slice a57 (List.length r52.2) c58)] ∧ Own (iE .u32) 76 w (fun _ => False) a128 c129 r123 ∧ (∀ g, blk a128 = some g → w0.heap.size ≤ g) ∧ (∀ k, (fun k => blk a128 = some k) k → B k → False) ∧ (∀ g, blk a128 = some g → ¬ (· = b1) g) ∧ (¬ (fun k => blk a128 = some k) b1) ∧ (∀ g, blk a128 = some g → ¬ (· = b7) g) ∧ (¬ (fun k => blk a128 = some k) b7) ∧ (∀ g, blk a128 = some g → ¬ (· = b13) g) ∧ (¬ (fun k => blk a128 = some k) b13) ∧ (∀ g, blk a128 = some g → ¬ X60 g) ∧ (∀ g, blk a128 = some g → ¬ (· = b65) g) ∧ (¬ (fun k => blk a128 = some k) b65)) | _ => (∃ (a179 : Option Addr), ∃ (c180 : Nat), σ = [(1, (.int .i64 bits_1)), (4, (.slice pa4_0 (List.length weights_4) pc4_0)), (5, (bp b1)), (7, (bp b7)), (8, (bp b13)), (11, (bp b65)), (45, (.agg #[(.bool r174.1.1), (.slice a179 (List.length r174.1.2) c180)])), (46, (.agg #[(.int .u64 r174.2.1.1), (.int .u64 r174.2.1.2)])), (47, (.agg #[(.int .i64 r174.2.2.1), (.int .i64 r174.2.2.2)]))] ∧ Below w0.heap.size w0 w ∧ w76.heap.size ≤ w.heap.size ∧ Box w b1 27 #[(.int .u64 g_0.1), (.int .u64 g_0.2)] ∧ Box w b7 24 #[(.bool low_2.1), (.slice pa2_0 (List.length low_2.2) pc2_0)] ∧ Box w b13 24 #[(.bool high_3.1), (.slice pa3_0 (List.length high_3.2) pc3_0)] ∧ Rd (iE .i64) w X60 a57 c58 r52.2 ∧ Box w b65 49 #[(.bool r52.1), (.slice a57 (List.length r52.2) c58)] ∧ Own (iE .u32) 76 w (fun _ => False) a179 c180 r174.1.2 ∧ (∀ g, blk a179 = some g → w0.heap.size ≤ g) ∧ (∀ k, (fun k => blk a179 = some k) k → B k → False) ∧ (∀ g, blk a179 = some g → ¬ (· = b1) g) ∧ (¬ (fun k => blk a179 = some k) b1) ∧ (∀ g, blk a179 = some g → ¬ (· = b7) g) ∧ (¬ (fun k => blk a179 = some k) b7) ∧ (∀ g, blk a179 = some g → ¬ (· = b13) g) ∧ (¬ (fun k => blk a179 = some k) b13) ∧ (∀ g, blk a179 = some g → ¬ X60 g) ∧ (∀ g, blk a179 = some g → ¬ (· = b65) g) ∧ (¬ (fun k => blk a179 = some k) b65))) (by kernel_rfl) (by kernel_rfl) (by decide) ⟨⟨rfl, rfl, by decide, fun _ _ => by kernel_rfl⟩, ⟨rfl, rfl, by decide, fun _ _ => by kernel_rfl⟩, ⟨rfl, rfl, by decide, fun _ _ => by kernel_rfl⟩, trivial⟩ ⟨(fun s x h => by cases h; exact ⟨rfl, rfl, by kernel_rfl, by kernel_rfl, fun b v => ⟨by kernel_rfl, by kernel_rfl⟩⟩), (fun s x h => by cases h; exact ⟨rfl, rfl, by kernel_rfl, by kernel_rfl, fun b v => ⟨by kernel_rfl, by kernel_rfl⟩⟩), (fun s x h => by cases h; exact ⟨rfl, rfl, by kernel_rfl, by kernel_rfl, fun b v => ⟨by kernel_rfl, by kernel_rfl⟩⟩), trivial⟩ ?_ ?_ ?_ ?_ ?_ ?_
      ·rintro σ B w ⟨a179, c180, rfl, hB340, hz341, hk342, hk343, hk344, hk345, hk346, hk347, hlo348, hnb349, hap350, hap351, hap352, hap353, hap354, hap355, hap356, hap357, hap358⟩
       exact ⟨(fun s x h => by cases h; exact ⟨(.agg #[(.bool r174.1.1), (.slice a179 (List.length r174.1.2) c180)]), rfl, rfl, by intro u hu; simp [Value.cells] at hu; rcases hu with rfl | rfl <;> rfl⟩), (fun s x h => by cases h; exact ⟨(.agg #[(.int .u64 r174.2.1.1), (.int .u64 r174.2.1.2)]), rfl, rfl, by intro u hu; simp [Value.cells] at hu; rcases hu with rfl | rfl <;> rfl⟩), (fun s x h => by cases h; exact ⟨(.agg #[(.int .i64 r174.2.2.1), (.int .i64 r174.2.2.2)]), rfl, rfl, by intro u hu; simp [Value.cells] at hu; rcases hu with rfl | rfl <;> rfl⟩), trivial⟩
      ·intro p
       rcases p with _ | _ | p
       ·rintro σ B203 w201 w202 b205 ⟨rfl, hB209, hz210, hk211, hk212, hk213, hk214, hk215⟩ hBl204 hC hbe206 hg207 hz208
        have hB216 := bg hB209 hg207 nb
        have hz217 := (nt hz210 hg207.size)
        have hk218 := hk211.grown hg207 nb
        have hk219 := hk212.grown hg207 nb
        have hk220 := hk213.grown hg207 nb
        have hk221 := hk214.grown hg207 (fun k hk => ltl (hM96 k hk) hz210) nb
        have hk222 := hk215.grown hg207 nb
        exact ⟨rfl, hB216, hz217, hk218, hk219, hk220, hk221, hk222⟩
       ·rintro σ B225 w223 w224 b227 ⟨a128, c129, rfl, hB231, hz232, hk233, hk234, hk235, hk236, hk237, hk238, hlo239, hnb240, hap241, hap242, hap243, hap244, hap245, hap246, hap247, hap248, hap249⟩ hBl226 hC hbe228 hg229 hz230
        have hB250 := bg hB231 hg229 nb
        have hz251 := (nt hz232 hg229.size)
        have hk252 := hk233.grown hg229 nb
        have hk253 := hk234.grown hg229 nb
        have hk254 := hk235.grown hg229 nb
        have hk255 := hk236.grown hg229 (fun k hk => ltl (hM96 k hk) hz232) nb
        have hk256 := hk237.grown hg229 nb
        have hk257 := hk238.grown hg229 (fun _ h => h.elim) nb
        exact ⟨a128, c129, rfl, hB250, hz251, hk252, hk253, hk254, hk255, hk256, hk257, hlo239, (fun k hk hb => hb.elim (fun hb => hnb240 k hk hb) (fun e => Nat.ne_of_lt ((fun k (hk : blk a128 = some k) => hk238.lt k hk) k hk) (e.trans hbe228))), hap241, hap242, hap243, hap244, hap245, hap246, hap247, hap248, hap249⟩
       ·rintro σ B260 w258 w259 b262 ⟨a179, c180, rfl, hB266, hz267, hk268, hk269, hk270, hk271, hk272, hk273, hlo274, hnb275, hap276, hap277, hap278, hap279, hap280, hap281, hap282, hap283, hap284⟩ hBl261 hC hbe263 hg264 hz265
        have hB285 := bg hB266 hg264 nb
        have hz286 := (nt hz267 hg264.size)
        have hk287 := hk268.grown hg264 nb
        have hk288 := hk269.grown hg264 nb
        have hk289 := hk270.grown hg264 nb
        have hk290 := hk271.grown hg264 (fun k hk => ltl (hM96 k hk) hz267) nb
        have hk291 := hk272.grown hg264 nb
        have hk292 := hk273.grown hg264 (fun _ h => h.elim) nb
        exact ⟨a179, c180, rfl, hB285, hz286, hk287, hk288, hk289, hk290, hk291, hk292, hlo274, (fun k hk hb => hb.elim (fun hb => hnb275 k hk hb) (fun e => Nat.ne_of_lt ((fun k (hk : blk a179 = some k) => hk273.lt k hk) k hk) (e.trans hbe263))), hap276, hap277, hap278, hap279, hap280, hap281, hap282, hap283, hap284⟩
      ·rintro σ B295 w293 w294 b297 ⟨a179, c180, rfl, hB301, hz302, hk303, hk304, hk305, hk306, hk307, hk308, hlo309, hnb310, hap311, hap312, hap313, hap314, hap315, hap316, hap317, hap318, hap319⟩ hBl296 hC hBb298 hg299 hz300
       have hg321 := (grown_trans hg55 hg67)
       have hB322 := bg hB64 hg321 nb
       have hB323 := bg hB64 hg55 nb
       have hlo324 : w0.heap.size ≤ b65 := lob hbe69 hB323.size
       have hB325 := bg hB322 hg72 (rowlo hlo324)
       have hB326 := bg hB325 hg77 nb
       have hB320 := below_grown hB301 hg299 hB301.size (rowlo (Nat.le_trans hB326.size (hBl296 _ hBb298).1))
       have : w293.heap.size ≤ w294.heap.size := hg299.size
       have hr327 : ∀ g, some b297 = some g → ¬ (· = b1) g := fun g e h => by cases e; exact (fun k (h : (· = b1) k) (hb : B295 k) => nl (hBl296 k hb).1 (hM78 k h)) _ h hBb298
       have hk328 := hk303.grown hg299 hr327
       have hr329 : ∀ g, some b297 = some g → ¬ (· = b7) g := fun g e h => by cases e; exact (fun k (h : (· = b7) k) (hb : B295 k) => nl (hBl296 k hb).1 (hM88 k h)) _ h hBb298
       have hk330 := hk304.grown hg299 hr329
       have hr331 : ∀ g, some b297 = some g → ¬ (· = b13) g := fun g e h => by cases e; exact (fun k (h : (· = b13) k) (hb : B295 k) => nl (hBl296 k hb).1 (hM92 k h)) _ h hBb298
       have hk332 := hk305.grown hg299 hr331
       have hr333 : ∀ g, some b297 = some g → ¬ X60 g := fun g e h => by cases e; exact (fun k (h : X60 k) (hb : B295 k) => nl (hBl296 k hb).1 (hM94 k h)) _ h hBb298
       have hk334 := hk306.grown hg299 (fun k hk => ltl (hM96 k hk) hz302) hr333
       have hr335 : ∀ g, some b297 = some g → ¬ (· = b65) g := fun g e h => by cases e; exact (fun k (h : (· = b65) k) (hb : B295 k) => nl (hBl296 k hb).1 (hM97 k h)) _ h hBb298
       have hk336 := hk307.grown hg299 hr335
       have hr337 : ∀ g, some b297 = some g → ¬ (fun k => blk a179 = some k) g := fun g e h => by cases e; exact hnb310 _ h hBb298
       have hk338 := hk308.grown hg299 (fun _ h => h.elim) (fun g e => ⟨fun h => h, hr337 g e⟩)
       have hz339 := (nt hz302 hg299.size)
       exact ⟨a179, c180, rfl, hB320, hz339, hk328, hk330, hk332, hk334, hk336, hk338, hlo309, hnb310, hap311, hap312, hap313, hap314, hap315, hap316, hap317, hap318, hap319⟩
      ·intro p m qs' hp
       rcases p with _ | _ | p
       ·cases (show some ((3, [4]) : Nat × List Nat) = some (m, qs') from hp)
        rintro σ B112 w111 es113 ⟨rfl, hB116, hz117, hk118, hk119, hk120, hk121, hk122⟩ hBl114 hC115
        refine gv_sub [1, 4, 5, 7, 8, 11, 12, 13, 14, 39, 41] (σ' := [(1, (.int .i64 bits_1)), (4, (.slice pa4_0 (List.length weights_4) pc4_0)), (5, (bp b1)), (7, (bp b7)), (8, (bp b13)), (11, (bp b65)), (12, (es113 0)), (13, (es113 1)), (14, (es113 2)), (39, (.agg #[(.int .u64 g_0.1), (.int .u64 g_0.2)])), (41, (.slice a57 (List.length r52.2) c58))]) (by kernel_rfl) ?_
        refine gv_call (f := 34) (vs := [(.slice a57 (List.length r52.2) c58)]) (cap := []) _ (by decide) rfl rfl rfl (by kernel_rfl) (by kernel_rfl) enters34 (ref3_Limbs_ok fuel a57 c58 r52.2 w111 (fun k => X60 k) (fun k hk => (fun k hk => ltl (hM96 k hk) hz117) k hk) (hk121.wide (fun k hk => hk)) r123 hr124) ?_
        rintro v127 w125 ⟨hg126, a128, c129, rfl, ho130, hl131⟩
        refine ⟨(fun _ => hC115.grown hg126 nb), ?_⟩
        have hl132 : ∀ g, blk a128 = some g → w0.heap.size ≤ g := fun g e => Nat.le_trans hB116.size (hl131 g e)
        have nb133 : ∀ k, (fun k => blk a128 = some k) k → B112 k → False := fun k hk hb => (fun h => nl (hl131 k h) (hBl114 k hb).2) hk
        refine gv_pureN 1 [43] [(43, (.agg #[(.bool false), (.slice a128 (List.length r123) c129)]))] (by kernel_rfl) ?_
        refine gv_nil <| gv_sub [1, 4, 5, 7, 8, 11, 12, 13, 14, 39, 43] (σ' := [(1, (.int .i64 bits_1)), (4, (.slice pa4_0 (List.length weights_4) pc4_0)), (5, (bp b1)), (7, (bp b7)), (8, (bp b13)), (11, (bp b65)), (12, (es113 0)), (13, (es113 1)), (14, (es113 2)), (39, (.agg #[(.int .u64 g_0.1), (.int .u64 g_0.2)])), (43, (.agg #[(.bool false), (.slice a128 (List.length r123) c129)]))]) (by kernel_rfl) ?_
        refine gv_goal fun a hd hs hok => ?_
        obtain ⟨q1, q4, q5, q7, q8, q11, q12, q13, q14, q39, q43, _⟩ := hok
        have hB134 := bg hB116 hg126 nb
        have hz135 := (nt hz117 hg126.size)
        have hk136 := hk118.grown hg126 nb
        have hk137 := hk119.grown hg126 nb
        have hk138 := hk120.grown hg126 nb
        have hk139 := hk121.grown hg126 (fun k hk => ltl (hM96 k hk) hz117) nb
        have hk140 := hk122.grown hg126 nb
        have ap141 : ∀ g, blk a128 = some g → ¬ (· = b1) g := fun g e hx => nl ((show ∀ k, blk a128 = some k → w111.heap.size ≤ k from hl131) g e) ((ltb hk118) _ hx)
        have ap142 : ¬ (fun k => blk a128 = some k) b1 := fun hx => nl ((show ∀ k, blk a128 = some k → w111.heap.size ≤ k from hl131) _ hx) ((ltb hk118) _ rfl)
        have ap143 : ∀ g, blk a128 = some g → ¬ (· = b7) g := fun g e hx => nl ((show ∀ k, blk a128 = some k → w111.heap.size ≤ k from hl131) g e) ((ltb hk119) _ hx)
        have ap144 : ¬ (fun k => blk a128 = some k) b7 := fun hx => nl ((show ∀ k, blk a128 = some k → w111.heap.size ≤ k from hl131) _ hx) ((ltb hk119) _ rfl)
        have ap145 : ∀ g, blk a128 = some g → ¬ (· = b13) g := fun g e hx => nl ((show ∀ k, blk a128 = some k → w111.heap.size ≤ k from hl131) g e) ((ltb hk120) _ hx)
        have ap146 : ¬ (fun k => blk a128 = some k) b13 := fun hx => nl ((show ∀ k, blk a128 = some k → w111.heap.size ≤ k from hl131) _ hx) ((ltb hk120) _ rfl)
        have ap147 : ∀ g, blk a128 = some g → ¬ X60 g := fun g e hx => nl ((show ∀ k, blk a128 = some k → w111.heap.size ≤ k from hl131) g e) ((fun k hk => ltl (hM96 k hk) hz117) _ hx)
        have ap148 : ∀ g, blk a128 = some g → ¬ (· = b65) g := fun g e hx => nl ((show ∀ k, blk a128 = some k → w111.heap.size ≤ k from hl131) g e) ((ltb hk122) _ hx)
        have ap149 : ¬ (fun k => blk a128 = some k) b65 := fun hx => nl ((show ∀ k, blk a128 = some k → w111.heap.size ≤ k from hl131) _ hx) ((ltb hk122) _ rfl)
        exact ⟨⟨_, hg126, fun _ e => by cases e⟩, hd, hs, [(1, (.int .i64 bits_1)), (4, (.slice pa4_0 (List.length weights_4) pc4_0)), (5, (bp b1)), (7, (bp b7)), (8, (bp b13)), (11, (bp b65)), (39, (.agg #[(.int .u64 g_0.1), (.int .u64 g_0.2)])), (43, (.agg #[(.bool false), (.slice a128 (List.length r123) c129)]))], rfl, ⟨a128, c129, rfl, hB134, hz135, hk136, hk137, hk138, hk139, hk140, ho130, hl132, nb133, ap141, ap142, ap143, ap144, ap145, ap146, ap147, ap148, ap149⟩, ⟨q1, q4, q5, q7, q8, q11, q39, q43, q12, q13, q14, trivial⟩⟩
       ·cases (show some ((5, [6, 7, 8, 9]) : Nat × List Nat) = some (m, qs') from hp)
        rintro σ B151 w150 es152 ⟨a128, c129, rfl, hB155, hz156, hk157, hk158, hk159, hk160, hk161, hk162, hlo163, hnb164, hap165, hap166, hap167, hap168, hap169, hap170, hap171, hap172, hap173⟩ hBl153 hC154
        refine gv_sub [1, 4, 5, 7, 8, 11, 12, 13, 14, 39, 43] (σ' := [(1, (.int .i64 bits_1)), (4, (.slice pa4_0 (List.length weights_4) pc4_0)), (5, (bp b1)), (7, (bp b7)), (8, (bp b13)), (11, (bp b65)), (12, (es152 0)), (13, (es152 1)), (14, (es152 2)), (39, (.agg #[(.int .u64 g_0.1), (.int .u64 g_0.2)])), (43, (.agg #[(.bool false), (.slice a128 (List.length r123) c129)]))]) (by kernel_rfl) ?_
        refine gv_call (f := 16) (vs := [(.agg #[(.int .u64 g_0.1), (.int .u64 g_0.2)]), (.agg #[(.bool false), (.slice a128 (List.length r123) c129)])]) (cap := []) _ (by decide) rfl rfl rfl (by kernel_rfl) (by kernel_rfl) enters16 (random_Below_ok fuel (g_0.1, g_0.2) a128 c129 (false, r123) w150 (fun k => (fun k => blk a128 = some k) k) (fun k hk => (fun k (hk : blk a128 = some k) => hk162.lt k hk) k hk) ((hk162.rd (Y := fun k => blk a128 = some k) (fun _ h => h.elim) (fun g e => e)).wide (fun k hk => hk)) r174 hr175) ?_
        rintro v178 w176 ⟨hg177, a179, c180, rfl, ho181, hl182⟩
        refine ⟨(fun _ => hC154.grown hg177 nb), ?_⟩
        have hl183 : ∀ g, blk a179 = some g → w0.heap.size ≤ g := fun g e => Nat.le_trans hB155.size (hl182 g e)
        have nb184 : ∀ k, (fun k => blk a179 = some k) k → B151 k → False := fun k hk hb => (fun h => nl (hl182 k h) (hBl153 k hb).2) hk
        refine gv_pureN 4 [38, 45, 46, 47] [(45, (.agg #[(.bool r174.1.1), (.slice a179 (List.length r174.1.2) c180)])), (46, (.agg #[(.int .u64 r174.2.1.1), (.int .u64 r174.2.1.2)])), (47, (.agg #[(.int .i64 r174.2.2.1), (.int .i64 r174.2.2.2)]))] (by kernel_rfl) ?_
        refine gv_nil <| gv_sub [1, 4, 5, 7, 8, 11, 12, 13, 14, 45, 46, 47] (σ' := [(1, (.int .i64 bits_1)), (4, (.slice pa4_0 (List.length weights_4) pc4_0)), (5, (bp b1)), (7, (bp b7)), (8, (bp b13)), (11, (bp b65)), (12, (es152 0)), (13, (es152 1)), (14, (es152 2)), (45, (.agg #[(.bool r174.1.1), (.slice a179 (List.length r174.1.2) c180)])), (46, (.agg #[(.int .u64 r174.2.1.1), (.int .u64 r174.2.1.2)])), (47, (.agg #[(.int .i64 r174.2.2.1), (.int .i64 r174.2.2.2)]))]) (by kernel_rfl) ?_
        refine gv_goal fun a hd hs hok => ?_
        obtain ⟨q1, q4, q5, q7, q8, q11, q12, q13, q14, q45, q46, q47, _⟩ := hok
        have hB185 := bg hB155 hg177 nb
        have hz186 := (nt hz156 hg177.size)
        have hk187 := hk157.grown hg177 nb
        have hk188 := hk158.grown hg177 nb
        have hk189 := hk159.grown hg177 nb
        have hk190 := hk160.grown hg177 (fun k hk => ltl (hM96 k hk) hz156) nb
        have hk191 := hk161.grown hg177 nb
        have ap192 : ∀ g, blk a179 = some g → ¬ (· = b1) g := fun g e hx => nl ((show ∀ k, blk a179 = some k → w150.heap.size ≤ k from hl182) g e) ((ltb hk157) _ hx)
        have ap193 : ¬ (fun k => blk a179 = some k) b1 := fun hx => nl ((show ∀ k, blk a179 = some k → w150.heap.size ≤ k from hl182) _ hx) ((ltb hk157) _ rfl)
        have ap194 : ∀ g, blk a179 = some g → ¬ (· = b7) g := fun g e hx => nl ((show ∀ k, blk a179 = some k → w150.heap.size ≤ k from hl182) g e) ((ltb hk158) _ hx)
        have ap195 : ¬ (fun k => blk a179 = some k) b7 := fun hx => nl ((show ∀ k, blk a179 = some k → w150.heap.size ≤ k from hl182) _ hx) ((ltb hk158) _ rfl)
        have ap196 : ∀ g, blk a179 = some g → ¬ (· = b13) g := fun g e hx => nl ((show ∀ k, blk a179 = some k → w150.heap.size ≤ k from hl182) g e) ((ltb hk159) _ hx)
        have ap197 : ¬ (fun k => blk a179 = some k) b13 := fun hx => nl ((show ∀ k, blk a179 = some k → w150.heap.size ≤ k from hl182) _ hx) ((ltb hk159) _ rfl)
        have ap198 : ∀ g, blk a179 = some g → ¬ X60 g := fun g e hx => nl ((show ∀ k, blk a179 = some k → w150.heap.size ≤ k from hl182) g e) ((fun k hk => ltl (hM96 k hk) hz156) _ hx)
        have ap199 : ∀ g, blk a179 = some g → ¬ (· = b65) g := fun g e hx => nl ((show ∀ k, blk a179 = some k → w150.heap.size ≤ k from hl182) g e) ((ltb hk161) _ hx)
        have ap200 : ¬ (fun k => blk a179 = some k) b65 := fun hx => nl ((show ∀ k, blk a179 = some k → w150.heap.size ≤ k from hl182) _ hx) ((ltb hk161) _ rfl)
        exact ⟨⟨_, hg177, fun _ e => by cases e⟩, hd, hs, [(1, (.int .i64 bits_1)), (4, (.slice pa4_0 (List.length weights_4) pc4_0)), (5, (bp b1)), (7, (bp b7)), (8, (bp b13)), (11, (bp b65)), (45, (.agg #[(.bool r174.1.1), (.slice a179 (List.length r174.1.2) c180)])), (46, (.agg #[(.int .u64 r174.2.1.1), (.int .u64 r174.2.1.2)])), (47, (.agg #[(.int .i64 r174.2.2.1), (.int .i64 r174.2.2.2)]))], rfl, ⟨a179, c180, rfl, hB185, hz186, hk187, hk188, hk189, hk190, hk191, ho181, hl183, nb184, ap192, ap193, ap194, ap195, ap196, ap197, ap198, ap199, ap200⟩, ⟨q1, q4, q5, q7, q8, q11, q45, q46, q47, q12, q13, q14, trivial⟩⟩
       ·simp at hp
      ·skip
       have hC100 := Cls.refl w76 []
       refine gv_sub [1, 4, 5, 7, 8, 11] (σ' := [(1, (.int .i64 bits_1)), (4, (.slice pa4_0 (List.length weights_4) pc4_0)), (5, (bp b1)), (7, (bp b7)), (8, (bp b13)), (11, (bp b65))]) (by kernel_rfl) ?_
       refine gv_loadBox (t := 27) (b := b1) (t' := 27) (fr := (0, 0)) #[(.int .u64 g_0.1), (.int .u64 g_0.2)] [] (fun e => by cases e) rfl rfl rfl (by kernel_rfl) (by kernel_rfl) (by kernel_rfl) (by kernel_rfl) (inw1 fun w' hC' => (hC'.box hk87 nm_nil)) rfl ?_
       refine gv_pureN 1 [40] [(40, (.pointer (some ⟨b65, 1, none⟩)))] (by kernel_rfl) ?_
       refine gv_load (t := 47) (A := ⟨b65, 1, none⟩) (.slice a57 (List.length r52.2) c58) [] (fun e => by cases e) rfl rfl rfl (by kernel_rfl) (by kernel_rfl) (by kernel_rfl) (inw1 fun w' hC' => ((hC'.box hk98 nm_nil).cell 1 rfl)) rfl ?_
       refine gv_nil <| gv_sub [1, 4, 5, 7, 8, 11, 39, 41] (σ' := [(1, (.int .i64 bits_1)), (4, (.slice pa4_0 (List.length weights_4) pc4_0)), (5, (bp b1)), (7, (bp b7)), (8, (bp b13)), (11, (bp b65)), (39, (.agg #[(.int .u64 g_0.1), (.int .u64 g_0.2)])), (41, (.slice a57 (List.length r52.2) c58))]) (by kernel_rfl) ?_
       refine gv_goal fun a hd hs hok => ?_
       obtain ⟨q1, q4, q5, q7, q8, q11, q39, q41, _⟩ := hok
       have hg101 := (grown_trans hg55 hg67)
       have hB102 := bg hB64 hg101 nb
       have hB103 := bg hB64 hg55 nb
       have hlo104 : w0.heap.size ≤ b65 := lob hbe69 hB103.size
       have hB105 := bg hB102 hg72 (rowlo hlo104)
       have hB106 := bg hB105 hg77 nb
       have ap107 : ¬ X60 b65 := fun hx => nl ((lowb hbe69) _ rfl) (hx62 _ hx)
       have hx108 := ltx hx62 hg67.size
       have hx109 := ltx hx108 hg72.size
       have hk110 := ((ho59.grown hg67 hx62 nb).grown hg72 hx108 (rowne ap107)).grown hg77 hx109 nb
       exact ⟨rfl, hd, hs, [(1, (.int .i64 bits_1)), (4, (.slice pa4_0 (List.length weights_4) pc4_0)), (5, (bp b1)), (7, (bp b7)), (8, (bp b13)), (11, (bp b65)), (39, (.agg #[(.int .u64 g_0.1), (.int .u64 g_0.2)])), (41, (.slice a57 (List.length r52.2) c58))], rfl, ⟨rfl, hB106, (Nat.le_refl _), hk87, hk91, hk93, hk110, hk98⟩, ⟨q1, q4, q5, q7, q8, q11, q39, q41, trivial⟩⟩
      ·rintro σ B360 w359 bf363 ⟨a179, c180, rfl, hB366, hz367, hk368, hk369, hk370, hk371, hk372, hk373, hlo374, hnb375, hap376, hap377, hap378, hap379, hap380, hap381, hap382, hap383, hap384⟩ hBl361 hC362 hb364 hne365
       obtain ⟨hBb385, hb386⟩ : B360 (bf363 0) ∧ Box w359 (bf363 0) 24 #[(.bool r174.1.1), (.slice a179 (List.length r174.1.2) c180)] := hb364 0 _ rfl
       have hlo387 := (hBl361 _ hBb385).1
       have ap388 : ¬ (· = b1) (bf363 0) := fun h => (fun k (h : (· = b1) k) (hb : B360 k) => nl (hBl361 k hb).1 (hM78 k h)) _ h hBb385
       have ap389 : ¬ (· = b7) (bf363 0) := fun h => (fun k (h : (· = b7) k) (hb : B360 k) => nl (hBl361 k hb).1 (hM88 k h)) _ h hBb385
       have ap390 : ¬ (· = b13) (bf363 0) := fun h => (fun k (h : (· = b13) k) (hb : B360 k) => nl (hBl361 k hb).1 (hM92 k h)) _ h hBb385
       have ap391 : ¬ X60 (bf363 0) := fun h => (fun k (h : X60 k) (hb : B360 k) => nl (hBl361 k hb).1 (hM94 k h)) _ h hBb385
       have ap392 : ¬ (· = b65) (bf363 0) := fun h => (fun k (h : (· = b65) k) (hb : B360 k) => nl (hBl361 k hb).1 (hM97 k h)) _ h hBb385
       have ap393 : ¬ (fun k => blk a179 = some k) (bf363 0) := fun h => hnb375 _ h hBb385
       have ap394 : ∀ g, blk a179 = some g → ¬ (· = (bf363 0)) g := fun g e h => by have h : g = (bf363 0) := h; exact hnb375 g e (h ▸ hBb385)
       obtain ⟨hBb395, hb396⟩ : B360 (bf363 1) ∧ Box w359 (bf363 1) 27 #[(.int .u64 r174.2.1.1), (.int .u64 r174.2.1.2)] := hb364 1 _ rfl
       have hlo397 := (hBl361 _ hBb395).1
       have ap398 : (bf363 0) ≠ (bf363 1) := hne365 0 1 (by decide) (by decide) (by decide)
       have ap399 : ¬ (· = b1) (bf363 1) := fun h => (fun k (h : (· = b1) k) (hb : B360 k) => nl (hBl361 k hb).1 (hM78 k h)) _ h hBb395
       have ap400 : ¬ (· = b7) (bf363 1) := fun h => (fun k (h : (· = b7) k) (hb : B360 k) => nl (hBl361 k hb).1 (hM88 k h)) _ h hBb395
       have ap401 : ¬ (· = b13) (bf363 1) := fun h => (fun k (h : (· = b13) k) (hb : B360 k) => nl (hBl361 k hb).1 (hM92 k h)) _ h hBb395
       have ap402 : ¬ X60 (bf363 1) := fun h => (fun k (h : X60 k) (hb : B360 k) => nl (hBl361 k hb).1 (hM94 k h)) _ h hBb395
       have ap403 : ¬ (· = b65) (bf363 1) := fun h => (fun k (h : (· = b65) k) (hb : B360 k) => nl (hBl361 k hb).1 (hM97 k h)) _ h hBb395
       have ap404 : ¬ (fun k => blk a179 = some k) (bf363 1) := fun h => hnb375 _ h hBb395
       have ap405 : ∀ g, blk a179 = some g → ¬ (· = (bf363 1)) g := fun g e h => by have h : g = (bf363 1) := h; exact hnb375 g e (h ▸ hBb395)
       obtain ⟨hBb406, hb407⟩ : B360 (bf363 2) ∧ Box w359 (bf363 2) 29 #[(.int .i64 r174.2.2.1), (.int .i64 r174.2.2.2)] := hb364 2 _ rfl
       have hlo408 := (hBl361 _ hBb406).1
       have ap409 : (bf363 0) ≠ (bf363 2) := hne365 0 2 (by decide) (by decide) (by decide)
       have ap410 : (bf363 1) ≠ (bf363 2) := hne365 1 2 (by decide) (by decide) (by decide)
       have ap411 : ¬ (· = b1) (bf363 2) := fun h => (fun k (h : (· = b1) k) (hb : B360 k) => nl (hBl361 k hb).1 (hM78 k h)) _ h hBb406
       have ap412 : ¬ (· = b7) (bf363 2) := fun h => (fun k (h : (· = b7) k) (hb : B360 k) => nl (hBl361 k hb).1 (hM88 k h)) _ h hBb406
       have ap413 : ¬ (· = b13) (bf363 2) := fun h => (fun k (h : (· = b13) k) (hb : B360 k) => nl (hBl361 k hb).1 (hM92 k h)) _ h hBb406
       have ap414 : ¬ X60 (bf363 2) := fun h => (fun k (h : X60 k) (hb : B360 k) => nl (hBl361 k hb).1 (hM94 k h)) _ h hBb406
       have ap415 : ¬ (· = b65) (bf363 2) := fun h => (fun k (h : (· = b65) k) (hb : B360 k) => nl (hBl361 k hb).1 (hM97 k h)) _ h hBb406
       have ap416 : ¬ (fun k => blk a179 = some k) (bf363 2) := fun h => hnb375 _ h hBb406
       have ap417 : ∀ g, blk a179 = some g → ¬ (· = (bf363 2)) g := fun g e h => by have h : g = (bf363 2) := h; exact hnb375 g e (h ▸ hBb406)
       have hg419 := (grown_trans hg55 hg67)
       have hB420 := bg hB64 hg419 nb
       have hB421 := bg hB64 hg55 nb
       have hlo422 : w0.heap.size ≤ b65 := lob hbe69 hB421.size
       have hB423 := bg hB420 hg72 (rowlo hlo422)
       have hB424 := bg hB423 hg77 nb
       have hz418 := hB424.size
       refine gv_seq <| gv_region <| gv_loadBox (t := 27) (b := b1) (t' := 27) (fr := (0, 0)) #[(.int .u64 g_0.1), (.int .u64 g_0.2)] [] (fun e => by cases e) rfl rfl rfl (by kernel_rfl) (by kernel_rfl) (by kernel_rfl) (by kernel_rfl) (inw0 hk368) rfl ?_
       refine gv_pureN 4 [50, 51, 52, 53] [(53, (.int .u64 (IntKind.u64.wrap ((IntKind.i64.wrap (((IntKind.i64.wrap (bits_1 + 31))).tdiv 32))))))] (by kernel_rfl) ?_
       refine bindE h1 ?_; clear h1; intro r425 hr426 h1
       refine gv_call0 (by kernel_rfl) rfl (by kernel_rfl) enters10 (random_Skip_ok fuel (g_0.1, g_0.2) (IntKind.u64.wrap ((IntKind.i64.wrap (((IntKind.i64.wrap (bits_1 + 31))).tdiv 32)))) w359  r425 hr426) ?_
       rintro v429 w427 ⟨hg428, rfl⟩
       refine gv_pureN 3 [48, 55, 56] [(55, (.agg #[(.int .u64 r425.1.1), (.int .u64 r425.1.2)])), (56, (.agg #[(.int .i64 r425.2.1), (.int .i64 r425.2.2)]))] (by kernel_rfl) ?_
       refine gv_new0 (fun b => .pointer (some ⟨b, 0, none⟩)) #[(.int .u64 0), (.int .u64 0)] 27 (by kernel_rfl) (by kernel_rfl) ?_
       intro b430 w431 hg432 hb433 hbe434 hz435
       have hz436 := (nt (nt (nt (nt hz75 hg77.size) hz367) hg428.size) hg432.size)
       clear hz435 hr426 hz418 hB423 hB421 hB420 hg419 hb364 hC362 hg89 hk84 hg83 hg79 hz75 hb73 hB64 hg55 hb4
       refine gv_new0 (fun b => .pointer (some ⟨b, 0, none⟩)) #[(.int .i64 0), (.int .i64 0)] 29 (by kernel_rfl) (by kernel_rfl) ?_
       intro b437 w438 hg439 hb440 hbe441 hz442
       have hk447 := hb433.grown hg439 nb
       refine gv_store0 27 0 (.agg #[(.int .u64 r425.1.1), (.int .u64 r425.1.2)]) #[(.int .u64 r425.1.1), (.int .u64 r425.1.2)] hk447 (by kernel_rfl) (by kernel_rfl) (by kernel_rfl) ?_
       intro w443 hg444 hb445 hz446
       refine gv_sub [4, 5, 7, 8, 11, 12, 13, 14, 15, 16, 56] (σ' := [(4, (.slice pa4_0 (List.length weights_4) pc4_0)), (5, (bp b1)), (7, (bp b7)), (8, (bp b13)), (11, (bp b65)), (12, (bp (bf363 0))), (13, (bp (bf363 1))), (14, (bp (bf363 2))), (15, (bp b430)), (16, (bp b437)), (56, (.agg #[(.int .i64 r425.2.1), (.int .i64 r425.2.2)]))]) (by kernel_rfl) ?_
       have lt452 := ltl ((ltb hb433) _ rfl) ((lowb hbe441) _ rfl)
       have hk453 := hb440.grown hg444 (rowne (Nat.ne_of_lt lt452))
       refine gv_store0 29 0 (.agg #[(.int .i64 r425.2.1), (.int .i64 r425.2.2)]) #[(.int .i64 r425.2.1), (.int .i64 r425.2.2)] hk453 (by kernel_rfl) (by kernel_rfl) (by kernel_rfl) ?_
       intro w448 hg449 hb450 hz451
       refine gv_nil <| gv_seq <| bindE h1 ?_; clear h1; intro j454 h2 h1
       refine gv_cut_code (J := fun a w455 => Below w0.heap.size w0 w455 ∧ w448.heap.size ≤ w455.heap.size ∧ Box w455 b1 27 #[(.int .u64 g_0.1), (.int .u64 g_0.2)] ∧ Box w455 b7 24 #[(.bool low_2.1), (.slice pa2_0 (List.length low_2.2) pc2_0)] ∧ Box w455 b13 24 #[(.bool high_3.1), (.slice pa3_0 (List.length high_3.2) pc3_0)] ∧ a.defers = [] ∧ a.tmps.size = 158 ∧ Ok [(4, (.slice pa4_0 (List.length weights_4) pc4_0)), (5, (bp b1)), (7, (bp b7)), (8, (bp b13)), (85, (.bool j454))] a.tmps) ?_ ?_
       ·skip
        refine gv_drawA (by kernel_rfl) ?_
        intro w456 hg457
        refine gv_pre [0] (bA 29 [0]) 28 (by kernel_rfl) (by kernel_rfl) ?_
        refine gv_pureN 1 [57] [(57, (bp (bf363 2)))] (by kernel_rfl) ?_
        refine gv_nil <| gv_goA ?_
        refine gv_stage (Cls w456 []) [0, 1] [(1, some true)] (bA 29 [0, 1]) 27 (by kernel_rfl) (by kernel_rfl) (Cls.refl _ _) ?_
        have hC458 := Cls.refl w456 []
        have hg459 := (grown_trans (grown_trans hg428 hg432) hg439)
        have hk460 := hb407.grown hg428 nb
        have lt461 := ltl ((ltb hk460) _ rfl) ((lowb hbe434) _ rfl)
        have lt462 := ltt lt461 lt452
        have hk463 := (((hb407.grown hg459 nb).grown hg444 (rowne (ng lt461))).grown hg449 (rowne (ng lt462))).grown hg457 nb
        refine gv_load (t := 3) (A := ⟨(bf363 2), 0, none⟩) (.int .i64 r174.2.2.1) [] (fun e => by cases e) rfl rfl rfl (by kernel_rfl) (by kernel_rfl) (by kernel_rfl) (inw1 fun w' hC' => ((hC'.box hk463 nm_nil).cell 0 rfl)) rfl ?_
        refine gv_nil <| gv_goA ?_
        refine gv_pre [2, 3, 4] (bA 29 [0, 1, 2, 3, 4]) 24 (by kernel_rfl) (by kernel_rfl) ?_
        refine gv_pureN 2 [59, 60] [(60, (.bool (r174.2.2.1 != 0)))] (by kernel_rfl) ?_
        refine gv_split (s := 60) (g := (r174.2.2.1 != 0)) (by kernel_rfl) (fun hc464 => ?_) (fun hc464 => ?_)
        ·skip
         replace h2 := ite_t hc464 h2
         refine gv_pureN 1 [61] [(61, undef)] (by kernel_rfl) ?_
         refine gv_nil <| gv_goA ?_
         refine gv_stage (Cls w456 []) [0, 1, 2, 3, 4, 5] [(5, some true)] (bA 29 [0, 1, 2, 3, 4, 5]) 23 (by kernel_rfl) (by kernel_rfl) (Cls.refl _ _) ?_
         have hC465 := Cls.refl w456 []
         refine gv_pureN 1 [62] [(62, undef)] (by kernel_rfl) ?_
         refine gv_nil <| gv_goA ?_
         refine gv_pre [6, 7, 8] (bA 29 [0, 1, 2, 3, 4, 5, 6, 7, 8]) 20 (by kernel_rfl) (by kernel_rfl) ?_
         refine gv_pureN 3 [63, 64, 65] [(65, (.bool true))] (by kernel_rfl) ?_
         refine gv_nil <| gv_goA ?_
         refine gv_stage (Cls w456 []) [0, 1, 2, 3, 4, 5, 6, 7, 8, 9, 10] [(9, some true), (10, some true)] (bA 29 [0, 1, 2, 3, 4, 5, 6, 7, 8, 9, 10]) 18 (by kernel_rfl) (by kernel_rfl) (Cls.refl _ _) ?_
         have hC466 := Cls.refl w456 []
         refine gv_pureN 2 [66, 67] [(66, undef), (67, undef)] (by kernel_rfl) ?_
         refine gv_nil <| gv_goA ?_
         refine gv_pre [11, 12, 13] (bA 29 [0, 1, 2, 3, 4, 5, 6, 7, 8, 9, 10, 11, 12, 13]) 15 (by kernel_rfl) (by kernel_rfl) ?_
         refine gv_pureN 3 [68, 69, 70] [(70, (.bool true))] (by kernel_rfl) ?_
         refine gv_nil <| gv_goA ?_
         refine gv_stage (Cls w456 []) [0, 1, 2, 3, 4, 5, 6, 7, 8, 9, 10, 11, 12, 13, 14] [(14, some true)] (bA 29 [0, 1, 2, 3, 4, 5, 6, 7, 8, 9, 10, 11, 12, 13, 14]) 14 (by kernel_rfl) (by kernel_rfl) (Cls.refl _ _) ?_
         have hC467 := Cls.refl w456 []
         refine gv_pureN 1 [71] [(71, undef)] (by kernel_rfl) ?_
         refine gv_nil <| gv_goA ?_
         refine gv_stage (fun _ => True) [0, 1, 2, 3, 4, 5, 6, 7, 8, 9, 10, 11, 12, 13, 14, 15] [(15, some false)] (bA 29 [0, 1, 2, 3, 4, 5, 6, 7, 8, 9, 10, 11, 12, 13, 14, 15]) 13 (by kernel_rfl) (by kernel_rfl) trivial ?_
         refine gv_pureNC trivial 1 [72] [(72, undef)] (by kernel_rfl) ?_
         refine gv_nil <| gv_goA ?_
         refine gv_pre [16, 17, 18, 19] (bA 29 [0, 1, 2, 3, 4, 5, 6, 7, 8, 9, 10, 11, 12, 13, 14, 15, 16, 17, 18, 19]) 9 (by kernel_rfl) (by kernel_rfl) ?_
         refine gv_pureN 4 [73, 74, 75, 76] [(75, (.bool true)), (76, undef)] (by kernel_rfl) ?_
         refine gv_nil <| gv_goA ?_
         refine gv_stage (Cls w456 []) [0, 1, 2, 3, 4, 5, 6, 7, 8, 9, 10, 11, 12, 13, 14, 15, 16, 17, 18, 19, 20] [(20, some true)] (bA 29 [0, 1, 2, 3, 4, 5, 6, 7, 8, 9, 10, 11, 12, 13, 14, 15, 16, 17, 18, 19, 20]) 8 (by kernel_rfl) (by kernel_rfl) (Cls.refl _ _) ?_
         have hC468 := Cls.refl w456 []
         refine gv_pureN 1 [77] [(77, undef)] (by kernel_rfl) ?_
         refine gv_nil <| gv_goA ?_
         refine gv_pre [21, 22] (bA 29 [0, 1, 2, 3, 4, 5, 6, 7, 8, 9, 10, 11, 12, 13, 14, 15, 16, 17, 18, 19, 20, 21, 22]) 6 (by kernel_rfl) (by kernel_rfl) ?_
         refine gv_pureN 2 [78, 79] [(79, (.bool true))] (by kernel_rfl) ?_
         refine gv_sub [4, 5, 7, 8, 11, 12, 79] (σ' := [(4, (.slice pa4_0 (List.length weights_4) pc4_0)), (5, (bp b1)), (7, (bp b7)), (8, (bp b13)), (11, (bp b65)), (12, (bp (bf363 0))), (79, (.bool true))]) (by kernel_rfl) ?_
         refine gv_nil <| gv_goA ?_
         refine gv_stage (Cls w456 []) [0, 1, 2, 3, 4, 5, 6, 7, 8, 9, 10, 11, 12, 13, 14, 15, 16, 17, 18, 19, 20, 21, 22, 23, 24, 25] [(23, some true), (25, some true), (24, some false)] (bA 29 [0, 1, 2, 3, 4, 5, 6, 7, 8, 9, 10, 11, 12, 13, 14, 15, 16, 17, 18, 19, 20, 21, 22, 23, 24, 25]) 3 (by kernel_rfl) (by kernel_rfl) (Cls.refl _ _) ?_
         have hC469 := Cls.refl w456 []
         refine gv_pureNC hC469 3 [80, 81, 82] [(81, undef), (82, undef)] (by kernel_rfl) ?_
         refine gv_nil <| gv_goA ?_
         refine gv_stage (fun _ => True) [0, 1, 2, 3, 4, 5, 6, 7, 8, 9, 10, 11, 12, 13, 14, 15, 16, 17, 18, 19, 20, 21, 22, 23, 24, 25, 26] [(26, some false)] (bA 29 [0, 1, 2, 3, 4, 5, 6, 7, 8, 9, 10, 11, 12, 13, 14, 15, 16, 17, 18, 19, 20, 21, 22, 23, 24, 25, 26]) 2 (by kernel_rfl) (by kernel_rfl) trivial ?_
         refine gv_pureNC trivial 1 [83] [(83, undef)] (by kernel_rfl) ?_
         refine gv_nil <| gv_goA ?_
         refine gv_pre [27, 28] (bA 29 [0, 1, 2, 3, 4, 5, 6, 7, 8, 9, 10, 11, 12, 13, 14, 15, 16, 17, 18, 19, 20, 21, 22, 23, 24, 25, 26, 27, 28]) 0 (by kernel_rfl) (by kernel_rfl) ?_
         refine gv_pureN 2 [84, 85] [(85, (.bool true))] (by kernel_rfl) ?_
         refine gv_nil <| gv_goA ?_
         refine gv_stageE (by kernel_rfl) ?_
         have e := sj h2; subst e
         refine gv_goal fun a hd hs hok => ?_
         have hB470 := bg hB366 hg459 nb
         have hB471 := bg hB366 hg428 nb
         have hlo472 : w0.heap.size ≤ b430 := lob hbe434 hB471.size
         have hB473 := bg hB470 hg444 (rowlo hlo472)
         have hB474 := bg hB471 hg432 nb
         have hlo475 : w0.heap.size ≤ b437 := lob hbe441 hB474.size
         have hB476 := bg hB473 hg449 (rowlo hlo475)
         have hB477 := bg hB476 hg457 nb
         have hz478 := hg457.size
         have hk479 := hk372.grown hg428 nb
         have lt480 := ltl ((ltb hk479) _ rfl) ((lowb hbe434) _ rfl)
         have lt481 := ltt lt86 lt480
         have lt482 := ltt lt481 lt452
         have hk483 := (((hk368.grown hg459 nb).grown hg444 (rowne (ng lt481))).grown hg449 (rowne (ng lt482))).grown hg457 nb
         have lt484 := ltt lt90 lt480
         have lt485 := ltt lt484 lt452
         have hk486 := (((hk369.grown hg459 nb).grown hg444 (rowne (ng lt484))).grown hg449 (rowne (ng lt485))).grown hg457 nb
         have lt487 := ltt lt85 lt480
         have lt488 := ltt lt487 lt452
         have hk489 := (((hk370.grown hg459 nb).grown hg444 (rowne (ng lt487))).grown hg449 (rowne (ng lt488))).grown hg457 nb
         exact ⟨hB477, hz478, hk483, hk486, hk489, hd, hs, ok_pick [4, 5, 7, 8, 85] hok (by kernel_rfl)⟩
        ·skip
         replace h2 := ite_f hc464 h2
         refine gv_pureN 1 [61] [(61, (bp b437))] (by kernel_rfl) ?_
         refine gv_nil <| gv_goA ?_
         refine gv_stage (Cls w456 []) [0, 1, 2, 3, 4, 5] [(5, some true)] (bA 29 [0, 1, 2, 3, 4, 5]) 23 (by kernel_rfl) (by kernel_rfl) (Cls.refl _ _) ?_
         have hC490 := Cls.refl w456 []
         have hk491 := hb450.grown hg457 nb
         refine gv_load (t := 3) (A := ⟨b437, 0, none⟩) (.int .i64 r425.2.1) [] (fun e => by cases e) rfl rfl rfl (by kernel_rfl) (by kernel_rfl) (by kernel_rfl) (inw1 fun w' hC' => ((hC'.box hk491 nm_nil).cell 0 rfl)) rfl ?_
         refine gv_nil <| gv_goA ?_
         refine gv_pre [6, 7, 8] (bA 29 [0, 1, 2, 3, 4, 5, 6, 7, 8]) 20 (by kernel_rfl) (by kernel_rfl) ?_
         refine gv_pureN 3 [63, 64, 65] [(65, (.bool (r425.2.1 != 0)))] (by kernel_rfl) ?_
         refine gv_nil <| gv_goA ?_
         refine gv_stage (Cls w456 []) [0, 1, 2, 3, 4, 5, 6, 7, 8, 9, 10] [(9, some true), (10, some true)] (bA 29 [0, 1, 2, 3, 4, 5, 6, 7, 8, 9, 10]) 18 (by kernel_rfl) (by kernel_rfl) (Cls.refl _ _) ?_
         have hC492 := Cls.refl w456 []
         refine gv_split (s := 65) (g := (r425.2.1 != 0)) (by kernel_rfl) (fun hc493 => ?_) (fun hc493 => ?_)
         ·skip
          replace h2 := ite_t hc493 h2
          refine gv_pureN 2 [66, 67] [(66, undef), (67, undef)] (by kernel_rfl) ?_
          refine gv_nil <| gv_goA ?_
          refine gv_pre [11, 12, 13] (bA 29 [0, 1, 2, 3, 4, 5, 6, 7, 8, 9, 10, 11, 12, 13]) 15 (by kernel_rfl) (by kernel_rfl) ?_
          refine gv_pureN 3 [68, 69, 70] [(70, (.bool true))] (by kernel_rfl) ?_
          refine gv_nil <| gv_goA ?_
          refine gv_stage (Cls w456 []) [0, 1, 2, 3, 4, 5, 6, 7, 8, 9, 10, 11, 12, 13, 14] [(14, some true)] (bA 29 [0, 1, 2, 3, 4, 5, 6, 7, 8, 9, 10, 11, 12, 13, 14]) 14 (by kernel_rfl) (by kernel_rfl) (Cls.refl _ _) ?_
          have hC494 := Cls.refl w456 []
          refine gv_pureN 1 [71] [(71, undef)] (by kernel_rfl) ?_
          refine gv_nil <| gv_goA ?_
          refine gv_stage (fun _ => True) [0, 1, 2, 3, 4, 5, 6, 7, 8, 9, 10, 11, 12, 13, 14, 15] [(15, some false)] (bA 29 [0, 1, 2, 3, 4, 5, 6, 7, 8, 9, 10, 11, 12, 13, 14, 15]) 13 (by kernel_rfl) (by kernel_rfl) trivial ?_
          refine gv_pureNC trivial 1 [72] [(72, undef)] (by kernel_rfl) ?_
          refine gv_nil <| gv_goA ?_
          refine gv_pre [16, 17, 18, 19] (bA 29 [0, 1, 2, 3, 4, 5, 6, 7, 8, 9, 10, 11, 12, 13, 14, 15, 16, 17, 18, 19]) 9 (by kernel_rfl) (by kernel_rfl) ?_
          refine gv_pureN 4 [73, 74, 75, 76] [(75, (.bool true)), (76, undef)] (by kernel_rfl) ?_
          refine gv_nil <| gv_goA ?_
          refine gv_stage (Cls w456 []) [0, 1, 2, 3, 4, 5, 6, 7, 8, 9, 10, 11, 12, 13, 14, 15, 16, 17, 18, 19, 20] [(20, some true)] (bA 29 [0, 1, 2, 3, 4, 5, 6, 7, 8, 9, 10, 11, 12, 13, 14, 15, 16, 17, 18, 19, 20]) 8 (by kernel_rfl) (by kernel_rfl) (Cls.refl _ _) ?_
          have hC495 := Cls.refl w456 []
          refine gv_pureN 1 [77] [(77, undef)] (by kernel_rfl) ?_
          refine gv_nil <| gv_goA ?_
          refine gv_pre [21, 22] (bA 29 [0, 1, 2, 3, 4, 5, 6, 7, 8, 9, 10, 11, 12, 13, 14, 15, 16, 17, 18, 19, 20, 21, 22]) 6 (by kernel_rfl) (by kernel_rfl) ?_
          refine gv_pureN 2 [78, 79] [(79, (.bool true))] (by kernel_rfl) ?_
          refine gv_sub [4, 5, 7, 8, 11, 12, 79] (σ' := [(4, (.slice pa4_0 (List.length weights_4) pc4_0)), (5, (bp b1)), (7, (bp b7)), (8, (bp b13)), (11, (bp b65)), (12, (bp (bf363 0))), (79, (.bool true))]) (by kernel_rfl) ?_
          refine gv_nil <| gv_goA ?_
          refine gv_stage (Cls w456 []) [0, 1, 2, 3, 4, 5, 6, 7, 8, 9, 10, 11, 12, 13, 14, 15, 16, 17, 18, 19, 20, 21, 22, 23, 24, 25] [(23, some true), (25, some true), (24, some false)] (bA 29 [0, 1, 2, 3, 4, 5, 6, 7, 8, 9, 10, 11, 12, 13, 14, 15, 16, 17, 18, 19, 20, 21, 22, 23, 24, 25]) 3 (by kernel_rfl) (by kernel_rfl) (Cls.refl _ _) ?_
          have hC496 := Cls.refl w456 []
          refine gv_pureNC hC496 3 [80, 81, 82] [(81, undef), (82, undef)] (by kernel_rfl) ?_
          refine gv_nil <| gv_goA ?_
          refine gv_stage (fun _ => True) [0, 1, 2, 3, 4, 5, 6, 7, 8, 9, 10, 11, 12, 13, 14, 15, 16, 17, 18, 19, 20, 21, 22, 23, 24, 25, 26] [(26, some false)] (bA 29 [0, 1, 2, 3, 4, 5, 6, 7, 8, 9, 10, 11, 12, 13, 14, 15, 16, 17, 18, 19, 20, 21, 22, 23, 24, 25, 26]) 2 (by kernel_rfl) (by kernel_rfl) trivial ?_
          refine gv_pureNC trivial 1 [83] [(83, undef)] (by kernel_rfl) ?_
          refine gv_nil <| gv_goA ?_
          refine gv_pre [27, 28] (bA 29 [0, 1, 2, 3, 4, 5, 6, 7, 8, 9, 10, 11, 12, 13, 14, 15, 16, 17, 18, 19, 20, 21, 22, 23, 24, 25, 26, 27, 28]) 0 (by kernel_rfl) (by kernel_rfl) ?_
          refine gv_pureN 2 [84, 85] [(85, (.bool true))] (by kernel_rfl) ?_
          refine gv_nil <| gv_goA ?_
          refine gv_stageE (by kernel_rfl) ?_
          have e := sj h2; subst e
          refine gv_goal fun a hd hs hok => ?_
          have hB497 := bg hB366 hg459 nb
          have hB498 := bg hB366 hg428 nb
          have hlo499 : w0.heap.size ≤ b430 := lob hbe434 hB498.size
          have hB500 := bg hB497 hg444 (rowlo hlo499)
          have hB501 := bg hB498 hg432 nb
          have hlo502 : w0.heap.size ≤ b437 := lob hbe441 hB501.size
          have hB503 := bg hB500 hg449 (rowlo hlo502)
          have hB504 := bg hB503 hg457 nb
          have hz505 := hg457.size
          have hk506 := hk372.grown hg428 nb
          have lt507 := ltl ((ltb hk506) _ rfl) ((lowb hbe434) _ rfl)
          have lt508 := ltt lt86 lt507
          have lt509 := ltt lt508 lt452
          have hk510 := (((hk368.grown hg459 nb).grown hg444 (rowne (ng lt508))).grown hg449 (rowne (ng lt509))).grown hg457 nb
          have lt511 := ltt lt90 lt507
          have lt512 := ltt lt511 lt452
          have hk513 := (((hk369.grown hg459 nb).grown hg444 (rowne (ng lt511))).grown hg449 (rowne (ng lt512))).grown hg457 nb
          have lt514 := ltt lt85 lt507
          have lt515 := ltt lt514 lt452
          have hk516 := (((hk370.grown hg459 nb).grown hg444 (rowne (ng lt514))).grown hg449 (rowne (ng lt515))).grown hg457 nb
          exact ⟨hB504, hz505, hk510, hk513, hk516, hd, hs, ok_pick [4, 5, 7, 8, 85] hok (by kernel_rfl)⟩
         ·skip
          replace h2 := ite_f hc493 h2
          have hk517 := hb396.grown hg428 nb
          have lt518 := ltl ((ltb hk517) _ rfl) ((lowb hbe434) _ rfl)
          have lt519 := ltt lt518 lt452
          have hk520 := (((hb396.grown hg459 nb).grown hg444 (rowne (ng lt518))).grown hg449 (rowne (ng lt519))).grown hg457 nb
          refine gv_loadBox (t := 27) (b := (bf363 1)) (t' := 27) (fr := (0, 0)) #[(.int .u64 r174.2.1.1), (.int .u64 r174.2.1.2)] [] (fun e => by cases e) rfl rfl rfl (by kernel_rfl) (by kernel_rfl) (by kernel_rfl) (by kernel_rfl) (inw1 fun w' hC' => (hC'.box hk520 nm_nil)) rfl ?_
          have hk521 := (hb445.grown hg449 (rowne (ng lt452))).grown hg457 nb
          refine gv_loadBox (t := 27) (b := b430) (t' := 27) (fr := (0, 0)) #[(.int .u64 r425.1.1), (.int .u64 r425.1.2)] [] (fun e => by cases e) rfl rfl rfl (by kernel_rfl) (by kernel_rfl) (by kernel_rfl) (by kernel_rfl) (inw1 fun w' hC' => (hC'.box hk521 nm_nil)) rfl ?_
          refine gv_nil <| gv_goA ?_
          refine gv_pre [11, 12, 13] (bA 29 [0, 1, 2, 3, 4, 5, 6, 7, 8, 9, 10, 11, 12, 13]) 15 (by kernel_rfl) (by kernel_rfl) ?_
          refine gv_eqs (t := 27) (op := .neq) (x := (.tmp 66)) (y := (.tmp 67)) (xs := #[(.int .u64 r174.2.1.1), (.int .u64 r174.2.1.2)]) (ys := #[(.int .u64 r425.1.1), (.int .u64 r425.1.2)]) (!((r174.2.1.1 == r425.1.1) && (r174.2.1.2 == r425.1.2))) [] (fun e => by cases e) rfl rfl rfl (by kernel_rfl) (by kernel_rfl) (fun w' => eqs27neq r174.2.1.1 r174.2.1.2 r425.1.1 r425.1.2 _ _ w') rfl ?_
          refine gv_pureN 2 [69, 70] [(70, (.bool (!((r174.2.1.1 == r425.1.1) && (r174.2.1.2 == r425.1.2)))))] (by kernel_rfl) ?_
          refine gv_nil <| gv_goA ?_
          refine gv_stage (Cls w456 []) [0, 1, 2, 3, 4, 5, 6, 7, 8, 9, 10, 11, 12, 13, 14] [(14, some true)] (bA 29 [0, 1, 2, 3, 4, 5, 6, 7, 8, 9, 10, 11, 12, 13, 14]) 14 (by kernel_rfl) (by kernel_rfl) (Cls.refl _ _) ?_
          have hC522 := Cls.refl w456 []
          refine gv_split (s := 70) (g := (!((r174.2.1.1 == r425.1.1) && (r174.2.1.2 == r425.1.2)))) (by kernel_rfl) (fun hc523 => ?_) (fun hc523 => ?_)
          ·skip
           replace h2 := ite_t hc523 h2
           refine gv_pureN 1 [71] [(71, undef)] (by kernel_rfl) ?_
           refine gv_nil <| gv_goA ?_
           refine gv_stage (fun _ => True) [0, 1, 2, 3, 4, 5, 6, 7, 8, 9, 10, 11, 12, 13, 14, 15] [(15, some false)] (bA 29 [0, 1, 2, 3, 4, 5, 6, 7, 8, 9, 10, 11, 12, 13, 14, 15]) 13 (by kernel_rfl) (by kernel_rfl) trivial ?_
           refine gv_pureNC trivial 1 [72] [(72, undef)] (by kernel_rfl) ?_
           refine gv_nil <| gv_goA ?_
           refine gv_pre [16, 17, 18, 19] (bA 29 [0, 1, 2, 3, 4, 5, 6, 7, 8, 9, 10, 11, 12, 13, 14, 15, 16, 17, 18, 19]) 9 (by kernel_rfl) (by kernel_rfl) ?_
           refine gv_pureN 4 [73, 74, 75, 76] [(75, (.bool true)), (76, undef)] (by kernel_rfl) ?_
           refine gv_sub [4, 5, 7, 8, 11, 12, 75, 76] (σ' := [(4, (.slice pa4_0 (List.length weights_4) pc4_0)), (5, (bp b1)), (7, (bp b7)), (8, (bp b13)), (11, (bp b65)), (12, (bp (bf363 0))), (75, (.bool true)), (76, undef)]) (by kernel_rfl) ?_
           refine gv_nil <| gv_goA ?_
           refine gv_stage (Cls w456 []) [0, 1, 2, 3, 4, 5, 6, 7, 8, 9, 10, 11, 12, 13, 14, 15, 16, 17, 18, 19, 20] [(20, some true)] (bA 29 [0, 1, 2, 3, 4, 5, 6, 7, 8, 9, 10, 11, 12, 13, 14, 15, 16, 17, 18, 19, 20]) 8 (by kernel_rfl) (by kernel_rfl) (Cls.refl _ _) ?_
           have hC524 := Cls.refl w456 []
           refine gv_pureN 1 [77] [(77, undef)] (by kernel_rfl) ?_
           refine gv_nil <| gv_goA ?_
           refine gv_pre [21, 22] (bA 29 [0, 1, 2, 3, 4, 5, 6, 7, 8, 9, 10, 11, 12, 13, 14, 15, 16, 17, 18, 19, 20, 21, 22]) 6 (by kernel_rfl) (by kernel_rfl) ?_
           refine gv_pureN 2 [78, 79] [(79, (.bool true))] (by kernel_rfl) ?_
           refine gv_nil <| gv_goA ?_
           refine gv_stage (Cls w456 []) [0, 1, 2, 3, 4, 5, 6, 7, 8, 9, 10, 11, 12, 13, 14, 15, 16, 17, 18, 19, 20, 21, 22, 23, 24, 25] [(23, some true), (25, some true), (24, some false)] (bA 29 [0, 1, 2, 3, 4, 5, 6, 7, 8, 9, 10, 11, 12, 13, 14, 15, 16, 17, 18, 19, 20, 21, 22, 23, 24, 25]) 3 (by kernel_rfl) (by kernel_rfl) (Cls.refl _ _) ?_
           have hC525 := Cls.refl w456 []
           refine gv_pureNC hC525 3 [80, 81, 82] [(81, undef), (82, undef)] (by kernel_rfl) ?_
           refine gv_nil <| gv_goA ?_
           refine gv_stage (fun _ => True) [0, 1, 2, 3, 4, 5, 6, 7, 8, 9, 10, 11, 12, 13, 14, 15, 16, 17, 18, 19, 20, 21, 22, 23, 24, 25, 26] [(26, some false)] (bA 29 [0, 1, 2, 3, 4, 5, 6, 7, 8, 9, 10, 11, 12, 13, 14, 15, 16, 17, 18, 19, 20, 21, 22, 23, 24, 25, 26]) 2 (by kernel_rfl) (by kernel_rfl) trivial ?_
           refine gv_pureNC trivial 1 [83] [(83, undef)] (by kernel_rfl) ?_
           refine gv_nil <| gv_goA ?_
           refine gv_pre [27, 28] (bA 29 [0, 1, 2, 3, 4, 5, 6, 7, 8, 9, 10, 11, 12, 13, 14, 15, 16, 17, 18, 19, 20, 21, 22, 23, 24, 25, 26, 27, 28]) 0 (by kernel_rfl) (by kernel_rfl) ?_
           refine gv_pureN 2 [84, 85] [(85, (.bool true))] (by kernel_rfl) ?_
           refine gv_nil <| gv_goA ?_
           refine gv_stageE (by kernel_rfl) ?_
           have e := sj h2; subst e
           refine gv_goal fun a hd hs hok => ?_
           have hB526 := bg hB366 hg459 nb
           have hB527 := bg hB366 hg428 nb
           have hlo528 : w0.heap.size ≤ b430 := lob hbe434 hB527.size
           have hB529 := bg hB526 hg444 (rowlo hlo528)
           have hB530 := bg hB527 hg432 nb
           have hlo531 : w0.heap.size ≤ b437 := lob hbe441 hB530.size
           have hB532 := bg hB529 hg449 (rowlo hlo531)
           have hB533 := bg hB532 hg457 nb
           have hz534 := hg457.size
           have hk535 := hk372.grown hg428 nb
           have lt536 := ltl ((ltb hk535) _ rfl) ((lowb hbe434) _ rfl)
           have lt537 := ltt lt86 lt536
           have lt538 := ltt lt537 lt452
           have hk539 := (((hk368.grown hg459 nb).grown hg444 (rowne (ng lt537))).grown hg449 (rowne (ng lt538))).grown hg457 nb
           have lt540 := ltt lt90 lt536
           have lt541 := ltt lt540 lt452
           have hk542 := (((hk369.grown hg459 nb).grown hg444 (rowne (ng lt540))).grown hg449 (rowne (ng lt541))).grown hg457 nb
           have lt543 := ltt lt85 lt536
           have lt544 := ltt lt543 lt452
           have hk545 := (((hk370.grown hg459 nb).grown hg444 (rowne (ng lt543))).grown hg449 (rowne (ng lt544))).grown hg457 nb
           exact ⟨hB533, hz534, hk539, hk542, hk545, hd, hs, ok_pick [4, 5, 7, 8, 85] hok (by kernel_rfl)⟩
          ·skip
           replace h2 := ite_f hc523 h2
           have hk546 := hb386.grown hg428 nb
           have lt547 := ltl ((ltb hk546) _ rfl) ((lowb hbe434) _ rfl)
           have lt548 := ltt lt547 lt452
           have hk549 := (((hb386.grown hg459 nb).grown hg444 (rowne (ng lt547))).grown hg449 (rowne (ng lt548))).grown hg457 nb
           refine gv_loadBox (t := 24) (b := (bf363 0)) (t' := 24) (fr := (0, 0)) #[(.bool r174.1.1), (.slice a179 (List.length r174.1.2) c180)] [] (fun e => by cases e) rfl rfl rfl (by kernel_rfl) (by kernel_rfl) (by kernel_rfl) (by kernel_rfl) (inw1 fun w' hC' => (hC'.box hk549 nm_nil)) rfl ?_
           refine gv_nil <| gv_goA ?_
           refine gv_stage (fun _ => True) [0, 1, 2, 3, 4, 5, 6, 7, 8, 9, 10, 11, 12, 13, 14, 15] [(15, some false)] (bA 29 [0, 1, 2, 3, 4, 5, 6, 7, 8, 9, 10, 11, 12, 13, 14, 15]) 13 (by kernel_rfl) (by kernel_rfl) trivial ?_
           refine bindE h2 ?_; clear h2; intro r550 hr551 h2
           have hk552 := hk373.grown hg428 (fun _ h => h.elim) nb
           have ap553 : ¬ (fun k => blk a179 = some k) b430 := fun hx => nl ((lowb hbe434) _ rfl) ((fun k (hk : blk a179 = some k) => hk552.lt k hk) _ hx)
           have hk554 := hk552.grown hg432 (fun _ h => h.elim) nb
           have ap555 : ¬ (fun k => blk a179 = some k) b437 := fun hx => nl ((lowb hbe441) _ rfl) ((fun k (hk : blk a179 = some k) => hk554.lt k hk) _ hx)
           have hk556 := (((hk373.grown hg459 (fun _ h => h.elim) nb).grown hg444 (fun _ h => h.elim) (rdnn (rowne ap553))).grown hg449 (fun _ h => h.elim) (rdnn (rowne ap555))).grown hg457 (fun _ h => h.elim) nb
           refine gv_call (f := 12) (vs := [(.agg #[(.bool r174.1.1), (.slice a179 (List.length r174.1.2) c180)])]) (cap := []) _ (by decide) rfl rfl rfl (by kernel_rfl) (by kernel_rfl) enters12 (ref3_IntOk_ok fuel a179 c180 (r174.1.1, r174.1.2) w456 (fun k => (fun k => blk a179 = some k) k) (fun k hk => (fun k (hk : blk a179 = some k) => hk556.lt k hk) k hk) ((hk556.rd (Y := fun k => blk a179 = some k) (fun _ h => h.elim) (fun g e => e)).wide (fun k hk => hk)) r550 hr551) ?_
           rintro v559 w557 ⟨hg558, rfl⟩
           refine ⟨(fun _ => trivial), ?_⟩
           refine gv_nil <| gv_goA ?_
           refine gv_pre [16, 17, 18, 19] (bA 29 [0, 1, 2, 3, 4, 5, 6, 7, 8, 9, 10, 11, 12, 13, 14, 15, 16, 17, 18, 19]) 9 (by kernel_rfl) (by kernel_rfl) ?_
           refine gv_pureN 3 [73, 74, 75] [(75, (.bool (!r550)))] (by kernel_rfl) ?_
           refine gv_sub [4, 5, 7, 8, 11, 12, 75] (σ' := [(4, (.slice pa4_0 (List.length weights_4) pc4_0)), (5, (bp b1)), (7, (bp b7)), (8, (bp b13)), (11, (bp b65)), (12, (bp (bf363 0))), (75, (.bool (!r550)))]) (by kernel_rfl) ?_
           refine gv_split (s := 75) (g := (!r550)) (by kernel_rfl) (fun hc560 => ?_) (fun hc560 => ?_)
           ·skip
            replace h2 := ite_t hc560 h2
            refine gv_pureN 1 [76] [(76, undef)] (by kernel_rfl) ?_
            refine gv_nil <| gv_goA ?_
            refine gv_stage (Cls w557 []) [0, 1, 2, 3, 4, 5, 6, 7, 8, 9, 10, 11, 12, 13, 14, 15, 16, 17, 18, 19, 20] [(20, some true)] (bA 29 [0, 1, 2, 3, 4, 5, 6, 7, 8, 9, 10, 11, 12, 13, 14, 15, 16, 17, 18, 19, 20]) 8 (by kernel_rfl) (by kernel_rfl) (Cls.refl _ _) ?_
            have hC561 := Cls.refl w557 []
            refine gv_pureN 1 [77] [(77, undef)] (by kernel_rfl) ?_
            refine gv_nil <| gv_goA ?_
            refine gv_pre [21, 22] (bA 29 [0, 1, 2, 3, 4, 5, 6, 7, 8, 9, 10, 11, 12, 13, 14, 15, 16, 17, 18, 19, 20, 21, 22]) 6 (by kernel_rfl) (by kernel_rfl) ?_
            refine gv_pureN 2 [78, 79] [(79, (.bool true))] (by kernel_rfl) ?_
            refine gv_nil <| gv_goA ?_
            refine gv_stage (Cls w557 []) [0, 1, 2, 3, 4, 5, 6, 7, 8, 9, 10, 11, 12, 13, 14, 15, 16, 17, 18, 19, 20, 21, 22, 23, 24, 25] [(23, some true), (25, some true), (24, some false)] (bA 29 [0, 1, 2, 3, 4, 5, 6, 7, 8, 9, 10, 11, 12, 13, 14, 15, 16, 17, 18, 19, 20, 21, 22, 23, 24, 25]) 3 (by kernel_rfl) (by kernel_rfl) (Cls.refl _ _) ?_
            have hC562 := Cls.refl w557 []
            refine gv_pureNC hC562 3 [80, 81, 82] [(81, undef), (82, undef)] (by kernel_rfl) ?_
            refine gv_nil <| gv_goA ?_
            refine gv_stage (fun _ => True) [0, 1, 2, 3, 4, 5, 6, 7, 8, 9, 10, 11, 12, 13, 14, 15, 16, 17, 18, 19, 20, 21, 22, 23, 24, 25, 26] [(26, some false)] (bA 29 [0, 1, 2, 3, 4, 5, 6, 7, 8, 9, 10, 11, 12, 13, 14, 15, 16, 17, 18, 19, 20, 21, 22, 23, 24, 25, 26]) 2 (by kernel_rfl) (by kernel_rfl) trivial ?_
            refine gv_pureNC trivial 1 [83] [(83, undef)] (by kernel_rfl) ?_
            refine gv_nil <| gv_goA ?_
            refine gv_pre [27, 28] (bA 29 [0, 1, 2, 3, 4, 5, 6, 7, 8, 9, 10, 11, 12, 13, 14, 15, 16, 17, 18, 19, 20, 21, 22, 23, 24, 25, 26, 27, 28]) 0 (by kernel_rfl) (by kernel_rfl) ?_
            refine gv_pureN 2 [84, 85] [(85, (.bool true))] (by kernel_rfl) ?_
            refine gv_nil <| gv_goA ?_
            refine gv_stageE (by kernel_rfl) ?_
            have e := sj h2; subst e
            refine gv_goal fun a hd hs hok => ?_
            have hB563 := bg hB366 hg459 nb
            have hB564 := bg hB366 hg428 nb
            have hlo565 : w0.heap.size ≤ b430 := lob hbe434 hB564.size
            have hB566 := bg hB563 hg444 (rowlo hlo565)
            have hB567 := bg hB564 hg432 nb
            have hlo568 : w0.heap.size ≤ b437 := lob hbe441 hB567.size
            have hB569 := bg hB566 hg449 (rowlo hlo568)
            have hg570 := (grown_trans hg457 hg558)
            have hB571 := bg hB569 hg570 nb
            have hz572 := (nt hg457.size hg558.size)
            have hk573 := hk372.grown hg428 nb
            have lt574 := ltl ((ltb hk573) _ rfl) ((lowb hbe434) _ rfl)
            have lt575 := ltt lt86 lt574
            have lt576 := ltt lt575 lt452
            have hk577 := (((hk368.grown hg459 nb).grown hg444 (rowne (ng lt575))).grown hg449 (rowne (ng lt576))).grown hg570 nb
            have lt578 := ltt lt90 lt574
            have lt579 := ltt lt578 lt452
            have hk580 := (((hk369.grown hg459 nb).grown hg444 (rowne (ng lt578))).grown hg449 (rowne (ng lt579))).grown hg570 nb
            have lt581 := ltt lt85 lt574
            have lt582 := ltt lt581 lt452
            have hk583 := (((hk370.grown hg459 nb).grown hg444 (rowne (ng lt581))).grown hg449 (rowne (ng lt582))).grown hg570 nb
            exact ⟨hB571, hz572, hk577, hk580, hk583, hd, hs, ok_pick [4, 5, 7, 8, 85] hok (by kernel_rfl)⟩
           ·skip
            replace h2 := ite_f hc560 h2
            refine gv_pureN 1 [76] [(76, (bp (bf363 0)))] (by kernel_rfl) ?_
            refine gv_nil <| gv_goA ?_
            refine gv_stage (Cls w557 []) [0, 1, 2, 3, 4, 5, 6, 7, 8, 9, 10, 11, 12, 13, 14, 15, 16, 17, 18, 19, 20] [(20, some true)] (bA 29 [0, 1, 2, 3, 4, 5, 6, 7, 8, 9, 10, 11, 12, 13, 14, 15, 16, 17, 18, 19, 20]) 8 (by kernel_rfl) (by kernel_rfl) (Cls.refl _ _) ?_
            have hC584 := Cls.refl w557 []
            have hk585 := hk549.grown hg558 nb
            refine gv_load (t := 4) (A := ⟨(bf363 0), 0, none⟩) (.bool r174.1.1) [] (fun e => by cases e) rfl rfl rfl (by kernel_rfl) (by kernel_rfl) (by kernel_rfl) (inw1 fun w' hC' => ((hC'.box hk585 nm_nil).cell 0 rfl)) rfl ?_
            refine gv_nil <| gv_goA ?_
            refine gv_pre [21, 22] (bA 29 [0, 1, 2, 3, 4, 5, 6, 7, 8, 9, 10, 11, 12, 13, 14, 15, 16, 17, 18, 19, 20, 21, 22]) 6 (by kernel_rfl) (by kernel_rfl) ?_
            refine gv_pureN 2 [78, 79] [(79, (.bool r174.1.1))] (by kernel_rfl) ?_
            refine gv_nil <| gv_goA ?_
            refine gv_stage (Cls w557 []) [0, 1, 2, 3, 4, 5, 6, 7, 8, 9, 10, 11, 12, 13, 14, 15, 16, 17, 18, 19, 20, 21, 22, 23, 24, 25] [(23, some true), (25, some true), (24, some false)] (bA 29 [0, 1, 2, 3, 4, 5, 6, 7, 8, 9, 10, 11, 12, 13, 14, 15, 16, 17, 18, 19, 20, 21, 22, 23, 24, 25]) 3 (by kernel_rfl) (by kernel_rfl) (Cls.refl _ _) ?_
            have hC586 := Cls.refl w557 []
            refine gv_split (s := 79) (g := r174.1.1) (by kernel_rfl) (fun hc587 => ?_) (fun hc587 => ?_)
            ·skip
             replace h2 := ite_t hc587 h2
             refine gv_pureNC hC586 3 [80, 81, 82] [(81, undef), (82, undef)] (by kernel_rfl) ?_
             refine gv_nil <| gv_goA ?_
             refine gv_stage (fun _ => True) [0, 1, 2, 3, 4, 5, 6, 7, 8, 9, 10, 11, 12, 13, 14, 15, 16, 17, 18, 19, 20, 21, 22, 23, 24, 25, 26] [(26, some false)] (bA 29 [0, 1, 2, 3, 4, 5, 6, 7, 8, 9, 10, 11, 12, 13, 14, 15, 16, 17, 18, 19, 20, 21, 22, 23, 24, 25, 26]) 2 (by kernel_rfl) (by kernel_rfl) trivial ?_
             refine gv_pureNC trivial 1 [83] [(83, undef)] (by kernel_rfl) ?_
             refine gv_nil <| gv_goA ?_
             refine gv_pre [27, 28] (bA 29 [0, 1, 2, 3, 4, 5, 6, 7, 8, 9, 10, 11, 12, 13, 14, 15, 16, 17, 18, 19, 20, 21, 22, 23, 24, 25, 26, 27, 28]) 0 (by kernel_rfl) (by kernel_rfl) ?_
             refine gv_pureN 2 [84, 85] [(85, (.bool true))] (by kernel_rfl) ?_
             refine gv_nil <| gv_goA ?_
             refine gv_stageE (by kernel_rfl) ?_
             have e := sj h2; subst e
             refine gv_goal fun a hd hs hok => ?_
             have hB588 := bg hB366 hg459 nb
             have hB589 := bg hB366 hg428 nb
             have hlo590 : w0.heap.size ≤ b430 := lob hbe434 hB589.size
             have hB591 := bg hB588 hg444 (rowlo hlo590)
             have hB592 := bg hB589 hg432 nb
             have hlo593 : w0.heap.size ≤ b437 := lob hbe441 hB592.size
             have hB594 := bg hB591 hg449 (rowlo hlo593)
             have hg595 := (grown_trans hg457 hg558)
             have hB596 := bg hB594 hg595 nb
             have hz597 := (nt hg457.size hg558.size)
             have hk598 := hk372.grown hg428 nb
             have lt599 := ltl ((ltb hk598) _ rfl) ((lowb hbe434) _ rfl)
             have lt600 := ltt lt86 lt599
             have lt601 := ltt lt600 lt452
             have hk602 := (((hk368.grown hg459 nb).grown hg444 (rowne (ng lt600))).grown hg449 (rowne (ng lt601))).grown hg595 nb
             have lt603 := ltt lt90 lt599
             have lt604 := ltt lt603 lt452
             have hk605 := (((hk369.grown hg459 nb).grown hg444 (rowne (ng lt603))).grown hg449 (rowne (ng lt604))).grown hg595 nb
             have lt606 := ltt lt85 lt599
             have lt607 := ltt lt606 lt452
             have hk608 := (((hk370.grown hg459 nb).grown hg444 (rowne (ng lt606))).grown hg449 (rowne (ng lt607))).grown hg595 nb
             exact ⟨hB596, hz597, hk602, hk605, hk608, hd, hs, ok_pick [4, 5, 7, 8, 85] hok (by kernel_rfl)⟩
            ·skip
             replace h2 := ite_f hc587 h2
             refine gv_loadBox (t := 24) (b := (bf363 0)) (t' := 24) (fr := (0, 0)) #[(.bool r174.1.1), (.slice a179 (List.length r174.1.2) c180)] [] (fun e => by cases e) rfl rfl rfl (by kernel_rfl) (by kernel_rfl) (by kernel_rfl) (by kernel_rfl) (inw1 fun w' hC' => (hC'.box hk585 nm_nil)) rfl ?_
             have hk609 := hk372.grown hg428 nb
             have lt610 := ltl ((ltb hk609) _ rfl) ((lowb hbe434) _ rfl)
             have lt611 := ltt lt610 lt452
             have hg612 := (grown_trans hg457 hg558)
             have hk613 := (((hk372.grown hg459 nb).grown hg444 (rowne (ng lt610))).grown hg449 (rowne (ng lt611))).grown hg612 nb
             refine gv_loadBox (t := 49) (b := b65) (t' := 49) (fr := (0, 0)) #[(.bool r52.1), (.slice a57 (List.length r52.2) c58)] [] (fun e => by cases e) rfl rfl rfl (by kernel_rfl) (by kernel_rfl) (by kernel_rfl) (by kernel_rfl) (inw1 fun w' hC' => (hC'.box hk613 nm_nil)) rfl ?_
             refine bindE h2 ?_; clear h2; intro r614 hr615 h2
             have hk616 := hk556.grown hg558 (fun _ h => h.elim) nb
             refine gv_call (f := 20) (vs := [(.agg #[(.bool r174.1.1), (.slice a179 (List.length r174.1.2) c180)])]) (cap := []) _ (by decide) rfl rfl rfl (by kernel_rfl) (by kernel_rfl) enters20 (ref3_IntOf_ok fuel a179 c180 (r174.1.1, r174.1.2) w557 (fun k => (fun k => blk a179 = some k) k) (fun k hk => (fun k (hk : blk a179 = some k) => hk616.lt k hk) k hk) ((hk616.rd (Y := fun k => blk a179 = some k) (fun _ h => h.elim) (fun g e => e)).wide (fun k hk => hk)) r614 hr615) ?_
             rintro v619 w617 ⟨hg618, a620, c621, X623, rfl, ho622, hx624⟩
             refine ⟨(fun _ => hC586.grown hg618 nb), ?_⟩
             have hx625 : ∀ k, X623 k → k < w617.heap.size := fun k hk => (hx624 k hk).1
             have hB627 := bg hB366 hg459 nb
             have hB628 := bg hB366 hg428 nb
             have hlo629 : w0.heap.size ≤ b430 := lob hbe434 hB628.size
             have hB630 := bg hB627 hg444 (rowlo hlo629)
             have hB631 := bg hB628 hg432 nb
             have hlo632 : w0.heap.size ≤ b437 := lob hbe441 hB631.size
             have hB633 := bg hB630 hg449 (rowlo hlo632)
             have hB634 := bg hB633 hg612 nb
             have hx626 : ∀ k, X623 k → X0 k ∨ w0.heap.size ≤ k := fun k hk => (hx624 k hk).2.elim (fun h => (fun k (hk : blk a179 = some k) => Or.inr (hlo374 k hk)) k h) (fun h => .inr (Nat.le_trans hB634.size h))
             refine gv_nil <| gv_goA ?_
             refine gv_stage (fun _ => True) [0, 1, 2, 3, 4, 5, 6, 7, 8, 9, 10, 11, 12, 13, 14, 15, 16, 17, 18, 19, 20, 21, 22, 23, 24, 25, 26] [(26, some false)] (bA 29 [0, 1, 2, 3, 4, 5, 6, 7, 8, 9, 10, 11, 12, 13, 14, 15, 16, 17, 18, 19, 20, 21, 22, 23, 24, 25, 26]) 2 (by kernel_rfl) (by kernel_rfl) trivial ?_
             refine bindE h2 ?_; clear h2; intro r635 hr636 h2
             have hg637 := (grown_trans hg612 hg618)
             have hx638 := ltx (ltx (ltx (ltx (fun k hk => ltl (hM96 k hk) hz367) hg459.size) hg444.size) hg449.size) hg637.size
             have hx639 := ltx (fun k hk => ltl (hM96 k hk) hz367) hg428.size
             have ap640 : ¬ X60 b430 := fun hx => nl ((lowb hbe434) _ rfl) (hx639 _ hx)
             have hg641 := (grown_trans hg432 hg439)
             have hx642 := ltx hx639 hg641.size
             have hx643 := ltx hx639 hg432.size
             have ap644 : ¬ X60 b437 := fun hx => nl ((lowb hbe441) _ rfl) (hx643 _ hx)
             have hx645 := ltx hx642 hg444.size
             have hx646 := ltx hx645 hg449.size
             have hk647 := (((hk371.grown hg459 (fun k hk => ltl (hM96 k hk) hz367) nb).grown hg444 hx642 (rowne ap640)).grown hg449 hx645 (rowne ap644)).grown hg637 hx646 nb
             refine gv_call (f := 22) (vs := [(.agg #[(.bool r614.1), (.slice a620 (List.length r614.2) c621)]), (.agg #[(.bool r52.1), (.slice a57 (List.length r52.2) c58)])]) (cap := []) _ (by decide) rfl rfl rfl (by kernel_rfl) (by kernel_rfl) enters22 (ref3_Int_Order_ok fuel a620 c621 (r614.1, r614.2) a57 c58 (r52.1, r52.2) w617 (fun k => X623 k ∨ X60 k) (fun k hk => (hk).elim (fun h => hx625 k h) (fun h => hx638 k h)) (ho622.wide (fun k hk => (.inl hk))) (hk647.wide (fun k hk => (.inr hk))) r635 hr636) ?_
             rintro v650 w648 ⟨hg649, rfl⟩
             refine ⟨(fun _ => trivial), ?_⟩
             refine gv_nil <| gv_goA ?_
             refine gv_pre [27, 28] (bA 29 [0, 1, 2, 3, 4, 5, 6, 7, 8, 9, 10, 11, 12, 13, 14, 15, 16, 17, 18, 19, 20, 21, 22, 23, 24, 25, 26, 27, 28]) 0 (by kernel_rfl) (by kernel_rfl) ?_
             refine gv_pureN 2 [84, 85] [(85, (.bool (decide (r635 ≥ 0))))] (by kernel_rfl) ?_
             refine gv_nil <| gv_goA ?_
             refine gv_stageE (by kernel_rfl) ?_
             have e := sj h2; subst e
             refine gv_goal fun a hd hs hok => ?_
             have hg651 := (grown_trans hg618 hg649)
             have hB652 := bg hB634 hg651 nb
             have hz653 := (nt (nt (nt hg457.size hg558.size) hg618.size) hg649.size)
             have lt654 := ltt lt86 lt610
             have lt655 := ltt lt654 lt452
             have hg656 := (grown_trans hg637 hg649)
             have hk657 := (((hk368.grown hg459 nb).grown hg444 (rowne (ng lt654))).grown hg449 (rowne (ng lt655))).grown hg656 nb
             have lt658 := ltt lt90 lt610
             have lt659 := ltt lt658 lt452
             have hk660 := (((hk369.grown hg459 nb).grown hg444 (rowne (ng lt658))).grown hg449 (rowne (ng lt659))).grown hg656 nb
             have lt661 := ltt lt85 lt610
             have lt662 := ltt lt661 lt452
             have hk663 := (((hk370.grown hg459 nb).grown hg444 (rowne (ng lt661))).grown hg449 (rowne (ng lt662))).grown hg656 nb
             exact ⟨hB652, hz653, hk657, hk660, hk663, hd, hs, ok_pick [4, 5, 7, 8, 85] hok (by kernel_rfl)⟩
       ·rintro a w455 ⟨hB664, hz665, hb666, hb667, hb668, hd, hs, hok⟩
        refine gv_in ?_ hd hs hok
        clear hd hs hok
        have hz669 := (nt (nt (nt (nt hz436 hg439.size) hg444.size) hg449.size) hz665)
        clear hz665 hz451 hb450 hg449 hk453 lt452 hz446 hb445 hg444 hk447 hz442 hbe441 hb440 hg439 hz436 hbe434 hb433 hg432 hg428 ap417 ap416 ap415 ap414 ap413 ap412 ap411 ap410 ap409 hlo408 hb407 ap405 ap404 ap403 ap402 ap401 ap400 ap399 ap398 hlo397 hb396 ap394 ap393 ap392 ap391 ap390 ap389 ap388 hlo387 hb386 hlo374 hk373 hk372 hk371 hk370 hk369 hk368 hz367 hB366 lt90 lt86 lt85 hx61 hx47 hg41 hk28 hg22 hb16 hg15 hb10
        refine gv_cond (b := j454) (by kernel_rfl) (fun hc670 => ?_) (fun hc670 => ?_)
        ·replace h1 := ite_t hc670 h1
         refine gv_seq <| gv_region <| gv_pureN 1 [10] [(10, (.bool false))] (by kernel_rfl) ?_
         refine gv_nil <| gv_cret ?_
         have e := sj h1; subst e
         replace h0 := cont_inr h0
         have e := sj h0; subst e
         refine gv_ret (gv_done [(.bool false)] rfl ⟨(by kernel_rfl), trivial⟩ ?_)
         exact ⟨grown_of_below hB664, rfl⟩
        ·replace h1 := ite_f hc670 h1
         refine gv_skip ?_
         have e := sj h1; subst e
         refine gv_goal fun a hd hs hok => ?_
         have hz671 := hz669
         exact ⟨(), rfl, hB664, hz671, hb666, hb667, hb668, hd, hs, ok_pick [4, 5, 7, 8] hok (by kernel_rfl)⟩
     ·replace h1 := ite_f hc37 h1
      refine gv_skip ?_
      have e := sj h1; subst e
      refine gv_goal fun a hd hs hok => ?_
      have hg672 := (grown_trans hg3 hg27)
      have hB673 := bg hB0 hg672 nb
      have hg674 := (grown_trans hg15 hg22)
      have hk675 := hb10.grown hg674 nb
      have hk676 := hb16.grown hg22 nb
      exact ⟨(), rfl, hB673, (Nat.le_refl _), hk28, hk675, hk676, hd, hs, ok_pick [4, 5, 7, 8] hok (by kernel_rfl)⟩
    ·rintro a w36 ⟨s35, e, hB677, hz678, hb679, hb680, hb681, hd, hs, hok⟩
     subst e
     refine gv_in ?_ hd hs hok
     clear hd hs hok
     replace h0 := cont_inl h0
     clear hz678 hc29 hk28 hg27 hc24 hg22 hr20 hz18 hb16 hg15 hz12 hz6
     refine gv_seq <| gv_region <| gv_loadBox (t := 27) (b := b1) (t' := 27) (fr := (0, 0)) #[(.int .u64 g_0.1), (.int .u64 g_0.2)] [] (fun e => by cases e) rfl rfl rfl (by kernel_rfl) (by kernel_rfl) (by kernel_rfl) (by kernel_rfl) (inw0 hb679) rfl ?_
     refine gv_loadBox (t := 24) (b := b7) (t' := 24) (fr := (0, 0)) #[(.bool low_2.1), (.slice pa2_0 (List.length low_2.2) pc2_0)] [] (fun e => by cases e) rfl rfl rfl (by kernel_rfl) (by kernel_rfl) (by kernel_rfl) (by kernel_rfl) (inw0 hb680) rfl ?_
     refine gv_loadBox (t := 24) (b := b13) (t' := 24) (fr := (0, 0)) #[(.bool high_3.1), (.slice pa3_0 (List.length high_3.2) pc3_0)] [] (fun e => by cases e) rfl rfl rfl (by kernel_rfl) (by kernel_rfl) (by kernel_rfl) (by kernel_rfl) (inw0 hb681) rfl ?_
     refine bindE h0 ?_; clear h0; intro r682 hr683 h0
     refine gv_call0 (by kernel_rfl) rfl (by kernel_rfl) enters17 (random_Between_ok fuel (g_0.1, g_0.2) pa2_0 pc2_0 (low_2.1, low_2.2) pa3_0 pc3_0 (high_3.1, high_3.2) w36 (fun k => X0 k ∨ X0 k) (fun k hk => (hk).elim (fun h => (fun k (hk : X0 k) => ltl (hX0 k hk) hB677.size) k h) (fun h => (fun k (hk : X0 k) => ltl (hX0 k hk) hB677.size) k h)) ((hpa2_0.below hB677 hX0).wide (fun k hk => (.inl hk))) ((hpa3_0.below hB677 hX0).wide (fun k hk => (.inr hk))) r682 hr683) ?_
     rintro v686 w684 ⟨hg685, a687, c688, X690, rfl, ho689, hx691⟩
     have hx692 : ∀ k, X690 k → k < w684.heap.size := fun k hk => (hx691 k hk).1
     have hx693 : ∀ k, X690 k → X0 k ∨ w0.heap.size ≤ k := fun k hk => (hx691 k hk).2.elim (fun h => (h).elim (fun h => (fun k (hk : X0 k) => Or.inl hk) k h) (fun h => (fun k (hk : X0 k) => Or.inl hk) k h)) (fun h => .inr (Nat.le_trans hB677.size h))
     refine gv_pureN 4 [86, 91, 92, 93] [(91, (.agg #[(.bool r682.1.1), (.slice a687 (List.length r682.1.2) c688)])), (92, (.agg #[(.int .u64 r682.2.1.1), (.int .u64 r682.2.1.2)])), (93, (.agg #[(.int .i64 r682.2.2.1), (.int .i64 r682.2.2.2)]))] (by kernel_rfl) ?_
     refine gv_new0 (fun b => .pointer (some ⟨b, 0, none⟩)) #[(.bool false), (.slice none (List.length ([] : List Int)) 0)] 24 (by kernel_rfl) (by kernel_rfl) ?_
     intro b694 w695 hg696 hb697 hbe698 hz699
     refine gv_new0 (fun b => .pointer (some ⟨b, 0, none⟩)) #[(.int .u64 0), (.int .u64 0)] 27 (by kernel_rfl) (by kernel_rfl) ?_
     intro b700 w701 hg702 hb703 hbe704 hz705
     refine gv_new0 (fun b => .pointer (some ⟨b, 0, none⟩)) #[(.int .i64 0), (.int .i64 0)] 29 (by kernel_rfl) (by kernel_rfl) ?_
     intro b706 w707 hg708 hb709 hbe710 hz711
     have hg716 := (grown_trans hg702 hg708)
     have hk717 := hb697.grown hg716 nb
     refine gv_store0 24 0 (.agg #[(.bool r682.1.1), (.slice a687 (List.length r682.1.2) c688)]) #[(.bool r682.1.1), (.slice a687 (List.length r682.1.2) c688)] hk717 (by kernel_rfl) (by kernel_rfl) (by kernel_rfl) ?_
     intro w712 hg713 hb714 hz715
     have lt722 := ltl ((ltb hb697) _ rfl) ((lowb hbe704) _ rfl)
     have hk723 := (hb703.grown hg708 nb).grown hg713 (rowne (Nat.ne_of_lt lt722))
     refine gv_store0 27 0 (.agg #[(.int .u64 r682.2.1.1), (.int .u64 r682.2.1.2)]) #[(.int .u64 r682.2.1.1), (.int .u64 r682.2.1.2)] hk723 (by kernel_rfl) (by kernel_rfl) (by kernel_rfl) ?_
     intro w718 hg719 hb720 hz721
     have lt728 := ltl ((ltb hb703) _ rfl) ((lowb hbe710) _ rfl)
     have lt729 := ltt lt722 lt728
     have hk730 := (hb709.grown hg713 (rowne (Nat.ne_of_lt lt729))).grown hg719 (rowne (Nat.ne_of_lt lt728))
     refine gv_store0 29 0 (.agg #[(.int .i64 r682.2.2.1), (.int .i64 r682.2.2.2)]) #[(.int .i64 r682.2.2.1), (.int .i64 r682.2.2.2)] hk730 (by kernel_rfl) (by kernel_rfl) (by kernel_rfl) ?_
     intro w724 hg725 hb726 hz727
     refine gv_nil <| gv_seq <| gv_seq <| bindE h0 ?_; clear h0; intro j731 h1 h0
     refine gv_cut_code (J := fun a w732 => Below w0.heap.size w0 w732 ∧ w724.heap.size ≤ w732.heap.size ∧ Box w732 b1 27 #[(.int .u64 g_0.1), (.int .u64 g_0.2)] ∧ a.defers = [] ∧ a.tmps.size = 158 ∧ Ok [(4, (.slice pa4_0 (List.length weights_4) pc4_0)), (5, (bp b1)), (121, (.bool j731))] a.tmps) ?_ ?_
     ·skip
      refine gv_drawA (by kernel_rfl) ?_
      intro w733 hg734
      refine gv_pre [0] (bA 28 [0]) 27 (by kernel_rfl) (by kernel_rfl) ?_
      refine gv_pureN 1 [94] [(94, (bp b706))] (by kernel_rfl) ?_
      refine gv_nil <| gv_goA ?_
      refine gv_stage (Cls w733 []) [0, 1] [(1, some true)] (bA 28 [0, 1]) 26 (by kernel_rfl) (by kernel_rfl) (Cls.refl _ _) ?_
      have hC735 := Cls.refl w733 []
      have hk736 := hb726.grown hg734 nb
      refine gv_load (t := 3) (A := ⟨b706, 0, none⟩) (.int .i64 r682.2.2.1) [] (fun e => by cases e) rfl rfl rfl (by kernel_rfl) (by kernel_rfl) (by kernel_rfl) (inw1 fun w' hC' => ((hC'.box hk736 nm_nil).cell 0 rfl)) rfl ?_
      refine gv_nil <| gv_goA ?_
      refine gv_pre [2, 3] (bA 28 [0, 1, 2, 3]) 24 (by kernel_rfl) (by kernel_rfl) ?_
      refine gv_pureN 2 [96, 97] [(97, (.bool (r682.2.2.1 == 0)))] (by kernel_rfl) ?_
      refine gv_sub [4, 5, 7, 8, 17, 97] (σ' := [(4, (.slice pa4_0 (List.length weights_4) pc4_0)), (5, (bp b1)), (7, (bp b7)), (8, (bp b13)), (17, (bp b694)), (97, (.bool (r682.2.2.1 == 0)))]) (by kernel_rfl) ?_
      refine gv_nil <| gv_goA ?_
      refine gv_stage (Cls w733 []) [0, 1, 2, 3, 4, 5, 6] [(4, some true), (5, some true), (6, some true)] (bA 28 [0, 1, 2, 3, 4, 5, 6]) 21 (by kernel_rfl) (by kernel_rfl) (Cls.refl _ _) ?_
      have hC737 := Cls.refl w733 []
      refine gv_split (s := 97) (g := (r682.2.2.1 == 0)) (by kernel_rfl) (fun hc738 => ?_) (fun hc738 => ?_)
      ·skip
       replace h1 := ite_t hc738 h1
       have hg739 := (grown_trans (grown_trans hg685 hg696) hg716)
       have lt740 := ltl ((ltb hb10) _ rfl) ((lowb hbe17) _ rfl)
       have hk741 := hb681.grown hg685 nb
       have lt742 := ltl ((ltb hk741) _ rfl) ((lowb hbe698) _ rfl)
       have lt743 := ltt lt740 lt742
       have lt744 := ltt lt743 lt722
       have lt745 := ltt lt744 lt728
       have hk746 := ((((hb680.grown hg739 nb).grown hg713 (rowne (ng lt743))).grown hg719 (rowne (ng lt744))).grown hg725 (rowne (ng lt745))).grown hg734 nb
       refine gv_loadBox (t := 24) (b := b7) (t' := 24) (fr := (0, 0)) #[(.bool low_2.1), (.slice pa2_0 (List.length low_2.2) pc2_0)] [] (fun e => by cases e) rfl rfl rfl (by kernel_rfl) (by kernel_rfl) (by kernel_rfl) (by kernel_rfl) (inw1 fun w' hC' => (hC'.box hk746 nm_nil)) rfl ?_
       have hg747 := (grown_trans hg696 hg716)
       have lt748 := ltt lt742 lt722
       have lt749 := ltt lt748 lt728
       have hk750 := ((((hk741.grown hg747 nb).grown hg713 (rowne (ng lt742))).grown hg719 (rowne (ng lt748))).grown hg725 (rowne (ng lt749))).grown hg734 nb
       refine gv_loadBox (t := 24) (b := b13) (t' := 24) (fr := (0, 0)) #[(.bool high_3.1), (.slice pa3_0 (List.length high_3.2) pc3_0)] [] (fun e => by cases e) rfl rfl rfl (by kernel_rfl) (by kernel_rfl) (by kernel_rfl) (by kernel_rfl) (inw1 fun w' hC' => (hC'.box hk750 nm_nil)) rfl ?_
       have hk751 := ((hb714.grown hg719 (rowne (ng lt722))).grown hg725 (rowne (ng lt729))).grown hg734 nb
       refine gv_loadBox (t := 24) (b := b694) (t' := 24) (fr := (0, 0)) #[(.bool r682.1.1), (.slice a687 (List.length r682.1.2) c688)] [] (fun e => by cases e) rfl rfl rfl (by kernel_rfl) (by kernel_rfl) (by kernel_rfl) (by kernel_rfl) (inw1 fun w' hC' => (hC'.box hk751 nm_nil)) rfl ?_
       refine gv_nil <| gv_goA ?_
       refine gv_stage (fun _ => True) [0, 1, 2, 3, 4, 5, 6, 7] [(7, some false)] (bA 28 [0, 1, 2, 3, 4, 5, 6, 7]) 20 (by kernel_rfl) (by kernel_rfl) trivial ?_
       refine gv_new (fun b => .slice (some ⟨b, 0, none⟩) 3 3) #[(.bool low_2.1), (.slice pa2_0 (List.length low_2.2) pc2_0), (.bool high_3.1), (.slice pa3_0 (List.length high_3.2) pc3_0), (.bool r682.1.1), (.slice a687 (List.length r682.1.2) c688)] 24 (by decide) rfl rfl (by kernel_rfl) (by kernel_rfl) ?_
       intro b752 w753 hg754 hb755 hbe756 hz757
       refine ⟨(fun _ => trivial), ?_⟩
       obtain ⟨X763, e⟩ : ∃ X : Nat → Prop, X = (fun k => X0 k ∨ X690 k) := ⟨_, rfl⟩
       have hB764 := bg hB677 hg739 nb
       have hB765 := bg hB677 hg685 nb
       have hlo766 : w0.heap.size ≤ b694 := lob hbe698 hB765.size
       have hB767 := bg hB764 hg713 (rowlo hlo766)
       have hB768 := bg hB765 hg696 nb
       have hlo769 : w0.heap.size ≤ b700 := lob hbe704 hB768.size
       have hB770 := bg hB767 hg719 (rowlo hlo769)
       have hB771 := bg hB768 hg702 nb
       have hlo772 : w0.heap.size ≤ b706 := lob hbe710 hB771.size
       have hB773 := bg hB770 hg725 (rowlo hlo772)
       have hB774 := bg hB773 hg734 nb
       have hx775 := ltx (ltx (ltx (ltx (ltx hx692 hg747.size) hg713.size) hg719.size) hg725.size) hg734.size
       have hx761 : ∀ k, X763 k → k < w733.heap.size := fun k h => by rw [e] at h; exact (h).elim (fun h => (fun k (hk : X0 k) => ltl (hX0 k hk) hB774.size) k h) (fun h => hx775 k h)
       have hz776 := hg754.size
       have hx760 : ∀ k, X763 k → k < w753.heap.size := fun k h => ltl (hx761 k h) hz776
       have hx762 : ∀ k, X763 k → X0 k ∨ w0.heap.size ≤ k := fun k h => by rw [e] at h; exact (h).elim (fun h => (fun k (hk : X0 k) => Or.inl hk) k h) (fun h => hx693 k h)
       have hB777 := bg hB774 hg754 nb
       have ap778 : ¬ X690 b694 := fun hx => nl ((lowb hbe698) _ rfl) (hx692 _ hx)
       have hx779 := ltx hx692 hg747.size
       have hx780 := ltx hx692 hg696.size
       have ap781 : ¬ X690 b700 := fun hx => nl ((lowb hbe704) _ rfl) (hx780 _ hx)
       have hx782 := ltx hx779 hg713.size
       have hx783 := ltx hx780 hg702.size
       have ap784 : ¬ X690 b706 := fun hx => nl ((lowb hbe710) _ rfl) (hx783 _ hx)
       have hx785 := ltx hx782 hg719.size
       have hg786 := (grown_trans hg734 hg754)
       have hx787 := ltx hx785 hg725.size
       have hk788 := ((((ho689.grown hg747 hx692 nb).grown hg713 hx779 (rowne ap778)).grown hg719 hx782 (rowne ap781)).grown hg725 hx785 (rowne ap784)).grown hg786 hx787 nb
       have ho758 : Own (prE tE (slE (iE .u32))) 24 w753 X763 (some ⟨b752, 0, none⟩) 3 ([(low_2.1, low_2.2), (high_3.1, high_3.2), (r682.1.1, r682.1.2)] : List (Bool × (List Int))) := Box.ownE hb755 (by rw [e]; exact ⟨[(.bool low_2.1), (.slice pa2_0 (List.length low_2.2) pc2_0)], [(.bool high_3.1), (.slice pa3_0 (List.length high_3.2) pc3_0), (.bool r682.1.1), (.slice a687 (List.length r682.1.2) c688)], rfl, ⟨[(.bool low_2.1)], [(.slice pa2_0 (List.length low_2.2) pc2_0)], rfl, rfl, ⟨pa2_0, pc2_0, rfl, ((hpa2_0.below hB777 hX0).wide (fun _ h => (.inl h)))⟩⟩, ⟨[(.bool high_3.1), (.slice pa3_0 (List.length high_3.2) pc3_0)], [(.bool r682.1.1), (.slice a687 (List.length r682.1.2) c688)], rfl, ⟨[(.bool high_3.1)], [(.slice pa3_0 (List.length high_3.2) pc3_0)], rfl, rfl, ⟨pa3_0, pc3_0, rfl, ((hpa3_0.below hB777 hX0).wide (fun _ h => (.inl h)))⟩⟩, ⟨[(.bool r682.1.1), (.slice a687 (List.length r682.1.2) c688)], [], rfl, ⟨[(.bool r682.1.1)], [(.slice a687 (List.length r682.1.2) c688)], rfl, rfl, ⟨a687, c688, rfl, (hk788.wide (fun _ h => (.inr h)))⟩⟩, rfl⟩⟩⟩) (show 3 ≤ maxLen by decide) (fun h => noteq hbe756 (hx761 _ h))
       have hx789 : ∀ k, X763 k → (fun k => X0 k ∨ X690 k) k := fun k h => by rw [e] at h; exact h
       clear e
       have hl759 : ∀ g, blk (some ⟨b752, 0, none⟩) = some g → w0.heap.size ≤ g := loo hbe756 hB774.size
       have lt791 := ltl ((ltb hb4) _ rfl) ((lowb hbe11) _ rfl)
       have lt792 := ltt lt791 lt740
       have lt793 := ltt lt792 lt742
       have lt794 := ltt lt793 lt722
       have lt795 := ltt lt794 lt728
       have hk796 := ((((hb679.grown hg739 nb).grown hg713 (rowne (ng lt793))).grown hg719 (rowne (ng lt794))).grown hg725 (rowne (ng lt795))).grown hg734 nb
       have ap790 : ∀ g, blk (some ⟨b752, 0, none⟩) = some g → ¬ (· = b1) g := fun g e hx => nl (lowo hbe756 g e) ((ltb hk796) _ hx)
       have hlo798 : w0.heap.size ≤ b1 := lob hbe5 hB0.size
       have ap799 : ¬ X690 b1 := fun h => ((hx691 _ h).2.elim (fun h => (h).elim (fun h => ((fun (hx : X0 b1) => nl hlo798 (hX0 _ hx)))  h) (fun h => ((fun (hx : X0 b1) => nl hlo798 (hX0 _ hx)))  h)) (fun h => nl h (hb679.lt)))
       have ap797 : ¬ (fun k => blk (some ⟨b752, 0, none⟩) = some k ∨ X763 k) b1 := fun h => h.elim (fun h => nl (lowo hbe756 _ h) ((ltb hk796) _ rfl)) (fun h => ((hx789 _ h)).elim (fun h => ((fun (hx : X0 b1) => nl hlo798 (hX0 _ hx)))  h) (fun h => (ap799)  h))
       have ap800 : ∀ g, blk (some ⟨b752, 0, none⟩) = some g → ¬ (· = b7) g := fun g e hx => nl (lowo hbe756 g e) ((ltb hk746) _ hx)
       have hB802 := bg hB0 hg3 nb
       have hlo803 : w0.heap.size ≤ b7 := lob hbe11 hB802.size
       have ap804 : ¬ X690 b7 := fun h => ((hx691 _ h).2.elim (fun h => (h).elim (fun h => ((fun (hx : X0 b7) => nl hlo803 (hX0 _ hx)))  h) (fun h => ((fun (hx : X0 b7) => nl hlo803 (hX0 _ hx)))  h)) (fun h => nl h (hb680.lt)))
       have ap801 : ¬ (fun k => blk (some ⟨b752, 0, none⟩) = some k ∨ X763 k) b7 := fun h => h.elim (fun h => nl (lowo hbe756 _ h) ((ltb hk746) _ rfl)) (fun h => ((hx789 _ h)).elim (fun h => ((fun (hx : X0 b7) => nl hlo803 (hX0 _ hx)))  h) (fun h => (ap804)  h))
       have ap805 : ∀ g, blk (some ⟨b752, 0, none⟩) = some g → ¬ (· = b13) g := fun g e hx => nl (lowo hbe756 g e) ((ltb hk750) _ hx)
       have hB807 := bg hB802 hg9 nb
       have hlo808 : w0.heap.size ≤ b13 := lob hbe17 hB807.size
       have ap809 : ¬ X690 b13 := fun h => ((hx691 _ h).2.elim (fun h => (h).elim (fun h => ((fun (hx : X0 b13) => nl hlo808 (hX0 _ hx)))  h) (fun h => ((fun (hx : X0 b13) => nl hlo808 (hX0 _ hx)))  h)) (fun h => nl h (hb681.lt)))
       have ap806 : ¬ (fun k => blk (some ⟨b752, 0, none⟩) = some k ∨ X763 k) b13 := fun h => h.elim (fun h => nl (lowo hbe756 _ h) ((ltb hk750) _ rfl)) (fun h => ((hx789 _ h)).elim (fun h => ((fun (hx : X0 b13) => nl hlo808 (hX0 _ hx)))  h) (fun h => (ap809)  h))
       have ap810 : ∀ g, blk (some ⟨b752, 0, none⟩) = some g → ¬ X690 g := fun g e hx => nl (lowo hbe756 g e) (hx775 _ hx)
       have ap811 : ∀ g, blk (some ⟨b752, 0, none⟩) = some g → ¬ (· = b694) g := fun g e hx => nl (lowo hbe756 g e) ((ltb hk751) _ hx)
       have ap812 : ¬ (fun k => blk (some ⟨b752, 0, none⟩) = some k ∨ X763 k) b694 := fun h => h.elim (fun h => nl (lowo hbe756 _ h) ((ltb hk751) _ rfl)) (fun h => ((hx789 _ h)).elim (fun h => ((fun (hx : X0 b694) => nl hlo766 (hX0 _ hx)))  h) (fun h => (ap778)  h))
       have hk814 := (hb720.grown hg725 (rowne (ng lt728))).grown hg734 nb
       have ap813 : ∀ g, blk (some ⟨b752, 0, none⟩) = some g → ¬ (· = b700) g := fun g e hx => nl (lowo hbe756 g e) ((ltb hk814) _ hx)
       have ap815 : ¬ (fun k => blk (some ⟨b752, 0, none⟩) = some k ∨ X763 k) b700 := fun h => h.elim (fun h => nl (lowo hbe756 _ h) ((ltb hk814) _ rfl)) (fun h => ((hx789 _ h)).elim (fun h => ((fun (hx : X0 b700) => nl hlo769 (hX0 _ hx)))  h) (fun h => (ap781)  h))
       have ap816 : ∀ g, blk (some ⟨b752, 0, none⟩) = some g → ¬ (· = b706) g := fun g e hx => nl (lowo hbe756 g e) ((ltb hk736) _ hx)
       have ap817 : ¬ (fun k => blk (some ⟨b752, 0, none⟩) = some k ∨ X763 k) b706 := fun h => h.elim (fun h => nl (lowo hbe756 _ h) ((ltb hk736) _ rfl)) (fun h => ((hx789 _ h)).elim (fun h => ((fun (hx : X0 b706) => nl hlo772 (hX0 _ hx)))  h) (fun h => (ap784)  h))
       clear ap817 ap816 ap815 ap813 hB807 hB802 lt795 lt794 hx789 hg786 hz776 hx761 hB774 hB773 hB771 hB770 hB768 hB767 hB765 hB764 hz757 hbe756 hb755 lt749 lt748 hg747 lt745 lt744 hk741 hg739 hc738 hC737 hC735 hz727 hb726 hk730 lt729 lt728 hz721 hb720 hk723 lt722 hz715 hb714 hk717 hg716 hz711 hbe710 hb709 hz705 hbe704 hb703 hz699 hbe698 hb697 hx691 hg685 hr683 hb681 hb680 hb679 hB677 hbe17 hbe11 hb10 hg9 hbe5 hb4 hg3
       refine gv_nil <| gv_goA ?_
       refine gv_stage (fun _ => True) [0, 1, 2, 3, 4, 5, 6, 7, 8] [(8, some false)] (bA 28 [0, 1, 2, 3, 4, 5, 6, 7, 8]) 19 (by kernel_rfl) (by kernel_rfl) trivial ?_
       refine bindE h1 ?_; clear h1; intro r818 hr819 h1
       refine gv_call (f := 35) (vs := [(.slice (some ⟨b752, 0, none⟩) (List.length ([(low_2.1, low_2.2), (high_3.1, high_3.2), (r682.1.1, r682.1.2)] : List (Bool × (List Int)))) 3)]) (cap := []) _ (by decide) rfl rfl rfl (by kernel_rfl) (by kernel_rfl) enters35 (ref3_Faults_ok fuel (some ⟨b752, 0, none⟩) 3 ([(low_2.1, low_2.2), (high_3.1, high_3.2), (r682.1.1, r682.1.2)] : List (Bool × (List Int))) w753 (fun k => (fun k => blk (some ⟨b752, 0, none⟩) = some k ∨ X763 k) k) (fun k hk => (fun k (hk : blk (some ⟨b752, 0, none⟩) = some k ∨ X763 k) => hk.elim (fun h => ho758.lt k h) (fun h => hx760 k h)) k hk) ((ho758.rd (Y := fun k => blk (some ⟨b752, 0, none⟩) = some k ∨ X763 k) (fun _ h => .inr h) (fun g e => .inl e)).wide (fun k hk => hk)) r818 hr819) ?_
       rintro v822 w820 ⟨hg821, rfl⟩
       refine ⟨(fun _ => trivial), ?_⟩
       refine gv_nil <| gv_goA ?_
       refine gv_pre [9, 10, 11] (bA 28 [0, 1, 2, 3, 4, 5, 6, 7, 8, 9, 10, 11]) 16 (by kernel_rfl) (by kernel_rfl) ?_
       refine gv_pureN 3 [103, 104, 105] [(105, (.bool (r818.1 != 0)))] (by kernel_rfl) ?_
       refine gv_nil <| gv_goA ?_
       refine gv_stage (Cls w820 []) [0, 1, 2, 3, 4, 5, 6, 7, 8, 9, 10, 11, 12, 13, 14] [(12, some true), (14, some true), (13, some false)] (bA 28 [0, 1, 2, 3, 4, 5, 6, 7, 8, 9, 10, 11, 12, 13, 14]) 13 (by kernel_rfl) (by kernel_rfl) (Cls.refl _ _) ?_
       have hC823 := Cls.refl w820 []
       refine gv_split (s := 105) (g := (r818.1 != 0)) (by kernel_rfl) (fun hc824 => ?_) (fun hc824 => ?_)
       ·skip
        replace h1 := ite_t hc824 h1
        refine gv_pureNC hC823 3 [106, 107, 108] [(107, undef), (108, undef)] (by kernel_rfl) ?_
        refine gv_nil <| gv_goA ?_
        refine gv_stage (fun _ => True) [0, 1, 2, 3, 4, 5, 6, 7, 8, 9, 10, 11, 12, 13, 14, 15] [(15, some false)] (bA 28 [0, 1, 2, 3, 4, 5, 6, 7, 8, 9, 10, 11, 12, 13, 14, 15]) 12 (by kernel_rfl) (by kernel_rfl) trivial ?_
        refine gv_pureNC trivial 1 [109] [(109, undef)] (by kernel_rfl) ?_
        refine gv_nil <| gv_goA ?_
        refine gv_stage (fun _ => True) [0, 1, 2, 3, 4, 5, 6, 7, 8, 9, 10, 11, 12, 13, 14, 15, 16] [(16, some false)] (bA 28 [0, 1, 2, 3, 4, 5, 6, 7, 8, 9, 10, 11, 12, 13, 14, 15, 16]) 11 (by kernel_rfl) (by kernel_rfl) trivial ?_
        refine gv_pureNC trivial 1 [110] [(110, undef)] (by kernel_rfl) ?_
        refine gv_nil <| gv_goA ?_
        refine gv_pre [17, 18, 19] (bA 28 [0, 1, 2, 3, 4, 5, 6, 7, 8, 9, 10, 11, 12, 13, 14, 15, 16, 17, 18, 19]) 8 (by kernel_rfl) (by kernel_rfl) ?_
        refine gv_pureN 3 [111, 112, 113] [(113, (.bool true))] (by kernel_rfl) ?_
        refine gv_nil <| gv_goA ?_
        refine gv_stage (Cls w820 []) [0, 1, 2, 3, 4, 5, 6, 7, 8, 9, 10, 11, 12, 13, 14, 15, 16, 17, 18, 19, 20, 21, 22] [(20, some true), (22, some true), (21, some false)] (bA 28 [0, 1, 2, 3, 4, 5, 6, 7, 8, 9, 10, 11, 12, 13, 14, 15, 16, 17, 18, 19, 20, 21, 22]) 5 (by kernel_rfl) (by kernel_rfl) (Cls.refl _ _) ?_
        have hC825 := Cls.refl w820 []
        refine gv_pureNC hC825 3 [114, 115, 116] [(115, undef), (116, undef)] (by kernel_rfl) ?_
        refine gv_nil <| gv_goA ?_
        refine gv_stage (fun _ => True) [0, 1, 2, 3, 4, 5, 6, 7, 8, 9, 10, 11, 12, 13, 14, 15, 16, 17, 18, 19, 20, 21, 22, 23] [(23, some false)] (bA 28 [0, 1, 2, 3, 4, 5, 6, 7, 8, 9, 10, 11, 12, 13, 14, 15, 16, 17, 18, 19, 20, 21, 22, 23]) 4 (by kernel_rfl) (by kernel_rfl) trivial ?_
        refine gv_pureNC trivial 1 [117] [(117, undef)] (by kernel_rfl) ?_
        refine gv_nil <| gv_goA ?_
        refine gv_stage (fun _ => True) [0, 1, 2, 3, 4, 5, 6, 7, 8, 9, 10, 11, 12, 13, 14, 15, 16, 17, 18, 19, 20, 21, 22, 23, 24] [(24, some false)] (bA 28 [0, 1, 2, 3, 4, 5, 6, 7, 8, 9, 10, 11, 12, 13, 14, 15, 16, 17, 18, 19, 20, 21, 22, 23, 24]) 3 (by kernel_rfl) (by kernel_rfl) trivial ?_
        refine gv_pureNC trivial 1 [118] [(118, undef)] (by kernel_rfl) ?_
        refine gv_nil <| gv_goA ?_
        refine gv_pre [25, 26, 27] (bA 28 [0, 1, 2, 3, 4, 5, 6, 7, 8, 9, 10, 11, 12, 13, 14, 15, 16, 17, 18, 19, 20, 21, 22, 23, 24, 25, 26, 27]) 0 (by kernel_rfl) (by kernel_rfl) ?_
        refine gv_pureN 3 [119, 120, 121] [(121, (.bool true))] (by kernel_rfl) ?_
        refine gv_sub [4, 5, 121] (σ' := [(4, (.slice pa4_0 (List.length weights_4) pc4_0)), (5, (bp b1)), (121, (.bool true))]) (by kernel_rfl) ?_
        refine gv_nil <| gv_goA ?_
        refine gv_stageE (by kernel_rfl) ?_
        have e := sj h1; subst e
        refine gv_goal fun a hd hs hok => ?_
        have hB826 := bg hB777 hg821 nb
        have hz827 := (nt (nt hg734.size hg754.size) hg821.size)
        have hg828 := (grown_trans hg754 hg821)
        have hk829 := hk796.grown hg828 nb
        exact ⟨hB826, hz827, hk829, hd, hs, ok_pick [4, 5, 121] hok (by kernel_rfl)⟩
       ·skip
        replace h1 := ite_f hc824 h1
        have hg830 := (grown_trans hg754 hg821)
        have hk831 := hk751.grown hg830 nb
        refine gv_loadBox (t := 24) (b := b694) (t' := 24) (fr := (0, 0)) #[(.bool r682.1.1), (.slice a687 (List.length r682.1.2) c688)] [] (fun e => by cases e) rfl rfl rfl (by kernel_rfl) (by kernel_rfl) (by kernel_rfl) (by kernel_rfl) (inw1 fun w' hC' => (hC'.box hk831 nm_nil)) rfl ?_
        have hk832 := hk746.grown hg830 nb
        refine gv_loadBox (t := 24) (b := b7) (t' := 24) (fr := (0, 0)) #[(.bool low_2.1), (.slice pa2_0 (List.length low_2.2) pc2_0)] [] (fun e => by cases e) rfl rfl rfl (by kernel_rfl) (by kernel_rfl) (by kernel_rfl) (by kernel_rfl) (inw1 fun w' hC' => (hC'.box hk832 nm_nil)) rfl ?_
        refine bindE h1 ?_; clear h1; intro r833 hr834 h1
        have hx835 := ltx hx775 hg830.size
        have hx836 := ltx hx775 hg754.size
        have hk837 := hk788.grown hg821 hx836 nb
        refine gv_call (f := 20) (vs := [(.agg #[(.bool r682.1.1), (.slice a687 (List.length r682.1.2) c688)])]) (cap := []) _ (by decide) rfl rfl rfl (by kernel_rfl) (by kernel_rfl) enters20 (ref3_IntOf_ok fuel a687 c688 (r682.1.1, r682.1.2) w820 (fun k => X690 k) (fun k hk => hx835 k hk) (hk837.wide (fun k hk => hk)) r833 hr834) ?_
        rintro v840 w838 ⟨hg839, a841, c842, X844, rfl, ho843, hx845⟩
        refine ⟨(fun _ => hC823.grown hg839 nb), ?_⟩
        have hx846 : ∀ k, X844 k → k < w838.heap.size := fun k hk => (hx845 k hk).1
        have hB848 := bg hB777 hg821 nb
        have hx847 : ∀ k, X844 k → X0 k ∨ w0.heap.size ≤ k := fun k hk => (hx845 k hk).2.elim (fun h => hx693 k h) (fun h => .inr (Nat.le_trans hB848.size h))
        refine gv_nil <| gv_goA ?_
        refine gv_stage (fun _ => True) [0, 1, 2, 3, 4, 5, 6, 7, 8, 9, 10, 11, 12, 13, 14, 15] [(15, some false)] (bA 28 [0, 1, 2, 3, 4, 5, 6, 7, 8, 9, 10, 11, 12, 13, 14, 15]) 12 (by kernel_rfl) (by kernel_rfl) trivial ?_
        refine bindE h1 ?_; clear h1; intro r849 hr850 h1
        have hB851 := bg hB848 hg839 nb
        refine gv_call (f := 20) (vs := [(.agg #[(.bool low_2.1), (.slice pa2_0 (List.length low_2.2) pc2_0)])]) (cap := []) _ (by decide) rfl rfl rfl (by kernel_rfl) (by kernel_rfl) enters20 (ref3_IntOf_ok fuel pa2_0 pc2_0 (low_2.1, low_2.2) w838 (fun k => X0 k) (fun k hk => (fun k (hk : X0 k) => ltl (hX0 k hk) hB851.size) k hk) ((hpa2_0.below hB851 hX0).wide (fun k hk => hk)) r849 hr850) ?_
        rintro v854 w852 ⟨hg853, a855, c856, X858, rfl, ho857, hx859⟩
        refine ⟨(fun _ => trivial), ?_⟩
        have hx860 : ∀ k, X858 k → k < w852.heap.size := fun k hk => (hx859 k hk).1
        have hx861 : ∀ k, X858 k → X0 k ∨ w0.heap.size ≤ k := fun k hk => (hx859 k hk).2.elim (fun h => (fun k (hk : X0 k) => Or.inl hk) k h) (fun h => .inr (Nat.le_trans hB851.size h))
        refine gv_nil <| gv_goA ?_
        refine gv_stage (fun _ => True) [0, 1, 2, 3, 4, 5, 6, 7, 8, 9, 10, 11, 12, 13, 14, 15, 16] [(16, some false)] (bA 28 [0, 1, 2, 3, 4, 5, 6, 7, 8, 9, 10, 11, 12, 13, 14, 15, 16]) 11 (by kernel_rfl) (by kernel_rfl) trivial ?_
        refine bindE h1 ?_; clear h1; intro r862 hr863 h1
        have hx864 := ltx hx846 hg853.size
        have hk865 := ho843.grown hg853 hx846 nb
        refine gv_call (f := 22) (vs := [(.agg #[(.bool r833.1), (.slice a841 (List.length r833.2) c842)]), (.agg #[(.bool r849.1), (.slice a855 (List.length r849.2) c856)])]) (cap := []) _ (by decide) rfl rfl rfl (by kernel_rfl) (by kernel_rfl) enters22 (ref3_Int_Order_ok fuel a841 c842 (r833.1, r833.2) a855 c856 (r849.1, r849.2) w852 (fun k => X844 k ∨ X858 k) (fun k hk => (hk).elim (fun h => hx864 k h) (fun h => hx860 k h)) (hk865.wide (fun k hk => (.inl hk))) (ho857.wide (fun k hk => (.inr hk))) r862 hr863) ?_
        rintro v868 w866 ⟨hg867, rfl⟩
        refine ⟨(fun _ => trivial), ?_⟩
        refine gv_nil <| gv_goA ?_
        refine gv_pre [17, 18, 19] (bA 28 [0, 1, 2, 3, 4, 5, 6, 7, 8, 9, 10, 11, 12, 13, 14, 15, 16, 17, 18, 19]) 8 (by kernel_rfl) (by kernel_rfl) ?_
        refine gv_pureN 3 [111, 112, 113] [(113, (.bool (decide (r862 < 0))))] (by kernel_rfl) ?_
        refine gv_nil <| gv_goA ?_
        refine gv_stage (Cls w866 []) [0, 1, 2, 3, 4, 5, 6, 7, 8, 9, 10, 11, 12, 13, 14, 15, 16, 17, 18, 19, 20, 21, 22] [(20, some true), (22, some true), (21, some false)] (bA 28 [0, 1, 2, 3, 4, 5, 6, 7, 8, 9, 10, 11, 12, 13, 14, 15, 16, 17, 18, 19, 20, 21, 22]) 5 (by kernel_rfl) (by kernel_rfl) (Cls.refl _ _) ?_
        have hC869 := Cls.refl w866 []
        refine gv_split (s := 113) (g := (decide (r862 < 0))) (by kernel_rfl) (fun hc870 => ?_) (fun hc870 => ?_)
        ·skip
         replace h1 := ite_t hc870 h1
         refine gv_pureNC hC869 3 [114, 115, 116] [(115, undef), (116, undef)] (by kernel_rfl) ?_
         refine gv_nil <| gv_goA ?_
         refine gv_stage (fun _ => True) [0, 1, 2, 3, 4, 5, 6, 7, 8, 9, 10, 11, 12, 13, 14, 15, 16, 17, 18, 19, 20, 21, 22, 23] [(23, some false)] (bA 28 [0, 1, 2, 3, 4, 5, 6, 7, 8, 9, 10, 11, 12, 13, 14, 15, 16, 17, 18, 19, 20, 21, 22, 23]) 4 (by kernel_rfl) (by kernel_rfl) trivial ?_
         refine gv_pureNC trivial 1 [117] [(117, undef)] (by kernel_rfl) ?_
         refine gv_sub [4, 5, 97, 113, 115, 117] (σ' := [(4, (.slice pa4_0 (List.length weights_4) pc4_0)), (5, (bp b1)), (97, (.bool true)), (113, (.bool true)), (115, undef), (117, undef)]) (by kernel_rfl) ?_
         refine gv_nil <| gv_goA ?_
         refine gv_stage (fun _ => True) [0, 1, 2, 3, 4, 5, 6, 7, 8, 9, 10, 11, 12, 13, 14, 15, 16, 17, 18, 19, 20, 21, 22, 23, 24] [(24, some false)] (bA 28 [0, 1, 2, 3, 4, 5, 6, 7, 8, 9, 10, 11, 12, 13, 14, 15, 16, 17, 18, 19, 20, 21, 22, 23, 24]) 3 (by kernel_rfl) (by kernel_rfl) trivial ?_
         refine gv_pureNC trivial 1 [118] [(118, undef)] (by kernel_rfl) ?_
         refine gv_nil <| gv_goA ?_
         refine gv_pre [25, 26, 27] (bA 28 [0, 1, 2, 3, 4, 5, 6, 7, 8, 9, 10, 11, 12, 13, 14, 15, 16, 17, 18, 19, 20, 21, 22, 23, 24, 25, 26, 27]) 0 (by kernel_rfl) (by kernel_rfl) ?_
         refine gv_pureN 3 [119, 120, 121] [(121, (.bool true))] (by kernel_rfl) ?_
         refine gv_nil <| gv_goA ?_
         refine gv_stageE (by kernel_rfl) ?_
         have e := sj h1; subst e
         refine gv_goal fun a hd hs hok => ?_
         have hg871 := (grown_trans hg853 hg867)
         have hB872 := bg hB851 hg871 nb
         have hz873 := (nt (nt (nt (nt (nt hg734.size hg754.size) hg821.size) hg839.size) hg853.size) hg867.size)
         have hg874 := (grown_trans (grown_trans hg830 hg839) hg871)
         have hk875 := hk796.grown hg874 nb
         exact ⟨hB872, hz873, hk875, hd, hs, ok_pick [4, 5, 121] hok (by kernel_rfl)⟩
        ·skip
         replace h1 := ite_f hc870 h1
         have hg876 := (grown_trans (grown_trans hg839 hg853) hg867)
         have hk877 := hk831.grown hg876 nb
         refine gv_loadBox (t := 24) (b := b694) (t' := 24) (fr := (0, 0)) #[(.bool r682.1.1), (.slice a687 (List.length r682.1.2) c688)] [] (fun e => by cases e) rfl rfl rfl (by kernel_rfl) (by kernel_rfl) (by kernel_rfl) (by kernel_rfl) (inw1 fun w' hC' => (hC'.box hk877 nm_nil)) rfl ?_
         have hg878 := (grown_trans hg830 hg876)
         have hk879 := hk750.grown hg878 nb
         refine gv_loadBox (t := 24) (b := b13) (t' := 24) (fr := (0, 0)) #[(.bool high_3.1), (.slice pa3_0 (List.length high_3.2) pc3_0)] [] (fun e => by cases e) rfl rfl rfl (by kernel_rfl) (by kernel_rfl) (by kernel_rfl) (by kernel_rfl) (inw1 fun w' hC' => (hC'.box hk879 nm_nil)) rfl ?_
         refine gv_sub [4, 5, 97, 113, 114, 116] (σ' := [(4, (.slice pa4_0 (List.length weights_4) pc4_0)), (5, (bp b1)), (97, (.bool true)), (113, (.bool false)), (114, (.agg #[(.bool r682.1.1), (.slice a687 (List.length r682.1.2) c688)])), (116, (.agg #[(.bool high_3.1), (.slice pa3_0 (List.length high_3.2) pc3_0)]))]) (by kernel_rfl) ?_
         refine bindE h1 ?_; clear h1; intro r880 hr881 h1
         have hx882 := ltx hx835 hg876.size
         have hk883 := hk837.grown hg876 hx835 nb
         refine gv_call (f := 20) (vs := [(.agg #[(.bool r682.1.1), (.slice a687 (List.length r682.1.2) c688)])]) (cap := []) _ (by decide) rfl rfl rfl (by kernel_rfl) (by kernel_rfl) enters20 (ref3_IntOf_ok fuel a687 c688 (r682.1.1, r682.1.2) w866 (fun k => X690 k) (fun k hk => hx882 k hk) (hk883.wide (fun k hk => hk)) r880 hr881) ?_
         rintro v886 w884 ⟨hg885, a887, c888, X890, rfl, ho889, hx891⟩
         refine ⟨(fun _ => hC869.grown hg885 nb), ?_⟩
         have hx892 : ∀ k, X890 k → k < w884.heap.size := fun k hk => (hx891 k hk).1
         have hg894 := (grown_trans hg853 hg867)
         have hB895 := bg hB851 hg894 nb
         have hx893 : ∀ k, X890 k → X0 k ∨ w0.heap.size ≤ k := fun k hk => (hx891 k hk).2.elim (fun h => hx693 k h) (fun h => .inr (Nat.le_trans hB895.size h))
         refine gv_nil <| gv_goA ?_
         refine gv_stage (fun _ => True) [0, 1, 2, 3, 4, 5, 6, 7, 8, 9, 10, 11, 12, 13, 14, 15, 16, 17, 18, 19, 20, 21, 22, 23] [(23, some false)] (bA 28 [0, 1, 2, 3, 4, 5, 6, 7, 8, 9, 10, 11, 12, 13, 14, 15, 16, 17, 18, 19, 20, 21, 22, 23]) 4 (by kernel_rfl) (by kernel_rfl) trivial ?_
         refine bindE h1 ?_; clear h1; intro r896 hr897 h1
         have hB898 := bg hB895 hg885 nb
         refine gv_call (f := 20) (vs := [(.agg #[(.bool high_3.1), (.slice pa3_0 (List.length high_3.2) pc3_0)])]) (cap := []) _ (by decide) rfl rfl rfl (by kernel_rfl) (by kernel_rfl) enters20 (ref3_IntOf_ok fuel pa3_0 pc3_0 (high_3.1, high_3.2) w884 (fun k => X0 k) (fun k hk => (fun k (hk : X0 k) => ltl (hX0 k hk) hB898.size) k hk) ((hpa3_0.below hB898 hX0).wide (fun k hk => hk)) r896 hr897) ?_
         rintro v901 w899 ⟨hg900, a902, c903, X905, rfl, ho904, hx906⟩
         refine ⟨(fun _ => trivial), ?_⟩
         have hx907 : ∀ k, X905 k → k < w899.heap.size := fun k hk => (hx906 k hk).1
         have hx908 : ∀ k, X905 k → X0 k ∨ w0.heap.size ≤ k := fun k hk => (hx906 k hk).2.elim (fun h => (fun k (hk : X0 k) => Or.inl hk) k h) (fun h => .inr (Nat.le_trans hB898.size h))
         refine gv_nil <| gv_goA ?_
         refine gv_stage (fun _ => True) [0, 1, 2, 3, 4, 5, 6, 7, 8, 9, 10, 11, 12, 13, 14, 15, 16, 17, 18, 19, 20, 21, 22, 23, 24] [(24, some false)] (bA 28 [0, 1, 2, 3, 4, 5, 6, 7, 8, 9, 10, 11, 12, 13, 14, 15, 16, 17, 18, 19, 20, 21, 22, 23, 24]) 3 (by kernel_rfl) (by kernel_rfl) trivial ?_
         refine bindE h1 ?_; clear h1; intro r909 hr910 h1
         have hx911 := ltx hx892 hg900.size
         have hk912 := ho889.grown hg900 hx892 nb
         refine gv_call (f := 22) (vs := [(.agg #[(.bool r880.1), (.slice a887 (List.length r880.2) c888)]), (.agg #[(.bool r896.1), (.slice a902 (List.length r896.2) c903)])]) (cap := []) _ (by decide) rfl rfl rfl (by kernel_rfl) (by kernel_rfl) enters22 (ref3_Int_Order_ok fuel a887 c888 (r880.1, r880.2) a902 c903 (r896.1, r896.2) w899 (fun k => X890 k ∨ X905 k) (fun k hk => (hk).elim (fun h => hx911 k h) (fun h => hx907 k h)) (hk912.wide (fun k hk => (.inl hk))) (ho904.wide (fun k hk => (.inr hk))) r909 hr910) ?_
         rintro v915 w913 ⟨hg914, rfl⟩
         refine ⟨(fun _ => trivial), ?_⟩
         refine gv_nil <| gv_goA ?_
         refine gv_pre [25, 26, 27] (bA 28 [0, 1, 2, 3, 4, 5, 6, 7, 8, 9, 10, 11, 12, 13, 14, 15, 16, 17, 18, 19, 20, 21, 22, 23, 24, 25, 26, 27]) 0 (by kernel_rfl) (by kernel_rfl) ?_
         refine gv_pureN 3 [119, 120, 121] [(121, (.bool (decide (r909 > 0))))] (by kernel_rfl) ?_
         refine gv_nil <| gv_goA ?_
         refine gv_stageE (by kernel_rfl) ?_
         have e := sj h1; subst e
         refine gv_goal fun a hd hs hok => ?_
         have hg916 := (grown_trans hg900 hg914)
         have hB917 := bg hB898 hg916 nb
         have hz918 := (nt (nt (nt (nt (nt (nt (nt (nt hg734.size hg754.size) hg821.size) hg839.size) hg853.size) hg867.size) hg885.size) hg900.size) hg914.size)
         have hg919 := (grown_trans (grown_trans hg878 hg885) hg916)
         have hk920 := hk796.grown hg919 nb
         exact ⟨hB917, hz918, hk920, hd, hs, ok_pick [4, 5, 121] hok (by kernel_rfl)⟩
      ·skip
       replace h1 := ite_f hc738 h1
       refine gv_pureN 3 [98, 99, 100] [(98, undef), (99, undef), (100, undef)] (by kernel_rfl) ?_
       refine gv_nil <| gv_goA ?_
       refine gv_stage (fun _ => True) [0, 1, 2, 3, 4, 5, 6, 7] [(7, some false)] (bA 28 [0, 1, 2, 3, 4, 5, 6, 7]) 20 (by kernel_rfl) (by kernel_rfl) trivial ?_
       refine gv_pureNC trivial 1 [101] [(101, undef)] (by kernel_rfl) ?_
       refine gv_nil <| gv_goA ?_
       refine gv_stage (fun _ => True) [0, 1, 2, 3, 4, 5, 6, 7, 8] [(8, some false)] (bA 28 [0, 1, 2, 3, 4, 5, 6, 7, 8]) 19 (by kernel_rfl) (by kernel_rfl) trivial ?_
       refine gv_pureNC trivial 1 [102] [(102, undef)] (by kernel_rfl) ?_
       refine gv_nil <| gv_goA ?_
       refine gv_pre [9, 10, 11] (bA 28 [0, 1, 2, 3, 4, 5, 6, 7, 8, 9, 10, 11]) 16 (by kernel_rfl) (by kernel_rfl) ?_
       refine gv_pureN 3 [103, 104, 105] [(105, undef)] (by kernel_rfl) ?_
       refine gv_nil <| gv_goA ?_
       refine gv_stage (Cls w733 []) [0, 1, 2, 3, 4, 5, 6, 7, 8, 9, 10, 11, 12, 13, 14] [(12, some true), (14, some true), (13, some false)] (bA 28 [0, 1, 2, 3, 4, 5, 6, 7, 8, 9, 10, 11, 12, 13, 14]) 13 (by kernel_rfl) (by kernel_rfl) (Cls.refl _ _) ?_
       have hC921 := Cls.refl w733 []
       refine gv_pureNC hC921 3 [106, 107, 108] [(107, undef), (108, undef)] (by kernel_rfl) ?_
       refine gv_nil <| gv_goA ?_
       refine gv_stage (fun _ => True) [0, 1, 2, 3, 4, 5, 6, 7, 8, 9, 10, 11, 12, 13, 14, 15] [(15, some false)] (bA 28 [0, 1, 2, 3, 4, 5, 6, 7, 8, 9, 10, 11, 12, 13, 14, 15]) 12 (by kernel_rfl) (by kernel_rfl) trivial ?_
       refine gv_pureNC trivial 1 [109] [(109, undef)] (by kernel_rfl) ?_
       refine gv_nil <| gv_goA ?_
       refine gv_stage (fun _ => True) [0, 1, 2, 3, 4, 5, 6, 7, 8, 9, 10, 11, 12, 13, 14, 15, 16] [(16, some false)] (bA 28 [0, 1, 2, 3, 4, 5, 6, 7, 8, 9, 10, 11, 12, 13, 14, 15, 16]) 11 (by kernel_rfl) (by kernel_rfl) trivial ?_
       refine gv_pureNC trivial 1 [110] [(110, undef)] (by kernel_rfl) ?_
       refine gv_nil <| gv_goA ?_
       refine gv_pre [17, 18, 19] (bA 28 [0, 1, 2, 3, 4, 5, 6, 7, 8, 9, 10, 11, 12, 13, 14, 15, 16, 17, 18, 19]) 8 (by kernel_rfl) (by kernel_rfl) ?_
       refine gv_pureN 3 [111, 112, 113] [(113, undef)] (by kernel_rfl) ?_
       refine gv_nil <| gv_goA ?_
       refine gv_stage (Cls w733 []) [0, 1, 2, 3, 4, 5, 6, 7, 8, 9, 10, 11, 12, 13, 14, 15, 16, 17, 18, 19, 20, 21, 22] [(20, some true), (22, some true), (21, some false)] (bA 28 [0, 1, 2, 3, 4, 5, 6, 7, 8, 9, 10, 11, 12, 13, 14, 15, 16, 17, 18, 19, 20, 21, 22]) 5 (by kernel_rfl) (by kernel_rfl) (Cls.refl _ _) ?_
       have hC922 := Cls.refl w733 []
       refine gv_pureNC hC922 3 [114, 115, 116] [(115, undef), (116, undef)] (by kernel_rfl) ?_
       refine gv_nil <| gv_goA ?_
       refine gv_stage (fun _ => True) [0, 1, 2, 3, 4, 5, 6, 7, 8, 9, 10, 11, 12, 13, 14, 15, 16, 17, 18, 19, 20, 21, 22, 23] [(23, some false)] (bA 28 [0, 1, 2, 3, 4, 5, 6, 7, 8, 9, 10, 11, 12, 13, 14, 15, 16, 17, 18, 19, 20, 21, 22, 23]) 4 (by kernel_rfl) (by kernel_rfl) trivial ?_
       refine gv_pureNC trivial 1 [117] [(117, undef)] (by kernel_rfl) ?_
       refine gv_nil <| gv_goA ?_
       refine gv_stage (fun _ => True) [0, 1, 2, 3, 4, 5, 6, 7, 8, 9, 10, 11, 12, 13, 14, 15, 16, 17, 18, 19, 20, 21, 22, 23, 24] [(24, some false)] (bA 28 [0, 1, 2, 3, 4, 5, 6, 7, 8, 9, 10, 11, 12, 13, 14, 15, 16, 17, 18, 19, 20, 21, 22, 23, 24]) 3 (by kernel_rfl) (by kernel_rfl) trivial ?_
       refine gv_pureNC trivial 1 [118] [(118, undef)] (by kernel_rfl) ?_
       refine gv_nil <| gv_goA ?_
       refine gv_pre [25, 26, 27] (bA 28 [0, 1, 2, 3, 4, 5, 6, 7, 8, 9, 10, 11, 12, 13, 14, 15, 16, 17, 18, 19, 20, 21, 22, 23, 24, 25, 26, 27]) 0 (by kernel_rfl) (by kernel_rfl) ?_
       refine gv_pureN 3 [119, 120, 121] [(121, (.bool false))] (by kernel_rfl) ?_
       refine gv_nil <| gv_goA ?_
       refine gv_stageE (by kernel_rfl) ?_
       have e := sj h1; subst e
       refine gv_goal fun a hd hs hok => ?_
       have hg923 := (grown_trans (grown_trans hg685 hg696) hg716)
       have hB924 := bg hB677 hg923 nb
       have hB925 := bg hB677 hg685 nb
       have hlo926 : w0.heap.size ≤ b694 := lob hbe698 hB925.size
       have hB927 := bg hB924 hg713 (rowlo hlo926)
       have hB928 := bg hB925 hg696 nb
       have hlo929 : w0.heap.size ≤ b700 := lob hbe704 hB928.size
       have hB930 := bg hB927 hg719 (rowlo hlo929)
       have hB931 := bg hB928 hg702 nb
       have hlo932 : w0.heap.size ≤ b706 := lob hbe710 hB931.size
       have hB933 := bg hB930 hg725 (rowlo hlo932)
       have hB934 := bg hB933 hg734 nb
       have hz935 := hg734.size
       have lt936 := ltl ((ltb hb4) _ rfl) ((lowb hbe11) _ rfl)
       have lt937 := ltl ((ltb hb10) _ rfl) ((lowb hbe17) _ rfl)
       have lt938 := ltt lt936 lt937
       have hk939 := hb681.grown hg685 nb
       have lt940 := ltl ((ltb hk939) _ rfl) ((lowb hbe698) _ rfl)
       have lt941 := ltt lt938 lt940
       have lt942 := ltt lt941 lt722
       have lt943 := ltt lt942 lt728
       have hk944 := ((((hb679.grown hg923 nb).grown hg713 (rowne (ng lt941))).grown hg719 (rowne (ng lt942))).grown hg725 (rowne (ng lt943))).grown hg734 nb
       exact ⟨hB934, hz935, hk944, hd, hs, ok_pick [4, 5, 121] hok (by kernel_rfl)⟩
     ·rintro a w732 ⟨hB945, hz946, hb947, hd, hs, hok⟩
      refine gv_in ?_ hd hs hok
      clear hd hs hok
      clear hz946 hz727 hb726 hg725 hk730 lt729 lt728 hz721 hb720 hg719 hk723 lt722 hz715 hb714 hg713 hk717 hg716 hz711 hbe710 hb709 hg708 hz705 hbe704 hb703 hg702 hz699 hbe698 hb697 hg696 hx693 hx692 hx691 ho689 hg685 hr683 hb681 hb680 hb679 hB677 hbe17 hbe11 hb10 hg9 hb4 hg3
      refine gv_cond (b := j731) (by kernel_rfl) (fun hc948 => ?_) (fun hc948 => ?_)
      ·replace h0 := ite_t hc948 h0
       refine gv_seq <| gv_region <| gv_pureN 1 [10] [(10, (.bool false))] (by kernel_rfl) ?_
       refine gv_nil <| gv_cret ?_
       have e := sj h0; subst e
       refine gv_ret (gv_done [(.bool false)] rfl ⟨(by kernel_rfl), trivial⟩ ?_)
       exact ⟨grown_of_below hB945, rfl⟩
      ·replace h0 := ite_f hc948 h0
       refine gv_skip <| gv_seq <| gv_region <| gv_loadBox (t := 27) (b := b1) (t' := 27) (fr := (0, 0)) #[(.int .u64 g_0.1), (.int .u64 g_0.2)] [] (fun e => by cases e) rfl rfl rfl (by kernel_rfl) (by kernel_rfl) (by kernel_rfl) (by kernel_rfl) (inw0 hb947) rfl ?_
       refine gv_pureN 1 [124] [(124, (.slice pa4_0 (List.length weights_4) pc4_0))] (by kernel_rfl) ?_
       refine bindE h0 ?_; clear h0; intro r949 hr950 h0
       refine gv_call0 (by kernel_rfl) rfl (by kernel_rfl) enters31 (random_Choose_ok fuel (g_0.1, g_0.2) pa4_0 pc4_0 weights_4 w732 (fun k => X0 k) (fun k hk => (fun k (hk : X0 k) => ltl (hX0 k hk) hB945.size) k hk) ((hpa4_0.below hB945 hX0).wide (fun k hk => hk)) r949 hr950) ?_
       rintro v953 w951 ⟨hg952, rfl⟩
       clear hr950 hc948 hb947 hbe5
       refine gv_pureN 4 [122, 126, 127, 128] [(126, (.int .i64 r949.1)), (127, (.agg #[(.int .u64 r949.2.1.1), (.int .u64 r949.2.1.2)])), (128, (.agg #[(.int .i64 r949.2.2.1), (.int .i64 r949.2.2.2)]))] (by kernel_rfl) ?_
       refine gv_new0 (fun b => .pointer (some ⟨b, 0, none⟩)) #[(.int .u64 0), (.int .u64 0)] 27 (by kernel_rfl) (by kernel_rfl) ?_
       intro b954 w955 hg956 hb957 hbe958 hz959
       refine gv_new0 (fun b => .pointer (some ⟨b, 0, none⟩)) #[(.int .i64 0), (.int .i64 0)] 29 (by kernel_rfl) (by kernel_rfl) ?_
       intro b960 w961 hg962 hb963 hbe964 hz965
       refine gv_pureN 1 [20] [(20, (.int .i64 r949.1))] (by kernel_rfl) ?_
       have hk970 := hb957.grown hg962 nb
       refine gv_store0 27 0 (.agg #[(.int .u64 r949.2.1.1), (.int .u64 r949.2.1.2)]) #[(.int .u64 r949.2.1.1), (.int .u64 r949.2.1.2)] hk970 (by kernel_rfl) (by kernel_rfl) (by kernel_rfl) ?_
       intro w966 hg967 hb968 hz969
       have lt975 := ltl ((ltb hb957) _ rfl) ((lowb hbe964) _ rfl)
       have hk976 := hb963.grown hg967 (rowne (Nat.ne_of_lt lt975))
       refine gv_store0 29 0 (.agg #[(.int .i64 r949.2.2.1), (.int .i64 r949.2.2.2)]) #[(.int .i64 r949.2.2.1), (.int .i64 r949.2.2.2)] hk976 (by kernel_rfl) (by kernel_rfl) (by kernel_rfl) ?_
       intro w971 hg972 hb973 hz974
       refine gv_nil <| gv_seq <| gv_region <| bindE h0 ?_; clear h0; intro j977 h1 h0
       refine gv_cut_ops (J := fun a w978 => Below w0.heap.size w0 w978 ∧ w971.heap.size ≤ w978.heap.size ∧ a.defers = [] ∧ a.tmps.size = 158 ∧ Ok [(10, (.bool j977))] a.tmps) ?_ ?_
       ·skip
        refine gv_pureN 1 [129] [(129, (bp b960))] (by kernel_rfl) ?_
        refine gv_load (t := 3) (A := ⟨b960, 0, none⟩) (.int .i64 r949.2.2.1) [] (fun e => by cases e) rfl rfl rfl (by kernel_rfl) (by kernel_rfl) (by kernel_rfl) (inw0 (hb973.cell 0 rfl)) rfl ?_
        refine gv_pureN 2 [131, 132] [(132, (.bool (r949.2.2.1 != 0)))] (by kernel_rfl) ?_
        refine gv_split (s := 132) (g := (r949.2.2.1 != 0)) (by kernel_rfl) (fun hc979 => ?_) (fun hc979 => ?_)
        ·skip
         replace h1 := ite_t hc979 h1
         refine gv_pureN 4 [133, 134, 135, 136] [(136, (.bool (r949.1 == 0)))] (by kernel_rfl) ?_
         refine gv_split (s := 136) (g := (r949.1 == 0)) (by kernel_rfl) (fun hc980 => ?_) (fun hc980 => ?_)
         ·skip
          replace h1 := ite_t hc980 h1
          refine gv_pureN 22 [10, 137, 138, 139, 140, 141, 142, 143, 144, 145, 146, 147, 148, 149, 150, 151, 152, 153, 154, 155, 156, 157] [(10, (.bool true))] (by kernel_rfl) ?_
          refine gv_sub [10] (σ' := [(10, (.bool true))]) (by kernel_rfl) ?_
          refine gv_nil ?_
          have e := sj h1; subst e
          refine gv_goal fun a hd hs hok => ?_
          have hg981 := (grown_trans (grown_trans hg952 hg956) hg962)
          have hB982 := bg hB945 hg981 nb
          have hB983 := bg hB945 hg952 nb
          have hlo984 : w0.heap.size ≤ b954 := lob hbe958 hB983.size
          have hB985 := bg hB982 hg967 (rowlo hlo984)
          have hB986 := bg hB983 hg956 nb
          have hlo987 : w0.heap.size ≤ b960 := lob hbe964 hB986.size
          have hB988 := bg hB985 hg972 (rowlo hlo987)
          exact ⟨hB988, (Nat.le_refl _), hd, hs, ok_pick [10] hok (by kernel_rfl)⟩
         ·skip
          replace h1 := ite_f hc980 h1
          refine gv_pureN 1 [137] [(137, (bp b960))] (by kernel_rfl) ?_
          refine gv_sub [4, 20, 136, 137] (σ' := [(4, (.slice pa4_0 (List.length weights_4) pc4_0)), (20, (.int .i64 r949.1)), (136, (.bool false)), (137, (bp b960))]) (by kernel_rfl) ?_
          refine gv_load (t := 3) (A := ⟨b960, 0, none⟩) (.int .i64 r949.2.2.1) [] (fun e => by cases e) rfl rfl rfl (by kernel_rfl) (by kernel_rfl) (by kernel_rfl) (inw0 (hb973.cell 0 rfl)) rfl ?_
          refine gv_pureN 2 [139, 140] [(140, (.bool (r949.2.2.1 == 0)))] (by kernel_rfl) ?_
          refine gv_split (s := 140) (g := (r949.2.2.1 == 0)) (by kernel_rfl) (fun hc989 => ?_) (fun hc989 => ?_)
          ·skip
           replace h1 := ite_t hc989 h1
           refine gv_pureN 4 [141, 142, 143, 144] [(144, (.bool (decide (r949.1 ≥ 0))))] (by kernel_rfl) ?_
           refine gv_split (s := 144) (g := (decide (r949.1 ≥ 0))) (by kernel_rfl) (fun hc990 => ?_) (fun hc990 => ?_)
           ·skip
            replace h1 := ite_t hc990 h1
            refine gv_pureN 6 [145, 146, 147, 148, 149, 150] [(150, (.bool (decide (r949.1 < ((List.length weights_4 : Nat) : Int)))))] (by kernel_rfl) ?_
            refine gv_split (s := 150) (g := (decide (r949.1 < ((List.length weights_4 : Nat) : Int)))) (by kernel_rfl) (fun hc991 => ?_) (fun hc991 => ?_)
            ·skip
             replace h1 := ite_t hc991 h1
             refine gv_pureN 2 [151, 152] [(151, (.slice pa4_0 (List.length weights_4) pc4_0)), (152, (.int .i64 r949.1))] (by kernel_rfl) ?_
             refine bindE h1 ?_; clear h1; intro x992 hx993 h1
             have hg994 := (grown_trans (grown_trans hg952 hg956) hg962)
             have hB995 := bg hB945 hg994 nb
             have hB996 := bg hB945 hg952 nb
             have hlo997 : w0.heap.size ≤ b954 := lob hbe958 hB996.size
             have hB998 := bg hB995 hg967 (rowlo hlo997)
             have hB999 := bg hB996 hg956 nb
             have hlo1000 : w0.heap.size ≤ b960 := lob hbe964 hB999.size
             have hB1001 := bg hB998 hg972 (rowlo hlo1000)
             refine gv_idxaddr (t := 46) (e := 3) (a := pa4_0) (len := List.length weights_4) (cap := pc4_0) (kk := .i64) (i := r949.1) (sz := 1) [] (fun e => by cases e) rfl rfl rfl (by kernel_rfl) (by kernel_rfl) Try.underlying46 (by kernel_rfl) ((hpa4_0.below hB1001 hX0).has hx993) (idx_spec hx993).1 (idx_spec hx993).2.1 rfl ?_
             refine gv_load (t := 3) (A := (elemAddr pa4_0 ((r949.1).toNat * 1))) (.int .i64 x992) [] (fun e => by cases e) rfl rfl rfl (by kernel_rfl) (by kernel_rfl) (by kernel_rfl) (inw0 ((hpa4_0.below hB1001 hX0).cell hx993)) rfl ?_
             refine gv_pureN 4 [10, 155, 156, 157] [(10, (.bool (decide (x992 > 0))))] (by kernel_rfl) ?_
             refine gv_nil ?_
             have e := sj h1; subst e
             refine gv_goal fun a hd hs hok => ?_
             exact ⟨hB1001, (Nat.le_refl _), hd, hs, ok_pick [10] hok (by kernel_rfl)⟩
            ·skip
             replace h1 := ite_f hc991 h1
             refine gv_pureN 8 [10, 151, 152, 153, 154, 155, 156, 157] [(10, (.bool false))] (by kernel_rfl) ?_
             refine gv_nil ?_
             have e := sj h1; subst e
             refine gv_goal fun a hd hs hok => ?_
             have hg1002 := (grown_trans (grown_trans hg952 hg956) hg962)
             have hB1003 := bg hB945 hg1002 nb
             have hB1004 := bg hB945 hg952 nb
             have hlo1005 : w0.heap.size ≤ b954 := lob hbe958 hB1004.size
             have hB1006 := bg hB1003 hg967 (rowlo hlo1005)
             have hB1007 := bg hB1004 hg956 nb
             have hlo1008 : w0.heap.size ≤ b960 := lob hbe964 hB1007.size
             have hB1009 := bg hB1006 hg972 (rowlo hlo1008)
             exact ⟨hB1009, (Nat.le_refl _), hd, hs, ok_pick [10] hok (by kernel_rfl)⟩
           ·skip
            replace h1 := ite_f hc990 h1
            refine gv_pureN 14 [10, 145, 146, 147, 148, 149, 150, 151, 152, 153, 154, 155, 156, 157] [(10, (.bool false))] (by kernel_rfl) ?_
            refine gv_nil ?_
            have e := sj h1; subst e
            refine gv_goal fun a hd hs hok => ?_
            have hg1010 := (grown_trans (grown_trans hg952 hg956) hg962)
            have hB1011 := bg hB945 hg1010 nb
            have hB1012 := bg hB945 hg952 nb
            have hlo1013 : w0.heap.size ≤ b954 := lob hbe958 hB1012.size
            have hB1014 := bg hB1011 hg967 (rowlo hlo1013)
            have hB1015 := bg hB1012 hg956 nb
            have hlo1016 : w0.heap.size ≤ b960 := lob hbe964 hB1015.size
            have hB1017 := bg hB1014 hg972 (rowlo hlo1016)
            exact ⟨hB1017, (Nat.le_refl _), hd, hs, ok_pick [10] hok (by kernel_rfl)⟩
          ·skip
           replace h1 := ite_f hc989 h1
           refine gv_pureN 18 [10, 141, 142, 143, 144, 145, 146, 147, 148, 149, 150, 151, 152, 153, 154, 155, 156, 157] [(10, (.bool false))] (by kernel_rfl) ?_
           refine gv_nil ?_
           have e := sj h1; subst e
           refine gv_goal fun a hd hs hok => ?_
           have hg1018 := (grown_trans (grown_trans hg952 hg956) hg962)
           have hB1019 := bg hB945 hg1018 nb
           have hB1020 := bg hB945 hg952 nb
           have hlo1021 : w0.heap.size ≤ b954 := lob hbe958 hB1020.size
           have hB1022 := bg hB1019 hg967 (rowlo hlo1021)
           have hB1023 := bg hB1020 hg956 nb
           have hlo1024 : w0.heap.size ≤ b960 := lob hbe964 hB1023.size
           have hB1025 := bg hB1022 hg972 (rowlo hlo1024)
           exact ⟨hB1025, (Nat.le_refl _), hd, hs, ok_pick [10] hok (by kernel_rfl)⟩
        ·skip
         replace h1 := ite_f hc979 h1
         refine gv_pureN 5 [133, 134, 135, 136, 137] [(136, (.bool false)), (137, (bp b960))] (by kernel_rfl) ?_
         refine gv_load (t := 3) (A := ⟨b960, 0, none⟩) (.int .i64 r949.2.2.1) [] (fun e => by cases e) rfl rfl rfl (by kernel_rfl) (by kernel_rfl) (by kernel_rfl) (inw0 (hb973.cell 0 rfl)) rfl ?_
         refine gv_pureN 2 [139, 140] [(140, (.bool (r949.2.2.1 == 0)))] (by kernel_rfl) ?_
         refine gv_sub [4, 20, 136, 140] (σ' := [(4, (.slice pa4_0 (List.length weights_4) pc4_0)), (20, (.int .i64 r949.1)), (136, (.bool false)), (140, (.bool (r949.2.2.1 == 0)))]) (by kernel_rfl) ?_
         refine gv_split (s := 140) (g := (r949.2.2.1 == 0)) (by kernel_rfl) (fun hc1026 => ?_) (fun hc1026 => ?_)
         ·skip
          replace h1 := ite_t hc1026 h1
          refine gv_pureN 4 [141, 142, 143, 144] [(144, (.bool (decide (r949.1 ≥ 0))))] (by kernel_rfl) ?_
          refine gv_split (s := 144) (g := (decide (r949.1 ≥ 0))) (by kernel_rfl) (fun hc1027 => ?_) (fun hc1027 => ?_)
          ·skip
           replace h1 := ite_t hc1027 h1
           refine gv_pureN 6 [145, 146, 147, 148, 149, 150] [(150, (.bool (decide (r949.1 < ((List.length weights_4 : Nat) : Int)))))] (by kernel_rfl) ?_
           refine gv_split (s := 150) (g := (decide (r949.1 < ((List.length weights_4 : Nat) : Int)))) (by kernel_rfl) (fun hc1028 => ?_) (fun hc1028 => ?_)
           ·skip
            replace h1 := ite_t hc1028 h1
            refine gv_pureN 2 [151, 152] [(151, (.slice pa4_0 (List.length weights_4) pc4_0)), (152, (.int .i64 r949.1))] (by kernel_rfl) ?_
            refine bindE h1 ?_; clear h1; intro x1029 hx1030 h1
            have hg1031 := (grown_trans (grown_trans hg952 hg956) hg962)
            have hB1032 := bg hB945 hg1031 nb
            have hB1033 := bg hB945 hg952 nb
            have hlo1034 : w0.heap.size ≤ b954 := lob hbe958 hB1033.size
            have hB1035 := bg hB1032 hg967 (rowlo hlo1034)
            have hB1036 := bg hB1033 hg956 nb
            have hlo1037 : w0.heap.size ≤ b960 := lob hbe964 hB1036.size
            have hB1038 := bg hB1035 hg972 (rowlo hlo1037)
            refine gv_idxaddr (t := 46) (e := 3) (a := pa4_0) (len := List.length weights_4) (cap := pc4_0) (kk := .i64) (i := r949.1) (sz := 1) [] (fun e => by cases e) rfl rfl rfl (by kernel_rfl) (by kernel_rfl) Try.underlying46 (by kernel_rfl) ((hpa4_0.below hB1038 hX0).has hx1030) (idx_spec hx1030).1 (idx_spec hx1030).2.1 rfl ?_
            refine gv_load (t := 3) (A := (elemAddr pa4_0 ((r949.1).toNat * 1))) (.int .i64 x1029) [] (fun e => by cases e) rfl rfl rfl (by kernel_rfl) (by kernel_rfl) (by kernel_rfl) (inw0 ((hpa4_0.below hB1038 hX0).cell hx1030)) rfl ?_
            refine gv_pureN 4 [10, 155, 156, 157] [(10, (.bool (decide (x1029 > 0))))] (by kernel_rfl) ?_
            refine gv_nil ?_
            have e := sj h1; subst e
            refine gv_goal fun a hd hs hok => ?_
            exact ⟨hB1038, (Nat.le_refl _), hd, hs, ok_pick [10] hok (by kernel_rfl)⟩
           ·skip
            replace h1 := ite_f hc1028 h1
            refine gv_pureN 8 [10, 151, 152, 153, 154, 155, 156, 157] [(10, (.bool false))] (by kernel_rfl) ?_
            refine gv_nil ?_
            have e := sj h1; subst e
            refine gv_goal fun a hd hs hok => ?_
            have hg1039 := (grown_trans (grown_trans hg952 hg956) hg962)
            have hB1040 := bg hB945 hg1039 nb
            have hB1041 := bg hB945 hg952 nb
            have hlo1042 : w0.heap.size ≤ b954 := lob hbe958 hB1041.size
            have hB1043 := bg hB1040 hg967 (rowlo hlo1042)
            have hB1044 := bg hB1041 hg956 nb
            have hlo1045 : w0.heap.size ≤ b960 := lob hbe964 hB1044.size
            have hB1046 := bg hB1043 hg972 (rowlo hlo1045)
            exact ⟨hB1046, (Nat.le_refl _), hd, hs, ok_pick [10] hok (by kernel_rfl)⟩
          ·skip
           replace h1 := ite_f hc1027 h1
           refine gv_pureN 14 [10, 145, 146, 147, 148, 149, 150, 151, 152, 153, 154, 155, 156, 157] [(10, (.bool false))] (by kernel_rfl) ?_
           refine gv_nil ?_
           have e := sj h1; subst e
           refine gv_goal fun a hd hs hok => ?_
           have hg1047 := (grown_trans (grown_trans hg952 hg956) hg962)
           have hB1048 := bg hB945 hg1047 nb
           have hB1049 := bg hB945 hg952 nb
           have hlo1050 : w0.heap.size ≤ b954 := lob hbe958 hB1049.size
           have hB1051 := bg hB1048 hg967 (rowlo hlo1050)
           have hB1052 := bg hB1049 hg956 nb
           have hlo1053 : w0.heap.size ≤ b960 := lob hbe964 hB1052.size
           have hB1054 := bg hB1051 hg972 (rowlo hlo1053)
           exact ⟨hB1054, (Nat.le_refl _), hd, hs, ok_pick [10] hok (by kernel_rfl)⟩
         ·skip
          replace h1 := ite_f hc1026 h1
          refine gv_pureN 18 [10, 141, 142, 143, 144, 145, 146, 147, 148, 149, 150, 151, 152, 153, 154, 155, 156, 157] [(10, (.bool false))] (by kernel_rfl) ?_
          refine gv_nil ?_
          have e := sj h1; subst e
          refine gv_goal fun a hd hs hok => ?_
          have hg1055 := (grown_trans (grown_trans hg952 hg956) hg962)
          have hB1056 := bg hB945 hg1055 nb
          have hB1057 := bg hB945 hg952 nb
          have hlo1058 : w0.heap.size ≤ b954 := lob hbe958 hB1057.size
          have hB1059 := bg hB1056 hg967 (rowlo hlo1058)
          have hB1060 := bg hB1057 hg956 nb
          have hlo1061 : w0.heap.size ≤ b960 := lob hbe964 hB1060.size
          have hB1062 := bg hB1059 hg972 (rowlo hlo1061)
          exact ⟨hB1062, (Nat.le_refl _), hd, hs, ok_pick [10] hok (by kernel_rfl)⟩
       ·rintro a w978 ⟨hB1063, hz1064, hd, hs, hok⟩
        refine gv_in ?_ hd hs hok
        clear hd hs hok
        clear hz1064 hz974 hb973 hg972 hk976 lt975 hz969 hb968 hg967 hk970 hz965 hbe964 hb963 hg962 hz959 hbe958 hb957 hg956 hg952 hB945
        refine gv_cret ?_
        have e := sj h0; subst e
        refine gv_ret (gv_done [(.bool j977)] rfl ⟨(by kernel_rfl), trivial⟩ ?_)
        exact ⟨grown_of_below hB1063, rfl⟩

end Go.Proofs.Ytenjigdaaeiklaa
