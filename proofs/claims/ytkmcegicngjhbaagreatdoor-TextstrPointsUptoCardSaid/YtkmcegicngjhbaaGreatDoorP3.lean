import Derived.Test.YtkmcegicngjhbaaGreatDoorP2
set_option linter.all false
set_option maxHeartbeats 4000000
set_option maxRecDepth 100000
/- Own work, printed by a program of mine: the walk of each function: a call returns what the plain function says. -/
namespace Go.Proofs.YtkmcegicngjhbaaGreatDoor
open Go.Gv Go.Gv.D Go.RowKit
theorem ref3_endAt_ok (fuel : Nat) (pa0_0 : Option Addr) (pc0_0 : Nat) (a_0 : (Bool × (List Int))) (n_1 : Int) (low_2 : Int) (high_3 : Int) (w0 : World) (X0 : Nat → Prop) (hX0 : ∀ k, X0 k → k < w0.heap.size) (hpa0_0 : Rd (iE .u32) w0 X0 pa0_0 pc0_0 a_0.2) (r0 : Int) (h0 : ref3_endAt fuel a_0 n_1 low_2 high_3 = some r0) :
    Calls Tryz.prog 38 ([(.agg #[(.bool a_0.1), (.slice pa0_0 (List.length a_0.2) pc0_0)]), (.int .i64 n_1), (.int .i64 low_2), (.int .i64 high_3)] : List Value).toArray w0 (Ret fun v w' => w0.grownBy w' none ∧ v = tup [(.int .i64 r0)]) := by
 have hB0 : Below w0.heap.size w0 w0 := Below.refl _ _
 unfold ref3_endAt at h0
 refine calls_run Tryz.func38 rfl Tryz.ntmps38 (by kernel_rfl) ?_
 refine gv_sub [0, 1, 2, 3] (σ' := [(0, (.agg #[(.bool a_0.1), (.slice pa0_0 (List.length a_0.2) pc0_0)])), (1, (.int .i64 n_1)), (2, (.int .i64 low_2)), (3, (.int .i64 high_3))]) (by kernel_rfl) ?_
 refine gv_seq <| gv_region <| gv_new0 (fun b => .pointer (some ⟨b, 0, none⟩)) #[(.bool a_0.1), (.slice pa0_0 (List.length a_0.2) pc0_0)] 25 (by kernel_rfl) (by kernel_rfl) ?_
 intro b1 w2 hg3 hb4 hbe5 hz6
 refine gv_pureN 1 [8] [] (by kernel_rfl) ?_
 refine gv_nil <| gv_seq <| gv_region <| gv_loadBox (t := 25) (b := b1) (t' := 25) (fr := (0, 0)) #[(.bool a_0.1), (.slice pa0_0 (List.length a_0.2) pc0_0)] [] (fun e => by cases e) rfl rfl rfl (by kernel_rfl) (by kernel_rfl) (by kernel_rfl) (by kernel_rfl) (inw0 hb4) rfl ?_
 refine bindE h0 ?_; clear h0; intro r7 hr8 h0
 have hB9 := bg hB0 hg3 nb
 refine gv_call0 (by kernel_rfl) rfl (by kernel_rfl) enters37 (ref3_IntOf_ok fuel pa0_0 pc0_0 (a_0.1, a_0.2) w2 (fun k => X0 k) (fun k hk => (fun k (hk : X0 k) => ltl (hX0 k hk) hB9.size) k hk) ((hpa0_0.below hB9 hX0).wide (fun k hk => hk)) r7 hr8) ?_
 rintro v12 w10 ⟨hg11, a13, c14, X16, rfl, ho15, hx17⟩
 have hx18 : ∀ k, X16 k → k < w10.heap.size := fun k hk => (hx17 k hk).1
 have hx19 : ∀ k, X16 k → X0 k ∨ w0.heap.size ≤ k := fun k hk => (hx17 k hk).2.elim (fun h => (fun k (hk : X0 k) => Or.inl hk) k h) (fun h => .inr (Nat.le_trans hB9.size h))
 refine gv_new0 (fun b => .pointer (some ⟨b, 0, none⟩)) #[(.bool false), (.slice none (List.length ([] : List Int)) 0)] 73 (by kernel_rfl) (by kernel_rfl) ?_
 intro b20 w21 hg22 hb23 hbe24 hz25
 refine gv_store0 73 0 (.agg #[(.bool r7.1), (.slice a13 (List.length r7.2) c14)]) #[(.bool r7.1), (.slice a13 (List.length r7.2) c14)] hb23 (by kernel_rfl) (by kernel_rfl) (by kernel_rfl) ?_
 intro w26 hg27 hb28 hz29
 refine gv_nil <| gv_seq <| gv_seq <| gv_region <| gv_pureN 1 [12] [(12, (bp b20))] (by kernel_rfl) ?_
 refine gv_load (t := 4) (A := ⟨b20, 0, none⟩) (.bool r7.1) [] (fun e => by cases e) rfl rfl rfl (by kernel_rfl) (by kernel_rfl) (by kernel_rfl) (inw0 (hb28.cell 0 rfl)) rfl ?_
 refine gv_nil <| bindE h0 ?_; clear h0; intro j30 h1 h0
 refine gv_cut_code (J := fun a w31 => ∃ (abb20_0j : Option Addr) (cbb20_0j : Nat), ∃ (Xbb20_0j : Nat → Prop), Below w0.heap.size w0 w31 ∧ w26.heap.size ≤ w31.heap.size ∧ Rd (iE .i64) w31 Xbb20_0j abb20_0j cbb20_0j j30.2 ∧ (∀ k, Xbb20_0j k → k < w31.heap.size) ∧ (∀ k, Xbb20_0j k → X0 k ∨ w0.heap.size ≤ k) ∧ ¬ Xbb20_0j b20 ∧ Box w31 b20 73 #[(.bool j30.1), (.slice abb20_0j (List.length j30.2) cbb20_0j)] ∧ a.defers = [] ∧ a.tmps.size = 22 ∧ Ok [(2, (.int .i64 low_2)), (3, (.int .i64 high_3)), (9, (bp b20))] a.tmps) ?_ ?_
 ·skip
  refine gv_cond (b := r7.1) (by kernel_rfl) (fun hc32 => ?_) (fun hc32 => ?_)
  ·replace h1 := ite_t hc32 h1
   refine gv_drawA (by kernel_rfl) ?_
   intro w33 hg34
   refine gv_pre [1] (bA 5 [1]) 4 (by kernel_rfl) (by kernel_rfl) ?_
   refine gv_pureN 1 [15] [(15, (.int .i64 n_1))] (by kernel_rfl) ?_
   refine gv_nil <| gv_goA ?_
   refine gv_stage (Cls w33 []) [0, 1, 2] [(0, some true), (2, some false)] (bA 5 [0, 1, 2]) 2 (by kernel_rfl) (by kernel_rfl) (Cls.refl _ _) ?_
   have hC35 := Cls.refl w33 []
   have hk36 := hb28.grown hg34 nb
   refine gv_loadBox (t := 73) (b := b20) (t' := 73) (fr := (0, 0)) #[(.bool r7.1), (.slice a13 (List.length r7.2) c14)] [] (fun e => by cases e) rfl rfl rfl (by kernel_rfl) (by kernel_rfl) (by kernel_rfl) (by kernel_rfl) (inw1 fun w' hC' => (hC'.box hk36 nm_nil)) rfl ?_
   refine bindE h1 ?_; clear h1; intro r37 hr38 h1
   refine gv_call (f := 56) (vs := [(.int .i64 n_1)]) (cap := []) _ (by decide) rfl rfl rfl (by kernel_rfl) (by kernel_rfl) enters56 (ref3_Number_ok fuel n_1 w33  r37 hr38) ?_
   rintro v41 w39 ⟨hg40, a42, c43, X45, rfl, ho44, hx46⟩
   refine ⟨(fun _ => hC35.grown hg40 nb), ?_⟩
   have hx47 : ∀ k, X45 k → k < w39.heap.size := fun k hk => (hx46 k hk).1
   have hg49 := (grown_trans hg11 hg22)
   have hB50 := bg hB9 hg49 nb
   have hB51 := bg hB9 hg11 nb
   have hlo52 : w0.heap.size ≤ b20 := lob hbe24 hB51.size
   have hB53 := bg hB50 hg27 (rowlo hlo52)
   have hB54 := bg hB53 hg34 nb
   have hx48 : ∀ k, X45 k → X0 k ∨ w0.heap.size ≤ k := fun k hk => (hx46 k hk).2.elim (fun h => h.elim) (fun h => .inr (Nat.le_trans hB54.size h))
   refine gv_nil <| gv_goA ?_
   refine gv_stage (fun _ => True) [0, 1, 2, 3] [(3, some false)] (bA 5 [0, 1, 2, 3]) 1 (by kernel_rfl) (by kernel_rfl) trivial ?_
   refine bindE h1 ?_; clear h1; intro r55 hr56 h1
   have hg57 := (grown_trans hg34 hg40)
   have hx58 := ltx (ltx (ltx hx18 hg22.size) hg27.size) hg57.size
   have ap59 : ¬ X16 b20 := fun hx => nl ((lowb hbe24) _ rfl) (hx18 _ hx)
   have hx60 := ltx hx18 hg22.size
   have hx61 := ltx hx60 hg27.size
   have hk62 := ((ho15.grown hg22 hx18 nb).grown hg27 hx60 (rowne ap59)).grown hg57 hx61 nb
   refine gv_call (f := 58) (vs := [(.agg #[(.bool r7.1), (.slice a13 (List.length r7.2) c14)]), (.agg #[(.bool r37.1), (.slice a42 (List.length r37.2) c43)])]) (cap := []) _ (by decide) rfl rfl rfl (by kernel_rfl) (by kernel_rfl) enters58 (ref3_Int_Plus_ok fuel a13 c14 (r7.1, r7.2) a42 c43 (r37.1, r37.2) w39 (fun k => X16 k ∨ X45 k) (fun k hk => (hk).elim (fun h => hx58 k h) (fun h => hx47 k h)) (hk62.wide (fun k hk => (.inl hk))) (ho44.wide (fun k hk => (.inr hk))) r55 hr56) ?_
   rintro v65 w63 ⟨hg64, a66, c67, X69, rfl, ho68, hx70⟩
   refine ⟨(fun _ => trivial), ?_⟩
   have hx71 : ∀ k, X69 k → k < w63.heap.size := fun k hk => (hx70 k hk).1
   have hB73 := bg hB54 hg40 nb
   have hx72 : ∀ k, X69 k → X0 k ∨ w0.heap.size ≤ k := fun k hk => (hx70 k hk).2.elim (fun h => (h).elim (fun h => hx19 k h) (fun h => hx48 k h)) (fun h => .inr (Nat.le_trans hB73.size h))
   refine gv_nil <| gv_goA ?_
   refine gv_stage (fun _ => True) [0, 1, 2, 3, 4] [(4, some false)] (bA 5 [0, 1, 2, 3, 4]) 0 (by kernel_rfl) (by kernel_rfl) trivial ?_
   have hg78 := (grown_trans hg40 hg64)
   have hk79 := hk36.grown hg78 nb
   refine gv_store (t := 73) (b := b20) (off := 0) (v := (.agg #[(.bool r55.1), (.slice a66 (List.length r55.2) c67)])) (t' := 73) (cs := #[(.bool r7.1), (.slice a13 (List.length r7.2) c14)]) #[(.bool r55.1), (.slice a66 (List.length r55.2) c67)] (by decide) rfl rfl (by kernel_rfl) (by kernel_rfl) (by kernel_rfl) (by intro u hu; simp [Value.cells] at hu; rcases hu with rfl | rfl <;> rfl) (show 0 + 2 ≤ 2 by decide) (by rfl) hk79 ?_
   intro w74 hg75 hb76 hz77
   refine ⟨(fun _ => trivial), ?_⟩
   have hz80 := (nt (nt hg34.size hg40.size) hg64.size)
   clear hz77 hg78 hx61 hx60 hg57 hr56 hB54 hB53 hB51 hB50 hg49 hr38 hC35 hc32 hz29 hb28 hz25 hb23 hx18 hx17 ho15 hB9 hr8 hz6 hg3
   refine gv_nil <| gv_goA ?_
   refine gv_stageE (by kernel_rfl) ?_
   have e := sj h1; subst e
   refine gv_goal fun a hd hs hok => ?_
   have hB81 := bg hB73 hg64 nb
   have hB82 := bg hB81 hg75 (rowlo hlo52)
   have hz83 := (nt hz80 hg75.size)
   have ap84 : ¬ X45 b20 := fun h => ((hx46 _ h).2.elim (fun h => h.elim) (fun h => nl h (hk36.lt)))
   have hk85 := hk36.grown hg40 nb
   have ap86 : ¬ X69 b20 := fun h => ((hx70 _ h).2.elim (fun h => (h).elim (fun h => (ap59)  h) (fun h => (ap84)  h)) (fun h => nl h (hk85.lt)))
   have hk87 := ho68.grown hg75 hx71 (rowne ap86)
   have hx88 := ltx hx71 hg75.size
   exact ⟨a66, c67, X69, hB82, hz83, hk87, hx88, hx72, ap86, hb76, hd, hs, ok_pick [2, 3, 9] hok (by kernel_rfl)⟩
  ·replace h1 := ite_f hc32 h1
   refine gv_skip ?_
   have e := sj h1; subst e
   refine gv_goal fun a hd hs hok => ?_
   have hg89 := (grown_trans hg11 hg22)
   have hB90 := bg hB9 hg89 nb
   have hB91 := bg hB9 hg11 nb
   have hlo92 : w0.heap.size ≤ b20 := lob hbe24 hB91.size
   have hB93 := bg hB90 hg27 (rowlo hlo92)
   have ap94 : ¬ X16 b20 := fun hx => nl ((lowb hbe24) _ rfl) (hx18 _ hx)
   have hx95 := ltx hx18 hg22.size
   have hk96 := (ho15.grown hg22 hx18 nb).grown hg27 hx95 (rowne ap94)
   have hx97 := ltx hx95 hg27.size
   exact ⟨a13, c14, X16, hB93, (Nat.le_refl _), hk96, hx97, hx19, ap94, hb28, hd, hs, ok_pick [2, 3, 9] hok (by kernel_rfl)⟩
 ·rintro a w31 ⟨a100, c101, X100, hB98, hz99, hr102, hx103, hx104, ap105, hb106, hd, hs, hok⟩
  refine gv_in ?_ hd hs hok
  clear hd hs hok
  clear hz99 hz29 hb28 hg27 hz25 hb23 hg22 hx19 hx18 hx17 ho15 hr8 hz6 hbe5 hb4 hg3
  refine gv_seq <| gv_region <| gv_loadBox (t := 73) (b := b20) (t' := 73) (fr := (0, 0)) #[(.bool j30.1), (.slice a100 (List.length j30.2) c101)] [] (fun e => by cases e) rfl rfl rfl (by kernel_rfl) (by kernel_rfl) (by kernel_rfl) (by kernel_rfl) (inw0 hb106) rfl ?_
  refine gv_pureN 2 [19, 20] [(19, (.int .i64 low_2)), (20, (.int .i64 high_3))] (by kernel_rfl) ?_
  refine bindE h0 ?_; clear h0; intro r107 hr108 h0
  refine gv_call0 (by kernel_rfl) rfl (by kernel_rfl) enters36 (ref3_near_ok fuel a100 c101 (j30.1, j30.2) low_2 high_3 w31 (fun k => X100 k) (fun k hk => hx103 k hk) (hr102.wide (fun k hk => hk)) r107 hr108) ?_
  rintro v111 w109 ⟨hg110, rfl⟩
  refine gv_pureN 1 [8] [(8, (.int .i64 r107))] (by kernel_rfl) ?_
  refine gv_nil <| gv_cret ?_
  have e := sj h0; subst e
  refine gv_ret (gv_done [(.int .i64 r107)] rfl ⟨(by kernel_rfl), trivial⟩ ?_)
  have hB112 := bg hB98 hg110 nb
  exact ⟨grown_of_below hB112, rfl⟩

theorem ref3_Places_ok (fuel : Nat) (pa0_0 : Option Addr) (pc0_0 : Nat) (pa0_1 : Option Addr) (pc0_1 : Nat) (pa0_2 : Option Addr) (pc0_2 : Nat) (s_0 : ((Bool × (List Int)) × (Bool × (List Int)) × (Bool × (List Int)) × Bool × Bool × Bool)) (n_1 : Int) (w0 : World) (X0 : Nat → Prop) (hX0 : ∀ k, X0 k → k < w0.heap.size) (hpa0_0 : Rd (iE .u32) w0 X0 pa0_0 pc0_0 s_0.1.2) (hpa0_1 : Rd (iE .u32) w0 X0 pa0_1 pc0_1 s_0.2.1.2) (hpa0_2 : Rd (iE .u32) w0 X0 pa0_2 pc0_2 s_0.2.2.1.2) (r0 : (Int × Int × (List Int))) (h0 : ref3_Places fuel s_0 n_1 = some r0) :
    Calls Tryz.prog 20 ([(.agg #[(.bool s_0.1.1), (.slice pa0_0 (List.length s_0.1.2) pc0_0), (.bool s_0.2.1.1), (.slice pa0_1 (List.length s_0.2.1.2) pc0_1), (.bool s_0.2.2.1.1), (.slice pa0_2 (List.length s_0.2.2.1.2) pc0_2), (.bool s_0.2.2.2.1), (.bool s_0.2.2.2.2.1), (.bool s_0.2.2.2.2.2)]), (.int .i64 n_1)] : List Value).toArray w0 (Ret fun v w' => w0.grownBy w' none ∧ ∃ (a2_0r : Option Addr) (c2_0r : Nat), v = tup [(.int .i64 r0.1), (.int .i64 r0.2.1), (.slice a2_0r (List.length r0.2.2) c2_0r)] ∧ Gv.Own (iE .i64) 3 w' (fun _ => False) a2_0r c2_0r r0.2.2 ∧ (∀ g, blk a2_0r = some g → w0.heap.size ≤ g)) := by
 have hB0 : Below w0.heap.size w0 w0 := Below.refl _ _
 unfold ref3_Places at h0
 refine calls_run Tryz.func20 rfl Tryz.ntmps20 (by kernel_rfl) ?_
 refine gv_sub [0, 1] (σ' := [(0, (.agg #[(.bool s_0.1.1), (.slice pa0_0 (List.length s_0.1.2) pc0_0), (.bool s_0.2.1.1), (.slice pa0_1 (List.length s_0.2.1.2) pc0_1), (.bool s_0.2.2.1.1), (.slice pa0_2 (List.length s_0.2.2.1.2) pc0_2), (.bool s_0.2.2.2.1), (.bool s_0.2.2.2.2.1), (.bool s_0.2.2.2.2.2)])), (1, (.int .i64 n_1))]) (by kernel_rfl) ?_
 refine gv_seq <| gv_region <| gv_new0 (fun b => .pointer (some ⟨b, 0, none⟩)) #[(.bool s_0.1.1), (.slice pa0_0 (List.length s_0.1.2) pc0_0), (.bool s_0.2.1.1), (.slice pa0_1 (List.length s_0.2.1.2) pc0_1), (.bool s_0.2.2.1.1), (.slice pa0_2 (List.length s_0.2.2.1.2) pc0_2), (.bool s_0.2.2.2.1), (.bool s_0.2.2.2.2.1), (.bool s_0.2.2.2.2.2)] 27 (by kernel_rfl) (by kernel_rfl) ?_
 intro b1 w2 hg3 hb4 hbe5 hz6
 refine gv_pureN 3 [4, 5, 6] [(6, (.slice none (List.length ([] : List Int)) 0))] (by kernel_rfl) ?_
 refine gv_nil <| gv_seq <| gv_region <| gv_pureN 1 [5] [(5, (.int .i64 1))] (by kernel_rfl) ?_
 refine gv_nil <| gv_seq <| gv_seq <| gv_region <| gv_pureN 1 [11] [(11, (.pointer (some ⟨b1, 8, none⟩)))] (by kernel_rfl) ?_
 refine gv_load (t := 4) (A := ⟨b1, 8, none⟩) (.bool s_0.2.2.2.2.2) [] (fun e => by cases e) rfl rfl rfl (by kernel_rfl) (by kernel_rfl) (by kernel_rfl) (inw0 (hb4.cell 8 rfl)) rfl ?_
 refine gv_nil <| bindE h0 ?_; clear h0; intro j7 h1 h0
 refine gv_cut_code (J := fun a w8 => Below w0.heap.size w0 w8 ∧ w2.heap.size ≤ w8.heap.size ∧ Box w8 b1 27 #[(.bool s_0.1.1), (.slice pa0_0 (List.length s_0.1.2) pc0_0), (.bool s_0.2.1.1), (.slice pa0_1 (List.length s_0.2.1.2) pc0_1), (.bool s_0.2.2.1.1), (.slice pa0_2 (List.length s_0.2.2.1.2) pc0_2), (.bool s_0.2.2.2.1), (.bool s_0.2.2.2.2.1), (.bool s_0.2.2.2.2.2)] ∧ a.defers = [] ∧ a.tmps.size = 71 ∧ Ok [(1, (.int .i64 n_1)), (2, (bp b1)), (5, (.int .i64 j7)), (6, (.slice none (List.length ([] : List Int)) 0))] a.tmps) ?_ ?_
 ·skip
  refine gv_cond (b := s_0.2.2.2.2.2) (by kernel_rfl) (fun hc9 => ?_) (fun hc9 => ?_)
  ·replace h1 := ite_t hc9 h1
   refine gv_region <| gv_pureN 1 [13] [(13, (.pointer (some ⟨b1, 4, none⟩)))] (by kernel_rfl) ?_
   refine gv_loadAgg (t := 25) (A := ⟨b1, 4, none⟩) #[(.bool s_0.2.2.1.1), (.slice pa0_2 (List.length s_0.2.2.1.2) pc0_2)] [] (fun e => by cases e) rfl rfl rfl (by kernel_rfl) (by kernel_rfl) (by kernel_rfl) (by kernel_rfl) (inw0 (Box.part hb4 4 _ rfl)) rfl ?_
   refine bindE h1 ?_; clear h1; intro r10 hr11 h1
   have hB12 := bg hB0 hg3 nb
   refine gv_call0 (by kernel_rfl) rfl (by kernel_rfl) enters37 (ref3_IntOf_ok fuel pa0_2 pc0_2 (s_0.2.2.1.1, s_0.2.2.1.2) w2 (fun k => X0 k) (fun k hk => (fun k (hk : X0 k) => ltl (hX0 k hk) hB12.size) k hk) ((hpa0_2.below hB12 hX0).wide (fun k hk => hk)) r10 hr11) ?_
   rintro v15 w13 ⟨hg14, a16, c17, X19, rfl, ho18, hx20⟩
   have hx21 : ∀ k, X19 k → k < w13.heap.size := fun k hk => (hx20 k hk).1
   have hx22 : ∀ k, X19 k → X0 k ∨ w0.heap.size ≤ k := fun k hk => (hx20 k hk).2.elim (fun h => (fun k (hk : X0 k) => Or.inl hk) k h) (fun h => .inr (Nat.le_trans hB12.size h))
   refine bindE h1 ?_; clear h1; intro r23 hr24 h1
   refine gv_call0 (by kernel_rfl) rfl (by kernel_rfl) enters36 (ref3_near_ok fuel a16 c17 (r10.1, r10.2) (-10000) 10000 w13 (fun k => X19 k) (fun k hk => hx21 k hk) (ho18.wide (fun k hk => hk)) r23 hr24) ?_
   rintro v27 w25 ⟨hg26, rfl⟩
   refine gv_pureN 1 [5] [(5, (.int .i64 r23))] (by kernel_rfl) ?_
   refine gv_nil ?_
   have e := sj h1; subst e
   refine gv_goal fun a hd hs hok => ?_
   have hg28 := (grown_trans hg14 hg26)
   have hB29 := bg hB12 hg28 nb
   have hz30 := (nt hg14.size hg26.size)
   have hk31 := hb4.grown hg28 nb
   exact ⟨hB29, hz30, hk31, hd, hs, ok_pick [1, 2, 5, 6] hok (by kernel_rfl)⟩
  ·replace h1 := ite_f hc9 h1
   refine gv_skip ?_
   have e := sj h1; subst e
   refine gv_goal fun a hd hs hok => ?_
   have hB32 := bg hB0 hg3 nb
   exact ⟨hB32, (Nat.le_refl _), hb4, hd, hs, ok_pick [1, 2, 5, 6] hok (by kernel_rfl)⟩
 ·rintro a w8 ⟨hB33, hz34, hb35, hd, hs, hok⟩
  refine gv_in ?_ hd hs hok
  clear hd hs hok
  clear hz34 hz6 hb4 hg3
  refine gv_seq <| gv_region <| gv_pureN 3 [7, 8, 17] [(7, (.int .i64 0)), (8, (.int .i64 n_1))] (by kernel_rfl) ?_
  refine gv_nil <| gv_seq <| gv_seq <| gv_region <| gv_pureN 2 [18, 19] [(19, (.bool (decide (j7 < 0))))] (by kernel_rfl) ?_
  refine gv_nil <| bindE h0 ?_; clear h0; intro j36 h1 h0
  refine gv_cut_code (J := fun a w37 => Below w0.heap.size w0 w37 ∧ w8.heap.size ≤ w37.heap.size ∧ Box w37 b1 27 #[(.bool s_0.1.1), (.slice pa0_0 (List.length s_0.1.2) pc0_0), (.bool s_0.2.1.1), (.slice pa0_1 (List.length s_0.2.1.2) pc0_1), (.bool s_0.2.2.1.1), (.slice pa0_2 (List.length s_0.2.2.1.2) pc0_2), (.bool s_0.2.2.2.1), (.bool s_0.2.2.2.2.1), (.bool s_0.2.2.2.2.2)] ∧ a.defers = [] ∧ a.tmps.size = 71 ∧ Ok [(1, (.int .i64 n_1)), (2, (bp b1)), (5, (.int .i64 j7)), (6, (.slice none (List.length ([] : List Int)) 0)), (7, (.int .i64 j36.1)), (8, (.int .i64 j36.2))] a.tmps) ?_ ?_
  ·skip
   refine gv_cond (b := (decide (j7 < 0))) (by kernel_rfl) (fun hc38 => ?_) (fun hc38 => ?_)
   ·replace h1 := ite_t hc38 h1
    refine gv_region <| gv_pureN 4 [7, 8, 20, 21] [(7, (.int .i64 (-1))), (8, (.int .i64 (IntKind.i64.wrap (n_1 - 1))))] (by kernel_rfl) ?_
    refine gv_nil ?_
    have e := sj h1; subst e
    refine gv_goal fun a hd hs hok => ?_
    exact ⟨hB33, (Nat.le_refl _), hb35, hd, hs, ok_pick [1, 2, 5, 6, 7, 8] hok (by kernel_rfl)⟩
   ·replace h1 := ite_f hc38 h1
    refine gv_skip ?_
    have e := sj h1; subst e
    refine gv_goal fun a hd hs hok => ?_
    exact ⟨hB33, (Nat.le_refl _), hb35, hd, hs, ok_pick [1, 2, 5, 6, 7, 8] hok (by kernel_rfl)⟩
  ·rintro a w37 ⟨hB39, hz40, hb41, hd, hs, hok⟩
   refine gv_in ?_ hd hs hok
   clear hd hs hok
   refine gv_seq <| gv_region <| gv_pureN 4 [4, 9, 22, 23] [(4, (.int .i64 j36.1)), (9, (.int .i64 j36.2))] (by kernel_rfl) ?_
   refine gv_nil <| gv_seq <| gv_seq <| gv_region <| gv_pureN 2 [24, 25] [(25, (.bool (decide (j7 < 0))))] (by kernel_rfl) ?_
   refine gv_nil <| bindE h0 ?_; clear h0; intro j42 h1 h0
   refine gv_cut_code (J := fun a w43 => Below w0.heap.size w0 w43 ∧ w37.heap.size ≤ w43.heap.size ∧ Box w43 b1 27 #[(.bool s_0.1.1), (.slice pa0_0 (List.length s_0.1.2) pc0_0), (.bool s_0.2.1.1), (.slice pa0_1 (List.length s_0.2.1.2) pc0_1), (.bool s_0.2.2.1.1), (.slice pa0_2 (List.length s_0.2.2.1.2) pc0_2), (.bool s_0.2.2.2.1), (.bool s_0.2.2.2.2.1), (.bool s_0.2.2.2.2.2)] ∧ a.defers = [] ∧ a.tmps.size = 71 ∧ Ok [(1, (.int .i64 n_1)), (2, (bp b1)), (4, (.int .i64 j42.1)), (5, (.int .i64 j7)), (6, (.slice none (List.length ([] : List Int)) 0)), (7, (.int .i64 j36.1)), (8, (.int .i64 j36.2)), (9, (.int .i64 j42.2))] a.tmps) ?_ ?_
   ·skip
    refine gv_cond (b := (decide (j7 < 0))) (by kernel_rfl) (fun hc44 => ?_) (fun hc44 => ?_)
    ·replace h1 := ite_t hc44 h1
     refine gv_region <| gv_pureN 4 [4, 9, 26, 27] [(4, (.int .i64 j36.2)), (9, (.int .i64 j36.1))] (by kernel_rfl) ?_
     refine gv_nil ?_
     have e := sj h1; subst e
     refine gv_goal fun a hd hs hok => ?_
     exact ⟨hB39, (Nat.le_refl _), hb41, hd, hs, ok_pick [1, 2, 4, 5, 6, 7, 8, 9] hok (by kernel_rfl)⟩
    ·replace h1 := ite_f hc44 h1
     refine gv_skip ?_
     have e := sj h1; subst e
     refine gv_goal fun a hd hs hok => ?_
     exact ⟨hB39, (Nat.le_refl _), hb41, hd, hs, ok_pick [1, 2, 4, 5, 6, 7, 8, 9] hok (by kernel_rfl)⟩
   ·rintro a w43 ⟨hB45, hz46, hb47, hd, hs, hok⟩
    refine gv_in ?_ hd hs hok
    clear hd hs hok
    clear hz46 hb41 hz40 hB39 hb35 hB33
    refine gv_seq <| gv_seq <| gv_region <| gv_pureN 1 [28] [(28, (.pointer (some ⟨b1, 6, none⟩)))] (by kernel_rfl) ?_
    refine gv_load (t := 4) (A := ⟨b1, 6, none⟩) (.bool s_0.2.2.2.1) [] (fun e => by cases e) rfl rfl rfl (by kernel_rfl) (by kernel_rfl) (by kernel_rfl) (inw0 (hb47.cell 6 rfl)) rfl ?_
    refine gv_nil <| bindE h0 ?_; clear h0; intro j48 h1 h0
    refine gv_cut_code (J := fun a w49 => Below w0.heap.size w0 w49 ∧ w43.heap.size ≤ w49.heap.size ∧ Box w49 b1 27 #[(.bool s_0.1.1), (.slice pa0_0 (List.length s_0.1.2) pc0_0), (.bool s_0.2.1.1), (.slice pa0_1 (List.length s_0.2.1.2) pc0_1), (.bool s_0.2.2.1.1), (.slice pa0_2 (List.length s_0.2.2.1.2) pc0_2), (.bool s_0.2.2.2.1), (.bool s_0.2.2.2.2.1), (.bool s_0.2.2.2.2.2)] ∧ a.defers = [] ∧ a.tmps.size = 71 ∧ Ok [(1, (.int .i64 n_1)), (2, (bp b1)), (4, (.int .i64 j48)), (5, (.int .i64 j7)), (6, (.slice none (List.length ([] : List Int)) 0)), (7, (.int .i64 j36.1)), (8, (.int .i64 j36.2)), (9, (.int .i64 j42.2))] a.tmps) ?_ ?_
    ·skip
     refine gv_cond (b := s_0.2.2.2.1) (by kernel_rfl) (fun hc50 => ?_) (fun hc50 => ?_)
     ·replace h1 := ite_t hc50 h1
      refine gv_region <| gv_pureN 1 [30] [(30, (bp b1))] (by kernel_rfl) ?_
      refine gv_loadAgg (t := 25) (A := ⟨b1, 0, none⟩) #[(.bool s_0.1.1), (.slice pa0_0 (List.length s_0.1.2) pc0_0)] [] (fun e => by cases e) rfl rfl rfl (by kernel_rfl) (by kernel_rfl) (by kernel_rfl) (by kernel_rfl) (inw0 (Box.part hb47 0 _ rfl)) rfl ?_
      refine gv_pureN 3 [32, 33, 34] [(32, (.int .i64 n_1)), (33, (.int .i64 j36.1)), (34, (.int .i64 j36.2))] (by kernel_rfl) ?_
      refine bindE h1 ?_; clear h1; intro r51 hr52 h1
      refine gv_call0 (by kernel_rfl) rfl (by kernel_rfl) enters38 (ref3_endAt_ok fuel pa0_0 pc0_0 (s_0.1.1, s_0.1.2) n_1 j36.1 j36.2 w43 (fun k => X0 k) (fun k hk => (fun k (hk : X0 k) => ltl (hX0 k hk) hB45.size) k hk) ((hpa0_0.below hB45 hX0).wide (fun k hk => hk)) r51 hr52) ?_
      rintro v55 w53 ⟨hg54, rfl⟩
      refine gv_pureN 1 [4] [(4, (.int .i64 r51))] (by kernel_rfl) ?_
      refine gv_nil ?_
      have e := sj h1; subst e
      refine gv_goal fun a hd hs hok => ?_
      have hB56 := bg hB45 hg54 nb
      have hz57 := hg54.size
      have hk58 := hb47.grown hg54 nb
      exact ⟨hB56, hz57, hk58, hd, hs, ok_pick [1, 2, 4, 5, 6, 7, 8, 9] hok (by kernel_rfl)⟩
     ·replace h1 := ite_f hc50 h1
      refine gv_skip ?_
      have e := sj h1; subst e
      refine gv_goal fun a hd hs hok => ?_
      exact ⟨hB45, (Nat.le_refl _), hb47, hd, hs, ok_pick [1, 2, 4, 5, 6, 7, 8, 9] hok (by kernel_rfl)⟩
    ·rintro a w49 ⟨hB59, hz60, hb61, hd, hs, hok⟩
     refine gv_in ?_ hd hs hok
     clear hd hs hok
     refine gv_seq <| gv_seq <| gv_region <| gv_pureN 1 [36] [(36, (.pointer (some ⟨b1, 7, none⟩)))] (by kernel_rfl) ?_
     refine gv_load (t := 4) (A := ⟨b1, 7, none⟩) (.bool s_0.2.2.2.2.1) [] (fun e => by cases e) rfl rfl rfl (by kernel_rfl) (by kernel_rfl) (by kernel_rfl) (inw0 (hb61.cell 7 rfl)) rfl ?_
     refine gv_nil <| bindE h0 ?_; clear h0; intro j62 h1 h0
     refine gv_cut_code (J := fun a w63 => Below w0.heap.size w0 w63 ∧ w49.heap.size ≤ w63.heap.size ∧ a.defers = [] ∧ a.tmps.size = 71 ∧ Ok [(4, (.int .i64 j48)), (5, (.int .i64 j7)), (6, (.slice none (List.length ([] : List Int)) 0)), (9, (.int .i64 j62))] a.tmps) ?_ ?_
     ·skip
      refine gv_cond (b := s_0.2.2.2.2.1) (by kernel_rfl) (fun hc64 => ?_) (fun hc64 => ?_)
      ·replace h1 := ite_t hc64 h1
       refine gv_region <| gv_pureN 1 [38] [(38, (.pointer (some ⟨b1, 2, none⟩)))] (by kernel_rfl) ?_
       refine gv_loadAgg (t := 25) (A := ⟨b1, 2, none⟩) #[(.bool s_0.2.1.1), (.slice pa0_1 (List.length s_0.2.1.2) pc0_1)] [] (fun e => by cases e) rfl rfl rfl (by kernel_rfl) (by kernel_rfl) (by kernel_rfl) (by kernel_rfl) (inw0 (Box.part hb61 2 _ rfl)) rfl ?_
       refine gv_pureN 3 [40, 41, 42] [(40, (.int .i64 n_1)), (41, (.int .i64 j36.1)), (42, (.int .i64 j36.2))] (by kernel_rfl) ?_
       refine bindE h1 ?_; clear h1; intro r65 hr66 h1
       refine gv_call0 (by kernel_rfl) rfl (by kernel_rfl) enters38 (ref3_endAt_ok fuel pa0_1 pc0_1 (s_0.2.1.1, s_0.2.1.2) n_1 j36.1 j36.2 w49 (fun k => X0 k) (fun k hk => (fun k (hk : X0 k) => ltl (hX0 k hk) hB59.size) k hk) ((hpa0_1.below hB59 hX0).wide (fun k hk => hk)) r65 hr66) ?_
       rintro v69 w67 ⟨hg68, rfl⟩
       refine gv_pureN 1 [9] [(9, (.int .i64 r65))] (by kernel_rfl) ?_
       refine gv_nil ?_
       have e := sj h1; subst e
       refine gv_goal fun a hd hs hok => ?_
       have hB70 := bg hB59 hg68 nb
       have hz71 := hg68.size
       exact ⟨hB70, hz71, hd, hs, ok_pick [4, 5, 6, 9] hok (by kernel_rfl)⟩
      ·replace h1 := ite_f hc64 h1
       refine gv_skip ?_
       have e := sj h1; subst e
       refine gv_goal fun a hd hs hok => ?_
       exact ⟨hB59, (Nat.le_refl _), hd, hs, ok_pick [4, 5, 6, 9] hok (by kernel_rfl)⟩
     ·rintro a w63 ⟨hB72, hz73, hd, hs, hok⟩
      refine gv_in ?_ hd hs hok
      clear hd hs hok
      clear hz73 hb61 hz60 hB59 hb47 hB45 hbe5
      refine gv_seq <| gv_seq <| gv_region <| gv_pureN 2 [10, 44] [(10, (.int .i64 j48))] (by kernel_rfl) ?_
      refine gv_nil <| bindE h0 ?_; clear h0; intro j74 h1 h0
      refine gv_cut_code (J := fun a w75 => ∃ (a6_0j : Option Addr) (c6_0j : Nat), Below w0.heap.size w0 w75 ∧ w63.heap.size ≤ w75.heap.size ∧ Gv.Own (iE .i64) 3 w75 (fun _ => False) a6_0j c6_0j j74 ∧ (∀ g, blk a6_0j = some g → w0.heap.size ≤ g) ∧ a.defers = [] ∧ a.tmps.size = 71 ∧ Ok [(4, (.int .i64 j48)), (5, (.int .i64 j7)), (6, (.slice a6_0j (List.length j74) c6_0j))] a.tmps) ?_ ?_
      ·skip
       refine gv_block <| gv_loop (A := fun (s76 : ((List Int) × Int)) a w77 => ∃ (a6_0j : Option Addr) (c6_0j : Nat), Below w0.heap.size w0 w77 ∧ w63.heap.size ≤ w77.heap.size ∧ Gv.Own (iE .i64) 3 w77 (fun _ => False) a6_0j c6_0j s76.1 ∧ (∀ g, blk a6_0j = some g → w0.heap.size ≤ g) ∧ a.defers = [] ∧ a.tmps.size = 71 ∧ Ok [(4, (.int .i64 j48)), (5, (.int .i64 j7)), (6, (.slice a6_0j (List.length s76.1) c6_0j)), (9, (.int .i64 j62)), (10, (.int .i64 s76.2))] a.tmps) h1 ?_ ?_
       ·intro a hd hs hok
        exact ⟨none, 0, hB72, (Nat.le_refl _), (Gv.Own.nil (iE .i64) 3 w63 (fun _ => False)), (fun _ h => by cases h), hd, hs, ok_pick [4, 5, 6, 9, 10] hok (by kernel_rfl)⟩
       ·rintro s76 r2 h2 hR2 a w77 ⟨a80, c81, hB78, hz79, ho82, hl83, hd, hs, hok⟩
        refine gv_in ?_ hd hs hok
        clear hd hs hok
        refine gv_seq <| gv_seq <| gv_region <| gv_cut_ops (J := fun a w84 => w77 = w84 ∧ a.defers = [] ∧ a.tmps.size = 71 ∧ Ok [(4, (.int .i64 j48)), (5, (.int .i64 j7)), (6, (.slice a80 (List.length s76.1) c81)), (9, (.int .i64 j62)), (10, (.int .i64 s76.2)), (60, (.bool (if (decide (j7 > 0)) then ((decide (s76.2 < j62)) || ((decide (j7 < 0)) && (decide (s76.2 > j62)))) else ((decide (j7 < 0)) && (decide (s76.2 > j62))))))] a.tmps) ?_ ?_
        ·skip
         refine gv_pureN 3 [45, 46, 47] [(47, (.bool (decide (j7 > 0))))] (by kernel_rfl) ?_
         refine gv_split (s := 47) (g := (decide (j7 > 0))) (by kernel_rfl) (fun hc85 => ?_) (fun hc85 => ?_)
         ·skip
          refine gv_pureN 5 [48, 49, 50, 51, 52] [(52, (.bool (decide (s76.2 < j62))))] (by kernel_rfl) ?_
          refine gv_split (s := 52) (g := (decide (s76.2 < j62))) (by kernel_rfl) (fun hc86 => ?_) (fun hc86 => ?_)
          ·skip
           refine gv_pureN 8 [53, 54, 55, 56, 57, 58, 59, 60] [(60, (.bool true))] (by kernel_rfl) ?_
           refine gv_nil <| gv_sub [4, 5, 6, 9, 10, 60] (σ' := [(4, (.int .i64 j48)), (5, (.int .i64 j7)), (6, (.slice a80 (List.length s76.1) c81)), (9, (.int .i64 j62)), (10, (.int .i64 s76.2)), (60, (.bool true))]) (by kernel_rfl) ?_
           refine gv_goal fun a hd hs hok => ⟨rfl, hd, hs, ?_⟩
           obtain ⟨q4, q5, q6, q9, q10, q60, _⟩ := hok
           exact ⟨q4, q5, q6, q9, q10, (by rw [hc85, hc86]; exact q60), trivial⟩
          ·skip
           refine gv_pureN 3 [53, 54, 55] [(55, (.bool (decide (j7 < 0))))] (by kernel_rfl) ?_
           refine gv_split (s := 55) (g := (decide (j7 < 0))) (by kernel_rfl) (fun hc87 => ?_) (fun hc87 => ?_)
           ·skip
            refine gv_pureN 5 [56, 57, 58, 59, 60] [(60, (.bool (decide (s76.2 > j62))))] (by kernel_rfl) ?_
            refine gv_nil <| gv_sub [4, 5, 6, 9, 10, 60] (σ' := [(4, (.int .i64 j48)), (5, (.int .i64 j7)), (6, (.slice a80 (List.length s76.1) c81)), (9, (.int .i64 j62)), (10, (.int .i64 s76.2)), (60, (.bool (decide (s76.2 > j62))))]) (by kernel_rfl) ?_
            refine gv_goal fun a hd hs hok => ⟨rfl, hd, hs, ?_⟩
            obtain ⟨q4, q5, q6, q9, q10, q60, _⟩ := hok
            exact ⟨q4, q5, q6, q9, q10, (by rw [hc85, hc86, hc87]; exact q60), trivial⟩
           ·skip
            refine gv_pureN 5 [56, 57, 58, 59, 60] [(60, (.bool false))] (by kernel_rfl) ?_
            refine gv_nil <| gv_sub [4, 5, 6, 9, 10, 60] (σ' := [(4, (.int .i64 j48)), (5, (.int .i64 j7)), (6, (.slice a80 (List.length s76.1) c81)), (9, (.int .i64 j62)), (10, (.int .i64 s76.2)), (60, (.bool false))]) (by kernel_rfl) ?_
            refine gv_goal fun a hd hs hok => ⟨rfl, hd, hs, ?_⟩
            obtain ⟨q4, q5, q6, q9, q10, q60, _⟩ := hok
            exact ⟨q4, q5, q6, q9, q10, (by rw [hc85, hc86, hc87]; exact q60), trivial⟩
         ·skip
          refine gv_pureN 8 [48, 49, 50, 51, 52, 53, 54, 55] [(52, (.bool false)), (55, (.bool (decide (j7 < 0))))] (by kernel_rfl) ?_
          refine gv_split (s := 55) (g := (decide (j7 < 0))) (by kernel_rfl) (fun hc88 => ?_) (fun hc88 => ?_)
          ·skip
           refine gv_pureN 5 [56, 57, 58, 59, 60] [(60, (.bool (decide (s76.2 > j62))))] (by kernel_rfl) ?_
           refine gv_nil <| gv_sub [4, 5, 6, 9, 10, 60] (σ' := [(4, (.int .i64 j48)), (5, (.int .i64 j7)), (6, (.slice a80 (List.length s76.1) c81)), (9, (.int .i64 j62)), (10, (.int .i64 s76.2)), (60, (.bool (decide (s76.2 > j62))))]) (by kernel_rfl) ?_
           refine gv_goal fun a hd hs hok => ⟨rfl, hd, hs, ?_⟩
           obtain ⟨q4, q5, q6, q9, q10, q60, _⟩ := hok
           exact ⟨q4, q5, q6, q9, q10, (by rw [hc85, hc88]; exact q60), trivial⟩
          ·skip
           refine gv_pureN 5 [56, 57, 58, 59, 60] [(60, (.bool false))] (by kernel_rfl) ?_
           refine gv_nil <| gv_sub [4, 5, 6, 9, 10, 60] (σ' := [(4, (.int .i64 j48)), (5, (.int .i64 j7)), (6, (.slice a80 (List.length s76.1) c81)), (9, (.int .i64 j62)), (10, (.int .i64 s76.2)), (60, (.bool false))]) (by kernel_rfl) ?_
           refine gv_goal fun a hd hs hok => ⟨rfl, hd, hs, ?_⟩
           obtain ⟨q4, q5, q6, q9, q10, q60, _⟩ := hok
           exact ⟨q4, q5, q6, q9, q10, (by rw [hc85, hc88]; exact q60), trivial⟩
        ·rintro a w84 ⟨e, hd, hs, hok⟩; subst e
         refine gv_in ?_ hd hs hok
         clear hd hs hok
         refine gv_cond (b := (if (decide (j7 > 0)) then ((decide (s76.2 < j62)) || ((decide (j7 < 0)) && (decide (s76.2 > j62)))) else ((decide (j7 < 0)) && (decide (s76.2 > j62))))) (by kernel_rfl) (fun hc89 => ?_) (fun hc89 => ?_)
         ·replace h2 := ite_t hc89 h2
          refine gv_skip <| gv_seq <| gv_block <| gv_region <| gv_pureN 2 [64, 65] [(64, (.slice a80 (List.length s76.1) c81)), (65, (.int .i64 s76.2))] (by kernel_rfl) ?_
          refine gv_new0 (fun b => .slice (some ⟨b, 0, none⟩) 1 1) #[(.int .i64 s76.2)] 3 (by kernel_rfl) (by kernel_rfl) ?_
          intro b90 w91 hg92 hb93 hbe94 hz95
          have ho96 : Gv.Own (iE .i64) 3 w91 (fun _ => False) (some ⟨b90, 0, none⟩) 1 ([s76.2] : List Int) := Box.ownE hb93 ⟨[(.int .i64 s76.2)], [], rfl, rfl, rfl⟩ (show 1 ≤ maxLen by decide) (fun h => h)
          have hl97 : ∀ g, blk (some ⟨b90, 0, none⟩) = some g → w0.heap.size ≤ g := loo hbe94 hB78.size
          refine bindE h2 ?_; clear h2; intro l101 hx102 h2
          have hk109 := ho82.grown hg92 (fun _ h => h.elim) nb
          refine gv_append (iE .i64) (t := 22) (ty := 22) (e := 3) (a := a80) (ax := (some ⟨b90, 0, none⟩)) (cap := c81) (cx := 1) (xs := s76.1) (ys := ([s76.2] : List Int)) l101 (X := (fun _ => False)) (Y := (fun k => blk (some ⟨b90, 0, none⟩) = some k)) (by decide) rfl rfl (by kernel_rfl) (by kernel_rfl) Tryz.underlying22 info3 hk109 (ho96.rd (Y := fun k => blk (some ⟨b90, 0, none⟩) = some k) (fun _ h => h.elim) (fun g e => e)) hx102 (.inr fun _ _ _ _ _ h => h) (fun _ h => h.elim) ?_
          intro a103 c104 w105 hg106 ho107 hk108
          refine ⟨(fun e => by cases e), ?_⟩
          have hB111 := bg hB78 hg92 nb
          have hl110 : ∀ g, blk a103 = some g → w0.heap.size ≤ g := blk_step hk108 hl83 hB111.size
          have ap113 : ∀ g, blk a80 = some g → ¬ (fun k => blk (some ⟨b90, 0, none⟩) = some k) g := fun g e hx => nl ((lowo hbe94) _ hx) ((fun k (hk : blk a80 = some k) => ho82.lt k hk) g e)
          have ap112 : ∀ g, blk a103 = some g → ¬ (fun k => blk (some ⟨b90, 0, none⟩) = some k) g := blk_neX hk108 ap113 (fun k (hk : blk (some ⟨b90, 0, none⟩) = some k) => ho96.lt k hk)
          have ap115 : ∀ g, blk (some ⟨b90, 0, none⟩) = some g → ¬ (fun k => blk a80 = some k) g := fun g e hx => nl ((lowo hbe94) g e) ((fun k (hk : blk a80 = some k) => ho82.lt k hk) _ hx)
          have ap114 : ∀ g, blk (some ⟨b90, 0, none⟩) = some g → ¬ (fun k => blk a103 = some k) g := fun g e h => blk_rev hk108 (fun h => ((ap115) g e) h) (ho96.lt g e) h
          refine gv_pureN 1 [6] [(6, (.slice a103 (List.length l101) c104))] (by kernel_rfl) ?_
          refine gv_nil <| gv_blk <| gv_region <| gv_pureN 4 [10, 61, 62, 63] [(10, (.int .i64 (IntKind.i64.wrap (s76.2 + j7))))] (by kernel_rfl) ?_
          refine gv_nil ?_
          have e := sj h2; subst e
          refine gv_goal fun a hd hs hok => ?_
          have hB116 := bg hB111 hg106 hl83
          have hz117 := (nt (nt hz79 hg92.size) hg106.size)
          exact ⟨(l101, (IntKind.i64.wrap (s76.2 + j7))), rfl, a103, c104, hB116, hz117, ho107, hl110, hd, hs, ok_pick [4, 5, 6, 9, 10] hok (by kernel_rfl)⟩
         ·replace h2 := ite_f hc89 h2
          refine gv_cexit <| gv_exit rfl ?_
          have e := sj h2; subst e
          replace h1 := congrArg some (hR2 _ rfl)
          have e := sj h1; subst e
          refine gv_goal fun a hd hs hok => ?_
          have hz118 := hz79
          exact ⟨a80, c81, hB78, hz118, ho82, hl83, hd, hs, ok_pick [4, 5, 6] hok (by kernel_rfl)⟩
      ·rintro a w75 ⟨a121, c122, hB119, hz120, ho123, hl124, hd, hs, hok⟩
       refine gv_in ?_ hd hs hok
       clear hd hs hok
       refine gv_seq <| gv_region <| gv_pureN 6 [4, 5, 6, 68, 69, 70] [(4, (.int .i64 j48)), (5, (.int .i64 j7)), (6, (.slice a121 (List.length j74) c122))] (by kernel_rfl) ?_
       refine gv_nil <| gv_cret ?_
       have e := sj h0; subst e
       refine gv_ret (gv_done [(.int .i64 j48), (.int .i64 j7), (.slice a121 (List.length j74) c122)] rfl ⟨(by kernel_rfl), (by kernel_rfl), (by kernel_rfl), trivial⟩ ?_)
       exact ⟨grown_of_below hB119, a121, c122, rfl, ho123, hl124⟩

theorem law4_TextstrPoints_ok (fuel : Nat) (s_0 : ByteArray) (pa1_0 : Option Addr) (pc1_0 : Nat) (l_1 : (List Int)) (pa2_0 : Option Addr) (pc2_0 : Nat) (pa2_1 : Option Addr) (pc2_1 : Nat) (pa2_2 : Option Addr) (pc2_2 : Nat) (p_2 : ((Bool × (List Int)) × (Bool × (List Int)) × (Bool × (List Int)) × Bool × Bool × Bool)) (w0 : World) (X0 : Nat → Prop) (hX0 : ∀ k, X0 k → k < w0.heap.size) (hpa1_0 : Rd (iE .i64) w0 X0 pa1_0 pc1_0 l_1) (hpa2_0 : Rd (iE .u32) w0 X0 pa2_0 pc2_0 p_2.1.2) (hpa2_1 : Rd (iE .u32) w0 X0 pa2_1 pc2_1 p_2.2.1.2) (hpa2_2 : Rd (iE .u32) w0 X0 pa2_2 pc2_2 p_2.2.2.1.2) (hG0 : Rd bE w0 X0 (some ⟨0, 0, none⟩) 256 utf8First) (hG1 : Rd (prE (iE .u8) (iE .u8)) w0 X0 (some ⟨1, 0, none⟩) 16 utf8Acc) {gmx : Int} (hG2 : Rd (iE .i64) w0 X0 (some ⟨2, 0, none⟩) 1 [gmx]) (r0 : Bool) (h0 : law4_TextstrPoints fuel s_0 l_1 p_2 = some r0) :
    Calls Tryz.prog 3 ([(.string s_0), (.slice pa1_0 (List.length l_1) pc1_0), (.agg #[(.bool p_2.1.1), (.slice pa2_0 (List.length p_2.1.2) pc2_0), (.bool p_2.2.1.1), (.slice pa2_1 (List.length p_2.2.1.2) pc2_1), (.bool p_2.2.2.1.1), (.slice pa2_2 (List.length p_2.2.2.1.2) pc2_2), (.bool p_2.2.2.2.1), (.bool p_2.2.2.2.2.1), (.bool p_2.2.2.2.2.2)])] : List Value).toArray w0 (Ret fun v w' => w0.grownBy w' none ∧ v = tup [(.bool r0)]) := by
 have hB0 : Below w0.heap.size w0 w0 := Below.refl _ _
 unfold law4_TextstrPoints at h0
 refine calls_run Tryz.func3 rfl Tryz.ntmps3 (by kernel_rfl) ?_
 refine gv_sub [0, 1, 2] (σ' := [(0, (.string s_0)), (1, (.slice pa1_0 (List.length l_1) pc1_0)), (2, (.agg #[(.bool p_2.1.1), (.slice pa2_0 (List.length p_2.1.2) pc2_0), (.bool p_2.2.1.1), (.slice pa2_1 (List.length p_2.2.1.2) pc2_1), (.bool p_2.2.2.1.1), (.slice pa2_2 (List.length p_2.2.2.1.2) pc2_2), (.bool p_2.2.2.2.1), (.bool p_2.2.2.2.2.1), (.bool p_2.2.2.2.2.2)]))]) (by kernel_rfl) ?_
 refine gv_seq <| gv_region <| gv_new0 (fun b => .pointer (some ⟨b, 0, none⟩)) #[(.bool p_2.1.1), (.slice pa2_0 (List.length p_2.1.2) pc2_0), (.bool p_2.2.1.1), (.slice pa2_1 (List.length p_2.2.1.2) pc2_1), (.bool p_2.2.2.1.1), (.slice pa2_2 (List.length p_2.2.2.1.2) pc2_2), (.bool p_2.2.2.2.1), (.bool p_2.2.2.2.2.1), (.bool p_2.2.2.2.2.2)] 27 (by kernel_rfl) (by kernel_rfl) ?_
 intro b1 w2 hg3 hb4 hbe5 hz6
 refine gv_pureN 1 [6] [] (by kernel_rfl) ?_
 refine gv_nil <| gv_seq <| gv_region <| gv_pureN 1 [27] [(27, (.string s_0))] (by kernel_rfl) ?_
 refine bindE h0 ?_; clear h0; intro r7 hr8 h0
 have hB9 := bg hB0 hg3 nb
 refine gv_call0 (by kernel_rfl) rfl (by kernel_rfl) enters4 (textstr_Points_ok fuel s_0 w2 (fun k => X0 k ∨ X0 k) (fun k hk => (hk).elim (fun h => (fun k (hk : X0 k) => ltl (hX0 k hk) hB9.size) k h) (fun h => (fun k (hk : X0 k) => ltl (hX0 k hk) hB9.size) k h)) ((hG0.below hB9 hX0).wide (fun k hk => (.inl hk))) ((hG1.below hB9 hX0).wide (fun k hk => (.inr hk))) r7 hr8) ?_
 rintro v12 w10 ⟨hg11, a13, c14, rfl, ho15, hl16⟩
 have hl17 : ∀ g, blk a13 = some g → w0.heap.size ≤ g := fun g e => Nat.le_trans hB9.size (hl16 g e)
 refine gv_pureN 3 [26, 29, 30] [(29, (.slice a13 (List.length r7.1) c14)), (30, (.agg #[(.int .i64 r7.2.1), (.int .i64 r7.2.2)]))] (by kernel_rfl) ?_
 refine gv_new0 (fun b => .pointer (some ⟨b, 0, none⟩)) #[(.int .i64 0), (.int .i64 0)] 29 (by kernel_rfl) (by kernel_rfl) ?_
 intro b18 w19 hg20 hb21 hbe22 hz23
 refine gv_pureN 1 [7] [(7, (.slice a13 (List.length r7.1) c14))] (by kernel_rfl) ?_
 refine gv_store0 29 0 (.agg #[(.int .i64 r7.2.1), (.int .i64 r7.2.2)]) #[(.int .i64 r7.2.1), (.int .i64 r7.2.2)] hb21 (by kernel_rfl) (by kernel_rfl) (by kernel_rfl) ?_
 intro w24 hg25 hb26 hz27
 refine gv_nil <| gv_seq <| gv_region <| gv_pureN 1 [32] [(32, (.slice pa1_0 (List.length l_1) pc1_0))] (by kernel_rfl) ?_
 refine bindE h0 ?_; clear h0; intro r28 hr29 h0
 have hg30 := (grown_trans hg11 hg20)
 have hB31 := bg hB9 hg30 nb
 have hB32 := bg hB9 hg11 nb
 have hlo33 : w0.heap.size ≤ b18 := lob hbe22 hB32.size
 have hB34 := bg hB31 hg25 (rowlo hlo33)
 refine gv_call0 (by kernel_rfl) rfl (by kernel_rfl) enters5 (textstr_From_ok fuel pa1_0 pc1_0 l_1 w24 (fun k => X0 k) (fun k hk => (fun k (hk : X0 k) => ltl (hX0 k hk) hB34.size) k hk) ((hpa1_0.below hB34 hX0).wide (fun k hk => hk)) r28 hr29) ?_
 rintro v37 w35 ⟨hg36, rfl⟩
 refine gv_pureN 3 [31, 34, 35] [(34, (.string r28.1)), (35, (.agg #[(.int .i64 r28.2.1), (.int .i64 r28.2.2)]))] (by kernel_rfl) ?_
 refine gv_new0 (fun b => .pointer (some ⟨b, 0, none⟩)) #[(.int .i64 0), (.int .i64 0)] 29 (by kernel_rfl) (by kernel_rfl) ?_
 intro b38 w39 hg40 hb41 hbe42 hz43
 refine gv_pureN 1 [9] [(9, (.string r28.1))] (by kernel_rfl) ?_
 refine gv_store0 29 0 (.agg #[(.int .i64 r28.2.1), (.int .i64 r28.2.2)]) #[(.int .i64 r28.2.1), (.int .i64 r28.2.2)] hb41 (by kernel_rfl) (by kernel_rfl) (by kernel_rfl) ?_
 intro w44 hg45 hb46 hz47
 refine gv_nil <| gv_seq <| gv_region <| gv_pureN 1 [37] [(37, (.string s_0))] (by kernel_rfl) ?_
 refine gv_sub [0, 1, 5, 7, 8, 9, 10, 37] (σ' := [(0, (.string s_0)), (1, (.slice pa1_0 (List.length l_1) pc1_0)), (5, (bp b1)), (7, (.slice a13 (List.length r7.1) c14)), (8, (bp b18)), (9, (.string r28.1)), (10, (bp b38)), (37, (.string s_0))]) (by kernel_rfl) ?_
 refine bindE h0 ?_; clear h0; intro r48 hr49 h0
 have hg50 := (grown_trans hg36 hg40)
 have hB51 := bg hB34 hg50 nb
 have hB52 := bg hB34 hg36 nb
 have hlo53 : w0.heap.size ≤ b38 := lob hbe42 hB52.size
 have hB54 := bg hB51 hg45 (rowlo hlo53)
 refine gv_call0 (by kernel_rfl) rfl (by kernel_rfl) enters6 (textstr_Length_ok fuel s_0 w44 (fun k => X0 k ∨ X0 k) (fun k hk => (hk).elim (fun h => (fun k (hk : X0 k) => ltl (hX0 k hk) hB54.size) k h) (fun h => (fun k (hk : X0 k) => ltl (hX0 k hk) hB54.size) k h)) ((hG0.below hB54 hX0).wide (fun k hk => (.inl hk))) ((hG1.below hB54 hX0).wide (fun k hk => (.inr hk))) r48 hr49) ?_
 rintro v57 w55 ⟨hg56, rfl⟩
 clear hB52 hB51 hg50 hr49 hz47 hz43 hb41 hB34 hB32 hB31 hg30 hr29 hz27 hz23 hb21 hB9 hr8 hz6 hg3
 refine gv_pureN 3 [36, 39, 40] [(39, (.int .i64 r48.1)), (40, (.agg #[(.int .i64 r48.2.1), (.int .i64 r48.2.2)]))] (by kernel_rfl) ?_
 refine gv_new0 (fun b => .pointer (some ⟨b, 0, none⟩)) #[(.int .i64 0), (.int .i64 0)] 29 (by kernel_rfl) (by kernel_rfl) ?_
 intro b58 w59 hg60 hb61 hbe62 hz63
 refine gv_pureN 1 [11] [(11, (.int .i64 r48.1))] (by kernel_rfl) ?_
 refine gv_store0 29 0 (.agg #[(.int .i64 r48.2.1), (.int .i64 r48.2.2)]) #[(.int .i64 r48.2.1), (.int .i64 r48.2.2)] hb61 (by kernel_rfl) (by kernel_rfl) (by kernel_rfl) ?_
 intro w64 hg65 hb66 hz67
 refine gv_nil <| gv_seq <| gv_region <| gv_pureN 1 [42] [(42, (.string s_0))] (by kernel_rfl) ?_
 have hg68 := (grown_trans hg11 hg20)
 have hk69 := hb4.grown hg11 nb
 have lt70 := ltl ((ltb hk69) _ rfl) ((lowb hbe22) _ rfl)
 have hg71 := (grown_trans hg36 hg40)
 have hk72 := hb26.grown hg36 nb
 have lt73 := ltl ((ltb hk72) _ rfl) ((lowb hbe42) _ rfl)
 have lt74 := ltt lt70 lt73
 have hg75 := (grown_trans hg56 hg60)
 have hk76 := hb46.grown hg56 nb
 have lt77 := ltl ((ltb hk76) _ rfl) ((lowb hbe62) _ rfl)
 have lt78 := ltt lt74 lt77
 have hk79 := (((((hb4.grown hg68 nb).grown hg25 (rowne (ng lt70))).grown hg71 nb).grown hg45 (rowne (ng lt74))).grown hg75 nb).grown hg65 (rowne (ng lt78))
 refine gv_loadBox (t := 27) (b := b1) (t' := 27) (fr := (0, 0)) #[(.bool p_2.1.1), (.slice pa2_0 (List.length p_2.1.2) pc2_0), (.bool p_2.2.1.1), (.slice pa2_1 (List.length p_2.2.1.2) pc2_1), (.bool p_2.2.2.1.1), (.slice pa2_2 (List.length p_2.2.2.1.2) pc2_2), (.bool p_2.2.2.2.1), (.bool p_2.2.2.2.2.1), (.bool p_2.2.2.2.2.2)] [] (fun e => by cases e) rfl rfl rfl (by kernel_rfl) (by kernel_rfl) (by kernel_rfl) (by kernel_rfl) (inw0 hk79) rfl ?_
 refine bindE h0 ?_; clear h0; intro r80 hr81 h0
 have hB82 := bg hB54 hg75 nb
 have hB83 := bg hB54 hg56 nb
 have hlo84 : w0.heap.size ≤ b58 := lob hbe62 hB83.size
 have hB85 := bg hB82 hg65 (rowlo hlo84)
 refine gv_call0 (by kernel_rfl) rfl (by kernel_rfl) enters7 (textstr_Part_ok fuel s_0 pa2_0 pc2_0 pa2_1 pc2_1 pa2_2 pc2_2 ((p_2.1.1, p_2.1.2), (p_2.2.1.1, p_2.2.1.2), (p_2.2.2.1.1, p_2.2.2.1.2), p_2.2.2.2.1, p_2.2.2.2.2.1, p_2.2.2.2.2.2) w64 (fun k => X0 k ∨ X0 k ∨ X0 k ∨ X0 k ∨ X0 k) (fun k hk => (hk).elim (fun h => (fun k (hk : X0 k) => ltl (hX0 k hk) hB85.size) k h) (fun h => (h).elim (fun h => (fun k (hk : X0 k) => ltl (hX0 k hk) hB85.size) k h) (fun h => (h).elim (fun h => (fun k (hk : X0 k) => ltl (hX0 k hk) hB85.size) k h) (fun h => (h).elim (fun h => (fun k (hk : X0 k) => ltl (hX0 k hk) hB85.size) k h) (fun h => (fun k (hk : X0 k) => ltl (hX0 k hk) hB85.size) k h))))) ((hpa2_0.below hB85 hX0).wide (fun k hk => (.inl hk))) ((hpa2_1.below hB85 hX0).wide (fun k hk => (.inr (.inl hk)))) ((hpa2_2.below hB85 hX0).wide (fun k hk => (.inr (.inr (.inl hk))))) ((hG0.below hB85 hX0).wide (fun k hk => (.inr (.inr (.inr (.inl hk)))))) ((hG1.below hB85 hX0).wide (fun k hk => (.inr (.inr (.inr (.inr hk)))))) r80 hr81) ?_
 rintro v88 w86 ⟨hg87, rfl⟩
 refine gv_pureN 3 [41, 45, 46] [(45, (.string r80.1)), (46, (.agg #[(.int .i64 r80.2.1), (.int .i64 r80.2.2)]))] (by kernel_rfl) ?_
 refine gv_new0 (fun b => .pointer (some ⟨b, 0, none⟩)) #[(.int .i64 0), (.int .i64 0)] 29 (by kernel_rfl) (by kernel_rfl) ?_
 intro b89 w90 hg91 hb92 hbe93 hz94
 refine gv_pureN 1 [13] [(13, (.string r80.1))] (by kernel_rfl) ?_
 refine gv_store0 29 0 (.agg #[(.int .i64 r80.2.1), (.int .i64 r80.2.2)]) #[(.int .i64 r80.2.1), (.int .i64 r80.2.2)] hb92 (by kernel_rfl) (by kernel_rfl) (by kernel_rfl) ?_
 intro w95 hg96 hb97 hz98
 refine gv_nil <| gv_seq <| gv_seq <| gv_region <| bindE h0 ?_; clear h0; intro j99 h1 h0
 refine gv_cut_ops (J := fun a w100 => Below w0.heap.size w0 w100 ∧ w95.heap.size ≤ w100.heap.size ∧ Box w100 b1 27 #[(.bool p_2.1.1), (.slice pa2_0 (List.length p_2.1.2) pc2_0), (.bool p_2.2.1.1), (.slice pa2_1 (List.length p_2.2.1.2) pc2_1), (.bool p_2.2.2.1.1), (.slice pa2_2 (List.length p_2.2.2.1.2) pc2_2), (.bool p_2.2.2.2.1), (.bool p_2.2.2.2.2.1), (.bool p_2.2.2.2.2.2)] ∧ Box w100 b18 29 #[(.int .i64 r7.2.1), (.int .i64 r7.2.2)] ∧ Box w100 b38 29 #[(.int .i64 r28.2.1), (.int .i64 r28.2.2)] ∧ Box w100 b58 29 #[(.int .i64 r48.2.1), (.int .i64 r48.2.2)] ∧ Box w100 b89 29 #[(.int .i64 r80.2.1), (.int .i64 r80.2.2)] ∧ Gv.Own (iE .i64) 3 w100 (fun _ => False) a13 c14 r7.1 ∧ a.defers = [] ∧ a.tmps.size = 206 ∧ Ok [(0, (.string s_0)), (1, (.slice pa1_0 (List.length l_1) pc1_0)), (5, (bp b1)), (7, (.slice a13 (List.length r7.1) c14)), (8, (bp b18)), (9, (.string r28.1)), (10, (bp b38)), (11, (.int .i64 r48.1)), (12, (bp b58)), (13, (.string r80.1)), (14, (bp b89)), (55, (.bool j99))] a.tmps) ?_ ?_
 ·skip
  refine bindE h1 ?_; clear h1; intro r101 hr102 h1
  have hg103 := (grown_trans hg87 hg91)
  have hB104 := bg hB85 hg103 nb
  have hB105 := bg hB85 hg87 nb
  have hlo106 : w0.heap.size ≤ b89 := lob hbe93 hB105.size
  have hB107 := bg hB104 hg96 (rowlo hlo106)
  refine gv_call0 (by kernel_rfl) rfl (by kernel_rfl) enters8 (law4_letters_ok fuel  w95 (fun k => X0 k ∨ X0 k ∨ X0 k) (fun k hk => (hk).elim (fun h => (fun k (hk : X0 k) => ltl (hX0 k hk) hB107.size) k h) (fun h => (h).elim (fun h => (fun k (hk : X0 k) => ltl (hX0 k hk) hB107.size) k h) (fun h => (fun k (hk : X0 k) => ltl (hX0 k hk) hB107.size) k h))) ((hG0.below hB107 hX0).wide (fun k hk => (.inl hk))) ((hG1.below hB107 hX0).wide (fun k hk => (.inr (.inl hk)))) ((hG2.below hB107 hX0).wide (fun k hk => (.inr (.inr hk)))) r101 hr102) ?_
  rintro v110 w108 ⟨hg109, rfl⟩
  refine gv_pureN 2 [48, 49] [(49, (.bool (!r101)))] (by kernel_rfl) ?_
  refine gv_sub [0, 1, 5, 7, 8, 9, 10, 11, 12, 13, 14, 49] (σ' := [(0, (.string s_0)), (1, (.slice pa1_0 (List.length l_1) pc1_0)), (5, (bp b1)), (7, (.slice a13 (List.length r7.1) c14)), (8, (bp b18)), (9, (.string r28.1)), (10, (bp b38)), (11, (.int .i64 r48.1)), (12, (bp b58)), (13, (.string r80.1)), (14, (bp b89)), (49, (.bool (!r101)))]) (by kernel_rfl) ?_
  refine gv_split (s := 49) (g := (!r101)) (by kernel_rfl) (fun hc111 => ?_) (fun hc111 => ?_)
  ·skip
   replace h1 := ite_t hc111 h1
   refine gv_pureN 6 [50, 51, 52, 53, 54, 55] [(55, (.bool true))] (by kernel_rfl) ?_
   refine gv_nil ?_
   have e := sj h1; subst e
   refine gv_goal fun a hd hs hok => ?_
   have hB112 := bg hB107 hg109 nb
   have hz113 := hg109.size
   have hk114 := hb66.grown hg87 nb
   have lt115 := ltl ((ltb hk114) _ rfl) ((lowb hbe93) _ rfl)
   have lt116 := ltt lt78 lt115
   have hk117 := ((hk79.grown hg103 nb).grown hg96 (rowne (ng lt116))).grown hg109 nb
   have lt118 := ltt lt73 lt77
   have lt119 := ltt lt118 lt115
   have hk120 := ((((((hk72.grown hg40 nb).grown hg45 (rowne (ng lt73))).grown hg75 nb).grown hg65 (rowne (ng lt118))).grown hg103 nb).grown hg96 (rowne (ng lt119))).grown hg109 nb
   have lt121 := ltt lt77 lt115
   have hk122 := ((((hk76.grown hg60 nb).grown hg65 (rowne (ng lt77))).grown hg103 nb).grown hg96 (rowne (ng lt121))).grown hg109 nb
   have hk123 := ((hk114.grown hg91 nb).grown hg96 (rowne (ng lt115))).grown hg109 nb
   have hk124 := hb97.grown hg109 nb
   have ap125 : ¬ (fun k => blk a13 = some k) b18 := fun hx => nl ((lowb hbe22) _ rfl) ((fun k (hk : blk a13 = some k) => ho15.lt k hk) _ hx)
   have hk126 := ((ho15.grown hg20 (fun _ h => h.elim) nb).grown hg25 (fun _ h => h.elim) (rdnn (rowne ap125))).grown hg36 (fun _ h => h.elim) nb
   have ap127 : ¬ (fun k => blk a13 = some k) b38 := fun hx => nl ((lowb hbe42) _ rfl) ((fun k (hk : blk a13 = some k) => hk126.lt k hk) _ hx)
   have hk128 := ((hk126.grown hg40 (fun _ h => h.elim) nb).grown hg45 (fun _ h => h.elim) (rdnn (rowne ap127))).grown hg56 (fun _ h => h.elim) nb
   have ap129 : ¬ (fun k => blk a13 = some k) b58 := fun hx => nl ((lowb hbe62) _ rfl) ((fun k (hk : blk a13 = some k) => hk128.lt k hk) _ hx)
   have hk130 := ((hk128.grown hg60 (fun _ h => h.elim) nb).grown hg65 (fun _ h => h.elim) (rdnn (rowne ap129))).grown hg87 (fun _ h => h.elim) nb
   have ap131 : ¬ (fun k => blk a13 = some k) b89 := fun hx => nl ((lowb hbe93) _ rfl) ((fun k (hk : blk a13 = some k) => hk130.lt k hk) _ hx)
   have hk132 := ((((((((ho15.grown hg20 (fun _ h => h.elim) nb).grown hg25 (fun _ h => h.elim) (rdnn (rowne ap125))).grown hg71 (fun _ h => h.elim) nb).grown hg45 (fun _ h => h.elim) (rdnn (rowne ap127))).grown hg75 (fun _ h => h.elim) nb).grown hg65 (fun _ h => h.elim) (rdnn (rowne ap129))).grown hg103 (fun _ h => h.elim) nb).grown hg96 (fun _ h => h.elim) (rdnn (rowne ap131))).grown hg109 (fun _ h => h.elim) nb
   exact ⟨hB112, hz113, hk117, hk120, hk122, hk123, hk124, hk132, hd, hs, ok_pick [0, 1, 5, 7, 8, 9, 10, 11, 12, 13, 14, 55] hok (by kernel_rfl)⟩
  ·skip
   replace h1 := ite_f hc111 h1
   refine gv_pureN 1 [50] [(50, (.string s_0))] (by kernel_rfl) ?_
   refine bindE h1 ?_; clear h1; intro r133 hr134 h1
   have hB135 := bg hB107 hg109 nb
   refine gv_call0 (by kernel_rfl) rfl (by kernel_rfl) enters9 (textstr_Valid_ok fuel s_0 w108 (fun k => X0 k ∨ X0 k) (fun k hk => (hk).elim (fun h => (fun k (hk : X0 k) => ltl (hX0 k hk) hB135.size) k h) (fun h => (fun k (hk : X0 k) => ltl (hX0 k hk) hB135.size) k h)) ((hG0.below hB135 hX0).wide (fun k hk => (.inl hk))) ((hG1.below hB135 hX0).wide (fun k hk => (.inr hk))) r133 hr134) ?_
   rintro v138 w136 ⟨hg137, rfl⟩
   refine gv_pureN 1 [52] [(52, (.string s_0))] (by kernel_rfl) ?_
   refine bindE h1 ?_; clear h1; intro r139 hr140 h1
   refine gv_call0 (by kernel_rfl) rfl (by kernel_rfl) enters10 (ref4_TextOk_ok fuel s_0 w136  r139 hr140) ?_
   rintro v143 w141 ⟨hg142, rfl⟩
   have hz144 := (nt (nt hg109.size hg137.size) hg142.size)
   clear hr140 hr134 hc111 hB107 hB105 hB104 hg103 hr102 hz98 hz94 hb92 hB85 hB83 hB82 hr81 hg75 hg71 hk69 hg68 hz67 hz63 hb61 hB54 hb46 hb26 hg11
   refine gv_pureN 2 [54, 55] [(55, (.bool (!(r133 == r139))))] (by kernel_rfl) ?_
   refine gv_nil ?_
   have e := sj h1; subst e
   refine gv_goal fun a hd hs hok => ?_
   have hg145 := (grown_trans hg137 hg142)
   have hB146 := bg hB135 hg145 nb
   have hz147 := hz144
   have hg148 := (grown_trans hg87 hg91)
   have hk149 := hb66.grown hg87 nb
   have lt150 := ltl ((ltb hk149) _ rfl) ((lowb hbe93) _ rfl)
   have lt151 := ltt lt78 lt150
   have hg152 := (grown_trans hg109 hg145)
   have hk153 := ((hk79.grown hg148 nb).grown hg96 (rowne (ng lt151))).grown hg152 nb
   have hg154 := (grown_trans hg56 hg60)
   have lt155 := ltt lt73 lt77
   have lt156 := ltt lt155 lt150
   have hk157 := ((((((hk72.grown hg40 nb).grown hg45 (rowne (ng lt73))).grown hg154 nb).grown hg65 (rowne (ng lt155))).grown hg148 nb).grown hg96 (rowne (ng lt156))).grown hg152 nb
   have lt158 := ltt lt77 lt150
   have hk159 := ((((hk76.grown hg60 nb).grown hg65 (rowne (ng lt77))).grown hg148 nb).grown hg96 (rowne (ng lt158))).grown hg152 nb
   have hk160 := ((hk149.grown hg91 nb).grown hg96 (rowne (ng lt150))).grown hg152 nb
   have hk161 := hb97.grown hg152 nb
   have ap162 : ¬ (fun k => blk a13 = some k) b18 := fun hx => nl ((lowb hbe22) _ rfl) ((fun k (hk : blk a13 = some k) => ho15.lt k hk) _ hx)
   have hg163 := (grown_trans hg36 hg40)
   have hk164 := ((ho15.grown hg20 (fun _ h => h.elim) nb).grown hg25 (fun _ h => h.elim) (rdnn (rowne ap162))).grown hg36 (fun _ h => h.elim) nb
   have ap165 : ¬ (fun k => blk a13 = some k) b38 := fun hx => nl ((lowb hbe42) _ rfl) ((fun k (hk : blk a13 = some k) => hk164.lt k hk) _ hx)
   have hk166 := ((hk164.grown hg40 (fun _ h => h.elim) nb).grown hg45 (fun _ h => h.elim) (rdnn (rowne ap165))).grown hg56 (fun _ h => h.elim) nb
   have ap167 : ¬ (fun k => blk a13 = some k) b58 := fun hx => nl ((lowb hbe62) _ rfl) ((fun k (hk : blk a13 = some k) => hk166.lt k hk) _ hx)
   have hk168 := ((hk166.grown hg60 (fun _ h => h.elim) nb).grown hg65 (fun _ h => h.elim) (rdnn (rowne ap167))).grown hg87 (fun _ h => h.elim) nb
   have ap169 : ¬ (fun k => blk a13 = some k) b89 := fun hx => nl ((lowb hbe93) _ rfl) ((fun k (hk : blk a13 = some k) => hk168.lt k hk) _ hx)
   have hk170 := ((((((((ho15.grown hg20 (fun _ h => h.elim) nb).grown hg25 (fun _ h => h.elim) (rdnn (rowne ap162))).grown hg163 (fun _ h => h.elim) nb).grown hg45 (fun _ h => h.elim) (rdnn (rowne ap165))).grown hg154 (fun _ h => h.elim) nb).grown hg65 (fun _ h => h.elim) (rdnn (rowne ap167))).grown hg148 (fun _ h => h.elim) nb).grown hg96 (fun _ h => h.elim) (rdnn (rowne ap169))).grown hg152 (fun _ h => h.elim) nb
   exact ⟨hB146, hz147, hk153, hk157, hk159, hk160, hk161, hk170, hd, hs, ok_pick [0, 1, 5, 7, 8, 9, 10, 11, 12, 13, 14, 55] hok (by kernel_rfl)⟩
 ·rintro a w100 ⟨hB171, hz172, hb173, hb174, hb175, hb176, hb177, hk178, hd, hs, hok⟩
  refine gv_in ?_ hd hs hok
  clear hd hs hok
  clear hz172 hz98 hb97 hg96 hz94 hb92 hg91 hB83 hB82 hr81 hk79 hk76 hg75 hk72 hg71 hk69 hg68 hz67 hz63 hb61 hB54 hb46 hb26 hg11
  refine gv_cond (b := j99) (by kernel_rfl) (fun hc179 => ?_) (fun hc179 => ?_)
  ·replace h0 := ite_t hc179 h0
   refine gv_seq <| gv_region <| gv_pureN 1 [6] [(6, (.bool false))] (by kernel_rfl) ?_
   refine gv_nil <| gv_cret ?_
   have e := sj h0; subst e
   refine gv_ret (gv_done [(.bool false)] rfl ⟨(by kernel_rfl), trivial⟩ ?_)
   exact ⟨grown_of_below hB171, rfl⟩
  ·replace h0 := ite_f hc179 h0
   refine gv_skip <| gv_seq <| gv_region <| gv_pureN 1 [56] [(56, (.string s_0))] (by kernel_rfl) ?_
   refine gv_new0 (fun b => .slice (some ⟨b, 0, none⟩) 1 1) #[(.string s_0)] 9 (by kernel_rfl) (by kernel_rfl) ?_
   intro b180 w181 hg182 hb183 hbe184 hz185
   have ho186 : Gv.Own sE 9 w181 (fun _ => False) (some ⟨b180, 0, none⟩) 1 ([s_0] : List ByteArray) := Box.ownE hb183 ⟨[(.string s_0)], [], rfl, rfl, rfl⟩ (show 1 ≤ maxLen by decide) (fun h => h)
   have hl187 : ∀ g, blk (some ⟨b180, 0, none⟩) = some g → w0.heap.size ≤ g := loo hbe184 hB171.size
   refine bindE h0 ?_; clear h0; intro r191 hr192 h0
   refine gv_call0 (by kernel_rfl) rfl (by kernel_rfl) enters11 (ref4_TextFaults_ok fuel (some ⟨b180, 0, none⟩) 1 ([s_0] : List ByteArray) w181 (fun k => (fun k => blk (some ⟨b180, 0, none⟩) = some k) k) (fun k hk => (fun k (hk : blk (some ⟨b180, 0, none⟩) = some k) => ho186.lt k hk) k hk) ((ho186.rd (Y := fun k => blk (some ⟨b180, 0, none⟩) = some k) (fun _ h => h.elim) (fun g e => e)).wide (fun k hk => hk)) r191 hr192) ?_
   rintro v195 w193 ⟨hg194, rfl⟩
   refine gv_new0 (fun b => .pointer (some ⟨b, 0, none⟩)) #[(.int .i64 0), (.int .i64 0)] 29 (by kernel_rfl) (by kernel_rfl) ?_
   intro b196 w197 hg198 hb199 hbe200 hz201
   refine gv_store0 29 0 (.agg #[(.int .i64 r191.1), (.int .i64 r191.2)]) #[(.int .i64 r191.1), (.int .i64 r191.2)] hb199 (by kernel_rfl) (by kernel_rfl) (by kernel_rfl) ?_
   intro w202 hg203 hb204 hz205
   refine gv_nil <| gv_seq <| gv_region <| gv_pureN 1 [60] [(60, (.string s_0))] (by kernel_rfl) ?_
   refine bindE h0 ?_; clear h0; intro r206 hr207 h0
   refine gv_call0 (by kernel_rfl) rfl (by kernel_rfl) enters12 (ref4_Points_ok fuel s_0 w202  r206 hr207) ?_
   rintro v210 w208 ⟨hg209, a211, c212, rfl, ho213, hl214⟩
   have hg216 := (grown_trans (grown_trans hg182 hg194) hg198)
   have hB217 := bg hB171 hg216 nb
   have hg218 := (grown_trans hg182 hg194)
   have hB219 := bg hB171 hg218 nb
   have hlo220 : w0.heap.size ≤ b196 := lob hbe200 hB219.size
   have hB221 := bg hB217 hg203 (rowlo hlo220)
   have hl215 : ∀ g, blk a211 = some g → w0.heap.size ≤ g := fun g e => Nat.le_trans hB221.size (hl214 g e)
   refine gv_pureN 5 [16, 17, 59, 62, 63] [(16, (.slice a211 (List.length r206.1) c212))] (by kernel_rfl) ?_
   refine gv_nil <| gv_seq <| gv_seq <| gv_region <| bindE h0 ?_; clear h0; intro j222 h1 h0
   refine gv_cut_ops (J := fun a w223 => Below w0.heap.size w0 w223 ∧ w208.heap.size ≤ w223.heap.size ∧ Box w223 b1 27 #[(.bool p_2.1.1), (.slice pa2_0 (List.length p_2.1.2) pc2_0), (.bool p_2.2.1.1), (.slice pa2_1 (List.length p_2.2.1.2) pc2_1), (.bool p_2.2.2.1.1), (.slice pa2_2 (List.length p_2.2.2.1.2) pc2_2), (.bool p_2.2.2.2.1), (.bool p_2.2.2.2.2.1), (.bool p_2.2.2.2.2.2)] ∧ Box w223 b38 29 #[(.int .i64 r28.2.1), (.int .i64 r28.2.2)] ∧ Box w223 b89 29 #[(.int .i64 r80.2.1), (.int .i64 r80.2.2)] ∧ Box w223 b196 29 #[(.int .i64 r191.1), (.int .i64 r191.2)] ∧ Gv.Own (iE .i64) 3 w223 (fun _ => False) a211 c212 r206.1 ∧ a.defers = [] ∧ a.tmps.size = 206 ∧ Ok [(1, (.slice pa1_0 (List.length l_1) pc1_0)), (5, (bp b1)), (9, (.string r28.1)), (10, (bp b38)), (13, (.string r80.1)), (14, (bp b89)), (15, (bp b196)), (16, (.slice a211 (List.length r206.1) c212)), (102, (.bool j222))] a.tmps) ?_ ?_
   ·skip
    have lt224 := ltt lt73 lt77
    have hk225 := hb66.grown hg87 nb
    have lt226 := ltl ((ltb hk225) _ rfl) ((lowb hbe93) _ rfl)
    have lt227 := ltt lt224 lt226
    have hk228 := hb177.grown hg218 nb
    have lt229 := ltl ((ltb hk228) _ rfl) ((lowb hbe200) _ rfl)
    have lt230 := ltt lt227 lt229
    have hk231 := ((hb174.grown hg216 nb).grown hg203 (rowne (ng lt230))).grown hg209 nb
    refine gv_loadBox (t := 29) (b := b18) (t' := 29) (fr := (0, 0)) #[(.int .i64 r7.2.1), (.int .i64 r7.2.2)] [] (fun e => by cases e) rfl rfl rfl (by kernel_rfl) (by kernel_rfl) (by kernel_rfl) (by kernel_rfl) (inw0 hk231) rfl ?_
    have hk232 := hb204.grown hg209 nb
    refine gv_loadBox (t := 29) (b := b196) (t' := 29) (fr := (0, 0)) #[(.int .i64 r191.1), (.int .i64 r191.2)] [] (fun e => by cases e) rfl rfl rfl (by kernel_rfl) (by kernel_rfl) (by kernel_rfl) (by kernel_rfl) (inw0 hk232) rfl ?_
    refine gv_eqs (t := 29) (op := .neq) (x := (.tmp 64)) (y := (.tmp 65)) (xs := #[(.int .i64 r7.2.1), (.int .i64 r7.2.2)]) (ys := #[(.int .i64 r191.1), (.int .i64 r191.2)]) (!((r7.2.1 == r191.1) && (r7.2.2 == r191.2))) [] (fun e => by cases e) rfl rfl rfl (by kernel_rfl) (by kernel_rfl) (fun w' => eqs29neq r7.2.1 r7.2.2 r191.1 r191.2 _ _ w') rfl ?_
    refine gv_pureN 1 [67] [(67, (.bool (!((r7.2.1 == r191.1) && (r7.2.2 == r191.2)))))] (by kernel_rfl) ?_
    refine gv_split (s := 67) (g := (!((r7.2.1 == r191.1) && (r7.2.2 == r191.2)))) (by kernel_rfl) (fun hc233 => ?_) (fun hc233 => ?_)
    ·skip
     replace h1 := ite_t hc233 h1
     refine gv_pureN 35 [68, 69, 70, 71, 72, 73, 74, 75, 76, 77, 78, 79, 80, 81, 82, 83, 84, 85, 86, 87, 88, 89, 90, 91, 92, 93, 94, 95, 96, 97, 98, 99, 100, 101, 102] [(102, (.bool true))] (by kernel_rfl) ?_
     refine gv_nil ?_
     have e := sj h1; subst e
     refine gv_goal fun a hd hs hok => ?_
     have hB234 := bg hB221 hg209 nb
     have lt235 := ltt lt78 lt226
     have lt236 := ltt lt235 lt229
     have hk237 := ((hb173.grown hg216 nb).grown hg203 (rowne (ng lt236))).grown hg209 nb
     have lt238 := ltt lt77 lt226
     have lt239 := ltt lt238 lt229
     have hk240 := ((hb175.grown hg216 nb).grown hg203 (rowne (ng lt239))).grown hg209 nb
     have hk241 := ((hk228.grown hg198 nb).grown hg203 (rowne (ng lt229))).grown hg209 nb
     exact ⟨hB234, (Nat.le_refl _), hk237, hk240, hk241, hk232, ho213, hd, hs, ok_pick [1, 5, 9, 10, 13, 14, 15, 16, 102] hok (by kernel_rfl)⟩
    ·skip
     replace h1 := ite_f hc233 h1
     have lt242 := ltt lt226 lt229
     have hk243 := ((hb176.grown hg216 nb).grown hg203 (rowne (ng lt242))).grown hg209 nb
     refine gv_loadBox (t := 29) (b := b58) (t' := 29) (fr := (0, 0)) #[(.int .i64 r48.2.1), (.int .i64 r48.2.2)] [] (fun e => by cases e) rfl rfl rfl (by kernel_rfl) (by kernel_rfl) (by kernel_rfl) (by kernel_rfl) (inw0 hk243) rfl ?_
     refine gv_loadBox (t := 29) (b := b196) (t' := 29) (fr := (0, 0)) #[(.int .i64 r191.1), (.int .i64 r191.2)] [] (fun e => by cases e) rfl rfl rfl (by kernel_rfl) (by kernel_rfl) (by kernel_rfl) (by kernel_rfl) (inw0 hk232) rfl ?_
     refine gv_sub [1, 5, 7, 9, 10, 11, 13, 14, 15, 16, 67, 68, 69] (σ' := [(1, (.slice pa1_0 (List.length l_1) pc1_0)), (5, (bp b1)), (7, (.slice a13 (List.length r7.1) c14)), (9, (.string r28.1)), (10, (bp b38)), (11, (.int .i64 r48.1)), (13, (.string r80.1)), (14, (bp b89)), (15, (bp b196)), (16, (.slice a211 (List.length r206.1) c212)), (67, (.bool false)), (68, (.agg #[(.int .i64 r48.2.1), (.int .i64 r48.2.2)])), (69, (.agg #[(.int .i64 r191.1), (.int .i64 r191.2)]))]) (by kernel_rfl) ?_
     refine gv_eqs (t := 29) (op := .neq) (x := (.tmp 68)) (y := (.tmp 69)) (xs := #[(.int .i64 r48.2.1), (.int .i64 r48.2.2)]) (ys := #[(.int .i64 r191.1), (.int .i64 r191.2)]) (!((r48.2.1 == r191.1) && (r48.2.2 == r191.2))) [] (fun e => by cases e) rfl rfl rfl (by kernel_rfl) (by kernel_rfl) (fun w' => eqs29neq r48.2.1 r48.2.2 r191.1 r191.2 _ _ w') rfl ?_
     refine gv_pureN 2 [71, 72] [(72, (.bool (!((r48.2.1 == r191.1) && (r48.2.2 == r191.2)))))] (by kernel_rfl) ?_
     refine gv_split (s := 72) (g := (!((r48.2.1 == r191.1) && (r48.2.2 == r191.2)))) (by kernel_rfl) (fun hc244 => ?_) (fun hc244 => ?_)
     ·skip
      replace h1 := ite_t hc244 h1
      refine gv_pureN 30 [73, 74, 75, 76, 77, 78, 79, 80, 81, 82, 83, 84, 85, 86, 87, 88, 89, 90, 91, 92, 93, 94, 95, 96, 97, 98, 99, 100, 101, 102] [(102, (.bool true))] (by kernel_rfl) ?_
      refine gv_nil ?_
      have e := sj h1; subst e
      refine gv_goal fun a hd hs hok => ?_
      have hB245 := bg hB221 hg209 nb
      have lt246 := ltt lt78 lt226
      have lt247 := ltt lt246 lt229
      have hk248 := ((hb173.grown hg216 nb).grown hg203 (rowne (ng lt247))).grown hg209 nb
      have lt249 := ltt lt77 lt226
      have lt250 := ltt lt249 lt229
      have hk251 := ((hb175.grown hg216 nb).grown hg203 (rowne (ng lt250))).grown hg209 nb
      have hk252 := ((hk228.grown hg198 nb).grown hg203 (rowne (ng lt229))).grown hg209 nb
      exact ⟨hB245, (Nat.le_refl _), hk248, hk251, hk252, hk232, ho213, hd, hs, ok_pick [1, 5, 9, 10, 13, 14, 15, 16, 102] hok (by kernel_rfl)⟩
     ·skip
      replace h1 := ite_f hc244 h1
      refine gv_pureN 1 [73] [(73, (bp b196))] (by kernel_rfl) ?_
      refine gv_load (t := 3) (A := ⟨b196, 0, none⟩) (.int .i64 r191.1) [] (fun e => by cases e) rfl rfl rfl (by kernel_rfl) (by kernel_rfl) (by kernel_rfl) (inw0 (hk232.cell 0 rfl)) rfl ?_
      refine gv_pureN 2 [75, 76] [(76, (.bool (r191.1 == 0)))] (by kernel_rfl) ?_
      refine gv_split (s := 76) (g := (r191.1 == 0)) (by kernel_rfl) (fun hc253 => ?_) (fun hc253 => ?_)
      ·skip
       replace h1 := ite_t hc253 h1
       refine gv_pureN 2 [77, 78] [(77, (.slice a13 (List.length r7.1) c14)), (78, (.slice a211 (List.length r206.1) c212))] (by kernel_rfl) ?_
       refine bindE h1 ?_; clear h1; intro r254 hr255 h1
       have hk256 := hk178.grown hg218 (fun _ h => h.elim) nb
       have ap257 : ¬ (fun k => blk a13 = some k) b196 := fun hx => nl ((lowb hbe200) _ rfl) ((fun k (hk : blk a13 = some k) => hk256.lt k hk) _ hx)
       have hk258 := ((hk178.grown hg216 (fun _ h => h.elim) nb).grown hg203 (fun _ h => h.elim) (rdnn (rowne ap257))).grown hg209 (fun _ h => h.elim) nb
       refine gv_call0 (by kernel_rfl) rfl (by kernel_rfl) enters13 (ref4_Numbers_ok fuel a13 c14 r7.1 a211 c212 r206.1 w208 (fun k => (fun k => blk a13 = some k) k ∨ (fun k => blk a211 = some k) k) (fun k hk => (hk).elim (fun h => (fun k (hk : blk a13 = some k) => hk258.lt k hk) k h) (fun h => (fun k (hk : blk a211 = some k) => ho213.lt k hk) k h)) ((hk258.rd (Y := fun k => blk a13 = some k) (fun _ h => h.elim) (fun g e => e)).wide (fun k hk => (.inl hk))) ((ho213.rd (Y := fun k => blk a211 = some k) (fun _ h => h.elim) (fun g e => e)).wide (fun k hk => (.inr hk))) r254 hr255) ?_
       rintro v261 w259 ⟨hg260, rfl⟩
       refine gv_pureN 2 [80, 81] [(81, (.bool (!r254)))] (by kernel_rfl) ?_
       refine gv_split (s := 81) (g := (!r254)) (by kernel_rfl) (fun hc262 => ?_) (fun hc262 => ?_)
       ·skip
        replace h1 := ite_t hc262 h1
        refine gv_pureN 21 [82, 83, 84, 85, 86, 87, 88, 89, 90, 91, 92, 93, 94, 95, 96, 97, 98, 99, 100, 101, 102] [(102, (.bool true))] (by kernel_rfl) ?_
        refine gv_nil ?_
        have e := sj h1; subst e
        refine gv_goal fun a hd hs hok => ?_
        have hg263 := (grown_trans hg209 hg260)
        have hB264 := bg hB221 hg263 nb
        have hz265 := hg260.size
        have lt266 := ltt lt78 lt226
        have lt267 := ltt lt266 lt229
        have hk268 := ((hb173.grown hg216 nb).grown hg203 (rowne (ng lt267))).grown hg263 nb
        have lt269 := ltt lt77 lt226
        have lt270 := ltt lt269 lt229
        have hk271 := ((hb175.grown hg216 nb).grown hg203 (rowne (ng lt270))).grown hg263 nb
        have hk272 := ((hk228.grown hg198 nb).grown hg203 (rowne (ng lt229))).grown hg263 nb
        have hk273 := hk232.grown hg260 nb
        have hk274 := ho213.grown hg260 (fun _ h => h.elim) nb
        exact ⟨hB264, hz265, hk268, hk271, hk272, hk273, hk274, hd, hs, ok_pick [1, 5, 9, 10, 13, 14, 15, 16, 102] hok (by kernel_rfl)⟩
       ·skip
        replace h1 := ite_f hc262 h1
        refine gv_pureN 8 [82, 83, 84, 85, 86, 87, 88, 89] [(89, (.bool (r48.1 != ((List.length r206.1 : Nat) : Int))))] (by kernel_rfl) ?_
        refine gv_split (s := 89) (g := (r48.1 != ((List.length r206.1 : Nat) : Int))) (by kernel_rfl) (fun hc275 => ?_) (fun hc275 => ?_)
        ·skip
         replace h1 := ite_t hc275 h1
         refine gv_pureN 13 [90, 91, 92, 93, 94, 95, 96, 97, 98, 99, 100, 101, 102] [(102, (.bool true))] (by kernel_rfl) ?_
         refine gv_nil ?_
         have e := sj h1; subst e
         refine gv_goal fun a hd hs hok => ?_
         have hg276 := (grown_trans hg209 hg260)
         have hB277 := bg hB221 hg276 nb
         have hz278 := hg260.size
         have lt279 := ltt lt78 lt226
         have lt280 := ltt lt279 lt229
         have hk281 := ((hb173.grown hg216 nb).grown hg203 (rowne (ng lt280))).grown hg276 nb
         have lt282 := ltt lt77 lt226
         have lt283 := ltt lt282 lt229
         have hk284 := ((hb175.grown hg216 nb).grown hg203 (rowne (ng lt283))).grown hg276 nb
         have hk285 := ((hk228.grown hg198 nb).grown hg203 (rowne (ng lt229))).grown hg276 nb
         have hk286 := hk232.grown hg260 nb
         have hk287 := ho213.grown hg260 (fun _ h => h.elim) nb
         exact ⟨hB277, hz278, hk281, hk284, hk285, hk286, hk287, hd, hs, ok_pick [1, 5, 9, 10, 13, 14, 15, 16, 102] hok (by kernel_rfl)⟩
        ·skip
         replace h1 := ite_f hc275 h1
         refine gv_pureN 1 [90] [(90, (bp b196))] (by kernel_rfl) ?_
         have hk288 := hk232.grown hg260 nb
         refine gv_load (t := 3) (A := ⟨b196, 0, none⟩) (.int .i64 r191.1) [] (fun e => by cases e) rfl rfl rfl (by kernel_rfl) (by kernel_rfl) (by kernel_rfl) (inw0 (hk288.cell 0 rfl)) rfl ?_
         refine gv_pureN 2 [92, 93] [(93, (.bool (r191.1 != 0)))] (by kernel_rfl) ?_
         refine gv_split (s := 93) (g := (r191.1 != 0)) (by kernel_rfl) (fun hc289 => ?_) (fun hc289 => ?_)
         ·skip
          replace h1 := ite_t hc289 h1
          refine gv_pureN 4 [94, 95, 96, 97] [(97, (.bool (decide (((List.length r7.1 : Nat) : Int) > 0))))] (by kernel_rfl) ?_
          refine gv_split (s := 97) (g := (decide (((List.length r7.1 : Nat) : Int) > 0))) (by kernel_rfl) (fun hc290 => ?_) (fun hc290 => ?_)
          ·skip
           replace h1 := ite_t hc290 h1
           refine gv_pureN 5 [98, 99, 100, 101, 102] [(102, (.bool true))] (by kernel_rfl) ?_
           refine gv_sub [1, 5, 9, 10, 13, 14, 15, 16, 102] (σ' := [(1, (.slice pa1_0 (List.length l_1) pc1_0)), (5, (bp b1)), (9, (.string r28.1)), (10, (bp b38)), (13, (.string r80.1)), (14, (bp b89)), (15, (bp b196)), (16, (.slice a211 (List.length r206.1) c212)), (102, (.bool true))]) (by kernel_rfl) ?_
           refine gv_nil ?_
           have e := sj h1; subst e
           refine gv_goal fun a hd hs hok => ?_
           have hg291 := (grown_trans hg209 hg260)
           have hB292 := bg hB221 hg291 nb
           have hz293 := hg260.size
           have lt294 := ltt lt78 lt226
           have lt295 := ltt lt294 lt229
           have hk296 := ((hb173.grown hg216 nb).grown hg203 (rowne (ng lt295))).grown hg291 nb
           have lt297 := ltt lt77 lt226
           have lt298 := ltt lt297 lt229
           have hk299 := ((hb175.grown hg216 nb).grown hg203 (rowne (ng lt298))).grown hg291 nb
           have hk300 := ((hk228.grown hg198 nb).grown hg203 (rowne (ng lt229))).grown hg291 nb
           have hk301 := ho213.grown hg260 (fun _ h => h.elim) nb
           exact ⟨hB292, hz293, hk296, hk299, hk300, hk288, hk301, hd, hs, ok_pick [1, 5, 9, 10, 13, 14, 15, 16, 102] hok (by kernel_rfl)⟩
          ·skip
           replace h1 := ite_f hc290 h1
           refine gv_pureN 5 [98, 99, 100, 101, 102] [(102, (.bool (r48.1 != 0)))] (by kernel_rfl) ?_
           refine gv_sub [1, 5, 9, 10, 13, 14, 15, 16, 102] (σ' := [(1, (.slice pa1_0 (List.length l_1) pc1_0)), (5, (bp b1)), (9, (.string r28.1)), (10, (bp b38)), (13, (.string r80.1)), (14, (bp b89)), (15, (bp b196)), (16, (.slice a211 (List.length r206.1) c212)), (102, (.bool (r48.1 != 0)))]) (by kernel_rfl) ?_
           refine gv_nil ?_
           have e := sj h1; subst e
           refine gv_goal fun a hd hs hok => ?_
           have hg302 := (grown_trans hg209 hg260)
           have hB303 := bg hB221 hg302 nb
           have hz304 := hg260.size
           have lt305 := ltt lt78 lt226
           have lt306 := ltt lt305 lt229
           have hk307 := ((hb173.grown hg216 nb).grown hg203 (rowne (ng lt306))).grown hg302 nb
           have lt308 := ltt lt77 lt226
           have lt309 := ltt lt308 lt229
           have hk310 := ((hb175.grown hg216 nb).grown hg203 (rowne (ng lt309))).grown hg302 nb
           have hk311 := ((hk228.grown hg198 nb).grown hg203 (rowne (ng lt229))).grown hg302 nb
           have hk312 := ho213.grown hg260 (fun _ h => h.elim) nb
           exact ⟨hB303, hz304, hk307, hk310, hk311, hk288, hk312, hd, hs, ok_pick [1, 5, 9, 10, 13, 14, 15, 16, 102] hok (by kernel_rfl)⟩
         ·skip
          replace h1 := ite_f hc289 h1
          refine gv_pureN 9 [94, 95, 96, 97, 98, 99, 100, 101, 102] [(102, (.bool false))] (by kernel_rfl) ?_
          refine gv_nil ?_
          have e := sj h1; subst e
          refine gv_goal fun a hd hs hok => ?_
          have hg313 := (grown_trans hg209 hg260)
          have hB314 := bg hB221 hg313 nb
          have hz315 := hg260.size
          have lt316 := ltt lt78 lt226
          have lt317 := ltt lt316 lt229
          have hk318 := ((hb173.grown hg216 nb).grown hg203 (rowne (ng lt317))).grown hg313 nb
          have lt319 := ltt lt77 lt226
          have lt320 := ltt lt319 lt229
          have hk321 := ((hb175.grown hg216 nb).grown hg203 (rowne (ng lt320))).grown hg313 nb
          have hk322 := ((hk228.grown hg198 nb).grown hg203 (rowne (ng lt229))).grown hg313 nb
          have hk323 := ho213.grown hg260 (fun _ h => h.elim) nb
          exact ⟨hB314, hz315, hk318, hk321, hk322, hk288, hk323, hd, hs, ok_pick [1, 5, 9, 10, 13, 14, 15, 16, 102] hok (by kernel_rfl)⟩
      ·skip
       replace h1 := ite_f hc253 h1
       refine gv_pureN 14 [77, 78, 79, 80, 81, 82, 83, 84, 85, 86, 87, 88, 89, 90] [(89, (.bool false)), (90, (bp b196))] (by kernel_rfl) ?_
       refine gv_load (t := 3) (A := ⟨b196, 0, none⟩) (.int .i64 r191.1) [] (fun e => by cases e) rfl rfl rfl (by kernel_rfl) (by kernel_rfl) (by kernel_rfl) (inw0 (hk232.cell 0 rfl)) rfl ?_
       refine gv_pureN 2 [92, 93] [(93, (.bool (r191.1 != 0)))] (by kernel_rfl) ?_
       refine gv_split (s := 93) (g := (r191.1 != 0)) (by kernel_rfl) (fun hc324 => ?_) (fun hc324 => ?_)
       ·skip
        replace h1 := ite_t hc324 h1
        refine gv_pureN 4 [94, 95, 96, 97] [(97, (.bool (decide (((List.length r7.1 : Nat) : Int) > 0))))] (by kernel_rfl) ?_
        refine gv_split (s := 97) (g := (decide (((List.length r7.1 : Nat) : Int) > 0))) (by kernel_rfl) (fun hc325 => ?_) (fun hc325 => ?_)
        ·skip
         replace h1 := ite_t hc325 h1
         refine gv_pureN 5 [98, 99, 100, 101, 102] [(102, (.bool true))] (by kernel_rfl) ?_
         refine gv_nil ?_
         have e := sj h1; subst e
         refine gv_goal fun a hd hs hok => ?_
         have hB326 := bg hB221 hg209 nb
         have lt327 := ltt lt78 lt226
         have lt328 := ltt lt327 lt229
         have hk329 := ((hb173.grown hg216 nb).grown hg203 (rowne (ng lt328))).grown hg209 nb
         have lt330 := ltt lt77 lt226
         have lt331 := ltt lt330 lt229
         have hk332 := ((hb175.grown hg216 nb).grown hg203 (rowne (ng lt331))).grown hg209 nb
         have hk333 := ((hk228.grown hg198 nb).grown hg203 (rowne (ng lt229))).grown hg209 nb
         exact ⟨hB326, (Nat.le_refl _), hk329, hk332, hk333, hk232, ho213, hd, hs, ok_pick [1, 5, 9, 10, 13, 14, 15, 16, 102] hok (by kernel_rfl)⟩
        ·skip
         replace h1 := ite_f hc325 h1
         refine gv_pureN 5 [98, 99, 100, 101, 102] [(102, (.bool (r48.1 != 0)))] (by kernel_rfl) ?_
         refine gv_nil ?_
         have e := sj h1; subst e
         refine gv_goal fun a hd hs hok => ?_
         have hB334 := bg hB221 hg209 nb
         have lt335 := ltt lt78 lt226
         have lt336 := ltt lt335 lt229
         have hk337 := ((hb173.grown hg216 nb).grown hg203 (rowne (ng lt336))).grown hg209 nb
         have lt338 := ltt lt77 lt226
         have lt339 := ltt lt338 lt229
         have hk340 := ((hb175.grown hg216 nb).grown hg203 (rowne (ng lt339))).grown hg209 nb
         have hk341 := ((hk228.grown hg198 nb).grown hg203 (rowne (ng lt229))).grown hg209 nb
         exact ⟨hB334, (Nat.le_refl _), hk337, hk340, hk341, hk232, ho213, hd, hs, ok_pick [1, 5, 9, 10, 13, 14, 15, 16, 102] hok (by kernel_rfl)⟩
       ·skip
        replace h1 := ite_f hc324 h1
        refine gv_pureN 9 [94, 95, 96, 97, 98, 99, 100, 101, 102] [(102, (.bool false))] (by kernel_rfl) ?_
        refine gv_nil ?_
        have e := sj h1; subst e
        refine gv_goal fun a hd hs hok => ?_
        have hB342 := bg hB221 hg209 nb
        have lt343 := ltt lt78 lt226
        have lt344 := ltt lt343 lt229
        have hk345 := ((hb173.grown hg216 nb).grown hg203 (rowne (ng lt344))).grown hg209 nb
        have lt346 := ltt lt77 lt226
        have lt347 := ltt lt346 lt229
        have hk348 := ((hb175.grown hg216 nb).grown hg203 (rowne (ng lt347))).grown hg209 nb
        have hk349 := ((hk228.grown hg198 nb).grown hg203 (rowne (ng lt229))).grown hg209 nb
        exact ⟨hB342, (Nat.le_refl _), hk345, hk348, hk349, hk232, ho213, hd, hs, ok_pick [1, 5, 9, 10, 13, 14, 15, 16, 102] hok (by kernel_rfl)⟩
   ·rintro a w223 ⟨hB350, hz351, hb352, hb353, hb354, hb355, hk356, hd, hs, hok⟩
    refine gv_in ?_ hd hs hok
    clear hd hs hok
    clear hz351 hB221 hB219 hg218 hB217 hg216 ho213 hg209 hr207 hz205 hz201 hb199 hr192 hl187 ho186 hz185 hbe184 hb183 hc179 hk178 hb176 hb174 hB171 hlo84 lt73 lt70 hg65 hbe62 hg60 hg56 hg45 hbe42 hg40 hg36 hlo33 hg25 hbe22 hg20 hl17 hl16 ho15 hb4
    refine gv_cond (b := j222) (by kernel_rfl) (fun hc357 => ?_) (fun hc357 => ?_)
    ·replace h0 := ite_t hc357 h0
     refine gv_seq <| gv_region <| gv_pureN 1 [6] [(6, (.bool false))] (by kernel_rfl) ?_
     refine gv_nil <| gv_cret ?_
     have e := sj h0; subst e
     refine gv_ret (gv_done [(.bool false)] rfl ⟨(by kernel_rfl), trivial⟩ ?_)
     exact ⟨grown_of_below hB350, rfl⟩
    ·replace h0 := ite_f hc357 h0
     refine gv_skip <| gv_seq <| gv_region <| gv_pureN 1 [103] [(103, (.agg #[(.int .i64 0), (.int .i64 0)]))] (by kernel_rfl) ?_
     refine gv_new0 (fun b => .pointer (some ⟨b, 0, none⟩)) #[(.int .i64 0), (.int .i64 0)] 29 (by kernel_rfl) (by kernel_rfl) ?_
     intro b358 w359 hg360 hb361 hbe362 hz363
     refine gv_store0 29 0 (.agg #[(.int .i64 0), (.int .i64 0)]) #[(.int .i64 0), (.int .i64 0)] hb361 (by kernel_rfl) (by kernel_rfl) (by kernel_rfl) ?_
     intro w364 hg365 hb366 hz367
     clear hz367 hz363 hb361 hc357
     refine gv_nil <| gv_seq <| gv_region <| gv_pureN 1 [19] [(19, (.int .i64 0))] (by kernel_rfl) ?_
     refine gv_nil <| gv_seq <| gv_seq <| gv_region <| gv_pureN 1 [20] [(20, (.int .i64 0))] (by kernel_rfl) ?_
     refine gv_nil <| bindE h0 ?_; clear h0; intro j368 h1 h0
     refine gv_cut_code (J := fun a w369 => Below w0.heap.size w0 w369 ∧ w364.heap.size ≤ w369.heap.size ∧ Box w369 b1 27 #[(.bool p_2.1.1), (.slice pa2_0 (List.length p_2.1.2) pc2_0), (.bool p_2.2.1.1), (.slice pa2_1 (List.length p_2.2.1.2) pc2_1), (.bool p_2.2.2.1.1), (.slice pa2_2 (List.length p_2.2.2.1.2) pc2_2), (.bool p_2.2.2.2.1), (.bool p_2.2.2.2.2.1), (.bool p_2.2.2.2.2.2)] ∧ Box w369 b38 29 #[(.int .i64 r28.2.1), (.int .i64 r28.2.2)] ∧ Box w369 b89 29 #[(.int .i64 r80.2.1), (.int .i64 r80.2.2)] ∧ Box w369 b196 29 #[(.int .i64 r191.1), (.int .i64 r191.2)] ∧ Box w369 b358 29 #[(.int .i64 j368.1), (.int .i64 j368.2)] ∧ Gv.Own (iE .i64) 3 w369 (fun _ => False) a211 c212 r206.1 ∧ a.defers = [] ∧ a.tmps.size = 206 ∧ Ok [(1, (.slice pa1_0 (List.length l_1) pc1_0)), (5, (bp b1)), (9, (.string r28.1)), (10, (bp b38)), (13, (.string r80.1)), (14, (bp b89)), (15, (bp b196)), (16, (.slice a211 (List.length r206.1) c212)), (18, (bp b358))] a.tmps) ?_ ?_
     ·skip
      refine gv_block <| gv_loop (A := fun (s370 : (Int × Int × (Int × Int))) a w371 => Below w0.heap.size w0 w371 ∧ w364.heap.size ≤ w371.heap.size ∧ Box w371 b1 27 #[(.bool p_2.1.1), (.slice pa2_0 (List.length p_2.1.2) pc2_0), (.bool p_2.2.1.1), (.slice pa2_1 (List.length p_2.2.1.2) pc2_1), (.bool p_2.2.2.1.1), (.slice pa2_2 (List.length p_2.2.2.1.2) pc2_2), (.bool p_2.2.2.2.1), (.bool p_2.2.2.2.2.1), (.bool p_2.2.2.2.2.2)] ∧ Box w371 b38 29 #[(.int .i64 r28.2.1), (.int .i64 r28.2.2)] ∧ Box w371 b89 29 #[(.int .i64 r80.2.1), (.int .i64 r80.2.2)] ∧ Box w371 b196 29 #[(.int .i64 r191.1), (.int .i64 r191.2)] ∧ Box w371 b358 29 #[(.int .i64 s370.2.2.1), (.int .i64 s370.2.2.2)] ∧ Gv.Own (iE .i64) 3 w371 (fun _ => False) a211 c212 r206.1 ∧ a.defers = [] ∧ a.tmps.size = 206 ∧ Ok [(1, (.slice pa1_0 (List.length l_1) pc1_0)), (5, (bp b1)), (9, (.string r28.1)), (10, (bp b38)), (13, (.string r80.1)), (14, (bp b89)), (15, (bp b196)), (16, (.slice a211 (List.length r206.1) c212)), (18, (bp b358)), (19, (.int .i64 s370.1)), (20, (.int .i64 s370.2.1))] a.tmps) h1 ?_ ?_
      ·intro a hd hs hok
       have hB372 := bg hB350 hg360 nb
       have hlo373 : w0.heap.size ≤ b358 := lob hbe362 hB350.size
       have hB374 := bg hB372 hg365 (rowlo hlo373)
       have hk375 := hb66.grown hg87 nb
       have lt376 := ltl ((ltb hk375) _ rfl) ((lowb hbe93) _ rfl)
       have lt377 := ltt lt78 lt376
       have hg378 := (grown_trans hg182 hg194)
       have hk379 := hb177.grown hg378 nb
       have lt380 := ltl ((ltb hk379) _ rfl) ((lowb hbe200) _ rfl)
       have lt381 := ltt lt377 lt380
       have lt382 := ltl ((ltb hb355) _ rfl) ((lowb hbe362) _ rfl)
       have lt383 := ltt lt381 lt382
       have hk384 := (hb352.grown hg360 nb).grown hg365 (rowne (ng lt383))
       have lt385 := ltt lt77 lt376
       have lt386 := ltt lt385 lt380
       have lt387 := ltt lt386 lt382
       have hk388 := (hb353.grown hg360 nb).grown hg365 (rowne (ng lt387))
       have lt389 := ltt lt380 lt382
       have hk390 := (hb354.grown hg360 nb).grown hg365 (rowne (ng lt389))
       have hk391 := (hb355.grown hg360 nb).grown hg365 (rowne (ng lt382))
       have ap392 : ¬ (fun k => blk a211 = some k) b358 := fun hx => nl ((lowb hbe362) _ rfl) ((fun k (hk : blk a211 = some k) => hk356.lt k hk) _ hx)
       have hk393 := (hk356.grown hg360 (fun _ h => h.elim) nb).grown hg365 (fun _ h => h.elim) (rdnn (rowne ap392))
       exact ⟨hB374, (Nat.le_refl _), hk384, hk388, hk390, hk391, hb366, hk393, hd, hs, ok_pick [1, 5, 9, 10, 13, 14, 15, 16, 18, 19, 20] hok (by kernel_rfl)⟩
      ·rintro s370 r2 h2 hR2 a w371 ⟨hB394, hz395, hb396, hb397, hb398, hb399, hb400, hk401, hd, hs, hok⟩
       refine gv_in ?_ hd hs hok
       clear hd hs hok
       clear hb366 hg365 hg360 hb354 hb353 hb352
       refine gv_seq <| gv_seq <| gv_region <| bindE h2 ?_; clear h2; intro j402 h3 h2
       refine gv_cut_ops (J := fun a w403 => Below w0.heap.size w0 w403 ∧ w371.heap.size ≤ w403.heap.size ∧ Box w403 b1 27 #[(.bool p_2.1.1), (.slice pa2_0 (List.length p_2.1.2) pc2_0), (.bool p_2.2.1.1), (.slice pa2_1 (List.length p_2.2.1.2) pc2_1), (.bool p_2.2.2.1.1), (.slice pa2_2 (List.length p_2.2.2.1.2) pc2_2), (.bool p_2.2.2.2.1), (.bool p_2.2.2.2.2.1), (.bool p_2.2.2.2.2.2)] ∧ Box w403 b38 29 #[(.int .i64 r28.2.1), (.int .i64 r28.2.2)] ∧ Box w403 b89 29 #[(.int .i64 r80.2.1), (.int .i64 r80.2.2)] ∧ Box w403 b196 29 #[(.int .i64 r191.1), (.int .i64 r191.2)] ∧ Box w403 b358 29 #[(.int .i64 s370.2.2.1), (.int .i64 s370.2.2.2)] ∧ Gv.Own (iE .i64) 3 w403 (fun _ => False) a211 c212 r206.1 ∧ a.defers = [] ∧ a.tmps.size = 206 ∧ Ok [(1, (.slice pa1_0 (List.length l_1) pc1_0)), (5, (bp b1)), (9, (.string r28.1)), (10, (bp b38)), (13, (.string r80.1)), (14, (bp b89)), (15, (bp b196)), (16, (.slice a211 (List.length r206.1) c212)), (18, (bp b358)), (19, (.int .i64 s370.1)), (20, (.int .i64 s370.2.1)), (112, (.bool j402))] a.tmps) ?_ ?_
       ·skip
        refine gv_pureN 5 [104, 105, 106, 107, 108] [(108, (.bool (decide (s370.2.1 < ((List.length l_1 : Nat) : Int)))))] (by kernel_rfl) ?_
        refine gv_split (s := 108) (g := (decide (s370.2.1 < ((List.length l_1 : Nat) : Int)))) (by kernel_rfl) (fun hc404 => ?_) (fun hc404 => ?_)
        ·skip
         replace h3 := ite_t hc404 h3
         refine gv_pureN 1 [109] [(109, (bp b358))] (by kernel_rfl) ?_
         refine gv_load (t := 3) (A := ⟨b358, 0, none⟩) (.int .i64 s370.2.2.1) [] (fun e => by cases e) rfl rfl rfl (by kernel_rfl) (by kernel_rfl) (by kernel_rfl) (inw0 (hb400.cell 0 rfl)) rfl ?_
         refine gv_pureN 2 [111, 112] [(112, (.bool (s370.2.2.1 == 0)))] (by kernel_rfl) ?_
         refine gv_nil ?_
         have e := sj h3; subst e
         refine gv_goal fun a hd hs hok => ?_
         exact ⟨hB394, (Nat.le_refl _), hb396, hb397, hb398, hb399, hb400, hk401, hd, hs, ok_pick [1, 5, 9, 10, 13, 14, 15, 16, 18, 19, 20, 112] hok (by kernel_rfl)⟩
        ·skip
         replace h3 := ite_f hc404 h3
         refine gv_pureN 4 [109, 110, 111, 112] [(112, (.bool false))] (by kernel_rfl) ?_
         refine gv_nil ?_
         have e := sj h3; subst e
         refine gv_goal fun a hd hs hok => ?_
         exact ⟨hB394, (Nat.le_refl _), hb396, hb397, hb398, hb399, hb400, hk401, hd, hs, ok_pick [1, 5, 9, 10, 13, 14, 15, 16, 18, 19, 20, 112] hok (by kernel_rfl)⟩
       ·rintro a w403 ⟨hB405, hz406, hb407, hb408, hb409, hb410, hb411, hk412, hd, hs, hok⟩
        refine gv_in ?_ hd hs hok
        clear hd hs hok
        have hz413 := (nt hz395 hz406)
        clear hz406 hk401 hb400 hb399 hb398 hb397 hb396 hz395 hB394
        refine gv_cond (b := j402) (by kernel_rfl) (fun hc414 => ?_) (fun hc414 => ?_)
        ·replace h2 := ite_t hc414 h2
         refine gv_skip <| gv_seq <| gv_block <| gv_seq <| gv_region <| gv_pureN 2 [115, 116] [(115, (.slice pa1_0 (List.length l_1) pc1_0)), (116, (.int .i64 s370.2.1))] (by kernel_rfl) ?_
         refine bindE h2 ?_; clear h2; intro x415 hx416 h2
         refine gv_idxaddr (t := 22) (e := 3) (a := pa1_0) (len := List.length l_1) (cap := pc1_0) (kk := .i64) (i := s370.2.1) (sz := 1) [] (fun e => by cases e) rfl rfl rfl (by kernel_rfl) (by kernel_rfl) Tryz.underlying22 (by kernel_rfl) ((hpa1_0.below hB405 hX0).has hx416) (idx_spec hx416).1 (idx_spec hx416).2.1 rfl ?_
         refine gv_load (t := 3) (A := (elemAddr pa1_0 ((s370.2.1 : Int).toNat * 1))) (.int .i64 x415) [] (fun e => by cases e) rfl rfl rfl (by kernel_rfl) (by kernel_rfl) (by kernel_rfl) (inw0 ((hpa1_0.below hB405 hX0).cell hx416)) rfl ?_
         refine bindE h2 ?_; clear h2; intro r417 hr418 h2
         refine gv_call0 (by kernel_rfl) rfl (by kernel_rfl) enters14 (ref4_Scalar_ok fuel x415 w403  r417 hr418) ?_
         rintro v421 w419 ⟨hg420, rfl⟩
         refine gv_pureN 1 [120] [(120, (.bool (!r417)))] (by kernel_rfl) ?_
         refine gv_nil <| bindE h2 ?_; clear h2; intro j422 h3 h2
         refine gv_cut_code (J := fun a w423 => Below w0.heap.size w0 w423 ∧ w419.heap.size ≤ w423.heap.size ∧ Box w423 b1 27 #[(.bool p_2.1.1), (.slice pa2_0 (List.length p_2.1.2) pc2_0), (.bool p_2.2.1.1), (.slice pa2_1 (List.length p_2.2.1.2) pc2_1), (.bool p_2.2.2.1.1), (.slice pa2_2 (List.length p_2.2.2.1.2) pc2_2), (.bool p_2.2.2.2.1), (.bool p_2.2.2.2.2.1), (.bool p_2.2.2.2.2.2)] ∧ Box w423 b38 29 #[(.int .i64 r28.2.1), (.int .i64 r28.2.2)] ∧ Box w423 b89 29 #[(.int .i64 r80.2.1), (.int .i64 r80.2.2)] ∧ Box w423 b196 29 #[(.int .i64 r191.1), (.int .i64 r191.2)] ∧ Box w423 b358 29 #[(.int .i64 j422.2.1), (.int .i64 j422.2.2)] ∧ Gv.Own (iE .i64) 3 w423 (fun _ => False) a211 c212 r206.1 ∧ a.defers = [] ∧ a.tmps.size = 206 ∧ Ok [(1, (.slice pa1_0 (List.length l_1) pc1_0)), (5, (bp b1)), (9, (.string r28.1)), (10, (bp b38)), (13, (.string r80.1)), (14, (bp b89)), (15, (bp b196)), (16, (.slice a211 (List.length r206.1) c212)), (18, (bp b358)), (19, (.int .i64 j422.1)), (20, (.int .i64 s370.2.1))] a.tmps) ?_ ?_
         ·skip
          refine gv_cond (b := (!r417)) (by kernel_rfl) (fun hc424 => ?_) (fun hc424 => ?_)
          ·replace h3 := ite_t hc424 h3
           refine gv_region <| gv_pureN 1 [121] [(121, (.int .i64 s370.2.1))] (by kernel_rfl) ?_
           refine bindE h3 ?_; clear h3; intro r425 hr426 h3
           refine gv_call0 (by kernel_rfl) rfl (by kernel_rfl) enters15 (ref4_At_ok fuel 4 s370.2.1 w419  r425 hr426) ?_
           rintro v429 w427 ⟨hg428, rfl⟩
           have hg434 := (grown_trans hg420 hg428)
           have hk435 := hb411.grown hg434 nb
           refine gv_store0 29 0 (.agg #[(.int .i64 r425.1), (.int .i64 r425.2)]) #[(.int .i64 r425.1), (.int .i64 r425.2)] hk435 (by kernel_rfl) (by kernel_rfl) (by kernel_rfl) ?_
           intro w430 hg431 hb432 hz433
           refine gv_nil ?_
           have e := sj h3; subst e
           refine gv_goal fun a hd hs hok => ?_
           have hB436 := bg hB405 hg434 nb
           have hlo437 : w0.heap.size ≤ b358 := lob hbe362 hB350.size
           have hB438 := bg hB436 hg431 (rowlo hlo437)
           have hz439 := (nt hg428.size hg431.size)
           have hk440 := hb66.grown hg87 nb
           have lt441 := ltl ((ltb hk440) _ rfl) ((lowb hbe93) _ rfl)
           have lt442 := ltt lt78 lt441
           have hg443 := (grown_trans hg182 hg194)
           have hk444 := hb177.grown hg443 nb
           have lt445 := ltl ((ltb hk444) _ rfl) ((lowb hbe200) _ rfl)
           have lt446 := ltt lt442 lt445
           have lt447 := ltl ((ltb hb355) _ rfl) ((lowb hbe362) _ rfl)
           have lt448 := ltt lt446 lt447
           have hk449 := (hb407.grown hg434 nb).grown hg431 (rowne (ng lt448))
           have lt450 := ltt lt77 lt441
           have lt451 := ltt lt450 lt445
           have lt452 := ltt lt451 lt447
           have hk453 := (hb408.grown hg434 nb).grown hg431 (rowne (ng lt452))
           have lt454 := ltt lt445 lt447
           have hk455 := (hb409.grown hg434 nb).grown hg431 (rowne (ng lt454))
           have hk456 := (hb410.grown hg434 nb).grown hg431 (rowne (ng lt447))
           have ap457 : ¬ (fun k => blk a211 = some k) b358 := fun hx => nl ((lowb hbe362) _ rfl) ((fun k (hk : blk a211 = some k) => hk356.lt k hk) _ hx)
           have hk458 := (hk412.grown hg434 (fun _ h => h.elim) nb).grown hg431 (fun _ h => h.elim) (rdnn (rowne ap457))
           exact ⟨hB438, hz439, hk449, hk453, hk455, hk456, hb432, hk458, hd, hs, ok_pick [1, 5, 9, 10, 13, 14, 15, 16, 18, 19, 20] hok (by kernel_rfl)⟩
          ·replace h3 := ite_f hc424 h3
           refine gv_seq <| gv_region <| gv_pureN 5 [123, 124, 125, 126, 127] [(123, (.int .i64 s370.1)), (124, (.slice pa1_0 (List.length l_1) pc1_0)), (125, (.int .i64 s370.2.1)), (127, (.int .i64 (IntKind.i64.wrap (s370.2.1 + 1))))] (by kernel_rfl) ?_
           refine bindE h3 ?_; clear h3; intro x459 hx460 h3
           have hB464 := bg hB405 hg420 nb
           refine gv_ssl2 (iE .i64) (t := 22) (e := 3) (xs := l_1) (a := pa1_0) (cap := pc1_0) (lo := (some (.int .i64 s370.2.1))) (hi := (some (.int .i64 (IntKind.i64.wrap (s370.2.1 + 1))))) s370.2.1 (IntKind.i64.wrap (s370.2.1 + 1)) x459 (fun e => by cases e) rfl rfl rfl (by kernel_rfl) (by kernel_rfl) Tryz.underlying22 (by kernel_rfl) (.inr ⟨_, rfl⟩) (.inr ⟨_, rfl⟩) hx460 (hpa1_0.below hB464 hX0).1 ?_
           intro a461 c462 hsub463
           have hp465 := hsub463 _ _ hpa1_0
           refine bindE h3 ?_; clear h3; intro r466 hr467 h3
           refine gv_call0 (by kernel_rfl) rfl (by kernel_rfl) enters16 (ref4_Encoded_ok fuel a461 c462 x459 w419 (fun k => X0 k) (fun k hk => (fun k (hk : X0 k) => ltl (hX0 k hk) hB464.size) k hk) ((hp465.below hB464 hX0).wide (fun k hk => hk)) r466 hr467) ?_
           rintro v470 w468 ⟨hg469, a471, c472, rfl, ho473, hl474⟩
           have hl475 : ∀ g, blk a471 = some g → w0.heap.size ≤ g := fun g e => Nat.le_trans hB464.size (hl474 g e)
           refine gv_pureN 3 [19, 130, 131] [(19, (.int .i64 (IntKind.i64.wrap (s370.1 + ((List.length r466 : Nat) : Int)))))] (by kernel_rfl) ?_
           refine bindE h3 ?_; clear h3; intro n476 hn477 h3
           refine gv_name (s := 19) (v := (.int .i64 (IntKind.i64.wrap (s370.1 + ((List.length r466 : Nat) : Int))))) (v' := (.int .i64 n476)) (by kernel_rfl) (congrArg (Value.int .i64) (sj hn477)) ?_
           refine gv_nil <| gv_seq <| gv_region <| gv_pureN 2 [132, 133] [(133, (.bool (decide (n476 > 4000))))] (by kernel_rfl) ?_
           refine gv_nil <| gv_cond (b := (decide (n476 > 4000))) (by kernel_rfl) (fun hc478 => ?_) (fun hc478 => ?_)
           ·replace h3 := ite_t hc478 h3
            refine gv_region <| gv_pureN 1 [134] [(134, (.int .i64 s370.2.1))] (by kernel_rfl) ?_
            refine bindE h3 ?_; clear h3; intro r479 hr480 h3
            refine gv_call0 (by kernel_rfl) rfl (by kernel_rfl) enters15 (ref4_At_ok fuel 3 s370.2.1 w468  r479 hr480) ?_
            rintro v483 w481 ⟨hg482, rfl⟩
            have hg488 := (grown_trans (grown_trans hg420 hg469) hg482)
            have hk489 := hb411.grown hg488 nb
            refine gv_store0 29 0 (.agg #[(.int .i64 r479.1), (.int .i64 r479.2)]) #[(.int .i64 r479.1), (.int .i64 r479.2)] hk489 (by kernel_rfl) (by kernel_rfl) (by kernel_rfl) ?_
            intro w484 hg485 hb486 hz487
            refine gv_nil ?_
            have e := sj h3; subst e
            refine gv_goal fun a hd hs hok => ?_
            have hg490 := (grown_trans hg469 hg482)
            have hB491 := bg hB464 hg490 nb
            have hlo492 : w0.heap.size ≤ b358 := lob hbe362 hB350.size
            have hB493 := bg hB491 hg485 (rowlo hlo492)
            have hz494 := (nt (nt hg469.size hg482.size) hg485.size)
            have hk495 := hb66.grown hg87 nb
            have lt496 := ltl ((ltb hk495) _ rfl) ((lowb hbe93) _ rfl)
            have lt497 := ltt lt78 lt496
            have hg498 := (grown_trans hg182 hg194)
            have hk499 := hb177.grown hg498 nb
            have lt500 := ltl ((ltb hk499) _ rfl) ((lowb hbe200) _ rfl)
            have lt501 := ltt lt497 lt500
            have lt502 := ltl ((ltb hb355) _ rfl) ((lowb hbe362) _ rfl)
            have lt503 := ltt lt501 lt502
            have hk504 := (hb407.grown hg488 nb).grown hg485 (rowne (ng lt503))
            have lt505 := ltt lt77 lt496
            have lt506 := ltt lt505 lt500
            have lt507 := ltt lt506 lt502
            have hk508 := (hb408.grown hg488 nb).grown hg485 (rowne (ng lt507))
            have lt509 := ltt lt500 lt502
            have hk510 := (hb409.grown hg488 nb).grown hg485 (rowne (ng lt509))
            have hk511 := (hb410.grown hg488 nb).grown hg485 (rowne (ng lt502))
            have ap512 : ¬ (fun k => blk a211 = some k) b358 := fun hx => nl ((lowb hbe362) _ rfl) ((fun k (hk : blk a211 = some k) => hk356.lt k hk) _ hx)
            have hk513 := (hk412.grown hg488 (fun _ h => h.elim) nb).grown hg485 (fun _ h => h.elim) (rdnn (rowne ap512))
            exact ⟨hB493, hz494, hk504, hk508, hk510, hk511, hb486, hk513, hd, hs, ok_pick [1, 5, 9, 10, 13, 14, 15, 16, 18, 19, 20] hok (by kernel_rfl)⟩
           ·replace h3 := ite_f hc478 h3
            refine gv_skip ?_
            have e := sj h3; subst e
            refine gv_goal fun a hd hs hok => ?_
            have hB514 := bg hB464 hg469 nb
            have hz515 := hg469.size
            have hg516 := (grown_trans hg420 hg469)
            have hk517 := hb407.grown hg516 nb
            have hk518 := hb408.grown hg516 nb
            have hk519 := hb409.grown hg516 nb
            have hk520 := hb410.grown hg516 nb
            have hk521 := hb411.grown hg516 nb
            have hk522 := hk412.grown hg516 (fun _ h => h.elim) nb
            exact ⟨hB514, hz515, hk517, hk518, hk519, hk520, hk521, hk522, hd, hs, ok_pick [1, 5, 9, 10, 13, 14, 15, 16, 18, 19, 20] hok (by kernel_rfl)⟩
         ·rintro a w423 ⟨hB523, hz524, hb525, hb526, hb527, hb528, hb529, hk530, hd, hs, hok⟩
          refine gv_in ?_ hd hs hok
          clear hd hs hok
          have hz531 := (nt (nt hz413 hg420.size) hz524)
          clear hz524 hg420 hr418 hx416 hc414 hz413 hk412 hb411 hb410 hb409 hb408 hb407 hB405
          refine gv_blk <| gv_region <| gv_pureN 3 [20, 113, 114] [(20, (.int .i64 (IntKind.i64.wrap (s370.2.1 + 1))))] (by kernel_rfl) ?_
          refine gv_nil ?_
          have e := sj h2; subst e
          refine gv_goal fun a hd hs hok => ?_
          have hz532 := hz531
          exact ⟨(j422.1, (IntKind.i64.wrap (s370.2.1 + 1)), (j422.2.1, j422.2.2)), rfl, hB523, hz532, hb525, hb526, hb527, hb528, hb529, hk530, hd, hs, ok_pick [1, 5, 9, 10, 13, 14, 15, 16, 18, 19, 20] hok (by kernel_rfl)⟩
        ·replace h2 := ite_f hc414 h2
         refine gv_cexit <| gv_exit rfl ?_
         have e := sj h2; subst e
         replace h1 := congrArg some (hR2 _ rfl)
         have e := sj h1; subst e
         refine gv_goal fun a hd hs hok => ?_
         have hz533 := hz413
         exact ⟨hB405, hz533, hb407, hb408, hb409, hb410, hb411, hk412, hd, hs, ok_pick [1, 5, 9, 10, 13, 14, 15, 16, 18] hok (by kernel_rfl)⟩
     ·rintro a w369 ⟨hB534, hz535, hb536, hb537, hb538, hb539, hb540, hk541, hd, hs, hok⟩
      refine gv_in ?_ hd hs hok
      clear hd hs hok
      clear hz535 hb366 hg365 hg360 hb354 hb353 hb352
      refine gv_seq <| gv_seq <| bindE h0 ?_; clear h0; intro j542 h1 h0
      refine gv_cut_code (J := fun a w543 => Below w0.heap.size w0 w543 ∧ w369.heap.size ≤ w543.heap.size ∧ Box w543 b1 27 #[(.bool p_2.1.1), (.slice pa2_0 (List.length p_2.1.2) pc2_0), (.bool p_2.2.1.1), (.slice pa2_1 (List.length p_2.2.1.2) pc2_1), (.bool p_2.2.2.1.1), (.slice pa2_2 (List.length p_2.2.2.1.2) pc2_2), (.bool p_2.2.2.2.1), (.bool p_2.2.2.2.2.1), (.bool p_2.2.2.2.2.2)] ∧ Box w543 b89 29 #[(.int .i64 r80.2.1), (.int .i64 r80.2.2)] ∧ Box w543 b196 29 #[(.int .i64 r191.1), (.int .i64 r191.2)] ∧ Gv.Own (iE .i64) 3 w543 (fun _ => False) a211 c212 r206.1 ∧ a.defers = [] ∧ a.tmps.size = 206 ∧ Ok [(5, (bp b1)), (13, (.string r80.1)), (14, (bp b89)), (15, (bp b196)), (16, (.slice a211 (List.length r206.1) c212)), (159, (.bool j542))] a.tmps) ?_ ?_
      ·skip
       refine gv_drawA (by kernel_rfl) ?_
       intro w544 hg545
       refine gv_pre [0] (bA 24 [0]) 23 (by kernel_rfl) (by kernel_rfl) ?_
       refine gv_pureN 1 [136] [(136, (bp b358))] (by kernel_rfl) ?_
       refine gv_nil <| gv_goA ?_
       refine gv_stage (Cls w544 []) [0, 1] [(1, some true)] (bA 24 [0, 1]) 22 (by kernel_rfl) (by kernel_rfl) (Cls.refl _ _) ?_
       have hC546 := Cls.refl w544 []
       have hk547 := hb540.grown hg545 nb
       refine gv_load (t := 3) (A := ⟨b358, 0, none⟩) (.int .i64 j368.1) [] (fun e => by cases e) rfl rfl rfl (by kernel_rfl) (by kernel_rfl) (by kernel_rfl) (inw1 fun w' hC' => ((hC'.box hk547 nm_nil).cell 0 rfl)) rfl ?_
       refine gv_nil <| gv_goA ?_
       refine gv_pre [2, 3, 4] (bA 24 [0, 1, 2, 3, 4]) 19 (by kernel_rfl) (by kernel_rfl) ?_
       refine gv_pureN 2 [138, 139] [(139, (.bool (j368.1 != 0)))] (by kernel_rfl) ?_
       refine gv_split (s := 139) (g := (j368.1 != 0)) (by kernel_rfl) (fun hc548 => ?_) (fun hc548 => ?_)
       ·skip
        replace h1 := ite_t hc548 h1
        refine gv_pureN 1 [140] [(140, (.string r28.1))] (by kernel_rfl) ?_
        refine gv_nil <| gv_goA ?_
        refine gv_stage (Cls w544 []) [0, 1, 2, 3, 4, 5, 6] [(5, some true), (6, some true)] (bA 24 [0, 1, 2, 3, 4, 5, 6]) 17 (by kernel_rfl) (by kernel_rfl) (Cls.refl _ _) ?_
        have hC549 := Cls.refl w544 []
        have hk550 := hb537.grown hg545 nb
        refine gv_loadBox (t := 29) (b := b38) (t' := 29) (fr := (0, 0)) #[(.int .i64 r28.2.1), (.int .i64 r28.2.2)] [] (fun e => by cases e) rfl rfl rfl (by kernel_rfl) (by kernel_rfl) (by kernel_rfl) (by kernel_rfl) (inw1 fun w' hC' => (hC'.box hk550 nm_nil)) rfl ?_
        refine gv_loadBox (t := 29) (b := b358) (t' := 29) (fr := (0, 0)) #[(.int .i64 j368.1), (.int .i64 j368.2)] [] (fun e => by cases e) rfl rfl rfl (by kernel_rfl) (by kernel_rfl) (by kernel_rfl) (by kernel_rfl) (inw1 fun w' hC' => (hC'.box hk547 nm_nil)) rfl ?_
        refine gv_nil <| gv_goA ?_
        refine gv_stage (fun _ => True) [0, 1, 2, 3, 4, 5, 6, 7] [(7, some false)] (bA 24 [0, 1, 2, 3, 4, 5, 6, 7]) 16 (by kernel_rfl) (by kernel_rfl) trivial ?_
        refine bindE h1 ?_; clear h1; intro r551 hr552 h1
        refine gv_call (f := 17) (vs := [(.string r28.1), (.agg #[(.int .i64 r28.2.1), (.int .i64 r28.2.2)]), (.string (strOf [])), (.agg #[(.int .i64 j368.1), (.int .i64 j368.2)])]) (cap := []) _ (by decide) rfl rfl rfl (by kernel_rfl) (by kernel_rfl) enters17 (law4_text_ok fuel r28.1 (r28.2.1, r28.2.2) (strOf []) (j368.1, j368.2) w544  r551 hr552) ?_
        rintro v555 w553 ⟨hg554, rfl⟩
        refine ⟨(fun _ => trivial), ?_⟩
        clear hr552 hC549 hc548 hC546 hb540 hb537
        refine gv_nil <| gv_goA ?_
        refine gv_pre [8, 9, 10, 11] (bA 24 [0, 1, 2, 3, 4, 5, 6, 7, 8, 9, 10, 11]) 12 (by kernel_rfl) (by kernel_rfl) ?_
        refine gv_pureN 3 [144, 145, 146] [(146, (.bool (!r551)))] (by kernel_rfl) ?_
        refine gv_split (s := 146) (g := (!r551)) (by kernel_rfl) (fun hc556 => ?_) (fun hc556 => ?_)
        ·skip
         replace h1 := ite_t hc556 h1
         refine gv_pureN 1 [147] [(147, undef)] (by kernel_rfl) ?_
         refine gv_nil <| gv_goA ?_
         refine gv_stage (Cls w553 []) [0, 1, 2, 3, 4, 5, 6, 7, 8, 9, 10, 11, 12] [(12, some true)] (bA 24 [0, 1, 2, 3, 4, 5, 6, 7, 8, 9, 10, 11, 12]) 11 (by kernel_rfl) (by kernel_rfl) (Cls.refl _ _) ?_
         have hC557 := Cls.refl w553 []
         refine gv_pureN 1 [148] [(148, undef)] (by kernel_rfl) ?_
         refine gv_nil <| gv_goA ?_
         refine gv_pre [13, 14, 15, 17] (bA 24 [0, 1, 2, 3, 4, 5, 6, 7, 8, 9, 10, 11, 12, 13, 14, 15, 17]) 7 (by kernel_rfl) (by kernel_rfl) ?_
         refine gv_pureN 4 [149, 150, 151, 153] [(150, undef), (151, undef), (153, undef)] (by kernel_rfl) ?_
         refine gv_nil <| gv_goA ?_
         refine gv_stage (Cls w553 []) [0, 1, 2, 3, 4, 5, 6, 7, 8, 9, 10, 11, 12, 13, 14, 15, 16, 17, 18, 19] [(16, some true), (19, some true), (18, some false)] (bA 24 [0, 1, 2, 3, 4, 5, 6, 7, 8, 9, 10, 11, 12, 13, 14, 15, 16, 17, 18, 19]) 4 (by kernel_rfl) (by kernel_rfl) (Cls.refl _ _) ?_
         have hC558 := Cls.refl w553 []
         refine gv_pureNC hC558 3 [152, 154, 155] [(152, undef), (154, undef), (155, undef)] (by kernel_rfl) ?_
         refine gv_nil <| gv_goA ?_
         refine gv_stage (fun _ => True) [0, 1, 2, 3, 4, 5, 6, 7, 8, 9, 10, 11, 12, 13, 14, 15, 16, 17, 18, 19, 20] [(20, some false)] (bA 24 [0, 1, 2, 3, 4, 5, 6, 7, 8, 9, 10, 11, 12, 13, 14, 15, 16, 17, 18, 19, 20]) 3 (by kernel_rfl) (by kernel_rfl) trivial ?_
         refine gv_pureNC trivial 1 [156] [(156, undef)] (by kernel_rfl) ?_
         refine gv_nil <| gv_goA ?_
         refine gv_pre [21, 22, 23] (bA 24 [0, 1, 2, 3, 4, 5, 6, 7, 8, 9, 10, 11, 12, 13, 14, 15, 16, 17, 18, 19, 20, 21, 22, 23]) 0 (by kernel_rfl) (by kernel_rfl) ?_
         refine gv_pureN 3 [157, 158, 159] [(159, (.bool true))] (by kernel_rfl) ?_
         refine gv_sub [5, 13, 14, 15, 16, 159] (σ' := [(5, (bp b1)), (13, (.string r80.1)), (14, (bp b89)), (15, (bp b196)), (16, (.slice a211 (List.length r206.1) c212)), (159, (.bool true))]) (by kernel_rfl) ?_
         refine gv_nil <| gv_goA ?_
         refine gv_stageE (by kernel_rfl) ?_
         have e := sj h1; subst e
         refine gv_goal fun a hd hs hok => ?_
         have hg559 := (grown_trans hg545 hg554)
         have hB560 := bg hB534 hg559 nb
         have hz561 := (nt hg545.size hg554.size)
         have hk562 := hb536.grown hg559 nb
         have hk563 := hb538.grown hg559 nb
         have hk564 := hb539.grown hg559 nb
         have hk565 := hk541.grown hg559 (fun _ h => h.elim) nb
         exact ⟨hB560, hz561, hk562, hk563, hk564, hk565, hd, hs, ok_pick [5, 13, 14, 15, 16, 159] hok (by kernel_rfl)⟩
        ·skip
         replace h1 := ite_f hc556 h1
         refine gv_pureN 1 [147] [(147, (bp b358))] (by kernel_rfl) ?_
         refine gv_nil <| gv_goA ?_
         refine gv_stage (Cls w553 []) [0, 1, 2, 3, 4, 5, 6, 7, 8, 9, 10, 11, 12] [(12, some true)] (bA 24 [0, 1, 2, 3, 4, 5, 6, 7, 8, 9, 10, 11, 12]) 11 (by kernel_rfl) (by kernel_rfl) (Cls.refl _ _) ?_
         have hC566 := Cls.refl w553 []
         have hk567 := hk547.grown hg554 nb
         refine gv_load (t := 3) (A := ⟨b358, 0, none⟩) (.int .i64 j368.1) [] (fun e => by cases e) rfl rfl rfl (by kernel_rfl) (by kernel_rfl) (by kernel_rfl) (inw1 fun w' hC' => ((hC'.box hk567 nm_nil).cell 0 rfl)) rfl ?_
         refine gv_nil <| gv_goA ?_
         refine gv_pre [13, 14, 15, 17] (bA 24 [0, 1, 2, 3, 4, 5, 6, 7, 8, 9, 10, 11, 12, 13, 14, 15, 17]) 7 (by kernel_rfl) (by kernel_rfl) ?_
         refine gv_pureN 2 [149, 150] [(150, (.bool (j368.1 == 0)))] (by kernel_rfl) ?_
         refine gv_split (s := 150) (g := (j368.1 == 0)) (by kernel_rfl) (fun hc568 => ?_) (fun hc568 => ?_)
         ·skip
          replace h1 := ite_t hc568 h1
          refine gv_pureN 2 [151, 153] [(151, (.string r28.1)), (153, (.slice pa1_0 (List.length l_1) pc1_0))] (by kernel_rfl) ?_
          refine gv_nil <| gv_goA ?_
          refine gv_stage (Cls w553 []) [0, 1, 2, 3, 4, 5, 6, 7, 8, 9, 10, 11, 12, 13, 14, 15, 16, 17, 18, 19] [(16, some true), (19, some true), (18, some false)] (bA 24 [0, 1, 2, 3, 4, 5, 6, 7, 8, 9, 10, 11, 12, 13, 14, 15, 16, 17, 18, 19]) 4 (by kernel_rfl) (by kernel_rfl) (Cls.refl _ _) ?_
          have hC569 := Cls.refl w553 []
          have hk570 := hk550.grown hg554 nb
          refine gv_loadBox (t := 29) (b := b38) (t' := 29) (fr := (0, 0)) #[(.int .i64 r28.2.1), (.int .i64 r28.2.2)] [] (fun e => by cases e) rfl rfl rfl (by kernel_rfl) (by kernel_rfl) (by kernel_rfl) (by kernel_rfl) (inw1 fun w' hC' => (hC'.box hk570 nm_nil)) rfl ?_
          refine gv_loadBox (t := 29) (b := b358) (t' := 29) (fr := (0, 0)) #[(.int .i64 j368.1), (.int .i64 j368.2)] [] (fun e => by cases e) rfl rfl rfl (by kernel_rfl) (by kernel_rfl) (by kernel_rfl) (by kernel_rfl) (inw1 fun w' hC' => (hC'.box hk567 nm_nil)) rfl ?_
          refine gv_sub [5, 13, 14, 15, 16, 146, 150, 151, 152, 153, 155] (σ' := [(5, (bp b1)), (13, (.string r80.1)), (14, (bp b89)), (15, (bp b196)), (16, (.slice a211 (List.length r206.1) c212)), (146, (.bool false)), (150, (.bool true)), (151, (.string r28.1)), (152, (.agg #[(.int .i64 r28.2.1), (.int .i64 r28.2.2)])), (153, (.slice pa1_0 (List.length l_1) pc1_0)), (155, (.agg #[(.int .i64 j368.1), (.int .i64 j368.2)]))]) (by kernel_rfl) ?_
          refine bindE h1 ?_; clear h1; intro r571 hr572 h1
          have hg573 := (grown_trans hg545 hg554)
          have hB574 := bg hB534 hg573 nb
          refine gv_call (f := 18) (vs := [(.slice pa1_0 (List.length l_1) pc1_0)]) (cap := []) _ (by decide) rfl rfl rfl (by kernel_rfl) (by kernel_rfl) enters18 (ref4_String_ok fuel pa1_0 pc1_0 l_1 w553 (fun k => X0 k) (fun k hk => (fun k (hk : X0 k) => ltl (hX0 k hk) hB574.size) k hk) ((hpa1_0.below hB574 hX0).wide (fun k hk => hk)) r571 hr572) ?_
          rintro v577 w575 ⟨hg576, rfl⟩
          refine ⟨(fun _ => hC569.grown hg576 nb), ?_⟩
          refine gv_nil <| gv_goA ?_
          refine gv_stage (fun _ => True) [0, 1, 2, 3, 4, 5, 6, 7, 8, 9, 10, 11, 12, 13, 14, 15, 16, 17, 18, 19, 20] [(20, some false)] (bA 24 [0, 1, 2, 3, 4, 5, 6, 7, 8, 9, 10, 11, 12, 13, 14, 15, 16, 17, 18, 19, 20]) 3 (by kernel_rfl) (by kernel_rfl) trivial ?_
          refine bindE h1 ?_; clear h1; intro r578 hr579 h1
          refine gv_call (f := 17) (vs := [(.string r28.1), (.agg #[(.int .i64 r28.2.1), (.int .i64 r28.2.2)]), (.string r571), (.agg #[(.int .i64 j368.1), (.int .i64 j368.2)])]) (cap := []) _ (by decide) rfl rfl rfl (by kernel_rfl) (by kernel_rfl) enters17 (law4_text_ok fuel r28.1 (r28.2.1, r28.2.2) r571 (j368.1, j368.2) w575  r578 hr579) ?_
          rintro v582 w580 ⟨hg581, rfl⟩
          refine ⟨(fun _ => trivial), ?_⟩
          refine gv_nil <| gv_goA ?_
          refine gv_pre [21, 22, 23] (bA 24 [0, 1, 2, 3, 4, 5, 6, 7, 8, 9, 10, 11, 12, 13, 14, 15, 16, 17, 18, 19, 20, 21, 22, 23]) 0 (by kernel_rfl) (by kernel_rfl) ?_
          refine gv_pureN 3 [157, 158, 159] [(159, (.bool (!r578)))] (by kernel_rfl) ?_
          refine gv_nil <| gv_goA ?_
          refine gv_stageE (by kernel_rfl) ?_
          have e := sj h1; subst e
          refine gv_goal fun a hd hs hok => ?_
          have hg583 := (grown_trans hg576 hg581)
          have hB584 := bg hB574 hg583 nb
          have hz585 := (nt (nt (nt hg545.size hg554.size) hg576.size) hg581.size)
          have hg586 := (grown_trans hg573 hg583)
          have hk587 := hb536.grown hg586 nb
          have hk588 := hb538.grown hg586 nb
          have hk589 := hb539.grown hg586 nb
          have hk590 := hk541.grown hg586 (fun _ h => h.elim) nb
          exact ⟨hB584, hz585, hk587, hk588, hk589, hk590, hd, hs, ok_pick [5, 13, 14, 15, 16, 159] hok (by kernel_rfl)⟩
         ·skip
          replace h1 := ite_f hc568 h1
          refine gv_pureN 2 [151, 153] [(151, undef), (153, undef)] (by kernel_rfl) ?_
          refine gv_nil <| gv_goA ?_
          refine gv_stage (Cls w553 []) [0, 1, 2, 3, 4, 5, 6, 7, 8, 9, 10, 11, 12, 13, 14, 15, 16, 17, 18, 19] [(16, some true), (19, some true), (18, some false)] (bA 24 [0, 1, 2, 3, 4, 5, 6, 7, 8, 9, 10, 11, 12, 13, 14, 15, 16, 17, 18, 19]) 4 (by kernel_rfl) (by kernel_rfl) (Cls.refl _ _) ?_
          have hC591 := Cls.refl w553 []
          refine gv_pureNC hC591 3 [152, 154, 155] [(152, undef), (154, undef), (155, undef)] (by kernel_rfl) ?_
          refine gv_nil <| gv_goA ?_
          refine gv_stage (fun _ => True) [0, 1, 2, 3, 4, 5, 6, 7, 8, 9, 10, 11, 12, 13, 14, 15, 16, 17, 18, 19, 20] [(20, some false)] (bA 24 [0, 1, 2, 3, 4, 5, 6, 7, 8, 9, 10, 11, 12, 13, 14, 15, 16, 17, 18, 19, 20]) 3 (by kernel_rfl) (by kernel_rfl) trivial ?_
          refine gv_pureNC trivial 1 [156] [(156, undef)] (by kernel_rfl) ?_
          refine gv_sub [5, 13, 14, 15, 16, 146, 150, 156] (σ' := [(5, (bp b1)), (13, (.string r80.1)), (14, (bp b89)), (15, (bp b196)), (16, (.slice a211 (List.length r206.1) c212)), (146, (.bool false)), (150, (.bool false)), (156, undef)]) (by kernel_rfl) ?_
          refine gv_nil <| gv_goA ?_
          refine gv_pre [21, 22, 23] (bA 24 [0, 1, 2, 3, 4, 5, 6, 7, 8, 9, 10, 11, 12, 13, 14, 15, 16, 17, 18, 19, 20, 21, 22, 23]) 0 (by kernel_rfl) (by kernel_rfl) ?_
          refine gv_pureN 3 [157, 158, 159] [(159, (.bool false))] (by kernel_rfl) ?_
          refine gv_nil <| gv_goA ?_
          refine gv_stageE (by kernel_rfl) ?_
          have e := sj h1; subst e
          refine gv_goal fun a hd hs hok => ?_
          have hg592 := (grown_trans hg545 hg554)
          have hB593 := bg hB534 hg592 nb
          have hz594 := (nt hg545.size hg554.size)
          have hk595 := hb536.grown hg592 nb
          have hk596 := hb538.grown hg592 nb
          have hk597 := hb539.grown hg592 nb
          have hk598 := hk541.grown hg592 (fun _ h => h.elim) nb
          exact ⟨hB593, hz594, hk595, hk596, hk597, hk598, hd, hs, ok_pick [5, 13, 14, 15, 16, 159] hok (by kernel_rfl)⟩
       ·skip
        replace h1 := ite_f hc548 h1
        refine gv_pureN 1 [140] [(140, undef)] (by kernel_rfl) ?_
        refine gv_nil <| gv_goA ?_
        refine gv_stage (Cls w544 []) [0, 1, 2, 3, 4, 5, 6] [(5, some true), (6, some true)] (bA 24 [0, 1, 2, 3, 4, 5, 6]) 17 (by kernel_rfl) (by kernel_rfl) (Cls.refl _ _) ?_
        have hC599 := Cls.refl w544 []
        refine gv_pureN 2 [141, 142] [(141, undef), (142, undef)] (by kernel_rfl) ?_
        refine gv_nil <| gv_goA ?_
        refine gv_stage (fun _ => True) [0, 1, 2, 3, 4, 5, 6, 7] [(7, some false)] (bA 24 [0, 1, 2, 3, 4, 5, 6, 7]) 16 (by kernel_rfl) (by kernel_rfl) trivial ?_
        refine gv_pureNC trivial 1 [143] [(143, undef)] (by kernel_rfl) ?_
        refine gv_nil <| gv_goA ?_
        refine gv_pre [8, 9, 10, 11] (bA 24 [0, 1, 2, 3, 4, 5, 6, 7, 8, 9, 10, 11]) 12 (by kernel_rfl) (by kernel_rfl) ?_
        refine gv_pureN 4 [144, 145, 146, 147] [(146, (.bool false)), (147, (bp b358))] (by kernel_rfl) ?_
        refine gv_nil <| gv_goA ?_
        refine gv_stage (Cls w544 []) [0, 1, 2, 3, 4, 5, 6, 7, 8, 9, 10, 11, 12] [(12, some true)] (bA 24 [0, 1, 2, 3, 4, 5, 6, 7, 8, 9, 10, 11, 12]) 11 (by kernel_rfl) (by kernel_rfl) (Cls.refl _ _) ?_
        have hC600 := Cls.refl w544 []
        refine gv_load (t := 3) (A := ⟨b358, 0, none⟩) (.int .i64 j368.1) [] (fun e => by cases e) rfl rfl rfl (by kernel_rfl) (by kernel_rfl) (by kernel_rfl) (inw1 fun w' hC' => ((hC'.box hk547 nm_nil).cell 0 rfl)) rfl ?_
        refine gv_nil <| gv_goA ?_
        refine gv_pre [13, 14, 15, 17] (bA 24 [0, 1, 2, 3, 4, 5, 6, 7, 8, 9, 10, 11, 12, 13, 14, 15, 17]) 7 (by kernel_rfl) (by kernel_rfl) ?_
        refine gv_pureN 2 [149, 150] [(150, (.bool (j368.1 == 0)))] (by kernel_rfl) ?_
        refine gv_split (s := 150) (g := (j368.1 == 0)) (by kernel_rfl) (fun hc601 => ?_) (fun hc601 => ?_)
        ·skip
         replace h1 := ite_t hc601 h1
         refine gv_pureN 2 [151, 153] [(151, (.string r28.1)), (153, (.slice pa1_0 (List.length l_1) pc1_0))] (by kernel_rfl) ?_
         refine gv_nil <| gv_goA ?_
         refine gv_stage (Cls w544 []) [0, 1, 2, 3, 4, 5, 6, 7, 8, 9, 10, 11, 12, 13, 14, 15, 16, 17, 18, 19] [(16, some true), (19, some true), (18, some false)] (bA 24 [0, 1, 2, 3, 4, 5, 6, 7, 8, 9, 10, 11, 12, 13, 14, 15, 16, 17, 18, 19]) 4 (by kernel_rfl) (by kernel_rfl) (Cls.refl _ _) ?_
         have hC602 := Cls.refl w544 []
         have hk603 := hb537.grown hg545 nb
         refine gv_loadBox (t := 29) (b := b38) (t' := 29) (fr := (0, 0)) #[(.int .i64 r28.2.1), (.int .i64 r28.2.2)] [] (fun e => by cases e) rfl rfl rfl (by kernel_rfl) (by kernel_rfl) (by kernel_rfl) (by kernel_rfl) (inw1 fun w' hC' => (hC'.box hk603 nm_nil)) rfl ?_
         refine gv_loadBox (t := 29) (b := b358) (t' := 29) (fr := (0, 0)) #[(.int .i64 j368.1), (.int .i64 j368.2)] [] (fun e => by cases e) rfl rfl rfl (by kernel_rfl) (by kernel_rfl) (by kernel_rfl) (by kernel_rfl) (inw1 fun w' hC' => (hC'.box hk547 nm_nil)) rfl ?_
         refine bindE h1 ?_; clear h1; intro r604 hr605 h1
         have hB606 := bg hB534 hg545 nb
         refine gv_call (f := 18) (vs := [(.slice pa1_0 (List.length l_1) pc1_0)]) (cap := []) _ (by decide) rfl rfl rfl (by kernel_rfl) (by kernel_rfl) enters18 (ref4_String_ok fuel pa1_0 pc1_0 l_1 w544 (fun k => X0 k) (fun k hk => (fun k (hk : X0 k) => ltl (hX0 k hk) hB606.size) k hk) ((hpa1_0.below hB606 hX0).wide (fun k hk => hk)) r604 hr605) ?_
         rintro v609 w607 ⟨hg608, rfl⟩
         refine ⟨(fun _ => hC602.grown hg608 nb), ?_⟩
         refine gv_nil <| gv_goA ?_
         refine gv_stage (fun _ => True) [0, 1, 2, 3, 4, 5, 6, 7, 8, 9, 10, 11, 12, 13, 14, 15, 16, 17, 18, 19, 20] [(20, some false)] (bA 24 [0, 1, 2, 3, 4, 5, 6, 7, 8, 9, 10, 11, 12, 13, 14, 15, 16, 17, 18, 19, 20]) 3 (by kernel_rfl) (by kernel_rfl) trivial ?_
         refine bindE h1 ?_; clear h1; intro r610 hr611 h1
         refine gv_call (f := 17) (vs := [(.string r28.1), (.agg #[(.int .i64 r28.2.1), (.int .i64 r28.2.2)]), (.string r604), (.agg #[(.int .i64 j368.1), (.int .i64 j368.2)])]) (cap := []) _ (by decide) rfl rfl rfl (by kernel_rfl) (by kernel_rfl) enters17 (law4_text_ok fuel r28.1 (r28.2.1, r28.2.2) r604 (j368.1, j368.2) w607  r610 hr611) ?_
         rintro v614 w612 ⟨hg613, rfl⟩
         refine ⟨(fun _ => trivial), ?_⟩
         refine gv_nil <| gv_goA ?_
         refine gv_pre [21, 22, 23] (bA 24 [0, 1, 2, 3, 4, 5, 6, 7, 8, 9, 10, 11, 12, 13, 14, 15, 16, 17, 18, 19, 20, 21, 22, 23]) 0 (by kernel_rfl) (by kernel_rfl) ?_
         refine gv_pureN 3 [157, 158, 159] [(159, (.bool (!r610)))] (by kernel_rfl) ?_
         refine gv_sub [5, 13, 14, 15, 16, 159] (σ' := [(5, (bp b1)), (13, (.string r80.1)), (14, (bp b89)), (15, (bp b196)), (16, (.slice a211 (List.length r206.1) c212)), (159, (.bool (!r610)))]) (by kernel_rfl) ?_
         refine gv_nil <| gv_goA ?_
         refine gv_stageE (by kernel_rfl) ?_
         have e := sj h1; subst e
         refine gv_goal fun a hd hs hok => ?_
         have hg615 := (grown_trans hg608 hg613)
         have hB616 := bg hB606 hg615 nb
         have hz617 := (nt (nt hg545.size hg608.size) hg613.size)
         have hg618 := (grown_trans hg545 hg615)
         have hk619 := hb536.grown hg618 nb
         have hk620 := hb538.grown hg618 nb
         have hk621 := hb539.grown hg618 nb
         have hk622 := hk541.grown hg618 (fun _ h => h.elim) nb
         exact ⟨hB616, hz617, hk619, hk620, hk621, hk622, hd, hs, ok_pick [5, 13, 14, 15, 16, 159] hok (by kernel_rfl)⟩
        ·skip
         replace h1 := ite_f hc601 h1
         refine gv_pureN 2 [151, 153] [(151, undef), (153, undef)] (by kernel_rfl) ?_
         refine gv_nil <| gv_goA ?_
         refine gv_stage (Cls w544 []) [0, 1, 2, 3, 4, 5, 6, 7, 8, 9, 10, 11, 12, 13, 14, 15, 16, 17, 18, 19] [(16, some true), (19, some true), (18, some false)] (bA 24 [0, 1, 2, 3, 4, 5, 6, 7, 8, 9, 10, 11, 12, 13, 14, 15, 16, 17, 18, 19]) 4 (by kernel_rfl) (by kernel_rfl) (Cls.refl _ _) ?_
         have hC623 := Cls.refl w544 []
         refine gv_pureNC hC623 3 [152, 154, 155] [(152, undef), (154, undef), (155, undef)] (by kernel_rfl) ?_
         refine gv_nil <| gv_goA ?_
         refine gv_stage (fun _ => True) [0, 1, 2, 3, 4, 5, 6, 7, 8, 9, 10, 11, 12, 13, 14, 15, 16, 17, 18, 19, 20] [(20, some false)] (bA 24 [0, 1, 2, 3, 4, 5, 6, 7, 8, 9, 10, 11, 12, 13, 14, 15, 16, 17, 18, 19, 20]) 3 (by kernel_rfl) (by kernel_rfl) trivial ?_
         refine gv_pureNC trivial 1 [156] [(156, undef)] (by kernel_rfl) ?_
         refine gv_nil <| gv_goA ?_
         refine gv_pre [21, 22, 23] (bA 24 [0, 1, 2, 3, 4, 5, 6, 7, 8, 9, 10, 11, 12, 13, 14, 15, 16, 17, 18, 19, 20, 21, 22, 23]) 0 (by kernel_rfl) (by kernel_rfl) ?_
         refine gv_pureN 3 [157, 158, 159] [(159, (.bool false))] (by kernel_rfl) ?_
         refine gv_nil <| gv_goA ?_
         refine gv_stageE (by kernel_rfl) ?_
         have e := sj h1; subst e
         refine gv_goal fun a hd hs hok => ?_
         have hB624 := bg hB534 hg545 nb
         have hz625 := hg545.size
         have hk626 := hb536.grown hg545 nb
         have hk627 := hb538.grown hg545 nb
         have hk628 := hb539.grown hg545 nb
         have hk629 := hk541.grown hg545 (fun _ h => h.elim) nb
         exact ⟨hB624, hz625, hk626, hk627, hk628, hk629, hd, hs, ok_pick [5, 13, 14, 15, 16, 159] hok (by kernel_rfl)⟩
      ·rintro a w543 ⟨hB630, hz631, hb632, hb633, hb634, hk635, hd, hs, hok⟩
       refine gv_in ?_ hd hs hok
       clear hd hs hok
       clear hz631 hk541 hb540 hb539 hb538 hb537 hb536 hB534 hbe362 hk356 hb355 hB350 hb175 lt77 lt74 hlo53
       refine gv_cond (b := j542) (by kernel_rfl) (fun hc636 => ?_) (fun hc636 => ?_)
       ·replace h0 := ite_t hc636 h0
        refine gv_seq <| gv_region <| gv_pureN 1 [6] [(6, (.bool false))] (by kernel_rfl) ?_
        refine gv_nil <| gv_cret ?_
        have e := sj h0; subst e
        refine gv_ret (gv_done [(.bool false)] rfl ⟨(by kernel_rfl), trivial⟩ ?_)
        exact ⟨grown_of_below hB630, rfl⟩
       ·replace h0 := ite_f hc636 h0
        refine gv_skip <| gv_seq <| gv_seq <| gv_region <| gv_pureN 1 [160] [(160, (bp b196))] (by kernel_rfl) ?_
        refine gv_load (t := 3) (A := ⟨b196, 0, none⟩) (.int .i64 r191.1) [] (fun e => by cases e) rfl rfl rfl (by kernel_rfl) (by kernel_rfl) (by kernel_rfl) (inw0 (hb634.cell 0 rfl)) rfl ?_
        refine gv_pureN 1 [162] [(162, (.bool (r191.1 == 0)))] (by kernel_rfl) ?_
        refine gv_nil <| bindE h0 ?_; clear h0; intro j637 h1 h0
        refine gv_cut_code (J := fun a w638 => Below w0.heap.size w0 w638 ∧ w543.heap.size ≤ w638.heap.size ∧ Box w638 b1 27 #[(.bool p_2.1.1), (.slice pa2_0 (List.length p_2.1.2) pc2_0), (.bool p_2.2.1.1), (.slice pa2_1 (List.length p_2.2.1.2) pc2_1), (.bool p_2.2.2.1.1), (.slice pa2_2 (List.length p_2.2.2.1.2) pc2_2), (.bool p_2.2.2.2.1), (.bool p_2.2.2.2.2.1), (.bool p_2.2.2.2.2.2)] ∧ Box w638 b89 29 #[(.int .i64 r80.2.1), (.int .i64 r80.2.2)] ∧ Box w638 b196 29 #[(.int .i64 j637.1), (.int .i64 j637.2)] ∧ Gv.Own (iE .i64) 3 w638 (fun _ => False) a211 c212 r206.1 ∧ a.defers = [] ∧ a.tmps.size = 206 ∧ Ok [(5, (bp b1)), (13, (.string r80.1)), (14, (bp b89)), (15, (bp b196)), (16, (.slice a211 (List.length r206.1) c212))] a.tmps) ?_ ?_
        ·skip
         refine gv_cond (b := (r191.1 == 0)) (by kernel_rfl) (fun hc639 => ?_) (fun hc639 => ?_)
         ·replace h1 := ite_t hc639 h1
          refine gv_seq <| gv_region <| gv_loadBox (t := 27) (b := b1) (t' := 27) (fr := (0, 0)) #[(.bool p_2.1.1), (.slice pa2_0 (List.length p_2.1.2) pc2_0), (.bool p_2.2.1.1), (.slice pa2_1 (List.length p_2.2.1.2) pc2_1), (.bool p_2.2.2.1.1), (.slice pa2_2 (List.length p_2.2.2.1.2) pc2_2), (.bool p_2.2.2.2.1), (.bool p_2.2.2.2.2.1), (.bool p_2.2.2.2.2.2)] [] (fun e => by cases e) rfl rfl rfl (by kernel_rfl) (by kernel_rfl) (by kernel_rfl) (by kernel_rfl) (inw0 hb632) rfl ?_
          refine bindE h1 ?_; clear h1; intro r640 hr641 h1
          refine gv_call0 (by kernel_rfl) rfl (by kernel_rfl) enters19 (ref3_SliceFault_ok fuel pa2_0 pc2_0 pa2_1 pc2_1 pa2_2 pc2_2 ((p_2.1.1, p_2.1.2), (p_2.2.1.1, p_2.2.1.2), (p_2.2.2.1.1, p_2.2.2.1.2), p_2.2.2.2.1, p_2.2.2.2.2.1, p_2.2.2.2.2.2) w543 (fun k => X0 k ∨ X0 k ∨ X0 k) (fun k hk => (hk).elim (fun h => (fun k (hk : X0 k) => ltl (hX0 k hk) hB630.size) k h) (fun h => (h).elim (fun h => (fun k (hk : X0 k) => ltl (hX0 k hk) hB630.size) k h) (fun h => (fun k (hk : X0 k) => ltl (hX0 k hk) hB630.size) k h))) ((hpa2_0.below hB630 hX0).wide (fun k hk => (.inl hk))) ((hpa2_1.below hB630 hX0).wide (fun k hk => (.inr (.inl hk)))) ((hpa2_2.below hB630 hX0).wide (fun k hk => (.inr (.inr hk)))) r640 hr641) ?_
          rintro v644 w642 ⟨hg643, rfl⟩
          have hk649 := hb634.grown hg643 nb
          refine gv_store0 29 0 (.agg #[(.int .i64 r640.1), (.int .i64 r640.2)]) #[(.int .i64 r640.1), (.int .i64 r640.2)] hk649 (by kernel_rfl) (by kernel_rfl) (by kernel_rfl) ?_
          intro w645 hg646 hb647 hz648
          refine gv_nil <| gv_seq <| gv_region <| gv_pureN 1 [165] [(165, (bp b196))] (by kernel_rfl) ?_
          refine gv_load (t := 3) (A := ⟨b196, 0, none⟩) (.int .i64 r640.1) [] (fun e => by cases e) rfl rfl rfl (by kernel_rfl) (by kernel_rfl) (by kernel_rfl) (inw0 (hb647.cell 0 rfl)) rfl ?_
          refine gv_pureN 1 [167] [(167, (.bool (r640.1 != 0)))] (by kernel_rfl) ?_
          refine gv_nil <| gv_cond (b := (r640.1 != 0)) (by kernel_rfl) (fun hc650 => ?_) (fun hc650 => ?_)
          ·replace h1 := ite_t hc650 h1
           refine gv_region <| gv_pureN 1 [168] [(168, (.pointer (some ⟨b196, 1, none⟩)))] (by kernel_rfl) ?_
           refine gv_store0 3 1 (.int .i64 (-2)) #[(.int .i64 r640.1), (.int .i64 (-2))] hb647 (by kernel_rfl) (by kernel_rfl) (by kernel_rfl) ?_
           intro w651 hg652 hb653 hz654
           refine gv_nil ?_
           have e := sj h1; subst e
           refine gv_goal fun a hd hs hok => ?_
           have hB655 := bg hB630 hg643 nb
           have hB656 := bg hB655 hg646 (rowlo hlo220)
           have hB657 := bg hB656 hg652 (rowlo hlo220)
           have hz658 := (nt (nt hg643.size hg646.size) hg652.size)
           have hk659 := hb66.grown hg87 nb
           have lt660 := ltl ((ltb hk659) _ rfl) ((lowb hbe93) _ rfl)
           have lt661 := ltt lt78 lt660
           have hg662 := (grown_trans hg182 hg194)
           have hk663 := hb177.grown hg662 nb
           have lt664 := ltl ((ltb hk663) _ rfl) ((lowb hbe200) _ rfl)
           have lt665 := ltt lt661 lt664
           have hk666 := ((hb632.grown hg643 nb).grown hg646 (rowne (ng lt665))).grown hg652 (rowne (ng lt665))
           have hk667 := ((hb633.grown hg643 nb).grown hg646 (rowne (ng lt664))).grown hg652 (rowne (ng lt664))
           have ap668 : ¬ (fun k => blk a211 = some k) b196 := fun hx => nl ((show ∀ k, blk a211 = some k → w202.heap.size ≤ k from hl214) _ hx) ((ltb hb204) _ rfl)
           have hk669 := ((hk635.grown hg643 (fun _ h => h.elim) nb).grown hg646 (fun _ h => h.elim) (rdnn (rowne ap668))).grown hg652 (fun _ h => h.elim) (rdnn (rowne ap668))
           exact ⟨hB657, hz658, hk666, hk667, hb653, hk669, hd, hs, ok_pick [5, 13, 14, 15, 16] hok (by kernel_rfl)⟩
          ·replace h1 := ite_f hc650 h1
           refine gv_skip ?_
           have e := sj h1; subst e
           refine gv_goal fun a hd hs hok => ?_
           have hB670 := bg hB630 hg643 nb
           have hB671 := bg hB670 hg646 (rowlo hlo220)
           have hz672 := (nt hg643.size hg646.size)
           have hk673 := hb66.grown hg87 nb
           have lt674 := ltl ((ltb hk673) _ rfl) ((lowb hbe93) _ rfl)
           have lt675 := ltt lt78 lt674
           have hg676 := (grown_trans hg182 hg194)
           have hk677 := hb177.grown hg676 nb
           have lt678 := ltl ((ltb hk677) _ rfl) ((lowb hbe200) _ rfl)
           have lt679 := ltt lt675 lt678
           have hk680 := (hb632.grown hg643 nb).grown hg646 (rowne (ng lt679))
           have hk681 := (hb633.grown hg643 nb).grown hg646 (rowne (ng lt678))
           have ap682 : ¬ (fun k => blk a211 = some k) b196 := fun hx => nl ((show ∀ k, blk a211 = some k → w202.heap.size ≤ k from hl214) _ hx) ((ltb hb204) _ rfl)
           have hk683 := (hk635.grown hg643 (fun _ h => h.elim) nb).grown hg646 (fun _ h => h.elim) (rdnn (rowne ap682))
           exact ⟨hB671, hz672, hk680, hk681, hb647, hk683, hd, hs, ok_pick [5, 13, 14, 15, 16] hok (by kernel_rfl)⟩
         ·replace h1 := ite_f hc639 h1
          refine gv_skip ?_
          have e := sj h1; subst e
          refine gv_goal fun a hd hs hok => ?_
          exact ⟨hB630, (Nat.le_refl _), hb632, hb633, hb634, hk635, hd, hs, ok_pick [5, 13, 14, 15, 16] hok (by kernel_rfl)⟩
        ·rintro a w638 ⟨hB684, hz685, hb686, hb687, hb688, hk689, hd, hs, hok⟩
         refine gv_in ?_ hd hs hok
         clear hd hs hok
         clear hz685 hc636 hk635 hb634 hb633 hb632 hB630
         refine gv_seq <| gv_seq <| gv_region <| gv_pureN 1 [169] [(169, (bp b196))] (by kernel_rfl) ?_
         refine gv_load (t := 3) (A := ⟨b196, 0, none⟩) (.int .i64 j637.1) [] (fun e => by cases e) rfl rfl rfl (by kernel_rfl) (by kernel_rfl) (by kernel_rfl) (inw0 (hb688.cell 0 rfl)) rfl ?_
         refine gv_pureN 1 [171] [(171, (.bool (j637.1 != 0)))] (by kernel_rfl) ?_
         refine gv_nil <| gv_cond (b := (j637.1 != 0)) (by kernel_rfl) (fun hc690 => ?_) (fun hc690 => ?_)
         ·replace h0 := ite_t hc690 h0
          refine gv_seq <| gv_region <| gv_pureN 1 [172] [(172, (.string r80.1))] (by kernel_rfl) ?_
          refine gv_loadBox (t := 29) (b := b89) (t' := 29) (fr := (0, 0)) #[(.int .i64 r80.2.1), (.int .i64 r80.2.2)] [] (fun e => by cases e) rfl rfl rfl (by kernel_rfl) (by kernel_rfl) (by kernel_rfl) (by kernel_rfl) (inw0 hb687) rfl ?_
          refine gv_loadBox (t := 29) (b := b196) (t' := 29) (fr := (0, 0)) #[(.int .i64 j637.1), (.int .i64 j637.2)] [] (fun e => by cases e) rfl rfl rfl (by kernel_rfl) (by kernel_rfl) (by kernel_rfl) (by kernel_rfl) (inw0 hb688) rfl ?_
          refine bindE h0 ?_; clear h0; intro r691 hr692 h0
          refine gv_call0 (by kernel_rfl) rfl (by kernel_rfl) enters17 (law4_text_ok fuel r80.1 (r80.2.1, r80.2.2) (strOf []) (j637.1, j637.2) w638  r691 hr692) ?_
          rintro v695 w693 ⟨hg694, rfl⟩
          clear hr692 hc690 hk689 hb688 hb687 hb686 hl215 hlo220 hl214 hb204 hg203 hbe200 hg198 hg194 hg182 hb177 hb173 hbe93 hg87 hB85 lt78 hb66 hbe5
          refine gv_pureN 1 [6] [(6, (.bool r691))] (by kernel_rfl) ?_
          refine gv_nil <| gv_cret ?_
          have e := sj h0; subst e
          refine gv_ret (gv_done [(.bool r691)] rfl ⟨(by kernel_rfl), trivial⟩ ?_)
          have hB696 := bg hB684 hg694 nb
          exact ⟨grown_of_below hB696, rfl⟩
         ·replace h0 := ite_f hc690 h0
          refine gv_skip <| gv_seq <| gv_region <| gv_loadBox (t := 27) (b := b1) (t' := 27) (fr := (0, 0)) #[(.bool p_2.1.1), (.slice pa2_0 (List.length p_2.1.2) pc2_0), (.bool p_2.2.1.1), (.slice pa2_1 (List.length p_2.2.1.2) pc2_1), (.bool p_2.2.2.1.1), (.slice pa2_2 (List.length p_2.2.2.1.2) pc2_2), (.bool p_2.2.2.2.1), (.bool p_2.2.2.2.2.1), (.bool p_2.2.2.2.2.2)] [] (fun e => by cases e) rfl rfl rfl (by kernel_rfl) (by kernel_rfl) (by kernel_rfl) (by kernel_rfl) (inw0 hb686) rfl ?_
          refine gv_pureN 2 [178, 179] [(179, (.int .i64 ((List.length r206.1 : Nat) : Int)))] (by kernel_rfl) ?_
          refine bindE h0 ?_; clear h0; intro r697 hr698 h0
          refine gv_call0 (by kernel_rfl) rfl (by kernel_rfl) enters20 (ref3_Places_ok fuel pa2_0 pc2_0 pa2_1 pc2_1 pa2_2 pc2_2 ((p_2.1.1, p_2.1.2), (p_2.2.1.1, p_2.2.1.2), (p_2.2.2.1.1, p_2.2.2.1.2), p_2.2.2.2.1, p_2.2.2.2.2.1, p_2.2.2.2.2.2) ((List.length r206.1 : Nat) : Int) w638 (fun k => X0 k ∨ X0 k ∨ X0 k) (fun k hk => (hk).elim (fun h => (fun k (hk : X0 k) => ltl (hX0 k hk) hB684.size) k h) (fun h => (h).elim (fun h => (fun k (hk : X0 k) => ltl (hX0 k hk) hB684.size) k h) (fun h => (fun k (hk : X0 k) => ltl (hX0 k hk) hB684.size) k h))) ((hpa2_0.below hB684 hX0).wide (fun k hk => (.inl hk))) ((hpa2_1.below hB684 hX0).wide (fun k hk => (.inr (.inl hk)))) ((hpa2_2.below hB684 hX0).wide (fun k hk => (.inr (.inr hk)))) r697 hr698) ?_
          rintro v701 w699 ⟨hg700, a702, c703, rfl, ho704, hl705⟩
          have hl706 : ∀ g, blk a702 = some g → w0.heap.size ≤ g := fun g e => Nat.le_trans hB684.size (hl705 g e)
          refine gv_pureN 7 [21, 22, 23, 176, 181, 182, 183] [(23, (.slice a702 (List.length r697.2.2) c703))] (by kernel_rfl) ?_
          refine gv_nil <| gv_seq <| gv_region <| gv_pureN 1 [24] [(24, (.slice none (List.length ([] : List Int)) 0))] (by kernel_rfl) ?_
          refine gv_nil <| gv_seq <| gv_seq <| gv_region <| gv_pureN 1 [25] [(25, (.int .i64 0))] (by kernel_rfl) ?_
          refine gv_nil <| bindE h0 ?_; clear h0; intro j707 h1 h0
          refine gv_cut_code (J := fun a w708 => ∃ (a24_0j : Option Addr) (c24_0j : Nat), Below w0.heap.size w0 w708 ∧ w699.heap.size ≤ w708.heap.size ∧ Gv.Own (iE .i64) 3 w708 (fun _ => False) a24_0j c24_0j j707 ∧ (∀ g, blk a24_0j = some g → w0.heap.size ≤ g) ∧ (∀ g, blk a24_0j = some g → ¬ (· = b89) g) ∧ (∀ g, blk a24_0j = some g → ¬ (· = b196) g) ∧ ¬ (fun k => blk a24_0j = some k) b89 ∧ ¬ (fun k => blk a24_0j = some k) b196 ∧ Box w708 b89 29 #[(.int .i64 r80.2.1), (.int .i64 r80.2.2)] ∧ Box w708 b196 29 #[(.int .i64 j637.1), (.int .i64 j637.2)] ∧ a.defers = [] ∧ a.tmps.size = 206 ∧ Ok [(13, (.string r80.1)), (14, (bp b89)), (15, (bp b196)), (24, (.slice a24_0j (List.length j707) c24_0j))] a.tmps) ?_ ?_
          ·skip
           refine gv_block <| gv_loop (A := fun (s709 : ((List Int) × Int)) a w710 => ∃ (a24_0j : Option Addr) (c24_0j : Nat), Below w0.heap.size w0 w710 ∧ w699.heap.size ≤ w710.heap.size ∧ Gv.Own (iE .i64) 3 w710 (fun _ => False) a24_0j c24_0j s709.1 ∧ (∀ g, blk a24_0j = some g → w0.heap.size ≤ g) ∧ (∀ g, blk a24_0j = some g → ¬ (· = b89) g) ∧ (∀ g, blk a24_0j = some g → ¬ (· = b196) g) ∧ (∀ g, blk a24_0j = some g → ¬ (fun k => blk a211 = some k) g) ∧ (∀ g, blk a24_0j = some g → ¬ (fun k => blk a702 = some k) g) ∧ ¬ (fun k => blk a24_0j = some k) b89 ∧ ¬ (fun k => blk a24_0j = some k) b196 ∧ (∀ g, blk a211 = some g → ¬ (fun k => blk a24_0j = some k) g) ∧ (∀ g, blk a702 = some g → ¬ (fun k => blk a24_0j = some k) g) ∧ Box w710 b89 29 #[(.int .i64 r80.2.1), (.int .i64 r80.2.2)] ∧ Box w710 b196 29 #[(.int .i64 j637.1), (.int .i64 j637.2)] ∧ Gv.Own (iE .i64) 3 w710 (fun _ => False) a211 c212 r206.1 ∧ Gv.Own (iE .i64) 3 w710 (fun _ => False) a702 c703 r697.2.2 ∧ a.defers = [] ∧ a.tmps.size = 206 ∧ Ok [(13, (.string r80.1)), (14, (bp b89)), (15, (bp b196)), (16, (.slice a211 (List.length r206.1) c212)), (23, (.slice a702 (List.length r697.2.2) c703)), (24, (.slice a24_0j (List.length s709.1) c24_0j)), (25, (.int .i64 s709.2))] a.tmps) h1 ?_ ?_
           ·intro a hd hs hok
            have hB711 := bg hB684 hg700 nb
            have hk712 := hb687.grown hg700 nb
            have hk713 := hb688.grown hg700 nb
            have hk714 := hk689.grown hg700 (fun _ h => h.elim) nb
            exact ⟨none, 0, hB711, (Nat.le_refl _), (Gv.Own.nil (iE .i64) 3 w699 (fun _ => False)), (fun _ h => by cases h), (fun _ h => by cases h), (fun _ h => by cases h), (fun _ h => by cases h), (fun _ h => by cases h), (fun h => by cases h), (fun h => by cases h), (fun _ _ h => by cases h), (fun _ _ h => by cases h), hk712, hk713, hk714, ho704, hd, hs, ok_pick [13, 14, 15, 16, 23, 24, 25] hok (by kernel_rfl)⟩
           ·rintro s709 r2 h2 hR2 a w710 ⟨a717, c718, hB715, hz716, ho719, hl720, ap721, ap722, ap723, ap724, ap725, ap726, ap727, ap728, hb729, hb730, hk731, hk732, hd, hs, hok⟩
            refine gv_in ?_ hd hs hok
            clear hd hs hok
            clear ho704 hg700 hr698 hc690 hb686 hB684 hb173 lt78 hb66 hbe5
            refine gv_seq <| gv_seq <| gv_region <| gv_pureN 4 [184, 185, 186, 187] [(187, (.bool (decide (s709.2 < ((List.length r697.2.2 : Nat) : Int)))))] (by kernel_rfl) ?_
            refine gv_nil <| gv_cond (b := (decide (s709.2 < ((List.length r697.2.2 : Nat) : Int)))) (by kernel_rfl) (fun hc733 => ?_) (fun hc733 => ?_)
            ·replace h2 := ite_t hc733 h2
             refine gv_skip <| gv_seq <| gv_block <| gv_region <| gv_pureN 4 [190, 191, 192, 193] [(190, (.slice a717 (List.length s709.1) c718)), (191, (.slice a211 (List.length r206.1) c212)), (192, (.slice a702 (List.length r697.2.2) c703)), (193, (.int .i64 s709.2))] (by kernel_rfl) ?_
             refine bindE h2 ?_; clear h2; intro x734 hx735 h2
             refine gv_idxaddr (t := 22) (e := 3) (a := a702) (len := List.length r697.2.2) (cap := c703) (kk := .i64) (i := s709.2) (sz := 1) [] (fun e => by cases e) rfl rfl rfl (by kernel_rfl) (by kernel_rfl) Tryz.underlying22 (by kernel_rfl) ((hk732.rd (Y := fun k => blk a702 = some k) (fun _ h => h.elim) (fun g e => e)).has hx735) (idx_spec hx735).1 (idx_spec hx735).2.1 rfl ?_
             refine gv_load (t := 3) (A := (elemAddr a702 ((s709.2 : Int).toNat * 1))) (.int .i64 x734) [] (fun e => by cases e) rfl rfl rfl (by kernel_rfl) (by kernel_rfl) (by kernel_rfl) (inw0 ((hk732.rd (Y := fun k => blk a702 = some k) (fun _ h => h.elim) (fun g e => e)).cell hx735)) rfl ?_
             refine bindE h2 ?_; clear h2; intro x736 hx737 h2
             refine gv_idxaddr (t := 22) (e := 3) (a := a211) (len := List.length r206.1) (cap := c212) (kk := .i64) (i := x734) (sz := 1) [] (fun e => by cases e) rfl rfl rfl (by kernel_rfl) (by kernel_rfl) Tryz.underlying22 (by kernel_rfl) ((hk731.rd (Y := fun k => blk a211 = some k) (fun _ h => h.elim) (fun g e => e)).has hx737) (idx_spec hx737).1 (idx_spec hx737).2.1 rfl ?_
             refine gv_load (t := 3) (A := (elemAddr a211 ((x734 : Int).toNat * 1))) (.int .i64 x736) [] (fun e => by cases e) rfl rfl rfl (by kernel_rfl) (by kernel_rfl) (by kernel_rfl) (inw0 ((hk731.rd (Y := fun k => blk a211 = some k) (fun _ h => h.elim) (fun g e => e)).cell hx737)) rfl ?_
             refine gv_new0 (fun b => .slice (some ⟨b, 0, none⟩) 1 1) #[(.int .i64 x736)] 3 (by kernel_rfl) (by kernel_rfl) ?_
             intro b738 w739 hg740 hb741 hbe742 hz743
             have ho744 : Gv.Own (iE .i64) 3 w739 (fun _ => False) (some ⟨b738, 0, none⟩) 1 ([x736] : List Int) := Box.ownE hb741 ⟨[(.int .i64 x736)], [], rfl, rfl, rfl⟩ (show 1 ≤ maxLen by decide) (fun h => h)
             have hl745 : ∀ g, blk (some ⟨b738, 0, none⟩) = some g → w0.heap.size ≤ g := loo hbe742 hB715.size
             refine bindE h2 ?_; clear h2; intro l749 hx750 h2
             have hk757 := ho719.grown hg740 (fun _ h => h.elim) nb
             refine gv_append (iE .i64) (t := 22) (ty := 22) (e := 3) (a := a717) (ax := (some ⟨b738, 0, none⟩)) (cap := c718) (cx := 1) (xs := s709.1) (ys := ([x736] : List Int)) l749 (X := (fun _ => False)) (Y := (fun k => blk (some ⟨b738, 0, none⟩) = some k)) (by decide) rfl rfl (by kernel_rfl) (by kernel_rfl) Tryz.underlying22 info3 hk757 (ho744.rd (Y := fun k => blk (some ⟨b738, 0, none⟩) = some k) (fun _ h => h.elim) (fun g e => e)) hx750 (.inr fun _ _ _ _ _ h => h) (fun _ h => h.elim) ?_
             intro a751 c752 w753 hg754 ho755 hk756
             refine ⟨(fun e => by cases e), ?_⟩
             have hB759 := bg hB715 hg740 nb
             have hl758 : ∀ g, blk a751 = some g → w0.heap.size ≤ g := blk_step hk756 hl720 hB759.size
             have hk761 := hb729.grown hg740 nb
             have ap760 : ∀ g, blk a751 = some g → ¬ (· = b89) g := blk_neX hk756 ap721 (ltb hk761)
             have ap762 : ¬ (fun k => blk a751 = some k) b89 := fun h => blk_rev hk756 (fun h => (ap725) h) (hk761.lt) h
             have hk764 := hb730.grown hg740 nb
             have ap763 : ∀ g, blk a751 = some g → ¬ (· = b196) g := blk_neX hk756 ap722 (ltb hk764)
             have ap765 : ¬ (fun k => blk a751 = some k) b196 := fun h => blk_rev hk756 (fun h => (ap726) h) (hk764.lt) h
             have hk767 := hk731.grown hg740 (fun _ h => h.elim) nb
             have ap766 : ∀ g, blk a751 = some g → ¬ (fun k => blk a211 = some k) g := blk_neX hk756 ap723 (fun k (hk : blk a211 = some k) => hk767.lt k hk)
             have ap768 : ∀ g, blk a211 = some g → ¬ (fun k => blk a751 = some k) g := fun g e h => blk_rev hk756 (fun h => ((ap727) g e) h) (hk767.lt g e) h
             have hk770 := hk732.grown hg740 (fun _ h => h.elim) nb
             have ap769 : ∀ g, blk a751 = some g → ¬ (fun k => blk a702 = some k) g := blk_neX hk756 ap724 (fun k (hk : blk a702 = some k) => hk770.lt k hk)
             have ap771 : ∀ g, blk a702 = some g → ¬ (fun k => blk a751 = some k) g := fun g e h => blk_rev hk756 (fun h => ((ap728) g e) h) (hk770.lt g e) h
             have ap773 : ∀ g, blk a717 = some g → ¬ (fun k => blk (some ⟨b738, 0, none⟩) = some k) g := fun g e hx => nl ((lowo hbe742) _ hx) ((fun k (hk : blk a717 = some k) => ho719.lt k hk) g e)
             have ap772 : ∀ g, blk a751 = some g → ¬ (fun k => blk (some ⟨b738, 0, none⟩) = some k) g := blk_neX hk756 ap773 (fun k (hk : blk (some ⟨b738, 0, none⟩) = some k) => ho744.lt k hk)
             have ap775 : ∀ g, blk (some ⟨b738, 0, none⟩) = some g → ¬ (fun k => blk a717 = some k) g := fun g e hx => nl ((lowo hbe742) g e) ((fun k (hk : blk a717 = some k) => ho719.lt k hk) _ hx)
             have ap774 : ∀ g, blk (some ⟨b738, 0, none⟩) = some g → ¬ (fun k => blk a751 = some k) g := fun g e h => blk_rev hk756 (fun h => ((ap775) g e) h) (ho744.lt g e) h
             refine gv_pureN 1 [24] [(24, (.slice a751 (List.length l749) c752))] (by kernel_rfl) ?_
             refine gv_nil <| gv_blk <| gv_region <| gv_pureN 3 [25, 188, 189] [(25, (.int .i64 (IntKind.i64.wrap (s709.2 + 1))))] (by kernel_rfl) ?_
             refine gv_nil ?_
             have e := sj h2; subst e
             refine gv_goal fun a hd hs hok => ?_
             have hB776 := bg hB759 hg754 hl720
             have hz777 := (nt (nt hz716 hg740.size) hg754.size)
             have hk778 := hk761.grown hg754 ap721
             have hk779 := hk764.grown hg754 ap722
             have hk780 := hk767.grown hg754 (fun _ h => h.elim) (rdnn ap723)
             have hk781 := hk770.grown hg754 (fun _ h => h.elim) (rdnn ap724)
             exact ⟨(l749, (IntKind.i64.wrap (s709.2 + 1))), rfl, a751, c752, hB776, hz777, ho755, hl758, ap760, ap763, ap766, ap769, ap762, ap765, ap768, ap771, hk778, hk779, hk780, hk781, hd, hs, ok_pick [13, 14, 15, 16, 23, 24, 25] hok (by kernel_rfl)⟩
            ·replace h2 := ite_f hc733 h2
             refine gv_cexit <| gv_exit rfl ?_
             have e := sj h2; subst e
             replace h1 := congrArg some (hR2 _ rfl)
             have e := sj h1; subst e
             refine gv_goal fun a hd hs hok => ?_
             have hz782 := hz716
             exact ⟨a717, c718, hB715, hz782, ho719, hl720, ap721, ap722, ap725, ap726, hb729, hb730, hd, hs, ok_pick [13, 14, 15, 24] hok (by kernel_rfl)⟩
          ·rintro a w708 ⟨a785, c786, hB783, hz784, ho787, hl788, ap789, ap790, ap791, ap792, hb793, hb794, hd, hs, hok⟩
           refine gv_in ?_ hd hs hok
           clear hd hs hok
           clear hz784 hl706 hl705 ho704 hg700 hr698 hc690 hk689 hb688 hb687 hb686 hB684 hl215 hl214 hb204 hg203 hg198 hb173 lt78 hb66 hbe5
           refine gv_seq <| gv_drawA (by kernel_rfl) ?_
           intro w795 hg796
           refine gv_pre [0, 2] (bA 7 [0, 2]) 5 (by kernel_rfl) (by kernel_rfl) ?_
           refine gv_pureN 2 [200, 202] [(200, (.string r80.1)), (202, (.slice a785 (List.length j707) c786))] (by kernel_rfl) ?_
           refine gv_nil <| gv_goA ?_
           refine gv_stage (Cls w795 []) [0, 1, 2, 3, 4] [(1, some true), (4, some true), (3, some false)] (bA 7 [0, 1, 2, 3, 4]) 2 (by kernel_rfl) (by kernel_rfl) (Cls.refl _ _) ?_
           have hC797 := Cls.refl w795 []
           have hk798 := hb793.grown hg796 nb
           refine gv_loadBox (t := 29) (b := b89) (t' := 29) (fr := (0, 0)) #[(.int .i64 r80.2.1), (.int .i64 r80.2.2)] [] (fun e => by cases e) rfl rfl rfl (by kernel_rfl) (by kernel_rfl) (by kernel_rfl) (by kernel_rfl) (inw1 fun w' hC' => (hC'.box hk798 nm_nil)) rfl ?_
           have hk799 := hb794.grown hg796 nb
           refine gv_loadBox (t := 29) (b := b196) (t' := 29) (fr := (0, 0)) #[(.int .i64 j637.1), (.int .i64 j637.2)] [] (fun e => by cases e) rfl rfl rfl (by kernel_rfl) (by kernel_rfl) (by kernel_rfl) (by kernel_rfl) (inw1 fun w' hC' => (hC'.box hk799 nm_nil)) rfl ?_
           refine bindE h0 ?_; clear h0; intro r800 hr801 h0
           have hk802 := ho787.grown hg796 (fun _ h => h.elim) nb
           refine gv_call (f := 18) (vs := [(.slice a785 (List.length j707) c786)]) (cap := []) _ (by decide) rfl rfl rfl (by kernel_rfl) (by kernel_rfl) enters18 (ref4_String_ok fuel a785 c786 j707 w795 (fun k => (fun k => blk a785 = some k) k) (fun k hk => (fun k (hk : blk a785 = some k) => hk802.lt k hk) k hk) ((hk802.rd (Y := fun k => blk a785 = some k) (fun _ h => h.elim) (fun g e => e)).wide (fun k hk => hk)) r800 hr801) ?_
           rintro v805 w803 ⟨hg804, rfl⟩
           refine ⟨(fun _ => hC797.grown hg804 nb), ?_⟩
           refine gv_nil <| gv_goA ?_
           refine gv_stage (fun _ => True) [0, 1, 2, 3, 4, 5] [(5, some false)] (bA 7 [0, 1, 2, 3, 4, 5]) 1 (by kernel_rfl) (by kernel_rfl) trivial ?_
           refine bindE h0 ?_; clear h0; intro r806 hr807 h0
           refine gv_call (f := 17) (vs := [(.string r80.1), (.agg #[(.int .i64 r80.2.1), (.int .i64 r80.2.2)]), (.string r800), (.agg #[(.int .i64 j637.1), (.int .i64 j637.2)])]) (cap := []) _ (by decide) rfl rfl rfl (by kernel_rfl) (by kernel_rfl) enters17 (law4_text_ok fuel r80.1 (r80.2.1, r80.2.2) r800 (j637.1, j637.2) w803  r806 hr807) ?_
           rintro v810 w808 ⟨hg809, rfl⟩
           refine ⟨(fun _ => trivial), ?_⟩
           refine gv_nil <| gv_goA ?_
           refine gv_pre [6] (bA 7 [0, 1, 2, 3, 4, 5, 6]) 0 (by kernel_rfl) (by kernel_rfl) ?_
           refine gv_pureN 1 [6] [(6, (.bool r806))] (by kernel_rfl) ?_
           refine gv_nil <| gv_goA ?_
           refine gv_stageE (by kernel_rfl) ?_
           refine gv_cret ?_
           have e := sj h0; subst e
           refine gv_ret (gv_done [(.bool r806)] rfl ⟨(by kernel_rfl), trivial⟩ ?_)
           have hg811 := (grown_trans (grown_trans hg796 hg804) hg809)
           have hB812 := bg hB783 hg811 nb
           exact ⟨grown_of_below hB812, rfl⟩

end Go.Proofs.YtkmcegicngjhbaaGreatDoor
