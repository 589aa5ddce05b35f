import Derived.Test.YtenjigdaaeiklaaP2
set_option linter.all false
set_option maxHeartbeats 4000000
set_option maxRecDepth 100000
/- Own work, printed by a program of mine: the walk of each function: a call returns what the plain function says. -/
namespace Go.Proofs.Ytenjigdaaeiklaa
open Go.Gv Go.Gv.D Go.RowKit
theorem ref3_Int_Order_ok (fuel : Nat) (pa0_0 : Option Addr) (pc0_0 : Nat) (a_0 : (Bool × (List Int))) (pa1_0 : Option Addr) (pc1_0 : Nat) (b_1 : (Bool × (List Int))) (w0 : World) (X0 : Nat → Prop) (hX0 : ∀ k, X0 k → k < w0.heap.size) (hpa0_0 : Rd (iE .i64) w0 X0 pa0_0 pc0_0 a_0.2) (hpa1_0 : Rd (iE .i64) w0 X0 pa1_0 pc1_0 b_1.2) (r0 : Int) (h0 : ref3_Int_Order fuel a_0 b_1 = some r0) :
    Calls Try.prog 22 ([(.agg #[(.bool a_0.1), (.slice pa0_0 (List.length a_0.2) pc0_0)]), (.agg #[(.bool b_1.1), (.slice pa1_0 (List.length b_1.2) pc1_0)])] : List Value).toArray w0 (Ret fun v w' => w0.grownBy w' none ∧ v = tup [(.int .i64 r0)]) := by
 have hB0 : Below w0.heap.size w0 w0 := Below.refl _ _
 unfold ref3_Int_Order at h0
 refine calls_run Try.func22 rfl Try.ntmps22 (by kernel_rfl) ?_
 refine gv_sub [0, 1] (σ' := [(0, (.agg #[(.bool a_0.1), (.slice pa0_0 (List.length a_0.2) pc0_0)])), (1, (.agg #[(.bool b_1.1), (.slice pa1_0 (List.length b_1.2) pc1_0)]))]) (by kernel_rfl) ?_
 refine gv_seq <| gv_region <| gv_new0 (fun b => .pointer (some ⟨b, 0, none⟩)) #[(.bool a_0.1), (.slice pa0_0 (List.length a_0.2) pc0_0)] 49 (by kernel_rfl) (by kernel_rfl) ?_
 intro b1 w2 hg3 hb4 hbe5 hz6
 refine gv_new0 (fun b => .pointer (some ⟨b, 0, none⟩)) #[(.bool b_1.1), (.slice pa1_0 (List.length b_1.2) pc1_0)] 49 (by kernel_rfl) (by kernel_rfl) ?_
 intro b7 w8 hg9 hb10 hbe11 hz12
 refine gv_pureN 1 [4] [] (by kernel_rfl) ?_
 refine gv_nil <| gv_seq <| bindE h0 ?_; clear h0; intro j13 h1 h0
 refine gv_cut_code (J := fun a w14 => Below w0.heap.size w0 w14 ∧ w8.heap.size ≤ w14.heap.size ∧ Box w14 b1 49 #[(.bool a_0.1), (.slice pa0_0 (List.length a_0.2) pc0_0)] ∧ Box w14 b7 49 #[(.bool b_1.1), (.slice pa1_0 (List.length b_1.2) pc1_0)] ∧ a.defers = [] ∧ a.tmps.size = 42 ∧ Ok [(2, (bp b1)), (3, (bp b7)), (5, (.bool j13.1)), (6, (.bool j13.2))] a.tmps) ?_ ?_
 ·skip
  refine gv_drawA (by kernel_rfl) ?_
  intro w15 hg16
  refine gv_pre [0, 8] (bA 18 [0, 8]) 16 (by kernel_rfl) (by kernel_rfl) ?_
  refine gv_pureN 2 [7, 15] [(7, (bp b1)), (15, (bp b7))] (by kernel_rfl) ?_
  refine gv_nil <| gv_goA ?_
  refine gv_stage (Cls w15 []) [0, 1, 2, 3, 4, 5, 6, 7, 8, 9, 10, 11, 12, 13, 14, 15, 16] [(1, some true), (2, some true), (3, some true), (4, some true), (5, some true), (6, some true), (7, some true), (9, some true), (10, some true), (11, some true), (12, some true), (13, some true), (14, some true), (15, some true), (16, some true)] (bA 18 [0, 1, 2, 3, 4, 5, 6, 7, 8, 9, 10, 11, 12, 13, 14, 15, 16]) 1 (by kernel_rfl) (by kernel_rfl) (Cls.refl _ _) ?_
  have hC17 := Cls.refl w15 []
  have hg18 := (grown_trans hg9 hg16)
  have hk19 := hb4.grown hg18 nb
  refine gv_load (t := 4) (A := ⟨b1, 0, none⟩) (.bool a_0.1) [] (fun e => by cases e) rfl rfl rfl (by kernel_rfl) (by kernel_rfl) (by kernel_rfl) (inw1 fun w' hC' => ((hC'.box hk19 nm_nil).cell 0 rfl)) rfl ?_
  refine gv_pureN 1 [9] [(9, (.bool a_0.1))] (by kernel_rfl) ?_
  refine gv_split (s := 9) (g := a_0.1) (by kernel_rfl) (fun hc20 => ?_) (fun hc20 => ?_)
  ·skip
   replace h1 := ite_t hc20 h1
   refine gv_pureN 1 [10] [(10, (.pointer (some ⟨b1, 1, none⟩)))] (by kernel_rfl) ?_
   refine gv_load (t := 47) (A := ⟨b1, 1, none⟩) (.slice pa0_0 (List.length a_0.2) pc0_0) [] (fun e => by cases e) rfl rfl rfl (by kernel_rfl) (by kernel_rfl) (by kernel_rfl) (inw1 fun w' hC' => ((hC'.box hk19 nm_nil).cell 1 rfl)) rfl ?_
   refine gv_pureN 3 [12, 13, 14] [(14, (.bool (decide (((List.length a_0.2 : Nat) : Int) > 0))))] (by kernel_rfl) ?_
   have hk21 := hb10.grown hg16 nb
   refine gv_load (t := 4) (A := ⟨b7, 0, none⟩) (.bool b_1.1) [] (fun e => by cases e) rfl rfl rfl (by kernel_rfl) (by kernel_rfl) (by kernel_rfl) (inw1 fun w' hC' => ((hC'.box hk21 nm_nil).cell 0 rfl)) rfl ?_
   refine gv_pureN 1 [17] [(17, (.bool b_1.1))] (by kernel_rfl) ?_
   refine gv_split (s := 17) (g := b_1.1) (by kernel_rfl) (fun hc22 => ?_) (fun hc22 => ?_)
   ·skip
    replace h1 := ite_t hc22 h1
    refine gv_pureN 1 [18] [(18, (.pointer (some ⟨b7, 1, none⟩)))] (by kernel_rfl) ?_
    refine gv_load (t := 47) (A := ⟨b7, 1, none⟩) (.slice pa1_0 (List.length b_1.2) pc1_0) [] (fun e => by cases e) rfl rfl rfl (by kernel_rfl) (by kernel_rfl) (by kernel_rfl) (inw1 fun w' hC' => ((hC'.box hk21 nm_nil).cell 1 rfl)) rfl ?_
    refine gv_pureN 4 [5, 20, 21, 22] [(5, (.bool (decide (((List.length a_0.2 : Nat) : Int) > 0)))), (22, (.bool (decide (((List.length b_1.2 : Nat) : Int) > 0))))] (by kernel_rfl) ?_
    refine gv_sub [2, 3, 5, 22] (σ' := [(2, (bp b1)), (3, (bp b7)), (5, (.bool (decide (((List.length a_0.2 : Nat) : Int) > 0)))), (22, (.bool (decide (((List.length b_1.2 : Nat) : Int) > 0))))]) (by kernel_rfl) ?_
    refine bindE h1 ?_; clear h1; intro n23 hn24 h1
    refine gv_name (s := 5) (v := (.bool (decide (((List.length a_0.2 : Nat) : Int) > 0)))) (v' := (.bool n23)) (by kernel_rfl) (congrArg (Value.bool) (sj hn24)) ?_
    refine gv_nil <| gv_goA ?_
    refine gv_pre [17] (bA 18 [0, 1, 2, 3, 4, 5, 6, 7, 8, 9, 10, 11, 12, 13, 14, 15, 16, 17]) 0 (by kernel_rfl) (by kernel_rfl) ?_
    refine gv_pureN 1 [6] [(6, (.bool (decide (((List.length b_1.2 : Nat) : Int) > 0))))] (by kernel_rfl) ?_
    refine bindE h1 ?_; clear h1; intro n25 hn26 h1
    refine gv_name (s := 6) (v := (.bool (decide (((List.length b_1.2 : Nat) : Int) > 0)))) (v' := (.bool n25)) (by kernel_rfl) (congrArg (Value.bool) (sj hn26)) ?_
    refine gv_nil <| gv_goA ?_
    refine gv_stageE (by kernel_rfl) ?_
    have e := sj h1; subst e
    refine gv_goal fun a hd hs hok => ?_
    have hg27 := (grown_trans hg3 hg18)
    have hB28 := bg hB0 hg27 nb
    have hz29 := hg16.size
    exact ⟨hB28, hz29, hk19, hk21, hd, hs, ok_pick [2, 3, 5, 6] hok (by kernel_rfl)⟩
   ·skip
    replace h1 := ite_f hc22 h1
    refine gv_pureN 6 [5, 18, 19, 20, 21, 22] [(5, (.bool (decide (((List.length a_0.2 : Nat) : Int) > 0)))), (22, (.bool false))] (by kernel_rfl) ?_
    refine bindE h1 ?_; clear h1; intro n30 hn31 h1
    refine gv_name (s := 5) (v := (.bool (decide (((List.length a_0.2 : Nat) : Int) > 0)))) (v' := (.bool n30)) (by kernel_rfl) (congrArg (Value.bool) (sj hn31)) ?_
    refine gv_nil <| gv_goA ?_
    refine gv_pre [17] (bA 18 [0, 1, 2, 3, 4, 5, 6, 7, 8, 9, 10, 11, 12, 13, 14, 15, 16, 17]) 0 (by kernel_rfl) (by kernel_rfl) ?_
    refine gv_pureN 1 [6] [(6, (.bool false))] (by kernel_rfl) ?_
    refine gv_nil <| gv_goA ?_
    refine gv_stageE (by kernel_rfl) ?_
    have e := sj h1; subst e
    refine gv_goal fun a hd hs hok => ?_
    have hg32 := (grown_trans hg3 hg18)
    have hB33 := bg hB0 hg32 nb
    have hz34 := hg16.size
    exact ⟨hB33, hz34, hk19, hk21, hd, hs, ok_pick [2, 3, 5, 6] hok (by kernel_rfl)⟩
  ·skip
   replace h1 := ite_f hc20 h1
   refine gv_pureN 5 [10, 11, 12, 13, 14] [(14, (.bool false))] (by kernel_rfl) ?_
   have hk35 := hb10.grown hg16 nb
   refine gv_load (t := 4) (A := ⟨b7, 0, none⟩) (.bool b_1.1) [] (fun e => by cases e) rfl rfl rfl (by kernel_rfl) (by kernel_rfl) (by kernel_rfl) (inw1 fun w' hC' => ((hC'.box hk35 nm_nil).cell 0 rfl)) rfl ?_
   refine gv_pureN 1 [17] [(17, (.bool b_1.1))] (by kernel_rfl) ?_
   refine gv_split (s := 17) (g := b_1.1) (by kernel_rfl) (fun hc36 => ?_) (fun hc36 => ?_)
   ·skip
    replace h1 := ite_t hc36 h1
    refine gv_pureN 1 [18] [(18, (.pointer (some ⟨b7, 1, none⟩)))] (by kernel_rfl) ?_
    refine gv_load (t := 47) (A := ⟨b7, 1, none⟩) (.slice pa1_0 (List.length b_1.2) pc1_0) [] (fun e => by cases e) rfl rfl rfl (by kernel_rfl) (by kernel_rfl) (by kernel_rfl) (inw1 fun w' hC' => ((hC'.box hk35 nm_nil).cell 1 rfl)) rfl ?_
    refine gv_pureN 4 [5, 20, 21, 22] [(5, (.bool false)), (22, (.bool (decide (((List.length b_1.2 : Nat) : Int) > 0))))] (by kernel_rfl) ?_
    refine gv_nil <| gv_goA ?_
    refine gv_pre [17] (bA 18 [0, 1, 2, 3, 4, 5, 6, 7, 8, 9, 10, 11, 12, 13, 14, 15, 16, 17]) 0 (by kernel_rfl) (by kernel_rfl) ?_
    refine gv_pureN 1 [6] [(6, (.bool (decide (((List.length b_1.2 : Nat) : Int) > 0))))] (by kernel_rfl) ?_
    refine bindE h1 ?_; clear h1; intro n37 hn38 h1
    refine gv_name (s := 6) (v := (.bool (decide (((List.length b_1.2 : Nat) : Int) > 0)))) (v' := (.bool n37)) (by kernel_rfl) (congrArg (Value.bool) (sj hn38)) ?_
    refine gv_nil <| gv_goA ?_
    refine gv_stageE (by kernel_rfl) ?_
    have e := sj h1; subst e
    refine gv_goal fun a hd hs hok => ?_
    have hg39 := (grown_trans hg3 hg18)
    have hB40 := bg hB0 hg39 nb
    have hz41 := hg16.size
    exact ⟨hB40, hz41, hk19, hk35, hd, hs, ok_pick [2, 3, 5, 6] hok (by kernel_rfl)⟩
   ·skip
    replace h1 := ite_f hc36 h1
    refine gv_pureN 6 [5, 18, 19, 20, 21, 22] [(5, (.bool false)), (22, (.bool false))] (by kernel_rfl) ?_
    refine gv_nil <| gv_goA ?_
    refine gv_pre [17] (bA 18 [0, 1, 2, 3, 4, 5, 6, 7, 8, 9, 10, 11, 12, 13, 14, 15, 16, 17]) 0 (by kernel_rfl) (by kernel_rfl) ?_
    refine gv_pureN 1 [6] [(6, (.bool false))] (by kernel_rfl) ?_
    refine gv_nil <| gv_goA ?_
    refine gv_stageE (by kernel_rfl) ?_
    have e := sj h1; subst e
    refine gv_goal fun a hd hs hok => ?_
    have hg42 := (grown_trans hg3 hg18)
    have hB43 := bg hB0 hg42 nb
    have hz44 := hg16.size
    exact ⟨hB43, hz44, hk19, hk35, hd, hs, ok_pick [2, 3, 5, 6] hok (by kernel_rfl)⟩
 ·rintro a w14 ⟨hB45, hz46, hb47, hb48, hd, hs, hok⟩
  refine gv_in ?_ hd hs hok
  clear hd hs hok
  clear hz46 hz12 hb10 hg9 hz6
  refine gv_seq <| gv_block <| gv_seq <| gv_region <| gv_cut_ops (J := fun a w49 => w14 = w49 ∧ a.defers = [] ∧ a.tmps.size = 42 ∧ Ok [(2, (bp b1)), (3, (bp b7)), (5, (.bool j13.1)), (6, (.bool j13.2)), (23, (.bool (j13.1 && j13.2)))] a.tmps) ?_ ?_
  ·skip
   refine gv_pureN 2 [24, 25] [(25, (.bool j13.1))] (by kernel_rfl) ?_
   refine gv_split (s := 25) (g := j13.1) (by kernel_rfl) (fun hc50 => ?_) (fun hc50 => ?_)
   ·skip
    refine gv_pureN 3 [23, 26, 27] [(23, (.bool j13.2))] (by kernel_rfl) ?_
    refine gv_nil <| gv_sub [2, 3, 5, 6, 23] (σ' := [(2, (bp b1)), (3, (bp b7)), (5, (.bool j13.1)), (6, (.bool j13.2)), (23, (.bool j13.2))]) (by kernel_rfl) ?_
    refine gv_goal fun a hd hs hok => ⟨rfl, hd, hs, ?_⟩
    obtain ⟨q2, q3, q5, q6, q23, _⟩ := hok
    exact ⟨q2, q3, q5, q6, (by rw [hc50]; exact q23), trivial⟩
   ·skip
    refine gv_pureN 3 [23, 26, 27] [(23, (.bool false))] (by kernel_rfl) ?_
    refine gv_nil <| gv_sub [2, 3, 5, 6, 23] (σ' := [(2, (bp b1)), (3, (bp b7)), (5, (.bool j13.1)), (6, (.bool j13.2)), (23, (.bool false))]) (by kernel_rfl) ?_
    refine gv_goal fun a hd hs hok => ⟨rfl, hd, hs, ?_⟩
    obtain ⟨q2, q3, q5, q6, q23, _⟩ := hok
    exact ⟨q2, q3, q5, q6, (by rw [hc50]; exact q23), trivial⟩
  ·rintro a w49 ⟨e, hd, hs, hok⟩; subst e
   refine gv_in ?_ hd hs hok
   clear hd hs hok
   refine gv_cond (b := (j13.1 && j13.2)) (by kernel_rfl) (fun hc51 => ?_) (fun hc51 => ?_)
   ·replace h0 := ite_t hc51 h0
    refine gv_seq <| gv_region <| gv_pureN 1 [28] [(28, (.pointer (some ⟨b7, 1, none⟩)))] (by kernel_rfl) ?_
    refine gv_load (t := 47) (A := ⟨b7, 1, none⟩) (.slice pa1_0 (List.length b_1.2) pc1_0) [] (fun e => by cases e) rfl rfl rfl (by kernel_rfl) (by kernel_rfl) (by kernel_rfl) (inw0 (hb48.cell 1 rfl)) rfl ?_
    refine gv_pureN 1 [30] [(30, (.pointer (some ⟨b1, 1, none⟩)))] (by kernel_rfl) ?_
    refine gv_load (t := 47) (A := ⟨b1, 1, none⟩) (.slice pa0_0 (List.length a_0.2) pc0_0) [] (fun e => by cases e) rfl rfl rfl (by kernel_rfl) (by kernel_rfl) (by kernel_rfl) (inw0 (hb47.cell 1 rfl)) rfl ?_
    refine bindE h0 ?_; clear h0; intro r52 hr53 h0
    refine gv_call0 (by kernel_rfl) rfl (by kernel_rfl) enters52 (ref3_Compare_ok fuel pa1_0 pc1_0 b_1.2 pa0_0 pc0_0 a_0.2 w14 (fun k => X0 k ∨ X0 k) (fun k hk => (hk).elim (fun h => (fun k (hk : X0 k) => ltl (hX0 k hk) hB45.size) k h) (fun h => (fun k (hk : X0 k) => ltl (hX0 k hk) hB45.size) k h)) ((hpa1_0.below hB45 hX0).wide (fun k hk => (.inl hk))) ((hpa0_0.below hB45 hX0).wide (fun k hk => (.inr hk))) r52 hr53) ?_
    rintro v56 w54 ⟨hg55, rfl⟩
    refine gv_pureN 1 [4] [(4, (.int .i64 r52))] (by kernel_rfl) ?_
    refine gv_nil <| gv_cret ?_
    have e := sj h0; subst e
    refine gv_ret (gv_done [(.int .i64 r52)] rfl ⟨(by kernel_rfl), trivial⟩ ?_)
    have hB57 := bg hB45 hg55 nb
    exact ⟨grown_of_below hB57, rfl⟩
   ·replace h0 := ite_f hc51 h0
    refine gv_seq <| gv_region <| gv_pureN 2 [33, 34] [(33, (.bool j13.1))] (by kernel_rfl) ?_
    refine gv_nil <| gv_cond (b := j13.1) (by kernel_rfl) (fun hc58 => ?_) (fun hc58 => ?_)
    ·replace h0 := ite_t hc58 h0
     refine gv_seq <| gv_region <| gv_pureN 1 [4] [(4, (.int .i64 (-1)))] (by kernel_rfl) ?_
     refine gv_nil <| gv_cret ?_
     have e := sj h0; subst e
     refine gv_ret (gv_done [(.int .i64 (-1))] rfl ⟨(by kernel_rfl), trivial⟩ ?_)
     exact ⟨grown_of_below hB45, rfl⟩
    ·replace h0 := ite_f hc58 h0
     refine gv_seq <| gv_region <| gv_pureN 2 [35, 36] [(35, (.bool j13.2))] (by kernel_rfl) ?_
     refine gv_nil <| gv_cond (b := j13.2) (by kernel_rfl) (fun hc59 => ?_) (fun hc59 => ?_)
     ·replace h0 := ite_t hc59 h0
      refine gv_seq <| gv_region <| gv_pureN 1 [4] [(4, (.int .i64 1))] (by kernel_rfl) ?_
      refine gv_nil <| gv_cret ?_
      have e := sj h0; subst e
      refine gv_ret (gv_done [(.int .i64 1)] rfl ⟨(by kernel_rfl), trivial⟩ ?_)
      exact ⟨grown_of_below hB45, rfl⟩
     ·replace h0 := ite_f hc59 h0
      refine gv_skip <| gv_blk <| gv_seq <| gv_region <| gv_pureN 1 [37] [(37, (.pointer (some ⟨b1, 1, none⟩)))] (by kernel_rfl) ?_
      refine gv_load (t := 47) (A := ⟨b1, 1, none⟩) (.slice pa0_0 (List.length a_0.2) pc0_0) [] (fun e => by cases e) rfl rfl rfl (by kernel_rfl) (by kernel_rfl) (by kernel_rfl) (inw0 (hb47.cell 1 rfl)) rfl ?_
      refine gv_pureN 1 [39] [(39, (.pointer (some ⟨b7, 1, none⟩)))] (by kernel_rfl) ?_
      refine gv_load (t := 47) (A := ⟨b7, 1, none⟩) (.slice pa1_0 (List.length b_1.2) pc1_0) [] (fun e => by cases e) rfl rfl rfl (by kernel_rfl) (by kernel_rfl) (by kernel_rfl) (inw0 (hb48.cell 1 rfl)) rfl ?_
      refine bindE h0 ?_; clear h0; intro r60 hr61 h0
      refine gv_call0 (by kernel_rfl) rfl (by kernel_rfl) enters52 (ref3_Compare_ok fuel pa0_0 pc0_0 a_0.2 pa1_0 pc1_0 b_1.2 w14 (fun k => X0 k ∨ X0 k) (fun k hk => (hk).elim (fun h => (fun k (hk : X0 k) => ltl (hX0 k hk) hB45.size) k h) (fun h => (fun k (hk : X0 k) => ltl (hX0 k hk) hB45.size) k h)) ((hpa0_0.below hB45 hX0).wide (fun k hk => (.inl hk))) ((hpa1_0.below hB45 hX0).wide (fun k hk => (.inr hk))) r60 hr61) ?_
      rintro v64 w62 ⟨hg63, rfl⟩
      refine gv_pureN 1 [4] [(4, (.int .i64 r60))] (by kernel_rfl) ?_
      refine gv_nil <| gv_cret ?_
      have e := sj h0; subst e
      refine gv_ret (gv_done [(.int .i64 r60)] rfl ⟨(by kernel_rfl), trivial⟩ ?_)
      have hB65 := bg hB45 hg63 nb
      exact ⟨grown_of_below hB65, rfl⟩

theorem ref4_Random_Below_ok (fuel : Nat) (pb0 : Nat) (g_0 : ((Int × Int))) (pa1_0 : Option Addr) (pc1_0 : Nat) (n_1 : (Bool × (List Int))) (w0 : World) (X0 : Nat → Prop) (hX0 : ∀ k, X0 k → k < w0.heap.size ∧ k ≠ pb0) (hp0 : Box w0 pb0 40 #[(.int .u64 g_0.1), (.int .u64 g_0.2)]) (hpa1_0 : Rd (iE .i64) w0 X0 pa1_0 pc1_0 n_1.2) (r0 : ((Bool × (List Int)) × Bool × ((Int × Int)))) (h0 : ref4_Random_Below fuel g_0 n_1 = some r0) :
    Calls Try.prog 19 ([(bp pb0), (.agg #[(.bool n_1.1), (.slice pa1_0 (List.length n_1.2) pc1_0)])] : List Value).toArray w0 (Ret fun v w' => w0.grownBy w' (some pb0) ∧ ∃ (a0_0r : Option Addr) (c0_0r : Nat), ∃ (X0_0r : Nat → Prop), v = tup [(.agg #[(.bool r0.1.1), (.slice a0_0r (List.length r0.1.2) c0_0r)]), (.bool r0.2.1)] ∧ Rd (iE .i64) w' X0_0r a0_0r c0_0r r0.1.2 ∧ (∀ k, X0_0r k → k < w'.heap.size ∧ (X0 k ∨ w0.heap.size ≤ k)) ∧ Box w' pb0 40 #[(.int .u64 r0.2.2.1), (.int .u64 r0.2.2.2)]) := by
 have hB0 : w0.grownBy w0 (some pb0) := grown_refl _ _
 unfold ref4_Random_Below at h0
 refine calls_run Try.func19 rfl Try.ntmps19 (by kernel_rfl) ?_
 refine gv_sub [0, 1] (σ' := [(0, (bp pb0)), (1, (.agg #[(.bool n_1.1), (.slice pa1_0 (List.length n_1.2) pc1_0)]))]) (by kernel_rfl) ?_
 have hpl0 := hp0.lt
 refine gv_seq <| gv_region <| gv_new0 (fun b => .pointer (some ⟨b, 0, none⟩)) #[(.bool n_1.1), (.slice pa1_0 (List.length n_1.2) pc1_0)] 49 (by kernel_rfl) (by kernel_rfl) ?_
 intro b1 w2 hg3 hb4 hbe5 hz6
 refine gv_new0 (fun b => .pointer (some ⟨b, 0, none⟩)) #[(.bool false), (.slice none (List.length ([] : List Int)) 0)] 49 (by kernel_rfl) (by kernel_rfl) ?_
 intro b7 w8 hg9 hb10 hbe11 hz12
 refine gv_pureN 1 [5] [] (by kernel_rfl) ?_
 refine gv_nil <| gv_seq <| gv_drawA (by kernel_rfl) ?_
 intro w13 hg14
 refine gv_stage (Cls w13 []) [0, 1] [(0, some true), (1, some false)] (bA 7 [0, 1]) 5 (by kernel_rfl) (by kernel_rfl) (Cls.refl _ _) ?_
 have hC15 := Cls.refl w13 []
 have hg16 := (grown_trans hg9 hg14)
 have hk17 := hb4.grown hg16 nb
 refine gv_loadBox (t := 49) (b := b1) (t' := 49) (fr := (0, 0)) #[(.bool n_1.1), (.slice pa1_0 (List.length n_1.2) pc1_0)] [] (fun e => by cases e) rfl rfl rfl (by kernel_rfl) (by kernel_rfl) (by kernel_rfl) (by kernel_rfl) (inw1 fun w' hC' => (hC'.box hk17 nm_nil)) rfl ?_
 refine bindE h0 ?_; clear h0; intro r18 hr19 h0
 refine gv_call (f := 25) (vs := [(.int .i64 (-1))]) (cap := []) _ (by decide) rfl rfl rfl (by kernel_rfl) (by kernel_rfl) enters25 (ref3_Number_ok fuel (-1) w13  r18 hr19) ?_
 rintro v22 w20 ⟨hg21, a23, c24, X26, rfl, ho25, hx27⟩
 refine ⟨(fun _ => hC15.grown hg21 nb), ?_⟩
 have hx28 : ∀ k, X26 k → k < w20.heap.size := fun k hk => (hx27 k hk).1
 have hg30 := (grown_trans hg3 hg16)
 have hB31 := grown_step hB0 hg30 nb
 have hx29 : ∀ k, X26 k → X0 k ∨ w0.heap.size ≤ k := fun k hk => (hx27 k hk).2.elim (fun h => h.elim) (fun h => .inr (Nat.le_trans hB31.size h))
 refine gv_nil <| gv_goA ?_
 refine gv_stage (fun _ => True) [0, 1, 2] [(2, some false)] (bA 7 [0, 1, 2]) 4 (by kernel_rfl) (by kernel_rfl) trivial ?_
 refine bindE h0 ?_; clear h0; intro r32 hr33 h0
 have hB34 := grown_step hB31 hg21 nb
 refine gv_call (f := 23) (vs := [(.agg #[(.bool n_1.1), (.slice pa1_0 (List.length n_1.2) pc1_0)]), (.agg #[(.bool r18.1), (.slice a23 (List.length r18.2) c24)])]) (cap := []) _ (by decide) rfl rfl rfl (by kernel_rfl) (by kernel_rfl) enters23 (ref3_Int_Plus_ok fuel pa1_0 pc1_0 (n_1.1, n_1.2) a23 c24 (r18.1, r18.2) w20 (fun k => X0 k ∨ X26 k) (fun k hk => (hk).elim (fun h => (fun k (hk : X0 k) => ltl (hX0 k hk).1 hB34.size) k h) (fun h => hx28 k h)) ((hpa1_0.grown hB34 (fun k hk => (hX0 k hk).1) (fun g e hk => by cases e; exact (hX0 _ hk).2 rfl)).wide (fun k hk => (.inl hk))) (ho25.wide (fun k hk => (.inr hk))) r32 hr33) ?_
 rintro v37 w35 ⟨hg36, a38, c39, X41, rfl, ho40, hx42⟩
 refine ⟨(fun _ => trivial), ?_⟩
 have hx43 : ∀ k, X41 k → k < w35.heap.size := fun k hk => (hx42 k hk).1
 have hx44 : ∀ k, X41 k → X0 k ∨ w0.heap.size ≤ k := fun k hk => (hx42 k hk).2.elim (fun h => (h).elim (fun h => (fun k (hk : X0 k) => Or.inl hk) k h) (fun h => hx29 k h)) (fun h => .inr (Nat.le_trans hB34.size h))
 refine gv_nil <| gv_goA ?_
 refine gv_pre [3] (bA 7 [0, 1, 2, 3]) 3 (by kernel_rfl) (by kernel_rfl) ?_
 refine gv_pureN 1 [16] [(16, (.slice a38 (List.length r32.2) c39))] (by kernel_rfl) ?_
 refine gv_nil <| gv_goA ?_
 refine gv_stage (fun _ => True) [0, 1, 2, 3, 4] [(4, some false)] (bA 7 [0, 1, 2, 3, 4]) 2 (by kernel_rfl) (by kernel_rfl) trivial ?_
 refine bindE h0 ?_; clear h0; intro r45 hr46 h0
 refine gv_call (f := 48) (vs := [(.slice a38 (List.length r32.2) c39)]) (cap := []) _ (by decide) rfl rfl rfl (by kernel_rfl) (by kernel_rfl) enters48 (ref3_Ones_ok fuel a38 c39 r32.2 w35 (fun k => X41 k) (fun k hk => hx43 k hk) (ho40.wide (fun k hk => hk)) r45 hr46) ?_
 rintro v49 w47 ⟨hg48, a50, c51, rfl, ho52, hl53⟩
 refine ⟨(fun _ => trivial), ?_⟩
 have hB55 := grown_step hB34 hg36 nb
 have hl54 : ∀ g, blk a50 = some g → w0.heap.size ≤ g := fun g e => Nat.le_trans hB55.size (hl53 g e)
 refine gv_nil <| gv_goA ?_
 refine gv_pre [5, 6] (bA 7 [0, 1, 2, 3, 4, 5, 6]) 0 (by kernel_rfl) (by kernel_rfl) ?_
 refine gv_pureN 2 [6, 18] [(6, (.int .i64 ((List.length r45 : Nat) : Int)))] (by kernel_rfl) ?_
 refine gv_nil <| gv_goA ?_
 refine gv_stageE (by kernel_rfl) ?_
 refine gv_seq <| gv_seq <| gv_region <| gv_pureN 1 [7] [(7, (.int .i64 0))] (by kernel_rfl) ?_
 refine gv_nil <| bindE h0 ?_; clear h0; intro j56 h1 h0
 refine gv_cut_code (J := fun a w58 => ∃ s57 : (((Int × Int)) × (Bool × (List Int))), j56 = .inl s57 ∧ ∃ (abb7_0j : Option Addr) (cbb7_0j : Nat), w0.grownBy w58 (some pb0) ∧ w47.heap.size ≤ w58.heap.size ∧ Own (iE .i64) 3 w58 (fun _ => False) abb7_0j cbb7_0j s57.2.2 ∧ (∀ g, blk abb7_0j = some g → w0.heap.size ≤ g) ∧ (∀ g, blk abb7_0j = some g → ¬ (· = b7) g) ∧ ¬ (fun k => blk abb7_0j = some k) b7 ∧ Box w58 pb0 40 #[(.int .u64 s57.1.1), (.int .u64 s57.1.2)] ∧ Box w58 b7 49 #[(.bool s57.2.1), (.slice abb7_0j (List.length s57.2.2) cbb7_0j)] ∧ a.defers = [] ∧ a.tmps.size = 59 ∧ Ok [(4, (bp b7))] a.tmps) ?_ ?_
 ·skip
  refine gv_block <| gv_loop (A := fun (s59 : (Int × ((Int × Int)) × (Bool × (List Int)))) a w60 => ∃ (abb7_0j : Option Addr) (cbb7_0j : Nat), w0.grownBy w60 (some pb0) ∧ w47.heap.size ≤ w60.heap.size ∧ Own (iE .i64) 3 w60 (fun _ => False) abb7_0j cbb7_0j s59.2.2.2 ∧ (∀ g, blk abb7_0j = some g → w0.heap.size ≤ g) ∧ (∀ g, blk abb7_0j = some g → ¬ (· = b1) g) ∧ (∀ g, blk abb7_0j = some g → ¬ (· = b7) g) ∧ ¬ (fun k => blk abb7_0j = some k) b1 ∧ ¬ (fun k => blk abb7_0j = some k) b7 ∧ Box w60 pb0 40 #[(.int .u64 s59.2.1.1), (.int .u64 s59.2.1.2)] ∧ Box w60 b1 49 #[(.bool n_1.1), (.slice pa1_0 (List.length n_1.2) pc1_0)] ∧ Box w60 b7 49 #[(.bool s59.2.2.1), (.slice abb7_0j (List.length s59.2.2.2) cbb7_0j)] ∧ a.defers = [] ∧ a.tmps.size = 59 ∧ Ok [(0, (bp pb0)), (3, (bp b1)), (4, (bp b7)), (6, (.int .i64 ((List.length r45 : Nat) : Int))), (7, (.int .i64 s59.1))] a.tmps) h1 ?_ ?_
  ·intro a hd hs hok
   have hB61 := grown_step hB55 hg48 nb
   have hg62 := (grown_trans (grown_trans (grown_trans hg30 hg21) hg36) hg48)
   have hk63 := hp0.grown hg62 nb
   have hg64 := (grown_trans (grown_trans hg21 hg36) hg48)
   have hk65 := hk17.grown hg64 nb
   have hg66 := (grown_trans hg14 hg64)
   have hk67 := hb10.grown hg66 nb
   exact ⟨none, 0, hB61, (Nat.le_refl _), (Own.nil (iE .i64) 3 w47 (fun _ => False)), (fun _ h => by cases h), (fun _ h => by cases h), (fun _ h => by cases h), (fun h => by cases h), (fun h => by cases h), hk63, hk65, hk67, hd, hs, ok_pick [0, 3, 4, 6, 7] hok (by kernel_rfl)⟩
  ·rintro s59 r2 h2 hR2 a w60 ⟨a70, c71, hB68, hz69, ho72, hl73, ap74, ap75, ap76, ap77, hb78, hb79, hb80, hd, hs, hok⟩
   refine gv_in ?_ hd hs hok
   clear hd hs hok
   clear hB55 hl53 hr46 hx42 hB34 hr33 hB31 hg30 hx27 hr19 hg16 hC15 hz12 hz6
   refine gv_seq <| gv_seq <| gv_region <| gv_pureN 2 [19, 20] [(20, (.bool (decide (s59.1 < 1000))))] (by kernel_rfl) ?_
   refine gv_nil <| gv_cond (b := (decide (s59.1 < 1000))) (by kernel_rfl) (fun hc81 => ?_) (fun hc81 => ?_)
   ·replace h2 := ite_t hc81 h2
    refine gv_skip <| gv_seq <| gv_block <| gv_seq <| gv_region <| gv_pureN 1 [8] [(8, (.slice none (List.length ([] : List Bool)) 0))] (by kernel_rfl) ?_
    refine gv_nil <| gv_seq <| gv_seq <| gv_region <| gv_pureN 2 [9, 23] [(9, (.int .i64 ((List.length r45 : Nat) : Int)))] (by kernel_rfl) ?_
    refine gv_nil <| bindE h2 ?_; clear h2; intro j82 h3 h2
    refine gv_cut_code (J := fun a w83 => ∃ (a8_0j : Option Addr) (c8_0j : Nat), w0.grownBy w83 (some pb0) ∧ w60.heap.size ≤ w83.heap.size ∧ Own tE 4 w83 (fun _ => False) a8_0j c8_0j j82.1 ∧ (∀ g, blk a8_0j = some g → w0.heap.size ≤ g) ∧ (∀ g, blk a8_0j = some g → ¬ (· = b1) g) ∧ (∀ g, blk a8_0j = some g → ¬ (· = b7) g) ∧ (∀ g, blk a8_0j = some g → ¬ (fun k => blk a70 = some k) g) ∧ ¬ (fun k => blk a8_0j = some k) b1 ∧ ¬ (fun k => blk a8_0j = some k) b7 ∧ (∀ g, blk a70 = some g → ¬ (fun k => blk a8_0j = some k) g) ∧ Box w83 pb0 40 #[(.int .u64 j82.2.1), (.int .u64 j82.2.2)] ∧ Box w83 b1 49 #[(.bool n_1.1), (.slice pa1_0 (List.length n_1.2) pc1_0)] ∧ Box w83 b7 49 #[(.bool s59.2.2.1), (.slice a70 (List.length s59.2.2.2) c71)] ∧ Own (iE .i64) 3 w83 (fun _ => False) a70 c71 s59.2.2.2 ∧ a.defers = [] ∧ a.tmps.size = 59 ∧ Ok [(0, (bp pb0)), (3, (bp b1)), (4, (bp b7)), (6, (.int .i64 ((List.length r45 : Nat) : Int))), (7, (.int .i64 s59.1)), (8, (.slice a8_0j (List.length j82.1) c8_0j))] a.tmps) ?_ ?_
    ·skip
     refine gv_block <| gv_loop (A := fun (s84 : ((List Bool) × Int × ((Int × Int)))) a w85 => ∃ (a8_0j : Option Addr) (c8_0j : Nat), w0.grownBy w85 (some pb0) ∧ w60.heap.size ≤ w85.heap.size ∧ Own tE 4 w85 (fun _ => False) a8_0j c8_0j s84.1 ∧ (∀ g, blk a8_0j = some g → w0.heap.size ≤ g) ∧ (∀ g, blk a8_0j = some g → ¬ (· = b1) g) ∧ (∀ g, blk a8_0j = some g → ¬ (· = b7) g) ∧ (∀ g, blk a8_0j = some g → ¬ (fun k => blk a70 = some k) g) ∧ ¬ (fun k => blk a8_0j = some k) b1 ∧ ¬ (fun k => blk a8_0j = some k) b7 ∧ (∀ g, blk a70 = some g → ¬ (fun k => blk a8_0j = some k) g) ∧ Box w85 pb0 40 #[(.int .u64 s84.2.2.1), (.int .u64 s84.2.2.2)] ∧ Box w85 b1 49 #[(.bool n_1.1), (.slice pa1_0 (List.length n_1.2) pc1_0)] ∧ Box w85 b7 49 #[(.bool s59.2.2.1), (.slice a70 (List.length s59.2.2.2) c71)] ∧ Own (iE .i64) 3 w85 (fun _ => False) a70 c71 s59.2.2.2 ∧ a.defers = [] ∧ a.tmps.size = 59 ∧ Ok [(0, (bp pb0)), (3, (bp b1)), (4, (bp b7)), (6, (.int .i64 ((List.length r45 : Nat) : Int))), (7, (.int .i64 s59.1)), (8, (.slice a8_0j (List.length s84.1) c8_0j)), (9, (.int .i64 s84.2.1))] a.tmps) h3 ?_ ?_
     ·intro a hd hs hok
      exact ⟨none, 0, hB68, (Nat.le_refl _), (Own.nil tE 4 w60 (fun _ => False)), (fun _ h => by cases h), (fun _ h => by cases h), (fun _ h => by cases h), (fun _ h => by cases h), (fun h => by cases h), (fun h => by cases h), (fun _ _ h => by cases h), hb78, hb79, hb80, ho72, hd, hs, ok_pick [0, 3, 4, 6, 7, 8, 9] hok (by kernel_rfl)⟩
     ·rintro s84 r4 h4 hR4 a w85 ⟨a88, c89, hB86, hz87, ho90, hl91, ap92, ap93, ap94, ap95, ap96, ap97, hb98, hb99, hb100, hk101, hd, hs, hok⟩
      refine gv_in ?_ hd hs hok
      clear hd hs hok
      clear hc81 hb80 hb79 hb78 ho72 hB68
      refine gv_seq <| gv_seq <| gv_region <| gv_pureN 2 [24, 25] [(25, (.bool (decide (s84.2.1 > 0))))] (by kernel_rfl) ?_
      refine gv_nil <| gv_cond (b := (decide (s84.2.1 > 0))) (by kernel_rfl) (fun hc102 => ?_) (fun hc102 => ?_)
      ·replace h4 := ite_t hc102 h4
       refine gv_skip <| gv_seq <| gv_block <| gv_seq <| gv_region <| gv_pureN 1 [28] [(28, (bp pb0))] (by kernel_rfl) ?_
       refine bindE h4 ?_; clear h4; intro r103 hr104 h4
       refine gv_call0 (by kernel_rfl) rfl (by kernel_rfl) enters15 (ref4_Random_Draw_ok fuel pb0 (s84.2.2.1, s84.2.2.2) w85 hb98 r103 hr104) ?_
       rintro v107 w105 ⟨hg106, rfl, hb108⟩
       refine gv_pureN 1 [10] [(10, (.int .u64 r103.1))] (by kernel_rfl) ?_
       refine gv_nil <| gv_seq <| gv_region <| gv_pureN 2 [11, 30] [(11, (.int .i64 s84.2.1))] (by kernel_rfl) ?_
       refine gv_nil <| gv_seq <| gv_seq <| gv_region <| gv_pureN 2 [31, 32] [(32, (.bool (decide (s84.2.1 > 32))))] (by kernel_rfl) ?_
       refine gv_nil <| bindE h4 ?_; clear h4; intro j109 h5 h4
       refine gv_cut_code (J := fun a w110 => w0.grownBy w110 (some pb0) ∧ w105.heap.size ≤ w110.heap.size ∧ Box w110 pb0 40 #[(.int .u64 r103.2.1), (.int .u64 r103.2.2)] ∧ Box w110 b1 49 #[(.bool n_1.1), (.slice pa1_0 (List.length n_1.2) pc1_0)] ∧ Box w110 b7 49 #[(.bool s59.2.2.1), (.slice a70 (List.length s59.2.2.2) c71)] ∧ Own tE 4 w110 (fun _ => False) a88 c89 s84.1 ∧ Own (iE .i64) 3 w110 (fun _ => False) a70 c71 s59.2.2.2 ∧ a.defers = [] ∧ a.tmps.size = 59 ∧ Ok [(0, (bp pb0)), (3, (bp b1)), (4, (bp b7)), (6, (.int .i64 ((List.length r45 : Nat) : Int))), (7, (.int .i64 s59.1)), (8, (.slice a88 (List.length s84.1) c89)), (9, (.int .i64 s84.2.1)), (10, (.int .u64 r103.1)), (11, (.int .i64 j109))] a.tmps) ?_ ?_
       ·skip
        refine gv_cond (b := (decide (s84.2.1 > 32))) (by kernel_rfl) (fun hc111 => ?_) (fun hc111 => ?_)
        ·replace h5 := ite_t hc111 h5
         refine gv_region <| gv_pureN 1 [11] [(11, (.int .i64 32))] (by kernel_rfl) ?_
         refine gv_nil ?_
         have e := sj h5; subst e
         refine gv_goal fun a hd hs hok => ?_
         have hB112 := grown_step hB86 hg106 rowpp
         have ap113 : ¬ (· = b1) pb0 := fun hx => nl ((lowb hbe5) _ hx) ((ltb hp0) _ rfl)
         have hk114 := hb99.grown hg106 (rowne ap113)
         have hk115 := hp0.grown hg3 nb
         have ap116 : ¬ (· = b7) pb0 := fun hx => nl ((lowb hbe11) _ hx) ((ltb hk115) _ rfl)
         have hk117 := hb100.grown hg106 (rowne ap116)
         have hk118 := ho90.grown hg106 (fun _ h => h.elim) (rdnn (rowne (fun (h : blk a88 = some pb0) => nl (hl91 _ h) hpl0)))
         have hk119 := hk101.grown hg106 (fun _ h => h.elim) (rdnn (rowne (fun (h : blk a70 = some pb0) => nl (hl73 _ h) hpl0)))
         exact ⟨hB112, (Nat.le_refl _), hb108, hk114, hk117, hk118, hk119, hd, hs, ok_pick [0, 3, 4, 6, 7, 8, 9, 10, 11] hok (by kernel_rfl)⟩
        ·replace h5 := ite_f hc111 h5
         refine gv_skip ?_
         have e := sj h5; subst e
         refine gv_goal fun a hd hs hok => ?_
         have hB120 := grown_step hB86 hg106 rowpp
         have ap121 : ¬ (· = b1) pb0 := fun hx => nl ((lowb hbe5) _ hx) ((ltb hp0) _ rfl)
         have hk122 := hb99.grown hg106 (rowne ap121)
         have hk123 := hp0.grown hg3 nb
         have ap124 : ¬ (· = b7) pb0 := fun hx => nl ((lowb hbe11) _ hx) ((ltb hk123) _ rfl)
         have hk125 := hb100.grown hg106 (rowne ap124)
         have hk126 := ho90.grown hg106 (fun _ h => h.elim) (rdnn (rowne (fun (h : blk a88 = some pb0) => nl (hl91 _ h) hpl0)))
         have hk127 := hk101.grown hg106 (fun _ h => h.elim) (rdnn (rowne (fun (h : blk a70 = some pb0) => nl (hl73 _ h) hpl0)))
         exact ⟨hB120, (Nat.le_refl _), hb108, hk122, hk125, hk126, hk127, hd, hs, ok_pick [0, 3, 4, 6, 7, 8, 9, 10, 11] hok (by kernel_rfl)⟩
       ·rintro a w110 ⟨hB128, hz129, hb130, hb131, hb132, hk133, hk134, hd, hs, hok⟩
        refine gv_in ?_ hd hs hok
        clear hd hs hok
        have hz135 := (nt (nt hz87 hg106.size) hz129)
        clear hz129 hb108 hg106 hr104 hc102 hk101 hb100 hb99 hb98 ho90 hz87 hB86
        refine gv_seq <| gv_region <| gv_pureN 4 [33, 34, 35, 36] [(33, (.int .u64 r103.1)), (36, (.int .u64 (IntKind.u64.wrap ((IntKind.i64.wrap (64 - j109))))))] (by kernel_rfl) ?_
        refine bindE h4 ?_; clear h4; intro _ hx136 h4
        refine gv_shift .shr (t := 25) (kk := .u64) (ky := .u64) (x := r103.1) (y := (IntKind.u64.wrap ((IntKind.i64.wrap (64 - j109))))) (shrI .u64 r103.1 (IntKind.u64.wrap ((IntKind.i64.wrap (64 - j109))))) [] (fun e => by cases e) rfl rfl rfl (by kernel_rfl) (by kernel_rfl) (nn_spec hx136) (.inr ⟨rfl, rfl⟩) rfl ?_
        refine gv_pureN 1 [10] [(10, (.int .u64 (shrI .u64 r103.1 (IntKind.u64.wrap ((IntKind.i64.wrap (64 - j109)))))))] (by kernel_rfl) ?_
        refine bindE h4 ?_; clear h4; intro n137 hn138 h4
        refine gv_name (s := 10) (v := (.int .u64 (shrI .u64 r103.1 (IntKind.u64.wrap ((IntKind.i64.wrap (64 - j109))))))) (v' := (.int .u64 n137)) (by kernel_rfl) (congrArg (Value.int .u64) (sj hn138)) ?_
        refine gv_nil <| bindE h4 ?_; clear h4; intro j139 h5 h4
        refine gv_cut_code (J := fun a w140 => ∃ (a8_0j : Option Addr) (c8_0j : Nat), w0.grownBy w140 (some pb0) ∧ w110.heap.size ≤ w140.heap.size ∧ Own tE 4 w140 (fun _ => False) a8_0j c8_0j j139 ∧ (∀ g, blk a8_0j = some g → w0.heap.size ≤ g) ∧ (∀ g, blk a8_0j = some g → ¬ (· = b1) g) ∧ (∀ g, blk a8_0j = some g → ¬ (· = b7) g) ∧ (∀ g, blk a8_0j = some g → ¬ (fun k => blk a70 = some k) g) ∧ ¬ (fun k => blk a8_0j = some k) b1 ∧ ¬ (fun k => blk a8_0j = some k) b7 ∧ (∀ g, blk a70 = some g → ¬ (fun k => blk a8_0j = some k) g) ∧ Box w140 pb0 40 #[(.int .u64 r103.2.1), (.int .u64 r103.2.2)] ∧ Box w140 b1 49 #[(.bool n_1.1), (.slice pa1_0 (List.length n_1.2) pc1_0)] ∧ Box w140 b7 49 #[(.bool s59.2.2.1), (.slice a70 (List.length s59.2.2.2) c71)] ∧ Own (iE .i64) 3 w140 (fun _ => False) a70 c71 s59.2.2.2 ∧ a.defers = [] ∧ a.tmps.size = 59 ∧ Ok [(0, (bp pb0)), (3, (bp b1)), (4, (bp b7)), (6, (.int .i64 ((List.length r45 : Nat) : Int))), (7, (.int .i64 s59.1)), (8, (.slice a8_0j (List.length j139) c8_0j)), (9, (.int .i64 s84.2.1))] a.tmps) ?_ ?_
        ·skip
         refine gv_block <| gv_loop (A := fun (s141 : ((List Bool) × Int × Int)) a w142 => ∃ (a8_0j : Option Addr) (c8_0j : Nat), w0.grownBy w142 (some pb0) ∧ w110.heap.size ≤ w142.heap.size ∧ Own tE 4 w142 (fun _ => False) a8_0j c8_0j s141.1 ∧ (∀ g, blk a8_0j = some g → w0.heap.size ≤ g) ∧ (∀ g, blk a8_0j = some g → ¬ (· = b1) g) ∧ (∀ g, blk a8_0j = some g → ¬ (· = b7) g) ∧ (∀ g, blk a8_0j = some g → ¬ (fun k => blk a70 = some k) g) ∧ ¬ (fun k => blk a8_0j = some k) b1 ∧ ¬ (fun k => blk a8_0j = some k) b7 ∧ (∀ g, blk a70 = some g → ¬ (fun k => blk a8_0j = some k) g) ∧ Box w142 pb0 40 #[(.int .u64 r103.2.1), (.int .u64 r103.2.2)] ∧ Box w142 b1 49 #[(.bool n_1.1), (.slice pa1_0 (List.length n_1.2) pc1_0)] ∧ Box w142 b7 49 #[(.bool s59.2.2.1), (.slice a70 (List.length s59.2.2.2) c71)] ∧ Own (iE .i64) 3 w142 (fun _ => False) a70 c71 s59.2.2.2 ∧ a.defers = [] ∧ a.tmps.size = 59 ∧ Ok [(0, (bp pb0)), (3, (bp b1)), (4, (bp b7)), (6, (.int .i64 ((List.length r45 : Nat) : Int))), (7, (.int .i64 s59.1)), (8, (.slice a8_0j (List.length s141.1) c8_0j)), (9, (.int .i64 s84.2.1)), (10, (.int .u64 s141.2.1)), (11, (.int .i64 s141.2.2))] a.tmps) h5 ?_ ?_
         ·intro a hd hs hok
          exact ⟨a88, c89, hB128, (Nat.le_refl _), hk133, hl91, ap92, ap93, ap94, ap95, ap96, ap97, hb130, hb131, hb132, hk134, hd, hs, ok_pick [0, 3, 4, 6, 7, 8, 9, 10, 11] hok (by kernel_rfl)⟩
         ·rintro s141 r6 h6 hR6 a w142 ⟨a145, c146, hB143, hz144, ho147, hl148, ap149, ap150, ap151, ap152, ap153, ap154, hb155, hb156, hb157, hk158, hd, hs, hok⟩
          refine gv_in ?_ hd hs hok
          clear hd hs hok
          clear hn138 hx136 hk134 hk133 hb132 hb131 hb130 hB128 ap97 ap96 ap95 ap94 ap93 ap92 hl91
          refine gv_seq <| gv_seq <| gv_region <| gv_pureN 2 [38, 39] [(39, (.bool (decide (s141.2.2 > 0))))] (by kernel_rfl) ?_
          refine gv_nil <| gv_cond (b := (decide (s141.2.2 > 0))) (by kernel_rfl) (fun hc159 => ?_) (fun hc159 => ?_)
          ·replace h6 := ite_t hc159 h6
           refine gv_skip <| gv_seq <| gv_block <| gv_seq <| gv_region <| gv_pureN 4 [42, 43, 44, 45] [(42, (.slice a145 (List.length s141.1) c146)), (45, (.bool (((s141.2.1).tmod 2) == 1)))] (by kernel_rfl) ?_
           refine gv_new0 (fun b => .slice (some ⟨b, 0, none⟩) 1 1) #[(.bool (((s141.2.1).tmod 2) == 1))] 4 (by kernel_rfl) (by kernel_rfl) ?_
           intro b160 w161 hg162 hb163 hbe164 hz165
           have ho166 : Own tE 4 w161 (fun _ => False) (some ⟨b160, 0, none⟩) 1 ([(((s141.2.1).tmod 2) == 1)] : List Bool) := Box.ownE hb163 ⟨[(.bool (((s141.2.1).tmod 2) == 1))], [], rfl, rfl, rfl⟩ (show 1 ≤ maxLen by decide) (fun h => h)
           have hl167 : ∀ g, blk (some ⟨b160, 0, none⟩) = some g → w0.heap.size ≤ g := loo hbe164 hB143.size
           have hz171 := (nt hz144 hg162.size)
           clear hz165 hb163 hc159 hz144
           refine bindE h6 ?_; clear h6; intro l172 hx173 h6
           have hk180 := ho147.grown hg162 (fun _ h => h.elim) nb
           refine gv_append tE (t := 67) (ty := 67) (e := 4) (a := a145) (ax := (some ⟨b160, 0, none⟩)) (cap := c146) (cx := 1) (xs := s141.1) (ys := ([(((s141.2.1).tmod 2) == 1)] : List Bool)) l172 (X := (fun _ => False)) (Y := (fun k => blk (some ⟨b160, 0, none⟩) = some k)) (by decide) rfl rfl (by kernel_rfl) (by kernel_rfl) Try.underlying67 info4 hk180 (ho166.rd (Y := fun k => blk (some ⟨b160, 0, none⟩) = some k) (fun _ h => h.elim) (fun g e => e)) hx173 (.inr fun _ _ _ _ _ h => h) (fun _ h => h.elim) ?_
           intro a174 c175 w176 hg177 ho178 hk179
           refine ⟨(fun e => by cases e), ?_⟩
           have hB182 := grown_step hB143 hg162 nb
           have hl181 : ∀ g, blk a174 = some g → w0.heap.size ≤ g := blk_step hk179 hl148 hB182.size
           have hk184 := hb156.grown hg162 nb
           have ap183 : ∀ g, blk a174 = some g → ¬ (· = b1) g := blk_neX hk179 ap149 (ltb hk184)
           have ap185 : ¬ (fun k => blk a174 = some k) b1 := fun h => blk_rev hk179 (fun h => (ap152) h) (hk184.lt) h
           have hk187 := hb157.grown hg162 nb
           have ap186 : ∀ g, blk a174 = some g → ¬ (· = b7) g := blk_neX hk179 ap150 (ltb hk187)
           have ap188 : ¬ (fun k => blk a174 = some k) b7 := fun h => blk_rev hk179 (fun h => (ap153) h) (hk187.lt) h
           have hk190 := hk158.grown hg162 (fun _ h => h.elim) nb
           have ap189 : ∀ g, blk a174 = some g → ¬ (fun k => blk a70 = some k) g := blk_neX hk179 ap151 (fun k (hk : blk a70 = some k) => hk190.lt k hk)
           have ap191 : ∀ g, blk a70 = some g → ¬ (fun k => blk a174 = some k) g := fun g e h => blk_rev hk179 (fun h => ((ap154) g e) h) (hk190.lt g e) h
           have ap193 : ∀ g, blk a145 = some g → ¬ (fun k => blk (some ⟨b160, 0, none⟩) = some k) g := fun g e hx => nl ((lowo hbe164) _ hx) ((fun k (hk : blk a145 = some k) => ho147.lt k hk) g e)
           have ap192 : ∀ g, blk a174 = some g → ¬ (fun k => blk (some ⟨b160, 0, none⟩) = some k) g := blk_neX hk179 ap193 (fun k (hk : blk (some ⟨b160, 0, none⟩) = some k) => ho166.lt k hk)
           have ap195 : ∀ g, blk (some ⟨b160, 0, none⟩) = some g → ¬ (fun k => blk a145 = some k) g := fun g e hx => nl ((lowo hbe164) g e) ((fun k (hk : blk a145 = some k) => ho147.lt k hk) _ hx)
           have ap194 : ∀ g, blk (some ⟨b160, 0, none⟩) = some g → ¬ (fun k => blk a174 = some k) g := fun g e h => blk_rev hk179 (fun h => ((ap195) g e) h) (ho166.lt g e) h
           refine gv_pureN 1 [8] [(8, (.slice a174 (List.length l172) c175))] (by kernel_rfl) ?_
           refine gv_nil <| gv_region <| gv_pureN 3 [10, 48, 49] [(10, (.int .u64 (IntKind.u64.wrap ((s141.2.1).tdiv 2))))] (by kernel_rfl) ?_
           refine gv_nil <| gv_blk <| gv_region <| gv_pureN 3 [11, 40, 41] [(11, (.int .i64 (IntKind.i64.wrap (s141.2.2 - 1))))] (by kernel_rfl) ?_
           refine gv_nil ?_
           have e := sj h6; subst e
           refine gv_goal fun a hd hs hok => ?_
           have hB196 := grown_step hB182 hg177 (fun g e => .inr (hl148 g e))
           have hz197 := (nt hz171 hg177.size)
           have hk198 := (hb155.grown hg162 nb).grown hg177 (fun g (e : blk a145 = some g) (h : g = pb0) => negt hpl0 (hl148 g e) h)
           have hk199 := hk184.grown hg177 ap149
           have hk200 := hk187.grown hg177 ap150
           have hk201 := hk190.grown hg177 (fun _ h => h.elim) (rdnn ap151)
           exact ⟨(l172, (IntKind.u64.wrap ((s141.2.1).tdiv 2)), (IntKind.i64.wrap (s141.2.2 - 1))), rfl, a174, c175, hB196, hz197, ho178, hl181, ap183, ap186, ap189, ap185, ap188, ap191, hk198, hk199, hk200, hk201, hd, hs, ok_pick [0, 3, 4, 6, 7, 8, 9, 10, 11] hok (by kernel_rfl)⟩
          ·replace h6 := ite_f hc159 h6
           refine gv_cexit <| gv_exit rfl ?_
           have e := sj h6; subst e
           replace h5 := congrArg some (hR6 _ rfl)
           have e := sj h5; subst e
           refine gv_goal fun a hd hs hok => ?_
           have hz202 := hz144
           exact ⟨a145, c146, hB143, hz202, ho147, hl148, ap149, ap150, ap151, ap152, ap153, ap154, hb155, hb156, hb157, hk158, hd, hs, ok_pick [0, 3, 4, 6, 7, 8, 9] hok (by kernel_rfl)⟩
        ·rintro a w140 ⟨a205, c206, hB203, hz204, ho207, hl208, ap209, ap210, ap211, ap212, ap213, ap214, hb215, hb216, hb217, hk218, hd, hs, hok⟩
         refine gv_in ?_ hd hs hok
         clear hd hs hok
         have hz219 := (nt hz135 hz204)
         clear hz204 hn138 hx136 hz135 hk134 hk133 hb132 hb131 hb130 hB128 ap97 ap96 ap95 ap94 ap93 ap92 hl91
         refine gv_blk <| gv_region <| gv_pureN 3 [9, 26, 27] [(9, (.int .i64 (IntKind.i64.wrap (s84.2.1 - 32))))] (by kernel_rfl) ?_
         refine gv_nil ?_
         have e := sj h4; subst e
         refine gv_goal fun a hd hs hok => ?_
         have hz220 := hz219
         exact ⟨(j139, (IntKind.i64.wrap (s84.2.1 - 32)), (r103.2.1, r103.2.2)), rfl, a205, c206, hB203, hz220, ho207, hl208, ap209, ap210, ap211, ap212, ap213, ap214, hb215, hb216, hb217, hk218, hd, hs, ok_pick [0, 3, 4, 6, 7, 8, 9] hok (by kernel_rfl)⟩
      ·replace h4 := ite_f hc102 h4
       refine gv_cexit <| gv_exit rfl ?_
       have e := sj h4; subst e
       replace h3 := congrArg some (hR4 _ rfl)
       have e := sj h3; subst e
       refine gv_goal fun a hd hs hok => ?_
       have hz221 := hz87
       exact ⟨a88, c89, hB86, hz221, ho90, hl91, ap92, ap93, ap94, ap95, ap96, ap97, hb98, hb99, hb100, hk101, hd, hs, ok_pick [0, 3, 4, 6, 7, 8] hok (by kernel_rfl)⟩
    ·rintro a w83 ⟨a224, c225, hB222, hz223, ho226, hl227, ap228, ap229, ap230, ap231, ap232, ap233, hb234, hb235, hb236, hk237, hd, hs, hok⟩
     refine gv_in ?_ hd hs hok
     clear hd hs hok
     have hz238 := (nt hz69 hz223)
     clear hz223 hc81 hb80 hb79 hb78 ho72 hz69 hB68
     refine gv_seq <| gv_region <| gv_pureN 1 [50] [(50, (.slice a224 (List.length j82.1) c225))] (by kernel_rfl) ?_
     refine bindE h2 ?_; clear h2; intro r239 hr240 h2
     refine gv_call0 (by kernel_rfl) rfl (by kernel_rfl) enters49 (ref3_Binary_ok fuel a224 c225 j82.1 w83 (fun k => (fun k => blk a224 = some k) k) (fun k hk => (fun k (hk : blk a224 = some k) => ho226.lt k hk) k hk) ((ho226.rd (Y := fun k => blk a224 = some k) (fun _ h => h.elim) (fun g e => e)).wide (fun k hk => hk)) r239 hr240) ?_
     rintro v243 w241 ⟨hg242, a244, c245, X247, rfl, ho246, hx248⟩
     have hx249 : ∀ k, X247 k → k < w241.heap.size := fun k hk => (hx248 k hk).1
     have hx250 : ∀ k, X247 k → X0 k ∨ w0.heap.size ≤ k := fun k hk => (hx248 k hk).2.elim (fun h => (fun k (hk : blk a224 = some k) => Or.inr (hl227 k hk)) k h) (fun h => .inr (Nat.le_trans hB222.size h))
     refine gv_pureN 1 [52] [(52, (.agg #[(.bool false), (.slice a244 (List.length r239) c245)]))] (by kernel_rfl) ?_
     refine gv_new0 (fun b => .pointer (some ⟨b, 0, none⟩)) #[(.bool false), (.slice none (List.length ([] : List Int)) 0)] 49 (by kernel_rfl) (by kernel_rfl) ?_
     intro b251 w252 hg253 hb254 hbe255 hz256
     refine gv_store0 49 0 (.agg #[(.bool false), (.slice a244 (List.length r239) c245)]) #[(.bool false), (.slice a244 (List.length r239) c245)] hb254 (by kernel_rfl) (by kernel_rfl) (by kernel_rfl) ?_
     intro w257 hg258 hb259 hz260
     refine gv_nil <| gv_seq <| gv_region <| gv_loadBox (t := 49) (b := b251) (t' := 49) (fr := (0, 0)) #[(.bool false), (.slice a244 (List.length r239) c245)] [] (fun e => by cases e) rfl rfl rfl (by kernel_rfl) (by kernel_rfl) (by kernel_rfl) (by kernel_rfl) (inw0 hb259) rfl ?_
     have hg261 := (grown_trans hg242 hg253)
     have lt262 := ltl ((ltb hb4) _ rfl) ((lowb hbe11) _ rfl)
     have hk263 := hb236.grown hg242 nb
     have lt264 := ltl ((ltb hk263) _ rfl) ((lowb hbe255) _ rfl)
     have lt265 := ltt lt262 lt264
     have hk266 := (hb235.grown hg261 nb).grown hg258 (rowne (ng lt265))
     refine gv_loadBox (t := 49) (b := b1) (t' := 49) (fr := (0, 0)) #[(.bool n_1.1), (.slice pa1_0 (List.length n_1.2) pc1_0)] [] (fun e => by cases e) rfl rfl rfl (by kernel_rfl) (by kernel_rfl) (by kernel_rfl) (by kernel_rfl) (inw0 hk266) rfl ?_
     refine bindE h2 ?_; clear h2; intro r267 hr268 h2
     have hx269 := ltx (ltx hx249 hg253.size) hg258.size
     have hB270 := grown_step hB222 hg261 nb
     have hB271 := grown_step hB222 hg242 nb
     have hlo272 : w0.heap.size ≤ b251 := lob hbe255 hB271.size
     have hB273 := grown_step hB270 hg258 (rowppr hlo272)
     have ap274 : ¬ X247 b251 := fun hx => nl ((lowb hbe255) _ rfl) (hx249 _ hx)
     have hx275 := ltx hx249 hg253.size
     have hk276 := (ho246.grown hg253 hx249 nb).grown hg258 hx275 (rowne ap274)
     refine gv_call0 (by kernel_rfl) rfl (by kernel_rfl) enters22 (ref3_Int_Order_ok fuel a244 c245 (false, r239) pa1_0 pc1_0 (n_1.1, n_1.2) w257 (fun k => X247 k ∨ X0 k) (fun k hk => (hk).elim (fun h => hx269 k h) (fun h => (fun k (hk : X0 k) => ltl (hX0 k hk).1 hB273.size) k h)) (hk276.wide (fun k hk => (.inl hk))) ((hpa1_0.grown hB273 (fun k hk => (hX0 k hk).1) (fun g e hk => by cases e; exact (hX0 _ hk).2 rfl)).wide (fun k hk => (.inr hk))) r267 hr268) ?_
     rintro v279 w277 ⟨hg278, rfl⟩
     refine gv_pureN 1 [56] [(56, (.bool (decide (r267 < 0))))] (by kernel_rfl) ?_
     refine gv_nil <| gv_cond (b := (decide (r267 < 0))) (by kernel_rfl) (fun hc280 => ?_) (fun hc280 => ?_)
     ·replace h2 := ite_t hc280 h2
      refine gv_seq <| gv_region ?_
      have hk281 := hb259.grown hg278 nb
      refine gv_loadBox (t := 49) (b := b251) (t' := 49) (fr := (0, 0)) #[(.bool false), (.slice a244 (List.length r239) c245)] [] (fun e => by cases e) rfl rfl rfl (by kernel_rfl) (by kernel_rfl) (by kernel_rfl) (by kernel_rfl) (inw0 hk281) rfl ?_
      have hk286 := ((hk263.grown hg253 nb).grown hg258 (rowne (ng lt264))).grown hg278 nb
      refine gv_store0 49 0 (.agg #[(.bool false), (.slice a244 (List.length r239) c245)]) #[(.bool false), (.slice a244 (List.length r239) c245)] hk286 (by kernel_rfl) (by kernel_rfl) (by kernel_rfl) ?_
      intro w282 hg283 hb284 hz285
      refine gv_pureN 1 [5] [(5, (.bool true))] (by kernel_rfl) ?_
      refine gv_nil <| gv_cret ?_
      have e := sj h2; subst e
      replace h1 := congrArg some (hR2 _ rfl)
      have e := sj h1; subst e
      replace h0 := cont_inr h0
      have e := sj h0; subst e
      refine gv_ret (gv_done [(.agg #[(.bool false), (.slice a244 (List.length r239) c245)]), (.bool true)] rfl ⟨⟨⟨b7, 0, none⟩, (by kernel_rfl), run_loadVar_row w282 b7 _ 49 _ _ _ hb284 Try.underlying49 rfl (by kernel_rfl)⟩, (by kernel_rfl), trivial⟩ ?_)
      have hB287 := grown_step hB273 hg278 nb
      have hB288 := grown_step hB0 hg3 nb
      have hlo289 : w0.heap.size ≤ b7 := lob hbe11 hB288.size
      have hB290 := grown_step hB287 hg283 (rowppr hlo289)
      have ap291 : ¬ X247 b7 := fun h => ((hx248 _ h).2.elim (fun h => (ap232)  h) (fun h => nl h (hb236.lt)))
      have hx292 := ltx hx269 hg278.size
      have hk293 := (hk276.grown hg278 hx269 nb).grown hg283 hx292 (rowne ap291)
      have hx294 := ltx hx292 hg283.size
      have hk295 := hb234.grown hg242 nb
      have ap296 : ¬ (· = pb0) b251 := fun hx => nl ((lowb hbe255) _ rfl) ((ltb hk295) _ hx)
      have hk297 := hp0.grown hg3 nb
      have ap298 : ¬ (· = pb0) b7 := fun hx => nl ((lowb hbe11) _ rfl) ((ltb hk297) _ hx)
      have hk299 := (((hb234.grown hg261 nb).grown hg258 (rowne ap296)).grown hg278 nb).grown hg283 (rowne ap298)
      exact ⟨hB290, a244, c245, X247, rfl, hk293, (fun k hk => ⟨hx294 k hk, hx250 k hk⟩), hk299⟩
     ·replace h2 := ite_f hc280 h2
      refine gv_skip <| gv_blk <| gv_region <| gv_pureN 3 [7, 21, 22] [(7, (.int .i64 (IntKind.i64.wrap (s59.1 + 1))))] (by kernel_rfl) ?_
      refine gv_nil ?_
      have e := sj h2; subst e
      refine gv_goal fun a hd hs hok => ?_
      have hB300 := grown_step hB273 hg278 nb
      have hz301 := (nt (nt (nt (nt hz238 hg242.size) hg253.size) hg258.size) hg278.size)
      have hk302 := hk237.grown hg242 (fun _ h => h.elim) nb
      have ap303 : ¬ (fun k => blk a70 = some k) b251 := fun hx => nl ((lowb hbe255) _ rfl) ((fun k (hk : blk a70 = some k) => hk302.lt k hk) _ hx)
      have hk304 := ((hk237.grown hg261 (fun _ h => h.elim) nb).grown hg258 (fun _ h => h.elim) (rdnn (rowne ap303))).grown hg278 (fun _ h => h.elim) nb
      have hk305 := hb234.grown hg242 nb
      have ap306 : ¬ (· = pb0) b251 := fun hx => nl ((lowb hbe255) _ rfl) ((ltb hk305) _ hx)
      have hk307 := ((hb234.grown hg261 nb).grown hg258 (rowne ap306)).grown hg278 nb
      have hk308 := hk266.grown hg278 nb
      have hk309 := ((hk263.grown hg253 nb).grown hg258 (rowne (ng lt264))).grown hg278 nb
      exact ⟨((IntKind.i64.wrap (s59.1 + 1)), (j82.2.1, j82.2.2), (s59.2.2.1, s59.2.2.2)), rfl, a70, c71, hB300, hz301, hk304, hl73, ap74, ap75, ap76, ap77, hk307, hk308, hk309, hd, hs, ok_pick [0, 3, 4, 6, 7] hok (by kernel_rfl)⟩
   ·replace h2 := ite_f hc81 h2
    refine gv_cexit <| gv_exit rfl ?_
    have e := sj h2; subst e
    replace h1 := congrArg some (hR2 _ rfl)
    have e := sj h1; subst e
    refine gv_goal fun a hd hs hok => ?_
    have hz310 := hz69
    exact ⟨((s59.2.1.1, s59.2.1.2), (s59.2.2.1, s59.2.2.2)), rfl, a70, c71, hB68, hz310, ho72, hl73, ap75, ap77, hb78, hb80, hd, hs, ok_pick [4] hok (by kernel_rfl)⟩
 ·rintro a w58 ⟨s57, e, a313, c314, hB311, hz312, ho315, hl316, ap317, ap318, hb319, hb320, hd, hs, hok⟩
  subst e
  refine gv_in ?_ hd hs hok
  clear hd hs hok
  replace h0 := cont_inl h0
  clear hB55 hl53 hr46 hx42 hB34 hr33 hB31 hg30 hx27 hr19 hg16 hC15 hz12 hz6 hb4
  refine gv_seq <| gv_region <| gv_pureN 1 [58] [(58, (.agg #[(.bool false), (.slice none (List.length ([] : List Int)) 0)]))] (by kernel_rfl) ?_
  refine gv_store0 49 0 (.agg #[(.bool false), (.slice none (List.length ([] : List Int)) 0)]) #[(.bool false), (.slice none (List.length ([] : List Int)) 0)] hb320 (by kernel_rfl) (by kernel_rfl) (by kernel_rfl) ?_
  intro w321 hg322 hb323 hz324
  refine gv_pureN 1 [5] [(5, (.bool false))] (by kernel_rfl) ?_
  refine gv_nil <| gv_cret ?_
  have e := sj h0; subst e
  refine gv_ret (gv_done [(.agg #[(.bool false), (.slice none (List.length ([] : List Int)) 0)]), (.bool false)] rfl ⟨⟨⟨b7, 0, none⟩, (by kernel_rfl), run_loadVar_row w321 b7 _ 49 _ _ _ hb323 Try.underlying49 rfl (by kernel_rfl)⟩, (by kernel_rfl), trivial⟩ ?_)
  have hB325 := grown_step hB0 hg3 nb
  have hlo326 : w0.heap.size ≤ b7 := lob hbe11 hB325.size
  have hB327 := grown_step hB311 hg322 (rowppr hlo326)
  have hk328 := hp0.grown hg3 nb
  have ap329 : ¬ (· = pb0) b7 := fun hx => nl ((lowb hbe11) _ rfl) ((ltb hk328) _ hx)
  have hk330 := hb319.grown hg322 (rowne ap329)
  exact ⟨hB327, none, 0, (fun _ => False), rfl, (Rd.nil (iE .i64) w321 (fun _ => False) none 0), (fun k hk => ⟨(fun _ h => h.elim) k hk, (fun _ h => h.elim) k hk⟩), hk330⟩

theorem ref3_Limbs_ok (fuel : Nat) (pa0_0 : Option Addr) (pc0_0 : Nat) (a_0 : (List Int)) (w0 : World) (X0 : Nat → Prop) (hX0 : ∀ k, X0 k → k < w0.heap.size) (hpa0_0 : Rd (iE .i64) w0 X0 pa0_0 pc0_0 a_0) (r0 : (List Int)) (h0 : ref3_Limbs fuel a_0 = some r0) :
    Calls Try.prog 34 ([(.slice pa0_0 (List.length a_0) pc0_0)] : List Value).toArray w0 (Ret fun v w' => w0.grownBy w' none ∧ ∃ (a0_0r : Option Addr) (c0_0r : Nat), v = tup [(.slice a0_0r (List.length r0) c0_0r)] ∧ Own (iE .u32) 76 w' (fun _ => False) a0_0r c0_0r r0 ∧ (∀ g, blk a0_0r = some g → w0.heap.size ≤ g)) := by
 have hB0 : Below w0.heap.size w0 w0 := Below.refl _ _
 unfold ref3_Limbs at h0
 refine calls_run Try.func34 rfl Try.ntmps34 (by kernel_rfl) ?_
 refine gv_sub [0] (σ' := [(0, (.slice pa0_0 (List.length a_0) pc0_0))]) (by kernel_rfl) ?_
 refine gv_seq <| gv_region <| gv_pureN 1 [2] [] (by kernel_rfl) ?_
 refine gv_nil <| gv_seq <| gv_region <| gv_pureN 1 [3] [(3, (.slice none (List.length ([] : List Int)) 0))] (by kernel_rfl) ?_
 refine gv_nil <| gv_seq <| gv_seq <| gv_region <| gv_pureN 1 [4] [(4, (.int .i64 0))] (by kernel_rfl) ?_
 refine gv_nil <| bindE h0 ?_; clear h0; intro j1 h1 h0
 refine gv_cut_code (J := fun a w2 => ∃ (a3_0j : Option Addr) (c3_0j : Nat), Below w0.heap.size w0 w2 ∧ w0.heap.size ≤ w2.heap.size ∧ Own (iE .u32) 76 w2 (fun _ => False) a3_0j c3_0j j1 ∧ (∀ g, blk a3_0j = some g → w0.heap.size ≤ g) ∧ a.defers = [] ∧ a.tmps.size = 36 ∧ Ok [(3, (.slice a3_0j (List.length j1) c3_0j))] a.tmps) ?_ ?_
 ·skip
  refine gv_block <| gv_loop (A := fun (s3 : ((List Int) × Int)) a w4 => ∃ (a3_0j : Option Addr) (c3_0j : Nat), Below w0.heap.size w0 w4 ∧ w0.heap.size ≤ w4.heap.size ∧ Own (iE .u32) 76 w4 (fun _ => False) a3_0j c3_0j s3.1 ∧ (∀ g, blk a3_0j = some g → w0.heap.size ≤ g) ∧ a.defers = [] ∧ a.tmps.size = 36 ∧ Ok [(0, (.slice pa0_0 (List.length a_0) pc0_0)), (3, (.slice a3_0j (List.length s3.1) c3_0j)), (4, (.int .i64 s3.2))] a.tmps) h1 ?_ ?_
  ·intro a hd hs hok
   exact ⟨none, 0, hB0, (Nat.le_refl _), (Own.nil (iE .u32) 76 w0 (fun _ => False)), (fun _ h => by cases h), hd, hs, ok_pick [0, 3, 4] hok (by kernel_rfl)⟩
  ·rintro s3 r2 h2 hR2 a w4 ⟨a7, c8, hB5, hz6, ho9, hl10, hd, hs, hok⟩
   refine gv_in ?_ hd hs hok
   clear hd hs hok
   refine gv_seq <| gv_seq <| gv_region <| gv_pureN 4 [6, 7, 8, 9] [(9, (.bool (decide (s3.2 < ((List.length a_0 : Nat) : Int)))))] (by kernel_rfl) ?_
   refine gv_nil <| gv_cond (b := (decide (s3.2 < ((List.length a_0 : Nat) : Int)))) (by kernel_rfl) (fun hc11 => ?_) (fun hc11 => ?_)
   ·replace h2 := ite_t hc11 h2
    refine gv_skip <| gv_seq <| gv_block <| gv_seq <| gv_region <| gv_pureN 2 [12, 13] [(12, (.slice pa0_0 (List.length a_0) pc0_0)), (13, (.int .i64 s3.2))] (by kernel_rfl) ?_
    refine bindE h2 ?_; clear h2; intro x12 hx13 h2
    refine gv_idxaddr (t := 47) (e := 3) (a := pa0_0) (len := List.length a_0) (cap := pc0_0) (kk := .i64) (i := s3.2) (sz := 1) [] (fun e => by cases e) rfl rfl rfl (by kernel_rfl) (by kernel_rfl) Try.underlying47 (by kernel_rfl) ((hpa0_0.below hB5 hX0).has hx13) (idx_spec hx13).1 (idx_spec hx13).2.1 rfl ?_
    refine gv_load (t := 3) (A := (elemAddr pa0_0 ((s3.2).toNat * 1))) (.int .i64 x12) [] (fun e => by cases e) rfl rfl rfl (by kernel_rfl) (by kernel_rfl) (by kernel_rfl) (inw0 ((hpa0_0.below hB5 hX0).cell hx13)) rfl ?_
    refine gv_pureN 2 [5, 16] [(5, (.int .u32 (IntKind.u32.wrap (x12))))] (by kernel_rfl) ?_
    refine gv_nil <| gv_seq <| gv_seq <| gv_region <| gv_pureN 5 [17, 18, 19, 20, 21] [(21, (.bool (decide ((IntKind.i64.wrap (s3.2 + 1)) < ((List.length a_0 : Nat) : Int)))))] (by kernel_rfl) ?_
    refine gv_nil <| bindE h2 ?_; clear h2; intro j14 h3 h2
    refine gv_cut_code (J := fun a w15 => Below w0.heap.size w0 w15 ∧ w4.heap.size ≤ w15.heap.size ∧ Own (iE .u32) 76 w15 (fun _ => False) a7 c8 s3.1 ∧ a.defers = [] ∧ a.tmps.size = 36 ∧ Ok [(0, (.slice pa0_0 (List.length a_0) pc0_0)), (3, (.slice a7 (List.length s3.1) c8)), (4, (.int .i64 s3.2)), (5, (.int .u32 j14))] a.tmps) ?_ ?_
    ·skip
     refine gv_cond (b := (decide ((IntKind.i64.wrap (s3.2 + 1)) < ((List.length a_0 : Nat) : Int)))) (by kernel_rfl) (fun hc16 => ?_) (fun hc16 => ?_)
     ·replace h3 := ite_t hc16 h3
      refine gv_region <| gv_pureN 4 [22, 23, 24, 25] [(22, (.int .u32 (IntKind.u32.wrap (x12)))), (23, (.slice pa0_0 (List.length a_0) pc0_0)), (25, (.int .i64 (IntKind.i64.wrap (s3.2 + 1))))] (by kernel_rfl) ?_
      refine bindE h3 ?_; clear h3; intro x17 hx18 h3
      refine gv_idxaddr (t := 47) (e := 3) (a := pa0_0) (len := List.length a_0) (cap := pc0_0) (kk := .i64) (i := (IntKind.i64.wrap (s3.2 + 1))) (sz := 1) [] (fun e => by cases e) rfl rfl rfl (by kernel_rfl) (by kernel_rfl) Try.underlying47 (by kernel_rfl) ((hpa0_0.below hB5 hX0).has hx18) (idx_spec hx18).1 (idx_spec hx18).2.1 rfl ?_
      refine gv_load (t := 3) (A := (elemAddr pa0_0 (((IntKind.i64.wrap (s3.2 + 1))).toNat * 1))) (.int .i64 x17) [] (fun e => by cases e) rfl rfl rfl (by kernel_rfl) (by kernel_rfl) (by kernel_rfl) (inw0 ((hpa0_0.below hB5 hX0).cell hx18)) rfl ?_
      refine gv_pureN 4 [5, 28, 29, 30] [(5, (.int .u32 (IntKind.u32.wrap ((IntKind.u32.wrap (x12)) + (IntKind.u32.wrap ((IntKind.u32.wrap (x17)) * 65536))))))] (by kernel_rfl) ?_
      refine bindE h3 ?_; clear h3; intro n19 hn20 h3
      refine gv_name (s := 5) (v := (.int .u32 (IntKind.u32.wrap ((IntKind.u32.wrap (x12)) + (IntKind.u32.wrap ((IntKind.u32.wrap (x17)) * 65536)))))) (v' := (.int .u32 n19)) (by kernel_rfl) (congrArg (Value.int .u32) (sj hn20)) ?_
      refine gv_nil ?_
      have e := sj h3; subst e
      refine gv_goal fun a hd hs hok => ?_
      exact ⟨hB5, (Nat.le_refl _), ho9, hd, hs, ok_pick [0, 3, 4, 5] hok (by kernel_rfl)⟩
     ·replace h3 := ite_f hc16 h3
      refine gv_skip ?_
      have e := sj h3; subst e
      refine gv_goal fun a hd hs hok => ?_
      exact ⟨hB5, (Nat.le_refl _), ho9, hd, hs, ok_pick [0, 3, 4, 5] hok (by kernel_rfl)⟩
    ·rintro a w15 ⟨hB21, hz22, hk23, hd, hs, hok⟩
     refine gv_in ?_ hd hs hok
     clear hd hs hok
     have hz24 := (nt hz6 hz22)
     clear hz22 hx13 hc11 ho9 hz6 hB5
     refine gv_region <| gv_pureN 2 [31, 32] [(31, (.slice a7 (List.length s3.1) c8)), (32, (.int .u32 j14))] (by kernel_rfl) ?_
     refine gv_new0 (fun b => .slice (some ⟨b, 0, none⟩) 1 1) #[(.int .u32 j14)] 76 (by kernel_rfl) (by kernel_rfl) ?_
     intro b25 w26 hg27 hb28 hbe29 hz30
     have ho31 : Own (iE .u32) 76 w26 (fun _ => False) (some ⟨b25, 0, none⟩) 1 ([j14] : List Int) := Box.ownE hb28 ⟨[(.int .u32 j14)], [], rfl, rfl, rfl⟩ (show 1 ≤ maxLen by decide) (fun h => h)
     have hl32 : ∀ g, blk (some ⟨b25, 0, none⟩) = some g → w0.heap.size ≤ g := loo hbe29 hB21.size
     refine bindE h2 ?_; clear h2; intro l36 hx37 h2
     have hk44 := hk23.grown hg27 (fun _ h => h.elim) nb
     refine gv_append (iE .u32) (t := 22) (ty := 22) (e := 76) (a := a7) (ax := (some ⟨b25, 0, none⟩)) (cap := c8) (cx := 1) (xs := s3.1) (ys := ([j14] : List Int)) l36 (X := (fun _ => False)) (Y := (fun k => blk (some ⟨b25, 0, none⟩) = some k)) (by decide) rfl rfl (by kernel_rfl) (by kernel_rfl) Try.underlying22 info76 hk44 (ho31.rd (Y := fun k => blk (some ⟨b25, 0, none⟩) = some k) (fun _ h => h.elim) (fun g e => e)) hx37 (.inr fun _ _ _ _ _ h => h) (fun _ h => h.elim) ?_
     intro a38 c39 w40 hg41 ho42 hk43
     refine ⟨(fun e => by cases e), ?_⟩
     have hB46 := bg hB21 hg27 nb
     have hl45 : ∀ g, blk a38 = some g → w0.heap.size ≤ g := blk_step hk43 hl10 hB46.size
     have ap48 : ∀ g, blk a7 = some g → ¬ (fun k => blk (some ⟨b25, 0, none⟩) = some k) g := fun g e hx => nl ((lowo hbe29) _ hx) ((fun k (hk : blk a7 = some k) => hk23.lt k hk) g e)
     have ap47 : ∀ g, blk a38 = some g → ¬ (fun k => blk (some ⟨b25, 0, none⟩) = some k) g := blk_neX hk43 ap48 (fun k (hk : blk (some ⟨b25, 0, none⟩) = some k) => ho31.lt k hk)
     have ap50 : ∀ g, blk (some ⟨b25, 0, none⟩) = some g → ¬ (fun k => blk a7 = some k) g := fun g e hx => nl ((lowo hbe29) g e) ((fun k (hk : blk a7 = some k) => hk23.lt k hk) _ hx)
     have ap49 : ∀ g, blk (some ⟨b25, 0, none⟩) = some g → ¬ (fun k => blk a38 = some k) g := fun g e h => blk_rev hk43 (fun h => ((ap50) g e) h) (ho31.lt g e) h
     refine gv_pureN 1 [3] [(3, (.slice a38 (List.length l36) c39))] (by kernel_rfl) ?_
     refine gv_nil <| gv_blk <| gv_region <| gv_pureN 3 [4, 10, 11] [(4, (.int .i64 (IntKind.i64.wrap (s3.2 + 2))))] (by kernel_rfl) ?_
     refine gv_nil ?_
     have e := sj h2; subst e
     refine gv_goal fun a hd hs hok => ?_
     have hB51 := bg hB46 hg41 hl10
     have hz52 := (nt (nt hz24 hg27.size) hg41.size)
     exact ⟨(l36, (IntKind.i64.wrap (s3.2 + 2))), rfl, a38, c39, hB51, hz52, ho42, hl45, hd, hs, ok_pick [0, 3, 4] hok (by kernel_rfl)⟩
   ·replace h2 := ite_f hc11 h2
    refine gv_cexit <| gv_exit rfl ?_
    have e := sj h2; subst e
    replace h1 := congrArg some (hR2 _ rfl)
    have e := sj h1; subst e
    refine gv_goal fun a hd hs hok => ?_
    have hz53 := hz6
    exact ⟨a7, c8, hB5, hz53, ho9, hl10, hd, hs, ok_pick [3] hok (by kernel_rfl)⟩
 ·rintro a w2 ⟨a56, c57, hB54, hz55, ho58, hl59, hd, hs, hok⟩
  refine gv_in ?_ hd hs hok
  clear hd hs hok
  refine gv_seq <| gv_region <| gv_pureN 2 [2, 35] [(2, (.slice a56 (List.length j1) c57))] (by kernel_rfl) ?_
  refine gv_nil <| gv_cret ?_
  have e := sj h0; subst e
  refine gv_ret (gv_done [(.slice a56 (List.length j1) c57)] rfl ⟨(by kernel_rfl), trivial⟩ ?_)
  exact ⟨grown_of_below hB54, a56, c57, rfl, ho58, hl59⟩

theorem ref3_SameLimbs_ok (fuel : Nat) (pa0_0 : Option Addr) (pc0_0 : Nat) (a_0 : (List Int)) (pa1_0 : Option Addr) (pc1_0 : Nat) (b_1 : (List Int)) (w0 : World) (X0 : Nat → Prop) (hX0 : ∀ k, X0 k → k < w0.heap.size) (hpa0_0 : Rd (iE .u32) w0 X0 pa0_0 pc0_0 a_0) (hpa1_0 : Rd (iE .u32) w0 X0 pa1_0 pc1_0 b_1) (r0 : Bool) (h0 : ref3_SameLimbs fuel a_0 b_1 = some r0) :
    Calls Try.prog 51 ([(.slice pa0_0 (List.length a_0) pc0_0), (.slice pa1_0 (List.length b_1) pc1_0)] : List Value).toArray w0 (Ret fun v w' => w0.grownBy w' none ∧ v = tup [(.bool r0)]) := by
 have hB0 : Below w0.heap.size w0 w0 := Below.refl _ _
 unfold ref3_SameLimbs at h0
 refine calls_run Try.func51 rfl Try.ntmps51 (by kernel_rfl) ?_
 refine gv_sub [0, 1] (σ' := [(0, (.slice pa0_0 (List.length a_0) pc0_0)), (1, (.slice pa1_0 (List.length b_1) pc1_0))]) (by kernel_rfl) ?_
 refine gv_seq <| gv_region <| gv_pureN 1 [4] [] (by kernel_rfl) ?_
 refine gv_nil <| gv_seq <| gv_seq <| gv_region <| gv_pureN 5 [6, 7, 8, 9, 10] [(10, (.bool (((List.length a_0 : Nat) : Int) != ((List.length b_1 : Nat) : Int))))] (by kernel_rfl) ?_
 refine gv_nil <| gv_cond (b := (((List.length a_0 : Nat) : Int) != ((List.length b_1 : Nat) : Int))) (by kernel_rfl) (fun hc1 => ?_) (fun hc1 => ?_)
 ·replace h0 := ite_t hc1 h0
  refine gv_seq <| gv_region <| gv_pureN 1 [4] [(4, (.bool false))] (by kernel_rfl) ?_
  refine gv_nil <| gv_cret ?_
  have e := sj h0; subst e
  refine gv_ret (gv_done [(.bool false)] rfl ⟨(by kernel_rfl), trivial⟩ ?_)
  exact ⟨grown_of_below hB0, rfl⟩
 ·replace h0 := ite_f hc1 h0
  refine gv_skip <| gv_seq <| gv_seq <| gv_region <| gv_pureN 1 [5] [(5, (.int .i64 0))] (by kernel_rfl) ?_
  refine gv_nil <| bindE h0 ?_; clear h0; intro j2 h1 h0
  refine gv_cut_code (J := fun a w4 => ∃ s3 : Unit, j2 = .inl s3 ∧ Below w0.heap.size w0 w4 ∧ w0.heap.size ≤ w4.heap.size ∧ a.defers = [] ∧ a.tmps.size = 26 ∧ Ok [] a.tmps) ?_ ?_
  ·skip
   refine gv_block <| gv_loop (A := fun (s5 : Int) a w6 => Below w0.heap.size w0 w6 ∧ w0.heap.size ≤ w6.heap.size ∧ a.defers = [] ∧ a.tmps.size = 26 ∧ Ok [(0, (.slice pa0_0 (List.length a_0) pc0_0)), (1, (.slice pa1_0 (List.length b_1) pc1_0)), (5, (.int .i64 s5))] a.tmps) h1 ?_ ?_
   ·intro a hd hs hok
    exact ⟨hB0, (Nat.le_refl _), hd, hs, ok_pick [0, 1, 5] hok (by kernel_rfl)⟩
   ·rintro s5 r2 h2 hR2 a w6 ⟨hB7, hz8, hd, hs, hok⟩
    refine gv_in ?_ hd hs hok
    clear hd hs hok
    refine gv_seq <| gv_seq <| gv_region <| gv_pureN 4 [11, 12, 13, 14] [(14, (.bool (decide (s5 < ((List.length a_0 : Nat) : Int)))))] (by kernel_rfl) ?_
    refine gv_nil <| gv_cond (b := (decide (s5 < ((List.length a_0 : Nat) : Int)))) (by kernel_rfl) (fun hc9 => ?_) (fun hc9 => ?_)
    ·replace h2 := ite_t hc9 h2
     refine gv_skip <| gv_seq <| gv_block <| gv_seq <| gv_drawA (by kernel_rfl) ?_
     intro w10 hg11
     refine gv_pre [0, 1, 2, 4, 5, 6] (bA 9 [0, 1, 2, 4, 5, 6]) 3 (by kernel_rfl) (by kernel_rfl) ?_
     refine gv_pureN 2 [17, 18] [(17, (.slice pa0_0 (List.length a_0) pc0_0)), (18, (.int .i64 s5))] (by kernel_rfl) ?_
     refine bindE h2 ?_; clear h2; intro x12 hx13 h2
     have hB14 := bg hB7 hg11 nb
     refine gv_idxaddr (t := 22) (e := 76) (a := pa0_0) (len := List.length a_0) (cap := pc0_0) (kk := .i64) (i := s5) (sz := 1) [] (fun e => by cases e) rfl rfl rfl (by kernel_rfl) (by kernel_rfl) Try.underlying22 (by kernel_rfl) ((hpa0_0.below hB14 hX0).has hx13) (idx_spec hx13).1 (idx_spec hx13).2.1 rfl ?_
     refine gv_pureN 2 [21, 22] [(21, (.slice pa1_0 (List.length b_1) pc1_0)), (22, (.int .i64 s5))] (by kernel_rfl) ?_
     refine bindE h2 ?_; clear h2; intro x15 hx16 h2
     refine gv_idxaddr (t := 22) (e := 76) (a := pa1_0) (len := List.length b_1) (cap := pc1_0) (kk := .i64) (i := s5) (sz := 1) [] (fun e => by cases e) rfl rfl rfl (by kernel_rfl) (by kernel_rfl) Try.underlying22 (by kernel_rfl) ((hpa1_0.below hB14 hX0).has hx16) (idx_spec hx16).1 (idx_spec hx16).2.1 rfl ?_
     refine gv_nil <| gv_goA ?_
     refine gv_stage (Cls w10 []) [0, 1, 2, 3, 4, 5, 6, 7] [(3, some true), (7, some true)] (bA 9 [0, 1, 2, 3, 4, 5, 6, 7]) 1 (by kernel_rfl) (by kernel_rfl) (Cls.refl _ _) ?_
     have hC17 := Cls.refl w10 []
     refine gv_load (t := 76) (A := (elemAddr pa0_0 ((s5).toNat * 1))) (.int .u32 x12) [] (fun e => by cases e) rfl rfl rfl (by kernel_rfl) (by kernel_rfl) (by kernel_rfl) (inw1 fun w' hC' => ((hC'.rd (hpa0_0.below hB14 hX0) (fun k (hk : X0 k) => ltl (hX0 k hk) hB14.size) nmx_nil).cell hx13)) rfl ?_
     refine gv_load (t := 76) (A := (elemAddr pa1_0 ((s5).toNat * 1))) (.int .u32 x15) [] (fun e => by cases e) rfl rfl rfl (by kernel_rfl) (by kernel_rfl) (by kernel_rfl) (inw1 fun w' hC' => ((hC'.rd (hpa1_0.below hB14 hX0) (fun k (hk : X0 k) => ltl (hX0 k hk) hB14.size) nmx_nil).cell hx16)) rfl ?_
     refine gv_nil <| gv_goA ?_
     refine gv_pre [8] (bA 9 [0, 1, 2, 3, 4, 5, 6, 7, 8]) 0 (by kernel_rfl) (by kernel_rfl) ?_
     refine gv_pureN 1 [25] [(25, (.bool (x12 != x15)))] (by kernel_rfl) ?_
     refine gv_nil <| gv_goA ?_
     refine gv_stageE (by kernel_rfl) ?_
     refine gv_cond (b := (x12 != x15)) (by kernel_rfl) (fun hc18 => ?_) (fun hc18 => ?_)
     ·replace h2 := ite_t hc18 h2
      refine gv_seq <| gv_region <| gv_pureN 1 [4] [(4, (.bool false))] (by kernel_rfl) ?_
      refine gv_nil <| gv_cret ?_
      have e := sj h2; subst e
      replace h1 := congrArg some (hR2 _ rfl)
      have e := sj h1; subst e
      replace h0 := cont_inr h0
      have e := sj h0; subst e
      refine gv_ret (gv_done [(.bool false)] rfl ⟨(by kernel_rfl), trivial⟩ ?_)
      exact ⟨grown_of_below hB14, rfl⟩
     ·replace h2 := ite_f hc18 h2
      refine gv_skip <| gv_blk <| gv_region <| gv_pureN 3 [5, 15, 16] [(5, (.int .i64 (IntKind.i64.wrap (s5 + 1))))] (by kernel_rfl) ?_
      refine gv_nil ?_
      have e := sj h2; subst e
      refine gv_goal fun a hd hs hok => ?_
      have hz19 := (nt hz8 hg11.size)
      exact ⟨(IntKind.i64.wrap (s5 + 1)), rfl, hB14, hz19, hd, hs, ok_pick [0, 1, 5] hok (by kernel_rfl)⟩
    ·replace h2 := ite_f hc9 h2
     refine gv_cexit <| gv_exit rfl ?_
     have e := sj h2; subst e
     replace h1 := congrArg some (hR2 _ rfl)
     have e := sj h1; subst e
     refine gv_goal fun a hd hs hok => ?_
     have hz20 := hz8
     exact ⟨(), rfl, hB7, hz20, hd, hs, ok_pick [] hok (by kernel_rfl)⟩
  ·rintro a w4 ⟨s3, e, hB21, hz22, hd, hs, hok⟩
   subst e
   refine gv_in ?_ hd hs hok
   clear hd hs hok
   replace h0 := cont_inl h0
   refine gv_seq <| gv_region <| gv_pureN 1 [4] [(4, (.bool true))] (by kernel_rfl) ?_
   refine gv_nil <| gv_cret ?_
   have e := sj h0; subst e
   refine gv_ret (gv_done [(.bool true)] rfl ⟨(by kernel_rfl), trivial⟩ ?_)
   exact ⟨grown_of_below hB21, rfl⟩

theorem ref3_SameInt_ok (fuel : Nat) (pa0_0 : Option Addr) (pc0_0 : Nat) (a_0 : (Bool × (List Int))) (pa1_0 : Option Addr) (pc1_0 : Nat) (b_1 : (Bool × (List Int))) (w0 : World) (X0 : Nat → Prop) (hX0 : ∀ k, X0 k → k < w0.heap.size) (hpa0_0 : Rd (iE .u32) w0 X0 pa0_0 pc0_0 a_0.2) (hpa1_0 : Rd (iE .i64) w0 X0 pa1_0 pc1_0 b_1.2) (r0 : Bool) (h0 : ref3_SameInt fuel a_0 b_1 = some r0) :
    Calls Try.prog 21 ([(.agg #[(.bool a_0.1), (.slice pa0_0 (List.length a_0.2) pc0_0)]), (.agg #[(.bool b_1.1), (.slice pa1_0 (List.length b_1.2) pc1_0)])] : List Value).toArray w0 (Ret fun v w' => w0.grownBy w' none ∧ v = tup [(.bool r0)]) := by
 have hB0 : Below w0.heap.size w0 w0 := Below.refl _ _
 unfold ref3_SameInt at h0
 refine calls_run Try.func21 rfl Try.ntmps21 (by kernel_rfl) ?_
 refine gv_sub [0, 1] (σ' := [(0, (.agg #[(.bool a_0.1), (.slice pa0_0 (List.length a_0.2) pc0_0)])), (1, (.agg #[(.bool b_1.1), (.slice pa1_0 (List.length b_1.2) pc1_0)]))]) (by kernel_rfl) ?_
 refine gv_seq <| gv_region <| gv_new0 (fun b => .pointer (some ⟨b, 0, none⟩)) #[(.bool a_0.1), (.slice pa0_0 (List.length a_0.2) pc0_0)] 24 (by kernel_rfl) (by kernel_rfl) ?_
 intro b1 w2 hg3 hb4 hbe5 hz6
 refine gv_new0 (fun b => .pointer (some ⟨b, 0, none⟩)) #[(.bool b_1.1), (.slice pa1_0 (List.length b_1.2) pc1_0)] 49 (by kernel_rfl) (by kernel_rfl) ?_
 intro b7 w8 hg9 hb10 hbe11 hz12
 refine gv_pureN 1 [4] [] (by kernel_rfl) ?_
 refine gv_nil <| gv_seq <| bindE h0 ?_; clear h0; intro j13 h1 h0
 refine gv_cut_code (J := fun a w14 => Below w0.heap.size w0 w14 ∧ w8.heap.size ≤ w14.heap.size ∧ a.defers = [] ∧ a.tmps.size = 24 ∧ Ok [(4, (.bool j13))] a.tmps) ?_ ?_
 ·skip
  refine gv_drawA (by kernel_rfl) ?_
  intro w15 hg16
  refine gv_pre [0, 2] (bA 20 [0, 2]) 18 (by kernel_rfl) (by kernel_rfl) ?_
  refine gv_pureN 2 [5, 7] [(5, (bp b1)), (7, (bp b7))] (by kernel_rfl) ?_
  refine gv_nil <| gv_goA ?_
  refine gv_stage (Cls w15 []) [0, 1, 2, 3, 4, 5, 6, 7, 8, 9] [(1, some true), (3, some true), (4, some true), (5, some true), (6, some true), (7, some true), (8, some true), (9, some true)] (bA 20 [0, 1, 2, 3, 4, 5, 6, 7, 8, 9]) 10 (by kernel_rfl) (by kernel_rfl) (Cls.refl _ _) ?_
  have hC17 := Cls.refl w15 []
  have hg18 := (grown_trans hg9 hg16)
  have hk19 := hb4.grown hg18 nb
  refine gv_load (t := 4) (A := ⟨b1, 0, none⟩) (.bool a_0.1) [] (fun e => by cases e) rfl rfl rfl (by kernel_rfl) (by kernel_rfl) (by kernel_rfl) (inw1 fun w' hC' => ((hC'.box hk19 nm_nil).cell 0 rfl)) rfl ?_
  have hk20 := hb10.grown hg16 nb
  refine gv_load (t := 4) (A := ⟨b7, 0, none⟩) (.bool b_1.1) [] (fun e => by cases e) rfl rfl rfl (by kernel_rfl) (by kernel_rfl) (by kernel_rfl) (inw1 fun w' hC' => ((hC'.box hk20 nm_nil).cell 0 rfl)) rfl ?_
  refine gv_pureN 1 [9] [(9, (.bool b_1.1))] (by kernel_rfl) ?_
  refine gv_split (s := 9) (g := b_1.1) (by kernel_rfl) (fun hc21 => ?_) (fun hc21 => ?_)
  ·skip
   replace h1 := ite_t hc21 h1
   refine gv_pureN 1 [10] [(10, (.pointer (some ⟨b7, 1, none⟩)))] (by kernel_rfl) ?_
   refine gv_load (t := 47) (A := ⟨b7, 1, none⟩) (.slice pa1_0 (List.length b_1.2) pc1_0) [] (fun e => by cases e) rfl rfl rfl (by kernel_rfl) (by kernel_rfl) (by kernel_rfl) (inw1 fun w' hC' => ((hC'.box hk20 nm_nil).cell 1 rfl)) rfl ?_
   refine gv_pureN 3 [12, 13, 14] [(14, (.bool (decide (((List.length b_1.2 : Nat) : Int) > 0))))] (by kernel_rfl) ?_
   refine gv_nil <| gv_goA ?_
   refine gv_pre [10, 11, 12, 14] (bA 20 [0, 1, 2, 3, 4, 5, 6, 7, 8, 9, 10, 11, 12, 14]) 6 (by kernel_rfl) (by kernel_rfl) ?_
   refine gv_pureN 2 [15, 16] [(16, (.bool (a_0.1 == (decide (((List.length b_1.2 : Nat) : Int) > 0)))))] (by kernel_rfl) ?_
   refine gv_split (s := 16) (g := (a_0.1 == (decide (((List.length b_1.2 : Nat) : Int) > 0)))) (by kernel_rfl) (fun hc22 => ?_) (fun hc22 => ?_)
   ·skip
    replace h1 := ite_t hc22 h1
    refine gv_pureN 2 [17, 19] [(17, (.pointer (some ⟨b1, 1, none⟩))), (19, (.pointer (some ⟨b7, 1, none⟩)))] (by kernel_rfl) ?_
    refine gv_nil <| gv_goA ?_
    refine gv_stage (Cls w15 []) [0, 1, 2, 3, 4, 5, 6, 7, 8, 9, 10, 11, 12, 13, 14, 15, 16] [(13, some true), (15, some true), (16, some false)] (bA 20 [0, 1, 2, 3, 4, 5, 6, 7, 8, 9, 10, 11, 12, 13, 14, 15, 16]) 3 (by kernel_rfl) (by kernel_rfl) (Cls.refl _ _) ?_
    have hC23 := Cls.refl w15 []
    refine gv_load (t := 22) (A := ⟨b1, 1, none⟩) (.slice pa0_0 (List.length a_0.2) pc0_0) [] (fun e => by cases e) rfl rfl rfl (by kernel_rfl) (by kernel_rfl) (by kernel_rfl) (inw1 fun w' hC' => ((hC'.box hk19 nm_nil).cell 1 rfl)) rfl ?_
    refine gv_load (t := 47) (A := ⟨b7, 1, none⟩) (.slice pa1_0 (List.length b_1.2) pc1_0) [] (fun e => by cases e) rfl rfl rfl (by kernel_rfl) (by kernel_rfl) (by kernel_rfl) (inw1 fun w' hC' => ((hC'.box hk20 nm_nil).cell 1 rfl)) rfl ?_
    refine gv_sub [16, 18, 20] (σ' := [(16, (.bool true)), (18, (.slice pa0_0 (List.length a_0.2) pc0_0)), (20, (.slice pa1_0 (List.length b_1.2) pc1_0))]) (by kernel_rfl) ?_
    refine bindE h1 ?_; clear h1; intro r24 hr25 h1
    have hg26 := (grown_trans hg3 hg18)
    have hB27 := bg hB0 hg26 nb
    refine gv_call (f := 34) (vs := [(.slice pa1_0 (List.length b_1.2) pc1_0)]) (cap := []) _ (by decide) rfl rfl rfl (by kernel_rfl) (by kernel_rfl) enters34 (ref3_Limbs_ok fuel pa1_0 pc1_0 b_1.2 w15 (fun k => X0 k) (fun k hk => (fun k (hk : X0 k) => ltl (hX0 k hk) hB27.size) k hk) ((hpa1_0.below hB27 hX0).wide (fun k hk => hk)) r24 hr25) ?_
    rintro v30 w28 ⟨hg29, a31, c32, rfl, ho33, hl34⟩
    refine ⟨(fun _ => hC23.grown hg29 nb), ?_⟩
    have hl35 : ∀ g, blk a31 = some g → w0.heap.size ≤ g := fun g e => Nat.le_trans hB27.size (hl34 g e)
    refine gv_nil <| gv_goA ?_
    refine gv_stage (fun _ => True) [0, 1, 2, 3, 4, 5, 6, 7, 8, 9, 10, 11, 12, 13, 14, 15, 16, 17] [(17, some false)] (bA 20 [0, 1, 2, 3, 4, 5, 6, 7, 8, 9, 10, 11, 12, 13, 14, 15, 16, 17]) 2 (by kernel_rfl) (by kernel_rfl) trivial ?_
    refine bindE h1 ?_; clear h1; intro r36 hr37 h1
    have hB38 := bg hB27 hg29 nb
    refine gv_call (f := 51) (vs := [(.slice pa0_0 (List.length a_0.2) pc0_0), (.slice a31 (List.length r24) c32)]) (cap := []) _ (by decide) rfl rfl rfl (by kernel_rfl) (by kernel_rfl) enters51 (ref3_SameLimbs_ok fuel pa0_0 pc0_0 a_0.2 a31 c32 r24 w28 (fun k => X0 k ∨ (fun k => blk a31 = some k) k) (fun k hk => (hk).elim (fun h => (fun k (hk : X0 k) => ltl (hX0 k hk) hB38.size) k h) (fun h => (fun k (hk : blk a31 = some k) => ho33.lt k hk) k h)) ((hpa0_0.below hB38 hX0).wide (fun k hk => (.inl hk))) ((ho33.rd (Y := fun k => blk a31 = some k) (fun _ h => h.elim) (fun g e => e)).wide (fun k hk => (.inr hk))) r36 hr37) ?_
    rintro v41 w39 ⟨hg40, rfl⟩
    refine ⟨(fun _ => trivial), ?_⟩
    refine gv_nil <| gv_goA ?_
    refine gv_pre [18, 19] (bA 20 [0, 1, 2, 3, 4, 5, 6, 7, 8, 9, 10, 11, 12, 13, 14, 15, 16, 17, 18, 19]) 0 (by kernel_rfl) (by kernel_rfl) ?_
    refine gv_pureN 2 [4, 23] [(4, (.bool r36))] (by kernel_rfl) ?_
    refine gv_nil <| gv_goA ?_
    refine gv_stageE (by kernel_rfl) ?_
    have e := sj h1; subst e
    refine gv_goal fun a hd hs hok => ?_
    have hB42 := bg hB38 hg40 nb
    have hz43 := (nt (nt hg16.size hg29.size) hg40.size)
    exact ⟨hB42, hz43, hd, hs, ok_pick [4] hok (by kernel_rfl)⟩
   ·skip
    replace h1 := ite_f hc22 h1
    refine gv_pureN 2 [17, 19] [(17, undef), (19, undef)] (by kernel_rfl) ?_
    refine gv_nil <| gv_goA ?_
    refine gv_stage (Cls w15 []) [0, 1, 2, 3, 4, 5, 6, 7, 8, 9, 10, 11, 12, 13, 14, 15, 16] [(13, some true), (15, some true), (16, some false)] (bA 20 [0, 1, 2, 3, 4, 5, 6, 7, 8, 9, 10, 11, 12, 13, 14, 15, 16]) 3 (by kernel_rfl) (by kernel_rfl) (Cls.refl _ _) ?_
    have hC44 := Cls.refl w15 []
    refine gv_pureNC hC44 3 [18, 20, 21] [(18, undef), (21, undef)] (by kernel_rfl) ?_
    refine gv_nil <| gv_goA ?_
    refine gv_stage (fun _ => True) [0, 1, 2, 3, 4, 5, 6, 7, 8, 9, 10, 11, 12, 13, 14, 15, 16, 17] [(17, some false)] (bA 20 [0, 1, 2, 3, 4, 5, 6, 7, 8, 9, 10, 11, 12, 13, 14, 15, 16, 17]) 2 (by kernel_rfl) (by kernel_rfl) trivial ?_
    refine gv_pureNC trivial 1 [22] [(22, undef)] (by kernel_rfl) ?_
    refine gv_sub [16, 22] (σ' := [(16, (.bool false)), (22, undef)]) (by kernel_rfl) ?_
    refine gv_nil <| gv_goA ?_
    refine gv_pre [18, 19] (bA 20 [0, 1, 2, 3, 4, 5, 6, 7, 8, 9, 10, 11, 12, 13, 14, 15, 16, 17, 18, 19]) 0 (by kernel_rfl) (by kernel_rfl) ?_
    refine gv_pureN 2 [4, 23] [(4, (.bool false))] (by kernel_rfl) ?_
    refine gv_nil <| gv_goA ?_
    refine gv_stageE (by kernel_rfl) ?_
    have e := sj h1; subst e
    refine gv_goal fun a hd hs hok => ?_
    have hg45 := (grown_trans hg3 hg18)
    have hB46 := bg hB0 hg45 nb
    have hz47 := hg16.size
    exact ⟨hB46, hz47, hd, hs, ok_pick [4] hok (by kernel_rfl)⟩
  ·skip
   replace h1 := ite_f hc21 h1
   refine gv_pureN 5 [10, 11, 12, 13, 14] [(14, (.bool false))] (by kernel_rfl) ?_
   refine gv_nil <| gv_goA ?_
   refine gv_pre [10, 11, 12, 14] (bA 20 [0, 1, 2, 3, 4, 5, 6, 7, 8, 9, 10, 11, 12, 14]) 6 (by kernel_rfl) (by kernel_rfl) ?_
   refine gv_pureN 2 [15, 16] [(16, (.bool (a_0.1 == false)))] (by kernel_rfl) ?_
   refine gv_split (s := 16) (g := (a_0.1 == false)) (by kernel_rfl) (fun hc48 => ?_) (fun hc48 => ?_)
   ·skip
    replace h1 := ite_t hc48 h1
    refine gv_pureN 2 [17, 19] [(17, (.pointer (some ⟨b1, 1, none⟩))), (19, (.pointer (some ⟨b7, 1, none⟩)))] (by kernel_rfl) ?_
    refine gv_nil <| gv_goA ?_
    refine gv_stage (Cls w15 []) [0, 1, 2, 3, 4, 5, 6, 7, 8, 9, 10, 11, 12, 13, 14, 15, 16] [(13, some true), (15, some true), (16, some false)] (bA 20 [0, 1, 2, 3, 4, 5, 6, 7, 8, 9, 10, 11, 12, 13, 14, 15, 16]) 3 (by kernel_rfl) (by kernel_rfl) (Cls.refl _ _) ?_
    have hC49 := Cls.refl w15 []
    refine gv_load (t := 22) (A := ⟨b1, 1, none⟩) (.slice pa0_0 (List.length a_0.2) pc0_0) [] (fun e => by cases e) rfl rfl rfl (by kernel_rfl) (by kernel_rfl) (by kernel_rfl) (inw1 fun w' hC' => ((hC'.box hk19 nm_nil).cell 1 rfl)) rfl ?_
    refine gv_load (t := 47) (A := ⟨b7, 1, none⟩) (.slice pa1_0 (List.length b_1.2) pc1_0) [] (fun e => by cases e) rfl rfl rfl (by kernel_rfl) (by kernel_rfl) (by kernel_rfl) (inw1 fun w' hC' => ((hC'.box hk20 nm_nil).cell 1 rfl)) rfl ?_
    refine bindE h1 ?_; clear h1; intro r50 hr51 h1
    have hg52 := (grown_trans hg3 hg18)
    have hB53 := bg hB0 hg52 nb
    refine gv_call (f := 34) (vs := [(.slice pa1_0 (List.length b_1.2) pc1_0)]) (cap := []) _ (by decide) rfl rfl rfl (by kernel_rfl) (by kernel_rfl) enters34 (ref3_Limbs_ok fuel pa1_0 pc1_0 b_1.2 w15 (fun k => X0 k) (fun k hk => (fun k (hk : X0 k) => ltl (hX0 k hk) hB53.size) k hk) ((hpa1_0.below hB53 hX0).wide (fun k hk => hk)) r50 hr51) ?_
    rintro v56 w54 ⟨hg55, a57, c58, rfl, ho59, hl60⟩
    refine ⟨(fun _ => hC49.grown hg55 nb), ?_⟩
    have hl61 : ∀ g, blk a57 = some g → w0.heap.size ≤ g := fun g e => Nat.le_trans hB53.size (hl60 g e)
    refine gv_nil <| gv_goA ?_
    refine gv_stage (fun _ => True) [0, 1, 2, 3, 4, 5, 6, 7, 8, 9, 10, 11, 12, 13, 14, 15, 16, 17] [(17, some false)] (bA 20 [0, 1, 2, 3, 4, 5, 6, 7, 8, 9, 10, 11, 12, 13, 14, 15, 16, 17]) 2 (by kernel_rfl) (by kernel_rfl) trivial ?_
    refine bindE h1 ?_; clear h1; intro r62 hr63 h1
    have hB64 := bg hB53 hg55 nb
    refine gv_call (f := 51) (vs := [(.slice pa0_0 (List.length a_0.2) pc0_0), (.slice a57 (List.length r50) c58)]) (cap := []) _ (by decide) rfl rfl rfl (by kernel_rfl) (by kernel_rfl) enters51 (ref3_SameLimbs_ok fuel pa0_0 pc0_0 a_0.2 a57 c58 r50 w54 (fun k => X0 k ∨ (fun k => blk a57 = some k) k) (fun k hk => (hk).elim (fun h => (fun k (hk : X0 k) => ltl (hX0 k hk) hB64.size) k h) (fun h => (fun k (hk : blk a57 = some k) => ho59.lt k hk) k h)) ((hpa0_0.below hB64 hX0).wide (fun k hk => (.inl hk))) ((ho59.rd (Y := fun k => blk a57 = some k) (fun _ h => h.elim) (fun g e => e)).wide (fun k hk => (.inr hk))) r62 hr63) ?_
    rintro v67 w65 ⟨hg66, rfl⟩
    refine ⟨(fun _ => trivial), ?_⟩
    refine gv_nil <| gv_goA ?_
    refine gv_pre [18, 19] (bA 20 [0, 1, 2, 3, 4, 5, 6, 7, 8, 9, 10, 11, 12, 13, 14, 15, 16, 17, 18, 19]) 0 (by kernel_rfl) (by kernel_rfl) ?_
    refine gv_pureN 2 [4, 23] [(4, (.bool r62))] (by kernel_rfl) ?_
    refine gv_sub [4] (σ' := [(4, (.bool r62))]) (by kernel_rfl) ?_
    refine gv_nil <| gv_goA ?_
    refine gv_stageE (by kernel_rfl) ?_
    have e := sj h1; subst e
    refine gv_goal fun a hd hs hok => ?_
    have hB68 := bg hB64 hg66 nb
    have hz69 := (nt (nt hg16.size hg55.size) hg66.size)
    exact ⟨hB68, hz69, hd, hs, ok_pick [4] hok (by kernel_rfl)⟩
   ·skip
    replace h1 := ite_f hc48 h1
    refine gv_pureN 2 [17, 19] [(17, undef), (19, undef)] (by kernel_rfl) ?_
    refine gv_nil <| gv_goA ?_
    refine gv_stage (Cls w15 []) [0, 1, 2, 3, 4, 5, 6, 7, 8, 9, 10, 11, 12, 13, 14, 15, 16] [(13, some true), (15, some true), (16, some false)] (bA 20 [0, 1, 2, 3, 4, 5, 6, 7, 8, 9, 10, 11, 12, 13, 14, 15, 16]) 3 (by kernel_rfl) (by kernel_rfl) (Cls.refl _ _) ?_
    have hC70 := Cls.refl w15 []
    refine gv_pureNC hC70 3 [18, 20, 21] [(18, undef), (21, undef)] (by kernel_rfl) ?_
    refine gv_nil <| gv_goA ?_
    refine gv_stage (fun _ => True) [0, 1, 2, 3, 4, 5, 6, 7, 8, 9, 10, 11, 12, 13, 14, 15, 16, 17] [(17, some false)] (bA 20 [0, 1, 2, 3, 4, 5, 6, 7, 8, 9, 10, 11, 12, 13, 14, 15, 16, 17]) 2 (by kernel_rfl) (by kernel_rfl) trivial ?_
    refine gv_pureNC trivial 1 [22] [(22, undef)] (by kernel_rfl) ?_
    refine gv_nil <| gv_goA ?_
    refine gv_pre [18, 19] (bA 20 [0, 1, 2, 3, 4, 5, 6, 7, 8, 9, 10, 11, 12, 13, 14, 15, 16, 17, 18, 19]) 0 (by kernel_rfl) (by kernel_rfl) ?_
    refine gv_pureN 2 [4, 23] [(4, (.bool false))] (by kernel_rfl) ?_
    refine gv_nil <| gv_goA ?_
    refine gv_stageE (by kernel_rfl) ?_
    have e := sj h1; subst e
    refine gv_goal fun a hd hs hok => ?_
    have hg71 := (grown_trans hg3 hg18)
    have hB72 := bg hB0 hg71 nb
    have hz73 := hg16.size
    exact ⟨hB72, hz73, hd, hs, ok_pick [4] hok (by kernel_rfl)⟩
 ·rintro a w14 ⟨hB74, hz75, hd, hs, hok⟩
  refine gv_in ?_ hd hs hok
  clear hd hs hok
  clear hz75 hz12 hbe11 hb10 hg9 hz6 hbe5 hb4 hg3
  refine gv_cret ?_
  have e := sj h0; subst e
  refine gv_ret (gv_done [(.bool j13)] rfl ⟨(by kernel_rfl), trivial⟩ ?_)
  exact ⟨grown_of_below hB74, rfl⟩

theorem ref3_Int_Minus_ok (fuel : Nat) (pa0_0 : Option Addr) (pc0_0 : Nat) (a_0 : (Bool × (List Int))) (w0 : World) (X0 : Nat → Prop) (hX0 : ∀ k, X0 k → k < w0.heap.size) (hpa0_0 : Rd (iE .i64) w0 X0 pa0_0 pc0_0 a_0.2) (r0 : (Bool × (List Int))) (h0 : ref3_Int_Minus fuel a_0 = some r0) :
    Calls Try.prog 24 ([(.agg #[(.bool a_0.1), (.slice pa0_0 (List.length a_0.2) pc0_0)])] : List Value).toArray w0 (Ret fun v w' => w0.grownBy w' none ∧ ∃ (a0_0r : Option Addr) (c0_0r : Nat), ∃ (X0_0r : Nat → Prop), v = tup [(.agg #[(.bool r0.1), (.slice a0_0r (List.length r0.2) c0_0r)])] ∧ Rd (iE .i64) w' X0_0r a0_0r c0_0r r0.2 ∧ (∀ k, X0_0r k → k < w'.heap.size ∧ (X0 k ∨ w0.heap.size ≤ k))) := by
 have hB0 : Below w0.heap.size w0 w0 := Below.refl _ _
 unfold ref3_Int_Minus at h0
 refine calls_run Try.func24 rfl Try.ntmps24 (by kernel_rfl) ?_
 refine gv_sub [0] (σ' := [(0, (.agg #[(.bool a_0.1), (.slice pa0_0 (List.length a_0.2) pc0_0)]))]) (by kernel_rfl) ?_
 refine gv_seq <| gv_region <| gv_new0 (fun b => .pointer (some ⟨b, 0, none⟩)) #[(.bool a_0.1), (.slice pa0_0 (List.length a_0.2) pc0_0)] 49 (by kernel_rfl) (by kernel_rfl) ?_
 intro b1 w2 hg3 hb4 hbe5 hz6
 refine gv_new0 (fun b => .pointer (some ⟨b, 0, none⟩)) #[(.bool false), (.slice none (List.length ([] : List Int)) 0)] 49 (by kernel_rfl) (by kernel_rfl) ?_
 intro b7 w8 hg9 hb10 hbe11 hz12
 refine gv_nil <| gv_seq <| gv_region <| bindE h0 ?_; clear h0; intro j13 h1 h0
 refine gv_cut_ops (J := fun a w14 => ∃ (abb7_0j : Option Addr) (cbb7_0j : Nat), Below w0.heap.size w0 w14 ∧ w8.heap.size ≤ w14.heap.size ∧ Rd (iE .i64) w0 X0 abb7_0j cbb7_0j j13.2 ∧ Box w14 b7 49 #[(.bool j13.1), (.slice abb7_0j (List.length j13.2) cbb7_0j)] ∧ a.defers = [] ∧ a.tmps.size = 15 ∧ Ok [(2, (bp b7))] a.tmps) ?_ ?_
 ·skip
  refine gv_pureN 1 [3] [(3, (bp b1))] (by kernel_rfl) ?_
  have hk15 := hb4.grown hg9 nb
  refine gv_load (t := 4) (A := ⟨b1, 0, none⟩) (.bool a_0.1) [] (fun e => by cases e) rfl rfl rfl (by kernel_rfl) (by kernel_rfl) (by kernel_rfl) (inw0 (hk15.cell 0 rfl)) rfl ?_
  refine gv_pureN 2 [5, 6] [(6, (.bool (!a_0.1)))] (by kernel_rfl) ?_
  refine gv_split (s := 6) (g := (!a_0.1)) (by kernel_rfl) (fun hc16 => ?_) (fun hc16 => ?_)
  ·skip
   replace h1 := ite_t hc16 h1
   refine gv_pureN 1 [7] [(7, (.pointer (some ⟨b1, 1, none⟩)))] (by kernel_rfl) ?_
   refine gv_load (t := 47) (A := ⟨b1, 1, none⟩) (.slice pa0_0 (List.length a_0.2) pc0_0) [] (fun e => by cases e) rfl rfl rfl (by kernel_rfl) (by kernel_rfl) (by kernel_rfl) (inw0 (hk15.cell 1 rfl)) rfl ?_
   refine gv_pureN 4 [9, 10, 11, 12] [(11, (.bool (decide (((List.length a_0.2 : Nat) : Int) > 0)))), (12, (.pointer (some ⟨b1, 1, none⟩)))] (by kernel_rfl) ?_
   refine gv_load (t := 47) (A := ⟨b1, 1, none⟩) (.slice pa0_0 (List.length a_0.2) pc0_0) [] (fun e => by cases e) rfl rfl rfl (by kernel_rfl) (by kernel_rfl) (by kernel_rfl) (inw0 (hk15.cell 1 rfl)) rfl ?_
   refine gv_pureN 1 [14] [(14, (.agg #[(.bool (decide (((List.length a_0.2 : Nat) : Int) > 0))), (.slice pa0_0 (List.length a_0.2) pc0_0)]))] (by kernel_rfl) ?_
   refine gv_store0 49 0 (.agg #[(.bool (decide (((List.length a_0.2 : Nat) : Int) > 0))), (.slice pa0_0 (List.length a_0.2) pc0_0)]) #[(.bool (decide (((List.length a_0.2 : Nat) : Int) > 0))), (.slice pa0_0 (List.length a_0.2) pc0_0)] hb10 (by kernel_rfl) (by kernel_rfl) (by kernel_rfl) ?_
   intro w17 hg18 hb19 hz20
   refine gv_nil ?_
   have e := sj h1; subst e
   refine gv_goal fun a hd hs hok => ?_
   have hg21 := (grown_trans hg3 hg9)
   have hB22 := bg hB0 hg21 nb
   have hB23 := bg hB0 hg3 nb
   have hlo24 : w0.heap.size ≤ b7 := lob hbe11 hB23.size
   have hB25 := bg hB22 hg18 (rowlo hlo24)
   have hz26 := hg18.size
   exact ⟨pa0_0, pc0_0, hB25, hz26, hpa0_0, hb19, hd, hs, ok_pick [2] hok (by kernel_rfl)⟩
  ·skip
   replace h1 := ite_f hc16 h1
   refine gv_pureN 6 [7, 8, 9, 10, 11, 12] [(11, (.bool false)), (12, (.pointer (some ⟨b1, 1, none⟩)))] (by kernel_rfl) ?_
   refine gv_load (t := 47) (A := ⟨b1, 1, none⟩) (.slice pa0_0 (List.length a_0.2) pc0_0) [] (fun e => by cases e) rfl rfl rfl (by kernel_rfl) (by kernel_rfl) (by kernel_rfl) (inw0 (hk15.cell 1 rfl)) rfl ?_
   refine gv_pureN 1 [14] [(14, (.agg #[(.bool false), (.slice pa0_0 (List.length a_0.2) pc0_0)]))] (by kernel_rfl) ?_
   refine gv_store0 49 0 (.agg #[(.bool false), (.slice pa0_0 (List.length a_0.2) pc0_0)]) #[(.bool false), (.slice pa0_0 (List.length a_0.2) pc0_0)] hb10 (by kernel_rfl) (by kernel_rfl) (by kernel_rfl) ?_
   intro w27 hg28 hb29 hz30
   refine gv_nil ?_
   have e := sj h1; subst e
   refine gv_goal fun a hd hs hok => ?_
   have hg31 := (grown_trans hg3 hg9)
   have hB32 := bg hB0 hg31 nb
   have hB33 := bg hB0 hg3 nb
   have hlo34 : w0.heap.size ≤ b7 := lob hbe11 hB33.size
   have hB35 := bg hB32 hg28 (rowlo hlo34)
   have hz36 := hg28.size
   exact ⟨pa0_0, pc0_0, hB35, hz36, hpa0_0, hb29, hd, hs, ok_pick [2] hok (by kernel_rfl)⟩
 ·rintro a w14 ⟨a39, c40, hB37, hz38, hp41, hb42, hd, hs, hok⟩
  refine gv_in ?_ hd hs hok
  clear hd hs hok
  clear hz38 hz12 hb10 hg9 hz6 hbe5 hb4
  refine gv_cret ?_
  have e := sj h0; subst e
  refine gv_ret (gv_done [(.agg #[(.bool j13.1), (.slice a39 (List.length j13.2) c40)])] rfl ⟨⟨⟨b7, 0, none⟩, (by kernel_rfl), run_loadVar_row w14 b7 _ 49 _ _ _ hb42 Try.underlying49 rfl (by kernel_rfl)⟩, trivial⟩ ?_)
  exact ⟨grown_of_below hB37, a39, c40, X0, rfl, (hp41.below hB37 hX0), (fun k hk => ⟨(fun k (hk : X0 k) => ltl (hX0 k hk) hB37.size) k hk, (fun k (hk : X0 k) => Or.inl hk) k hk⟩)⟩

theorem ref3_Int_Fits_ok (fuel : Nat) (pa0_0 : Option Addr) (pc0_0 : Nat) (a_0 : (Bool × (List Int))) (limbs_1 : Int) (w0 : World) (X0 : Nat → Prop) (hX0 : ∀ k, X0 k → k < w0.heap.size) (hpa0_0 : Rd (iE .i64) w0 X0 pa0_0 pc0_0 a_0.2) (r0 : Bool) (h0 : ref3_Int_Fits fuel a_0 limbs_1 = some r0) :
    Calls Try.prog 26 ([(.agg #[(.bool a_0.1), (.slice pa0_0 (List.length a_0.2) pc0_0)]), (.int .i64 limbs_1)] : List Value).toArray w0 (Ret fun v w' => w0.grownBy w' none ∧ v = tup [(.bool r0)]) := by
 have hB0 : Below w0.heap.size w0 w0 := Below.refl _ _
 unfold ref3_Int_Fits at h0
 refine calls_run Try.func26 rfl Try.ntmps26 (by kernel_rfl) ?_
 refine gv_sub [0, 1] (σ' := [(0, (.agg #[(.bool a_0.1), (.slice pa0_0 (List.length a_0.2) pc0_0)])), (1, (.int .i64 limbs_1))]) (by kernel_rfl) ?_
 refine gv_seq <| gv_region <| gv_new0 (fun b => .pointer (some ⟨b, 0, none⟩)) #[(.bool a_0.1), (.slice pa0_0 (List.length a_0.2) pc0_0)] 49 (by kernel_rfl) (by kernel_rfl) ?_
 intro b1 w2 hg3 hb4 hbe5 hz6
 refine gv_pureN 1 [4] [] (by kernel_rfl) ?_
 refine gv_nil <| gv_seq <| gv_region <| gv_pureN 1 [5] [(5, (.pointer (some ⟨b1, 1, none⟩)))] (by kernel_rfl) ?_
 refine gv_load (t := 47) (A := ⟨b1, 1, none⟩) (.slice pa0_0 (List.length a_0.2) pc0_0) [] (fun e => by cases e) rfl rfl rfl (by kernel_rfl) (by kernel_rfl) (by kernel_rfl) (inw0 (hb4.cell 1 rfl)) rfl ?_
 refine gv_pureN 5 [4, 7, 8, 9, 10] [(4, (.bool (decide (((List.length a_0.2 : Nat) : Int) ≤ (IntKind.i64.wrap (2 * limbs_1))))))] (by kernel_rfl) ?_
 refine bindE h0 ?_; clear h0; intro n7 hn8 h0
 refine gv_name (s := 4) (v := (.bool (decide (((List.length a_0.2 : Nat) : Int) ≤ (IntKind.i64.wrap (2 * limbs_1)))))) (v' := (.bool n7)) (by kernel_rfl) (congrArg (Value.bool) (sj hn8)) ?_
 refine gv_nil <| gv_cret ?_
 have e := sj h0; subst e
 refine gv_ret (gv_done [(.bool n7)] rfl ⟨(by kernel_rfl), trivial⟩ ?_)
 have hB9 := bg hB0 hg3 nb
 exact ⟨grown_of_below hB9, rfl⟩

end Go.Proofs.Ytenjigdaaeiklaa
